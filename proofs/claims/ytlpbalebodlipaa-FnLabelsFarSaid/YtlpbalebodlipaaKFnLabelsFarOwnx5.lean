/- For every list of bytes, the law FnLabelsFar answers true: for the tree that it draws, TreeQuad of the program answers what the reference answers, and the labels of a valid tree's corners are the distances from the point, one more than above the least. There are no conditions. -/
import Derived.Test.YtlpbalebodlipaaKFnLabelsFarOwnx4
namespace Go.Proofs.Ytlpbalebodlipaa.PK
open Go.RowKit Go.Proofs.YtlpbalebodlipaaW.PrintWords Go.Proofs.YtlpbalebodlipaaW.PrintLast Go.Proofs.YtlpbalebodlipaaW.PrintMore
attribute [local go_sem] max2_int min2_int max_two min_two max_three min_three max_four min_four   -- for this text's walks alone
set_option linter.unusedVariables false
set_option linter.unusedSimpArgs false
def spec_l92Tree.l0 : Nat → Int → Int → List Int → Int → ByteArray → List Int → Option (ByteArray × List Int × Int)
 | 0, _, _, _, _, _, _ => none
 | k + 1, x5, x7, x1000, x1001, xZ0, xZ1 => if (xZ0.size : Int) < (wrap64 (2 * x5)) then (if x7 > 0 then (if (xZ1.length : Int) = x5 then (if xZ0.size + 1 ≤ 9223372036854775807 then (spec_l92Tree.l0 k x5 (wrap64 (x7 - 1)) x1000 x1001 (xZ0 ++ (⟨#[41]⟩ : ByteArray)) xZ1) else (none)) else ((spec_l6Rd_pick.f k x1000 x1001 2).bind fun bt343 => (if bt343.1 = 0 then (if xZ0.size + 1 ≤ 9223372036854775807 then (spec_l92Tree.l0 k x5 (wrap64 (x7 - 1)) x1000 bt343.2 (xZ0 ++ (⟨#[41]⟩ : ByteArray)) xZ1) else (none)) else (if xZ0.size + 1 ≤ 9223372036854775807 then ((spec_l6Rd_pick.f k x1000 bt343.2 3).bind fun bt345 => (if xZ1.length < 17592186044416 then (spec_l92Tree.l0 k x5 (wrap64 (x7 + 1)) x1000 bt345.2 (xZ0 ++ (⟨#[40]⟩ : ByteArray)) (xZ1 ++ [wrap64 (bt345.1 - 1)])) else (none))) else (none))))) else (if xZ0.size + 1 ≤ 9223372036854775807 then ((spec_l6Rd_pick.f k x1000 x1001 3).bind fun bt350 => (if xZ1.length < 17592186044416 then (spec_l92Tree.l0 k x5 (wrap64 (x7 + 1)) x1000 bt350.2 (xZ0 ++ (⟨#[40]⟩ : ByteArray)) (xZ1 ++ [wrap64 (bt350.1 - 1)])) else (none))) else (none))) else ((spec_l6Rd_pick.f k x1000 x1001 40).bind fun bt355 => (if bt355.1 = 0 then ((spec_l6Rd_of.f k x1000 bt355.2 (([(⟨#[40]⟩ : ByteArray), (⟨#[41]⟩ : ByteArray), (⟨#[120]⟩ : ByteArray), (⟨#[40, 41]⟩ : ByteArray)] : List ByteArray))).bind fun bt360 => (if xZ0.size + bt360.1.size ≤ 9223372036854775807 then (some (xZ0 ++ bt360.1, xZ1, bt360.2)) else (none))) else (if bt355.1 = 1 then ((some (([(-2), 2] : List Int) : List Int)).bind fun y362 => ((spec_l6Rd_pick.f k x1000 bt355.2 2).bind fun bt365 => (if 0 ≤ bt365.1 then (if bt365.1 < (y362.length : Int) then (if 0 < (xZ1.length : Int) then (some (xZ0, (xZ1.set (0 : Int).toNat (rd y362 bt365.1)), bt365.2)) else (none)) else (none)) else (none)))) else (if bt355.1 = 2 then (if 1 ≤ (xZ1.length : Int) then (some (xZ0, (xZ1.drop (1 : Int).toNat), bt355.2)) else (none)) else (some (xZ0, xZ1, bt355.2))))))
def spec_l92Tree.f (k : Nat) (s0_0 : List Int) (s0_1 : Int) (a1 : Int) : Option (ByteArray × List Int × Int) := (spec_l6Rd_pick.f k s0_0 s0_1 a1).bind fun bt337 => (spec_l92Tree.l0 k (wrap64 (1 + bt337.1)) 0 s0_0 bt337.2 (⟨#[]⟩ : ByteArray) (([] : List Int)))
theorem spec_l92Tree.mono_l : ∀ k, (∀ y0 y1 y2 y3 y4 y5, LeO (spec_l92Tree.l0 k y0 y1 y2 y3 y4 y5) (spec_l92Tree.l0 (k + 1) y0 y1 y2 y3 y4 y5))
 | 0 => fun _ _ _ _ _ _ r h => by simp [spec_l92Tree.l0] at h
 | k + 1 => by
  have ih0 := spec_l92Tree.mono_l k
  ·
   intro y0 y1 y2 y3 y4 y5
   unfold spec_l92Tree.l0
   repeat' first
   | (with_reducible exact ih0 _ _ _ _ _ _)
   | (with_reducible exact spec_l6Rd_of.mono _ _ _ _)
   | (with_reducible exact spec_l6Rd_pick.mono _ _ _ _)
   | (with_reducible exact LeO.refl _)
   | (with_reducible exact LeO.none _)
   | (with_reducible refine LeO.ite ?_ ?_)
   | (with_reducible refine LeO.bind ?_ (fun _ => ?_))
   | exact ih0 _ _ _ _ _ _
   | exact spec_l6Rd_of.mono _ _ _ _
   | exact spec_l6Rd_pick.mono _ _ _ _
   | exact LeO.none _
   | refine LeO.ite ?_ ?_
   | refine LeO.bind ?_ (fun _ => ?_)
theorem spec_l92Tree.mono : ∀ a0 a1 a2 k, LeO (spec_l92Tree.f k a0 a1 a2) (spec_l92Tree.f (k + 1) a0 a1 a2) := by
 intro a0 a1 a2 k
 have ih0 := spec_l92Tree.mono_l k
 unfold spec_l92Tree.f
 repeat' first
   | (with_reducible exact ih0 _ _ _ _ _ _)
   | (with_reducible exact spec_l6Rd_of.mono _ _ _ _)
   | (with_reducible exact spec_l6Rd_pick.mono _ _ _ _)
   | (with_reducible exact LeO.refl _)
   | (with_reducible exact LeO.none _)
   | (with_reducible refine LeO.ite ?_ ?_)
   | (with_reducible refine LeO.bind ?_ (fun _ => ?_))
   | exact ih0 _ _ _ _ _ _
   | exact spec_l6Rd_of.mono _ _ _ _
   | exact spec_l6Rd_pick.mono _ _ _ _
   | exact LeO.none _
   | refine LeO.ite ?_ ?_
   | refine LeO.bind ?_ (fun _ => ?_)
def spec_l92Tree.T9 : Bool × List (List Nat × List Nat) := (true, [([], []), ([0], [0]), ([], []), ([2], [2]), ([3], [3]), ([4], [4]), ([1, 5, 3], [1, 5]), ([0, 1, 2, 3, 4, 5, 6], []), ([7, 6, 6, 0, 1, 2, 3, 4, 5, 6], [6, 7])])
def spec_l92Tree.B9 : List Nat := [0, 1, 0, 4, 12, 28, 63, 127, 255]
theorem spec_l92Tree.tab9 : rtab .any (opsOf Try.f61 9) = spec_l92Tree.T9 := by kernel_rfl
theorem spec_l92Tree.bits9 : waitsOk spec_l92Tree.T9.2 spec_l92Tree.B9 = true := by kernel_rfl
def spec_l92Tree.T13 : Bool × List (List Nat × List Nat) := (true, [([], []), ([0], [0]), ([], []), ([], []), ([2, 3], [2, 3]), ([1, 4], [1, 4]), ([0, 1, 2, 3, 4, 5], []), ([6, 5, 4, 0, 1, 2, 3, 4, 5], [5, 6])])
def spec_l92Tree.B13 : List Nat := [0, 1, 0, 0, 12, 31, 63, 127]
theorem spec_l92Tree.tab13 : rtab .any (opsOf Try.f61 13) = spec_l92Tree.T13 := by kernel_rfl
theorem spec_l92Tree.bits13 : waitsOk spec_l92Tree.T13.2 spec_l92Tree.B13 = true := by kernel_rfl
def spec_l92Tree.T15 : Bool × List (List Nat × List Nat) := (true, [([], []), ([0], [0]), ([], []), ([], []), ([3], [3]), ([2, 4], [2, 4]), ([5], [5]), ([1, 0, 1, 2, 3, 4, 5, 6], [1]), ([7, 6, 4, 0, 1, 2, 3, 4, 5, 6], [6, 7])])
def spec_l92Tree.B15 : List Nat := [0, 1, 0, 0, 8, 28, 60, 127, 255]
theorem spec_l92Tree.tab15 : rtab .any (opsOf Try.f61 15) = spec_l92Tree.T15 := by kernel_rfl
theorem spec_l92Tree.bits15 : waitsOk spec_l92Tree.T15.2 spec_l92Tree.B15 = true := by kernel_rfl
set_option maxHeartbeats 8000000 in
set_option maxRecDepth 100000 in
theorem spec_l92Tree.calls (k : Nat) (g : Nat) (s0_0 : List Int) (s0_1 : Int) (a1 : Int) (r1 : ByteArray) (r2 : List Int) (r3 : Int) (w0 w : World) (hI : IsS104 w0 w g s0_0 s0_1) (hB : Below w0.heap.size w0 w) (h : spec_l92Tree.f k s0_0 s0_1 a1 = some (r1, r2, r3)) :
  Calls Try.prog 61 #[.pointer (some ⟨g, 0, none⟩), .int .i64 a1] w fun e w' => ∃ v1_ : Value, e = .returned (.agg #[.string r1, v1_]) ∧ Kd.Q (Kd.int .i64) 3 w' w.heap.size (fun _ => True) v1_ r2 ∧ IsS104 w0 w' g s0_0 r3 ∧ Below w0.heap.size w0 w' ∧ KeepBut w w' g none := by
 have hu25 := Try.underlying25; have HI0 := Az hI; have HK := Az (KeepBut.refl w g none); have HL := Az hB.size; clear hI; have HW0 := Az hB.size; have HB := Az hB; clear hB; have H : ((spec_l6Rd_pick.f k s0_0 s0_1 a1).bind fun bt337 => (spec_l92Tree.l0 k (wrap64 (1 + bt337.1)) 0 s0_0 bt337.2 (⟨#[]⟩ : ByteArray) (([] : List Int)))) = some (r1, r2, r3) := h; clear h; replace H := Option.bind_eq_some_iff.mp H; obtain ⟨⟨t337, t338⟩, A30, H⟩ := H; replace H : (spec_l92Tree.l0 k (wrap64 (1 + t337)) 0 s0_0 t338 (⟨#[]⟩ : ByteArray) (([] : List Int))) = some (r1, r2, r3) := H; have A3 := Az A30; clear A30; obtain ⟨y339, hy339⟩ : ∃ y_ : List Int, y_ = (([] : List Int)) := ⟨_, rfl⟩; replace H : (spec_l92Tree.l0 k (wrap64 (1 + t337)) 0 s0_0 t338 (⟨#[]⟩ : ByteArray) y339) = some (r1, r2, r3) := hR hy339 H; have Ny339 := Az hy339; clear hy339; have H' := Az H; clear H
 go_enter Try.func61, Try.ntmps61
 go_wp2_with (first | ((with_reducible refine gate_dst (N := 4) rfl ?_); (try (refine gate_guard (by rfl) ?_; dsimp only)); refine box_event ?hg (N := 4) ?hd (cs := #[.string (⟨#[]⟩ : ByteArray), .slice none 0 0]) (t := 25) ?hr ?_; (case hd => rfl); (case hg => rfl); (case hr => first | (go_simp; done) | (go_simp; rfl)); intro gb336 hg w4 hbox hb; have n0 := Az (IsS104.below (by repeat (first | (with_reducible first | exact HI0.out | apply IsS104.alloc | apply IsS104.drewN | apply IsS104.drew | apply IsS104.set_1) | exact HI0.out)) hb); have n1 := Az (KeepBut.trans (by repeat (first | (with_reducible first | exact HK.out | apply KeepBut.set_ | apply keep_drewN | apply keep_drew | apply keep_alloc) | exact HK.out)) (KeepBut.of_below hb g none) (.inl rfl)); have n2 := Az (below_step (by repeat (first | (with_reducible first | exact HB.out | apply below_alloc | apply pw_below_drewN | apply below_drew1 | refine below_set ?_ (IsS104.ge HI0.out)) | exact HB.out)) hb); have n3 := Az (hbox); have n4 := Az ((by rw [hg]; exact (keep_size (w := w) (g := g) (row := none) (by repeat (first | (with_reducible first | exact HK.out | apply KeepBut.set_ | apply keep_drewN | apply keep_drew | apply keep_alloc) | exact HK.out))) : w.heap.size ≤ gb336)); have n5 := Az ((Nat.le_trans HW0.out (by rw [hg]; exact (keep_size (w := w) (g := g) (row := none) (by repeat (first | (with_reducible first | exact HK.out | apply KeepBut.set_ | apply keep_drewN | apply keep_drew | apply keep_alloc) | exact HK.out))) : w.heap.size ≤ gb336) : w0.heap.size ≤ gb336)); have n6 := Az ((by rw [hg]; exact Nat.ne_of_lt (IsS104.lt (show IsS104 w0 _ g s0_0 s0_1 from by repeat (first | (with_reducible first | exact HI0.out | apply IsS104.alloc | apply IsS104.drewN | apply IsS104.drew | apply IsS104.set_1) | exact HI0.out))) : g ≠ gb336)); have n7 := Az ((by rw [hg]; exact Nat.ne_of_gt (IsS104.lt (show IsS104 w0 _ g s0_0 s0_1 from by repeat (first | (with_reducible first | exact HI0.out | apply IsS104.alloc | apply IsS104.drewN | apply IsS104.drew | apply IsS104.set_1) | exact HI0.out))) : gb336 ≠ g)); clear HI0 HK HB; have HI0 := n0; have HK := n1; have HB := n2; have BK336 := n3; have GW336 := n4; have GE336 := n5; have NB0_336 := n6; have NB336_0 := n7; clear n0 n1 n2 n3 n4 n5 n6 n7; clear hb hbox hg) | ((with_reducible refine gate_callee (f := 79) rfl ?_); refine goesL_ (some 10) rfl rfl Try.func79 (by kernel_rfl) rfl #[.pointer (some ⟨g, 0, none⟩), .int .i64 a1] rfl (by (try simp only [List.map_toArray, List.map_cons, List.map_nil]); first | done | rfl | (simp only [List.length_drop, List.length_take]; rfl)) ?_; (with_reducible refine (spec_l6Rd_pick.calls k g s0_0 s0_1 a1 t337 t338 w0 _ ?side1 ?side2 A3.out).mono ?_); (case side1 => repeat (first | (with_reducible first | exact HI0.out | apply IsS104.alloc | apply IsS104.drewN | apply IsS104.drew | apply IsS104.set_1 | refine IsS104.far ?_ NB0_336.out _) | exact HI0.out)); (case side2 => repeat (first | (with_reducible first | exact HB.out | apply below_alloc | apply pw_below_drewN | apply below_drew1 | refine below_set ?_ (IsS104.ge HI0.out) | refine below_set ?_ GE336.out) | exact HB.out)); rintro e w5 ⟨rfl, hi, hb, hk⟩; refine ⟨_, rfl, ?_⟩; have n0 := Az (KeepBut.blk hk (g' := gb336) (o := .cells #[.string (⟨#[]⟩ : ByteArray), .slice none 0 0] 25 (0, 0)) (kU BK336.out) NB336_0.out (by simp)); have n1 := Az (KeepBut.trans (by repeat (first | (with_reducible first | exact HK.out | apply KeepBut.set_ | apply keep_drewN | apply keep_drew | apply keep_alloc | refine keep_far ?_ GW336.out _) | exact HK.out)) hk (.inl rfl)); have n2 := Az (hb); have n3 := Az (hi); clear BK336 HK HB HI0; have BK336 := n0; have HK := n1; have HB := n2; have HI0 := n3; clear n0 n1 n2 n3; (try clear hb); (try clear hb2); (try clear hk); (try clear hi)) | ((with_reducible refine gate_dst (N := 12) rfl ?_); (try (refine gate_guard (by rfl) ?_; dsimp only)); refine Kd.R_lit (Kd.int .i64) _ 3 ?hg (N := 12) ?hd (xs := ([] : List Int)) (inner := []) (ok := fun _ => True) (okp := fun _ => True) ?hr ?hp (fun _ hk => hk) trivial (Below.refl _ _) (Nat.le_refl _) (by simp) ?_; (case hd => rfl); (case hg => rfl); (case hr => first | (go_simp; done) | (go_simp; rfl)); (case hp => exact (Reps.none _ _)); intro v340 w6 ho7 hb hg_ hnew_; clear hg_ hnew_; (first | rw [← Ny339.out] at ho7 | (simp only [Int.reduceToNat] at ho7; rw [← Ny339.out] at ho7)); have n0 := Az (Kd.R_lower ho7 (keep_size (w := w) (g := g) (row := none) (by repeat (first | (with_reducible first | exact HK.out | apply KeepBut.set_ | apply keep_drewN | apply keep_drew | apply keep_alloc | refine keep_far ?_ GW336.out _) | exact HK.out)))); have n1 := Az (IsS104.below (by repeat (first | (with_reducible first | exact HI0.out | apply IsS104.alloc | apply IsS104.drewN | apply IsS104.drew | apply IsS104.set_1 | refine IsS104.far ?_ NB0_336.out _) | exact HI0.out)) hb); have n2 := Az (blk_below (g := gb336) (o := .cells #[.string (⟨#[]⟩ : ByteArray), .slice none 0 0] 25 (0, 0)) (kU BK336.out) hb); have n3 := Az (KeepBut.trans (by repeat (first | (with_reducible first | exact HK.out | apply KeepBut.set_ | apply keep_drewN | apply keep_drew | apply keep_alloc | refine keep_far ?_ GW336.out _) | exact HK.out)) (KeepBut.of_below hb g none) (.inl rfl)); have n4 := Az (below_step (by repeat (first | (with_reducible first | exact HB.out | apply below_alloc | apply pw_below_drewN | apply below_drew1 | refine below_set ?_ (IsS104.ge HI0.out) | refine below_set ?_ GE336.out) | exact HB.out)) hb); clear HI0 BK336 HK HB; have HO341 := n0; have HI0 := n1; have BK336 := n2; have HK := n3; have HB := n4; clear n0 n1 n2 n3 n4 hb ho7; obtain ⟨Ao8, co8, eo8⟩ := Kd.R_slice HO341.out; subst eo8) | ((with_reducible refine gate_dst (N := 6) rfl ?_); (try (refine gate_guard (by rfl) ?_; dsimp only)); refine box_event ?hg (N := 6) ?hd (cs := #[.string (⟨#[]⟩ : ByteArray), .slice none 0 0]) (t := 25) ?hr ?_; (case hd => rfl); (case hg => rfl); (case hr => first | (go_simp; done) | (go_simp; rfl)); intro gb342 hg w9 hbox hb; have n0 := Az (Kd.R_below (rU HO341.out) hb); have n1 := Az (IsS104.below (by repeat (first | (with_reducible first | exact HI0.out | apply IsS104.alloc | apply IsS104.drewN | apply IsS104.drew | apply IsS104.set_1 | refine IsS104.far ?_ NB0_336.out _) | exact HI0.out)) hb); have n2 := Az (blk_below (g := gb336) (o := .cells #[.string (⟨#[]⟩ : ByteArray), .slice none 0 0] 25 (0, 0)) (kU BK336.out) hb); have n3 := Az (KeepBut.trans (by repeat (first | (with_reducible first | exact HK.out | apply KeepBut.set_ | apply keep_drewN | apply keep_drew | apply keep_alloc | refine keep_far ?_ GW336.out _) | exact HK.out)) (KeepBut.of_below hb g none) (.inl rfl)); have n4 := Az (below_step (by repeat (first | (with_reducible first | exact HB.out | apply below_alloc | apply pw_below_drewN | apply below_drew1 | refine below_set ?_ (IsS104.ge HI0.out) | refine below_set ?_ GE336.out) | exact HB.out)) hb); have n5 := Az (hbox); have n6 := Az ((by rw [hg]; exact (keep_size (w := w) (g := g) (row := none) (by repeat (first | (with_reducible first | exact HK.out | apply KeepBut.set_ | apply keep_drewN | apply keep_drew | apply keep_alloc | refine keep_far ?_ GW336.out _) | exact HK.out))) : w.heap.size ≤ gb342)); have n7 := Az ((Nat.le_trans HW0.out (by rw [hg]; exact (keep_size (w := w) (g := g) (row := none) (by repeat (first | (with_reducible first | exact HK.out | apply KeepBut.set_ | apply keep_drewN | apply keep_drew | apply keep_alloc | refine keep_far ?_ GW336.out _) | exact HK.out))) : w.heap.size ≤ gb342) : w0.heap.size ≤ gb342)); have n8 := Az ((by rw [hg]; exact Nat.ne_of_lt (blk_lt (g := gb336) (o := .cells #[.string (⟨#[]⟩ : ByteArray), .slice none 0 0] 25 (0, 0)) (kU BK336.out)) : gb336 ≠ gb342)); have n9 := Az ((by rw [hg]; exact Nat.ne_of_gt (blk_lt (g := gb336) (o := .cells #[.string (⟨#[]⟩ : ByteArray), .slice none 0 0] 25 (0, 0)) (kU BK336.out)) : gb342 ≠ gb336)); have n10 := Az ((by rw [hg]; exact Nat.ne_of_lt (IsS104.lt (show IsS104 w0 _ g s0_0 t338 from by repeat (first | (with_reducible first | exact HI0.out | apply IsS104.alloc | apply IsS104.drewN | apply IsS104.drew | apply IsS104.set_1 | refine IsS104.far ?_ NB0_336.out _) | exact HI0.out))) : g ≠ gb342)); have n11 := Az ((by rw [hg]; exact Nat.ne_of_gt (IsS104.lt (show IsS104 w0 _ g s0_0 t338 from by repeat (first | (with_reducible first | exact HI0.out | apply IsS104.alloc | apply IsS104.drewN | apply IsS104.drew | apply IsS104.set_1 | refine IsS104.far ?_ NB0_336.out _) | exact HI0.out))) : gb342 ≠ g)); clear HO341 HI0 BK336 HK HB; have HO341 := n0; have HI0 := n1; have BK336 := n2; have HK := n3; have HB := n4; have BK342 := n5; have GW342 := n6; have GE342 := n7; have NB336_342 := n8; have NB342_336 := n9; have NB0_342 := n10; have NB342_0 := n11; clear n0 n1 n2 n3 n4 n5 n6 n7 n8 n9 n10 n11 hb hbox hg; have hnb10 := NB342_336.out; have hnc10 := NB336_342.out; have hnb11 := NB342_0.out; have hnc11 := NB0_342.out; have hcz12_0 : w9.cell? ⟨gb342, 0, none⟩ = some (.string (⟨#[]⟩ : ByteArray)) := (blk_cell BK342.out 0).trans rfl; have hcz12_1 : w9.cell? ⟨gb342, 1, none⟩ = some (.slice none 0 0) := (blk_cell BK342.out 1).trans rfl; have hfz12_0 := blk_frozen BK342.out 0; have hfz12_1 := blk_frozen BK342.out 1))
 go_loopg [7] k (fun kq v7 w' => ∃ (x7_1 : Int) (x1001_1 : Int) (xZ0_1 : ByteArray) (xZ1_1 : List Int) (uZ1 : Value), v7 = .int .i64 x7_1 ∧ Aside0 (spec_l92Tree.l0 kq (wrap64 (1 + t337)) x7_1 s0_0 x1001_1 xZ0_1 xZ1_1 = some (r1, r2, r3)) ∧ Aside0 (kq ≤ k) ∧ Aside0 (Kd.Q (Kd.int .i64) 3 w' w.heap.size (fun _ => True) uZ1 xZ1_1) ∧ Aside0 (w'.heap[gb336]? = some (.cells #[.string (⟨#[]⟩ : ByteArray), (.slice none 0 0)] 25 (0, 0))) ∧ Aside0 (w'.heap[gb342]? = some (.cells #[.string xZ0_1, uZ1] 25 (0, 0))) ∧ Aside0 (IsS104 w0 w' g s0_0 x1001_1) ∧ Aside0 (KeepBut w w' g none) ∧ Aside0 (Below w0.heap.size w0 w'))
 case atStart => exact ⟨(0), (t338), ((⟨#[]⟩ : ByteArray)), (y339), (.slice Ao8 y339.length co8), rS, H', ⟨Nat.le_refl _⟩, ⟨Kd.Q_of_R (by (with_reducible repeat (first | apply Kd.R_alloc | apply Kd.R_drewN | apply Kd.R_drew)); exact Kd.R_mono (Kd.R_far (p := ⟨gb342, 1, none⟩) (Kd.R_far (p := ⟨gb342, 0, none⟩) (Kd.R_types HO341.out BK342.out (by decide)) (fun _ hk => hk.2) (.string (⟨#[]⟩ : ByteArray))) (fun _ hk => hk.2) (.slice Ao8 y339.length co8)) (fun _ hk => trivial))⟩, ⟨by (with_reducible repeat (first | refine blk_drewN ?_ _ | refine blk_drew ?_ | refine blk_alloc ?_ _)); refine blk_far ?_ NB336_342.out _; (with_reducible repeat (first | refine blk_drewN ?_ _ | refine blk_drew ?_ | refine blk_alloc ?_ _)); refine blk_far ?_ NB336_342.out _; (with_reducible repeat (first | refine blk_drewN ?_ _ | refine blk_drew ?_ | refine blk_alloc ?_ _)); exact BK336.out⟩, ⟨by (with_reducible repeat (first | refine blk_drewN ?_ _ | refine blk_drew ?_ | refine blk_alloc ?_ _)); refine blk_put (cs := #[.string (⟨#[]⟩ : ByteArray), .slice none 0 0]) ?_ 1 _ rfl; (with_reducible repeat (first | refine blk_drewN ?_ _ | refine blk_drew ?_ | refine blk_alloc ?_ _)); refine blk_put (cs := #[.string (⟨#[]⟩ : ByteArray), .slice none 0 0]) ?_ 0 _ rfl; (with_reducible repeat (first | refine blk_drewN ?_ _ | refine blk_drew ?_ | refine blk_alloc ?_ _)); exact BK342.out⟩, ⟨by repeat (first | (with_reducible first | exact HI0.out | apply IsS104.alloc | apply IsS104.drewN | apply IsS104.drew | apply IsS104.set_1 | refine IsS104.far ?_ NB0_336.out _ | refine IsS104.far ?_ NB0_342.out _) | exact HI0.out)⟩, ⟨by repeat (first | (with_reducible first | exact HK.out | apply KeepBut.set_ | apply keep_drewN | apply keep_drew | apply keep_alloc | refine keep_far ?_ GW336.out _ | refine keep_far ?_ GW342.out _) | exact HK.out)⟩, ⟨by repeat (first | (with_reducible first | exact HB.out | apply below_alloc | apply pw_below_drewN | apply below_drew1 | refine below_set ?_ (IsS104.ge HI0.out) | refine below_set ?_ GE336.out | refine below_set ?_ GE342.out) | exact HB.out)⟩⟩
 case round =>
  clear H'; (try clear c1); (try clear p2); (try clear c6); (try clear p6); (try clear c7); (try clear c10); (try clear c11); (try clear hcz12_0); (try clear hcz12_1); (try clear hfz12_0); (try clear hfz12_1); obtain ⟨x7_1, x1001_1, xZ0_1, xZ1_1, uZ1, rfl, HA, HK1, HO_Z1, BK336, BK342, HI0, HK, HB⟩ := hrel
  cases gk with
  | zero => exact absurd HA.out (by simp [spec_l92Tree.l0])
  | succ k1 =>
   have H := HA.out; clear HA; simp only [spec_l92Tree.l0] at H
   by_cases c13 : (xZ0_1.size : Int) < (wrap64 (2 * (wrap64 (1 + t337))))
   ·
    rw [if_pos c13] at H; have c13b0 := decide_eq_true c13; clear c13
    by_cases c14 : x7_1 > 0
    ·
     rw [if_pos c14] at H; have c14b0 := decide_eq_true c14; clear c14
     by_cases c15 : (xZ1_1.length : Int) = (wrap64 (1 + t337))
     ·
      rw [if_pos c15] at H; have c15b0 := beq_iff_eq.mpr c15; have c15b1 := bne_eq_false_iff_eq.mpr c15; clear c15
      by_cases c16 : xZ0_1.size + 1 ≤ 9223372036854775807
      ·
       rw [if_pos c16] at H; have c16b0 := eq_true c16; have c16b1 := decide_eq_true c16
       try have c16b2 : (9223372036854775807 < xZ0_1.size + 1) = False := eq_false (Nat.not_lt.2 c16)
       have H' := Az H; clear H; have hnb17 := NB342_336.out; have hnc17 := NB336_342.out; have hnb18 := NB342_0.out; have hnc18 := NB0_342.out; have hcz19_0 : wr.cell? ⟨gb342, 0, none⟩ = some (.string xZ0_1) := (blk_cell BK342.out 0).trans rfl; have hcz19_1 : wr.cell? ⟨gb342, 1, none⟩ = some (uZ1) := (blk_cell BK342.out 1).trans rfl; have hfz19_0 := blk_frozen BK342.out 0; have hfz19_1 := blk_frozen BK342.out 1; obtain ⟨Ao20, co20, eo20, _⟩ := Kd.Q_slice HO_Z1.out; subst eo20
       go_wp2
       (first | go_roundg k1 | (refine Handed.intro k1 ?measure ?_; rotate_left; go_step; (try simp only [add_plain]); (repeat apply Exists.intro); refine ⟨?rel, rfl⟩))
       case measure => have := HK1.out; omega
       case rel => exact ⟨(wrap64 (x7_1 - 1)), (x1001_1), (xZ0_1 ++ (⟨#[41]⟩ : ByteArray)), (xZ1_1), (.slice Ao20 xZ1_1.length co20), rS, H', ⟨by have := HK1.out; omega⟩, ⟨by (with_reducible repeat (first | apply Kd.Q_alloc | apply Kd.Q_drewN | apply Kd.Q_drew)); exact Kd.Q_mono (Kd.Q_far (p := ⟨gb342, 0, none⟩) (Kd.Q_types HO_Z1.out BK342.out (by decide)) (fun _ hk => hk.2) (.string (xZ0_1 ++ (⟨#[41]⟩ : ByteArray)))) (fun _ hk => trivial)⟩, ⟨by (with_reducible repeat (first | refine blk_drewN ?_ _ | refine blk_drew ?_ | refine blk_alloc ?_ _)); refine blk_far ?_ NB336_342.out _; (with_reducible repeat (first | refine blk_drewN ?_ _ | refine blk_drew ?_ | refine blk_alloc ?_ _)); exact BK336.out⟩, ⟨by (with_reducible repeat (first | refine blk_drewN ?_ _ | refine blk_drew ?_ | refine blk_alloc ?_ _)); refine blk_put (cs := #[.string xZ0_1, .slice Ao20 xZ1_1.length co20]) ?_ 0 _ rfl; (with_reducible repeat (first | refine blk_drewN ?_ _ | refine blk_drew ?_ | refine blk_alloc ?_ _)); exact BK342.out⟩, ⟨by repeat (first | (with_reducible first | exact HI0.out | apply IsS104.alloc | apply IsS104.drewN | apply IsS104.drew | apply IsS104.set_1 | refine IsS104.far ?_ NB0_336.out _ | refine IsS104.far ?_ NB0_342.out _) | exact HI0.out)⟩, ⟨by repeat (first | (with_reducible first | exact HK.out | apply KeepBut.set_ | apply keep_drewN | apply keep_drew | apply keep_alloc | refine keep_far ?_ GW336.out _ | refine keep_far ?_ GW342.out _) | exact HK.out)⟩, ⟨by repeat (first | (with_reducible first | exact HB.out | apply below_alloc | apply pw_below_drewN | apply below_drew1 | refine below_set ?_ (IsS104.ge HI0.out) | refine below_set ?_ GE336.out | refine below_set ?_ GE342.out) | exact HB.out)⟩⟩
      ·
       rw [if_neg c16] at H
       exact absurd H (by simp)
     ·
      rw [if_neg c15] at H; have c15b0 := beq_eq_false_iff_ne.mpr c15; have c15b1 := bne_iff_ne.mpr c15; replace H := Option.bind_eq_some_iff.mp H; obtain ⟨⟨t343, t344⟩, A210, H⟩ := H; replace H : (if t343 = 0 then (if xZ0_1.size + 1 ≤ 9223372036854775807 then (spec_l92Tree.l0 k1 (wrap64 (1 + t337)) (wrap64 (x7_1 - 1)) s0_0 t344 (xZ0_1 ++ (⟨#[41]⟩ : ByteArray)) xZ1_1) else (none)) else (if xZ0_1.size + 1 ≤ 9223372036854775807 then ((spec_l6Rd_pick.f k1 s0_0 t344 3).bind fun bt345 => (if xZ1_1.length < 17592186044416 then (spec_l92Tree.l0 k1 (wrap64 (1 + t337)) (wrap64 (x7_1 + 1)) s0_0 bt345.2 (xZ0_1 ++ (⟨#[40]⟩ : ByteArray)) (xZ1_1 ++ [wrap64 (bt345.1 - 1)])) else (none))) else (none))) = some (r1, r2, r3) := H; have A21 := Az A210; clear A210
      by_cases c22 : t343 = 0
      ·
       rw [if_pos c22] at H; have c22b0 := beq_iff_eq.mpr c22; have c22b1 := bne_eq_false_iff_eq.mpr c22; clear c22
       by_cases c23 : xZ0_1.size + 1 ≤ 9223372036854775807
       ·
        rw [if_pos c23] at H; have c23b0 := eq_true c23; have c23b1 := decide_eq_true c23
        try have c23b2 : (9223372036854775807 < xZ0_1.size + 1) = False := eq_false (Nat.not_lt.2 c23)
        have H' := Az H; clear H; have hnb24 := NB342_336.out; have hnc24 := NB336_342.out; have hnb25 := NB342_0.out; have hnc25 := NB0_342.out; have hcz26_0 : wr.cell? ⟨gb342, 0, none⟩ = some (.string xZ0_1) := (blk_cell BK342.out 0).trans rfl; have hcz26_1 : wr.cell? ⟨gb342, 1, none⟩ = some (uZ1) := (blk_cell BK342.out 1).trans rfl; have hfz26_0 := blk_frozen BK342.out 0; have hfz26_1 := blk_frozen BK342.out 1; obtain ⟨Ao27, co27, eo27, _⟩ := Kd.Q_slice HO_Z1.out; subst eo27
        go_wp2_with (first | (go_at_call 79; (with_reducible refine (spec_l6Rd_pick.calls k1 g s0_0 x1001_1 2 t343 t344 w0 _ ?side1 ?side2 A21.out).mono ?_); (case side1 => repeat (first | (with_reducible first | exact HI0.out | apply IsS104.alloc | apply IsS104.drewN | apply IsS104.drew | apply IsS104.set_1 | refine IsS104.far ?_ NB0_336.out _ | refine IsS104.far ?_ NB0_342.out _) | exact HI0.out)); (case side2 => repeat (first | (with_reducible first | exact HB.out | apply below_alloc | apply pw_below_drewN | apply below_drew1 | refine below_set ?_ (IsS104.ge HI0.out) | refine below_set ?_ GE336.out | refine below_set ?_ GE342.out) | exact HB.out)); rintro e w28 ⟨rfl, hi, hb, hk⟩; have n0 := Az (Kd.Q_mono (Kd.Q_keep (IsS104.apartQ (show IsS104 w0 _ g s0_0 x1001_1 from by repeat (first | (with_reducible first | exact HI0.out | apply IsS104.alloc | apply IsS104.drewN | apply IsS104.drew | apply IsS104.set_1 | refine IsS104.far ?_ NB0_336.out _ | refine IsS104.far ?_ NB0_342.out _) | exact HI0.out)) (qU HO_Z1.out) (by decide)) hk (fun _ h => h.2)) (fun _ h => h.1)); have n1 := Az (KeepBut.blk hk (g' := gb336) (o := .cells #[.string (⟨#[]⟩ : ByteArray), .slice none 0 0] 25 (0, 0)) (kU BK336.out) NB336_0.out (by simp)); have n2 := Az (KeepBut.blk hk (g' := gb342) (o := .cells #[.string xZ0_1, .slice Ao27 xZ1_1.length co27] 25 (0, 0)) (kU BK342.out) NB342_0.out (by simp)); have n3 := Az (KeepBut.trans (by repeat (first | (with_reducible first | exact HK.out | apply KeepBut.set_ | apply keep_drewN | apply keep_drew | apply keep_alloc | refine keep_far ?_ GW336.out _ | refine keep_far ?_ GW342.out _) | exact HK.out)) hk (.inl rfl)); have n4 := Az (hb); have n5 := Az (hi); clear HO_Z1 BK336 BK342 HK HB HI0; have HO_Z1 := n0; have BK336 := n1; have BK342 := n2; have HK := n3; have HB := n4; have HI0 := n5; clear n0 n1 n2 n3 n4 n5; (try clear hb); (try clear hb2); (try clear hk); (try clear hi); have hcz29_0 : w28.cell? ⟨gb342, 0, none⟩ = some (.string xZ0_1) := (blk_cell BK342.out 0).trans rfl; have hcz29_1 : w28.cell? ⟨gb342, 1, none⟩ = some (.slice Ao27 xZ1_1.length co27) := (blk_cell BK342.out 1).trans rfl; have hfz29_0 := blk_frozen BK342.out 0; have hfz29_1 := blk_frozen BK342.out 1))
        (first | go_roundg k1 | (refine Handed.intro k1 ?measure ?_; rotate_left; go_step; (try simp only [add_plain]); (repeat apply Exists.intro); refine ⟨?rel, rfl⟩))
        case measure => have := HK1.out; omega
        case rel => exact ⟨(wrap64 (x7_1 - 1)), (t344), (xZ0_1 ++ (⟨#[41]⟩ : ByteArray)), (xZ1_1), (.slice Ao27 xZ1_1.length co27), rS, H', ⟨by have := HK1.out; omega⟩, ⟨by (with_reducible repeat (first | apply Kd.Q_alloc | apply Kd.Q_drewN | apply Kd.Q_drew)); exact Kd.Q_mono (Kd.Q_far (p := ⟨gb342, 0, none⟩) (Kd.Q_types HO_Z1.out BK342.out (by decide)) (fun _ hk => hk.2) (.string (xZ0_1 ++ (⟨#[41]⟩ : ByteArray)))) (fun _ hk => trivial)⟩, ⟨by (with_reducible repeat (first | refine blk_drewN ?_ _ | refine blk_drew ?_ | refine blk_alloc ?_ _)); refine blk_far ?_ NB336_342.out _; (with_reducible repeat (first | refine blk_drewN ?_ _ | refine blk_drew ?_ | refine blk_alloc ?_ _)); exact BK336.out⟩, ⟨by (with_reducible repeat (first | refine blk_drewN ?_ _ | refine blk_drew ?_ | refine blk_alloc ?_ _)); refine blk_put (cs := #[.string xZ0_1, .slice Ao27 xZ1_1.length co27]) ?_ 0 _ rfl; (with_reducible repeat (first | refine blk_drewN ?_ _ | refine blk_drew ?_ | refine blk_alloc ?_ _)); exact BK342.out⟩, ⟨by repeat (first | (with_reducible first | exact HI0.out | apply IsS104.alloc | apply IsS104.drewN | apply IsS104.drew | apply IsS104.set_1 | refine IsS104.far ?_ NB0_336.out _ | refine IsS104.far ?_ NB0_342.out _) | exact HI0.out)⟩, ⟨by repeat (first | (with_reducible first | exact HK.out | apply KeepBut.set_ | apply keep_drewN | apply keep_drew | apply keep_alloc | refine keep_far ?_ GW336.out _ | refine keep_far ?_ GW342.out _) | exact HK.out)⟩, ⟨by repeat (first | (with_reducible first | exact HB.out | apply below_alloc | apply pw_below_drewN | apply below_drew1 | refine below_set ?_ (IsS104.ge HI0.out) | refine below_set ?_ GE336.out | refine below_set ?_ GE342.out) | exact HB.out)⟩⟩
       ·
        rw [if_neg c23] at H
        exact absurd H (by simp)
      ·
       rw [if_neg c22] at H; have c22b0 := beq_eq_false_iff_ne.mpr c22; have c22b1 := bne_iff_ne.mpr c22
       by_cases c30 : xZ0_1.size + 1 ≤ 9223372036854775807
       ·
        rw [if_pos c30] at H; have c30b0 := eq_true c30; have c30b1 := decide_eq_true c30
        try have c30b2 : (9223372036854775807 < xZ0_1.size + 1) = False := eq_false (Nat.not_lt.2 c30)
        replace H := Option.bind_eq_some_iff.mp H; obtain ⟨⟨t345, t346⟩, A310, H⟩ := H; replace H : (if xZ1_1.length < 17592186044416 then (spec_l92Tree.l0 k1 (wrap64 (1 + t337)) (wrap64 (x7_1 + 1)) s0_0 t346 (xZ0_1 ++ (⟨#[40]⟩ : ByteArray)) (xZ1_1 ++ [wrap64 (t345 - 1)])) else (none)) = some (r1, r2, r3) := H; have A31 := Az A310; clear A310
        by_cases c32 : xZ1_1.length < 17592186044416
        ·
         rw [if_pos c32] at H; have LMc32 := Az c32; clear c32; obtain ⟨y347, hy347⟩ : ∃ y_ : List Int, y_ = (xZ1_1 ++ [wrap64 (t345 - 1)]) := ⟨_, rfl⟩; replace H : (spec_l92Tree.l0 k1 (wrap64 (1 + t337)) (wrap64 (x7_1 + 1)) s0_0 t346 (xZ0_1 ++ (⟨#[40]⟩ : ByteArray)) y347) = some (r1, r2, r3) := hR hy347 H; have Ny347 := Az hy347; clear hy347; have H' := Az H; clear H; have hnb33 := NB342_336.out; have hnc33 := NB336_342.out; have hnb34 := NB342_0.out; have hnc34 := NB0_342.out; have hcz35_0 : wr.cell? ⟨gb342, 0, none⟩ = some (.string xZ0_1) := (blk_cell BK342.out 0).trans rfl; have hcz35_1 : wr.cell? ⟨gb342, 1, none⟩ = some (uZ1) := (blk_cell BK342.out 1).trans rfl; have hfz35_0 := blk_frozen BK342.out 0; have hfz35_1 := blk_frozen BK342.out 1; obtain ⟨Ao36, co36, eo36, _⟩ := Kd.Q_slice HO_Z1.out; subst eo36
         try go_wp2_with (first | (go_at_call 79; (with_reducible refine (spec_l6Rd_pick.calls k1 g s0_0 x1001_1 2 t343 t344 w0 _ ?side1 ?side2 A21.out).mono ?_); (case side1 => repeat (first | (with_reducible first | exact HI0.out | apply IsS104.alloc | apply IsS104.drewN | apply IsS104.drew | apply IsS104.set_1 | refine IsS104.far ?_ NB0_336.out _ | refine IsS104.far ?_ NB0_342.out _) | exact HI0.out)); (case side2 => repeat (first | (with_reducible first | exact HB.out | apply below_alloc | apply pw_below_drewN | apply below_drew1 | refine below_set ?_ (IsS104.ge HI0.out) | refine below_set ?_ GE336.out | refine below_set ?_ GE342.out) | exact HB.out)); rintro e w37 ⟨rfl, hi, hb, hk⟩; have n0 := Az (Kd.Q_mono (Kd.Q_keep (IsS104.apartQ (show IsS104 w0 _ g s0_0 x1001_1 from by repeat (first | (with_reducible first | exact HI0.out | apply IsS104.alloc | apply IsS104.drewN | apply IsS104.drew | apply IsS104.set_1 | refine IsS104.far ?_ NB0_336.out _ | refine IsS104.far ?_ NB0_342.out _) | exact HI0.out)) (qU HO_Z1.out) (by decide)) hk (fun _ h => h.2)) (fun _ h => h.1)); have n1 := Az (KeepBut.blk hk (g' := gb336) (o := .cells #[.string (⟨#[]⟩ : ByteArray), .slice none 0 0] 25 (0, 0)) (kU BK336.out) NB336_0.out (by simp)); have n2 := Az (KeepBut.blk hk (g' := gb342) (o := .cells #[.string xZ0_1, .slice Ao36 xZ1_1.length co36] 25 (0, 0)) (kU BK342.out) NB342_0.out (by simp)); have n3 := Az (KeepBut.trans (by repeat (first | (with_reducible first | exact HK.out | apply KeepBut.set_ | apply keep_drewN | apply keep_drew | apply keep_alloc | refine keep_far ?_ GW336.out _ | refine keep_far ?_ GW342.out _) | exact HK.out)) hk (.inl rfl)); have n4 := Az (hb); have n5 := Az (hi); clear HO_Z1 BK336 BK342 HK HB HI0; have HO_Z1 := n0; have BK336 := n1; have BK342 := n2; have HK := n3; have HB := n4; have HI0 := n5; clear n0 n1 n2 n3 n4 n5; (try clear hb); (try clear hb2); (try clear hk); (try clear hi); have hcz38_0 : w37.cell? ⟨gb342, 0, none⟩ = some (.string xZ0_1) := (blk_cell BK342.out 0).trans rfl; have hcz38_1 : w37.cell? ⟨gb342, 1, none⟩ = some (.slice Ao36 xZ1_1.length co36) := (blk_cell BK342.out 1).trans rfl; have hfz38_0 := blk_frozen BK342.out 0; have hfz38_1 := blk_frozen BK342.out 1))
         have n0 : Aside0 (Kd.Q (Kd.int .i64) 3 (w37.setCell ⟨gb342, 0, none⟩ (.string (xZ0_1 ++ (⟨#[40]⟩ : ByteArray)))) w.heap.size (fun _ => True) (.slice Ao36 xZ1_1.length co36) xZ1_1) := ⟨by (with_reducible repeat (first | apply Kd.Q_alloc | apply Kd.Q_drewN | apply Kd.Q_drew)); exact Kd.Q_mono (Kd.Q_far (p := ⟨gb342, 0, none⟩) (Kd.Q_types HO_Z1.out BK342.out (by decide)) (fun _ hk => hk.2) (.string (xZ0_1 ++ (⟨#[40]⟩ : ByteArray)))) (fun _ hk => trivial)⟩; have n1 : Aside0 ((w37.setCell ⟨gb342, 0, none⟩ (.string (xZ0_1 ++ (⟨#[40]⟩ : ByteArray)))).heap[gb336]? = some (.cells #[.string (⟨#[]⟩ : ByteArray), .slice none 0 0] 25 (0, 0))) := ⟨by (with_reducible repeat (first | refine blk_drewN ?_ _ | refine blk_drew ?_ | refine blk_alloc ?_ _)); refine blk_far ?_ NB336_342.out _; (with_reducible repeat (first | refine blk_drewN ?_ _ | refine blk_drew ?_ | refine blk_alloc ?_ _)); exact BK336.out⟩; have n2 : Aside0 ((w37.setCell ⟨gb342, 0, none⟩ (.string (xZ0_1 ++ (⟨#[40]⟩ : ByteArray)))).heap[gb342]? = some (.cells #[.string (xZ0_1 ++ (⟨#[40]⟩ : ByteArray)), .slice Ao36 xZ1_1.length co36] 25 (0, 0))) := ⟨by (with_reducible repeat (first | refine blk_drewN ?_ _ | refine blk_drew ?_ | refine blk_alloc ?_ _)); refine blk_put (cs := #[.string xZ0_1, .slice Ao36 xZ1_1.length co36]) ?_ 0 _ rfl; (with_reducible repeat (first | refine blk_drewN ?_ _ | refine blk_drew ?_ | refine blk_alloc ?_ _)); exact BK342.out⟩; have n3 : Aside0 (IsS104 w0 (w37.setCell ⟨gb342, 0, none⟩ (.string (xZ0_1 ++ (⟨#[40]⟩ : ByteArray)))) g s0_0 t344) := ⟨by repeat (first | (with_reducible first | exact HI0.out | apply IsS104.alloc | apply IsS104.drewN | apply IsS104.drew | apply IsS104.set_1 | refine IsS104.far ?_ NB0_336.out _ | refine IsS104.far ?_ NB0_342.out _) | exact HI0.out)⟩; have n4 : Aside0 (KeepBut w (w37.setCell ⟨gb342, 0, none⟩ (.string (xZ0_1 ++ (⟨#[40]⟩ : ByteArray)))) g none) := ⟨by repeat (first | (with_reducible first | exact HK.out | apply KeepBut.set_ | apply keep_drewN | apply keep_drew | apply keep_alloc | refine keep_far ?_ GW336.out _ | refine keep_far ?_ GW342.out _) | exact HK.out)⟩; have n5 : Aside0 (Below w0.heap.size w0 (w37.setCell ⟨gb342, 0, none⟩ (.string (xZ0_1 ++ (⟨#[40]⟩ : ByteArray))))) := ⟨by repeat (first | (with_reducible first | exact HB.out | apply below_alloc | apply pw_below_drewN | apply below_drew1 | refine below_set ?_ (IsS104.ge HI0.out) | refine below_set ?_ GE336.out | refine below_set ?_ GE342.out) | exact HB.out)⟩; (try clear HO_Z1); (try clear BK336); (try clear BK342); (try clear HI0); (try clear HK); (try clear HB)
         generalize (w37.setCell ⟨gb342, 0, none⟩ (.string (xZ0_1 ++ (⟨#[40]⟩ : ByteArray)))) = w39 at n0 n1 n2 n3 n4 n5 ⊢
         have HO_Z1 := n0; have BK336 := n1; have BK342 := n2; have HI0 := n3; have HK := n4; have HB := n5; clear n0 n1 n2 n3 n4 n5; have n0 := Az (Kd.Q_drew HO_Z1.out); have n1 := Az (blk_drew BK336.out); have n2 := Az (blk_drew BK342.out); have n3 := Az (IsS104.drew HI0.out); have n4 := Az (keep_drew HK.out); have n5 := Az (below_drew1 HB.out); clear HO_Z1 BK336 BK342 HI0 HK HB; have HO_Z1 := n0; have BK336 := n1; have BK342 := n2; have HI0 := n3; have HK := n4; have HB := n5; clear n0 n1 n2 n3 n4 n5
         refine start_ (n := 9) (S := fun w' => w'.cell? ⟨gb342, 0, none⟩ = some (.string (xZ0_1 ++ (⟨#[40]⟩ : ByteArray))) ∧ w'.cell? ⟨gb342, 1, none⟩ = some (.slice Ao36 xZ1_1.length co36)) (ds := [8]) #[false, false, false, false, false, false, false, false, false] (by kernel_rfl) rfl rfl ⟨(blk_cell BK342.out 0).trans rfl, (blk_cell BK342.out 1).trans rfl⟩ (fun hHeld => ?_); refine with_tabW spec_l92Tree.tab9 spec_l92Tree.bits9 (fun HT_ HW_ => ?_)
         generalize w39.drew = w40 at HO_Z1 BK336 BK342 HI0 HK HB hHeld ⊢
         refine pure_ (i := 0) (N := some 44) (v := ?_) (a' := ?_) #[true, false, false, false, false, false, false, false, false] rfl rfl (any_of HT_.out (by kernel_rfl)) (fun _ _ _ h => h) (Or.inl ⟨by rfl, ?_⟩) ?_ ?_
         rotate_left
         ·
          intro w'
          go_simp
          with_reducible rfl
         rotate_left
         ·
          simp only [Act.put, List.setIfInBounds_toArray, List.set_cons_zero, List.set_cons_succ, i64_w, i32_w]
          rfl
         refine pure_ (i := 2) (N := some 46) (v := ?_) (a' := ?_) #[true, false, true, false, false, false, false, false, false] rfl rfl (any_of HT_.out (by kernel_rfl)) (fun _ _ _ h => h) (Or.inl ⟨by rfl, ?_⟩) ?_ ?_
         rotate_left
         ·
          intro w'
          go_simp
          with_reducible rfl
         rotate_left
         ·
          simp only [Act.put, List.setIfInBounds_toArray, List.set_cons_zero, List.set_cons_succ, i64_w, i32_w]
          rfl
         refine take_ (i := 1) (N := some 45) (v := ?_) (a' := ?_) #[true, true, true, false, false, false, false, false, false] rfl rfl (take_ofW HT_.out HW_.out (by kernel_rfl)) (fun _ _ _ h => h) (Or.inl ⟨by rfl, ?_⟩) hHeld ?_ ?_
         rotate_left
         ·
          rintro w' ⟨s0, s1⟩
          go_simp
          with_reducible rfl
         rotate_left
         ·
          simp only [Act.put, List.setIfInBounds_toArray, List.set_cons_zero, List.set_cons_succ, i64_w, i32_w]
          rfl
         refine one_ (i := 3) (N := some 47) #[true, true, true, true, false, false, false, false, false] rfl rfl (one_of HT_.out (by kernel_rfl)) (by decide) (fun K hK => ?_)
         refine goes_ Try.func79 (by kernel_rfl) rfl #[.pointer (some ⟨g, 0, none⟩), .int .i64 3] (by rfl) rfl rfl (by (try simp only [List.map_toArray, List.map_cons, List.map_nil]); first | done | rfl | (simp only [List.length_drop, List.length_take]; rfl)) ?_
         with_reducible refine (spec_l6Rd_pick.calls k1 g s0_0 t344 3 t345 t346 w0 _ ?side1 ?side2 A31.out).mono ?_
         (case side1 => repeat (first | (with_reducible first | exact HI0.out | apply IsS104.alloc | apply IsS104.drewN | apply IsS104.drew | apply IsS104.set_1 | refine IsS104.far ?_ NB0_336.out _ | refine IsS104.far ?_ NB0_342.out _) | exact HI0.out))
         (case side2 => repeat (first | (with_reducible first | exact HB.out | apply below_alloc | apply pw_below_drewN | apply below_drew1 | refine below_set ?_ (IsS104.ge HI0.out) | refine below_set ?_ GE336.out | refine below_set ?_ GE342.out) | exact HB.out))
         rintro e w41 ⟨rfl, hi, hb, hk⟩
         refine ⟨_, rfl, ?_⟩
         have n0 := Az (Kd.Q_mono (Kd.Q_keep (IsS104.apartQ (show IsS104 w0 _ g s0_0 t344 from by repeat (first | (with_reducible first | exact HI0.out | apply IsS104.alloc | apply IsS104.drewN | apply IsS104.drew | apply IsS104.set_1 | refine IsS104.far ?_ NB0_336.out _ | refine IsS104.far ?_ NB0_342.out _) | exact HI0.out)) (qU HO_Z1.out) (by decide)) hk (fun _ h => h.2)) (fun _ h => h.1)); have n1 := Az (KeepBut.blk hk (g' := gb336) (o := .cells #[.string (⟨#[]⟩ : ByteArray), .slice none 0 0] 25 (0, 0)) (kU BK336.out) NB336_0.out (by simp)); have n2 := Az (KeepBut.blk hk (g' := gb342) (o := .cells #[.string (xZ0_1 ++ (⟨#[40]⟩ : ByteArray)), .slice Ao36 xZ1_1.length co36] 25 (0, 0)) (kU BK342.out) NB342_0.out (by simp)); have n3 := Az (KeepBut.trans (by repeat (first | (with_reducible first | exact HK.out | apply KeepBut.set_ | apply keep_drewN | apply keep_drew | apply keep_alloc | refine keep_far ?_ GW336.out _ | refine keep_far ?_ GW342.out _) | exact HK.out)) hk (.inl rfl)); have n4 := Az (hb); have n5 := Az (hi); clear HO_Z1 BK336 BK342 HK HB HI0; have HO_Z1 := n0; have BK336 := n1; have BK342 := n2; have HK := n3; have HB := n4; have HI0 := n5; clear n0 n1 n2 n3 n4 n5; (try clear hb); (try clear hb2); (try clear hk); (try clear hi)
         refine hK.out _ _ ⟨(blk_cell BK342.out 0).trans rfl, (blk_cell BK342.out 1).trans rfl⟩ (fun hHeld => ?_)
         clear hK K
         refine norm_ (a' := ?_) ?_ ?_
         rotate_left
         ·
          show Act.put _ (some 47) _ = _
          simp only [Act.put, List.setIfInBounds_toArray, List.set_cons_zero, List.set_cons_succ, i64_w, i32_w]
          rfl
         refine pure_ (i := 4) (N := some 48) (v := ?_) (a' := ?_) #[true, true, true, true, true, false, false, false, false] rfl rfl (any_of HT_.out (by kernel_rfl)) (fun _ _ _ h => h) (Or.inl ⟨by rfl, ?_⟩) ?_ ?_
         rotate_left
         ·
          intro w'
          go_simp
          with_reducible rfl
         rotate_left
         ·
          simp only [Act.put, List.setIfInBounds_toArray, List.set_cons_zero, List.set_cons_succ, i64_w, i32_w]
          rfl
         refine one_ (i := 5) (N := some 49) #[true, true, true, true, true, true, false, false, false] rfl rfl (one_of HT_.out (by kernel_rfl)) (by decide) (fun K hK => ?_)
         refine value_ (w1 := ?_) (v := ?_) (by rfl) rfl ?_ ?_
         rotate_left 2
         ·
          go_simp
          constructor
          ·
           rfl
          ·
           rfl
         refine hK.out _ _ ⟨(blk_cell (blk_alloc BK342.out _) 0).trans rfl, (blk_cell (blk_alloc BK342.out _) 1).trans rfl⟩ (fun hHeld => ?_)
         clear hK K
         refine norm_ (a' := ?_) ?_ ?_
         rotate_left
         ·
          show Act.put _ (some 49) _ = _
          simp only [Act.put, List.setIfInBounds_toArray, List.set_cons_zero, List.set_cons_succ, i64_w, i32_w]
          rfl
         refine one_ (i := 6) (N := some 50) #[true, true, true, true, true, true, true, false, false] rfl rfl (one_of HT_.out (by kernel_rfl)) (by decide) (fun K hK => ?_)
         refine Kd.Q_append_step (Kd.int .i64) w.heap.size (by rfl) (.tmp 45) (.tmp 49) 23 3 (.int .i64 0) 8 rfl Try.underlying23 info3 rfl (by decide) (by omega) (.slice Ao36 xZ1_1.length co36) xZ1_1 (wrap64 (t345 - 1)) [.int .i64 (wrap64 (t345 - 1))] (fun _ => True) (fun _ => False) rfl rfl ?aP (fun _ hk => hk.elim) ?aF ?aO (Below.refl _ _) ?aS ?aL ?_
         (case aP => exact rfl)
         (case aF => exact (fun _ _ => trivial))
         (case aO => exact (qU HO_Z1.out))
         (case aS => exact (keep_size (w := w) (g := g) (row := none) (by repeat (first | (with_reducible first | exact HK.out | apply KeepBut.set_ | apply keep_drewN | apply keep_drew | apply keep_alloc | refine keep_far ?_ GW336.out _ | refine keep_far ?_ GW342.out _) | exact HK.out))))
         (case aL => have := LMc32.out; omega)
         intro v348 w42 ho hb hg hat
         rw [← Ny347.out] at ho; have n0 := Az (blk_grown (g := gb336) (o := .cells #[.string (⟨#[]⟩ : ByteArray), .slice none 0 0] 25 (0, 0)) (kU BK336.out) hg (Kd.Q_ne HO_Z1.out BK336.out (by decide))); have n1 := Az (blk_grown (g := gb342) (o := .cells #[.string (xZ0_1 ++ (⟨#[40]⟩ : ByteArray)), .slice Ao36 xZ1_1.length co36] 25 (0, 0)) (kU BK342.out) hg (Kd.Q_ne HO_Z1.out BK342.out (by decide))); have n2 := Az (IsS104.grown (by repeat (first | (with_reducible first | exact HI0.out | apply IsS104.alloc | apply IsS104.drewN | apply IsS104.drew | apply IsS104.set_1 | refine IsS104.far ?_ NB0_336.out _ | refine IsS104.far ?_ NB0_342.out _) | exact HI0.out)) hg (IsS104.own_neQ HI0.out HO_Z1.out (by decide))); have n3 := Az (below_weaken (by repeat (first | (with_reducible first | exact HB.out | apply below_alloc | apply pw_below_drewN | apply below_drew1 | refine below_set ?_ (IsS104.ge HI0.out) | refine below_set ?_ GE336.out | refine below_set ?_ GE342.out) | exact HB.out)) HL.out hb); have n4 := Az (KeepBut.trans (by repeat (first | (with_reducible first | exact HK.out | apply KeepBut.set_ | apply keep_drewN | apply keep_drew | apply keep_alloc | refine keep_far ?_ GW336.out _ | refine keep_far ?_ GW342.out _) | exact HK.out)) (KeepBut.of_grown hg g) (Kd.Q_base2 HO_Z1.out)); have n5 := Az (ho); clear BK336 BK342 HI0 HB HK HO_Z1; have BK336 := n0; have BK342 := n1; have HI0 := n2; have HB := n3; have HK := n4; have HO349 := n5; clear n0 n1 n2 n3 n4 n5 ho hb hg hat; obtain ⟨Ao43, co43, eo43, _⟩ := Kd.Q_slice HO349.out; (first | subst eo43 | (injection eo43 with f1_ f2_ f3_; have f4_ := f1_.symm; have f5_ := f3_.symm; clear f1_ f2_ f3_; subst f4_; subst f5_))
         refine hK.out _ _ ⟨(blk_cell BK342.out 0).trans rfl, (blk_cell BK342.out 1).trans rfl⟩ (fun hHeld => ?_)
         clear hK K
         refine norm_ (a' := ?_) ?_ ?_
         rotate_left
         ·
          show Act.put _ (some 50) _ = _
          simp only [Act.put, List.setIfInBounds_toArray, List.set_cons_zero, List.set_cons_succ, i64_w, i32_w]
          rfl
         refine pure_ (i := 7) (N := some 51) (v := ?_) (a' := ?_) #[true, true, true, true, true, true, true, true, false] rfl rfl (any_of HT_.out (by kernel_rfl)) (fun _ _ _ h => h) (Or.inl ⟨by rfl, ?_⟩) ?_ ?_
         rotate_left
         ·
          intro w'
          go_simp
          with_reducible rfl
         rotate_left
         ·
          simp only [Act.put, List.setIfInBounds_toArray, List.set_cons_zero, List.set_cons_succ, i64_w, i32_w]
          rfl
         refine last_ (i := 8) (N := none) #[true, true, true, true, true, true, true, true, true] rfl rfl (one_of HT_.out (by kernel_rfl)) (by decide) (fun K hK => ?_)
         have hs44 : w42.cell? ⟨gb342, 1, none⟩ = some (.slice Ao36 xZ1_1.length co36) := (blk_cell BK342.out 1).trans rfl; have hfs44 := blk_frozen BK342.out 1; have hns44_0 := NB336_342.out; have hms44_0 := NB342_336.out
         refine skip_ (w1 := ?_) (by rfl) rfl ?_ ?_
         rotate_left
         ·
          go_simp
          rfl
         refine hK.out _ _ ?_
         clear hK K
         refine done_ (done_of HT_.out (by kernel_rfl)) ?_
         try go_wp2
         (first | go_roundg k1 | (refine Handed.intro k1 ?measure ?_; rotate_left; go_step; (try simp only [add_plain]); (repeat apply Exists.intro); refine ⟨?rel, rfl⟩))
         case measure => have := HK1.out; omega
         case rel => exact ⟨(wrap64 (x7_1 + 1)), (t346), (xZ0_1 ++ (⟨#[40]⟩ : ByteArray)), (y347), (.slice Ao43 y347.length co43), rS, H', ⟨by have := HK1.out; omega⟩, ⟨by (with_reducible repeat (first | apply Kd.Q_alloc | apply Kd.Q_drewN | apply Kd.Q_drew)); exact Kd.Q_mono (Kd.Q_far (p := ⟨gb342, 1, none⟩) (Kd.Q_types HO349.out BK342.out (by decide)) (fun _ hk => hk.2) (.slice Ao43 y347.length co43)) (fun _ hk => trivial)⟩, ⟨by (with_reducible repeat (first | refine blk_drewN ?_ _ | refine blk_drew ?_ | refine blk_alloc ?_ _)); refine blk_far ?_ NB336_342.out _; (with_reducible repeat (first | refine blk_drewN ?_ _ | refine blk_drew ?_ | refine blk_alloc ?_ _)); exact BK336.out⟩, ⟨by (with_reducible repeat (first | refine blk_drewN ?_ _ | refine blk_drew ?_ | refine blk_alloc ?_ _)); refine blk_put (cs := #[.string (xZ0_1 ++ (⟨#[40]⟩ : ByteArray)), .slice Ao36 xZ1_1.length co36]) ?_ 1 _ rfl; (with_reducible repeat (first | refine blk_drewN ?_ _ | refine blk_drew ?_ | refine blk_alloc ?_ _)); exact BK342.out⟩, ⟨by repeat (first | (with_reducible first | exact HI0.out | apply IsS104.alloc | apply IsS104.drewN | apply IsS104.drew | apply IsS104.set_1 | refine IsS104.far ?_ NB0_336.out _ | refine IsS104.far ?_ NB0_342.out _) | exact HI0.out)⟩, ⟨by repeat (first | (with_reducible first | exact HK.out | apply KeepBut.set_ | apply keep_drewN | apply keep_drew | apply keep_alloc | refine keep_far ?_ GW336.out _ | refine keep_far ?_ GW342.out _) | exact HK.out)⟩, ⟨by repeat (first | (with_reducible first | exact HB.out | apply below_alloc | apply pw_below_drewN | apply below_drew1 | refine below_set ?_ (IsS104.ge HI0.out) | refine below_set ?_ GE336.out | refine below_set ?_ GE342.out) | exact HB.out)⟩⟩
        ·
         rw [if_neg c32] at H
         exact absurd H (by simp)
       ·
        rw [if_neg c30] at H
        exact absurd H (by simp)
    ·
     rw [if_neg c14] at H; have c14b0 := decide_eq_false c14; clear c14
     by_cases c45 : xZ0_1.size + 1 ≤ 9223372036854775807
     ·
      rw [if_pos c45] at H; have c45b0 := eq_true c45; have c45b1 := decide_eq_true c45
      try have c45b2 : (9223372036854775807 < xZ0_1.size + 1) = False := eq_false (Nat.not_lt.2 c45)
      replace H := Option.bind_eq_some_iff.mp H; obtain ⟨⟨t350, t351⟩, A460, H⟩ := H; replace H : (if xZ1_1.length < 17592186044416 then (spec_l92Tree.l0 k1 (wrap64 (1 + t337)) (wrap64 (x7_1 + 1)) s0_0 t351 (xZ0_1 ++ (⟨#[40]⟩ : ByteArray)) (xZ1_1 ++ [wrap64 (t350 - 1)])) else (none)) = some (r1, r2, r3) := H; have A46 := Az A460; clear A460
      by_cases c47 : xZ1_1.length < 17592186044416
      ·
       rw [if_pos c47] at H; have LMc47 := Az c47; clear c47; obtain ⟨y352, hy352⟩ : ∃ y_ : List Int, y_ = (xZ1_1 ++ [wrap64 (t350 - 1)]) := ⟨_, rfl⟩; replace H : (spec_l92Tree.l0 k1 (wrap64 (1 + t337)) (wrap64 (x7_1 + 1)) s0_0 t351 (xZ0_1 ++ (⟨#[40]⟩ : ByteArray)) y352) = some (r1, r2, r3) := hR hy352 H; have Ny352 := Az hy352; clear hy352; have H' := Az H; clear H; have hnb48 := NB342_336.out; have hnc48 := NB336_342.out; have hnb49 := NB342_0.out; have hnc49 := NB0_342.out; have hcz50_0 : wr.cell? ⟨gb342, 0, none⟩ = some (.string xZ0_1) := (blk_cell BK342.out 0).trans rfl; have hcz50_1 : wr.cell? ⟨gb342, 1, none⟩ = some (uZ1) := (blk_cell BK342.out 1).trans rfl; have hfz50_0 := blk_frozen BK342.out 0; have hfz50_1 := blk_frozen BK342.out 1
       try go_wp2
       have n0 : Aside0 (Kd.Q (Kd.int .i64) 3 (wr.setCell ⟨gb342, 0, none⟩ (.string (xZ0_1 ++ (⟨#[40]⟩ : ByteArray)))) w.heap.size (fun _ => True) uZ1 xZ1_1) := ⟨by (with_reducible repeat (first | apply Kd.Q_alloc | apply Kd.Q_drewN | apply Kd.Q_drew)); exact Kd.Q_mono (Kd.Q_far (p := ⟨gb342, 0, none⟩) (Kd.Q_types HO_Z1.out BK342.out (by decide)) (fun _ hk => hk.2) (.string (xZ0_1 ++ (⟨#[40]⟩ : ByteArray)))) (fun _ hk => trivial)⟩; have n1 : Aside0 ((wr.setCell ⟨gb342, 0, none⟩ (.string (xZ0_1 ++ (⟨#[40]⟩ : ByteArray)))).heap[gb336]? = some (.cells #[.string (⟨#[]⟩ : ByteArray), .slice none 0 0] 25 (0, 0))) := ⟨by (with_reducible repeat (first | refine blk_drewN ?_ _ | refine blk_drew ?_ | refine blk_alloc ?_ _)); refine blk_far ?_ NB336_342.out _; (with_reducible repeat (first | refine blk_drewN ?_ _ | refine blk_drew ?_ | refine blk_alloc ?_ _)); exact BK336.out⟩; have n2 : Aside0 ((wr.setCell ⟨gb342, 0, none⟩ (.string (xZ0_1 ++ (⟨#[40]⟩ : ByteArray)))).heap[gb342]? = some (.cells #[.string (xZ0_1 ++ (⟨#[40]⟩ : ByteArray)), uZ1] 25 (0, 0))) := ⟨by (with_reducible repeat (first | refine blk_drewN ?_ _ | refine blk_drew ?_ | refine blk_alloc ?_ _)); refine blk_put (cs := #[.string xZ0_1, uZ1]) ?_ 0 _ rfl; (with_reducible repeat (first | refine blk_drewN ?_ _ | refine blk_drew ?_ | refine blk_alloc ?_ _)); exact BK342.out⟩; have n3 : Aside0 (IsS104 w0 (wr.setCell ⟨gb342, 0, none⟩ (.string (xZ0_1 ++ (⟨#[40]⟩ : ByteArray)))) g s0_0 x1001_1) := ⟨by repeat (first | (with_reducible first | exact HI0.out | apply IsS104.alloc | apply IsS104.drewN | apply IsS104.drew | apply IsS104.set_1 | refine IsS104.far ?_ NB0_336.out _ | refine IsS104.far ?_ NB0_342.out _) | exact HI0.out)⟩; have n4 : Aside0 (KeepBut w (wr.setCell ⟨gb342, 0, none⟩ (.string (xZ0_1 ++ (⟨#[40]⟩ : ByteArray)))) g none) := ⟨by repeat (first | (with_reducible first | exact HK.out | apply KeepBut.set_ | apply keep_drewN | apply keep_drew | apply keep_alloc | refine keep_far ?_ GW336.out _ | refine keep_far ?_ GW342.out _) | exact HK.out)⟩; have n5 : Aside0 (Below w0.heap.size w0 (wr.setCell ⟨gb342, 0, none⟩ (.string (xZ0_1 ++ (⟨#[40]⟩ : ByteArray))))) := ⟨by repeat (first | (with_reducible first | exact HB.out | apply below_alloc | apply pw_below_drewN | apply below_drew1 | refine below_set ?_ (IsS104.ge HI0.out) | refine below_set ?_ GE336.out | refine below_set ?_ GE342.out) | exact HB.out)⟩; (try clear HO_Z1); (try clear BK336); (try clear BK342); (try clear HI0); (try clear HK); (try clear HB)
       generalize (wr.setCell ⟨gb342, 0, none⟩ (.string (xZ0_1 ++ (⟨#[40]⟩ : ByteArray)))) = w51 at n0 n1 n2 n3 n4 n5 ⊢
       have HO_Z1 := n0; have BK336 := n1; have BK342 := n2; have HI0 := n3; have HK := n4; have HB := n5; clear n0 n1 n2 n3 n4 n5; have n0 := Az (Kd.Q_drew HO_Z1.out); have n1 := Az (blk_drew BK336.out); have n2 := Az (blk_drew BK342.out); have n3 := Az (IsS104.drew HI0.out); have n4 := Az (keep_drew HK.out); have n5 := Az (below_drew1 HB.out); clear HO_Z1 BK336 BK342 HI0 HK HB; have HO_Z1 := n0; have BK336 := n1; have BK342 := n2; have HI0 := n3; have HK := n4; have HB := n5; clear n0 n1 n2 n3 n4 n5
       refine start_ (n := 9) (S := fun w' => w'.cell? ⟨gb342, 0, none⟩ = some (.string (xZ0_1 ++ (⟨#[40]⟩ : ByteArray))) ∧ w'.cell? ⟨gb342, 1, none⟩ = some (uZ1)) (ds := [8]) #[false, false, false, false, false, false, false, false, false] (by kernel_rfl) rfl rfl ⟨(blk_cell BK342.out 0).trans rfl, (blk_cell BK342.out 1).trans rfl⟩ (fun hHeld => ?_); refine with_tabW spec_l92Tree.tab9 spec_l92Tree.bits9 (fun HT_ HW_ => ?_)
       generalize w51.drew = w52 at HO_Z1 BK336 BK342 HI0 HK HB hHeld ⊢
       refine pure_ (i := 0) (N := some 44) (v := ?_) (a' := ?_) #[true, false, false, false, false, false, false, false, false] rfl rfl (any_of HT_.out (by kernel_rfl)) (fun _ _ _ h => h) (Or.inl ⟨by rfl, ?_⟩) ?_ ?_
       rotate_left
       ·
        intro w'
        go_simp
        with_reducible rfl
       rotate_left
       ·
        simp only [Act.put, List.setIfInBounds_toArray, List.set_cons_zero, List.set_cons_succ, i64_w, i32_w]
        rfl
       refine pure_ (i := 2) (N := some 46) (v := ?_) (a' := ?_) #[true, false, true, false, false, false, false, false, false] rfl rfl (any_of HT_.out (by kernel_rfl)) (fun _ _ _ h => h) (Or.inl ⟨by rfl, ?_⟩) ?_ ?_
       rotate_left
       ·
        intro w'
        go_simp
        with_reducible rfl
       rotate_left
       ·
        simp only [Act.put, List.setIfInBounds_toArray, List.set_cons_zero, List.set_cons_succ, i64_w, i32_w]
        rfl
       refine take_ (i := 1) (N := some 45) (v := ?_) (a' := ?_) #[true, true, true, false, false, false, false, false, false] rfl rfl (take_ofW HT_.out HW_.out (by kernel_rfl)) (fun _ _ _ h => h) (Or.inl ⟨by rfl, ?_⟩) hHeld ?_ ?_
       rotate_left
       ·
        rintro w' ⟨s0, s1⟩
        go_simp
        with_reducible rfl
       rotate_left
       ·
        simp only [Act.put, List.setIfInBounds_toArray, List.set_cons_zero, List.set_cons_succ, i64_w, i32_w]
        rfl
       refine one_ (i := 3) (N := some 47) #[true, true, true, true, false, false, false, false, false] rfl rfl (one_of HT_.out (by kernel_rfl)) (by decide) (fun K hK => ?_)
       refine goes_ Try.func79 (by kernel_rfl) rfl #[.pointer (some ⟨g, 0, none⟩), .int .i64 3] (by rfl) rfl rfl (by (try simp only [List.map_toArray, List.map_cons, List.map_nil]); first | done | rfl | (simp only [List.length_drop, List.length_take]; rfl)) ?_
       with_reducible refine (spec_l6Rd_pick.calls k1 g s0_0 x1001_1 3 t350 t351 w0 _ ?side1 ?side2 A46.out).mono ?_
       (case side1 => repeat (first | (with_reducible first | exact HI0.out | apply IsS104.alloc | apply IsS104.drewN | apply IsS104.drew | apply IsS104.set_1 | refine IsS104.far ?_ NB0_336.out _ | refine IsS104.far ?_ NB0_342.out _) | exact HI0.out))
       (case side2 => repeat (first | (with_reducible first | exact HB.out | apply below_alloc | apply pw_below_drewN | apply below_drew1 | refine below_set ?_ (IsS104.ge HI0.out) | refine below_set ?_ GE336.out | refine below_set ?_ GE342.out) | exact HB.out))
       rintro e w53 ⟨rfl, hi, hb, hk⟩
       refine ⟨_, rfl, ?_⟩
       have n0 := Az (Kd.Q_mono (Kd.Q_keep (IsS104.apartQ (show IsS104 w0 _ g s0_0 x1001_1 from by repeat (first | (with_reducible first | exact HI0.out | apply IsS104.alloc | apply IsS104.drewN | apply IsS104.drew | apply IsS104.set_1 | refine IsS104.far ?_ NB0_336.out _ | refine IsS104.far ?_ NB0_342.out _) | exact HI0.out)) (qU HO_Z1.out) (by decide)) hk (fun _ h => h.2)) (fun _ h => h.1)); have n1 := Az (KeepBut.blk hk (g' := gb336) (o := .cells #[.string (⟨#[]⟩ : ByteArray), .slice none 0 0] 25 (0, 0)) (kU BK336.out) NB336_0.out (by simp)); have n2 := Az (KeepBut.blk hk (g' := gb342) (o := .cells #[.string (xZ0_1 ++ (⟨#[40]⟩ : ByteArray)), uZ1] 25 (0, 0)) (kU BK342.out) NB342_0.out (by simp)); have n3 := Az (KeepBut.trans (by repeat (first | (with_reducible first | exact HK.out | apply KeepBut.set_ | apply keep_drewN | apply keep_drew | apply keep_alloc | refine keep_far ?_ GW336.out _ | refine keep_far ?_ GW342.out _) | exact HK.out)) hk (.inl rfl)); have n4 := Az (hb); have n5 := Az (hi); clear HO_Z1 BK336 BK342 HK HB HI0; have HO_Z1 := n0; have BK336 := n1; have BK342 := n2; have HK := n3; have HB := n4; have HI0 := n5; clear n0 n1 n2 n3 n4 n5; (try clear hb); (try clear hb2); (try clear hk); (try clear hi)
       refine hK.out _ _ ⟨(blk_cell BK342.out 0).trans rfl, (blk_cell BK342.out 1).trans rfl⟩ (fun hHeld => ?_)
       clear hK K
       refine norm_ (a' := ?_) ?_ ?_
       rotate_left
       ·
        show Act.put _ (some 47) _ = _
        simp only [Act.put, List.setIfInBounds_toArray, List.set_cons_zero, List.set_cons_succ, i64_w, i32_w]
        rfl
       refine pure_ (i := 4) (N := some 48) (v := ?_) (a' := ?_) #[true, true, true, true, true, false, false, false, false] rfl rfl (any_of HT_.out (by kernel_rfl)) (fun _ _ _ h => h) (Or.inl ⟨by rfl, ?_⟩) ?_ ?_
       rotate_left
       ·
        intro w'
        go_simp
        with_reducible rfl
       rotate_left
       ·
        simp only [Act.put, List.setIfInBounds_toArray, List.set_cons_zero, List.set_cons_succ, i64_w, i32_w]
        rfl
       refine one_ (i := 5) (N := some 49) #[true, true, true, true, true, true, false, false, false] rfl rfl (one_of HT_.out (by kernel_rfl)) (by decide) (fun K hK => ?_)
       refine value_ (w1 := ?_) (v := ?_) (by rfl) rfl ?_ ?_
       rotate_left 2
       ·
        go_simp
        constructor
        ·
         rfl
        ·
         rfl
       refine hK.out _ _ ⟨(blk_cell (blk_alloc BK342.out _) 0).trans rfl, (blk_cell (blk_alloc BK342.out _) 1).trans rfl⟩ (fun hHeld => ?_)
       clear hK K
       refine norm_ (a' := ?_) ?_ ?_
       rotate_left
       ·
        show Act.put _ (some 49) _ = _
        simp only [Act.put, List.setIfInBounds_toArray, List.set_cons_zero, List.set_cons_succ, i64_w, i32_w]
        rfl
       refine one_ (i := 6) (N := some 50) #[true, true, true, true, true, true, true, false, false] rfl rfl (one_of HT_.out (by kernel_rfl)) (by decide) (fun K hK => ?_)
       refine Kd.Q_append_step (Kd.int .i64) w.heap.size (by rfl) (.tmp 45) (.tmp 49) 23 3 (.int .i64 0) 8 rfl Try.underlying23 info3 rfl (by decide) (by omega) uZ1 xZ1_1 (wrap64 (t350 - 1)) [.int .i64 (wrap64 (t350 - 1))] (fun _ => True) (fun _ => False) rfl rfl ?aP (fun _ hk => hk.elim) ?aF ?aO (Below.refl _ _) ?aS ?aL ?_
       (case aP => exact rfl)
       (case aF => exact (fun _ _ => trivial))
       (case aO => exact (qU HO_Z1.out))
       (case aS => exact (keep_size (w := w) (g := g) (row := none) (by repeat (first | (with_reducible first | exact HK.out | apply KeepBut.set_ | apply keep_drewN | apply keep_drew | apply keep_alloc | refine keep_far ?_ GW336.out _ | refine keep_far ?_ GW342.out _) | exact HK.out))))
       (case aL => have := LMc47.out; omega)
       intro v353 w54 ho hb hg hat
       rw [← Ny352.out] at ho; have n0 := Az (blk_grown (g := gb336) (o := .cells #[.string (⟨#[]⟩ : ByteArray), .slice none 0 0] 25 (0, 0)) (kU BK336.out) hg (Kd.Q_ne HO_Z1.out BK336.out (by decide))); have n1 := Az (blk_grown (g := gb342) (o := .cells #[.string (xZ0_1 ++ (⟨#[40]⟩ : ByteArray)), uZ1] 25 (0, 0)) (kU BK342.out) hg (Kd.Q_ne HO_Z1.out BK342.out (by decide))); have n2 := Az (IsS104.grown (by repeat (first | (with_reducible first | exact HI0.out | apply IsS104.alloc | apply IsS104.drewN | apply IsS104.drew | apply IsS104.set_1 | refine IsS104.far ?_ NB0_336.out _ | refine IsS104.far ?_ NB0_342.out _) | exact HI0.out)) hg (IsS104.own_neQ HI0.out HO_Z1.out (by decide))); have n3 := Az (below_weaken (by repeat (first | (with_reducible first | exact HB.out | apply below_alloc | apply pw_below_drewN | apply below_drew1 | refine below_set ?_ (IsS104.ge HI0.out) | refine below_set ?_ GE336.out | refine below_set ?_ GE342.out) | exact HB.out)) HL.out hb); have n4 := Az (KeepBut.trans (by repeat (first | (with_reducible first | exact HK.out | apply KeepBut.set_ | apply keep_drewN | apply keep_drew | apply keep_alloc | refine keep_far ?_ GW336.out _ | refine keep_far ?_ GW342.out _) | exact HK.out)) (KeepBut.of_grown hg g) (Kd.Q_base2 HO_Z1.out)); have n5 := Az (ho); clear BK336 BK342 HI0 HB HK HO_Z1; have BK336 := n0; have BK342 := n1; have HI0 := n2; have HB := n3; have HK := n4; have HO354 := n5; clear n0 n1 n2 n3 n4 n5 ho hb hg hat; obtain ⟨Ao55, co55, eo55, _⟩ := Kd.Q_slice HO354.out; (first | subst eo55 | (injection eo55 with f1_ f2_ f3_; have f4_ := f1_.symm; have f5_ := f3_.symm; clear f1_ f2_ f3_; subst f4_; subst f5_))
       refine hK.out _ _ ⟨(blk_cell BK342.out 0).trans rfl, (blk_cell BK342.out 1).trans rfl⟩ (fun hHeld => ?_)
       clear hK K
       refine norm_ (a' := ?_) ?_ ?_
       rotate_left
       ·
        show Act.put _ (some 50) _ = _
        simp only [Act.put, List.setIfInBounds_toArray, List.set_cons_zero, List.set_cons_succ, i64_w, i32_w]
        rfl
       refine pure_ (i := 7) (N := some 51) (v := ?_) (a' := ?_) #[true, true, true, true, true, true, true, true, false] rfl rfl (any_of HT_.out (by kernel_rfl)) (fun _ _ _ h => h) (Or.inl ⟨by rfl, ?_⟩) ?_ ?_
       rotate_left
       ·
        intro w'
        go_simp
        with_reducible rfl
       rotate_left
       ·
        simp only [Act.put, List.setIfInBounds_toArray, List.set_cons_zero, List.set_cons_succ, i64_w, i32_w]
        rfl
       refine last_ (i := 8) (N := none) #[true, true, true, true, true, true, true, true, true] rfl rfl (one_of HT_.out (by kernel_rfl)) (by decide) (fun K hK => ?_)
       have hs56 : w54.cell? ⟨gb342, 1, none⟩ = some (uZ1) := (blk_cell BK342.out 1).trans rfl; have hfs56 := blk_frozen BK342.out 1; have hns56_0 := NB336_342.out; have hms56_0 := NB342_336.out
       refine skip_ (w1 := ?_) (by rfl) rfl ?_ ?_
       rotate_left
       ·
        go_simp
        rfl
       refine hK.out _ _ ?_
       clear hK K
       refine done_ (done_of HT_.out (by kernel_rfl)) ?_
       try go_wp2
       (first | go_roundg k1 | (refine Handed.intro k1 ?measure ?_; rotate_left; go_step; (try simp only [add_plain]); (repeat apply Exists.intro); refine ⟨?rel, rfl⟩))
       case measure => have := HK1.out; omega
       case rel => exact ⟨(wrap64 (x7_1 + 1)), (t351), (xZ0_1 ++ (⟨#[40]⟩ : ByteArray)), (y352), (.slice Ao55 y352.length co55), rS, H', ⟨by have := HK1.out; omega⟩, ⟨by (with_reducible repeat (first | apply Kd.Q_alloc | apply Kd.Q_drewN | apply Kd.Q_drew)); exact Kd.Q_mono (Kd.Q_far (p := ⟨gb342, 1, none⟩) (Kd.Q_types HO354.out BK342.out (by decide)) (fun _ hk => hk.2) (.slice Ao55 y352.length co55)) (fun _ hk => trivial)⟩, ⟨by (with_reducible repeat (first | refine blk_drewN ?_ _ | refine blk_drew ?_ | refine blk_alloc ?_ _)); refine blk_far ?_ NB336_342.out _; (with_reducible repeat (first | refine blk_drewN ?_ _ | refine blk_drew ?_ | refine blk_alloc ?_ _)); exact BK336.out⟩, ⟨by (with_reducible repeat (first | refine blk_drewN ?_ _ | refine blk_drew ?_ | refine blk_alloc ?_ _)); refine blk_put (cs := #[.string (xZ0_1 ++ (⟨#[40]⟩ : ByteArray)), uZ1]) ?_ 1 _ rfl; (with_reducible repeat (first | refine blk_drewN ?_ _ | refine blk_drew ?_ | refine blk_alloc ?_ _)); exact BK342.out⟩, ⟨by repeat (first | (with_reducible first | exact HI0.out | apply IsS104.alloc | apply IsS104.drewN | apply IsS104.drew | apply IsS104.set_1 | refine IsS104.far ?_ NB0_336.out _ | refine IsS104.far ?_ NB0_342.out _) | exact HI0.out)⟩, ⟨by repeat (first | (with_reducible first | exact HK.out | apply KeepBut.set_ | apply keep_drewN | apply keep_drew | apply keep_alloc | refine keep_far ?_ GW336.out _ | refine keep_far ?_ GW342.out _) | exact HK.out)⟩, ⟨by repeat (first | (with_reducible first | exact HB.out | apply below_alloc | apply pw_below_drewN | apply below_drew1 | refine below_set ?_ (IsS104.ge HI0.out) | refine below_set ?_ GE336.out | refine below_set ?_ GE342.out) | exact HB.out)⟩⟩
      ·
       rw [if_neg c47] at H
       exact absurd H (by simp)
     ·
      rw [if_neg c45] at H
      exact absurd H (by simp)
   ·
    rw [if_neg c13] at H; have c13b0 := decide_eq_false c13; clear c13; replace H := Option.bind_eq_some_iff.mp H; obtain ⟨⟨t355, t356⟩, A570, H⟩ := H; replace H : (if t355 = 0 then ((spec_l6Rd_of.f k1 s0_0 t356 (([(⟨#[40]⟩ : ByteArray), (⟨#[41]⟩ : ByteArray), (⟨#[120]⟩ : ByteArray), (⟨#[40, 41]⟩ : ByteArray)] : List ByteArray))).bind fun bt360 => (if xZ0_1.size + bt360.1.size ≤ 9223372036854775807 then (some (xZ0_1 ++ bt360.1, xZ1_1, bt360.2)) else (none))) else (if t355 = 1 then ((some (([(-2), 2] : List Int) : List Int)).bind fun y362 => ((spec_l6Rd_pick.f k1 s0_0 t356 2).bind fun bt365 => (if 0 ≤ bt365.1 then (if bt365.1 < (y362.length : Int) then (if 0 < (xZ1_1.length : Int) then (some (xZ0_1, (xZ1_1.set (0 : Int).toNat (rd y362 bt365.1)), bt365.2)) else (none)) else (none)) else (none)))) else (if t355 = 2 then (if 1 ≤ (xZ1_1.length : Int) then (some (xZ0_1, (xZ1_1.drop (1 : Int).toNat), t356)) else (none)) else (some (xZ0_1, xZ1_1, t356))))) = some (r1, r2, r3) := H; have A57 := Az A570; clear A570
    by_cases c58 : t355 = 0
    ·
     rw [if_pos c58] at H; have c58b0 := beq_iff_eq.mpr c58; have c58b1 := bne_eq_false_iff_eq.mpr c58; clear c58; obtain ⟨y357, hy357⟩ : ∃ y_ : List ByteArray, y_ = (([(⟨#[40]⟩ : ByteArray), (⟨#[41]⟩ : ByteArray), (⟨#[120]⟩ : ByteArray), (⟨#[40, 41]⟩ : ByteArray)] : List ByteArray)) := ⟨_, rfl⟩; replace H : ((spec_l6Rd_of.f k1 s0_0 t356 y357).bind fun bt360 => (if xZ0_1.size + bt360.1.size ≤ 9223372036854775807 then (some (xZ0_1 ++ bt360.1, xZ1_1, bt360.2)) else (none))) = some (r1, r2, r3) := hR hy357 H; have Ny357 := Az hy357; clear hy357; replace H := Option.bind_eq_some_iff.mp H; obtain ⟨⟨t360, t361⟩, A590, H⟩ := H; replace H : (if xZ0_1.size + t360.size ≤ 9223372036854775807 then (some (xZ0_1 ++ t360, xZ1_1, t361)) else (none)) = some (r1, r2, r3) := H; have A59 := Az A590; clear A590
     by_cases c60 : xZ0_1.size + t360.size ≤ 9223372036854775807
     ·
      rw [if_pos c60] at H; have c60b0 := eq_true c60; have c60b1 := decide_eq_true c60
      try have c60b2 : (9223372036854775807 < xZ0_1.size + t360.size) = False := eq_false (Nat.not_lt.2 c60)
      simp only [Option.some.injEq, Prod.mk.injEq] at H; obtain ⟨rfl, rfl, rfl⟩ := H; have hnb61 := NB342_336.out; have hnc61 := NB336_342.out; have hnb62 := NB342_0.out; have hnc62 := NB0_342.out; have hcz63_0 : wr.cell? ⟨gb342, 0, none⟩ = some (.string xZ0_1) := (blk_cell BK342.out 0).trans rfl; have hcz63_1 : wr.cell? ⟨gb342, 1, none⟩ = some (uZ1) := (blk_cell BK342.out 1).trans rfl; have hfz63_0 := blk_frozen BK342.out 0; have hfz63_1 := blk_frozen BK342.out 1
      try go_wp2_with (first | ((with_reducible refine gate_callee (f := 79) rfl ?_); refine goesL_ (some 55) rfl rfl Try.func79 (by kernel_rfl) rfl #[.pointer (some ⟨g, 0, none⟩), .int .i64 40] rfl (by (try simp only [List.map_toArray, List.map_cons, List.map_nil]); first | done | rfl | (simp only [List.length_drop, List.length_take]; rfl)) ?_; (with_reducible refine (spec_l6Rd_pick.calls k1 g s0_0 x1001_1 40 t355 t356 w0 _ ?side1 ?side2 A57.out).mono ?_); (case side1 => repeat (first | (with_reducible first | exact HI0.out | apply IsS104.alloc | apply IsS104.drewN | apply IsS104.drew | apply IsS104.set_1 | refine IsS104.far ?_ NB0_336.out _ | refine IsS104.far ?_ NB0_342.out _) | exact HI0.out)); (case side2 => repeat (first | (with_reducible first | exact HB.out | apply below_alloc | apply pw_below_drewN | apply below_drew1 | refine below_set ?_ (IsS104.ge HI0.out) | refine below_set ?_ GE336.out | refine below_set ?_ GE342.out) | exact HB.out)); rintro e w64 ⟨rfl, hi, hb, hk⟩; refine ⟨_, rfl, ?_⟩; have n0 := Az (Kd.Q_mono (Kd.Q_keep (IsS104.apartQ (show IsS104 w0 _ g s0_0 x1001_1 from by repeat (first | (with_reducible first | exact HI0.out | apply IsS104.alloc | apply IsS104.drewN | apply IsS104.drew | apply IsS104.set_1 | refine IsS104.far ?_ NB0_336.out _ | refine IsS104.far ?_ NB0_342.out _) | exact HI0.out)) (qU HO_Z1.out) (by decide)) hk (fun _ h => h.2)) (fun _ h => h.1)); have n1 := Az (KeepBut.blk hk (g' := gb336) (o := .cells #[.string (⟨#[]⟩ : ByteArray), .slice none 0 0] 25 (0, 0)) (kU BK336.out) NB336_0.out (by simp)); have n2 := Az (KeepBut.blk hk (g' := gb342) (o := .cells #[.string xZ0_1, uZ1] 25 (0, 0)) (kU BK342.out) NB342_0.out (by simp)); have n3 := Az (KeepBut.trans (by repeat (first | (with_reducible first | exact HK.out | apply KeepBut.set_ | apply keep_drewN | apply keep_drew | apply keep_alloc | refine keep_far ?_ GW336.out _ | refine keep_far ?_ GW342.out _) | exact HK.out)) hk (.inl rfl)); have n4 := Az (hb); have n5 := Az (hi); clear HO_Z1 BK336 BK342 HK HB HI0; have HO_Z1 := n0; have BK336 := n1; have BK342 := n2; have HK := n3; have HB := n4; have HI0 := n5; clear n0 n1 n2 n3 n4 n5; (try clear hb); (try clear hb2); (try clear hk); (try clear hi)))
      have n0 := Az (Kd.Q_drew HO_Z1.out); have n1 := Az (blk_drew BK336.out); have n2 := Az (blk_drew BK342.out); have n3 := Az (IsS104.drew HI0.out); have n4 := Az (keep_drew HK.out); have n5 := Az (below_drew1 HB.out); clear HO_Z1 BK336 BK342 HI0 HK HB; have HO_Z1 := n0; have BK336 := n1; have BK342 := n2; have HI0 := n3; have HK := n4; have HB := n5; clear n0 n1 n2 n3 n4 n5
      refine start_ (n := 8) (S := fun w' => w'.cell? ⟨gb342, 0, none⟩ = some (.string xZ0_1) ∧ w'.cell? ⟨gb342, 1, none⟩ = some (uZ1)) (ds := [7]) #[false, false, false, false, false, false, false, false] (by kernel_rfl) rfl rfl ⟨(blk_cell BK342.out 0).trans rfl, (blk_cell BK342.out 1).trans rfl⟩ (fun hHeld => ?_); refine with_tabW spec_l92Tree.tab13 spec_l92Tree.bits13 (fun HT_ HW_ => ?_)
      generalize w64.drew = w65 at HO_Z1 BK336 BK342 HI0 HK HB hHeld ⊢
      refine pure_ (i := 0) (N := some 58) (v := ?_) (a' := ?_) #[true, false, false, false, false, false, false, false] rfl rfl (any_of HT_.out (by kernel_rfl)) (fun _ _ _ h => h) (Or.inl ⟨by rfl, ?_⟩) ?_ ?_
      rotate_left
      ·
       intro w'
       go_simp
       with_reducible rfl
      rotate_left
      ·
       simp only [Act.put, List.setIfInBounds_toArray, List.set_cons_zero, List.set_cons_succ, i64_w, i32_w]
       rfl
      refine pure_ (i := 2) (N := some 60) (v := ?_) (a' := ?_) #[true, false, true, false, false, false, false, false] rfl rfl (any_of HT_.out (by kernel_rfl)) (fun _ _ _ h => h) (Or.inl ⟨by rfl, ?_⟩) ?_ ?_
      rotate_left
      ·
       intro w'
       go_simp
       with_reducible rfl
      rotate_left
      ·
       simp only [Act.put, List.setIfInBounds_toArray, List.set_cons_zero, List.set_cons_succ, i64_w, i32_w]
       rfl
      refine take_ (i := 1) (N := some 59) (v := ?_) (a' := ?_) #[true, true, true, false, false, false, false, false] rfl rfl (take_ofW HT_.out HW_.out (by kernel_rfl)) (fun _ _ _ h => h) (Or.inl ⟨by rfl, ?_⟩) hHeld ?_ ?_
      rotate_left
      ·
       rintro w' ⟨s0, s1⟩
       go_simp
       with_reducible rfl
      rotate_left
      ·
       simp only [Act.put, List.setIfInBounds_toArray, List.set_cons_zero, List.set_cons_succ, i64_w, i32_w]
       rfl
      refine one_ (i := 3) (N := some 61) #[true, true, true, true, false, false, false, false] rfl rfl (one_of HT_.out (by kernel_rfl)) (by decide) (fun K hK => ?_)
      refine Kd.R_lit_step Kd.string _ 9 ?hg (N := 61) ?hd (xs := ([(⟨#[40]⟩ : ByteArray), (⟨#[41]⟩ : ByteArray), (⟨#[120]⟩ : ByteArray), (⟨#[40, 41]⟩ : ByteArray)] : List ByteArray)) (inner := [.string (⟨#[40]⟩ : ByteArray), .string (⟨#[41]⟩ : ByteArray), .string (⟨#[120]⟩ : ByteArray), .string (⟨#[40, 41]⟩ : ByteArray)]) (ok := fun _ => True) (okp := fun _ => True) ?hr ?hp (fun _ hk => hk) trivial (Below.refl _ _) (Nat.le_refl _) (by simp) ?_; (case hd => rfl); (case hg => rfl); (case hr => first | (go_simp; done) | (go_simp; rfl)); (case hp => exact (Reps.one (show Kd.M Kd.string _ _ _ (⟨#[40]⟩ : ByteArray) [.string (⟨#[40]⟩ : ByteArray)] from rfl) (Reps.one (show Kd.M Kd.string _ _ _ (⟨#[41]⟩ : ByteArray) [.string (⟨#[41]⟩ : ByteArray)] from rfl) (Reps.one (show Kd.M Kd.string _ _ _ (⟨#[120]⟩ : ByteArray) [.string (⟨#[120]⟩ : ByteArray)] from rfl) (Reps.one (show Kd.M Kd.string _ _ _ (⟨#[40, 41]⟩ : ByteArray) [.string (⟨#[40, 41]⟩ : ByteArray)] from rfl) (Reps.none _ _))))))
      intro v358 w66 ho67 hb hg_ hnew_
      clear hg_ hnew_; (first | rw [← Ny357.out] at ho67 | (simp only [Int.reduceToNat] at ho67; rw [← Ny357.out] at ho67)); have n0 := Az (Kd.Q_below (qU HO_Z1.out) hb); have n1 := Az (Kd.R_lower ho67 (keep_size (w := w) (g := g) (row := none) (by repeat (first | (with_reducible first | exact HK.out | apply KeepBut.set_ | apply keep_drewN | apply keep_drew | apply keep_alloc | refine keep_far ?_ GW336.out _ | refine keep_far ?_ GW342.out _) | exact HK.out)))); have n2 := Az (blk_below (g := gb336) (o := .cells #[.string (⟨#[]⟩ : ByteArray), .slice none 0 0] 25 (0, 0)) (kU BK336.out) hb); have n3 := Az (blk_below (g := gb342) (o := .cells #[.string xZ0_1, uZ1] 25 (0, 0)) (kU BK342.out) hb); have n4 := Az (IsS104.below (by repeat (first | (with_reducible first | exact HI0.out | apply IsS104.alloc | apply IsS104.drewN | apply IsS104.drew | apply IsS104.set_1 | refine IsS104.far ?_ NB0_336.out _ | refine IsS104.far ?_ NB0_342.out _) | exact HI0.out)) hb); have n5 := Az (KeepBut.trans (by repeat (first | (with_reducible first | exact HK.out | apply KeepBut.set_ | apply keep_drewN | apply keep_drew | apply keep_alloc | refine keep_far ?_ GW336.out _ | refine keep_far ?_ GW342.out _) | exact HK.out)) (KeepBut.of_below hb g none) (.inl rfl)); have n6 := Az (below_step (by repeat (first | (with_reducible first | exact HB.out | apply below_alloc | apply pw_below_drewN | apply below_drew1 | refine below_set ?_ (IsS104.ge HI0.out) | refine below_set ?_ GE336.out | refine below_set ?_ GE342.out) | exact HB.out)) hb); clear HO_Z1 BK336 BK342 HI0 HK HB; have HO_Z1 := n0; have HO359 := n1; have BK336 := n2; have BK342 := n3; have HI0 := n4; have HK := n5; have HB := n6; clear n0 n1 n2 n3 n4 n5 n6 hb ho67; obtain ⟨Ao68, co68, eo68⟩ := Kd.R_slice HO359.out; (first | subst eo68 | (injection eo68 with f1_ f2_ f3_; have f4_ := f1_.symm; have f5_ := f3_.symm; clear f1_ f2_ f3_; subst f4_; subst f5_))
      refine hK.out _ _ ⟨(blk_cell BK342.out 0).trans rfl, (blk_cell BK342.out 1).trans rfl⟩ (fun hHeld => ?_)
      clear hK K
      refine norm_ (a' := ?_) ?_ ?_
      rotate_left
      ·
       show Act.put _ (some 61) _ = _
       simp only [Act.put, List.setIfInBounds_toArray, List.set_cons_zero, List.set_cons_succ, i64_w, i32_w]
       rfl
      refine one_ (i := 4) (N := some 62) #[true, true, true, true, true, false, false, false] rfl rfl (one_of HT_.out (by kernel_rfl)) (by decide) (fun K hK => ?_)
      refine goes_ Try.func104 (by kernel_rfl) rfl #[.pointer (some ⟨g, 0, none⟩), .slice Ao68 y357.length co68] (by rfl) rfl rfl (by (try simp only [List.map_toArray, List.map_cons, List.map_nil]); first | done | rfl | (simp only [List.length_drop, List.length_take]; rfl)) ?_
      with_reducible refine (spec_l6Rd_of.calls k1 g s0_0 t356 _ _ y357 t360 t361 w0 _ ?side1 ?side2 ?side3 ?side4 ?side5 A59.out).mono ?_
      (case side1 => repeat (first | (with_reducible first | exact HI0.out | apply IsS104.alloc | apply IsS104.drewN | apply IsS104.drew | apply IsS104.set_1 | refine IsS104.far ?_ NB0_336.out _ | refine IsS104.far ?_ NB0_342.out _) | exact HI0.out))
      (case side2 => repeat (first | (with_reducible first | exact HB.out | apply below_alloc | apply pw_below_drewN | apply below_drew1 | refine below_set ?_ (IsS104.ge HI0.out) | refine below_set ?_ GE336.out | refine below_set ?_ GE342.out) | exact HB.out))
      (case side3 => exact cU ((Kd.R_reads' HO359.out).2.2))
      (case side4 => exact (Kd.R_reads' HO359.out).2.1)
      (case side5 => exact far_slice (IsS104.own_ne HI0.out HO359.out (by decide)))
      rintro e w69 ⟨rfl, hi, hb, hk⟩
      refine ⟨_, rfl, ?_⟩
      have n0 := Az (Kd.Q_mono (Kd.Q_keep (IsS104.apartQ (show IsS104 w0 _ g s0_0 t356 from by repeat (first | (with_reducible first | exact HI0.out | apply IsS104.alloc | apply IsS104.drewN | apply IsS104.drew | apply IsS104.set_1 | refine IsS104.far ?_ NB0_336.out _ | refine IsS104.far ?_ NB0_342.out _) | exact HI0.out)) (qU HO_Z1.out) (by decide)) hk (fun _ h => h.2)) (fun _ h => h.1)); have n1 := Az (KeepBut.blk hk (g' := gb336) (o := .cells #[.string (⟨#[]⟩ : ByteArray), .slice none 0 0] 25 (0, 0)) (kU BK336.out) NB336_0.out (by simp)); have n2 := Az (KeepBut.blk hk (g' := gb342) (o := .cells #[.string xZ0_1, uZ1] 25 (0, 0)) (kU BK342.out) NB342_0.out (by simp)); have n3 := Az (Kd.R_mono (Kd.R_keep (IsS104.apart (show IsS104 w0 _ g s0_0 t356 from by repeat (first | (with_reducible first | exact HI0.out | apply IsS104.alloc | apply IsS104.drewN | apply IsS104.drew | apply IsS104.set_1 | refine IsS104.far ?_ NB0_336.out _ | refine IsS104.far ?_ NB0_342.out _) | exact HI0.out)) (rU HO359.out) (by decide)) hk (fun _ h => h.2)) (fun _ h => h.1)); have n4 := Az (KeepBut.trans (by repeat (first | (with_reducible first | exact HK.out | apply KeepBut.set_ | apply keep_drewN | apply keep_drew | apply keep_alloc | refine keep_far ?_ GW336.out _ | refine keep_far ?_ GW342.out _) | exact HK.out)) hk (.inl rfl)); have n5 := Az (hb); have n6 := Az (hi); clear HO_Z1 BK336 BK342 HO359 HK HB HI0; have HO_Z1 := n0; have BK336 := n1; have BK342 := n2; have HO359 := n3; have HK := n4; have HB := n5; have HI0 := n6; clear n0 n1 n2 n3 n4 n5 n6; (try clear hb); (try clear hb2); (try clear hk); (try clear hi)
      refine hK.out _ _ ⟨(blk_cell BK342.out 0).trans rfl, (blk_cell BK342.out 1).trans rfl⟩ (fun hHeld => ?_)
      clear hK K
      refine norm_ (a' := ?_) ?_ ?_
      rotate_left
      ·
       show Act.put _ (some 62) _ = _
       simp only [Act.put, List.setIfInBounds_toArray, List.set_cons_zero, List.set_cons_succ, i64_w, i32_w]
       rfl
      refine pure_ (i := 5) (N := some 63) (v := ?_) (a' := ?_) #[true, true, true, true, true, true, false, false] rfl rfl (any_of HT_.out (by kernel_rfl)) (fun _ _ _ h => h) (Or.inl ⟨by rfl, ?_⟩) ?_ ?_
      rotate_left
      ·
       intro w'
       go_simp
       with_reducible rfl
      rotate_left
      ·
       simp only [Act.put, List.setIfInBounds_toArray, List.set_cons_zero, List.set_cons_succ, i64_w, i32_w]
       rfl
      refine pure_ (i := 6) (N := some 64) (v := ?_) (a' := ?_) #[true, true, true, true, true, true, true, false] rfl rfl (any_of HT_.out (by kernel_rfl)) (fun _ _ _ h => h) (Or.inl ⟨by rfl, ?_⟩) ?_ ?_
      rotate_left
      ·
       intro w'
       go_simp
       with_reducible rfl
      rotate_left
      ·
       simp only [Act.put, List.setIfInBounds_toArray, List.set_cons_zero, List.set_cons_succ, i64_w, i32_w]
       rfl
      refine last_ (i := 7) (N := none) #[true, true, true, true, true, true, true, true] rfl rfl (one_of HT_.out (by kernel_rfl)) (by decide) (fun K hK => ?_)
      have hs70 : w69.cell? ⟨gb342, 0, none⟩ = some (.string xZ0_1) := (blk_cell BK342.out 0).trans rfl; have hfs70 := blk_frozen BK342.out 0; have hns70_0 := NB336_342.out; have hms70_0 := NB342_336.out
      refine skip_ (w1 := ?_) (by rfl) rfl ?_ ?_
      rotate_left
      ·
       go_simp
       rfl
      refine hK.out _ _ ?_
      clear hK K
      refine done_ (done_of HT_.out (by kernel_rfl)) ?_
      have hcz71_0 : w69.cell? ⟨gb342, 0, none⟩ = some (.string xZ0_1) := (blk_cell BK342.out 0).trans rfl; have hcz71_1 : w69.cell? ⟨gb342, 1, none⟩ = some (uZ1) := (blk_cell BK342.out 1).trans rfl; have hfz71_0 := blk_frozen BK342.out 0; have hfz71_1 := blk_frozen BK342.out 1; have hnb72 := NB336_0.out; have hnc72 := NB0_336.out; have hcz73_0 : w69.cell? ⟨gb336, 0, none⟩ = some (.string (⟨#[]⟩ : ByteArray)) := (blk_cell BK336.out 0).trans rfl; have hcz73_1 : w69.cell? ⟨gb336, 1, none⟩ = some (.slice none 0 0) := (blk_cell BK336.out 1).trans rfl; have hfz73_0 := blk_frozen BK336.out 0; have hfz73_1 := blk_frozen BK336.out 1; obtain ⟨Ao74, co74, eo74, _⟩ := Kd.Q_slice HO_Z1.out; subst eo74
      try go_wp2
      refine bodyPost_ret (results_cell_row rfl _ _ gb336 25 #[.string (xZ0_1 ++ t360), .slice Ao74 xZ1_1.length co74] (0, 0) _ rfl (by (with_reducible repeat (first | refine blk_drewN ?_ _ | refine blk_drew ?_ | refine blk_alloc ?_ _)); refine blk_put (cs := #[.string (xZ0_1 ++ t360), .slice none 0 0]) ?_ 1 _ rfl; (with_reducible repeat (first | refine blk_drewN ?_ _ | refine blk_drew ?_ | refine blk_alloc ?_ _)); refine blk_put (cs := #[.string (⟨#[]⟩ : ByteArray), .slice none 0 0]) ?_ 0 _ rfl; (with_reducible repeat (first | refine blk_drewN ?_ _ | refine blk_drew ?_ | refine blk_alloc ?_ _)); refine blk_far ?_ NB336_342.out _; (with_reducible repeat (first | refine blk_drewN ?_ _ | refine blk_drew ?_ | refine blk_alloc ?_ _)); exact BK336.out) Try.underlying25 rfl (by kernel_rfl)) rfl ?_
      exact ⟨_, rE, by (with_reducible repeat (first | apply Kd.Q_alloc | apply Kd.Q_drewN | apply Kd.Q_drew)); exact Kd.Q_mono (Kd.Q_far (p := ⟨gb336, 1, none⟩) (Kd.Q_far (p := ⟨gb336, 0, none⟩) (Kd.Q_far (p := ⟨gb342, 0, none⟩) (Kd.Q_types (Kd.Q_types HO_Z1.out BK342.out (by decide)) BK336.out (by decide)) (fun _ hk => hk.1.2) (.string (xZ0_1 ++ t360))) (fun _ hk => hk.2) (.string (xZ0_1 ++ t360))) (fun _ hk => hk.2) (.slice Ao74 xZ1_1.length co74)) (fun _ hk => trivial), by repeat (first | (with_reducible first | exact HI0.out | apply IsS104.alloc | apply IsS104.drewN | apply IsS104.drew | apply IsS104.set_1 | refine IsS104.far ?_ NB0_336.out _ | refine IsS104.far ?_ NB0_342.out _) | exact HI0.out), by repeat (first | (with_reducible first | exact HB.out | apply below_alloc | apply pw_below_drewN | apply below_drew1 | refine below_set ?_ (IsS104.ge HI0.out) | refine below_set ?_ GE336.out | refine below_set ?_ GE342.out) | exact HB.out), by repeat (first | (with_reducible first | exact HK.out | apply KeepBut.set_ | apply keep_drewN | apply keep_drew | apply keep_alloc | refine keep_far ?_ GW336.out _ | refine keep_far ?_ GW342.out _) | exact HK.out)⟩
     ·
      rw [if_neg c60] at H
      exact absurd H (by simp)
    ·
     rw [if_neg c58] at H; have c58b0 := beq_eq_false_iff_ne.mpr c58; have c58b1 := bne_iff_ne.mpr c58
     by_cases c75 : t355 = 1
     ·
      rw [if_pos c75] at H; have c75b0 := beq_iff_eq.mpr c75; have c75b1 := bne_eq_false_iff_eq.mpr c75; clear c75; obtain ⟨y362, hy362⟩ : ∃ y_ : List Int, y_ = (([(-2), 2] : List Int)) := ⟨_, rfl⟩; replace H : ((spec_l6Rd_pick.f k1 s0_0 t356 2).bind fun bt365 => (if 0 ≤ bt365.1 then (if bt365.1 < (y362.length : Int) then (if 0 < (xZ1_1.length : Int) then (some (xZ0_1, (xZ1_1.set (0 : Int).toNat (rd y362 bt365.1)), bt365.2)) else (none)) else (none)) else (none))) = some (r1, r2, r3) := hR hy362 H; have Ny362 := Az hy362; clear hy362; replace H := Option.bind_eq_some_iff.mp H; obtain ⟨⟨t365, t366⟩, A760, H⟩ := H; replace H : (if 0 ≤ t365 then (if t365 < (y362.length : Int) then (if 0 < (xZ1_1.length : Int) then (some (xZ0_1, (xZ1_1.set (0 : Int).toNat (rd y362 t365)), t366)) else (none)) else (none)) else (none)) = some (r1, r2, r3) := H; have A76 := Az A760; clear A760
      by_cases c77 : 0 ≤ t365
      ·
       rw [if_pos c77] at H; have c77b0 := decide_eq_true c77; clear c77
       by_cases c78 : t365 < (y362.length : Int)
       ·
        rw [if_pos c78] at H; have c78b0 := decide_eq_true c78; clear c78
        by_cases c79 : 0 < (xZ1_1.length : Int)
        ·
         rw [if_pos c79] at H; have c79b0 := decide_eq_true c79; have c79b1 : decide (0 < xZ1_1.length) = true := decide_eq_true (by omega); clear c79; obtain ⟨y368, hy368⟩ : ∃ y_ : List Int, y_ = (xZ1_1.set (0 : Int).toNat (rd y362 t365)) := ⟨_, rfl⟩; replace H : (some (xZ0_1, y368, t366)) = some (r1, r2, r3) := hR hy368 H; have Ny368 := Az hy368; clear hy368; simp only [Option.some.injEq, Prod.mk.injEq] at H; obtain ⟨rfl, rfl, rfl⟩ := H; have hnb81 := NB342_336.out; have hnc81 := NB336_342.out; have hnb82 := NB342_0.out; have hnc82 := NB0_342.out; have hcz83_0 : wr.cell? ⟨gb342, 0, none⟩ = some (.string xZ0_1) := (blk_cell BK342.out 0).trans rfl; have hcz83_1 : wr.cell? ⟨gb342, 1, none⟩ = some (uZ1) := (blk_cell BK342.out 1).trans rfl; have hfz83_0 := blk_frozen BK342.out 0; have hfz83_1 := blk_frozen BK342.out 1
         try go_wp2_with (first | ((with_reducible refine gate_callee (f := 79) rfl ?_); refine goesL_ (some 55) rfl rfl Try.func79 (by kernel_rfl) rfl #[.pointer (some ⟨g, 0, none⟩), .int .i64 40] rfl (by (try simp only [List.map_toArray, List.map_cons, List.map_nil]); first | done | rfl | (simp only [List.length_drop, List.length_take]; rfl)) ?_; (with_reducible refine (spec_l6Rd_pick.calls k1 g s0_0 x1001_1 40 t355 t356 w0 _ ?side1 ?side2 A57.out).mono ?_); (case side1 => repeat (first | (with_reducible first | exact HI0.out | apply IsS104.alloc | apply IsS104.drewN | apply IsS104.drew | apply IsS104.set_1 | refine IsS104.far ?_ NB0_336.out _ | refine IsS104.far ?_ NB0_342.out _) | exact HI0.out)); (case side2 => repeat (first | (with_reducible first | exact HB.out | apply below_alloc | apply pw_below_drewN | apply below_drew1 | refine below_set ?_ (IsS104.ge HI0.out) | refine below_set ?_ GE336.out | refine below_set ?_ GE342.out) | exact HB.out)); rintro e w84 ⟨rfl, hi, hb, hk⟩; refine ⟨_, rfl, ?_⟩; have n0 := Az (Kd.Q_mono (Kd.Q_keep (IsS104.apartQ (show IsS104 w0 _ g s0_0 x1001_1 from by repeat (first | (with_reducible first | exact HI0.out | apply IsS104.alloc | apply IsS104.drewN | apply IsS104.drew | apply IsS104.set_1 | refine IsS104.far ?_ NB0_336.out _ | refine IsS104.far ?_ NB0_342.out _) | exact HI0.out)) (qU HO_Z1.out) (by decide)) hk (fun _ h => h.2)) (fun _ h => h.1)); have n1 := Az (KeepBut.blk hk (g' := gb336) (o := .cells #[.string (⟨#[]⟩ : ByteArray), .slice none 0 0] 25 (0, 0)) (kU BK336.out) NB336_0.out (by simp)); have n2 := Az (KeepBut.blk hk (g' := gb342) (o := .cells #[.string xZ0_1, uZ1] 25 (0, 0)) (kU BK342.out) NB342_0.out (by simp)); have n3 := Az (KeepBut.trans (by repeat (first | (with_reducible first | exact HK.out | apply KeepBut.set_ | apply keep_drewN | apply keep_drew | apply keep_alloc | refine keep_far ?_ GW336.out _ | refine keep_far ?_ GW342.out _) | exact HK.out)) hk (.inl rfl)); have n4 := Az (hb); have n5 := Az (hi); clear HO_Z1 BK336 BK342 HK HB HI0; have HO_Z1 := n0; have BK336 := n1; have BK342 := n2; have HK := n3; have HB := n4; have HI0 := n5; clear n0 n1 n2 n3 n4 n5; (try clear hb); (try clear hb2); (try clear hk); (try clear hi)))
         have pi367 : (0 ≤ (t365 : Int)) = True := eq_true (oA); have qi367 : (t365 < (y362.length : Int)) = True := eq_true (oA); have n0 := Az (Kd.Q_drew HO_Z1.out); have n1 := Az (blk_drew BK336.out); have n2 := Az (blk_drew BK342.out); have n3 := Az (IsS104.drew HI0.out); have n4 := Az (keep_drew HK.out); have n5 := Az (below_drew1 HB.out); clear HO_Z1 BK336 BK342 HI0 HK HB; have HO_Z1 := n0; have BK336 := n1; have BK342 := n2; have HI0 := n3; have HK := n4; have HB := n5; clear n0 n1 n2 n3 n4 n5
         refine start_ (n := 9) (S := fun w' => w'.cell? ⟨gb342, 0, none⟩ = some (.string xZ0_1) ∧ w'.cell? ⟨gb342, 1, none⟩ = some (uZ1)) (ds := [8]) #[false, false, false, false, false, false, false, false, false] (by kernel_rfl) rfl rfl ⟨(blk_cell BK342.out 0).trans rfl, (blk_cell BK342.out 1).trans rfl⟩ (fun hHeld => ?_); refine with_tabW spec_l92Tree.tab15 spec_l92Tree.bits15 (fun HT_ HW_ => ?_)
         generalize w84.drew = w85 at HO_Z1 BK336 BK342 HI0 HK HB hHeld ⊢
         refine pure_ (i := 0) (N := some 67) (v := ?_) (a' := ?_) #[true, false, false, false, false, false, false, false, false] rfl rfl (any_of HT_.out (by kernel_rfl)) (fun _ _ _ h => h) (Or.inl ⟨by rfl, ?_⟩) ?_ ?_
         rotate_left
         ·
          intro w'
          go_simp
          with_reducible rfl
         rotate_left
         ·
          simp only [Act.put, List.setIfInBounds_toArray, List.set_cons_zero, List.set_cons_succ, i64_w, i32_w]
          rfl
         refine pure_ (i := 3) (N := some 70) (v := ?_) (a' := ?_) #[true, false, false, true, false, false, false, false, false] rfl rfl (any_of HT_.out (by kernel_rfl)) (fun _ _ _ h => h) (Or.inl ⟨by rfl, ?_⟩) ?_ ?_
         rotate_left
         ·
          intro w'
          go_simp
          with_reducible rfl
         rotate_left
         ·
          simp only [Act.put, List.setIfInBounds_toArray, List.set_cons_zero, List.set_cons_succ, i64_w, i32_w]
          rfl
         refine take_ (i := 1) (N := some 68) (v := ?_) (a' := ?_) #[true, true, false, true, false, false, false, false, false] rfl rfl (take_ofW HT_.out HW_.out (by kernel_rfl)) (fun _ _ _ h => h) (Or.inl ⟨by rfl, ?_⟩) hHeld ?_ ?_
         rotate_left
         ·
          rintro w' ⟨s0, s1⟩
          go_simp
          with_reducible rfl
         rotate_left
         ·
          simp only [Act.put, List.setIfInBounds_toArray, List.set_cons_zero, List.set_cons_succ, i64_w, i32_w]
          rfl
         refine join_ (σ := Value × Addr) 4 #[true, true, true, true, true, false, false, false, false] (fun s_ => [(69, s_.1), (71, .int .i64 t365)]) (fun s_ w' => (w'.cell? ⟨gb342, 0, none⟩ = some (.string xZ0_1) ∧ w'.cell? ⟨gb342, 1, none⟩ = some (uZ1)) ∧ (Kd.R (Kd.int .i64) 3 w' w.heap.size (fun k_ => some k_ ≠ (uZ1 : Value).ownBlock) s_.1 y362) ∧ (Kd.Q (Kd.int .i64) 3 w' w.heap.size (fun k_ => some k_ ≠ (s_.1 : Value).ownBlock) uZ1 xZ1_1) ∧ (∃ c_, (s_.1 : Value) = .slice (some s_.2) y362.length c_) ∧ (w'.heap[gb336]? = some (.cells #[.string (⟨#[]⟩ : ByteArray), .slice none 0 0] 25 (0, 0))) ∧ (w'.heap[gb342]? = some (.cells #[.string xZ0_1, uZ1] 25 (0, 0))) ∧ (IsS104 w0 w' g s0_0 t366) ∧ (KeepBut w w' g none) ∧ (Below w0.heap.size w0 w')) ?_ ?_
         rotate_left
         ·
          intro hCont
          refine two_ (i := 2) (j := 4) (Ni := some 69) (Nj := some 71) #[true, true, true, true, false, false, false, false, false] #[true, true, false, true, true, false, false, false, false] rfl rfl rfl rfl (two_of HT_.out (by kernel_rfl)) (by decide) (by decide) (fun K hK => ?_) (fun K hK => ?_)
          ·
           skip
           refine Kd.R_lit_step (Kd.int .i64) _ 3 ?hg (N := 69) ?hd (xs := ([(-2), 2] : List Int)) (inner := [.int .i64 (-2), .int .i64 2]) (ok := fun _ => True) (okp := fun _ => True) ?hr ?hp (fun _ hk => hk) trivial (Below.refl _ _) (Nat.le_refl _) (by simp) ?_; (case hd => rfl); (case hg => rfl); (case hr => first | (go_simp; done) | (go_simp; rfl)); (case hp => exact (Reps.one (show Kd.M (Kd.int .i64) _ _ _ (-2) [.int .i64 (-2)] from rfl) (Reps.one (show Kd.M (Kd.int .i64) _ _ _ 2 [.int .i64 2] from rfl) (Reps.none _ _))))
           intro v363 w86 ho87 hb hg_ hnew_
           clear hg_ hnew_; (first | rw [← Ny362.out] at ho87 | (simp only [Int.reduceToNat] at ho87; rw [← Ny362.out] at ho87)); have n0 := Az (Kd.Q_elder' (qU HO_Z1.out) (Kd.R_base ho87) hb); have n1 := Az (Kd.R_lower (Kd.R_new' ho87 (Kd.Q_lt (qU HO_Z1.out))) (keep_size (w := w) (g := g) (row := none) (by repeat (first | (with_reducible first | exact HK.out | apply KeepBut.set_ | apply keep_drewN | apply keep_drew | apply keep_alloc | refine keep_far ?_ GW336.out _ | refine keep_far ?_ GW342.out _) | exact HK.out)))); have n2 := Az (blk_below (g := gb336) (o := .cells #[.string (⟨#[]⟩ : ByteArray), .slice none 0 0] 25 (0, 0)) (kU BK336.out) hb); have n3 := Az (blk_below (g := gb342) (o := .cells #[.string xZ0_1, uZ1] 25 (0, 0)) (kU BK342.out) hb); have n4 := Az (IsS104.below (by repeat (first | (with_reducible first | exact HI0.out | apply IsS104.alloc | apply IsS104.drewN | apply IsS104.drew | apply IsS104.set_1 | refine IsS104.far ?_ NB0_336.out _ | refine IsS104.far ?_ NB0_342.out _) | exact HI0.out)) hb); have n5 := Az (KeepBut.trans (by repeat (first | (with_reducible first | exact HK.out | apply KeepBut.set_ | apply keep_drewN | apply keep_drew | apply keep_alloc | refine keep_far ?_ GW336.out _ | refine keep_far ?_ GW342.out _) | exact HK.out)) (KeepBut.of_below hb g none) (.inl rfl)); have n6 := Az (below_step (by repeat (first | (with_reducible first | exact HB.out | apply below_alloc | apply pw_below_drewN | apply below_drew1 | refine below_set ?_ (IsS104.ge HI0.out) | refine below_set ?_ GE336.out | refine below_set ?_ GE342.out) | exact HB.out)) hb); clear HO_Z1 BK336 BK342 HI0 HK HB; have HO_Z1 := n0; have HO364 := n1; have BK336 := n2; have BK342 := n3; have HI0 := n4; have HK := n5; have HB := n6; clear n0 n1 n2 n3 n4 n5 n6 hb ho87; obtain ⟨Ao88, co88, eo88⟩ := Kd.R_slice HO364.out; subst eo88; obtain ⟨ado88, fo88, _⟩ := Kd.at_int (Kd.R_reads' HO364.out).2.2 0 (by decide) (by rw [Ny362.out]; simp)
           cases fo88
           refine hK.out _ _ ⟨(blk_cell BK342.out 0).trans rfl, (blk_cell BK342.out 1).trans rfl⟩ (fun hHeld => ?_)
           clear hK K
           refine norm_ (a' := ?_) ?_ ?_
           rotate_left
           ·
            show Act.put _ (some 69) _ = _
            simp only [Act.put, List.setIfInBounds_toArray, List.set_cons_zero, List.set_cons_succ, i64_w, i32_w]
            rfl
           refine one_ (i := 4) (N := some 71) #[true, true, true, true, true, false, false, false, false] rfl rfl (one_of HT_.out (by kernel_rfl)) (by decide) (fun K hK => ?_)
           refine goes_ Try.func79 (by kernel_rfl) rfl #[.pointer (some ⟨g, 0, none⟩), .int .i64 2] (by rfl) rfl rfl (by (try simp only [List.map_toArray, List.map_cons, List.map_nil]); first | done | rfl | (simp only [List.length_drop, List.length_take]; rfl)) ?_
           with_reducible refine (spec_l6Rd_pick.calls k1 g s0_0 t356 2 t365 t366 w0 _ ?side1 ?side2 A76.out).mono ?_
           (case side1 => repeat (first | (with_reducible first | exact HI0.out | apply IsS104.alloc | apply IsS104.drewN | apply IsS104.drew | apply IsS104.set_1 | refine IsS104.far ?_ NB0_336.out _ | refine IsS104.far ?_ NB0_342.out _) | exact HI0.out))
           (case side2 => repeat (first | (with_reducible first | exact HB.out | apply below_alloc | apply pw_below_drewN | apply below_drew1 | refine below_set ?_ (IsS104.ge HI0.out) | refine below_set ?_ GE336.out | refine below_set ?_ GE342.out) | exact HB.out))
           rintro e w89 ⟨rfl, hi, hb, hk⟩
           refine ⟨_, rfl, ?_⟩
           have n0 := Az (Kd.Q_mono (Kd.Q_keep (IsS104.apartQ (show IsS104 w0 _ g s0_0 t356 from by repeat (first | (with_reducible first | exact HI0.out | apply IsS104.alloc | apply IsS104.drewN | apply IsS104.drew | apply IsS104.set_1 | refine IsS104.far ?_ NB0_336.out _ | refine IsS104.far ?_ NB0_342.out _) | exact HI0.out)) (qU HO_Z1.out) (by decide)) hk (fun _ h => h.2)) (fun _ h => h.1)); have n1 := Az (KeepBut.blk hk (g' := gb336) (o := .cells #[.string (⟨#[]⟩ : ByteArray), .slice none 0 0] 25 (0, 0)) (kU BK336.out) NB336_0.out (by simp)); have n2 := Az (KeepBut.blk hk (g' := gb342) (o := .cells #[.string xZ0_1, uZ1] 25 (0, 0)) (kU BK342.out) NB342_0.out (by simp)); have n3 := Az (Kd.R_mono (Kd.R_keep (IsS104.apart (show IsS104 w0 _ g s0_0 t356 from by repeat (first | (with_reducible first | exact HI0.out | apply IsS104.alloc | apply IsS104.drewN | apply IsS104.drew | apply IsS104.set_1 | refine IsS104.far ?_ NB0_336.out _ | refine IsS104.far ?_ NB0_342.out _) | exact HI0.out)) (rU HO364.out) (by decide)) hk (fun _ h => h.2)) (fun _ h => h.1)); have n4 := Az (KeepBut.trans (by repeat (first | (with_reducible first | exact HK.out | apply KeepBut.set_ | apply keep_drewN | apply keep_drew | apply keep_alloc | refine keep_far ?_ GW336.out _ | refine keep_far ?_ GW342.out _) | exact HK.out)) hk (.inl rfl)); have n5 := Az (hb); have n6 := Az (hi); clear HO_Z1 BK336 BK342 HO364 HK HB HI0; have HO_Z1 := n0; have BK336 := n1; have BK342 := n2; have HO364 := n3; have HK := n4; have HB := n5; have HI0 := n6; clear n0 n1 n2 n3 n4 n5 n6; (try clear hb); (try clear hb2); (try clear hk); (try clear hi)
           refine hK.out _ _ ⟨(blk_cell BK342.out 0).trans rfl, (blk_cell BK342.out 1).trans rfl⟩ (fun hHeld => ?_)
           clear hK K
           refine norm_ (a' := ?_) ?_ ?_
           rotate_left
           ·
            show Act.put _ (some 71) _ = _
            simp only [Act.put, List.setIfInBounds_toArray, List.set_cons_zero, List.set_cons_succ, i64_w, i32_w]
            rfl
           exact norm_ (by simp only [putAll, Act.put, List.setIfInBounds_toArray, List.set_cons_zero, List.set_cons_succ]) (hCont (.slice (some ado88) y362.length co88, ado88) _ ⟨hHeld, (by (with_reducible repeat (first | apply Kd.R_alloc | apply Kd.R_drewN | apply Kd.R_drew)); exact Kd.R_mono HO364.out (fun _ hk => hk.2)), (by (with_reducible repeat (first | apply Kd.Q_alloc | apply Kd.Q_drewN | apply Kd.Q_drew)); exact Kd.Q_mono HO_Z1.out (fun _ hk => hk.2)), ⟨_, rfl⟩, (kU BK336.out), (kU BK342.out), (by repeat (first | (with_reducible first | exact HI0.out | apply IsS104.alloc | apply IsS104.drewN | apply IsS104.drew | apply IsS104.set_1 | refine IsS104.far ?_ NB0_336.out _ | refine IsS104.far ?_ NB0_342.out _) | exact HI0.out)), (by repeat (first | (with_reducible first | exact HK.out | apply KeepBut.set_ | apply keep_drewN | apply keep_drew | apply keep_alloc | refine keep_far ?_ GW336.out _ | refine keep_far ?_ GW342.out _) | exact HK.out)), (by repeat (first | (with_reducible first | exact HB.out | apply below_alloc | apply pw_below_drewN | apply below_drew1 | refine below_set ?_ (IsS104.ge HI0.out) | refine below_set ?_ GE336.out | refine below_set ?_ GE342.out) | exact HB.out))⟩)
          ·
           skip
           refine goes_ Try.func79 (by kernel_rfl) rfl #[.pointer (some ⟨g, 0, none⟩), .int .i64 2] (by rfl) rfl rfl (by (try simp only [List.map_toArray, List.map_cons, List.map_nil]); first | done | rfl | (simp only [List.length_drop, List.length_take]; rfl)) ?_
           with_reducible refine (spec_l6Rd_pick.calls k1 g s0_0 t356 2 t365 t366 w0 _ ?side1 ?side2 A76.out).mono ?_
           (case side1 => repeat (first | (with_reducible first | exact HI0.out | apply IsS104.alloc | apply IsS104.drewN | apply IsS104.drew | apply IsS104.set_1 | refine IsS104.far ?_ NB0_336.out _ | refine IsS104.far ?_ NB0_342.out _) | exact HI0.out))
           (case side2 => repeat (first | (with_reducible first | exact HB.out | apply below_alloc | apply pw_below_drewN | apply below_drew1 | refine below_set ?_ (IsS104.ge HI0.out) | refine below_set ?_ GE336.out | refine below_set ?_ GE342.out) | exact HB.out))
           rintro e w86 ⟨rfl, hi, hb, hk⟩
           refine ⟨_, rfl, ?_⟩
           have n0 := Az (Kd.Q_mono (Kd.Q_keep (IsS104.apartQ (show IsS104 w0 _ g s0_0 t356 from by repeat (first | (with_reducible first | exact HI0.out | apply IsS104.alloc | apply IsS104.drewN | apply IsS104.drew | apply IsS104.set_1 | refine IsS104.far ?_ NB0_336.out _ | refine IsS104.far ?_ NB0_342.out _) | exact HI0.out)) (qU HO_Z1.out) (by decide)) hk (fun _ h => h.2)) (fun _ h => h.1)); have n1 := Az (KeepBut.blk hk (g' := gb336) (o := .cells #[.string (⟨#[]⟩ : ByteArray), .slice none 0 0] 25 (0, 0)) (kU BK336.out) NB336_0.out (by simp)); have n2 := Az (KeepBut.blk hk (g' := gb342) (o := .cells #[.string xZ0_1, uZ1] 25 (0, 0)) (kU BK342.out) NB342_0.out (by simp)); have n3 := Az (KeepBut.trans (by repeat (first | (with_reducible first | exact HK.out | apply KeepBut.set_ | apply keep_drewN | apply keep_drew | apply keep_alloc | refine keep_far ?_ GW336.out _ | refine keep_far ?_ GW342.out _) | exact HK.out)) hk (.inl rfl)); have n4 := Az (hb); have n5 := Az (hi); clear HO_Z1 BK336 BK342 HK HB HI0; have HO_Z1 := n0; have BK336 := n1; have BK342 := n2; have HK := n3; have HB := n4; have HI0 := n5; clear n0 n1 n2 n3 n4 n5; (try clear hb); (try clear hb2); (try clear hk); (try clear hi)
           refine hK.out _ _ ⟨(blk_cell BK342.out 0).trans rfl, (blk_cell BK342.out 1).trans rfl⟩ (fun hHeld => ?_)
           clear hK K
           refine norm_ (a' := ?_) ?_ ?_
           rotate_left
           ·
            show Act.put _ (some 71) _ = _
            simp only [Act.put, List.setIfInBounds_toArray, List.set_cons_zero, List.set_cons_succ, i64_w, i32_w]
            rfl
           refine one_ (i := 2) (N := some 69) #[true, true, true, true, true, false, false, false, false] rfl rfl (one_of HT_.out (by kernel_rfl)) (by decide) (fun K hK => ?_)
           refine Kd.R_lit_step (Kd.int .i64) _ 3 ?hg (N := 69) ?hd (xs := ([(-2), 2] : List Int)) (inner := [.int .i64 (-2), .int .i64 2]) (ok := fun _ => True) (okp := fun _ => True) ?hr ?hp (fun _ hk => hk) trivial (Below.refl _ _) (Nat.le_refl _) (by simp) ?_; (case hd => rfl); (case hg => rfl); (case hr => first | (go_simp; done) | (go_simp; rfl)); (case hp => exact (Reps.one (show Kd.M (Kd.int .i64) _ _ _ (-2) [.int .i64 (-2)] from rfl) (Reps.one (show Kd.M (Kd.int .i64) _ _ _ 2 [.int .i64 2] from rfl) (Reps.none _ _))))
           intro v363 w87 ho88 hb hg_ hnew_
           clear hg_ hnew_; (first | rw [← Ny362.out] at ho88 | (simp only [Int.reduceToNat] at ho88; rw [← Ny362.out] at ho88)); have n0 := Az (Kd.Q_elder' (qU HO_Z1.out) (Kd.R_base ho88) hb); have n1 := Az (Kd.R_lower (Kd.R_new' ho88 (Kd.Q_lt (qU HO_Z1.out))) (keep_size (w := w) (g := g) (row := none) (by repeat (first | (with_reducible first | exact HK.out | apply KeepBut.set_ | apply keep_drewN | apply keep_drew | apply keep_alloc | refine keep_far ?_ GW336.out _ | refine keep_far ?_ GW342.out _) | exact HK.out)))); have n2 := Az (blk_below (g := gb336) (o := .cells #[.string (⟨#[]⟩ : ByteArray), .slice none 0 0] 25 (0, 0)) (kU BK336.out) hb); have n3 := Az (blk_below (g := gb342) (o := .cells #[.string xZ0_1, uZ1] 25 (0, 0)) (kU BK342.out) hb); have n4 := Az (IsS104.below (by repeat (first | (with_reducible first | exact HI0.out | apply IsS104.alloc | apply IsS104.drewN | apply IsS104.drew | apply IsS104.set_1 | refine IsS104.far ?_ NB0_336.out _ | refine IsS104.far ?_ NB0_342.out _) | exact HI0.out)) hb); have n5 := Az (KeepBut.trans (by repeat (first | (with_reducible first | exact HK.out | apply KeepBut.set_ | apply keep_drewN | apply keep_drew | apply keep_alloc | refine keep_far ?_ GW336.out _ | refine keep_far ?_ GW342.out _) | exact HK.out)) (KeepBut.of_below hb g none) (.inl rfl)); have n6 := Az (below_step (by repeat (first | (with_reducible first | exact HB.out | apply below_alloc | apply pw_below_drewN | apply below_drew1 | refine below_set ?_ (IsS104.ge HI0.out) | refine below_set ?_ GE336.out | refine below_set ?_ GE342.out) | exact HB.out)) hb); clear HO_Z1 BK336 BK342 HI0 HK HB; have HO_Z1 := n0; have HO364 := n1; have BK336 := n2; have BK342 := n3; have HI0 := n4; have HK := n5; have HB := n6; clear n0 n1 n2 n3 n4 n5 n6 hb ho88; obtain ⟨Ao89, co89, eo89⟩ := Kd.R_slice HO364.out; subst eo89; obtain ⟨ado89, fo89, _⟩ := Kd.at_int (Kd.R_reads' HO364.out).2.2 0 (by decide) (by rw [Ny362.out]; simp)
           cases fo89
           refine hK.out _ _ ⟨(blk_cell BK342.out 0).trans rfl, (blk_cell BK342.out 1).trans rfl⟩ (fun hHeld => ?_)
           clear hK K
           refine norm_ (a' := ?_) ?_ ?_
           rotate_left
           ·
            show Act.put _ (some 69) _ = _
            simp only [Act.put, List.setIfInBounds_toArray, List.set_cons_zero, List.set_cons_succ, i64_w, i32_w]
            rfl
           exact norm_ (by simp only [putAll, Act.put, List.setIfInBounds_toArray, List.set_cons_zero, List.set_cons_succ]) (hCont (.slice (some ado89) y362.length co89, ado89) _ ⟨hHeld, (by (with_reducible repeat (first | apply Kd.R_alloc | apply Kd.R_drewN | apply Kd.R_drew)); exact Kd.R_mono HO364.out (fun _ hk => hk.2)), (by (with_reducible repeat (first | apply Kd.Q_alloc | apply Kd.Q_drewN | apply Kd.Q_drew)); exact Kd.Q_mono HO_Z1.out (fun _ hk => hk.2)), ⟨_, rfl⟩, (kU BK336.out), (kU BK342.out), (by repeat (first | (with_reducible first | exact HI0.out | apply IsS104.alloc | apply IsS104.drewN | apply IsS104.drew | apply IsS104.set_1 | refine IsS104.far ?_ NB0_336.out _ | refine IsS104.far ?_ NB0_342.out _) | exact HI0.out)), (by repeat (first | (with_reducible first | exact HK.out | apply KeepBut.set_ | apply keep_drewN | apply keep_drew | apply keep_alloc | refine keep_far ?_ GW336.out _ | refine keep_far ?_ GW342.out _) | exact HK.out)), (by repeat (first | (with_reducible first | exact HB.out | apply below_alloc | apply pw_below_drewN | apply below_drew1 | refine below_set ?_ (IsS104.ge HI0.out) | refine below_set ?_ GE336.out | refine below_set ?_ GE342.out) | exact HB.out))⟩)
         rintro ⟨v363, adz_v363⟩ w90 ⟨hS_, h0_, h1_, h2_, h3_, h4_, h5_, h6_, h7_⟩
         have n0 : Aside0 (Kd.R (Kd.int .i64) 3 w90 w.heap.size (fun k_ => some k_ ≠ (uZ1 : Value).ownBlock) v363 y362) := ⟨h0_⟩; have n1 : Aside0 (Kd.Q (Kd.int .i64) 3 w90 w.heap.size (fun k_ => some k_ ≠ (v363 : Value).ownBlock) uZ1 xZ1_1) := ⟨h1_⟩; have n2 : Aside0 (∃ c_, (v363 : Value) = .slice (some adz_v363) y362.length c_) := ⟨h2_⟩; have n3 : Aside0 (w90.heap[gb336]? = some (.cells #[.string (⟨#[]⟩ : ByteArray), .slice none 0 0] 25 (0, 0))) := ⟨h3_⟩; have n4 : Aside0 (w90.heap[gb342]? = some (.cells #[.string xZ0_1, uZ1] 25 (0, 0))) := ⟨h4_⟩; have n5 : Aside0 (IsS104 w0 w90 g s0_0 t366) := ⟨h5_⟩; have n6 : Aside0 (KeepBut w w90 g none) := ⟨h6_⟩; have n7 : Aside0 (Below w0.heap.size w0 w90) := ⟨h7_⟩; clear HO_Z1 BK336 BK342 HI0 HK HB h0_ h1_ h2_ h3_ h4_ h5_ h6_ h7_; have HO364 := n0; have HO_Z1 := n1; have HA_HO364 := n2; have BK336 := n3; have BK342 := n4; have HI0 := n5; have HK := n6; have HB := n7; clear n0 n1 n2 n3 n4 n5 n6 n7; have hHeld : w90.cell? ⟨gb342, 0, none⟩ = some (.string xZ0_1) ∧ w90.cell? ⟨gb342, 1, none⟩ = some (uZ1) := hS_; obtain ⟨co91, eo91⟩ := HA_HO364.out; clear HA_HO364; subst eo91; have p80 : 0 ≤ (0 : Int) := (by omega); have q80 : (0 : Int) < ((xZ1_1.length : Int) : Int) := oA; have qi80 : (0 < xZ1_1.length) = True := eq_true (by omega); obtain ⟨go80, oo80, co80, eo80, gb80, gl80, cl80, HG80⟩ := Kd.Q_form HO_Z1.out (by omega); (first | cases eo80 | (injection eo80 with ea_ en_ ec_; (first | subst ea_ | (injection ea_ with ea_; subst ea_)); subst ec_; clear en_)); have GB80 := Az gb80; have GG80 := Az HG80; clear gb80 gl80 HG80; obtain ⟨hx80_0, hf80_0⟩ := Kd.Q_cell 0 HO_Z1.out (0 : Int) p80 q80; (try rw [show ((0 : Int)).toNat = 0 from rfl] at hx80_0); (try simp only [Nat.reduceMul, Nat.zero_mul, Nat.zero_add, Nat.reduceAdd] at hx80_0); (try rw [show ((0 : Int)).toNat = 0 from rfl] at hf80_0); (try simp only [Nat.reduceMul, Nat.zero_mul, Nat.zero_add, Nat.reduceAdd] at hf80_0); replace p80 := eq_true p80; replace q80 := eq_true q80; have HN0_go80 := Az (show g ≠ go80 from by have h_ := IsS104.own_neQ HI0.out HO_Z1.out (by decide); intro e_; exact h_ (by rw [e_]; rfl)); have HP92 := (Kd.Q_putg HO_Z1.out (0 : Int) (by omega) (by have h_ : (0 : Int) < ((xZ1_1.length : Int) : Int) := oA; first | exact h_ | (have e_ := (Kd.Q_reads' HO_Z1.out).1; omega) | simpa using h_) (rd y362 t365)).1; rw [← Ny368.out] at HP92; have HQ92 := Az HP92; clear HP92
         refine norm_ (a' := ?_) ?_ ?_
         rotate_left
         ·
          simp only [putAll, Act.put, List.setIfInBounds_toArray, List.set_cons_zero, List.set_cons_succ]
          rfl
         refine pure_ (i := 5) (N := some 72) (v := ?_) (a' := ?_) #[true, true, true, true, true, true, false, false, false] rfl rfl (any_of HT_.out (by kernel_rfl)) (fun _ _ _ h => h) (Or.inl ⟨by rfl, ?_⟩) ?_ ?_
         rotate_left
         ·
          intro w'
          go_simp
          with_reducible rfl
         rotate_left
         ·
          simp only [Act.put, List.setIfInBounds_toArray, List.set_cons_zero, List.set_cons_succ, i64_w, i32_w]
          rfl
         refine one_ (i := 6) (N := some 73) #[true, true, true, true, true, true, true, false, false] rfl rfl (one_of HT_.out (by kernel_rfl)) (by decide) (fun K hK => ?_)
         (have p367 : 0 ≤ (t365 : Int) := oA; have q367 : t365 < (y362.length : Int) := oA; obtain ⟨ad367, e367, hx367_0⟩ := Kd.at_int (Kd.R_reads' HO364.out).2.2 t365 p367 q367; obtain rfl : adz_v363 = ad367 := (by injection e367))
         refine value_ (w1 := ?_) (v := ?_) (by rfl) rfl ?_ ?_
         rotate_left 2
         ·
          go_simp
          constructor
          ·
           rfl
          ·
           rfl
         clear hx367_0
         refine hK.out _ _ ⟨(blk_cell BK342.out 0).trans rfl, (blk_cell BK342.out 1).trans rfl⟩ (fun hHeld => ?_)
         clear hK K
         refine norm_ (a' := ?_) ?_ ?_
         rotate_left
         ·
          show Act.put _ (some 73) _ = _
          simp only [Act.put, List.setIfInBounds_toArray, List.set_cons_zero, List.set_cons_succ, i64_w, i32_w]
          rfl
         refine pure_ (i := 7) (N := some 74) (v := ?_) (a' := ?_) #[true, true, true, true, true, true, true, true, false] rfl rfl (any_of HT_.out (by kernel_rfl)) (fun _ _ _ h => h) (Or.inl ⟨by rfl, ?_⟩) ?_ ?_
         rotate_left
         ·
          intro w'
          go_simp
          with_reducible rfl
         rotate_left
         ·
          simp only [Act.put, List.setIfInBounds_toArray, List.set_cons_zero, List.set_cons_succ, i64_w, i32_w]
          rfl
         refine last_ (i := 8) (N := none) #[true, true, true, true, true, true, true, true, true] rfl rfl (one_of HT_.out (by kernel_rfl)) (by decide) (fun K hK => ?_)
         (try (obtain ⟨hyS_, hzS_⟩ := Kd.Q_cell 0 HO_Z1.out 0 (by omega) (oA); simp only [Int.toNat_zero, Nat.add_zero] at hyS_ hzS_))
         refine skip_ (w1 := ?_) (by rfl) rfl ?_ ?_
         rotate_left
         ·
          go_simp
          rfl
         refine hK.out _ _ ?_
         clear hK K
         refine done_ (done_of HT_.out (by kernel_rfl)) ?_
         have n0 : Aside0 (Kd.Q (Kd.int .i64) 3 (w90.setCell ⟨go80, oo80 + (0 : Int).toNat, none⟩ (.int .i64 (rd y362 t365))) w.heap.size (fun k_ => some k_ ≠ (.slice (some adz_v363) y362.length co91 : Value).ownBlock) (.slice (some ⟨go80, oo80, none⟩) xZ1_1.length co80) y368) := ⟨qU HQ92.out⟩; have n1 : Aside0 (Kd.R (Kd.int .i64) 3 (w90.setCell ⟨go80, oo80 + (0 : Int).toNat, none⟩ (.int .i64 (rd y362 t365))) w.heap.size (fun k_ => some k_ ≠ (.slice (some ⟨go80, oo80, none⟩) xZ1_1.length co80 : Value).ownBlock) (.slice (some adz_v363) y362.length co91) y362) := ⟨by (with_reducible repeat (first | apply Kd.R_alloc | apply Kd.R_drewN | apply Kd.R_drew)); exact Kd.R_mono (Kd.R_far (p := ⟨go80, oo80 + (0 : Int).toNat, none⟩) (Kd.R_mono HO364.out (fun k_ hk => (⟨hk, fun e_ => hk (by rw [e_]; rfl)⟩ : _ ∧ k_ ≠ go80))) (fun _ hk => hk.2) (.int .i64 (rd y362 t365))) (fun _ hk => hk.1)⟩; have n2 : Aside0 ((w90.setCell ⟨go80, oo80 + (0 : Int).toNat, none⟩ (.int .i64 (rd y362 t365))).heap[gb336]? = some (.cells #[.string (⟨#[]⟩ : ByteArray), .slice none 0 0] 25 (0, 0))) := ⟨by (with_reducible repeat (first | refine blk_drewN ?_ _ | refine blk_drew ?_ | refine blk_alloc ?_ _)); refine blk_far ?_ (by have h_ := Kd.Q_ne HO_Z1.out BK336.out (by decide); intro e_; exact h_ (by rw [e_]; rfl)) _; (with_reducible repeat (first | refine blk_drewN ?_ _ | refine blk_drew ?_ | refine blk_alloc ?_ _)); exact BK336.out⟩; have n3 : Aside0 ((w90.setCell ⟨go80, oo80 + (0 : Int).toNat, none⟩ (.int .i64 (rd y362 t365))).heap[gb342]? = some (.cells #[.string xZ0_1, .slice (some ⟨go80, oo80, none⟩) xZ1_1.length co80] 25 (0, 0))) := ⟨by (with_reducible repeat (first | refine blk_drewN ?_ _ | refine blk_drew ?_ | refine blk_alloc ?_ _)); refine blk_far ?_ (by have h_ := Kd.Q_ne HO_Z1.out BK342.out (by decide); intro e_; exact h_ (by rw [e_]; rfl)) _; (with_reducible repeat (first | refine blk_drewN ?_ _ | refine blk_drew ?_ | refine blk_alloc ?_ _)); exact BK342.out⟩; have n4 : Aside0 (IsS104 w0 (w90.setCell ⟨go80, oo80 + (0 : Int).toNat, none⟩ (.int .i64 (rd y362 t365))) g s0_0 t366) := ⟨by repeat (first | (with_reducible first | exact HI0.out | apply IsS104.alloc | apply IsS104.drewN | apply IsS104.drew | apply IsS104.set_1 | refine IsS104.far ?_ HN0_go80.out _ | refine IsS104.far ?_ NB0_336.out _ | refine IsS104.far ?_ NB0_342.out _) | exact HI0.out)⟩; have n5 : Aside0 (KeepBut w (w90.setCell ⟨go80, oo80 + (0 : Int).toNat, none⟩ (.int .i64 (rd y362 t365))) g none) := ⟨by repeat (first | (with_reducible first | exact HK.out | apply KeepBut.set_ | apply keep_drewN | apply keep_drew | apply keep_alloc | refine keep_far ?_ GB80.out _ | refine keep_far ?_ GW336.out _ | refine keep_far ?_ GW342.out _) | exact HK.out)⟩; have n6 : Aside0 (Below w0.heap.size w0 (w90.setCell ⟨go80, oo80 + (0 : Int).toNat, none⟩ (.int .i64 (rd y362 t365)))) := ⟨by repeat (first | (with_reducible first | exact HB.out | apply below_alloc | apply pw_below_drewN | apply below_drew1 | refine below_set ?_ (Nat.le_trans HL.out GB80.out) | refine below_set ?_ (IsS104.ge HI0.out) | refine below_set ?_ GE336.out | refine below_set ?_ GE342.out) | exact HB.out)⟩; (try clear HO_Z1); (try clear HO364); (try clear BK336); (try clear BK342); (try clear HI0); (try clear HK); (try clear HB); (try simp only [Int.toNat_zero, Nat.add_zero] at n0 n1 n2 n3 n4 n5 n6)
         generalize (w90.setCell ⟨go80, oo80, none⟩ (.int .i64 (rd y362 t365))) = w93 at n0 n1 n2 n3 n4 n5 n6 ⊢
         have HO_Z1 := n0; have HO364 := n1; have BK336 := n2; have BK342 := n3; have HI0 := n4; have HK := n5; have HB := n6; clear n0 n1 n2 n3 n4 n5 n6; have hcz94_0 : w93.cell? ⟨gb342, 0, none⟩ = some (.string xZ0_1) := (blk_cell BK342.out 0).trans rfl; have hcz94_1 : w93.cell? ⟨gb342, 1, none⟩ = some (.slice (some ⟨go80, oo80, none⟩) xZ1_1.length co80) := (blk_cell BK342.out 1).trans rfl; have hfz94_0 := blk_frozen BK342.out 0; have hfz94_1 := blk_frozen BK342.out 1; have hnb95 := NB336_0.out; have hnc95 := NB0_336.out; have hcz96_0 : w93.cell? ⟨gb336, 0, none⟩ = some (.string (⟨#[]⟩ : ByteArray)) := (blk_cell BK336.out 0).trans rfl; have hcz96_1 : w93.cell? ⟨gb336, 1, none⟩ = some (.slice none 0 0) := (blk_cell BK336.out 1).trans rfl; have hfz96_0 := blk_frozen BK336.out 0; have hfz96_1 := blk_frozen BK336.out 1
         try go_wp2
         refine bodyPost_ret (results_cell_row rfl _ _ gb336 25 #[.string xZ0_1, .slice (some ⟨go80, oo80, none⟩) xZ1_1.length co80] (0, 0) _ rfl (by (with_reducible repeat (first | refine blk_drewN ?_ _ | refine blk_drew ?_ | refine blk_alloc ?_ _)); refine blk_put (cs := #[.string xZ0_1, .slice none 0 0]) ?_ 1 _ rfl; (with_reducible repeat (first | refine blk_drewN ?_ _ | refine blk_drew ?_ | refine blk_alloc ?_ _)); refine blk_put (cs := #[.string (⟨#[]⟩ : ByteArray), .slice none 0 0]) ?_ 0 _ rfl; (with_reducible repeat (first | refine blk_drewN ?_ _ | refine blk_drew ?_ | refine blk_alloc ?_ _)); exact BK336.out) Try.underlying25 rfl (by kernel_rfl)) rfl ?_
         exact ⟨_, rE, by (with_reducible repeat (first | apply Kd.Q_alloc | apply Kd.Q_drewN | apply Kd.Q_drew)); exact Kd.Q_mono (Kd.Q_far (p := ⟨gb336, 1, none⟩) (Kd.Q_far (p := ⟨gb336, 0, none⟩) (Kd.Q_types HO_Z1.out BK336.out (by decide)) (fun _ hk => hk.2) (.string xZ0_1)) (fun _ hk => hk.2) (.slice (some ⟨go80, oo80, none⟩) xZ1_1.length co80)) (fun _ hk => trivial), by repeat (first | (with_reducible first | exact HI0.out | apply IsS104.alloc | apply IsS104.drewN | apply IsS104.drew | apply IsS104.set_1 | refine IsS104.far ?_ NB0_336.out _ | refine IsS104.far ?_ NB0_342.out _) | exact HI0.out), by repeat (first | (with_reducible first | exact HB.out | apply below_alloc | apply pw_below_drewN | apply below_drew1 | refine below_set ?_ (IsS104.ge HI0.out) | refine below_set ?_ GE336.out | refine below_set ?_ GE342.out) | exact HB.out), by repeat (first | (with_reducible first | exact HK.out | apply KeepBut.set_ | apply keep_drewN | apply keep_drew | apply keep_alloc | refine keep_far ?_ GW336.out _ | refine keep_far ?_ GW342.out _) | exact HK.out)⟩
        ·
         rw [if_neg c79] at H
         exact absurd H (by simp)
       ·
        rw [if_neg c78] at H
        exact absurd H (by simp)
      ·
       rw [if_neg c77] at H
       exact absurd H (by simp)
     ·
      rw [if_neg c75] at H; have c75b0 := beq_eq_false_iff_ne.mpr c75; have c75b1 := bne_iff_ne.mpr c75
      by_cases c97 : t355 = 2
      ·
       rw [if_pos c97] at H; have c97b0 := beq_iff_eq.mpr c97; have c97b1 := bne_eq_false_iff_eq.mpr c97; clear c97
       by_cases c98 : 1 ≤ (xZ1_1.length : Int)
       ·
        rw [if_pos c98] at H; have c98b0 := eq_true c98; have c98b1 := decide_eq_true c98; clear c98; obtain ⟨y369, hy369⟩ : ∃ y_ : List Int, y_ = (xZ1_1.drop (1 : Int).toNat) := ⟨_, rfl⟩; replace H : (some (xZ0_1, y369, t356)) = some (r1, r2, r3) := hR hy369 H; have Ny369 := Az hy369; clear hy369; simp only [Option.some.injEq, Prod.mk.injEq] at H; obtain ⟨rfl, rfl, rfl⟩ := H; have hnb99 := NB342_336.out; have hnc99 := NB336_342.out; have hnb100 := NB342_0.out; have hnc100 := NB0_342.out; have hcz101_0 : wr.cell? ⟨gb342, 0, none⟩ = some (.string xZ0_1) := (blk_cell BK342.out 0).trans rfl; have hcz101_1 : wr.cell? ⟨gb342, 1, none⟩ = some (uZ1) := (blk_cell BK342.out 1).trans rfl; have hfz101_0 := blk_frozen BK342.out 0; have hfz101_1 := blk_frozen BK342.out 1
        go_wp2_with (first | ((with_reducible refine gate_callee (f := 79) rfl ?_); refine goesL_ (some 55) rfl rfl Try.func79 (by kernel_rfl) rfl #[.pointer (some ⟨g, 0, none⟩), .int .i64 40] rfl (by (try simp only [List.map_toArray, List.map_cons, List.map_nil]); first | done | rfl | (simp only [List.length_drop, List.length_take]; rfl)) ?_; (with_reducible refine (spec_l6Rd_pick.calls k1 g s0_0 x1001_1 40 t355 t356 w0 _ ?side1 ?side2 A57.out).mono ?_); (case side1 => repeat (first | (with_reducible first | exact HI0.out | apply IsS104.alloc | apply IsS104.drewN | apply IsS104.drew | apply IsS104.set_1 | refine IsS104.far ?_ NB0_336.out _ | refine IsS104.far ?_ NB0_342.out _) | exact HI0.out)); (case side2 => repeat (first | (with_reducible first | exact HB.out | apply below_alloc | apply pw_below_drewN | apply below_drew1 | refine below_set ?_ (IsS104.ge HI0.out) | refine below_set ?_ GE336.out | refine below_set ?_ GE342.out) | exact HB.out)); rintro e w102 ⟨rfl, hi, hb, hk⟩; refine ⟨_, rfl, ?_⟩; have n0 := Az (Kd.Q_mono (Kd.Q_keep (IsS104.apartQ (show IsS104 w0 _ g s0_0 x1001_1 from by repeat (first | (with_reducible first | exact HI0.out | apply IsS104.alloc | apply IsS104.drewN | apply IsS104.drew | apply IsS104.set_1 | refine IsS104.far ?_ NB0_336.out _ | refine IsS104.far ?_ NB0_342.out _) | exact HI0.out)) (qU HO_Z1.out) (by decide)) hk (fun _ h => h.2)) (fun _ h => h.1)); have n1 := Az (KeepBut.blk hk (g' := gb336) (o := .cells #[.string (⟨#[]⟩ : ByteArray), .slice none 0 0] 25 (0, 0)) (kU BK336.out) NB336_0.out (by simp)); have n2 := Az (KeepBut.blk hk (g' := gb342) (o := .cells #[.string xZ0_1, uZ1] 25 (0, 0)) (kU BK342.out) NB342_0.out (by simp)); have n3 := Az (KeepBut.trans (by repeat (first | (with_reducible first | exact HK.out | apply KeepBut.set_ | apply keep_drewN | apply keep_drew | apply keep_alloc | refine keep_far ?_ GW336.out _ | refine keep_far ?_ GW342.out _) | exact HK.out)) hk (.inl rfl)); have n4 := Az (hb); have n5 := Az (hi); clear HO_Z1 BK336 BK342 HK HB HI0; have HO_Z1 := n0; have BK336 := n1; have BK342 := n2; have HK := n3; have HB := n4; have HI0 := n5; clear n0 n1 n2 n3 n4 n5; (try clear hb); (try clear hb2); (try clear hk); (try clear hi); have hcz103_0 : w102.cell? ⟨gb342, 0, none⟩ = some (.string xZ0_1) := (blk_cell BK342.out 0).trans rfl; have hcz103_1 : w102.cell? ⟨gb342, 1, none⟩ = some (uZ1) := (blk_cell BK342.out 1).trans rfl; have hfz103_0 := blk_frozen BK342.out 0; have hfz103_1 := blk_frozen BK342.out 1; obtain ⟨Ao104, co104, eo104, _⟩ := Kd.Q_slice HO_Z1.out; subst eo104; have q105 : (1 : Int) ≤ ((xZ1_1.length : Int) : Int) := oA; obtain ⟨i0105, hi0105, _, hsz105, _⟩ := info_parts info3; have hcut105 := cut_from (P := Try.prog) 23 3 .i64 Try.underlying23 hi0105 1 hsz105 Ao104 xZ1_1.length co104 1 (by omega) q105; have hr105 := Kd.Q_drop (k := (1 : Int).toNat) HO_Z1.out (by omega); obtain ⟨A105, hA105⟩ : ∃ A1, A1 = (if co104 = (1 : Int).toNat then Ao104 else (Ao104 : Option Addr).map (·.add ((1 : Int).toNat * 1))) := ⟨_, rfl⟩; obtain ⟨c105, hc105⟩ : ∃ c1, c1 = co104 - (1 : Int).toNat := ⟨_, rfl⟩; have hy105 : y369.length = xZ1_1.length - (1 : Int).toNat := (by rw [Ny369.out, List.length_drop]); rw [← Ny369.out] at hr105; rw [← hy105, ← hA105, ← hc105] at hcut105; replace hr105 : Kd.Q (Kd.int .i64) 3 w102 w.heap.size (fun _ => True) (.slice A105 y369.length c105) y369 := (by rw [hA105, hc105, hy105]; exact hr105); have HE105 : Aside0 ((Value.slice A105 y369.length c105).ownBlock = (.slice Ao104 xZ1_1.length co104 : Value).ownBlock) := ⟨by rw [hA105]; split <;> (cases (Ao104 : Option Addr) <;> rfl)⟩; clear hy105 hi0105 hsz105 HO_Z1 hA105 hc105; have HO371 := Az hr105; clear hr105; replace q105 := eq_true q105; have hnb106 := NB336_0.out; have hnc106 := NB0_336.out; have hcz107_0 : w102.cell? ⟨gb336, 0, none⟩ = some (.string (⟨#[]⟩ : ByteArray)) := (blk_cell BK336.out 0).trans rfl; have hcz107_1 : w102.cell? ⟨gb336, 1, none⟩ = some (.slice none 0 0) := (blk_cell BK336.out 1).trans rfl; have hfz107_0 := blk_frozen BK336.out 0; have hfz107_1 := blk_frozen BK336.out 1))
        refine bodyPost_ret (results_cell_row rfl _ _ gb336 25 #[.string xZ0_1, .slice A105 y369.length c105] (0, 0) _ rfl (by (with_reducible repeat (first | refine blk_drewN ?_ _ | refine blk_drew ?_ | refine blk_alloc ?_ _)); refine blk_put (cs := #[.string xZ0_1, .slice none 0 0]) ?_ 1 _ rfl; (with_reducible repeat (first | refine blk_drewN ?_ _ | refine blk_drew ?_ | refine blk_alloc ?_ _)); refine blk_put (cs := #[.string (⟨#[]⟩ : ByteArray), .slice none 0 0]) ?_ 0 _ rfl; (with_reducible repeat (first | refine blk_drewN ?_ _ | refine blk_drew ?_ | refine blk_alloc ?_ _)); refine blk_far ?_ NB336_342.out _; (with_reducible repeat (first | refine blk_drewN ?_ _ | refine blk_drew ?_ | refine blk_alloc ?_ _)); exact BK336.out) Try.underlying25 rfl (by kernel_rfl)) rfl ?_
        exact ⟨_, rE, by (with_reducible repeat (first | apply Kd.Q_alloc | apply Kd.Q_drewN | apply Kd.Q_drew)); exact Kd.Q_mono (Kd.Q_far (p := ⟨gb336, 1, none⟩) (Kd.Q_far (p := ⟨gb336, 0, none⟩) (Kd.Q_far (p := ⟨gb342, 1, none⟩) (Kd.Q_types (Kd.Q_types HO371.out BK342.out (by decide)) BK336.out (by decide)) (fun _ hk => hk.1.2) (.slice A105 y369.length c105)) (fun _ hk => hk.2) (.string xZ0_1)) (fun _ hk => hk.2) (.slice A105 y369.length c105)) (fun _ hk => trivial), by repeat (first | (with_reducible first | exact HI0.out | apply IsS104.alloc | apply IsS104.drewN | apply IsS104.drew | apply IsS104.set_1 | refine IsS104.far ?_ NB0_336.out _ | refine IsS104.far ?_ NB0_342.out _) | exact HI0.out), by repeat (first | (with_reducible first | exact HB.out | apply below_alloc | apply pw_below_drewN | apply below_drew1 | refine below_set ?_ (IsS104.ge HI0.out) | refine below_set ?_ GE336.out | refine below_set ?_ GE342.out) | exact HB.out), by repeat (first | (with_reducible first | exact HK.out | apply KeepBut.set_ | apply keep_drewN | apply keep_drew | apply keep_alloc | refine keep_far ?_ GW336.out _ | refine keep_far ?_ GW342.out _) | exact HK.out)⟩
       ·
        rw [if_neg c98] at H
        exact absurd H (by simp)
      ·
       rw [if_neg c97] at H; have c97b0 := beq_eq_false_iff_ne.mpr c97; have c97b1 := bne_iff_ne.mpr c97; simp only [Option.some.injEq, Prod.mk.injEq] at H; obtain ⟨rfl, rfl, rfl⟩ := H; have hnb108 := NB342_336.out; have hnc108 := NB336_342.out; have hnb109 := NB342_0.out; have hnc109 := NB0_342.out; have hcz110_0 : wr.cell? ⟨gb342, 0, none⟩ = some (.string xZ0_1) := (blk_cell BK342.out 0).trans rfl; have hcz110_1 : wr.cell? ⟨gb342, 1, none⟩ = some (uZ1) := (blk_cell BK342.out 1).trans rfl; have hfz110_0 := blk_frozen BK342.out 0; have hfz110_1 := blk_frozen BK342.out 1
       go_wp2_with (first | ((with_reducible refine gate_callee (f := 79) rfl ?_); refine goesL_ (some 55) rfl rfl Try.func79 (by kernel_rfl) rfl #[.pointer (some ⟨g, 0, none⟩), .int .i64 40] rfl (by (try simp only [List.map_toArray, List.map_cons, List.map_nil]); first | done | rfl | (simp only [List.length_drop, List.length_take]; rfl)) ?_; (with_reducible refine (spec_l6Rd_pick.calls k1 g s0_0 x1001_1 40 t355 t356 w0 _ ?side1 ?side2 A57.out).mono ?_); (case side1 => repeat (first | (with_reducible first | exact HI0.out | apply IsS104.alloc | apply IsS104.drewN | apply IsS104.drew | apply IsS104.set_1 | refine IsS104.far ?_ NB0_336.out _ | refine IsS104.far ?_ NB0_342.out _) | exact HI0.out)); (case side2 => repeat (first | (with_reducible first | exact HB.out | apply below_alloc | apply pw_below_drewN | apply below_drew1 | refine below_set ?_ (IsS104.ge HI0.out) | refine below_set ?_ GE336.out | refine below_set ?_ GE342.out) | exact HB.out)); rintro e w111 ⟨rfl, hi, hb, hk⟩; refine ⟨_, rfl, ?_⟩; have n0 := Az (Kd.Q_mono (Kd.Q_keep (IsS104.apartQ (show IsS104 w0 _ g s0_0 x1001_1 from by repeat (first | (with_reducible first | exact HI0.out | apply IsS104.alloc | apply IsS104.drewN | apply IsS104.drew | apply IsS104.set_1 | refine IsS104.far ?_ NB0_336.out _ | refine IsS104.far ?_ NB0_342.out _) | exact HI0.out)) (qU HO_Z1.out) (by decide)) hk (fun _ h => h.2)) (fun _ h => h.1)); have n1 := Az (KeepBut.blk hk (g' := gb336) (o := .cells #[.string (⟨#[]⟩ : ByteArray), .slice none 0 0] 25 (0, 0)) (kU BK336.out) NB336_0.out (by simp)); have n2 := Az (KeepBut.blk hk (g' := gb342) (o := .cells #[.string xZ0_1, uZ1] 25 (0, 0)) (kU BK342.out) NB342_0.out (by simp)); have n3 := Az (KeepBut.trans (by repeat (first | (with_reducible first | exact HK.out | apply KeepBut.set_ | apply keep_drewN | apply keep_drew | apply keep_alloc | refine keep_far ?_ GW336.out _ | refine keep_far ?_ GW342.out _) | exact HK.out)) hk (.inl rfl)); have n4 := Az (hb); have n5 := Az (hi); clear HO_Z1 BK336 BK342 HK HB HI0; have HO_Z1 := n0; have BK336 := n1; have BK342 := n2; have HK := n3; have HB := n4; have HI0 := n5; clear n0 n1 n2 n3 n4 n5; (try clear hb); (try clear hb2); (try clear hk); (try clear hi); have hcz112_0 : w111.cell? ⟨gb342, 0, none⟩ = some (.string xZ0_1) := (blk_cell BK342.out 0).trans rfl; have hcz112_1 : w111.cell? ⟨gb342, 1, none⟩ = some (uZ1) := (blk_cell BK342.out 1).trans rfl; have hfz112_0 := blk_frozen BK342.out 0; have hfz112_1 := blk_frozen BK342.out 1; have hnb113 := NB336_0.out; have hnc113 := NB0_336.out; have hcz114_0 : w111.cell? ⟨gb336, 0, none⟩ = some (.string (⟨#[]⟩ : ByteArray)) := (blk_cell BK336.out 0).trans rfl; have hcz114_1 : w111.cell? ⟨gb336, 1, none⟩ = some (.slice none 0 0) := (blk_cell BK336.out 1).trans rfl; have hfz114_0 := blk_frozen BK336.out 0; have hfz114_1 := blk_frozen BK336.out 1; obtain ⟨Ao115, co115, eo115, _⟩ := Kd.Q_slice HO_Z1.out; subst eo115))
       refine bodyPost_ret (results_cell_row rfl _ _ gb336 25 #[.string xZ0_1, .slice Ao115 xZ1_1.length co115] (0, 0) _ rfl (by (with_reducible repeat (first | refine blk_drewN ?_ _ | refine blk_drew ?_ | refine blk_alloc ?_ _)); refine blk_put (cs := #[.string xZ0_1, .slice none 0 0]) ?_ 1 _ rfl; (with_reducible repeat (first | refine blk_drewN ?_ _ | refine blk_drew ?_ | refine blk_alloc ?_ _)); refine blk_put (cs := #[.string (⟨#[]⟩ : ByteArray), .slice none 0 0]) ?_ 0 _ rfl; (with_reducible repeat (first | refine blk_drewN ?_ _ | refine blk_drew ?_ | refine blk_alloc ?_ _)); exact BK336.out) Try.underlying25 rfl (by kernel_rfl)) rfl ?_
       exact ⟨_, rE, by (with_reducible repeat (first | apply Kd.Q_alloc | apply Kd.Q_drewN | apply Kd.Q_drew)); exact Kd.Q_mono (Kd.Q_far (p := ⟨gb336, 1, none⟩) (Kd.Q_far (p := ⟨gb336, 0, none⟩) (Kd.Q_types HO_Z1.out BK336.out (by decide)) (fun _ hk => hk.2) (.string xZ0_1)) (fun _ hk => hk.2) (.slice Ao115 xZ1_1.length co115)) (fun _ hk => trivial), by repeat (first | (with_reducible first | exact HI0.out | apply IsS104.alloc | apply IsS104.drewN | apply IsS104.drew | apply IsS104.set_1 | refine IsS104.far ?_ NB0_336.out _ | refine IsS104.far ?_ NB0_342.out _) | exact HI0.out), by repeat (first | (with_reducible first | exact HB.out | apply below_alloc | apply pw_below_drewN | apply below_drew1 | refine below_set ?_ (IsS104.ge HI0.out) | refine below_set ?_ GE336.out | refine below_set ?_ GE342.out) | exact HB.out), by repeat (first | (with_reducible first | exact HK.out | apply KeepBut.set_ | apply keep_drewN | apply keep_drew | apply keep_alloc | refine keep_far ?_ GW336.out _ | refine keep_far ?_ GW342.out _) | exact HK.out)⟩
def spec_l6Open.f (l0 : List Int) : Option (List Int × Int) := if (l0.length : Int) > 2000 then (if 2000 ≤ (l0.length : Int) then (some (l0.take 2000, 0)) else (none)) else (some (l0, 0))
set_option maxHeartbeats 8000000 in
set_option maxRecDepth 100000 in
theorem spec_l6Open.calls (A0 : Option Addr) (c0 : Nat) (l0 : List Int) (r1 : List Int) (r2 : Int) (w0 w : World) (hB : Below w0.heap.size w0 w) (hr0 : Kd.C (Kd.int .u8) w0 A0 l0.length l0) (hc0 : l0.length ≤ c0) (h : spec_l6Open.f l0 = some (r1, r2)) :
  Calls Try.prog 62 #[.slice A0 l0.length c0] w fun e w' => ∃ g_ : Nat, e = .returned (.pointer (some ⟨g_, 0, none⟩)) ∧ IsS104 w0 w' g_ r1 r2 ∧ Below w0.heap.size w0 w' ∧ Below w.heap.size w w' := by
 have hu104 := Try.underlying104; have HR0 := Az hr0; have HC0 := Az hc0; clear hr0 hc0; have HBW := Az (Below.refl w.heap.size w); have HW0 := Az hB.size; have HB := Az hB; clear hB; have H : (if (l0.length : Int) > 2000 then (if 2000 ≤ (l0.length : Int) then (some (l0.take 2000, 0)) else (none)) else (some (l0, 0))) = some (r1, r2) := h; clear h
 by_cases c2 : (l0.length : Int) > 2000
 ·
  rw [if_pos c2] at H; have c2b0 := decide_eq_true c2; have c2b1 : decide (2000 < l0.length) = true := decide_eq_true (by omega); clear c2
  by_cases c3 : 2000 ≤ (l0.length : Int)
  ·
   rw [if_pos c3] at H; have c3b0 := eq_true c3; have c3b1 := decide_eq_true c3; clear c3; simp only [Option.some.injEq, Prod.mk.injEq] at H; obtain ⟨rfl, rfl⟩ := H; obtain ⟨i04, hi04, _, hsz4, _⟩ := info_parts info5; obtain ⟨hcut4, hA4, hC4⟩ := print_take_of (P := Try.prog) (Value.int .u8) 0 22 5 .i64 Try.underlying22 hi04 hsz4 A0 c0 l0 2000 (by omega) (oA) HC0.out; have HR372 := Az (Kd.C_of_reads (h1 := fun _ => rfl) (hA4 _ (Kd.reads_of_C HR0.out))); have HC372 := Az hC4; clear hA4 hC4 hi04 hsz4
   go_enter Try.func62, Try.ntmps62
   go_wp2_with (first | ((with_reducible refine gate_dst (N := 10) rfl ?_); refine box_event ?hg (N := 10) ?hd (cs := #[.slice A0 (l0.take 2000).length c0, .int .i64 0]) (t := 104) ?hr ?_; (case hd => rfl); (case hg => rfl); (case hr => first | (go_simp; done) | (go_simp; rfl)); intro gb373 hg w5 hbox hb; have n0 := Az (below_step HBW.out hb); have n1 := Az (below_step (bU0 HB.out) hb); have n2 := Az (hbox); have n3 := Az ((by rw [hg]; exact (below_size (by repeat (first | (with_reducible first | exact HBW.out | apply below_alloc | apply pw_below_drewN | apply below_drew1) | exact HBW.out))) : w.heap.size ≤ gb373)); have n4 := Az ((Nat.le_trans HW0.out (by rw [hg]; exact (below_size (by repeat (first | (with_reducible first | exact HBW.out | apply below_alloc | apply pw_below_drewN | apply below_drew1) | exact HBW.out))) : w.heap.size ≤ gb373) : w0.heap.size ≤ gb373)); clear HBW HB; have HBW := n0; have HB := n1; have BK373 := n2; have GW373 := n3; have GE373 := n4; clear n0 n1 n2 n3 n4; clear hb hbox hg))
   go_ret
   exact ⟨_, rfl, (show IsS104 w0 _ gb373 (l0.take 2000) 0 from ⟨_, _, kU BK373.out, GE373.out, HR372.out⟩), bU1 HB.out GE373.out, by repeat (first | (with_reducible first | exact HBW.out | apply below_alloc | apply pw_below_drewN | apply below_drew1 | refine below_set ?_ GW373.out) | exact HBW.out)⟩
  ·
   rw [if_neg c3] at H
   exact absurd H (by simp)
 ·
  rw [if_neg c2] at H; have c2b0 := decide_eq_false c2; have c2b1 : decide (2000 < l0.length) = false := decide_eq_false (by omega); clear c2; simp only [Option.some.injEq, Prod.mk.injEq] at H; obtain ⟨rfl, rfl⟩ := H
  go_enter Try.func62, Try.ntmps62
  go_wp2_with (first | ((with_reducible refine gate_dst (N := 10) rfl ?_); refine box_event ?hg (N := 10) ?hd (cs := #[.slice A0 l0.length c0, .int .i64 0]) (t := 104) ?hr ?_; (case hd => rfl); (case hg => rfl); (case hr => first | (go_simp; done) | (go_simp; rfl)); intro gb374 hg w6 hbox hb; have n0 := Az (below_step HBW.out hb); have n1 := Az (below_step (bU0 HB.out) hb); have n2 := Az (hbox); have n3 := Az ((by rw [hg]; exact (below_size (by repeat (first | (with_reducible first | exact HBW.out | apply below_alloc | apply pw_below_drewN | apply below_drew1) | exact HBW.out))) : w.heap.size ≤ gb374)); have n4 := Az ((Nat.le_trans HW0.out (by rw [hg]; exact (below_size (by repeat (first | (with_reducible first | exact HBW.out | apply below_alloc | apply pw_below_drewN | apply below_drew1) | exact HBW.out))) : w.heap.size ≤ gb374) : w0.heap.size ≤ gb374)); clear HBW HB; have HBW := n0; have HB := n1; have BK374 := n2; have GW374 := n3; have GE374 := n4; clear n0 n1 n2 n3 n4; clear hb hbox hg))
  go_ret
  exact ⟨_, rfl, (show IsS104 w0 _ gb374 l0 0 from ⟨_, _, kU BK374.out, GE374.out, HR0.out⟩), bU1 HB.out GE374.out, by repeat (first | (with_reducible first | exact HBW.out | apply below_alloc | apply pw_below_drewN | apply below_drew1 | refine below_set ?_ GW374.out) | exact HBW.out)⟩
def spec_DrawTreeQuad.f (k : Nat) (l0 : List Int) : Option (ByteArray × List Int) := (spec_l6Open.f l0).bind fun bt376 => ((spec_l92Tree.f k bt376.1 bt376.2 3).bind fun bt379 => (some (bt379.1, bt379.2.1)))
theorem spec_DrawTreeQuad.mono : ∀ a0 k, LeO (spec_DrawTreeQuad.f k a0) (spec_DrawTreeQuad.f (k + 1) a0) := by
 intro a0 k
 unfold spec_DrawTreeQuad.f
 repeat' first
   | (with_reducible exact spec_l92Tree.mono _ _ _ _)
   | (with_reducible exact LeO.refl _)
   | (with_reducible exact LeO.none _)
   | (with_reducible refine LeO.ite ?_ ?_)
   | (with_reducible refine LeO.bind ?_ (fun _ => ?_))
   | exact spec_l92Tree.mono _ _ _ _
   | exact LeO.none _
   | refine LeO.ite ?_ ?_
   | refine LeO.bind ?_ (fun _ => ?_)
set_option maxHeartbeats 8000000 in
set_option maxRecDepth 100000 in
theorem spec_DrawTreeQuad.calls (k : Nat) (A0 : Option Addr) (c0 : Nat) (l0 : List Int) (r1 : ByteArray) (r2 : List Int) (w : World) (hr0 : Kd.C (Kd.int .u8) w A0 l0.length l0) (hc0 : l0.length ≤ c0) (h : spec_DrawTreeQuad.f k l0 = some (r1, r2)) :
  Calls Try.prog 44 #[.slice A0 l0.length c0] w fun e w' => ∃ v1_ : Value, e = .returned (.agg #[.string r1, v1_]) ∧ Kd.Q (Kd.int .i64) 3 w' w.heap.size (fun _ => True) v1_ r2 ∧ Below w.heap.size w w' := by
 have hu25 := Try.underlying25; have HR0 := Az hr0; have HC0 := Az hc0; clear hr0 hc0; have HB := Az (Below.refl w.heap.size w); have H : ((spec_l6Open.f l0).bind fun bt376 => ((spec_l92Tree.f k bt376.1 bt376.2 3).bind fun bt379 => (some (bt379.1, bt379.2.1)))) = some (r1, r2) := h; clear h; replace H := Option.bind_eq_some_iff.mp H; obtain ⟨⟨t376, t377⟩, A20, H⟩ := H; replace H : ((spec_l92Tree.f k t376 t377 3).bind fun bt379 => (some (bt379.1, bt379.2.1))) = some (r1, r2) := H; have A2 := Az A20; clear A20; replace H := Option.bind_eq_some_iff.mp H; obtain ⟨⟨t379, t380, t383⟩, A30, H⟩ := H; replace H : (some (t379, t380)) = some (r1, r2) := H; have A3 := Az A30; clear A30; simp only [Option.some.injEq, Prod.mk.injEq] at H; obtain ⟨rfl, rfl⟩ := H
 go_enter Try.func44, Try.ntmps44
 go_wp2_with (first | ((with_reducible refine gate_dst (N := 2) rfl ?_); refine box_event ?hg (N := 2) ?hd (cs := #[.string (⟨#[]⟩ : ByteArray), .slice none 0 0]) (t := 25) ?hr ?_; (case hd => rfl); (case hg => rfl); (case hr => first | (go_simp; done) | (go_simp; rfl)); intro gb375 hg w4 hbox hb; have n0 := Az (below_step (bU0 HB.out) hb); have n1 := Az (hbox); have n2 := Az ((by rw [hg]; exact (below_size (bU0 HB.out)) : w.heap.size ≤ gb375)); have n3 := n2; clear HB; have HB := n0; have BK375 := n1; have GW375 := n2; have GE375 := n3; clear n0 n1 n2 n3; clear hb hbox hg) | ((with_reducible refine gate_callee (f := 62) rfl ?_); refine goesL_ (some 4) rfl rfl Try.func62 (by kernel_rfl) rfl #[.slice A0 l0.length c0] rfl (by (try simp only [List.map_toArray, List.map_cons, List.map_nil]); first | done | rfl | (simp only [List.length_drop, List.length_take]; rfl)) ?_; (with_reducible refine (spec_l6Open.calls _ _ l0 t376 t377 w _ ?side1 ?side2 ?side3 A2.out).mono ?_); (case side1 => repeat (first | (with_reducible first | exact HB.out | apply below_alloc | apply pw_below_drewN | apply below_drew1 | refine below_set ?_ GE375.out) | exact HB.out)); (case side2 => exact HR0.out); (case side3 => exact HC0.out); rintro e w5 ⟨g378, rfl, hi, hb, hb2⟩; refine ⟨_, rfl, ?_⟩; have n0 := Az (blk_below (g := gb375) (o := .cells #[.string (⟨#[]⟩ : ByteArray), .slice none 0 0] 25 (0, 0)) (kU BK375.out) hb2); have n1 := Az (hb); have n2 := Az (hi); have n3 := Az (IsS104.ne_blk hi (blk_below (g := gb375) (o := .cells #[.string (⟨#[]⟩ : ByteArray), .slice none 0 0] 25 (0, 0)) (kU BK375.out) hb2) (by decide)); have n4 := Az (Ne.symm (IsS104.ne_blk hi (blk_below (g := gb375) (o := .cells #[.string (⟨#[]⟩ : ByteArray), .slice none 0 0] 25 (0, 0)) (kU BK375.out) hb2) (by decide))); clear BK375 HB; have BK375 := n0; have HB := n1; have HI378 := n2; have NB378_375 := n3; have NB375_378 := n4; clear n0 n1 n2 n3 n4; (try clear hb); (try clear hb2); (try clear hk); (try clear hi)) | ((with_reducible refine gate_callee (f := 61) rfl ?_); refine goesL_ (some 5) rfl rfl Try.func61 (by kernel_rfl) rfl #[.pointer (some ⟨g378, 0, none⟩), .int .i64 3] rfl (by (try simp only [List.map_toArray, List.map_cons, List.map_nil]); first | done | rfl | (simp only [List.length_drop, List.length_take]; rfl)) ?_; (with_reducible refine (spec_l92Tree.calls k g378 t376 t377 3 t379 t380 t383 w _ ?side1 ?side2 A3.out).mono ?_); (case side1 => repeat (first | (with_reducible first | exact HI378.out | apply IsS104.alloc | apply IsS104.drewN | apply IsS104.drew | apply IsS104.set_1 | refine IsS104.far ?_ NB378_375.out _) | exact HI378.out)); (case side2 => repeat (first | (with_reducible first | exact HB.out | apply below_alloc | apply pw_below_drewN | apply below_drew1 | refine below_set ?_ (IsS104.ge HI378.out) | refine below_set ?_ GE375.out) | exact HB.out)); rintro e w6 ⟨v381, rfl, ho0, hi, hb, hk⟩; refine ⟨_, rfl, ?_⟩; have n0 := Az (KeepBut.blk hk (g' := gb375) (o := .cells #[.string (⟨#[]⟩ : ByteArray), .slice none 0 0] 25 (0, 0)) (kU BK375.out) NB375_378.out (by simp)); have n1 := Az (Kd.Q_lower ho0 (below_size (by repeat (first | (with_reducible first | exact HB.out | apply below_alloc | apply pw_below_drewN | apply below_drew1 | refine below_set ?_ (IsS104.ge HI378.out) | refine below_set ?_ GE375.out) | exact HB.out)))); have n2 := Az (hb); have n3 := Az (hi); clear BK375 HB HI378; have BK375 := n0; have HO382 := n1; have HB := n2; have HI378 := n3; clear n0 n1 n2 n3; (try clear hb); (try clear hb2); (try clear hk); (try clear hi); (try clear ho0); have hnb7 := NB375_378.out; have hnc7 := NB378_375.out; have hcz8_0 : w6.cell? ⟨gb375, 0, none⟩ = some (.string (⟨#[]⟩ : ByteArray)) := (blk_cell BK375.out 0).trans rfl; have hcz8_1 : w6.cell? ⟨gb375, 1, none⟩ = some (.slice none 0 0) := (blk_cell BK375.out 1).trans rfl; have hfz8_0 := blk_frozen BK375.out 0; have hfz8_1 := blk_frozen BK375.out 1; obtain ⟨Ao9, co9, eo9, _⟩ := Kd.Q_slice HO382.out; subst eo9))
 refine bodyPost_ret (results_cell_row rfl _ _ gb375 25 #[.string t379, .slice Ao9 t380.length co9] (0, 0) _ rfl (by (with_reducible repeat (first | refine blk_drewN ?_ _ | refine blk_drew ?_ | refine blk_alloc ?_ _)); refine blk_put (cs := #[.string t379, .slice none 0 0]) ?_ 1 _ rfl; (with_reducible repeat (first | refine blk_drewN ?_ _ | refine blk_drew ?_ | refine blk_alloc ?_ _)); refine blk_put (cs := #[.string (⟨#[]⟩ : ByteArray), .slice none 0 0]) ?_ 0 _ rfl; (with_reducible repeat (first | refine blk_drewN ?_ _ | refine blk_drew ?_ | refine blk_alloc ?_ _)); exact BK375.out) Try.underlying25 rfl (by kernel_rfl)) rfl ?_
 exact ⟨_, rE, by (with_reducible repeat (first | apply Kd.Q_alloc | apply Kd.Q_drewN | apply Kd.Q_drew)); exact Kd.Q_mono (Kd.Q_far (p := ⟨gb375, 1, none⟩) (Kd.Q_far (p := ⟨gb375, 0, none⟩) (Kd.Q_types HO382.out BK375.out (by decide)) (fun _ hk => hk.2) (.string t379)) (fun _ hk => hk.2) (.slice Ao9 t380.length co9)) (fun _ hk => trivial), by repeat (first | (with_reducible first | exact HB.out | apply below_alloc | apply pw_below_drewN | apply below_drew1 | refine below_set ?_ (IsS104.ge HI378.out) | refine below_set ?_ GE375.out) | exact HB.out)⟩
def impl_TreeLabels.f (k : Nat) (a0_0 : ByteArray) (l0_1 : List Int) : Option (List Int × Bool) := (impl_TreeValid.f k a0_0 l0_1).bind fun t385 => (if t385 = true then ((impl_walked.f k a0_0 l0_1).bind fun bt386 => (some (bt386.2.1, true))) else (some (([] : List Int), false)))
theorem impl_TreeLabels.mono : ∀ a0 a1 k, LeO (impl_TreeLabels.f k a0 a1) (impl_TreeLabels.f (k + 1) a0 a1) := by
 intro a0 a1 k
 unfold impl_TreeLabels.f
 repeat' first
   | (with_reducible exact impl_TreeValid.mono _ _ _)
   | (with_reducible exact impl_walked.mono _ _ _)
   | (with_reducible exact LeO.refl _)
   | (with_reducible exact LeO.none _)
   | (with_reducible refine LeO.ite ?_ ?_)
   | (with_reducible refine LeO.bind ?_ (fun _ => ?_))
   | exact impl_TreeValid.mono _ _ _
   | exact impl_walked.mono _ _ _
   | exact LeO.none _
   | refine LeO.ite ?_ ?_
   | refine LeO.bind ?_ (fun _ => ?_)
set_option maxHeartbeats 8000000 in
set_option maxRecDepth 100000 in
theorem impl_TreeLabels.calls (k : Nat) (a0_0 : ByteArray) (A0_1 : Option Addr) (c0_1 : Nat) (l0_1 : List Int) (r1 : List Int) (r2 : Bool) (w : World) (hr0_1 : Kd.C (Kd.int .i64) w A0_1 l0_1.length l0_1) (hc0_1 : l0_1.length ≤ c0_1) (h : impl_TreeLabels.f k a0_0 l0_1 = some (r1, r2)) :
  Calls Try.prog 45 #[.agg #[.string a0_0, .slice A0_1 l0_1.length c0_1]] w fun e w' => ∃ v0_ : Value, e = .returned (.tuple #[v0_, .bool r2]) ∧ Kd.R (Kd.int .i64) 3 w' w.heap.size (fun _ => True) v0_ r1 ∧ Below w.heap.size w w' := by
 have hu25 := Try.underlying25; have HR0_1 := Az hr0_1; have HC0_1 := Az hc0_1; clear hr0_1 hc0_1; have HB := Az (Below.refl w.heap.size w); have H : ((impl_TreeValid.f k a0_0 l0_1).bind fun t385 => (if t385 = true then ((impl_walked.f k a0_0 l0_1).bind fun bt386 => (some (bt386.2.1, true))) else (some (([] : List Int), false)))) = some (r1, r2) := h; clear h; replace H := Option.bind_eq_some_iff.mp H; obtain ⟨t385, A20, H⟩ := H; replace H : (if t385 = true then ((impl_walked.f k a0_0 l0_1).bind fun bt386 => (some (bt386.2.1, true))) else (some (([] : List Int), false))) = some (r1, r2) := H; have A2 := Az A20; clear A20
 by_cases c3 : t385 = true
 ·
  subst c3
  have H1 : ((impl_walked.f k a0_0 l0_1).bind fun bt386 => (some (bt386.2.1, true))) = some (r1, r2) := by rw [if_pos rfl] at H; exact H
  clear H; have H := H1; clear H1; replace H := Option.bind_eq_some_iff.mp H; obtain ⟨⟨t386, t389, t392⟩, A40, H⟩ := H; replace H : (some (t389, true)) = some (r1, r2) := H; have A4 := Az A40; clear A40; simp only [Option.some.injEq, Prod.mk.injEq] at H; obtain ⟨rfl, rfl⟩ := H
  go_enter Try.func45, Try.ntmps45
  go_wp2_with (first | ((with_reducible refine gate_dst (N := 1) rfl ?_); refine box_event ?hg (N := 1) ?hd (cs := #[.string a0_0, .slice A0_1 l0_1.length c0_1]) (t := 25) ?hr ?_; (case hd => rfl); (case hg => rfl); (case hr => first | (go_simp; done) | (go_simp; rfl)); intro gb384 hg w5 hbox hb; have n0 := Az (below_step (bU0 HB.out) hb); have n1 := Az (hbox); have n2 := Az ((by rw [hg]; exact (below_size (bU0 HB.out)) : w.heap.size ≤ gb384)); have n3 := n2; clear HB; have HB := n0; have BK384 := n1; have GW384 := n2; have GE384 := n3; clear n0 n1 n2 n3 hb hbox hg; have hcz6_0 : w5.cell? ⟨gb384, 0, none⟩ = some (.string a0_0) := (blk_cell BK384.out 0).trans rfl; have hcz6_1 : w5.cell? ⟨gb384, 1, none⟩ = some (.slice A0_1 l0_1.length c0_1) := (blk_cell BK384.out 1).trans rfl; have hfz6_0 := blk_frozen BK384.out 0; have hfz6_1 := blk_frozen BK384.out 1) | ((with_reducible refine gate_callee (f := 16) rfl ?_); refine goesL_ (some 8) rfl rfl Try.func16 (by kernel_rfl) rfl #[.agg #[.string a0_0, .slice A0_1 l0_1.length c0_1]] rfl (by (try simp only [List.map_toArray, List.map_cons, List.map_nil]); first | done | rfl | (simp only [List.length_drop, List.length_take]; rfl)) ?_; (with_reducible refine (impl_TreeValid.calls k a0_0 _ _ l0_1 true _ ?side1 ?side2 A2.out).mono ?_); (case side1 => exact cU (Kd.C_below HR0_1.out HB.out)); (case side2 => exact HC0_1.out); rintro e w7 ⟨rfl, hb⟩; refine ⟨_, rfl, ?_⟩; have n0 := Az (blk_below (g := gb384) (o := .cells #[.string a0_0, .slice A0_1 l0_1.length c0_1] 25 (0, 0)) (kU BK384.out) hb); have n1 := Az (below_step (bU1 HB.out GE384.out) hb); clear BK384 HB; have BK384 := n0; have HB := n1; clear n0 n1; (try clear hb); (try clear hb2); (try clear hk); (try clear hi); have hcz8_0 : w7.cell? ⟨gb384, 0, none⟩ = some (.string a0_0) := (blk_cell BK384.out 0).trans rfl; have hcz8_1 : w7.cell? ⟨gb384, 1, none⟩ = some (.slice A0_1 l0_1.length c0_1) := (blk_cell BK384.out 1).trans rfl; have hfz8_0 := blk_frozen BK384.out 0; have hfz8_1 := blk_frozen BK384.out 1) | ((with_reducible refine gate_callee (f := 64) rfl ?_); refine goesL_ (some 12) rfl rfl Try.func64 (by kernel_rfl) rfl #[.agg #[.string a0_0, .slice A0_1 l0_1.length c0_1]] rfl (by (try simp only [List.map_toArray, List.map_cons, List.map_nil]); first | done | rfl | (simp only [List.length_drop, List.length_take]; rfl)) ?_; (with_reducible refine (impl_walked.calls k a0_0 _ _ l0_1 t386 t389 t392 _ ?side1 ?side2 A4.out).mono ?_); (case side1 => exact cU (Kd.C_below HR0_1.out HB.out)); (case side2 => exact HC0_1.out); rintro e w9 ⟨v387, v390, v393, rfl, ho0, ho1, ho2, hb⟩; refine ⟨_, rfl, ?_⟩; have n0 := Az (Kd.R_lower ho0 (below_size (bU1 HB.out GE384.out))); have n1 := Az (Kd.R_lower ho1 (below_size (bU1 HB.out GE384.out))); have n2 := Az (Kd.R_lower ho2 (below_size (bU1 HB.out GE384.out))); have n3 := Az (blk_below (g := gb384) (o := .cells #[.string a0_0, .slice A0_1 l0_1.length c0_1] 25 (0, 0)) (kU BK384.out) hb); have n4 := Az (below_step (bU1 HB.out GE384.out) hb); clear BK384 HB; have HO388 := n0; have HO391 := n1; have HO394 := n2; have BK384 := n3; have HB := n4; clear n0 n1 n2 n3 n4; (try clear hb); (try clear hb2); (try clear hk); (try clear hi); (try clear ho0); (try clear ho1); (try clear ho2)))
  go_ret2
  exact ⟨_, rE, by (with_reducible repeat (first | apply Kd.R_alloc | apply Kd.R_drewN | apply Kd.R_drew)); exact Kd.R_mono HO391.out (fun _ hk => trivial), bU1 HB.out GE384.out⟩
 ·
  replace c3 := Bool.eq_false_iff.mpr c3; subst c3
  have H1 : (some (([] : List Int), false)) = some (r1, r2) := by rw [if_neg (show ¬ (false = true) by decide)] at H; exact H
  clear H; have H := H1; clear H1; simp only [Option.some.injEq, Prod.mk.injEq] at H; obtain ⟨rfl, rfl⟩ := H
  go_enter Try.func45, Try.ntmps45
  go_wp2_with (first | ((with_reducible refine gate_dst (N := 1) rfl ?_); refine box_event ?hg (N := 1) ?hd (cs := #[.string a0_0, .slice A0_1 l0_1.length c0_1]) (t := 25) ?hr ?_; (case hd => rfl); (case hg => rfl); (case hr => first | (go_simp; done) | (go_simp; rfl)); intro gb384 hg w10 hbox hb; have n0 := Az (below_step (bU0 HB.out) hb); have n1 := Az (hbox); have n2 := Az ((by rw [hg]; exact (below_size (bU0 HB.out)) : w.heap.size ≤ gb384)); have n3 := n2; clear HB; have HB := n0; have BK384 := n1; have GW384 := n2; have GE384 := n3; clear n0 n1 n2 n3 hb hbox hg; have hcz11_0 : w10.cell? ⟨gb384, 0, none⟩ = some (.string a0_0) := (blk_cell BK384.out 0).trans rfl; have hcz11_1 : w10.cell? ⟨gb384, 1, none⟩ = some (.slice A0_1 l0_1.length c0_1) := (blk_cell BK384.out 1).trans rfl; have hfz11_0 := blk_frozen BK384.out 0; have hfz11_1 := blk_frozen BK384.out 1) | ((with_reducible refine gate_callee (f := 16) rfl ?_); refine goesL_ (some 8) rfl rfl Try.func16 (by kernel_rfl) rfl #[.agg #[.string a0_0, .slice A0_1 l0_1.length c0_1]] rfl (by (try simp only [List.map_toArray, List.map_cons, List.map_nil]); first | done | rfl | (simp only [List.length_drop, List.length_take]; rfl)) ?_; (with_reducible refine (impl_TreeValid.calls k a0_0 _ _ l0_1 false _ ?side1 ?side2 A2.out).mono ?_); (case side1 => exact cU (Kd.C_below HR0_1.out HB.out)); (case side2 => exact HC0_1.out); rintro e w12 ⟨rfl, hb⟩; refine ⟨_, rfl, ?_⟩; have n0 := Az (blk_below (g := gb384) (o := .cells #[.string a0_0, .slice A0_1 l0_1.length c0_1] 25 (0, 0)) (kU BK384.out) hb); have n1 := Az (below_step (bU1 HB.out GE384.out) hb); clear BK384 HB; have BK384 := n0; have HB := n1; clear n0 n1; (try clear hb); (try clear hb2); (try clear hk); (try clear hi)))
  go_ret2
  exact ⟨_, rE, by first | exact Kd.R_nil _ _ _ _ _ | exact Kd.N_nil _ _ _ _ _ | exact Kd.V_nil _ _ _ _ _ | exact Kd.Q_nil _ _ _ _ _ | exact Kd.S_nil _ _ _ _ _, bU1 HB.out GE384.out⟩
def impl_PermValid.l0 : Nat → List Int → List Bool → Int → Option Bool
 | 0, _, _, _ => none
 | k + 1, l, s, i => if i < (l.length : Int) then (if 0 ≤ i then (if rd l i < 0 then (some false) else (if rd l i ≥ (l.length : Int) then (some false) else (if s.getD (rd l i).toNat false = true then (some false) else (impl_PermValid.l0 k l (s.set (rd l i).toNat true) (wrap64 (i + 1)))))) else none) else (some true)
def impl_PermValid.f (k : Nat) (l0 : List Int) : Option Bool := if (l0.length : Int) < 1 then (some false) else (if (l0.length : Int) > 12 then (some false) else (impl_PermValid.l0 k l0 (List.replicate 12 false) 0))
theorem impl_PermValid.mono_l : ∀ k, (∀ y0 y1 y2, LeO (impl_PermValid.l0 k y0 y1 y2) (impl_PermValid.l0 (k + 1) y0 y1 y2))
 | 0 => fun _ _ _ r h => by simp [impl_PermValid.l0] at h
 | k + 1 => by
  have ih0 := impl_PermValid.mono_l k
  intro y0 y1 y2
  unfold impl_PermValid.l0
  repeat' first
   | (with_reducible exact ih0 _ _ _)
   | (with_reducible exact LeO.refl _)
   | (with_reducible refine LeO.ite ?_ ?_)
theorem impl_PermValid.mono : ∀ a0 k, LeO (impl_PermValid.f k a0) (impl_PermValid.f (k + 1) a0) := by
 intro a0 k
 unfold impl_PermValid.f
 exact LeO.ite (LeO.refl _) (LeO.ite (LeO.refl _) (impl_PermValid.mono_l k _ _ _))
set_option maxHeartbeats 8000000 in
set_option maxRecDepth 100000 in
theorem impl_PermValid.calls (k : Nat) (A0 : Option Addr) (c0 : Nat) (l0 : List Int) (r : Bool) (w : World) (hr0 : Kd.C (Kd.int .i64) w A0 l0.length l0) (hc0 : l0.length ≤ c0) (h : impl_PermValid.f k l0 = some r) :
  Calls Try.prog 105 #[.slice A0 l0.length c0] w fun e w' => e = .returned (.bool r) ∧ Below w.heap.size w w' := by
 have HR0 := Az hr0; have HC0 := Az hc0; clear hr0 hc0; have HB := Az (Below.refl w.heap.size w); have H : (if (l0.length : Int) < 1 then (some false) else (if (l0.length : Int) > 12 then (some false) else (impl_PermValid.l0 k l0 (List.replicate 12 false) 0))) = some r := h; clear h
 by_cases c3 : (l0.length : Int) < 1
 ·
  rw [if_pos c3] at H; have c3b0 := decide_eq_true c3; clear c3; obtain rfl := Option.some.inj H
  go_enter Try.func105, Try.ntmps105
  go_wp2
  go_ret
  exact ⟨rfl, below_alloc HB.out _⟩
 ·
  rw [if_neg c3] at H; have c3b0 := decide_eq_false c3; clear c3
  by_cases c4 : (l0.length : Int) > 12
  ·
   rw [if_pos c4] at H; have c4b0 := decide_eq_true c4; clear c4; obtain rfl := Option.some.inj H
   go_enter Try.func105, Try.ntmps105
   go_wp2
   go_ret
   exact ⟨rfl, below_alloc HB.out _⟩
  ·
   rw [if_neg c4] at H; have c4b0 := decide_eq_false c4
   have c4p : (l0.length : Int) ≤ 12 := by omega
   clear c4; have H' := Az H; clear H
   go_enter Try.func105, Try.ntmps105
   go_wp2
   go_loopg [17] k (fun kq v17 w' => ∃ (s : List Bool) (i : Int), v17 = .int .i64 i ∧ Aside0 (impl_PermValid.l0 kq l0 s i = some r) ∧ Aside0 (kq ≤ k) ∧ Aside0 (s.length = 12) ∧ Aside0 (w'.heap[w.heap.size]? = some (.cells (s.map Value.bool).toArray 110 (0, 0))) ∧ Aside0 (Below w.heap.size w w'))
   case atStart => exact ⟨List.replicate 12 false, 0, rfl, H', ⟨Nat.le_refl _⟩, ⟨rfl⟩, ⟨by simpa using heap_alloc_new w _⟩, ⟨below_alloc HB.out _⟩⟩
   case round =>
    clear H'; obtain ⟨s, i, rfl, HA, HK1, HL, BK, HB⟩ := hrel
    cases gk with
    | zero => exact absurd HA.out (by simp [impl_PermValid.l0])
    | succ k1 =>
     have H := HA.out; clear HA; simp only [impl_PermValid.l0] at H
     by_cases c5 : i < (l0.length : Int)
     ·
      rw [if_pos c5] at H; have c5b0 := decide_eq_true c5
      by_cases c6 : 0 ≤ i
      ·
       rw [if_pos c6] at H; have c6b0 := decide_eq_true c6; obtain ⟨ad, e, hx⟩ := Kd.at_int HR0.out i c6 c5
       cases e
       replace hx := (HB.out.cell (World.block_lt_of_cell? w _ hx)).trans hx; replace c6 := eq_true c6; replace c5 := eq_true c5
       by_cases c7 : rd l0 i < 0
       ·
        rw [if_pos c7] at H; have c7b0 := decide_eq_true c7; clear c7; obtain rfl := Option.some.inj H
        go_wp2
        go_ret
        exact ⟨rfl, HB.out⟩
       ·
        rw [if_neg c7] at H; have c7b0 := decide_eq_false c7
        have c7p : 0 ≤ rd l0 i := by omega
        clear c7
        by_cases c8 : rd l0 i ≥ (l0.length : Int)
        ·
         rw [if_pos c8] at H; have c8b0 := decide_eq_true c8; clear c8; obtain rfl := Option.some.inj H
         go_wp2
         go_ret
         exact ⟨rfl, HB.out⟩
        ·
         rw [if_neg c8] at H; have c8b0 := decide_eq_false c8
         have c8p : rd l0 i < 12 := by omega
         clear c8; have hcs : wr.cell? ⟨w.heap.size, (rd l0 i).toNat, none⟩ = some (.bool (s.getD (rd l0 i).toNat false)) := (blk_cell BK.out _).trans (by have hl := HL.out; simp [List.getD_eq_getElem?_getD]; rw [List.getElem?_eq_getElem (by omega)]; rfl); have hfs := blk_frozen BK.out (rd l0 i).toNat
         generalize hb : s.getD (rd l0 i).toNat false = b at H hcs
         cases b with
         | true =>
          rw [if_pos rfl] at H; obtain rfl := Option.some.inj H; clear hb
          go_wp2
          go_ret
          exact ⟨rfl, HB.out⟩
         | false =>
          rw [if_neg (by decide)] at H; have H' := Az H; clear H hb
          go_wp2
          (first | go_roundg k1 | (refine Handed.intro k1 ?measure ?_; rotate_left; go_step; (try simp only [add_plain]); (repeat apply Exists.intro); refine ⟨?rel, rfl⟩))
          case measure => have := HK1.out; omega
          case rel => exact ⟨s.set (rd l0 i).toNat true, wrap64 (i + 1), rS, H', ⟨by have := HK1.out; omega⟩, ⟨by rw [List.length_set]; exact HL.out⟩, ⟨by simpa using blk_set BK.out (rd l0 i).toNat (.bool true)⟩, ⟨below_set HB.out (Nat.le_refl _)⟩⟩
      ·
       rw [if_neg c6] at H
       exact absurd H (by simp)
     ·
      rw [if_neg c5] at H; have c5b0 := decide_eq_false c5; clear c5; obtain rfl := Option.some.inj H
      go_wp2
      go_ret
      exact ⟨rfl, HB.out⟩
def slices_Max_int_int.l0 : Nat → List Int → Int → Int → Option (Int)
 | 0, _, _, _ => none
 | k + 1, x0, x3, x4 => if x4 < (x0.length : Int) then (if 0 ≤ x4 then (slices_Max_int_int.l0 k x0 (mx x3 (rd x0 x4)) (wrap64 (x4 + 1))) else (none)) else (some x3)
def slices_Max_int_int.f (k : Nat) (l0 : List Int) : Option (Int) := if (l0.length : Int) < 1 then (none) else (if 0 < (l0.length : Int) then (slices_Max_int_int.l0 k l0 (rd l0 0) 1) else (none))
theorem slices_Max_int_int.mono_l : ∀ k, (∀ y0 y1 y2, LeO (slices_Max_int_int.l0 k y0 y1 y2) (slices_Max_int_int.l0 (k + 1) y0 y1 y2))
 | 0 => fun _ _ _ r h => by simp [slices_Max_int_int.l0] at h
 | k + 1 => by
  have ih0 := slices_Max_int_int.mono_l k
  ·
   intro y0 y1 y2
   unfold slices_Max_int_int.l0
   repeat' first
   | (with_reducible exact ih0 _ _ _)
   | (with_reducible exact LeO.refl _)
   | (with_reducible exact LeO.none _)
   | (with_reducible refine LeO.ite ?_ ?_)
   | (with_reducible refine LeO.bind ?_ (fun _ => ?_))
   | exact ih0 _ _ _
   | exact LeO.none _
   | refine LeO.ite ?_ ?_
   | refine LeO.bind ?_ (fun _ => ?_)
theorem slices_Max_int_int.mono : ∀ a0 k, LeO (slices_Max_int_int.f k a0) (slices_Max_int_int.f (k + 1) a0) := by
 intro a0 k
 have ih0 := slices_Max_int_int.mono_l k
 unfold slices_Max_int_int.f
 repeat' first
   | (with_reducible exact ih0 _ _ _)
   | (with_reducible exact LeO.refl _)
   | (with_reducible exact LeO.none _)
   | (with_reducible refine LeO.ite ?_ ?_)
   | (with_reducible refine LeO.bind ?_ (fun _ => ?_))
   | exact ih0 _ _ _
   | exact LeO.none _
   | refine LeO.ite ?_ ?_
   | refine LeO.bind ?_ (fun _ => ?_)
set_option maxHeartbeats 8000000 in
set_option maxRecDepth 100000 in
theorem slices_Max_int_int.calls (k : Nat) (A0 : Option Addr) (c0 : Nat) (l0 : List Int) (r : Int) (w : World) (hr0 : Kd.C (Kd.int .i64) w A0 l0.length l0) (hc0 : l0.length ≤ c0) (h : slices_Max_int_int.f k l0 = some r) :
  Calls Try.prog 106 #[.slice A0 l0.length c0] w fun e w' => e = .returned (.int .i64 r) ∧ Below w.heap.size w w' := by
 have HR0 := Az hr0; have HC0 := Az hc0; clear hr0 hc0; have HB := Az (Below.refl w.heap.size w); have H : (if (l0.length : Int) < 1 then (none) else (if 0 < (l0.length : Int) then (slices_Max_int_int.l0 k l0 (rd l0 0) 1) else (none))) = some r := h; clear h
 by_cases c2 : (l0.length : Int) < 1
 ·
  rw [if_pos c2] at H
  exact absurd H (by simp)
 ·
  rw [if_neg c2] at H; have c2b0 := decide_eq_false c2; have c2b1 : decide (l0.length < 1) = false := decide_eq_false (by omega); clear c2
  by_cases c3 : 0 < (l0.length : Int)
  ·
   rw [if_pos c3] at H; have c3b0 := decide_eq_true c3; have c3b1 : decide (0 < l0.length) = true := decide_eq_true (by omega); clear c3; have H' := Az H; clear H; have p395 : 0 ≤ (0 : Int) := (by omega); have q395 : 0 < (l0.length : Int) := oA; obtain ⟨ad395, e395, hx395_0⟩ := Kd.at_int HR0.out 0 p395 q395
   cases e395
   have qi395 : (0 < l0.length) = True := eq_true (by omega); (try rw [show ((0 : Int)).toNat = 0 from rfl] at hx395_0); (try rw [Addr.add_zero'] at hx395_0); replace p395 := eq_true p395; replace q395 := eq_true q395
   go_enter Try.func106, Try.ntmps106
   go_wp2
   go_loopg [3, 4] k (fun kq v3 v4 w' => ∃ (x3_1 : Int) (x4_1 : Int), v3 = .int .i64 x3_1 ∧ v4 = .int .i64 x4_1 ∧ Aside0 (slices_Max_int_int.l0 kq l0 x3_1 x4_1 = some r) ∧ Aside0 (kq ≤ k) ∧ Aside0 (Below w.heap.size w w'))
   case atStart => exact ⟨(rd l0 0), (1), rS, rS, H', ⟨Nat.le_refl _⟩, ⟨bU0 HB.out⟩⟩
   case round =>
    clear H'; (try clear c1); (try clear c2); (try clear c2b0); (try clear c2b1); (try clear p2); (try clear c3); (try clear c3b0); (try clear c3b1); (try clear p3); (try clear q3); (try clear hx3); (try clear qi3); (try clear hx395_0); (try clear p395); (try clear q395); obtain ⟨x3_1, x4_1, rfl, rfl, HA, HK1, HB⟩ := hrel
    cases gk with
    | zero => exact absurd HA.out (by simp [slices_Max_int_int.l0])
    | succ k1 =>
     have H := HA.out; clear HA; simp only [slices_Max_int_int.l0] at H
     by_cases c4 : x4_1 < (l0.length : Int)
     ·
      rw [if_pos c4] at H; have c4b0 := decide_eq_true c4; clear c4
      by_cases c5 : 0 ≤ x4_1
      ·
       rw [if_pos c5] at H; have c5b0 := decide_eq_true c5; clear c5; obtain ⟨ji6, hji6⟩ : ∃ j_ : Int, (mx x3_1 (rd l0 x4_1)) = j_ := ⟨_, rfl⟩
       replace H : (slices_Max_int_int.l0 k1 l0 ji6 (wrap64 (x4_1 + 1))) = some r := by first | (rw [hji6] at H; exact H) | (simp only [hji6] at H ⊢; exact H)
       have hji6_ : (if x3_1 < (rd l0 x4_1) then (rd l0 x4_1) else x3_1) = ji6 := hji6; have H' := Az H; clear H; have p396 : 0 ≤ (x4_1 : Int) := oA; have q396 : x4_1 < (l0.length : Int) := oA; obtain ⟨ad396, e396, hx396_0⟩ := Kd.at_int HR0.out x4_1 p396 q396; obtain rfl : ad395 = ad396 := (by injection e396); (try replace hx396_0 := (HB.out.cell (World.block_lt_of_cell? w _ hx396_0)).trans hx396_0); replace p396 := eq_true p396; replace q396 := eq_true q396
       go_wp2
       (first | go_roundg k1 | (refine Handed.intro k1 ?measure ?_; rotate_left; go_step; (try simp only [add_plain]); (repeat apply Exists.intro); refine ⟨?rel, rfl⟩))
       case measure => have := HK1.out; omega
       case rel => exact ⟨(ji6), (wrap64 (x4_1 + 1)), (by first | rfl | (simp; done) | (simp only [← hji6] <;> (first | rfl | simp)) | (simp [*]; done)), rS, H', ⟨by have := HK1.out; omega⟩, ⟨bU0 HB.out⟩⟩
      ·
       rw [if_neg c5] at H
       exact absurd H (by simp)
     ·
      rw [if_neg c4] at H; have c4b0 := decide_eq_false c4; clear c4; obtain rfl := Option.some.inj H
      go_wp2
      go_ret
      exact ⟨rE, bU0 HB.out⟩
  ·
   rw [if_neg c3] at H
   exact absurd H (by simp)
def impl_still.l0 : Nat → List Int → Int → Int → Option (List Int)
 | 0, _, _, _ => none
 | k + 1, x3, x8, x9 => if x9 < x8 then (if 0 ≤ x9 then (if x9 < (x3.length : Int) then (impl_still.l0 k (x3.set (x9 : Int).toNat x9) x8 (wrap64 (x9 + 1))) else (none)) else (none)) else (some x3)
def impl_still.f (k : Nat) (a0 : Int) : Option (List Int) := if 0 ≤ a0 then (if (a0 : Int).toNat ≤ 35184372088832 then ((some (List.replicate (a0 : Int).toNat 0 : List Int)).bind fun y397 => (impl_still.l0 k y397 (y397.length : Int) 0)) else (none)) else (none)
theorem impl_still.mono_l : ∀ k, (∀ y0 y1 y2, LeO (impl_still.l0 k y0 y1 y2) (impl_still.l0 (k + 1) y0 y1 y2))
 | 0 => fun _ _ _ r h => by simp [impl_still.l0] at h
 | k + 1 => by
  have ih0 := impl_still.mono_l k
  ·
   intro y0 y1 y2
   unfold impl_still.l0
   repeat' first
   | (with_reducible exact ih0 _ _ _)
   | (with_reducible exact LeO.refl _)
   | (with_reducible exact LeO.none _)
   | (with_reducible refine LeO.ite ?_ ?_)
   | (with_reducible refine LeO.bind ?_ (fun _ => ?_))
   | exact ih0 _ _ _
   | exact LeO.none _
   | refine LeO.ite ?_ ?_
   | refine LeO.bind ?_ (fun _ => ?_)
theorem impl_still.mono : ∀ a0 k, LeO (impl_still.f k a0) (impl_still.f (k + 1) a0) := by
 intro a0 k
 have ih0 := impl_still.mono_l k
 unfold impl_still.f
 repeat' first
   | (with_reducible exact ih0 _ _ _)
   | (with_reducible exact LeO.refl _)
   | (with_reducible exact LeO.none _)
   | (with_reducible refine LeO.ite ?_ ?_)
   | (with_reducible refine LeO.bind ?_ (fun _ => ?_))
   | exact ih0 _ _ _
   | exact LeO.none _
   | refine LeO.ite ?_ ?_
   | refine LeO.bind ?_ (fun _ => ?_)
set_option maxHeartbeats 8000000 in
set_option maxRecDepth 100000 in
theorem impl_still.calls (k : Nat) (a0 : Int) (r : List Int) (w : World) (h : impl_still.f k a0 = some r) :
  Calls Try.prog 122 #[.int .i64 a0] w fun e w' => ∃ v0_ : Value, e = .returned (v0_) ∧ Kd.R (Kd.int .i64) 3 w' w.heap.size (fun _ => True) v0_ r ∧ Below w.heap.size w w' := by
 have HB := Az (Below.refl w.heap.size w); have H : (if 0 ≤ a0 then (if (a0 : Int).toNat ≤ 35184372088832 then ((some (List.replicate (a0 : Int).toNat 0 : List Int)).bind fun y397 => (impl_still.l0 k y397 (y397.length : Int) 0)) else (none)) else (none)) = some r := h; clear h
 by_cases c2 : 0 ≤ a0
 ·
  rw [if_pos c2] at H; have c2b0 := eq_true c2; have c2b1 := decide_eq_true c2; clear c2
  by_cases c3 : (a0 : Int).toNat ≤ 35184372088832
  ·
   rw [if_pos c3] at H; have c3b0 := eq_true c3; have c3b1 := decide_eq_true c3; clear c3; obtain ⟨y397, hy397⟩ : ∃ y_ : List Int, y_ = (List.replicate (a0 : Int).toNat 0) := ⟨_, rfl⟩; replace H : (impl_still.l0 k y397 (y397.length : Int) 0) = some r := hR hy397 H; have Ny397 := Az hy397; clear hy397; have H' := Az H; clear H
   go_enter Try.func122, Try.ntmps122
   go_wp2_with (first | ((with_reducible refine gate_dst (N := 6) rfl ?_); refine Kd.R_make (Kd.int .i64) _ 3 rfl (N := 6) rfl 23 _ _ rfl a0 rfl rfl Try.underlying23 (.int .i64 0) 8 info3 rfl (by decide) (by omega) 0 (ok := fun _ => True) (okp := fun _ => True) rfl (fun _ hk => hk) trivial (oA) (Nat.le_trans (Nat.mul_le_mul_right _ (oA : a0.toNat ≤ 35184372088832)) (by omega)) (Below.refl _ _) (Nat.le_refl _) ?_; intro v398 w4 ho5 hb hg_ hnew_; clear hg_ hnew_; (first | rw [← Ny397.out] at ho5 | (simp only [Int.reduceToNat] at ho5; rw [← Ny397.out] at ho5)); have n0 := Az (Kd.R_lower ho5 (below_size (bU0 HB.out))); have n1 := Az (below_step (bU0 HB.out) hb); clear HB; have HO399 := n0; have HB := n1; clear n0 n1 hb ho5; obtain ⟨Ao6, co6, eo6⟩ := Kd.R_slice HO399.out; subst eo6))
   go_loopg [9] k (fun kq v9 w' => ∃ (x3_1 : List Int) (x9_1 : Int), v9 = .int .i64 x9_1 ∧ Aside0 (impl_still.l0 kq x3_1 (y397.length : Int) x9_1 = some r) ∧ Aside0 (kq ≤ k) ∧ Aside0 (Kd.R (Kd.int .i64) 3 w' w.heap.size (fun _ => True) (.slice Ao6 y397.length co6) x3_1) ∧ Aside0 (Below w.heap.size w w'))
   case atStart => exact ⟨(y397), (0), rS, H', ⟨Nat.le_refl _⟩, ⟨rU HO399.out⟩, ⟨bU0 HB.out⟩⟩
   case round =>
    clear H'; (try clear c1); (try clear c2); (try clear c2b0); (try clear c2b1); (try clear p2); (try clear c3); (try clear c3b0); (try clear c3b1); obtain ⟨x3_1, x9_1, rfl, HA, HK1, HO_3, HB⟩ := hrel; have hl3_1 := (Kd.R_reads' HO_3.out).1; rw [hl3_1] at HO_3; (try simp only [hl3_1])
    cases gk with
    | zero => exact absurd HA.out (by simp [impl_still.l0])
    | succ k1 =>
     have H := HA.out; clear HA; simp only [impl_still.l0] at H
     by_cases c7 : x9_1 < (y397.length : Int)
     ·
      rw [if_pos c7] at H; have c7b0 := decide_eq_true c7; (try (have c7b0hl3_1 := c7b0; rw [hl3_1] at c7b0hl3_1)); clear c7
      by_cases c8 : 0 ≤ x9_1
      ·
       rw [if_pos c8] at H; have c8b0 := decide_eq_true c8; clear c8
       by_cases c9 : x9_1 < (x3_1.length : Int)
       ·
        rw [if_pos c9] at H; have c9b0 := decide_eq_true c9; (try (have c9b0hl3_1 := c9b0; rw [hl3_1] at c9b0hl3_1)); clear c9; obtain ⟨y400, hy400⟩ : ∃ y_ : List Int, y_ = (x3_1.set (x9_1 : Int).toNat x9_1) := ⟨_, rfl⟩; replace H : (impl_still.l0 k1 y400 (y397.length : Int) (wrap64 (x9_1 + 1))) = some r := hR hy400 H; have Ny400 := Az hy400; clear hy400; have H' := Az H; clear H; have p10 : 0 ≤ (x9_1 : Int) := oA; have q10 : (x9_1 : Int) < ((x3_1.length : Int) : Int) := oA; obtain ⟨go10, co10, eo10, gb10, gl10, cl10, HG10⟩ := Kd.R_form HO_3.out (by omega); (first | cases eo10 | (injection eo10 with ea_ en_ ec_; (first | subst ea_ | (injection ea_ with ea_; subst ea_)); subst ec_; clear en_)); have GB10 := Az gb10; have GG10 := Az HG10; clear gb10 gl10 HG10; obtain ⟨hx10_0, hf10_0⟩ := Kd.R_celln 0 HO_3.out (x9_1 : Int) p10 q10; replace p10 := eq_true p10; replace q10 := eq_true q10; obtain ⟨hy11_, hz11_⟩ := Kd.R_celln 0 HO_3.out (x9_1 : Int) (oA) (oA); have HP11 := Kd.R_putg HO_3.out (x9_1 : Int) x9_1
        go_wp2_with (first | ((with_reducible refine gate_store (t := 3) (p := 15) rfl ?_); refine store_event (t := 3) (p := 15) (v := ?vo_w12) (w1 := (wr.setCell ⟨go10, (x9_1 : Int).toNat, none⟩ (.int .i64 x9_1))) ?hg ?ho ?hn ?hr ?_; (case ho => rfl); (case hg => rfl); (case hn => rfl); (case hr => first | (go_simp; done) | (go_simp; rfl)); intro w12 hw; have hg : wr.grownBy w12 (some go10) := (by rw [hw]; exact HP11.2); have hp_ : Kd.R (Kd.int .i64) 3 w12 w.heap.size (fun _ => True) (.slice (some ⟨go10, 0, none⟩) x3_1.length co6) y400 := (by rw [hw, Ny400.out]; exact HP11.1); clear HP11; have n0 := Az (hp_); have n1 := Az ((by rw [hw]; exact below_set (HB.out) GB10.out : Below w.heap.size w w12)); clear HO_3 HB; have HO_3 := n0; have HB := n1; clear n0 n1; clear hg hw hp_))
        (try simp only [← hl3_1]); (first | go_roundg k1 | (refine Handed.intro k1 ?measure ?_; rotate_left; go_step; (try simp only [add_plain]); (repeat apply Exists.intro); refine ⟨?rel, rfl⟩))
        case measure => have := HK1.out; omega
        case rel => exact ⟨(y400), (wrap64 (x9_1 + 1)), rS, H', ⟨by have := HK1.out; omega⟩, ⟨by (try simp only [hl3_1]); (with_reducible repeat (first | apply Kd.R_alloc | apply Kd.R_drewN | apply Kd.R_drew)); exact HO_3.out⟩, ⟨bU0 HB.out⟩⟩
       ·
        rw [if_neg c9] at H
        exact absurd H (by simp)
      ·
       rw [if_neg c8] at H
       exact absurd H (by simp)
     ·
      rw [if_neg c7] at H; have c7b0 := decide_eq_false c7; (try (have c7b0hl3_1 := c7b0; rw [hl3_1] at c7b0hl3_1)); clear c7; obtain rfl := Option.some.inj H
      go_wp2
      go_ret
      exact ⟨_, rE, rU HO_3.out, bU0 HB.out⟩
  ·
   rw [if_neg c3] at H
   exact absurd H (by simp)
 ·
  rw [if_neg c2] at H
  exact absurd H (by simp)
mutual
def impl_orbits.l0 : Nat → List (List Int) → List Int → Bool → Option (List Int)
 | 0, _, _, _ => none
 | k + 1, x0, x3, x4 => if x4 = true then (impl_orbits.l1 k x0 x3 false x0 (x0.length : Int) 0) else (some x3)
def impl_orbits.l1 : Nat → List (List Int) → List Int → Bool → List (List Int) → Int → Int → Option (List Int)
 | 0, _, _, _, _, _, _ => none
 | k + 1, x0, x3, x4, x16, x17, x18 => if x18 < x17 then (if 0 ≤ x18 then (if x18 < (x16.length : Int) then (impl_orbits.l2 k x0 x3 x4 x16 x17 x18 (rd_L1 x16 x18) ((rd_L1 x16 x18).length : Int) 0) else (none)) else (none)) else (impl_orbits.l0 k x0 x3 x4)
def impl_orbits.l2 : Nat → List (List Int) → List Int → Bool → List (List Int) → Int → Int → List Int → Int → Int → Option (List Int)
 | 0, _, _, _, _, _, _, _, _, _ => none
 | k + 1, x0, x3, x4, x16, x17, x18, x22, x23, x24 => if x24 < x23 then (if 0 ≤ x24 then (if x24 < (x22.length : Int) then (if x24 < (x3.length : Int) then (if 0 ≤ (rd x22 x24) then (if (rd x22 x24) < (x3.length : Int) then (if (rd x3 x24) = (mn (rd x3 x24) (rd x3 (rd x22 x24))) then (if (rd x3 (rd x22 x24)) = (mn (rd x3 x24) (rd x3 (rd x22 x24))) then (impl_orbits.l2 k x0 x3 x4 x16 x17 x18 x22 x23 (wrap64 (x24 + 1))) else (impl_orbits.l2 k x0 ((x3.set (x24 : Int).toNat (mn (rd x3 x24) (rd x3 (rd x22 x24)))).set ((rd x22 x24) : Int).toNat (mn (rd x3 x24) (rd x3 (rd x22 x24)))) true x16 x17 x18 x22 x23 (wrap64 (x24 + 1)))) else (impl_orbits.l2 k x0 ((x3.set (x24 : Int).toNat (mn (rd x3 x24) (rd x3 (rd x22 x24)))).set ((rd x22 x24) : Int).toNat (mn (rd x3 x24) (rd x3 (rd x22 x24)))) true x16 x17 x18 x22 x23 (wrap64 (x24 + 1)))) else (none)) else (none)) else (none)) else (none)) else (none)) else (impl_orbits.l1 k x0 x3 x4 x16 x17 (wrap64 (x18 + 1)))
end
def impl_orbits.f (k : Nat) (l0 : List (List Int)) : Option (List Int) := if 0 < (l0.length : Int) then ((impl_still.f k ((rd_L1 l0 0).length : Int)).bind fun t402 => (impl_orbits.l0 k l0 t402 true)) else (none)
theorem impl_orbits.mono_l : ∀ k, (∀ y0 y1 y2, LeO (impl_orbits.l0 k y0 y1 y2) (impl_orbits.l0 (k + 1) y0 y1 y2)) ∧ (∀ y0 y1 y2 y3 y4 y5, LeO (impl_orbits.l1 k y0 y1 y2 y3 y4 y5) (impl_orbits.l1 (k + 1) y0 y1 y2 y3 y4 y5)) ∧ (∀ y0 y1 y2 y3 y4 y5 y6 y7 y8, LeO (impl_orbits.l2 k y0 y1 y2 y3 y4 y5 y6 y7 y8) (impl_orbits.l2 (k + 1) y0 y1 y2 y3 y4 y5 y6 y7 y8))
 | 0 => ⟨fun _ _ _ r h => by simp [impl_orbits.l0] at h, fun _ _ _ _ _ _ r h => by simp [impl_orbits.l1] at h, fun _ _ _ _ _ _ _ _ _ r h => by simp [impl_orbits.l2] at h⟩
 | k + 1 => by
  obtain ⟨ih0, ih1, ih2⟩ := impl_orbits.mono_l k
  refine ⟨?_, ?_, ?_⟩
  ·
   intro y0 y1 y2
   unfold impl_orbits.l0
   repeat' first
   | (with_reducible exact ih0 _ _ _)
   | (with_reducible exact ih1 _ _ _ _ _ _)
   | (with_reducible exact ih2 _ _ _ _ _ _ _ _ _)
   | (with_reducible exact impl_still.mono _ _)
   | (with_reducible exact LeO.refl _)
   | (with_reducible exact LeO.none _)
   | (with_reducible refine LeO.ite ?_ ?_)
   | (with_reducible refine LeO.bind ?_ (fun _ => ?_))
   | exact ih0 _ _ _
   | exact ih1 _ _ _ _ _ _
   | exact ih2 _ _ _ _ _ _ _ _ _
   | exact impl_still.mono _ _
   | exact LeO.none _
   | refine LeO.ite ?_ ?_
   | refine LeO.bind ?_ (fun _ => ?_)
  ·
   intro y0 y1 y2 y3 y4 y5
   unfold impl_orbits.l1
   repeat' first
   | (with_reducible exact ih0 _ _ _)
   | (with_reducible exact ih1 _ _ _ _ _ _)
   | (with_reducible exact ih2 _ _ _ _ _ _ _ _ _)
   | (with_reducible exact impl_still.mono _ _)
   | (with_reducible exact LeO.refl _)
   | (with_reducible exact LeO.none _)
   | (with_reducible refine LeO.ite ?_ ?_)
   | (with_reducible refine LeO.bind ?_ (fun _ => ?_))
   | exact ih0 _ _ _
   | exact ih1 _ _ _ _ _ _
   | exact ih2 _ _ _ _ _ _ _ _ _
   | exact impl_still.mono _ _
   | exact LeO.none _
   | refine LeO.ite ?_ ?_
   | refine LeO.bind ?_ (fun _ => ?_)
  ·
   intro y0 y1 y2 y3 y4 y5 y6 y7 y8
   unfold impl_orbits.l2
   repeat' first
   | (with_reducible exact ih0 _ _ _)
   | (with_reducible exact ih1 _ _ _ _ _ _)
   | (with_reducible exact ih2 _ _ _ _ _ _ _ _ _)
   | (with_reducible exact impl_still.mono _ _)
   | (with_reducible exact LeO.refl _)
   | (with_reducible exact LeO.none _)
   | (with_reducible refine LeO.ite ?_ ?_)
   | (with_reducible refine LeO.bind ?_ (fun _ => ?_))
   | exact ih0 _ _ _
   | exact ih1 _ _ _ _ _ _
   | exact ih2 _ _ _ _ _ _ _ _ _
   | exact impl_still.mono _ _
   | exact LeO.none _
   | refine LeO.ite ?_ ?_
   | refine LeO.bind ?_ (fun _ => ?_)
theorem impl_orbits.mono : ∀ a0 k, LeO (impl_orbits.f k a0) (impl_orbits.f (k + 1) a0) := by
 intro a0 k
 obtain ⟨ih0, ih1, ih2⟩ := impl_orbits.mono_l k
 unfold impl_orbits.f
 repeat' first
   | (with_reducible exact ih0 _ _ _)
   | (with_reducible exact ih1 _ _ _ _ _ _)
   | (with_reducible exact ih2 _ _ _ _ _ _ _ _ _)
   | (with_reducible exact impl_still.mono _ _)
   | (with_reducible exact LeO.refl _)
   | (with_reducible exact LeO.none _)
   | (with_reducible refine LeO.ite ?_ ?_)
   | (with_reducible refine LeO.bind ?_ (fun _ => ?_))
   | exact ih0 _ _ _
   | exact ih1 _ _ _ _ _ _
   | exact ih2 _ _ _ _ _ _ _ _ _
   | exact impl_still.mono _ _
   | exact LeO.none _
   | refine LeO.ite ?_ ?_
   | refine LeO.bind ?_ (fun _ => ?_)
set_option maxHeartbeats 8000000 in
set_option maxRecDepth 100000 in
theorem impl_orbits.calls (k : Nat) (A0 : Option Addr) (c0 : Nat) (l0 : List (List Int)) (r : List Int) (w : World) (hr0 : Kd.C (Kd.slice 3 (Kd.int .i64)) w A0 l0.length l0) (hc0 : l0.length ≤ c0) (h : impl_orbits.f k l0 = some r) :
  Calls Try.prog 107 #[.slice A0 l0.length c0] w fun e w' => ∃ v0_ : Value, e = .returned (v0_) ∧ Kd.R (Kd.int .i64) 3 w' w.heap.size (fun _ => True) v0_ r ∧ Below w.heap.size w w' := by
 have HR0 := Az hr0; have HC0 := Az hc0; clear hr0 hc0; have HB := Az (Below.refl w.heap.size w); have H : (if 0 < (l0.length : Int) then ((impl_still.f k ((rd_L1 l0 0).length : Int)).bind fun t402 => (impl_orbits.l0 k l0 t402 true)) else (none)) = some r := h; clear h
 by_cases c2 : 0 < (l0.length : Int)
 ·
  rw [if_pos c2] at H; have c2b0 := decide_eq_true c2; have c2b1 : decide (0 < l0.length) = true := decide_eq_true (by omega); clear c2; replace H := Option.bind_eq_some_iff.mp H; obtain ⟨t402, A30, H⟩ := H; replace H : (impl_orbits.l0 k l0 t402 true) = some r := H; have A3 := Az A30; clear A30; have H' := Az H; clear H; have p401 : 0 ≤ (0 : Int) := (by omega); have q401 : 0 < (l0.length : Int) := oA; obtain ⟨ad401, A401_0, c401_0, e401, hx401_0, hl401_0, hi401_0⟩ := at_L1 HR0.out 0 p401 q401
  cases e401
  have qi401 : (0 < l0.length) = True := eq_true (by omega); (try rw [show ((0 : Int)).toNat = 0 from rfl] at hx401_0); (try rw [Addr.add_zero'] at hx401_0); have HR401_0 := Az hi401_0; have HC401_0 := Az hl401_0; clear hi401_0 hl401_0; replace p401 := eq_true p401; replace q401 := eq_true q401
  go_enter Try.func107, Try.ntmps107
  go_wp2_with (first | (go_at_call 122; (with_reducible refine (impl_still.calls k ((rd_L1 l0 0).length : Int) t402 _ A3.out).mono ?_); rintro e w4 ⟨v403, rfl, ho0, hb⟩; have n0 := Az (Kd.R_lower ho0 (below_size (bU0 HB.out))); have n1 := Az (below_step (bU0 HB.out) hb); clear HB; have HO404 := n0; have HB := n1; clear n0 n1; (try clear hb); (try clear hb2); (try clear hk); (try clear hi); (try clear ho0)))
  repeat (go_quiet (fail); try go_wp2_with (fail))
  go_loopg [4] k (fun kq v4 w' => ∃ (x3_1 : List Int) (x4_1 : Bool), v4 = .bool x4_1 ∧ Aside0 (impl_orbits.l0 kq l0 x3_1 x4_1 = some r) ∧ Aside0 (kq ≤ k) ∧ Aside0 (Kd.R (Kd.int .i64) 3 w' w.heap.size (fun _ => True) v403 x3_1) ∧ Aside0 (Below w.heap.size w w'))
  case atStart => exact ⟨(t402), (true), rS, H', ⟨Nat.le_refl _⟩, ⟨rU HO404.out⟩, ⟨bU0 HB.out⟩⟩
  case round =>
   clear H'; (try clear c1); (try clear c2); (try clear c2b0); (try clear c2b1); (try clear p2); (try clear c4); (try clear p4); (try clear q4); (try clear hx4); (try clear qi4); (try clear hx401_0); (try clear p401); (try clear q401); obtain ⟨x3_1, x4_1, rfl, HA, HK1, HO_3, HB⟩ := hrel
   cases gk with
   | zero => exact absurd HA.out (by simp [impl_orbits.l0])
   | succ k1 =>
    have H := HA.out; clear HA; simp only [impl_orbits.l0] at H
    by_cases c5 : x4_1 = true
    ·
     subst c5
     have H1 : (impl_orbits.l1 k1 l0 x3_1 false l0 (l0.length : Int) 0) = some r := by rw [if_pos rfl] at H; exact H
     clear H; have H := H1; clear H1; have H' := Az H; clear H
     go_wp2
     repeat (go_quiet (fail); try go_wp2)
     go_loopg [4, 18] k1 (fun kq v4 v18 w' => ∃ (x3_2 : List Int) (x4_2 : Bool) (x18_2 : Int), v4 = .bool x4_2 ∧ v18 = .int .i64 x18_2 ∧ Aside0 (impl_orbits.l1 kq l0 x3_2 x4_2 l0 (l0.length : Int) x18_2 = some r) ∧ Aside0 (kq ≤ k1) ∧ Aside0 (Kd.R (Kd.int .i64) 3 w' w.heap.size (fun _ => True) v403 x3_2) ∧ Aside0 (Below w.heap.size w w'))
     case atStart => exact ⟨(x3_1), (false), (0), rS, rS, H', ⟨Nat.le_refl _⟩, ⟨rU HO_3.out⟩, ⟨bU0 HB.out⟩⟩
     case round =>
      clear H'; (try clear c1); (try clear c2); (try clear c2b0); (try clear c2b1); (try clear p2); (try clear c4); (try clear p4); (try clear q4); (try clear hx4); (try clear qi4); (try clear c5); (try clear hx401_0); (try clear p2); (try clear p4); (try clear p401); (try clear q4); (try clear q401); obtain ⟨x3_2, x4_2, x18_2, rfl, rfl, HA, HK2, HO_3, HB⟩ := hrel
      cases gk with
      | zero => exact absurd HA.out (by simp [impl_orbits.l1])
      | succ k2 =>
       have H := HA.out; clear HA; simp only [impl_orbits.l1] at H
       by_cases c6 : x18_2 < (l0.length : Int)
       ·
        rw [if_pos c6] at H; have c6b0 := decide_eq_true c6; clear c6
        by_cases c7 : 0 ≤ x18_2
        ·
         rw [if_pos c7] at H; have c7b0 := decide_eq_true c7; clear c7
         by_cases c8 : x18_2 < (l0.length : Int)
         ·
          rw [if_pos c8] at H; have c8b0 := decide_eq_true c8; clear c8; have H' := Az H; clear H; have p405 : 0 ≤ (x18_2 : Int) := oA; have q405 : x18_2 < (l0.length : Int) := oA; obtain ⟨ad405, A405_0, c405_0, e405, hx405_0, hl405_0, hi405_0⟩ := at_L1 HR0.out x18_2 p405 q405; obtain rfl : ad401 = ad405 := (by injection e405); (try replace hx405_0 := (HB.out.cell (World.block_lt_of_cell? w _ hx405_0)).trans hx405_0); have HR405_0 := Az hi405_0; have HC405_0 := Az hl405_0; clear hi405_0 hl405_0; replace p405 := eq_true p405; replace q405 := eq_true q405
          go_wp2
          repeat (go_quiet (fail); try go_wp2)
          go_loopg [4, 24] k2 (fun kq v4 v24 w' => ∃ (x3_3 : List Int) (x4_3 : Bool) (x24_3 : Int), v4 = .bool x4_3 ∧ v24 = .int .i64 x24_3 ∧ Aside0 (impl_orbits.l2 kq l0 x3_3 x4_3 l0 (l0.length : Int) x18_2 (rd_L1 l0 x18_2) ((rd_L1 l0 x18_2).length : Int) x24_3 = some r) ∧ Aside0 (kq ≤ k2) ∧ Aside0 (Kd.R (Kd.int .i64) 3 w' w.heap.size (fun _ => True) v403 x3_3) ∧ Aside0 (Below w.heap.size w w'))
          case atStart => exact ⟨(x3_2), (x4_2), (0), rS, rS, H', ⟨Nat.le_refl _⟩, ⟨rU HO_3.out⟩, ⟨bU0 HB.out⟩⟩
          case round =>
           clear H'; (try clear c1); (try clear c2); (try clear c2b0); (try clear c2b1); (try clear p2); (try clear c4); (try clear p4); (try clear q4); (try clear hx4); (try clear qi4); (try clear c5); (try clear c6); (try clear c6b0); (try clear c7); (try clear c7b0); (try clear c8); (try clear c8b0); (try clear hx401_0); (try clear hx405_0); (try clear p2); (try clear p4); (try clear p401); (try clear p405); (try clear q4); (try clear q401); (try clear q405); obtain ⟨x3_3, x4_3, x24_3, rfl, rfl, HA, HK3, HO_3, HB⟩ := hrel
           cases gk with
           | zero => exact absurd HA.out (by simp [impl_orbits.l2])
           | succ k3 =>
            have H := HA.out; clear HA; simp only [impl_orbits.l2] at H
            by_cases c9 : x24_3 < ((rd_L1 l0 x18_2).length : Int)
            ·
             rw [if_pos c9] at H; have c9b0 := decide_eq_true c9; clear c9
             by_cases c10 : 0 ≤ x24_3
             ·
              rw [if_pos c10] at H; have c10b0 := decide_eq_true c10; clear c10
              by_cases c11 : x24_3 < ((rd_L1 l0 x18_2).length : Int)
              ·
               rw [if_pos c11] at H; have c11b0 := decide_eq_true c11; clear c11
               by_cases c12 : x24_3 < (x3_3.length : Int)
               ·
                rw [if_pos c12] at H; have c12b0 := decide_eq_true c12; clear c12
                by_cases c13 : 0 ≤ (rd (rd_L1 l0 x18_2) x24_3)
                ·
                 rw [if_pos c13] at H; have c13b0 := decide_eq_true c13; clear c13
                 by_cases c14 : (rd (rd_L1 l0 x18_2) x24_3) < (x3_3.length : Int)
                 ·
                  rw [if_pos c14] at H; have c14b0 := decide_eq_true c14; clear c14; obtain ⟨ji15, hji15⟩ : ∃ j_ : Int, (mn (rd x3_3 x24_3) (rd x3_3 (rd (rd_L1 l0 x18_2) x24_3))) = j_ := ⟨_, rfl⟩
                  replace H : (if (rd x3_3 x24_3) = (ji15) then (if (rd x3_3 (rd (rd_L1 l0 x18_2) x24_3)) = (ji15) then (impl_orbits.l2 k3 l0 x3_3 x4_3 l0 (l0.length : Int) x18_2 (rd_L1 l0 x18_2) ((rd_L1 l0 x18_2).length : Int) (wrap64 (x24_3 + 1))) else (impl_orbits.l2 k3 l0 ((x3_3.set (x24_3 : Int).toNat (ji15)).set ((rd (rd_L1 l0 x18_2) x24_3) : Int).toNat (ji15)) true l0 (l0.length : Int) x18_2 (rd_L1 l0 x18_2) ((rd_L1 l0 x18_2).length : Int) (wrap64 (x24_3 + 1)))) else (impl_orbits.l2 k3 l0 ((x3_3.set (x24_3 : Int).toNat (ji15)).set ((rd (rd_L1 l0 x18_2) x24_3) : Int).toNat (ji15)) true l0 (l0.length : Int) x18_2 (rd_L1 l0 x18_2) ((rd_L1 l0 x18_2).length : Int) (wrap64 (x24_3 + 1)))) = some r := by first | (rw [hji15] at H; exact H) | (simp only [hji15] at H ⊢; exact H)
                  have hji15_ : (if (rd x3_3 (rd (rd_L1 l0 x18_2) x24_3)) < (rd x3_3 x24_3) then (rd x3_3 (rd (rd_L1 l0 x18_2) x24_3)) else (rd x3_3 x24_3)) = ji15 := hji15
                  by_cases c16 : (rd x3_3 x24_3) = (ji15)
                  ·
                   rw [if_pos c16] at H; have c16b0 := beq_iff_eq.mpr c16; have c16b1 := bne_eq_false_iff_eq.mpr c16; clear c16
                   by_cases c17 : (rd x3_3 (rd (rd_L1 l0 x18_2) x24_3)) = (ji15)
                   ·
                    rw [if_pos c17] at H; have c17b0 := beq_iff_eq.mpr c17; have c17b1 := bne_eq_false_iff_eq.mpr c17; clear c17; have H' := Az H; clear H; have p406 : 0 ≤ (x24_3 : Int) := oA; have q406 : x24_3 < ((rd_L1 l0 x18_2).length : Int) := oA; obtain ⟨ad406, e406, hx406_0⟩ := Kd.at_int HR405_0.out x24_3 p406 q406
                    cases e406
                    (try replace hx406_0 := (HB.out.cell (World.block_lt_of_cell? w _ hx406_0)).trans hx406_0); replace p406 := eq_true p406; replace q406 := eq_true q406; obtain ⟨Ao18, co18, eo18⟩ := Kd.R_slice HO_3.out; subst eo18; have p407 : 0 ≤ (x24_3 : Int) := oA; have q407 : x24_3 < (x3_3.length : Int) := oA; obtain ⟨ad407, e407, hx407_0⟩ := Kd.at_int (Kd.R_reads' HO_3.out).2.2 x24_3 p407 q407
                    cases e407
                    replace p407 := eq_true p407; replace q407 := eq_true q407; have p408 : 0 ≤ ((rd (rd_L1 l0 x18_2) x24_3) : Int) := oA; have q408 : (rd (rd_L1 l0 x18_2) x24_3) < (x3_3.length : Int) := oA; obtain ⟨ad408, e408, hx408_0⟩ := Kd.at_int (Kd.R_reads' HO_3.out).2.2 (rd (rd_L1 l0 x18_2) x24_3) p408 q408; obtain rfl : ad407 = ad408 := (by injection e408); replace p408 := eq_true p408; replace q408 := eq_true q408; have p409 : 0 ≤ (x24_3 : Int) := oA; have q409 : x24_3 < (x3_3.length : Int) := oA; obtain ⟨ad409, e409, hx409_0⟩ := Kd.at_int (Kd.R_reads' HO_3.out).2.2 x24_3 p409 q409; obtain rfl : ad407 = ad409 := (by injection e409); replace p409 := eq_true p409; replace q409 := eq_true q409; have p410 : 0 ≤ ((rd (rd_L1 l0 x18_2) x24_3) : Int) := oA; have q410 : (rd (rd_L1 l0 x18_2) x24_3) < (x3_3.length : Int) := oA; obtain ⟨ad410, e410, hx410_0⟩ := Kd.at_int (Kd.R_reads' HO_3.out).2.2 (rd (rd_L1 l0 x18_2) x24_3) p410 q410; obtain rfl : ad407 = ad410 := (by injection e410); replace p410 := eq_true p410; replace q410 := eq_true q410
                    go_wp2
                    repeat (go_quiet (fail); try go_wp2)
                    (first | go_roundg k3 | (refine Handed.intro k3 ?measure ?_; rotate_left; go_step; (try simp only [add_plain]); (repeat apply Exists.intro); refine ⟨?rel, rfl⟩))
                    case measure => have := HK1.out; have := HK2.out; have := HK3.out; omega
                    case rel => exact ⟨(x3_3), (x4_3), (wrap64 (x24_3 + 1)), rS, rS, H', ⟨by have := HK1.out; have := HK2.out; have := HK3.out; omega⟩, ⟨rU HO_3.out⟩, ⟨bU0 HB.out⟩⟩
                   ·
                    rw [if_neg c17] at H; have c17b0 := beq_eq_false_iff_ne.mpr c17; have c17b1 := bne_iff_ne.mpr c17; clear c17; obtain ⟨y411, hy411⟩ : ∃ y_ : List Int, y_ = (x3_3.set (x24_3 : Int).toNat (ji15)) := ⟨_, rfl⟩; replace H : (impl_orbits.l2 k3 l0 (y411.set ((rd (rd_L1 l0 x18_2) x24_3) : Int).toNat (ji15)) true l0 (l0.length : Int) x18_2 (rd_L1 l0 x18_2) ((rd_L1 l0 x18_2).length : Int) (wrap64 (x24_3 + 1))) = some r := hR hy411 H; have Ny411 := Az hy411; clear hy411; obtain ⟨y412, hy412⟩ : ∃ y_ : List Int, y_ = (y411.set ((rd (rd_L1 l0 x18_2) x24_3) : Int).toNat (ji15)) := ⟨_, rfl⟩; replace H : (impl_orbits.l2 k3 l0 y412 true l0 (l0.length : Int) x18_2 (rd_L1 l0 x18_2) ((rd_L1 l0 x18_2).length : Int) (wrap64 (x24_3 + 1))) = some r := hR hy412 H; have Ny412 := Az hy412; clear hy412; have H' := Az H; clear H; have p406 : 0 ≤ (x24_3 : Int) := oA; have q406 : x24_3 < ((rd_L1 l0 x18_2).length : Int) := oA; obtain ⟨ad406, e406, hx406_0⟩ := Kd.at_int HR405_0.out x24_3 p406 q406
                    cases e406
                    (try replace hx406_0 := (HB.out.cell (World.block_lt_of_cell? w _ hx406_0)).trans hx406_0); replace p406 := eq_true p406; replace q406 := eq_true q406; obtain ⟨Ao21, co21, eo21⟩ := Kd.R_slice HO_3.out; subst eo21; have p407 : 0 ≤ (x24_3 : Int) := oA; have q407 : x24_3 < (x3_3.length : Int) := oA; obtain ⟨ad407, e407, hx407_0⟩ := Kd.at_int (Kd.R_reads' HO_3.out).2.2 x24_3 p407 q407
                    cases e407
                    replace p407 := eq_true p407; replace q407 := eq_true q407; have p408 : 0 ≤ ((rd (rd_L1 l0 x18_2) x24_3) : Int) := oA; have q408 : (rd (rd_L1 l0 x18_2) x24_3) < (x3_3.length : Int) := oA; obtain ⟨ad408, e408, hx408_0⟩ := Kd.at_int (Kd.R_reads' HO_3.out).2.2 (rd (rd_L1 l0 x18_2) x24_3) p408 q408; obtain rfl : ad407 = ad408 := (by injection e408); replace p408 := eq_true p408; replace q408 := eq_true q408; have p409 : 0 ≤ (x24_3 : Int) := oA; have q409 : x24_3 < (x3_3.length : Int) := oA; obtain ⟨ad409, e409, hx409_0⟩ := Kd.at_int (Kd.R_reads' HO_3.out).2.2 x24_3 p409 q409; obtain rfl : ad407 = ad409 := (by injection e409); replace p409 := eq_true p409; replace q409 := eq_true q409; have p410 : 0 ≤ ((rd (rd_L1 l0 x18_2) x24_3) : Int) := oA; have q410 : (rd (rd_L1 l0 x18_2) x24_3) < (x3_3.length : Int) := oA; obtain ⟨ad410, e410, hx410_0⟩ := Kd.at_int (Kd.R_reads' HO_3.out).2.2 (rd (rd_L1 l0 x18_2) x24_3) p410 q410; obtain rfl : ad407 = ad410 := (by injection e410); replace p410 := eq_true p410; replace q410 := eq_true q410; have p19 : 0 ≤ (x24_3 : Int) := oA; have q19 : (x24_3 : Int) < ((x3_3.length : Int) : Int) := oA; obtain ⟨go19, co19, eo19, gb19, gl19, cl19, HG19⟩ := Kd.R_form HO_3.out (by omega); (first | cases eo19 | (injection eo19 with ea_ en_ ec_; (first | subst ea_ | (injection ea_ with ea_; subst ea_)); subst ec_; clear en_)); have GB19 := Az gb19; have GG19 := Az HG19; clear gb19 gl19 HG19; (first | simp only [add_plain] at hx407_0 | skip); (first | simp only [add_plain] at hx408_0 | skip); (first | simp only [add_plain] at hx409_0 | skip); (first | simp only [add_plain] at hx410_0 | skip); obtain ⟨hx19_0, hf19_0⟩ := Kd.R_celln 0 HO_3.out (x24_3 : Int) p19 q19; replace p19 := eq_true p19; replace q19 := eq_true q19; obtain ⟨hy22_, hz22_⟩ := Kd.R_celln 0 HO_3.out (x24_3 : Int) (oA) (oA); have HP22 := Kd.R_putg HO_3.out (x24_3 : Int) ji15
                    go_wp2_with (fail)
                    repeat (go_quiet (fail); try go_wp2_with (first | ((with_reducible refine gate_store (t := 3) (p := 58) rfl ?_); (try (rw [drewN_self wr]; generalize hq_ : World.drewN wr _ = wr; have n0 := Az (Kd.R_at hq_ HO_3.out); have n1 := Az (below_at hq_ HB.out); clear hq_ HO_3 HB; have HO_3 := n0; have HB := n1; clear n0 n1; (try (obtain ⟨hy22_, hz22_⟩ := Kd.R_celln 0 HO_3.out (x24_3 : Int) (oA) (oA))); (try (have HP22 := Kd.R_putg HO_3.out (x24_3 : Int) ji15)))); refine store_event (t := 3) (p := 58) (v := ?vo_w23) (w1 := (wr.setCell ⟨go19, (x24_3 : Int).toNat, none⟩ (.int .i64 ji15))) ?hg ?ho ?hn ?hr ?_; (case ho => rfl); (case hg => rfl); (case hn => rfl); (case hr => first | (go_simp; done) | (go_simp; rfl)); intro w23 hw; have hg : wr.grownBy w23 (some go19) := (by rw [hw]; exact HP22.2); have hp_ : Kd.R (Kd.int .i64) 3 w23 w.heap.size (fun _ => True) (.slice (some ⟨go19, 0, none⟩) x3_3.length co21) y411 := (by rw [hw, Ny411.out]; exact HP22.1); clear HP22; have n0 := Az (hp_); have n1 := Az ((by rw [hw]; exact below_set (HB.out) GB19.out : Below w.heap.size w w23)); clear HO_3 HB; have HO_3 := n0; have HB := n1; clear n0 n1 hg hw hp_; have p20 : 0 ≤ ((rd (rd_L1 l0 x18_2) x24_3) : Int) := oA; have q20 : ((rd (rd_L1 l0 x18_2) x24_3) : Int) < ((x3_3.length : Int) : Int) := oA; obtain ⟨hx20_0, hf20_0⟩ := Kd.R_celln 0 HO_3.out ((rd (rd_L1 l0 x18_2) x24_3) : Int) p20 q20; replace p20 := eq_true p20; replace q20 := eq_true q20; obtain ⟨hy24_, hz24_⟩ := Kd.R_celln 0 HO_3.out ((rd (rd_L1 l0 x18_2) x24_3) : Int) (oA) (oA); have HP24 := Kd.R_putg HO_3.out ((rd (rd_L1 l0 x18_2) x24_3) : Int) ji15) | ((with_reducible refine gate_store (t := 3) (p := 59) rfl ?_); (try (rw [drewN_self w23]; generalize hq_ : World.drewN w23 _ = w23; have n0 := Az (Kd.R_at hq_ HO_3.out); have n1 := Az (below_at hq_ HB.out); clear hq_ HO_3 HB; have HO_3 := n0; have HB := n1; clear n0 n1; (try (obtain ⟨hy24_, hz24_⟩ := Kd.R_celln 0 HO_3.out ((rd (rd_L1 l0 x18_2) x24_3) : Int) (oA) (oA))); (try (have HP24 := Kd.R_putg HO_3.out ((rd (rd_L1 l0 x18_2) x24_3) : Int) ji15)))); refine store_event (t := 3) (p := 59) (v := ?vo_w25) (w1 := (w23.setCell ⟨go19, ((rd (rd_L1 l0 x18_2) x24_3) : Int).toNat, none⟩ (.int .i64 ji15))) ?hg ?ho ?hn ?hr ?_; (case ho => rfl); (case hg => rfl); (case hn => rfl); (case hr => first | (go_simp; done) | (go_simp; rfl)); intro w25 hw; have hg : w23.grownBy w25 (some go19) := (by rw [hw]; exact HP24.2); have hp_ : Kd.R (Kd.int .i64) 3 w25 w.heap.size (fun _ => True) (.slice (some ⟨go19, 0, none⟩) x3_3.length co21) y412 := (by rw [hw, Ny412.out]; exact HP24.1); clear HP24; have n0 := Az (hp_); have n1 := Az ((by rw [hw]; exact below_set (HB.out) GB19.out : Below w.heap.size w w25)); clear HO_3 HB; have HO_3 := n0; have HB := n1; clear n0 n1; clear hg hw hp_)))
                    (first | go_roundg k3 | (refine Handed.intro k3 ?measure ?_; rotate_left; go_step; (try simp only [add_plain]); (repeat apply Exists.intro); refine ⟨?rel, rfl⟩))
                    case measure => have := HK1.out; have := HK2.out; have := HK3.out; omega
                    case rel => exact ⟨(y412), (true), (wrap64 (x24_3 + 1)), rS, rS, H', ⟨by have := HK1.out; have := HK2.out; have := HK3.out; omega⟩, ⟨rU HO_3.out⟩, ⟨bU0 HB.out⟩⟩
                  ·
                   rw [if_neg c16] at H; have c16b0 := beq_eq_false_iff_ne.mpr c16; have c16b1 := bne_iff_ne.mpr c16; clear c16; obtain ⟨y413, hy413⟩ : ∃ y_ : List Int, y_ = (x3_3.set (x24_3 : Int).toNat (ji15)) := ⟨_, rfl⟩; replace H : (impl_orbits.l2 k3 l0 (y413.set ((rd (rd_L1 l0 x18_2) x24_3) : Int).toNat (ji15)) true l0 (l0.length : Int) x18_2 (rd_L1 l0 x18_2) ((rd_L1 l0 x18_2).length : Int) (wrap64 (x24_3 + 1))) = some r := hR hy413 H; have Ny413 := Az hy413; clear hy413; obtain ⟨y414, hy414⟩ : ∃ y_ : List Int, y_ = (y413.set ((rd (rd_L1 l0 x18_2) x24_3) : Int).toNat (ji15)) := ⟨_, rfl⟩; replace H : (impl_orbits.l2 k3 l0 y414 true l0 (l0.length : Int) x18_2 (rd_L1 l0 x18_2) ((rd_L1 l0 x18_2).length : Int) (wrap64 (x24_3 + 1))) = some r := hR hy414 H; have Ny414 := Az hy414; clear hy414; have H' := Az H; clear H; have p406 : 0 ≤ (x24_3 : Int) := oA; have q406 : x24_3 < ((rd_L1 l0 x18_2).length : Int) := oA; obtain ⟨ad406, e406, hx406_0⟩ := Kd.at_int HR405_0.out x24_3 p406 q406
                   cases e406
                   (try replace hx406_0 := (HB.out.cell (World.block_lt_of_cell? w _ hx406_0)).trans hx406_0); replace p406 := eq_true p406; replace q406 := eq_true q406; obtain ⟨Ao28, co28, eo28⟩ := Kd.R_slice HO_3.out; subst eo28; have p407 : 0 ≤ (x24_3 : Int) := oA; have q407 : x24_3 < (x3_3.length : Int) := oA; obtain ⟨ad407, e407, hx407_0⟩ := Kd.at_int (Kd.R_reads' HO_3.out).2.2 x24_3 p407 q407
                   cases e407
                   replace p407 := eq_true p407; replace q407 := eq_true q407; have p408 : 0 ≤ ((rd (rd_L1 l0 x18_2) x24_3) : Int) := oA; have q408 : (rd (rd_L1 l0 x18_2) x24_3) < (x3_3.length : Int) := oA; obtain ⟨ad408, e408, hx408_0⟩ := Kd.at_int (Kd.R_reads' HO_3.out).2.2 (rd (rd_L1 l0 x18_2) x24_3) p408 q408; obtain rfl : ad407 = ad408 := (by injection e408); replace p408 := eq_true p408; replace q408 := eq_true q408; have p409 : 0 ≤ (x24_3 : Int) := oA; have q409 : x24_3 < (x3_3.length : Int) := oA; obtain ⟨ad409, e409, hx409_0⟩ := Kd.at_int (Kd.R_reads' HO_3.out).2.2 x24_3 p409 q409; obtain rfl : ad407 = ad409 := (by injection e409); replace p409 := eq_true p409; replace q409 := eq_true q409; have p26 : 0 ≤ (x24_3 : Int) := oA; have q26 : (x24_3 : Int) < ((x3_3.length : Int) : Int) := oA; obtain ⟨go26, co26, eo26, gb26, gl26, cl26, HG26⟩ := Kd.R_form HO_3.out (by omega); (first | cases eo26 | (injection eo26 with ea_ en_ ec_; (first | subst ea_ | (injection ea_ with ea_; subst ea_)); subst ec_; clear en_)); have GB26 := Az gb26; have GG26 := Az HG26; clear gb26 gl26 HG26; (first | simp only [add_plain] at hx407_0 | skip); (first | simp only [add_plain] at hx408_0 | skip); (first | simp only [add_plain] at hx409_0 | skip); obtain ⟨hx26_0, hf26_0⟩ := Kd.R_celln 0 HO_3.out (x24_3 : Int) p26 q26; replace p26 := eq_true p26; replace q26 := eq_true q26; obtain ⟨hy29_, hz29_⟩ := Kd.R_celln 0 HO_3.out (x24_3 : Int) (oA) (oA); have HP29 := Kd.R_putg HO_3.out (x24_3 : Int) ji15
                   go_wp2_with (fail)
                   repeat (go_quiet (fail); try go_wp2_with (first | ((with_reducible refine gate_store (t := 3) (p := 58) rfl ?_); (try (rw [drewN_self wr]; generalize hq_ : World.drewN wr _ = wr; have n0 := Az (Kd.R_at hq_ HO_3.out); have n1 := Az (below_at hq_ HB.out); clear hq_ HO_3 HB; have HO_3 := n0; have HB := n1; clear n0 n1; (try (obtain ⟨hy29_, hz29_⟩ := Kd.R_celln 0 HO_3.out (x24_3 : Int) (oA) (oA))); (try (have HP29 := Kd.R_putg HO_3.out (x24_3 : Int) ji15)))); refine store_event (t := 3) (p := 58) (v := ?vo_w30) (w1 := (wr.setCell ⟨go26, (x24_3 : Int).toNat, none⟩ (.int .i64 ji15))) ?hg ?ho ?hn ?hr ?_; (case ho => rfl); (case hg => rfl); (case hn => rfl); (case hr => first | (go_simp; done) | (go_simp; rfl)); intro w30 hw; have hg : wr.grownBy w30 (some go26) := (by rw [hw]; exact HP29.2); have hp_ : Kd.R (Kd.int .i64) 3 w30 w.heap.size (fun _ => True) (.slice (some ⟨go26, 0, none⟩) x3_3.length co28) y413 := (by rw [hw, Ny413.out]; exact HP29.1); clear HP29; have n0 := Az (hp_); have n1 := Az ((by rw [hw]; exact below_set (HB.out) GB26.out : Below w.heap.size w w30)); clear HO_3 HB; have HO_3 := n0; have HB := n1; clear n0 n1 hg hw hp_; have p27 : 0 ≤ ((rd (rd_L1 l0 x18_2) x24_3) : Int) := oA; have q27 : ((rd (rd_L1 l0 x18_2) x24_3) : Int) < ((x3_3.length : Int) : Int) := oA; obtain ⟨hx27_0, hf27_0⟩ := Kd.R_celln 0 HO_3.out ((rd (rd_L1 l0 x18_2) x24_3) : Int) p27 q27; replace p27 := eq_true p27; replace q27 := eq_true q27; obtain ⟨hy31_, hz31_⟩ := Kd.R_celln 0 HO_3.out ((rd (rd_L1 l0 x18_2) x24_3) : Int) (oA) (oA); have HP31 := Kd.R_putg HO_3.out ((rd (rd_L1 l0 x18_2) x24_3) : Int) ji15) | ((with_reducible refine gate_store (t := 3) (p := 59) rfl ?_); (try (rw [drewN_self w30]; generalize hq_ : World.drewN w30 _ = w30; have n0 := Az (Kd.R_at hq_ HO_3.out); have n1 := Az (below_at hq_ HB.out); clear hq_ HO_3 HB; have HO_3 := n0; have HB := n1; clear n0 n1; (try (obtain ⟨hy31_, hz31_⟩ := Kd.R_celln 0 HO_3.out ((rd (rd_L1 l0 x18_2) x24_3) : Int) (oA) (oA))); (try (have HP31 := Kd.R_putg HO_3.out ((rd (rd_L1 l0 x18_2) x24_3) : Int) ji15)))); refine store_event (t := 3) (p := 59) (v := ?vo_w32) (w1 := (w30.setCell ⟨go26, ((rd (rd_L1 l0 x18_2) x24_3) : Int).toNat, none⟩ (.int .i64 ji15))) ?hg ?ho ?hn ?hr ?_; (case ho => rfl); (case hg => rfl); (case hn => rfl); (case hr => first | (go_simp; done) | (go_simp; rfl)); intro w32 hw; have hg : w30.grownBy w32 (some go26) := (by rw [hw]; exact HP31.2); have hp_ : Kd.R (Kd.int .i64) 3 w32 w.heap.size (fun _ => True) (.slice (some ⟨go26, 0, none⟩) x3_3.length co28) y414 := (by rw [hw, Ny414.out]; exact HP31.1); clear HP31; have n0 := Az (hp_); have n1 := Az ((by rw [hw]; exact below_set (HB.out) GB26.out : Below w.heap.size w w32)); clear HO_3 HB; have HO_3 := n0; have HB := n1; clear n0 n1; clear hg hw hp_)))
                   (first | go_roundg k3 | (refine Handed.intro k3 ?measure ?_; rotate_left; go_step; (try simp only [add_plain]); (repeat apply Exists.intro); refine ⟨?rel, rfl⟩))
                   case measure => have := HK1.out; have := HK2.out; have := HK3.out; omega
                   case rel => exact ⟨(y414), (true), (wrap64 (x24_3 + 1)), rS, rS, H', ⟨by have := HK1.out; have := HK2.out; have := HK3.out; omega⟩, ⟨rU HO_3.out⟩, ⟨bU0 HB.out⟩⟩
                 ·
                  rw [if_neg c14] at H
                  exact absurd H (by simp)
                ·
                 rw [if_neg c13] at H
                 exact absurd H (by simp)
               ·
                rw [if_neg c12] at H
                exact absurd H (by simp)
              ·
               rw [if_neg c11] at H
               exact absurd H (by simp)
             ·
              rw [if_neg c10] at H
              exact absurd H (by simp)
            ·
             rw [if_neg c9] at H; have c9b0 := decide_eq_false c9; clear c9; have H' := Az H; clear H
             go_wp2
             repeat (go_quiet (fail); try go_wp2)
             (first | go_roundg k3 | (refine Handed.intro k3 ?measure ?_; rotate_left; go_step; (try simp only [add_plain]); (repeat apply Exists.intro); refine ⟨?rel, rfl⟩))
             case measure => have := HK1.out; have := HK2.out; have := HK3.out; omega
             case rel => exact ⟨(x3_3), (x4_3), (wrap64 (x18_2 + 1)), rS, rS, H', ⟨by have := HK1.out; have := HK2.out; have := HK3.out; omega⟩, ⟨rU HO_3.out⟩, ⟨bU0 HB.out⟩⟩
         ·
          rw [if_neg c8] at H
          exact absurd H (by simp)
        ·
         rw [if_neg c7] at H
         exact absurd H (by simp)
       ·
        rw [if_neg c6] at H; have c6b0 := decide_eq_false c6; clear c6; have H' := Az H; clear H
        go_wp2
        repeat (go_quiet (fail); try go_wp2)
        (first | go_roundg k2 | (refine Handed.intro k2 ?measure ?_; rotate_left; go_step; (try simp only [add_plain]); (repeat apply Exists.intro); refine ⟨?rel, rfl⟩))
        case measure => have := HK1.out; have := HK2.out; omega
        case rel => exact ⟨(x3_2), (x4_2), rS, H', ⟨by have := HK1.out; have := HK2.out; omega⟩, ⟨rU HO_3.out⟩, ⟨bU0 HB.out⟩⟩
    ·
     replace c5 := Bool.eq_false_iff.mpr c5; subst c5
     have H1 : (some x3_1) = some r := by rw [if_neg (show ¬ (false = true) by decide)] at H; exact H
     clear H; have H := H1; clear H1; obtain rfl := Option.some.inj H
     go_wp2
     repeat (go_quiet (fail); try go_wp2)
     go_ret
     exact ⟨_, rE, rU HO_3.out, bU0 HB.out⟩
 ·
  rw [if_neg c2] at H
  exact absurd H (by simp)
mutual
def impl_MapValid.j0 : Nat → Bool → List Int → List Int → Option (Bool)
 | 0, _, _, _ => none
 | k + 1, x23, xZ0, xZ1 => if x23 = true then (some false) else (impl_MapValid.l0 k xZ1 (xZ1.length : Int) 0 xZ0 xZ1)
def impl_MapValid.l0 : Nat → List Int → Int → Int → List Int → List Int → Option (Bool)
 | 0, _, _, _, _, _ => none
 | k + 1, x25, x26, x27, xZ0, xZ1 => if x27 < x26 then (if 0 ≤ x27 then (if x27 < (x25.length : Int) then (if (rd x25 x27) = x27 then (some false) else (if 0 ≤ (rd x25 x27) then (if (rd x25 x27) < (xZ1.length : Int) then (if (rd xZ1 (rd x25 x27)) = x27 then (impl_MapValid.l0 k x25 x26 (wrap64 (x27 + 1)) xZ0 xZ1) else (some false)) else (none)) else (none))) else (none)) else (none)) else ((impl_orbits.f k (([xZ0, xZ1] : List (List Int)))).bind fun t423 => ((slices_Max_int_int.f k t423).bind fun t426 => (some (t426 == 0))))
end
def impl_MapValid.f (k : Nat) (l0_0 : List Int) (l0_1 : List Int) : Option (Bool) := (impl_PermValid.f k l0_0).bind fun t416 => (if t416 = true then ((impl_PermValid.f k l0_1).bind fun t417 => (if t417 = true then (impl_MapValid.j0 k ((l0_0.length : Int) != (l0_1.length : Int)) l0_0 l0_1) else (impl_MapValid.j0 k true l0_0 l0_1))) else (impl_MapValid.j0 k true l0_0 l0_1))
theorem impl_MapValid.mono_l : ∀ k, (∀ y0 y1 y2, LeO (impl_MapValid.j0 k y0 y1 y2) (impl_MapValid.j0 (k + 1) y0 y1 y2)) ∧ (∀ y0 y1 y2 y3 y4, LeO (impl_MapValid.l0 k y0 y1 y2 y3 y4) (impl_MapValid.l0 (k + 1) y0 y1 y2 y3 y4))
 | 0 => ⟨fun _ _ _ r h => by simp [impl_MapValid.j0] at h, fun _ _ _ _ _ r h => by simp [impl_MapValid.l0] at h⟩
 | k + 1 => by
  obtain ⟨ih0, ih1⟩ := impl_MapValid.mono_l k
  refine ⟨?_, ?_⟩
  ·
   intro y0 y1 y2
   unfold impl_MapValid.j0
   repeat' first
   | (with_reducible exact ih0 _ _ _)
   | (with_reducible exact ih1 _ _ _ _ _)
   | (with_reducible exact impl_PermValid.mono _ _)
   | (with_reducible exact impl_orbits.mono _ _)
   | (with_reducible exact slices_Max_int_int.mono _ _)
   | (with_reducible exact LeO.refl _)
   | (with_reducible exact LeO.none _)
   | (with_reducible refine LeO.ite ?_ ?_)
   | (with_reducible refine LeO.bind ?_ (fun _ => ?_))
   | exact ih0 _ _ _
   | exact ih1 _ _ _ _ _
   | exact impl_PermValid.mono _ _
   | exact impl_orbits.mono _ _
   | exact slices_Max_int_int.mono _ _
   | exact LeO.none _
   | refine LeO.ite ?_ ?_
   | refine LeO.bind ?_ (fun _ => ?_)
  ·
   intro y0 y1 y2 y3 y4
   unfold impl_MapValid.l0
   repeat' first
   | (with_reducible exact ih0 _ _ _)
   | (with_reducible exact ih1 _ _ _ _ _)
   | (with_reducible exact impl_PermValid.mono _ _)
   | (with_reducible exact impl_orbits.mono _ _)
   | (with_reducible exact slices_Max_int_int.mono _ _)
   | (with_reducible exact LeO.refl _)
   | (with_reducible exact LeO.none _)
   | (with_reducible refine LeO.ite ?_ ?_)
   | (with_reducible refine LeO.bind ?_ (fun _ => ?_))
   | exact ih0 _ _ _
   | exact ih1 _ _ _ _ _
   | exact impl_PermValid.mono _ _
   | exact impl_orbits.mono _ _
   | exact slices_Max_int_int.mono _ _
   | exact LeO.none _
   | refine LeO.ite ?_ ?_
   | refine LeO.bind ?_ (fun _ => ?_)
theorem impl_MapValid.mono : ∀ a0 a1 k, LeO (impl_MapValid.f k a0 a1) (impl_MapValid.f (k + 1) a0 a1) := by
 intro a0 a1 k
 obtain ⟨ih0, ih1⟩ := impl_MapValid.mono_l k
 unfold impl_MapValid.f
 repeat' first
   | (with_reducible exact ih0 _ _ _)
   | (with_reducible exact ih1 _ _ _ _ _)
   | (with_reducible exact impl_PermValid.mono _ _)
   | (with_reducible exact impl_orbits.mono _ _)
   | (with_reducible exact slices_Max_int_int.mono _ _)
   | (with_reducible exact LeO.refl _)
   | (with_reducible exact LeO.none _)
   | (with_reducible refine LeO.ite ?_ ?_)
   | (with_reducible refine LeO.bind ?_ (fun _ => ?_))
   | exact ih0 _ _ _
   | exact ih1 _ _ _ _ _
   | exact impl_PermValid.mono _ _
   | exact impl_orbits.mono _ _
   | exact slices_Max_int_int.mono _ _
   | exact LeO.none _
   | refine LeO.ite ?_ ?_
   | refine LeO.bind ?_ (fun _ => ?_)
set_option maxHeartbeats 8000000 in
set_option maxRecDepth 100000 in
theorem impl_MapValid.calls (k : Nat) (P0_0_ : Nat → Prop) (A0_0 : Option Addr) (c0_0 : Nat) (l0_0 : List Int) (P0_1_ : Nat → Prop) (A0_1 : Option Addr) (c0_1 : Nat) (l0_1 : List Int) (r : Bool) (w : World) (hs0_0 : Kd.V (Kd.int .i64) 3 w w.heap.size (fun k_ => P0_0_ k_) (.slice A0_0 l0_0.length c0_0) l0_0) (hs0_1 : Kd.V (Kd.int .i64) 3 w w.heap.size (fun k_ => P0_1_ k_) (.slice A0_1 l0_1.length c0_1) l0_1) (h : impl_MapValid.f k l0_0 l0_1 = some r) :
  Calls Try.prog 66 #[.agg #[.slice A0_0 l0_0.length c0_0, .slice A0_1 l0_1.length c0_1]] w fun e w' => e = .returned (.bool r) ∧ Below w.heap.size w w' := by
 have hu29 := Try.underlying29; have HO0_0 := Az (show Kd.V (Kd.int .i64) 3 w w.heap.size (fun k_ => ((P0_0_ k_ ∨ P0_1_ k_) ∨ w.heap.size ≤ k_)) (.slice A0_0 l0_0.length c0_0) l0_0 from Kd.V_mono hs0_0 (fun k_ hk => .inl (.inl hk))); have HO0_1 := Az (show Kd.V (Kd.int .i64) 3 w w.heap.size (fun k_ => ((P0_0_ k_ ∨ P0_1_ k_) ∨ w.heap.size ≤ k_)) (.slice A0_1 l0_1.length c0_1) l0_1 from Kd.V_mono hs0_1 (fun k_ hk => .inl (.inr hk))); have HB := Az (Below.refl w.heap.size w); have H : ((impl_PermValid.f k l0_0).bind fun t416 => (if t416 = true then ((impl_PermValid.f k l0_1).bind fun t417 => (if t417 = true then (impl_MapValid.j0 k ((l0_0.length : Int) != (l0_1.length : Int)) l0_0 l0_1) else (impl_MapValid.j0 k true l0_0 l0_1))) else (impl_MapValid.j0 k true l0_0 l0_1))) = some r := h; clear h; have HC2 := Az H; clear H
 go_enter Try.func66, Try.ntmps66
 go_upto_region 1 with (first | ((with_reducible refine gate_dst (N := 1) rfl ?_); (try (refine gate_guard (by rfl) ?_; dsimp only)); refine box_event ?hg (N := 1) ?hd (cs := #[.slice A0_0 l0_0.length c0_0, .slice A0_1 l0_1.length c0_1]) (t := 29) ?hr ?_; (case hd => rfl); (case hg => rfl); (case hr => first | (go_simp; done) | (go_simp; rfl)); intro gb415 hg w3 hbox hb; have n0_ := Az (Kd.V_below (Kd.V_elderB (vU HO0_0.out) gb415 (Nat.le_of_eq hg.symm)) hb); have n1_ := Az (Kd.V_below (Kd.V_elderB (vU HO0_1.out) gb415 (Nat.le_of_eq hg.symm)) hb); have n2_ := Az (below_step (bU0 HB.out) hb); have n3_ := Az (hbox); have n4_ := Az ((by rw [hg]; exact (below_size (bU0 HB.out)) : w.heap.size ≤ gb415)); have n5_ := n4_; clear HO0_0 HO0_1 HB; have HO0_0 := n0_; have HO0_1 := n1_; have HB := n2_; have BK415 := n3_; have GW415 := n4_; have GE415 := n5_; clear n0_ n1_ n2_ n3_ n4_ n5_; clear hb hbox hg))
 (try simp only [Act.put, List.setIfInBounds_toArray, List.set_cons_zero, List.set_cons_succ])
 go_cut [23] (fun v23 wc => ∃ (kq : Nat) (x23_1 : Bool), v23 = .bool x23_1 ∧ Aside0 (impl_MapValid.j0 kq x23_1 l0_0 l0_1 = some r) ∧ Aside0 (kq ≤ k) ∧ Aside0 (Kd.V (Kd.int .i64) 3 wc w.heap.size (fun k_ => ((P0_0_ k_ ∨ P0_1_ k_) ∨ w.heap.size ≤ k_) ∧ k_ ≠ gb415) (.slice A0_0 l0_0.length c0_0) l0_0) ∧ Aside0 (Kd.V (Kd.int .i64) 3 wc w.heap.size (fun k_ => ((P0_0_ k_ ∨ P0_1_ k_) ∨ w.heap.size ≤ k_) ∧ k_ ≠ gb415) (.slice A0_1 l0_1.length c0_1) l0_1) ∧ Aside0 (wc.heap[gb415]? = some (.cells #[(.slice A0_0 l0_0.length c0_0), (.slice A0_1 l0_1.length c0_1)] 29 (0, 0))) ∧ Aside0 (Below w.heap.size w wc))
 case first =>
  have H := HC2.out; clear HC2; replace H := Option.bind_eq_some_iff.mp H; obtain ⟨t416, A40, H⟩ := H; replace H : (if t416 = true then ((impl_PermValid.f k l0_1).bind fun t417 => (if t417 = true then (impl_MapValid.j0 k ((l0_0.length : Int) != (l0_1.length : Int)) l0_0 l0_1) else (impl_MapValid.j0 k true l0_0 l0_1))) else (impl_MapValid.j0 k true l0_0 l0_1)) = some r := H; have A4 := Az A40; clear A40
  by_cases c5 : t416 = true
  ·
   subst c5
   have H1 : ((impl_PermValid.f k l0_1).bind fun t417 => (if t417 = true then (impl_MapValid.j0 k ((l0_0.length : Int) != (l0_1.length : Int)) l0_0 l0_1) else (impl_MapValid.j0 k true l0_0 l0_1))) = some r := by rw [if_pos rfl] at H; exact H
   clear H; have H := H1; clear H1; replace H := Option.bind_eq_some_iff.mp H; obtain ⟨t417, A60, H⟩ := H; replace H : (if t417 = true then (impl_MapValid.j0 k ((l0_0.length : Int) != (l0_1.length : Int)) l0_0 l0_1) else (impl_MapValid.j0 k true l0_0 l0_1)) = some r := H; have A6 := Az A60; clear A60
   by_cases c7 : t417 = true
   ·
    subst c7
    have H1 : (impl_MapValid.j0 k ((l0_0.length : Int) != (l0_1.length : Int)) l0_0 l0_1) = some r := by rw [if_pos rfl] at H; exact H
    clear H; have H := H1; clear H1; have H' := Az H; clear H; have hcz8_0 : w3.cell? ⟨gb415, 0, none⟩ = some (.slice A0_0 l0_0.length c0_0) := (blk_cell BK415.out 0).trans rfl; have hcz8_1 : w3.cell? ⟨gb415, 1, none⟩ = some (.slice A0_1 l0_1.length c0_1) := (blk_cell BK415.out 1).trans rfl; have hfz8_0 := blk_frozen BK415.out 0; have hfz8_1 := blk_frozen BK415.out 1
    go_wp2_with (first | ((with_reducible refine gate_callee (f := 105) rfl ?_); refine goesL_ (some 7) rfl rfl Try.func105 (by kernel_rfl) rfl #[.slice A0_0 l0_0.length c0_0] rfl (by (try simp only [List.map_toArray, List.map_cons, List.map_nil]); first | done | rfl | (simp only [List.length_drop, List.length_take]; rfl)) ?_; (with_reducible refine (impl_PermValid.calls k _ _ l0_0 true _ ?side1 ?side2 A4.out).mono ?_); (case side1 => exact cU ((Kd.V_reads' HO0_0.out).2.2)); (case side2 => exact (Kd.V_reads' HO0_0.out).2.1); rintro e w9 ⟨rfl, hb⟩; refine ⟨_, rfl, ?_⟩; have n0_ := Az (Kd.V_below (vU HO0_0.out) hb); have n1_ := Az (Kd.V_below (vU HO0_1.out) hb); have n2_ := Az (blk_below (g := gb415) (o := .cells #[.slice A0_0 l0_0.length c0_0, .slice A0_1 l0_1.length c0_1] 29 (0, 0)) (kU BK415.out) hb); have n3_ := Az (below_step (bU1 HB.out GE415.out) hb); clear HO0_0 HO0_1 BK415 HB; have HO0_0 := n0_; have HO0_1 := n1_; have BK415 := n2_; have HB := n3_; clear n0_ n1_ n2_ n3_; (try clear hb); (try clear hb2); (try clear hk); (try clear hi); have hcz10_0 : w9.cell? ⟨gb415, 0, none⟩ = some (.slice A0_0 l0_0.length c0_0) := (blk_cell BK415.out 0).trans rfl; have hcz10_1 : w9.cell? ⟨gb415, 1, none⟩ = some (.slice A0_1 l0_1.length c0_1) := (blk_cell BK415.out 1).trans rfl; have hfz10_0 := blk_frozen BK415.out 0; have hfz10_1 := blk_frozen BK415.out 1) | (go_at_call 105; (with_reducible refine (impl_PermValid.calls k _ _ l0_1 true _ ?side1 ?side2 A6.out).mono ?_); (case side1 => exact cU ((Kd.V_reads' HO0_1.out).2.2)); (case side2 => exact (Kd.V_reads' HO0_1.out).2.1); rintro e w11 ⟨rfl, hb⟩; have n0_ := Az (Kd.V_below (vU HO0_0.out) hb); have n1_ := Az (Kd.V_below (vU HO0_1.out) hb); have n2_ := Az (blk_below (g := gb415) (o := .cells #[.slice A0_0 l0_0.length c0_0, .slice A0_1 l0_1.length c0_1] 29 (0, 0)) (kU BK415.out) hb); have n3_ := Az (below_step (bU1 HB.out GE415.out) hb); clear HO0_0 HO0_1 BK415 HB; have HO0_0 := n0_; have HO0_1 := n1_; have BK415 := n2_; have HB := n3_; clear n0_ n1_ n2_ n3_; (try clear hb); (try clear hb2); (try clear hk); (try clear hi); have hcz12_0 : w11.cell? ⟨gb415, 0, none⟩ = some (.slice A0_0 l0_0.length c0_0) := (blk_cell BK415.out 0).trans rfl; have hcz12_1 : w11.cell? ⟨gb415, 1, none⟩ = some (.slice A0_1 l0_1.length c0_1) := (blk_cell BK415.out 1).trans rfl; have hfz12_0 := blk_frozen BK415.out 0; have hfz12_1 := blk_frozen BK415.out 1))
    go_meet
    case rel => exact ⟨_, (((l0_0.length : Int) != (l0_1.length : Int))), rS, H', ⟨by first | omega | exact Nat.le_refl _⟩, ⟨vU HO0_0.out⟩, ⟨vU HO0_1.out⟩, ⟨kU BK415.out⟩, ⟨bU1 HB.out GE415.out⟩⟩
   ·
    replace c7 := Bool.eq_false_iff.mpr c7; subst c7
    have H1 : (impl_MapValid.j0 k true l0_0 l0_1) = some r := by rw [if_neg (show ¬ (false = true) by decide)] at H; exact H
    clear H; have H := H1; clear H1; have H' := Az H; clear H; have hcz13_0 : w3.cell? ⟨gb415, 0, none⟩ = some (.slice A0_0 l0_0.length c0_0) := (blk_cell BK415.out 0).trans rfl; have hcz13_1 : w3.cell? ⟨gb415, 1, none⟩ = some (.slice A0_1 l0_1.length c0_1) := (blk_cell BK415.out 1).trans rfl; have hfz13_0 := blk_frozen BK415.out 0; have hfz13_1 := blk_frozen BK415.out 1
    go_wp2_with (first | ((with_reducible refine gate_callee (f := 105) rfl ?_); refine goesL_ (some 7) rfl rfl Try.func105 (by kernel_rfl) rfl #[.slice A0_0 l0_0.length c0_0] rfl (by (try simp only [List.map_toArray, List.map_cons, List.map_nil]); first | done | rfl | (simp only [List.length_drop, List.length_take]; rfl)) ?_; (with_reducible refine (impl_PermValid.calls k _ _ l0_0 true _ ?side1 ?side2 A4.out).mono ?_); (case side1 => exact cU ((Kd.V_reads' HO0_0.out).2.2)); (case side2 => exact (Kd.V_reads' HO0_0.out).2.1); rintro e w14 ⟨rfl, hb⟩; refine ⟨_, rfl, ?_⟩; have n0_ := Az (Kd.V_below (vU HO0_0.out) hb); have n1_ := Az (Kd.V_below (vU HO0_1.out) hb); have n2_ := Az (blk_below (g := gb415) (o := .cells #[.slice A0_0 l0_0.length c0_0, .slice A0_1 l0_1.length c0_1] 29 (0, 0)) (kU BK415.out) hb); have n3_ := Az (below_step (bU1 HB.out GE415.out) hb); clear HO0_0 HO0_1 BK415 HB; have HO0_0 := n0_; have HO0_1 := n1_; have BK415 := n2_; have HB := n3_; clear n0_ n1_ n2_ n3_; (try clear hb); (try clear hb2); (try clear hk); (try clear hi); have hcz15_0 : w14.cell? ⟨gb415, 0, none⟩ = some (.slice A0_0 l0_0.length c0_0) := (blk_cell BK415.out 0).trans rfl; have hcz15_1 : w14.cell? ⟨gb415, 1, none⟩ = some (.slice A0_1 l0_1.length c0_1) := (blk_cell BK415.out 1).trans rfl; have hfz15_0 := blk_frozen BK415.out 0; have hfz15_1 := blk_frozen BK415.out 1) | (go_at_call 105; (with_reducible refine (impl_PermValid.calls k _ _ l0_1 false _ ?side1 ?side2 A6.out).mono ?_); (case side1 => exact cU ((Kd.V_reads' HO0_1.out).2.2)); (case side2 => exact (Kd.V_reads' HO0_1.out).2.1); rintro e w16 ⟨rfl, hb⟩; have n0_ := Az (Kd.V_below (vU HO0_0.out) hb); have n1_ := Az (Kd.V_below (vU HO0_1.out) hb); have n2_ := Az (blk_below (g := gb415) (o := .cells #[.slice A0_0 l0_0.length c0_0, .slice A0_1 l0_1.length c0_1] 29 (0, 0)) (kU BK415.out) hb); have n3_ := Az (below_step (bU1 HB.out GE415.out) hb); clear HO0_0 HO0_1 BK415 HB; have HO0_0 := n0_; have HO0_1 := n1_; have BK415 := n2_; have HB := n3_; clear n0_ n1_ n2_ n3_; (try clear hb); (try clear hb2); (try clear hk); (try clear hi)))
    go_meet
    case rel => exact ⟨_, (true), rS, H', ⟨by first | omega | exact Nat.le_refl _⟩, ⟨vU HO0_0.out⟩, ⟨vU HO0_1.out⟩, ⟨kU BK415.out⟩, ⟨bU1 HB.out GE415.out⟩⟩
  ·
   replace c5 := Bool.eq_false_iff.mpr c5; subst c5
   have H1 : (impl_MapValid.j0 k true l0_0 l0_1) = some r := by rw [if_neg (show ¬ (false = true) by decide)] at H; exact H
   clear H; have H := H1; clear H1; have H' := Az H; clear H; have hcz17_0 : w3.cell? ⟨gb415, 0, none⟩ = some (.slice A0_0 l0_0.length c0_0) := (blk_cell BK415.out 0).trans rfl; have hcz17_1 : w3.cell? ⟨gb415, 1, none⟩ = some (.slice A0_1 l0_1.length c0_1) := (blk_cell BK415.out 1).trans rfl; have hfz17_0 := blk_frozen BK415.out 0; have hfz17_1 := blk_frozen BK415.out 1
   go_wp2_with (first | ((with_reducible refine gate_callee (f := 105) rfl ?_); refine goesL_ (some 7) rfl rfl Try.func105 (by kernel_rfl) rfl #[.slice A0_0 l0_0.length c0_0] rfl (by (try simp only [List.map_toArray, List.map_cons, List.map_nil]); first | done | rfl | (simp only [List.length_drop, List.length_take]; rfl)) ?_; (with_reducible refine (impl_PermValid.calls k _ _ l0_0 false _ ?side1 ?side2 A4.out).mono ?_); (case side1 => exact cU ((Kd.V_reads' HO0_0.out).2.2)); (case side2 => exact (Kd.V_reads' HO0_0.out).2.1); rintro e w18 ⟨rfl, hb⟩; refine ⟨_, rfl, ?_⟩; have n0_ := Az (Kd.V_below (vU HO0_0.out) hb); have n1_ := Az (Kd.V_below (vU HO0_1.out) hb); have n2_ := Az (blk_below (g := gb415) (o := .cells #[.slice A0_0 l0_0.length c0_0, .slice A0_1 l0_1.length c0_1] 29 (0, 0)) (kU BK415.out) hb); have n3_ := Az (below_step (bU1 HB.out GE415.out) hb); clear HO0_0 HO0_1 BK415 HB; have HO0_0 := n0_; have HO0_1 := n1_; have BK415 := n2_; have HB := n3_; clear n0_ n1_ n2_ n3_; (try clear hb); (try clear hb2); (try clear hk); (try clear hi)))
   go_meet
   case rel => exact ⟨_, (true), rS, H', ⟨by first | omega | exact Nat.le_refl _⟩, ⟨vU HO0_0.out⟩, ⟨vU HO0_1.out⟩, ⟨kU BK415.out⟩, ⟨bU1 HB.out GE415.out⟩⟩
 case rest =>
  clear HC2; (try clear c1); (try clear p2); (try clear c5); (try clear c6); (try clear c7); (try clear c10); (try clear hcz10_0); (try clear hcz10_1); (try clear hcz12_0); (try clear hcz12_1); (try clear hcz13_0); (try clear hcz13_1); (try clear hcz15_0); (try clear hcz15_1); (try clear hcz17_0); (try clear hcz17_1); (try clear hcz8_0); (try clear hcz8_1); (try clear hfz10_0); (try clear hfz10_1); (try clear hfz12_0); (try clear hfz12_1); (try clear hfz13_0); (try clear hfz13_1); (try clear hfz15_0); (try clear hfz15_1); (try clear hfz17_0); (try clear hfz17_1); (try clear hfz8_0); (try clear hfz8_1); obtain ⟨kq, x23_1, rfl, HA, HJ1, HO_Z0, HO_Z1, BK415, HB⟩ := hcut
  cases kq with
  | zero => exact absurd HA.out (by simp [impl_MapValid.j0])
  | succ kj1 =>
   have H := HA.out; clear HA; simp only [impl_MapValid.j0] at H
   by_cases c19 : x23_1 = true
   ·
    subst c19
    have H1 : (some false) = some r := by rw [if_pos rfl] at H; exact H
    clear H; have H := H1; clear H1; obtain rfl := Option.some.inj H
    go_wp2
    go_ret
    exact ⟨rE, bU1 HB.out GE415.out⟩
   ·
    replace c19 := Bool.eq_false_iff.mpr c19; subst c19
    have H1 : (impl_MapValid.l0 kj1 l0_1 (l0_1.length : Int) 0 l0_0 l0_1) = some r := by rw [if_neg (show ¬ (false = true) by decide)] at H; exact H
    clear H; have H := H1; clear H1; have H' := Az H; clear H; have hcz20_0 : wc.cell? ⟨gb415, 0, none⟩ = some (.slice A0_0 l0_0.length c0_0) := (blk_cell BK415.out 0).trans rfl; have hcz20_1 : wc.cell? ⟨gb415, 1, none⟩ = some (.slice A0_1 l0_1.length c0_1) := (blk_cell BK415.out 1).trans rfl; have hfz20_0 := blk_frozen BK415.out 0; have hfz20_1 := blk_frozen BK415.out 1
    go_wp2
    go_loopg [27] kj1 (fun kq v27 w' => ∃ (x27_2 : Int), v27 = .int .i64 x27_2 ∧ Aside0 (impl_MapValid.l0 kq l0_1 (l0_1.length : Int) x27_2 l0_0 l0_1 = some r) ∧ Aside0 (kq ≤ kj1) ∧ Aside0 (Kd.V (Kd.int .i64) 3 w' w.heap.size (fun k_ => ((P0_0_ k_ ∨ P0_1_ k_) ∨ w.heap.size ≤ k_) ∧ k_ ≠ gb415) (.slice A0_1 l0_1.length c0_1) l0_1) ∧ Aside0 (Kd.V (Kd.int .i64) 3 w' w.heap.size (fun k_ => ((P0_0_ k_ ∨ P0_1_ k_) ∨ w.heap.size ≤ k_) ∧ k_ ≠ gb415) (.slice A0_0 l0_0.length c0_0) l0_0) ∧ Aside0 (Kd.V (Kd.int .i64) 3 w' w.heap.size (fun k_ => ((P0_0_ k_ ∨ P0_1_ k_) ∨ w.heap.size ≤ k_) ∧ k_ ≠ gb415) (.slice A0_1 l0_1.length c0_1) l0_1) ∧ Aside0 (w'.heap[gb415]? = some (.cells #[(.slice A0_0 l0_0.length c0_0), (.slice A0_1 l0_1.length c0_1)] 29 (0, 0))) ∧ Aside0 (Below w.heap.size w w'))
    case atStart => exact ⟨(0), rS, H', ⟨Nat.le_refl _⟩, ⟨vU HO_Z1.out⟩, ⟨vU HO_Z0.out⟩, ⟨vU HO_Z1.out⟩, ⟨kU BK415.out⟩, ⟨bU1 HB.out GE415.out⟩⟩
    case round =>
     clear H'; (try clear c1); (try clear p2); (try clear c5); (try clear c6); (try clear c7); (try clear c10); (try clear c19); (try clear hcz10_0); (try clear hcz10_1); (try clear hcz12_0); (try clear hcz12_1); (try clear hcz13_0); (try clear hcz13_1); (try clear hcz15_0); (try clear hcz15_1); (try clear hcz17_0); (try clear hcz17_1); (try clear hcz20_0); (try clear hcz20_1); (try clear hcz8_0); (try clear hcz8_1); (try clear hfz10_0); (try clear hfz10_1); (try clear hfz12_0); (try clear hfz12_1); (try clear hfz13_0); (try clear hfz13_1); (try clear hfz15_0); (try clear hfz15_1); (try clear hfz17_0); (try clear hfz17_1); (try clear hfz20_0); (try clear hfz20_1); (try clear hfz8_0); (try clear hfz8_1); (try clear p2); obtain ⟨x27_2, rfl, HA, HK2, HO_25, HO_Z0, HO_Z1, BK415, HB⟩ := hrel
     cases gk with
     | zero => exact absurd HA.out (by simp [impl_MapValid.l0])
     | succ k2 =>
      have H := HA.out; clear HA; simp only [impl_MapValid.l0] at H
      by_cases c21 : x27_2 < (l0_1.length : Int)
      ·
       rw [if_pos c21] at H; have c21b0 := decide_eq_true c21; clear c21
       by_cases c22 : 0 ≤ x27_2
       ·
        rw [if_pos c22] at H; have c22b0 := decide_eq_true c22; clear c22
        by_cases c23 : x27_2 < (l0_1.length : Int)
        ·
         rw [if_pos c23] at H; have c23b0 := decide_eq_true c23; clear c23
         by_cases c24 : (rd l0_1 x27_2) = x27_2
         ·
          rw [if_pos c24] at H; have c24b0 := beq_iff_eq.mpr c24; have c24b1 := bne_eq_false_iff_eq.mpr c24; clear c24; obtain rfl := Option.some.inj H; have p418 : 0 ≤ (x27_2 : Int) := oA; have q418 : x27_2 < (l0_1.length : Int) := oA; obtain ⟨ad418, e418, hx418_0⟩ := Kd.at_int (Kd.V_reads' HO_25.out).2.2 x27_2 p418 q418
          cases e418
          replace p418 := eq_true p418; replace q418 := eq_true q418
          go_wp2
          go_ret
          exact ⟨rE, bU1 HB.out GE415.out⟩
         ·
          rw [if_neg c24] at H; have c24b0 := beq_eq_false_iff_ne.mpr c24; have c24b1 := bne_iff_ne.mpr c24
          by_cases c25 : 0 ≤ (rd l0_1 x27_2)
          ·
           rw [if_pos c25] at H; have c25b0 := decide_eq_true c25; clear c25
           by_cases c26 : (rd l0_1 x27_2) < (l0_1.length : Int)
           ·
            rw [if_pos c26] at H; have c26b0 := decide_eq_true c26; clear c26
            by_cases c27 : (rd l0_1 (rd l0_1 x27_2)) = x27_2
            ·
             rw [if_pos c27] at H; have c27b0 := beq_iff_eq.mpr c27; have c27b1 := bne_eq_false_iff_eq.mpr c27; clear c27; have H' := Az H; clear H; have p418 : 0 ≤ (x27_2 : Int) := oA; have q418 : x27_2 < (l0_1.length : Int) := oA; obtain ⟨ad418, e418, hx418_0⟩ := Kd.at_int (Kd.V_reads' HO_25.out).2.2 x27_2 p418 q418
             cases e418
             replace p418 := eq_true p418; replace q418 := eq_true q418; have hcz28_0 : wr.cell? ⟨gb415, 0, none⟩ = some (.slice A0_0 l0_0.length c0_0) := (blk_cell BK415.out 0).trans rfl; have hcz28_1 : wr.cell? ⟨gb415, 1, none⟩ = some (.slice (some ad418) l0_1.length c0_1) := (blk_cell BK415.out 1).trans rfl; have hfz28_0 := blk_frozen BK415.out 0; have hfz28_1 := blk_frozen BK415.out 1; have p419 : 0 ≤ ((rd l0_1 x27_2) : Int) := oA; have q419 : (rd l0_1 x27_2) < (l0_1.length : Int) := oA; obtain ⟨ad419, e419, hx419_0⟩ := Kd.at_int (Kd.V_reads' HO_Z1.out).2.2 (rd l0_1 x27_2) p419 q419; obtain rfl : ad418 = ad419 := (by injection e419); replace p419 := eq_true p419; replace q419 := eq_true q419
             go_wp2
             (first | go_roundg k2 | (refine Handed.intro k2 ?measure ?_; rotate_left; go_step; (try simp only [add_plain]); (repeat apply Exists.intro); refine ⟨?rel, rfl⟩))
             case measure => have := HJ1.out; have := HK2.out; omega
             case rel => exact ⟨(wrap64 (x27_2 + 1)), rS, H', ⟨by have := HJ1.out; have := HK2.out; omega⟩, ⟨vU HO_25.out⟩, ⟨vU HO_Z0.out⟩, ⟨vU HO_Z1.out⟩, ⟨kU BK415.out⟩, ⟨bU1 HB.out GE415.out⟩⟩
            ·
             rw [if_neg c27] at H; have c27b0 := beq_eq_false_iff_ne.mpr c27; have c27b1 := bne_iff_ne.mpr c27; obtain rfl := Option.some.inj H; have p418 : 0 ≤ (x27_2 : Int) := oA; have q418 : x27_2 < (l0_1.length : Int) := oA; obtain ⟨ad418, e418, hx418_0⟩ := Kd.at_int (Kd.V_reads' HO_25.out).2.2 x27_2 p418 q418
             cases e418
             replace p418 := eq_true p418; replace q418 := eq_true q418; have hcz29_0 : wr.cell? ⟨gb415, 0, none⟩ = some (.slice A0_0 l0_0.length c0_0) := (blk_cell BK415.out 0).trans rfl; have hcz29_1 : wr.cell? ⟨gb415, 1, none⟩ = some (.slice (some ad418) l0_1.length c0_1) := (blk_cell BK415.out 1).trans rfl; have hfz29_0 := blk_frozen BK415.out 0; have hfz29_1 := blk_frozen BK415.out 1; have p419 : 0 ≤ ((rd l0_1 x27_2) : Int) := oA; have q419 : (rd l0_1 x27_2) < (l0_1.length : Int) := oA; obtain ⟨ad419, e419, hx419_0⟩ := Kd.at_int (Kd.V_reads' HO_Z1.out).2.2 (rd l0_1 x27_2) p419 q419; obtain rfl : ad418 = ad419 := (by injection e419); replace p419 := eq_true p419; replace q419 := eq_true q419
             go_wp2
             go_ret
             exact ⟨rE, bU1 HB.out GE415.out⟩
           ·
            rw [if_neg c26] at H
            exact absurd H (by simp)
          ·
           rw [if_neg c25] at H
           exact absurd H (by simp)
        ·
         rw [if_neg c23] at H
         exact absurd H (by simp)
       ·
        rw [if_neg c22] at H
        exact absurd H (by simp)
      ·
       rw [if_neg c21] at H; have c21b0 := decide_eq_false c21; clear c21; obtain ⟨y420, hy420⟩ : ∃ y_ : List (List Int), y_ = (([l0_0, l0_1] : List (List Int))) := ⟨_, rfl⟩; replace H : ((impl_orbits.f k2 y420).bind fun t423 => ((slices_Max_int_int.f k2 t423).bind fun t426 => (some (t426 == 0)))) = some r := hR hy420 H; have Ny420 := Az hy420; clear hy420; replace H := Option.bind_eq_some_iff.mp H; obtain ⟨t423, A300, H⟩ := H; replace H : ((slices_Max_int_int.f k2 t423).bind fun t426 => (some (t426 == 0))) = some r := H; have A30 := Az A300; clear A300; replace H := Option.bind_eq_some_iff.mp H; obtain ⟨t426, A310, H⟩ := H; replace H : (some (t426 == 0)) = some r := H; have A31 := Az A310; clear A310; obtain rfl := Option.some.inj H; have hcz32_0 : wr.cell? ⟨gb415, 0, none⟩ = some (.slice A0_0 l0_0.length c0_0) := (blk_cell BK415.out 0).trans rfl; have hcz32_1 : wr.cell? ⟨gb415, 1, none⟩ = some (.slice A0_1 l0_1.length c0_1) := (blk_cell BK415.out 1).trans rfl; have hfz32_0 := blk_frozen BK415.out 0; have hfz32_1 := blk_frozen BK415.out 1
       go_wp2_with (first | ((with_reducible refine gate_dst (N := 49) rfl ?_); (try (refine gate_guard (by rfl) ?_; dsimp only)); refine Kd.N_lit (Kd.slice 3 (Kd.int .i64)) _ 23 ?hg (N' := 49) ?hd (xs := ([l0_0, l0_1] : List (List Int))) (inner := [.slice A0_0 l0_0.length c0_0, .slice A0_1 l0_1.length c0_1]) (ok := (fun k_ => ((P0_0_ k_ ∨ P0_1_ k_) ∨ w.heap.size ≤ k_) ∧ k_ ≠ gb415)) (okp := (fun k_ => ((P0_0_ k_ ∨ P0_1_ k_) ∨ w.heap.size ≤ k_) ∧ k_ ≠ gb415)) ?hr ?hp (fun _ hk => hk) ((show ∀ k_, wr.heap.size ≤ k_ → (fun k_ => ((P0_0_ k_ ∨ P0_1_ k_) ∨ w.heap.size ≤ k_) ∧ k_ ≠ gb415) k_ from fun k_ hk => ⟨(.inr (Nat.le_trans (below_size (bU1 HB.out GE415.out)) hk)), Kd.freshB (g := gb415) (o := .cells #[.slice A0_0 l0_0.length c0_0, .slice A0_1 l0_1.length c0_1] 29 (0, 0)) (kU BK415.out) k_ hk⟩) _ (Nat.le_refl _)) (Below.refl _ _) (Nat.le_refl _) (by simp) ?_; (case hd => rfl); (case hg => rfl); (case hr => first | (go_simp; done) | (go_simp; rfl)); (case hp => exact (Reps.one (show Kd.FK (Kd.slice 3 (Kd.int .i64)) _ _ l0_0 [.slice A0_0 l0_0.length c0_0] from (Kd.FK_slice_mk (Kd.V_reads' (Kd.V_mono (ok' := (fun k_ => ((P0_0_ k_ ∨ P0_1_ k_) ∨ w.heap.size ≤ k_) ∧ k_ ≠ gb415)) (HO_Z0.out) (fun k_ hk => ⟨hk.1, hk.2⟩))).2.1 (Kd.V_F (Kd.V_mono (ok' := (fun k_ => ((P0_0_ k_ ∨ P0_1_ k_) ∨ w.heap.size ≤ k_) ∧ k_ ≠ gb415)) (HO_Z0.out) (fun k_ hk => ⟨hk.1, hk.2⟩))))) (Reps.one (show Kd.FK (Kd.slice 3 (Kd.int .i64)) _ _ l0_1 [.slice A0_1 l0_1.length c0_1] from (Kd.FK_slice_mk (Kd.V_reads' (Kd.V_mono (ok' := (fun k_ => ((P0_0_ k_ ∨ P0_1_ k_) ∨ w.heap.size ≤ k_) ∧ k_ ≠ gb415)) (HO_Z1.out) (fun k_ hk => ⟨hk.1, hk.2⟩))).2.1 (Kd.V_F (Kd.V_mono (ok' := (fun k_ => ((P0_0_ k_ ∨ P0_1_ k_) ∨ w.heap.size ≤ k_) ∧ k_ ≠ gb415)) (HO_Z1.out) (fun k_ hk => ⟨hk.1, hk.2⟩))))) (Reps.none _ _)))); intro v421 w33 ho34 hb hg_ hnew_; clear hg_ hnew_; (first | rw [← Ny420.out] at ho34 | (simp only [Int.reduceToNat] at ho34; rw [← Ny420.out] at ho34)); have n0_ := Az (Kd.V_elder' (vU HO_25.out) (by first | exact Kd.N_base ho34 | exact Kd.S_base ho34 | exact Kd.R_base ho34) hb); have n1_ := Az (Kd.V_elder' (vU HO_Z0.out) (by first | exact Kd.N_base ho34 | exact Kd.S_base ho34 | exact Kd.R_base ho34) hb); have n2_ := Az (Kd.V_elder' (vU HO_Z1.out) (by first | exact Kd.N_base ho34 | exact Kd.S_base ho34 | exact Kd.R_base ho34) hb); have n3_ := Az (Kd.N_lower ho34 (below_size (bU1 HB.out GE415.out))); have n4_ := Az (blk_below (g := gb415) (o := .cells #[.slice A0_0 l0_0.length c0_0, .slice A0_1 l0_1.length c0_1] 29 (0, 0)) (kU BK415.out) hb); have n5_ := Az (below_step (bU1 HB.out GE415.out) hb); clear HO_25 HO_Z0 HO_Z1 BK415 HB; have HO_25 := n0_; have HO_Z0 := n1_; have HO_Z1 := n2_; have HO422 := n3_; have BK415 := n4_; have HB := n5_; clear n0_ n1_ n2_ n3_ n4_ n5_ hb ho34; obtain ⟨Ao35, co35, eo35⟩ := Kd.N_slice HO422.out; subst eo35) | ((with_reducible refine gate_callee (f := 107) rfl ?_); refine goesL_ (some 50) rfl rfl Try.func107 (by kernel_rfl) rfl #[.slice Ao35 y420.length co35] rfl (by (try simp only [List.map_toArray, List.map_cons, List.map_nil]); first | done | rfl | (simp only [List.length_drop, List.length_take]; rfl)) ?_; (with_reducible refine (impl_orbits.calls k2 _ _ y420 t423 _ ?side1 ?side2 A30.out).mono ?_); (case side1 => exact cU ((Kd.N_reads' HO422.out).2.2)); (case side2 => exact (Kd.N_reads' HO422.out).2.1); rintro e w36 ⟨v424, rfl, ho0, hb⟩; refine ⟨_, rfl, ?_⟩; have n0_ := Az (Kd.V_elder' (vU HO_25.out) (Kd.R_base ho0) hb); have n1_ := Az (Kd.V_elder' (vU HO_Z0.out) (Kd.R_base ho0) hb); have n2_ := Az (Kd.V_elder' (vU HO_Z1.out) (Kd.R_base ho0) hb); have n3_ := Az (Kd.N_elder' (nU HO422.out) (Kd.R_base ho0) hb); have n4_ := Az (Kd.R_lower (Kd.R_newM (M := fun k_ => (w.heap.size ≤ k_)) ho0 (below_size (bU1 HB.out GE415.out)) (fun k_ h_ => h_)) (below_size (bU1 HB.out GE415.out))); have n5_ := Az (blk_below (g := gb415) (o := .cells #[.slice A0_0 l0_0.length c0_0, .slice A0_1 l0_1.length c0_1] 29 (0, 0)) (kU BK415.out) hb); have n6_ := Az (below_step (bU1 HB.out GE415.out) hb); clear HO_25 HO_Z0 HO_Z1 HO422 BK415 HB; have HO_25 := n0_; have HO_Z0 := n1_; have HO_Z1 := n2_; have HO422 := n3_; have HO425 := n4_; have BK415 := n5_; have HB := n6_; clear n0_ n1_ n2_ n3_ n4_ n5_ n6_; (try clear hb); (try clear hb2); (try clear hk); (try clear hi); (try clear ho0); obtain ⟨Ao37, co37, eo37⟩ := Kd.R_slice HO425.out; subst eo37) | ((with_reducible refine gate_callee (f := 106) rfl ?_); refine goesL_ (some 51) rfl rfl Try.func106 (by kernel_rfl) rfl #[.slice Ao37 t423.length co37] rfl (by (try simp only [List.map_toArray, List.map_cons, List.map_nil]); first | done | rfl | (simp only [List.length_drop, List.length_take]; rfl)) ?_; (with_reducible refine (slices_Max_int_int.calls k2 _ _ t423 t426 _ ?side1 ?side2 A31.out).mono ?_); (case side1 => exact cU ((Kd.R_reads' HO425.out).2.2)); (case side2 => exact (Kd.R_reads' HO425.out).2.1); rintro e w38 ⟨rfl, hb⟩; refine ⟨_, rfl, ?_⟩; have n0_ := Az (Kd.V_below (vU HO_25.out) hb); have n1_ := Az (Kd.V_below (vU HO_Z0.out) hb); have n2_ := Az (Kd.V_below (vU HO_Z1.out) hb); have n3_ := Az (Kd.N_below (nU HO422.out) hb); have n4_ := Az (Kd.R_below (rU HO425.out) hb); have n5_ := Az (blk_below (g := gb415) (o := .cells #[.slice A0_0 l0_0.length c0_0, .slice A0_1 l0_1.length c0_1] 29 (0, 0)) (kU BK415.out) hb); have n6_ := Az (below_step (bU1 HB.out GE415.out) hb); clear HO_25 HO_Z0 HO_Z1 HO422 HO425 BK415 HB; have HO_25 := n0_; have HO_Z0 := n1_; have HO_Z1 := n2_; have HO422 := n3_; have HO425 := n4_; have BK415 := n5_; have HB := n6_; clear n0_ n1_ n2_ n3_ n4_ n5_ n6_; (try clear hb); (try clear hb2); (try clear hk); (try clear hi)))
       go_ret
       exact ⟨rE, bU1 HB.out GE415.out⟩
def dfar.at : Nat → List Int → Int → List Int → Int → Option (List Int)
 | 0, _, _, _, _ => none
 | k + 1, t, n, xs, d => if 0 ≤ d then (if d < (xs.length : Int) then (if rd xs d < 0 then (if d < (t.length : Int) then dfar.at k t n (xs.set d.toNat n) (rd t d) else none) else some xs) else none) else none
set_option maxHeartbeats 4000000 in
set_option maxRecDepth 100000 in
theorem dfar.at_calls (k : Nat) (A0 : Option Addr) (c0 : Nat) (l0 : List Int) (A1 : Option Addr) (c1 : Nat) (l1 : List Int) (gM gF g n cF : Nat) (d nn : Int) (xs r : List Int) (w0 w : World)
  (hB : Below w0.heap.size w0 w) (hg : w0.heap.size ≤ g)
  (hM : w.heap[gM]? = some (.cells #[.slice A0 l0.length c0, .slice A1 l1.length c1] 29 (0, 0))) (hF : w.heap[gF]? = some (.cells #[.slice (some ⟨g, 0, none⟩) n cF] 23 (0, 0)))
  (hR : Kd.R (Kd.int .i64) 3 w w0.heap.size (fun _ => True) (.slice (some ⟨g, 0, none⟩) n cF) xs)
  (hr0 : Kd.C (Kd.int .i64) w0 A0 l0.length l0) (h : dfar.at k l0 nn xs d = some r) :
  Calls Try.prog 109 #[.int .i64 d, .int .i64 nn, .pointer (some ⟨gF, 0, none⟩), .pointer (some ⟨gM, 0, none⟩)] w fun e w' => e = .returned (.tuple #[]) ∧ Kd.R (Kd.int .i64) 3 w' w0.heap.size (fun _ => True) (.slice (some ⟨g, 0, none⟩) n cF) r ∧ Below w0.heap.size w0 w' ∧
   w'.heap[gM]? = some (.cells #[.slice A0 l0.length c0, .slice A1 l1.length c1] 29 (0, 0)) ∧ w'.heap[gF]? = some (.cells #[.slice (some ⟨g, 0, none⟩) n cF] 23 (0, 0)) := by
 have hu29 := Try.underlying29; have HB := Az hB; have BM := Az hM; have BF := Az hF; have HO := Az hR; have HR0 := Az hr0; have H' := Az h; clear hB hM hF hR hr0 h
 go_enter Try.func109, Try.ntmps109
 go_wp2
 go_loopg [0] k (fun kq v0 w' => ∃ (d' : Int) (xs' : List Int), v0 = .int .i64 d' ∧ Aside0 (dfar.at kq l0 nn xs' d' = some r) ∧ Aside0 (kq ≤ k) ∧ Aside0 (Kd.R (Kd.int .i64) 3 w' w0.heap.size (fun _ => True) (.slice (some ⟨g, 0, none⟩) n cF) xs') ∧ Aside0 (w'.heap[gM]? = some (.cells #[.slice A0 l0.length c0, .slice A1 l1.length c1] 29 (0, 0))) ∧ Aside0 (w'.heap[gF]? = some (.cells #[.slice (some ⟨g, 0, none⟩) n cF] 23 (0, 0))) ∧ Aside0 (Below w0.heap.size w0 w'))
 case atStart => exact ⟨d, xs, rfl, H', ⟨Nat.le_refl _⟩, HO, BM, BF, HB⟩
 case round =>
  clear H' HO BM BF HB; obtain ⟨d', xs', rfl, HA, HK1, HO, BM, BF, HB⟩ := hrel
  cases gk with
  | zero => exact absurd HA.out (by simp [dfar.at])
  | succ k1 =>
   have H := HA.out; clear HA; simp only [dfar.at] at H; have hnx : n = xs'.length := (Kd.R_reads' HO.out).1
   by_cases c1_ : 0 ≤ d'
   ·
    rw [if_pos c1_] at H
    by_cases c2_ : d' < (xs'.length : Int)
    ·
     rw [if_pos c2_] at H
     have c2n : d' < (n : Int) := by rw [hnx]; exact c2_
     have hx1 : wr.cell? ⟨g, d'.toNat, none⟩ = some (.int .i64 (rd xs' d')) := (Kd.R_celln 0 HO.out d' c1_ c2n).1; have hf1 := (Kd.R_celln 0 HO.out d' c1_ c2n).2; clear hnx; have p1 : (0 ≤ d') = True := eq_true c1_; have q1 : (d' < (n : Int)) = True := eq_true c2n; have hcf : wr.cell? ⟨gF, 0, none⟩ = some (.slice (some ⟨g, 0, none⟩) n cF) := (blk_cell BF.out 0).trans rfl
     by_cases c3_ : rd xs' d' < 0
     ·
      rw [if_pos c3_] at H; have c3b : decide (rd xs' d' < 0) = true := decide_eq_true c3_
      by_cases c4_ : d' < (l0.length : Int)
      ·
       rw [if_pos c4_] at H; have q4 : (d' < (l0.length : Int)) = True := eq_true c4_; obtain ⟨ad, e0, hx0⟩ := Kd.at_int HR0.out d' c1_ c4_
       cases e0
       have HX0 := Az hx0; have HH := Az H; have HP := Az (Kd.R_putn HO.out d' nn)
       have neM : gM ≠ g := fun e => Kd.R_ne HO.out BM.out (by decide) (by rw [e]; rfl)
       have neF : gF ≠ g := fun e => Kd.R_ne HO.out BF.out (by decide) (by rw [e]; rfl)
       clear H c1_ c2_ c2n c3_ c4_ hx0
       go_wp2_with (first | ((with_reducible refine gate_store (t := 3) (p := 14) rfl ?_); refine store_event (t := 3) (p := 14) (v := ?vo_w15) (w1 := (wr.setCell ⟨g, d'.toNat, none⟩ (.int .i64 nn))) ?hg ?ho ?hn ?hr ?_; (case ho => rfl); (case hg => rfl); (case hn => rfl); (case hr => first | (go_simp; done) | (go_simp; rfl)); intro w15 hw; have n1 := Az (by rw [hw]; exact HP.out : Kd.R (Kd.int .i64) 3 w15 w0.heap.size (fun _ => True) (.slice (some ⟨g, 0, none⟩) n cF) (xs'.set d'.toNat nn)); have n2 := Az (by rw [hw]; exact blk_far BM.out (p := ⟨g, d'.toNat, none⟩) neM _ : w15.heap[gM]? = some (.cells #[.slice (some ad) l0.length c0, .slice A1 l1.length c1] 29 (0, 0))); have n3 := Az (by rw [hw]; exact blk_far BF.out (p := ⟨g, d'.toNat, none⟩) neF _ : w15.heap[gF]? = some (.cells #[.slice (some ⟨g, 0, none⟩) n cF] 23 (0, 0))); have n4 := Az (by rw [hw]; exact below_set HB.out hg : Below w0.heap.size w0 w15); clear HO BM BF HB HP hw hx1 hf1 hcf; have HO := n1; have BM := n2; have BF := n3; have HB := n4; clear n1 n2 n3 n4; have hcm : w15.cell? ⟨gM, 0, none⟩ = some (.slice (some ad) l0.length c0) := (blk_cell BM.out 0).trans rfl; have hxt := (HB.out.cell (World.block_lt_of_cell? w0 _ HX0.out)).trans HX0.out))
       (first | go_roundg k1 | (refine Handed.intro k1 ?measure ?_; rotate_left; go_step; (try simp only [add_plain]); (repeat apply Exists.intro); refine ⟨?rel, rfl⟩))
       case measure => have := HK1.out; omega
       case rel => exact ⟨_, _, rfl, HH, ⟨by have := HK1.out; omega⟩, HO, BM, BF, HB⟩
      ·
       rw [if_neg c4_] at H
       cases H
     ·
      rw [if_neg c3_] at H; have c3b : decide (rd xs' d' < 0) = false := decide_eq_false c3_; obtain rfl := Option.some.inj H
      go_wp2
      refine bodyPost_end (results_none rfl _ _ _) rfl ?_
      exact ⟨rfl, HO.out, HB.out, BM.out, BF.out⟩
    ·
     rw [if_neg c2_] at H
     cases H
   ·
    rw [if_neg c1_] at H
    cases H
def dfar.l0 : Nat → List Int → Int → Int → Option (List Int)
 | 0, _, _, _ => none
 | k + 1, xs, i, m => if i < m then (if 0 ≤ i then (if i < (xs.length : Int) then dfar.l0 k (xs.set i.toNat (-1)) (wrap64 (i + 1)) m else none) else none) else some xs
def dfar.l2 : Nat → List Int → List Int → Int → List Int → Int → Option (List Int)
 | 0, _, _, _, _, _ => none
 | k + 1, t, f, n, xs, i => if i < (f.length : Int) then (if 0 ≤ i then (if i < (xs.length : Int) then (if rd xs i = n then ((dfar.at k t (wrap64 (n + 1)) xs (rd f i)).bind fun ys => dfar.l2 k t f n ys (wrap64 (i + 1))) else dfar.l2 k t f n xs (wrap64 (i + 1))) else none) else none) else some xs
def dfar.l1 : Nat → List Int → List Int → List Int → Int → Option (List Int)
 | 0, _, _, _, _ => none
 | k + 1, t, f, xs, n => if n < (t.length : Int) then ((dfar.l2 k t f n xs 0).bind fun ys => dfar.l1 k t f ys (wrap64 (n + 1))) else some xs
def impl_distancesFrom.f (k : Nat) (t f : List Int) (a : Int) : Option (List Int) := if 0 < t.length ∧ t.length ≤ 1048576 then ((dfar.l0 k (List.replicate t.length 0) 0 (t.length : Int)).bind fun xs => (dfar.at k t 0 xs a).bind fun ys => dfar.l1 k t f ys 0) else none
theorem dfar.mono_at : ∀ k, (∀ y0 y1 y2 y3, LeO (dfar.at k y0 y1 y2 y3) (dfar.at (k + 1) y0 y1 y2 y3))
 | 0 => fun _ _ _ _ r h => by simp [dfar.at] at h
 | k + 1 => by
  have ih0 := dfar.mono_at k
  intro y0 y1 y2 y3
  unfold dfar.at
  repeat' first
   | (with_reducible exact ih0 _ _ _ _)
   | (with_reducible exact LeO.refl _)
   | (with_reducible refine LeO.ite ?_ ?_)
theorem dfar.mono_l0 : ∀ k, (∀ y0 y1 y2, LeO (dfar.l0 k y0 y1 y2) (dfar.l0 (k + 1) y0 y1 y2))
 | 0 => fun _ _ _ r h => by simp [dfar.l0] at h
 | k + 1 => by
  have ih0 := dfar.mono_l0 k
  intro y0 y1 y2
  unfold dfar.l0
  repeat' first
   | (with_reducible exact ih0 _ _ _)
   | (with_reducible exact LeO.refl _)
   | (with_reducible refine LeO.ite ?_ ?_)
theorem dfar.mono_l2 : ∀ k, (∀ y0 y1 y2 y3 y4, LeO (dfar.l2 k y0 y1 y2 y3 y4) (dfar.l2 (k + 1) y0 y1 y2 y3 y4))
 | 0 => fun _ _ _ _ _ r h => by simp [dfar.l2] at h
 | k + 1 => by
  have ih0 := dfar.mono_l2 k
  intro y0 y1 y2 y3 y4
  unfold dfar.l2
  exact LeO.ite (LeO.ite (LeO.ite (LeO.ite (LeO.bind (dfar.mono_at k _ _ _ _) (fun _ => ih0 _ _ _ _ _)) (ih0 _ _ _ _ _)) (LeO.refl _)) (LeO.refl _)) (LeO.refl _)
theorem dfar.mono_l1 : ∀ k, (∀ y0 y1 y2 y3, LeO (dfar.l1 k y0 y1 y2 y3) (dfar.l1 (k + 1) y0 y1 y2 y3))
 | 0 => fun _ _ _ _ r h => by simp [dfar.l1] at h
 | k + 1 => by
  have ih0 := dfar.mono_l1 k
  intro y0 y1 y2 y3
  unfold dfar.l1
  exact LeO.ite (LeO.bind (dfar.mono_l2 k _ _ _ _ _) (fun _ => ih0 _ _ _ _)) (LeO.refl _)
theorem impl_distancesFrom.mono : ∀ a0 a1 a2 k, LeO (impl_distancesFrom.f k a0 a1 a2) (impl_distancesFrom.f (k + 1) a0 a1 a2) := by
 intro a0 a1 a2 k
 unfold impl_distancesFrom.f
 exact LeO.ite (LeO.bind (dfar.mono_l0 k _ _ _) (fun _ => LeO.bind (dfar.mono_at k _ _ _ _) (fun _ => dfar.mono_l1 k _ _ _ _))) (LeO.refl _)
set_option maxHeartbeats 4000000 in
set_option maxRecDepth 100000 in
theorem impl_distancesFrom.calls (k : Nat) (A0_0 : Option Addr) (c0_0 : Nat) (l0_0 : List Int) (A0_1 : Option Addr) (c0_1 : Nat) (l0_1 : List Int) (a1 : Int) (r : List Int) (w : World) (hr0_0 : Kd.C (Kd.int .i64) w A0_0 l0_0.length l0_0) (hc0_0 : l0_0.length ≤ c0_0) (hr0_1 : Kd.C (Kd.int .i64) w A0_1 l0_1.length l0_1) (hc0_1 : l0_1.length ≤ c0_1) (h : impl_distancesFrom.f k l0_0 l0_1 a1 = some r) :
  Calls Try.prog 88 #[.agg #[.slice A0_0 l0_0.length c0_0, .slice A0_1 l0_1.length c0_1], .int .i64 a1] w fun e w' => ∃ v0_ : Value, e = .returned v0_ ∧ Kd.R (Kd.int .i64) 3 w' w.heap.size (fun _ => True) v0_ r ∧ Below w.heap.size w w' := by
 have hu29 := Try.underlying29; have HR0 := Az hr0_0; have HR1 := Az hr0_1; have HB := Az (Below.refl w.heap.size w); clear hr0_0 hr0_1
 unfold impl_distancesFrom.f at h
 by_cases hn : 0 < l0_0.length ∧ l0_0.length ≤ 1048576
 ·
  rw [if_pos hn] at h; obtain ⟨xs1, h1, h⟩ := Option.bind_eq_some_iff.mp h; obtain ⟨xs2, h2, h3⟩ := Option.bind_eq_some_iff.mp h; clear h; have H1 := Az h1; have H2 := Az h2; have H3 := Az h3; have HN := Az hn; clear h1 h2 h3 hn
  go_enter Try.func88, Try.ntmps88
  go_wp2_with (first | ((with_reducible refine gate_dst (N := 2) rfl ?_); refine box_event ?hg (N := 2) ?hd (cs := #[.slice A0_0 l0_0.length c0_0, .slice A0_1 l0_1.length c0_1]) (t := 29) ?hr ?_; (case hd => rfl); (case hg => rfl); (case hr => first | (go_simp; done) | (go_simp; rfl)); intro gM hg w5 hbox hb; have n1 := Az (below_step HB.out hb); have BM := Az hbox; have GM := Az ((by rw [hg]; exact below_size HB.out) : w.heap.size ≤ gM); clear HB hb hbox hg; have HB := n1; clear n1; have hcz0 : w5.cell? ⟨gM, 0, none⟩ = some (.slice A0_0 l0_0.length c0_0) := (blk_cell BM.out 0).trans rfl) | ((with_reducible refine gate_dst (N := 14) rfl ?_); refine Kd.R_make (Kd.int .i64) _ 3 rfl (N := 14) rfl 23 _ _ rfl (l0_0.length : Int) rfl rfl Try.underlying23 (.int .i64 0) 8 info3 rfl (by decide) (by omega) 0 (ok := fun _ => True) (okp := fun _ => True) rfl (fun _ hk => hk) trivial (by omega) (by have := HN.out; omega) (Below.refl _ _) (Nat.le_refl _) ?_; intro v14 w6 ho6 hb hg_ hnew_; clear hg_ hnew_; rw [Int.toNat_natCast] at ho6; obtain ⟨g, cF, ev, gb, gl, _⟩ := Kd.R_form ho6 (by rw [List.length_replicate]; exact HN.out.1); have n1 := Az (Kd.R_lower ho6 (below_size HB.out)); have GG := Az (Nat.le_trans (below_size HB.out) gb); subst ev; have n2 := Az (below_step HB.out hb); have n3 := Az (blk_below BM.out hb); clear HB BM hb ho6 gb gl hcz0; have HO := n1; have HB := n2; have BM := n3; clear n1 n2 n3; rw [List.length_replicate] at HO ⊢))
  have n1 := blk_alloc BM.out (.cells #[.slice (some ⟨g, 0, none⟩) l0_0.length cF] 23); have n2 := Kd.R_alloc HO.out (.cells #[.slice (some ⟨g, 0, none⟩) l0_0.length cF] 23); have n3 := below_alloc HB.out (.cells #[.slice (some ⟨g, 0, none⟩) l0_0.length cF] 23); have n4 := blk_new w6 (.cells #[.slice (some ⟨g, 0, none⟩) l0_0.length cF] 23); clear BM HO HB
  generalize hw7 : w6.alloc (.cells #[.slice (some ⟨g, 0, none⟩) l0_0.length cF] 23) = w7 at n1 n2 n3 n4 ⊢
  generalize hgF : w6.heap.size = gF at n4 ⊢
  clear hw7 hgF; have HB := Az n3; have BM := Az n1; have BF := Az n4; have HO := Az n2; clear n1 n2 n3 n4 GM
  go_loopg [17] k (fun kq v17 w' => ∃ (i : Int) (xs' : List Int), v17 = .int .i64 i ∧ Aside0 (dfar.l0 kq xs' i (l0_0.length : Int) = some xs1) ∧ Aside0 (kq ≤ k) ∧ Aside0 (Kd.R (Kd.int .i64) 3 w' w.heap.size (fun _ => True) (.slice (some ⟨g, 0, none⟩) l0_0.length cF) xs') ∧ Aside0 (w'.heap[gM]? = some (.cells #[.slice A0_0 l0_0.length c0_0, .slice A0_1 l0_1.length c0_1] 29 (0, 0))) ∧ Aside0 (w'.heap[gF]? = some (.cells #[.slice (some ⟨g, 0, none⟩) l0_0.length cF] 23 (0, 0))) ∧ Aside0 (Below w.heap.size w w'))
  case atStart => exact ⟨0, _, rfl, H1, ⟨Nat.le_refl _⟩, HO, BM, BF, HB⟩
  case round =>
   clear H1 HO BM BF HB; obtain ⟨i, xs', rfl, HA, HK1, HO, BM, BF, HB⟩ := hrel
   cases gk with
   | zero => exact absurd HA.out (by simp [dfar.l0])
   | succ k1 =>
    have H := HA.out; clear HA; simp only [dfar.l0] at H; have hnx : l0_0.length = xs'.length := (Kd.R_reads' HO.out).1
    by_cases c1_ : i < (l0_0.length : Int)
    ·
     rw [if_pos c1_] at H; have c1b : decide (i < (l0_0.length : Int)) = true := decide_eq_true c1_
     by_cases c2_ : 0 ≤ i
     ·
      rw [if_pos c2_] at H
      by_cases c3_ : i < (xs'.length : Int)
      ·
       rw [if_pos c3_] at H; have p1 : (0 ≤ i) = True := eq_true c2_; have q1 : (i < (l0_0.length : Int)) = True := eq_true c1_; have hcf : wr.cell? ⟨gF, 0, none⟩ = some (.slice (some ⟨g, 0, none⟩) l0_0.length cF) := (blk_cell BF.out 0).trans rfl; have hx1 : wr.cell? ⟨g, i.toNat, none⟩ = some (.int .i64 (rd xs' i)) := (Kd.R_celln 0 HO.out i c2_ c1_).1; have hf1 := (Kd.R_celln 0 HO.out i c2_ c1_).2; have HP := Az (Kd.R_putn HO.out i (-1)); have HH := Az H
       have neM : gM ≠ g := fun e => Kd.R_ne HO.out BM.out (by decide) (by rw [e]; rfl)
       have neF : gF ≠ g := fun e => Kd.R_ne HO.out BF.out (by decide) (by rw [e]; rfl)
       clear H c1_ c2_ c3_ hnx
       go_wp2
       (first | go_roundg k1 | (refine Handed.intro k1 ?measure ?_; rotate_left; go_step; (try simp only [add_plain]); (repeat apply Exists.intro); refine ⟨?rel, rfl⟩))
       case measure => have := HK1.out; omega
       case rel => exact ⟨_, _, rfl, HH, ⟨by have := HK1.out; omega⟩, HP, ⟨blk_far BM.out (p := ⟨g, i.toNat, none⟩) neM _⟩, ⟨blk_far BF.out (p := ⟨g, i.toNat, none⟩) neF _⟩, ⟨below_set HB.out GG.out⟩⟩
      ·
       rw [if_neg c3_] at H
       cases H
     ·
      rw [if_neg c2_] at H
      cases H
    ·
     rw [if_neg c1_] at H; have c1b : decide (i < (l0_0.length : Int)) = false := decide_eq_false c1_; obtain rfl := Option.some.inj H; clear H hnx c1_
     go_wp2_with (first | (go_at_call 109; (refine (dfar.at_calls k A0_0 c0_0 l0_0 A0_1 c0_1 l0_1 gM gF g l0_0.length cF a1 0 _ xs2 w _ HB.out GG.out BM.out BF.out HO.out HR0.out H2.out).mono ?_; rintro e w16 ⟨rfl, ho, hb, hm, hf⟩; clear HO BM BF HB; have HO := Az ho; have BM := Az hm; have BF := Az hf; have HB := Az hb; clear ho hm hf hb; have hcm0 : w16.cell? ⟨gM, 0, none⟩ = some (.slice A0_0 l0_0.length c0_0) := (blk_cell BM.out 0).trans rfl; have hcm1 : w16.cell? ⟨gM, 1, none⟩ = some (.slice A0_1 l0_1.length c0_1) := (blk_cell BM.out 1).trans rfl)))
     clear H2
     go_loopg [31] k (fun kq v31 w' => ∃ (nn : Int) (xs' : List Int), v31 = .int .i64 nn ∧ Aside0 (dfar.l1 kq l0_0 l0_1 xs' nn = some r) ∧ Aside0 (kq ≤ k) ∧ Aside0 (Kd.R (Kd.int .i64) 3 w' w.heap.size (fun _ => True) (.slice (some ⟨g, 0, none⟩) l0_0.length cF) xs') ∧ Aside0 (w'.heap[gM]? = some (.cells #[.slice A0_0 l0_0.length c0_0, .slice A0_1 l0_1.length c0_1] 29 (0, 0))) ∧ Aside0 (w'.heap[gF]? = some (.cells #[.slice (some ⟨g, 0, none⟩) l0_0.length cF] 23 (0, 0))) ∧ Aside0 (Below w.heap.size w w'))
     case atStart => exact ⟨0, _, rfl, H3, ⟨Nat.le_refl _⟩, HO, BM, BF, HB⟩
     case round =>
      clear H3 HO BM BF HB c1b; obtain ⟨nn, xs', rfl, HA, HK1, HO, BM, BF, HB⟩ := hrel
      cases gk with
      | zero => exact absurd HA.out (by simp [dfar.l1])
      | succ k1 =>
       have H := HA.out; clear HA; simp only [dfar.l1] at H; have hcm1 : wr.cell? ⟨gM, 1, none⟩ = some (.slice A0_1 l0_1.length c0_1) := (blk_cell BM.out 1).trans rfl; have hcf : wr.cell? ⟨gF, 0, none⟩ = some (.slice (some ⟨g, 0, none⟩) l0_0.length cF) := (blk_cell BF.out 0).trans rfl
       by_cases c1_ : nn < (l0_0.length : Int)
       ·
        rw [if_pos c1_] at H; have c1b : decide (nn < (l0_0.length : Int)) = true := decide_eq_true c1_; obtain ⟨ys, h4, h5⟩ := Option.bind_eq_some_iff.mp H; have H4 := Az h4; have H5 := Az h5; clear h4 h5 H c1_
        go_wp2
        clear hcm1 hcf c1b
        go_loopg [37] k1 (fun kq v37 w' => ∃ (i : Int) (xs' : List Int), v37 = .int .i64 i ∧ Aside0 (dfar.l2 kq l0_0 l0_1 nn xs' i = some ys) ∧ Aside0 (kq ≤ k1) ∧ Aside0 (Kd.R (Kd.int .i64) 3 w' w.heap.size (fun _ => True) (.slice (some ⟨g, 0, none⟩) l0_0.length cF) xs') ∧ Aside0 (w'.heap[gM]? = some (.cells #[.slice A0_0 l0_0.length c0_0, .slice A0_1 l0_1.length c0_1] 29 (0, 0))) ∧ Aside0 (w'.heap[gF]? = some (.cells #[.slice (some ⟨g, 0, none⟩) l0_0.length cF] 23 (0, 0))) ∧ Aside0 (Below w.heap.size w w'))
        case atStart => exact ⟨0, _, rfl, H4, ⟨Nat.le_refl _⟩, HO, BM, BF, HB⟩
        case round =>
         clear H4 HO BM BF HB; obtain ⟨i, xs', rfl, HA, HK2, HO, BM, BF, HB⟩ := hrel
         cases gk with
         | zero => exact absurd HA.out (by simp [dfar.l2])
         | succ k2 =>
          have H := HA.out; clear HA; simp only [dfar.l2] at H; have hnx : l0_0.length = xs'.length := (Kd.R_reads' HO.out).1; have hcf : wr.cell? ⟨gF, 0, none⟩ = some (.slice (some ⟨g, 0, none⟩) l0_0.length cF) := (blk_cell BF.out 0).trans rfl
          by_cases c1_ : i < (l0_1.length : Int)
          ·
           rw [if_pos c1_] at H; have c1b : decide (i < (l0_1.length : Int)) = true := decide_eq_true c1_
           by_cases c2_ : 0 ≤ i
           ·
            rw [if_pos c2_] at H
            by_cases c3_ : i < (xs'.length : Int)
            ·
             rw [if_pos c3_] at H
             have c3n : i < (l0_0.length : Int) := by rw [hnx]; exact c3_
             have p1 : (0 ≤ i) = True := eq_true c2_; have q1 : (i < (l0_0.length : Int)) = True := eq_true c3n; have q2 : (i < (l0_1.length : Int)) = True := eq_true c1_; have hx1 : wr.cell? ⟨g, i.toNat, none⟩ = some (.int .i64 (rd xs' i)) := (Kd.R_celln 0 HO.out i c2_ c3n).1; obtain ⟨ad, e0, hx0⟩ := Kd.at_int HR1.out i c2_ c1_
             cases e0
             have hx2 := (HB.out.cell (World.block_lt_of_cell? w _ hx0)).trans hx0; clear hnx c1_ c2_ c3_ c3n hx0
             by_cases c4_ : rd xs' i = nn
             ·
              rw [if_pos c4_] at H; have c4b : (rd xs' i == nn) = true := beq_iff_eq.mpr c4_; obtain ⟨zs, h6, h7⟩ := Option.bind_eq_some_iff.mp H; have H6 := Az h6; have H7 := Az h7; clear h6 h7 H c4_
              go_wp2_with (first | (go_at_call 109; (refine (dfar.at_calls k2 A0_0 c0_0 l0_0 _ c0_1 l0_1 gM gF g l0_0.length cF (rd l0_1 i) (wrap64 (nn + 1)) xs' zs w _ HB.out GG.out BM.out BF.out HO.out HR0.out H6.out).mono ?_; rintro e w16 ⟨rfl, ho, hb, hm, hf⟩; clear HO BM BF HB; have HO := Az ho; have BM := Az hm; have BF := Az hf; have HB := Az hb; clear ho hm hf hb)))
              (first | go_roundg k2 | (refine Handed.intro k2 ?measure ?_; rotate_left; go_step; (try simp only [add_plain]); (repeat apply Exists.intro); refine ⟨?rel, rfl⟩))
              case measure => have := HK2.out; omega
              case rel => exact ⟨_, _, rfl, H7, ⟨by have := HK2.out; omega⟩, HO, BM, BF, HB⟩
             ·
              rw [if_neg c4_] at H; have c4b : (rd xs' i == nn) = false := beq_eq_false_iff_ne.mpr c4_; have H7 := Az H; clear H c4_
              go_wp2
              (first | go_roundg k2 | (refine Handed.intro k2 ?measure ?_; rotate_left; go_step; (try simp only [add_plain]); (repeat apply Exists.intro); refine ⟨?rel, rfl⟩))
              case measure => have := HK2.out; omega
              case rel => exact ⟨_, _, rfl, H7, ⟨by have := HK2.out; omega⟩, HO, BM, BF, HB⟩
            ·
             rw [if_neg c3_] at H
             cases H
           ·
            rw [if_neg c2_] at H
            cases H
          ·
           rw [if_neg c1_] at H; have c1b : decide (i < (l0_1.length : Int)) = false := decide_eq_false c1_; obtain rfl := Option.some.inj H; clear H hnx c1_ hcf
           go_wp2
           (first | go_roundg k1 | (refine Handed.intro k1 ?measure ?_; rotate_left; go_step; (try simp only [add_plain]); (repeat apply Exists.intro); refine ⟨?rel, rfl⟩))
           case measure => have := HK1.out; omega
           case rel => exact ⟨_, _, rfl, H5, ⟨by have := HK1.out; omega⟩, HO, BM, BF, HB⟩
       ·
        rw [if_neg c1_] at H; have c1b : decide (nn < (l0_0.length : Int)) = false := decide_eq_false c1_; obtain rfl := Option.some.inj H; clear H c1_
        go_wp2
        go_ret
        exact ⟨_, rfl, HO.out, HB.out⟩
 ·
  rw [if_neg hn] at h
  cases h
def impl_MapFar.f (k : Nat) (l0_0 : List Int) (l0_1 : List Int) (a1 : Int) (a2 : Int) : Option (Int) := (impl_MapValid.f k l0_0 l0_1).bind fun t428 => (if t428 = true then (if a1 < 0 then (some (-1)) else (if a1 ≥ (l0_0.length : Int) then (some (-1)) else (if a2 < 0 then (some (-1)) else (if a2 ≥ (l0_0.length : Int) then (some (-1)) else ((impl_distancesFrom.f k l0_0 l0_1 a1).bind fun t429 => (if 0 ≤ a2 then (if a2 < (t429.length : Int) then (some (rd t429 a2)) else (none)) else (none))))))) else (some (-1)))
theorem impl_MapFar.mono : ∀ a0 a1 a2 a3 k, LeO (impl_MapFar.f k a0 a1 a2 a3) (impl_MapFar.f (k + 1) a0 a1 a2 a3) := by
 intro a0 a1 a2 a3 k
 unfold impl_MapFar.f
 repeat' first
   | (with_reducible exact impl_MapValid.mono _ _ _)
   | (with_reducible exact impl_distancesFrom.mono _ _ _ _)
   | (with_reducible exact LeO.refl _)
   | (with_reducible exact LeO.none _)
   | (with_reducible refine LeO.ite ?_ ?_)
   | (with_reducible refine LeO.bind ?_ (fun _ => ?_))
   | exact impl_MapValid.mono _ _ _
   | exact impl_distancesFrom.mono _ _ _ _
   | exact LeO.none _
   | refine LeO.ite ?_ ?_
   | refine LeO.bind ?_ (fun _ => ?_)
set_option maxHeartbeats 8000000 in
set_option maxRecDepth 100000 in
theorem impl_MapFar.calls (k : Nat) (A0_0 : Option Addr) (c0_0 : Nat) (l0_0 : List Int) (A0_1 : Option Addr) (c0_1 : Nat) (l0_1 : List Int) (a1 : Int) (a2 : Int) (r : Int) (w : World) (hr0_0 : Kd.C (Kd.int .i64) w A0_0 l0_0.length l0_0) (hc0_0 : l0_0.length ≤ c0_0) (hr0_1 : Kd.C (Kd.int .i64) w A0_1 l0_1.length l0_1) (hc0_1 : l0_1.length ≤ c0_1) (h : impl_MapFar.f k l0_0 l0_1 a1 a2 = some r) :
  Calls Try.prog 46 #[.agg #[.slice A0_0 l0_0.length c0_0, .slice A0_1 l0_1.length c0_1], .int .i64 a1, .int .i64 a2] w fun e w' => e = .returned (.int .i64 r) ∧ Below w.heap.size w w' := by
 have hu29 := Try.underlying29; have HR0_0 := Az hr0_0; have HC0_0 := Az hc0_0; clear hr0_0 hc0_0; have HR0_1 := Az hr0_1; have HC0_1 := Az hc0_1; clear hr0_1 hc0_1; have HB := Az (Below.refl w.heap.size w); have H : ((impl_MapValid.f k l0_0 l0_1).bind fun t428 => (if t428 = true then (if a1 < 0 then (some (-1)) else (if a1 ≥ (l0_0.length : Int) then (some (-1)) else (if a2 < 0 then (some (-1)) else (if a2 ≥ (l0_0.length : Int) then (some (-1)) else ((impl_distancesFrom.f k l0_0 l0_1 a1).bind fun t429 => (if 0 ≤ a2 then (if a2 < (t429.length : Int) then (some (rd t429 a2)) else (none)) else (none))))))) else (some (-1)))) = some r := h; clear h; replace H := Option.bind_eq_some_iff.mp H; obtain ⟨t428, A40, H⟩ := H; replace H : (if t428 = true then (if a1 < 0 then (some (-1)) else (if a1 ≥ (l0_0.length : Int) then (some (-1)) else (if a2 < 0 then (some (-1)) else (if a2 ≥ (l0_0.length : Int) then (some (-1)) else ((impl_distancesFrom.f k l0_0 l0_1 a1).bind fun t429 => (if 0 ≤ a2 then (if a2 < (t429.length : Int) then (some (rd t429 a2)) else (none)) else (none))))))) else (some (-1))) = some r := H; have A4 := Az A40; clear A40
 by_cases c5 : t428 = true
 ·
  subst c5
  have H1 : (if a1 < 0 then (some (-1)) else (if a1 ≥ (l0_0.length : Int) then (some (-1)) else (if a2 < 0 then (some (-1)) else (if a2 ≥ (l0_0.length : Int) then (some (-1)) else ((impl_distancesFrom.f k l0_0 l0_1 a1).bind fun t429 => (if 0 ≤ a2 then (if a2 < (t429.length : Int) then (some (rd t429 a2)) else (none)) else (none))))))) = some r := by rw [if_pos rfl] at H; exact H
  clear H; have H := H1; clear H1
  by_cases c6 : a1 < 0
  ·
   rw [if_pos c6] at H; have c6b0 := decide_eq_true c6; clear c6; obtain rfl := Option.some.inj H
   go_enter Try.func46, Try.ntmps46
   go_wp2_with (first | ((with_reducible refine gate_dst (N := 3) rfl ?_); (try (refine gate_guard (by rfl) ?_; dsimp only)); refine box_event ?hg (N := 3) ?hd (cs := #[.slice A0_0 l0_0.length c0_0, .slice A0_1 l0_1.length c0_1]) (t := 29) ?hr ?_; (case hd => rfl); (case hg => rfl); (case hr => first | (go_simp; done) | (go_simp; rfl)); intro gb427 hg w7 hbox hb; have n0_ := Az (below_step (bU0 HB.out) hb); have n1_ := Az (hbox); have n2_ := Az ((by rw [hg]; exact (below_size (bU0 HB.out)) : w.heap.size ≤ gb427)); have n3_ := n2_; clear HB; have HB := n0_; have BK427 := n1_; have GW427 := n2_; have GE427 := n3_; clear n0_ n1_ n2_ n3_ hb hbox hg; have hcz8_0 : w7.cell? ⟨gb427, 0, none⟩ = some (.slice A0_0 l0_0.length c0_0) := (blk_cell BK427.out 0).trans rfl; have hcz8_1 : w7.cell? ⟨gb427, 1, none⟩ = some (.slice A0_1 l0_1.length c0_1) := (blk_cell BK427.out 1).trans rfl; have hfz8_0 := blk_frozen BK427.out 0; have hfz8_1 := blk_frozen BK427.out 1) | ((with_reducible refine gate_callee (f := 66) rfl ?_); refine goesL_ (some 8) rfl rfl Try.func66 (by kernel_rfl) rfl #[.agg #[.slice A0_0 l0_0.length c0_0, .slice A0_1 l0_1.length c0_1]] rfl (by (try simp only [List.map_toArray, List.map_cons, List.map_nil]); first | done | rfl | (simp only [List.length_drop, List.length_take]; rfl)) ?_; (with_reducible refine (impl_MapValid.calls k (fun k_ => k_ < w.heap.size) _ _ l0_0 (fun k_ => k_ < w.heap.size) _ _ l0_1 true _ ?side1 ?side2 A4.out).mono ?_); (case side1 => exact Kd.V_mk HC0_0.out (Kd.F_below (Kd.C_F (Kd.heap_int .i64) HR0_0.out) (bU1 HB.out GE427.out))); (case side2 => exact Kd.V_mk HC0_1.out (Kd.F_below (Kd.C_F (Kd.heap_int .i64) HR0_1.out) (bU1 HB.out GE427.out))); rintro e w9 ⟨rfl, hb⟩; refine ⟨_, rfl, ?_⟩; have n0_ := Az (blk_below (g := gb427) (o := .cells #[.slice A0_0 l0_0.length c0_0, .slice A0_1 l0_1.length c0_1] 29 (0, 0)) (kU BK427.out) hb); have n1_ := Az (below_step (bU1 HB.out GE427.out) hb); clear BK427 HB; have BK427 := n0_; have HB := n1_; clear n0_ n1_; (try clear hb); (try clear hb2); (try clear hk); (try clear hi)))
   go_ret
   exact ⟨rE, bU1 HB.out GE427.out⟩
  ·
   rw [if_neg c6] at H; have c6b0 := decide_eq_false c6; clear c6
   by_cases c10 : a1 ≥ (l0_0.length : Int)
   ·
    rw [if_pos c10] at H; have c10b0 := decide_eq_true c10; clear c10; obtain rfl := Option.some.inj H
    go_enter Try.func46, Try.ntmps46
    go_wp2_with (first | ((with_reducible refine gate_dst (N := 3) rfl ?_); (try (refine gate_guard (by rfl) ?_; dsimp only)); refine box_event ?hg (N := 3) ?hd (cs := #[.slice A0_0 l0_0.length c0_0, .slice A0_1 l0_1.length c0_1]) (t := 29) ?hr ?_; (case hd => rfl); (case hg => rfl); (case hr => first | (go_simp; done) | (go_simp; rfl)); intro gb427 hg w11 hbox hb; have n0_ := Az (below_step (bU0 HB.out) hb); have n1_ := Az (hbox); have n2_ := Az ((by rw [hg]; exact (below_size (bU0 HB.out)) : w.heap.size ≤ gb427)); have n3_ := n2_; clear HB; have HB := n0_; have BK427 := n1_; have GW427 := n2_; have GE427 := n3_; clear n0_ n1_ n2_ n3_ hb hbox hg; have hcz12_0 : w11.cell? ⟨gb427, 0, none⟩ = some (.slice A0_0 l0_0.length c0_0) := (blk_cell BK427.out 0).trans rfl; have hcz12_1 : w11.cell? ⟨gb427, 1, none⟩ = some (.slice A0_1 l0_1.length c0_1) := (blk_cell BK427.out 1).trans rfl; have hfz12_0 := blk_frozen BK427.out 0; have hfz12_1 := blk_frozen BK427.out 1) | ((with_reducible refine gate_callee (f := 66) rfl ?_); refine goesL_ (some 8) rfl rfl Try.func66 (by kernel_rfl) rfl #[.agg #[.slice A0_0 l0_0.length c0_0, .slice A0_1 l0_1.length c0_1]] rfl (by (try simp only [List.map_toArray, List.map_cons, List.map_nil]); first | done | rfl | (simp only [List.length_drop, List.length_take]; rfl)) ?_; (with_reducible refine (impl_MapValid.calls k (fun k_ => k_ < w.heap.size) _ _ l0_0 (fun k_ => k_ < w.heap.size) _ _ l0_1 true _ ?side1 ?side2 A4.out).mono ?_); (case side1 => exact Kd.V_mk HC0_0.out (Kd.F_below (Kd.C_F (Kd.heap_int .i64) HR0_0.out) (bU1 HB.out GE427.out))); (case side2 => exact Kd.V_mk HC0_1.out (Kd.F_below (Kd.C_F (Kd.heap_int .i64) HR0_1.out) (bU1 HB.out GE427.out))); rintro e w13 ⟨rfl, hb⟩; refine ⟨_, rfl, ?_⟩; have n0_ := Az (blk_below (g := gb427) (o := .cells #[.slice A0_0 l0_0.length c0_0, .slice A0_1 l0_1.length c0_1] 29 (0, 0)) (kU BK427.out) hb); have n1_ := Az (below_step (bU1 HB.out GE427.out) hb); clear BK427 HB; have BK427 := n0_; have HB := n1_; clear n0_ n1_; (try clear hb); (try clear hb2); (try clear hk); (try clear hi); have hcz14_0 : w13.cell? ⟨gb427, 0, none⟩ = some (.slice A0_0 l0_0.length c0_0) := (blk_cell BK427.out 0).trans rfl; have hcz14_1 : w13.cell? ⟨gb427, 1, none⟩ = some (.slice A0_1 l0_1.length c0_1) := (blk_cell BK427.out 1).trans rfl; have hfz14_0 := blk_frozen BK427.out 0; have hfz14_1 := blk_frozen BK427.out 1))
    go_ret
    exact ⟨rE, bU1 HB.out GE427.out⟩
   ·
    rw [if_neg c10] at H; have c10b0 := decide_eq_false c10; clear c10
    by_cases c15 : a2 < 0
    ·
     rw [if_pos c15] at H; have c15b0 := decide_eq_true c15; clear c15; obtain rfl := Option.some.inj H
     go_enter Try.func46, Try.ntmps46
     go_wp2_with (first | ((with_reducible refine gate_dst (N := 3) rfl ?_); (try (refine gate_guard (by rfl) ?_; dsimp only)); refine box_event ?hg (N := 3) ?hd (cs := #[.slice A0_0 l0_0.length c0_0, .slice A0_1 l0_1.length c0_1]) (t := 29) ?hr ?_; (case hd => rfl); (case hg => rfl); (case hr => first | (go_simp; done) | (go_simp; rfl)); intro gb427 hg w16 hbox hb; have n0_ := Az (below_step (bU0 HB.out) hb); have n1_ := Az (hbox); have n2_ := Az ((by rw [hg]; exact (below_size (bU0 HB.out)) : w.heap.size ≤ gb427)); have n3_ := n2_; clear HB; have HB := n0_; have BK427 := n1_; have GW427 := n2_; have GE427 := n3_; clear n0_ n1_ n2_ n3_ hb hbox hg; have hcz17_0 : w16.cell? ⟨gb427, 0, none⟩ = some (.slice A0_0 l0_0.length c0_0) := (blk_cell BK427.out 0).trans rfl; have hcz17_1 : w16.cell? ⟨gb427, 1, none⟩ = some (.slice A0_1 l0_1.length c0_1) := (blk_cell BK427.out 1).trans rfl; have hfz17_0 := blk_frozen BK427.out 0; have hfz17_1 := blk_frozen BK427.out 1) | ((with_reducible refine gate_callee (f := 66) rfl ?_); refine goesL_ (some 8) rfl rfl Try.func66 (by kernel_rfl) rfl #[.agg #[.slice A0_0 l0_0.length c0_0, .slice A0_1 l0_1.length c0_1]] rfl (by (try simp only [List.map_toArray, List.map_cons, List.map_nil]); first | done | rfl | (simp only [List.length_drop, List.length_take]; rfl)) ?_; (with_reducible refine (impl_MapValid.calls k (fun k_ => k_ < w.heap.size) _ _ l0_0 (fun k_ => k_ < w.heap.size) _ _ l0_1 true _ ?side1 ?side2 A4.out).mono ?_); (case side1 => exact Kd.V_mk HC0_0.out (Kd.F_below (Kd.C_F (Kd.heap_int .i64) HR0_0.out) (bU1 HB.out GE427.out))); (case side2 => exact Kd.V_mk HC0_1.out (Kd.F_below (Kd.C_F (Kd.heap_int .i64) HR0_1.out) (bU1 HB.out GE427.out))); rintro e w18 ⟨rfl, hb⟩; refine ⟨_, rfl, ?_⟩; have n0_ := Az (blk_below (g := gb427) (o := .cells #[.slice A0_0 l0_0.length c0_0, .slice A0_1 l0_1.length c0_1] 29 (0, 0)) (kU BK427.out) hb); have n1_ := Az (below_step (bU1 HB.out GE427.out) hb); clear BK427 HB; have BK427 := n0_; have HB := n1_; clear n0_ n1_; (try clear hb); (try clear hb2); (try clear hk); (try clear hi); have hcz19_0 : w18.cell? ⟨gb427, 0, none⟩ = some (.slice A0_0 l0_0.length c0_0) := (blk_cell BK427.out 0).trans rfl; have hcz19_1 : w18.cell? ⟨gb427, 1, none⟩ = some (.slice A0_1 l0_1.length c0_1) := (blk_cell BK427.out 1).trans rfl; have hfz19_0 := blk_frozen BK427.out 0; have hfz19_1 := blk_frozen BK427.out 1))
     go_ret
     exact ⟨rE, bU1 HB.out GE427.out⟩
    ·
     rw [if_neg c15] at H; have c15b0 := decide_eq_false c15; clear c15
     by_cases c20 : a2 ≥ (l0_0.length : Int)
     ·
      rw [if_pos c20] at H; have c20b0 := decide_eq_true c20; clear c20; obtain rfl := Option.some.inj H
      go_enter Try.func46, Try.ntmps46
      go_wp2_with (first | ((with_reducible refine gate_dst (N := 3) rfl ?_); (try (refine gate_guard (by rfl) ?_; dsimp only)); refine box_event ?hg (N := 3) ?hd (cs := #[.slice A0_0 l0_0.length c0_0, .slice A0_1 l0_1.length c0_1]) (t := 29) ?hr ?_; (case hd => rfl); (case hg => rfl); (case hr => first | (go_simp; done) | (go_simp; rfl)); intro gb427 hg w21 hbox hb; have n0_ := Az (below_step (bU0 HB.out) hb); have n1_ := Az (hbox); have n2_ := Az ((by rw [hg]; exact (below_size (bU0 HB.out)) : w.heap.size ≤ gb427)); have n3_ := n2_; clear HB; have HB := n0_; have BK427 := n1_; have GW427 := n2_; have GE427 := n3_; clear n0_ n1_ n2_ n3_ hb hbox hg; have hcz22_0 : w21.cell? ⟨gb427, 0, none⟩ = some (.slice A0_0 l0_0.length c0_0) := (blk_cell BK427.out 0).trans rfl; have hcz22_1 : w21.cell? ⟨gb427, 1, none⟩ = some (.slice A0_1 l0_1.length c0_1) := (blk_cell BK427.out 1).trans rfl; have hfz22_0 := blk_frozen BK427.out 0; have hfz22_1 := blk_frozen BK427.out 1) | ((with_reducible refine gate_callee (f := 66) rfl ?_); refine goesL_ (some 8) rfl rfl Try.func66 (by kernel_rfl) rfl #[.agg #[.slice A0_0 l0_0.length c0_0, .slice A0_1 l0_1.length c0_1]] rfl (by (try simp only [List.map_toArray, List.map_cons, List.map_nil]); first | done | rfl | (simp only [List.length_drop, List.length_take]; rfl)) ?_; (with_reducible refine (impl_MapValid.calls k (fun k_ => k_ < w.heap.size) _ _ l0_0 (fun k_ => k_ < w.heap.size) _ _ l0_1 true _ ?side1 ?side2 A4.out).mono ?_); (case side1 => exact Kd.V_mk HC0_0.out (Kd.F_below (Kd.C_F (Kd.heap_int .i64) HR0_0.out) (bU1 HB.out GE427.out))); (case side2 => exact Kd.V_mk HC0_1.out (Kd.F_below (Kd.C_F (Kd.heap_int .i64) HR0_1.out) (bU1 HB.out GE427.out))); rintro e w23 ⟨rfl, hb⟩; refine ⟨_, rfl, ?_⟩; have n0_ := Az (blk_below (g := gb427) (o := .cells #[.slice A0_0 l0_0.length c0_0, .slice A0_1 l0_1.length c0_1] 29 (0, 0)) (kU BK427.out) hb); have n1_ := Az (below_step (bU1 HB.out GE427.out) hb); clear BK427 HB; have BK427 := n0_; have HB := n1_; clear n0_ n1_; (try clear hb); (try clear hb2); (try clear hk); (try clear hi); have hcz24_0 : w23.cell? ⟨gb427, 0, none⟩ = some (.slice A0_0 l0_0.length c0_0) := (blk_cell BK427.out 0).trans rfl; have hcz24_1 : w23.cell? ⟨gb427, 1, none⟩ = some (.slice A0_1 l0_1.length c0_1) := (blk_cell BK427.out 1).trans rfl; have hfz24_0 := blk_frozen BK427.out 0; have hfz24_1 := blk_frozen BK427.out 1))
      go_ret
      exact ⟨rE, bU1 HB.out GE427.out⟩
     ·
      rw [if_neg c20] at H; have c20b0 := decide_eq_false c20; clear c20; replace H := Option.bind_eq_some_iff.mp H; obtain ⟨t429, A250, H⟩ := H; replace H : (if 0 ≤ a2 then (if a2 < (t429.length : Int) then (some (rd t429 a2)) else (none)) else (none)) = some r := H; have A25 := Az A250; clear A250
      by_cases c26 : 0 ≤ a2
      ·
       rw [if_pos c26] at H; have c26b0 := decide_eq_true c26; clear c26
       by_cases c27 : a2 < (t429.length : Int)
       ·
        rw [if_pos c27] at H; have c27b0 := decide_eq_true c27; clear c27; obtain rfl := Option.some.inj H
        go_enter Try.func46, Try.ntmps46
        go_wp2_with (first | ((with_reducible refine gate_dst (N := 3) rfl ?_); (try (refine gate_guard (by rfl) ?_; dsimp only)); refine box_event ?hg (N := 3) ?hd (cs := #[.slice A0_0 l0_0.length c0_0, .slice A0_1 l0_1.length c0_1]) (t := 29) ?hr ?_; (case hd => rfl); (case hg => rfl); (case hr => first | (go_simp; done) | (go_simp; rfl)); intro gb427 hg w28 hbox hb; have n0_ := Az (below_step (bU0 HB.out) hb); have n1_ := Az (hbox); have n2_ := Az ((by rw [hg]; exact (below_size (bU0 HB.out)) : w.heap.size ≤ gb427)); have n3_ := n2_; clear HB; have HB := n0_; have BK427 := n1_; have GW427 := n2_; have GE427 := n3_; clear n0_ n1_ n2_ n3_ hb hbox hg; have hcz29_0 : w28.cell? ⟨gb427, 0, none⟩ = some (.slice A0_0 l0_0.length c0_0) := (blk_cell BK427.out 0).trans rfl; have hcz29_1 : w28.cell? ⟨gb427, 1, none⟩ = some (.slice A0_1 l0_1.length c0_1) := (blk_cell BK427.out 1).trans rfl; have hfz29_0 := blk_frozen BK427.out 0; have hfz29_1 := blk_frozen BK427.out 1) | ((with_reducible refine gate_callee (f := 66) rfl ?_); refine goesL_ (some 8) rfl rfl Try.func66 (by kernel_rfl) rfl #[.agg #[.slice A0_0 l0_0.length c0_0, .slice A0_1 l0_1.length c0_1]] rfl (by (try simp only [List.map_toArray, List.map_cons, List.map_nil]); first | done | rfl | (simp only [List.length_drop, List.length_take]; rfl)) ?_; (with_reducible refine (impl_MapValid.calls k (fun k_ => k_ < w.heap.size) _ _ l0_0 (fun k_ => k_ < w.heap.size) _ _ l0_1 true _ ?side1 ?side2 A4.out).mono ?_); (case side1 => exact Kd.V_mk HC0_0.out (Kd.F_below (Kd.C_F (Kd.heap_int .i64) HR0_0.out) (bU1 HB.out GE427.out))); (case side2 => exact Kd.V_mk HC0_1.out (Kd.F_below (Kd.C_F (Kd.heap_int .i64) HR0_1.out) (bU1 HB.out GE427.out))); rintro e w30 ⟨rfl, hb⟩; refine ⟨_, rfl, ?_⟩; have n0_ := Az (blk_below (g := gb427) (o := .cells #[.slice A0_0 l0_0.length c0_0, .slice A0_1 l0_1.length c0_1] 29 (0, 0)) (kU BK427.out) hb); have n1_ := Az (below_step (bU1 HB.out GE427.out) hb); clear BK427 HB; have BK427 := n0_; have HB := n1_; clear n0_ n1_; (try clear hb); (try clear hb2); (try clear hk); (try clear hi); have hcz31_0 : w30.cell? ⟨gb427, 0, none⟩ = some (.slice A0_0 l0_0.length c0_0) := (blk_cell BK427.out 0).trans rfl; have hcz31_1 : w30.cell? ⟨gb427, 1, none⟩ = some (.slice A0_1 l0_1.length c0_1) := (blk_cell BK427.out 1).trans rfl; have hfz31_0 := blk_frozen BK427.out 0; have hfz31_1 := blk_frozen BK427.out 1) | ((with_reducible refine gate_callee (f := 88) rfl ?_); refine goesL_ (some 34) rfl rfl Try.func88 (by kernel_rfl) rfl #[.agg #[.slice A0_0 l0_0.length c0_0, .slice A0_1 l0_1.length c0_1], .int .i64 a1] rfl (by (try simp only [List.map_toArray, List.map_cons, List.map_nil]); first | done | rfl | (simp only [List.length_drop, List.length_take]; rfl)) ?_; (with_reducible refine (impl_distancesFrom.calls k _ _ l0_0 _ _ l0_1 a1 t429 _ ?side1 ?side2 ?side3 ?side4 A25.out).mono ?_); (case side1 => exact cU (Kd.C_below HR0_0.out HB.out)); (case side2 => exact HC0_0.out); (case side3 => exact cU (Kd.C_below HR0_1.out HB.out)); (case side4 => exact HC0_1.out); rintro e w32 ⟨v430, rfl, ho0, hb⟩; refine ⟨_, rfl, ?_⟩; have n0_ := Az (Kd.R_lower ho0 (below_size (bU1 HB.out GE427.out))); have n1_ := Az (blk_below (g := gb427) (o := .cells #[.slice A0_0 l0_0.length c0_0, .slice A0_1 l0_1.length c0_1] 29 (0, 0)) (kU BK427.out) hb); have n2_ := Az (below_step (bU1 HB.out GE427.out) hb); clear BK427 HB; have HO431 := n0_; have BK427 := n1_; have HB := n2_; clear n0_ n1_ n2_; (try clear hb); (try clear hb2); (try clear hk); (try clear hi); (try clear ho0); obtain ⟨Ao33, co33, eo33⟩ := Kd.R_slice HO431.out; subst eo33; have p432 : 0 ≤ (a2 : Int) := oA; have q432 : a2 < (t429.length : Int) := oA; obtain ⟨ad432, e432, hx432_0⟩ := Kd.at_int (Kd.R_reads' HO431.out).2.2 a2 p432 q432; cases e432; replace p432 := eq_true p432; replace q432 := eq_true q432))
        go_ret
        exact ⟨rE, bU1 HB.out GE427.out⟩
       ·
        rw [if_neg c27] at H
        exact absurd H (by simp)
      ·
       rw [if_neg c26] at H
       exact absurd H (by simp)
 ·
  replace c5 := Bool.eq_false_iff.mpr c5; subst c5
  have H1 : (some (-1)) = some r := by rw [if_neg (show ¬ (false = true) by decide)] at H; exact H
  clear H; have H := H1; clear H1; obtain rfl := Option.some.inj H
  go_enter Try.func46, Try.ntmps46
  go_wp2_with (first | ((with_reducible refine gate_dst (N := 3) rfl ?_); (try (refine gate_guard (by rfl) ?_; dsimp only)); refine box_event ?hg (N := 3) ?hd (cs := #[.slice A0_0 l0_0.length c0_0, .slice A0_1 l0_1.length c0_1]) (t := 29) ?hr ?_; (case hd => rfl); (case hg => rfl); (case hr => first | (go_simp; done) | (go_simp; rfl)); intro gb427 hg w34 hbox hb; have n0_ := Az (below_step (bU0 HB.out) hb); have n1_ := Az (hbox); have n2_ := Az ((by rw [hg]; exact (below_size (bU0 HB.out)) : w.heap.size ≤ gb427)); have n3_ := n2_; clear HB; have HB := n0_; have BK427 := n1_; have GW427 := n2_; have GE427 := n3_; clear n0_ n1_ n2_ n3_ hb hbox hg; have hcz35_0 : w34.cell? ⟨gb427, 0, none⟩ = some (.slice A0_0 l0_0.length c0_0) := (blk_cell BK427.out 0).trans rfl; have hcz35_1 : w34.cell? ⟨gb427, 1, none⟩ = some (.slice A0_1 l0_1.length c0_1) := (blk_cell BK427.out 1).trans rfl; have hfz35_0 := blk_frozen BK427.out 0; have hfz35_1 := blk_frozen BK427.out 1) | ((with_reducible refine gate_callee (f := 66) rfl ?_); refine goesL_ (some 8) rfl rfl Try.func66 (by kernel_rfl) rfl #[.agg #[.slice A0_0 l0_0.length c0_0, .slice A0_1 l0_1.length c0_1]] rfl (by (try simp only [List.map_toArray, List.map_cons, List.map_nil]); first | done | rfl | (simp only [List.length_drop, List.length_take]; rfl)) ?_; (with_reducible refine (impl_MapValid.calls k (fun k_ => k_ < w.heap.size) _ _ l0_0 (fun k_ => k_ < w.heap.size) _ _ l0_1 false _ ?side1 ?side2 A4.out).mono ?_); (case side1 => exact Kd.V_mk HC0_0.out (Kd.F_below (Kd.C_F (Kd.heap_int .i64) HR0_0.out) (bU1 HB.out GE427.out))); (case side2 => exact Kd.V_mk HC0_1.out (Kd.F_below (Kd.C_F (Kd.heap_int .i64) HR0_1.out) (bU1 HB.out GE427.out))); rintro e w36 ⟨rfl, hb⟩; refine ⟨_, rfl, ?_⟩; have n0_ := Az (blk_below (g := gb427) (o := .cells #[.slice A0_0 l0_0.length c0_0, .slice A0_1 l0_1.length c0_1] 29 (0, 0)) (kU BK427.out) hb); have n1_ := Az (below_step (bU1 HB.out GE427.out) hb); clear BK427 HB; have BK427 := n0_; have HB := n1_; clear n0_ n1_; (try clear hb); (try clear hb2); (try clear hk); (try clear hi)))
  go_ret
  exact ⟨rE, bU1 HB.out GE427.out⟩
end Go.Proofs.Ytlpbalebodlipaa.PK
