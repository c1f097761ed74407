/- For every list of bytes, the law FnTreeMap answers true: for the tree that it draws, TreeMap of the program answers what the reference answers, and a valid tree's map is a planar gluing of genus 0 that its steps do not change. There are no conditions. -/
import Derived.Test.YtlpbalebodlipaaKFnTreeMapOwnx1
namespace Go.Proofs.Ytlpbalebodlipaa.PG
open Go.RowKit Go.Proofs.YtlpbalebodlipaaW.PrintWords Go.Proofs.YtlpbalebodlipaaW.PrintLast Go.Proofs.YtlpbalebodlipaaW.PrintMore
attribute [local go_sem] max2_int min2_int max_two min_two max_three min_three max_four min_four   -- for this text's walks alone
set_option linter.unusedVariables false
set_option linter.unusedSimpArgs false
def spec_l92Tree.l0 : Nat → Int → Int → List Int → Int → ByteArray → List Int → Option (ByteArray × List Int × Int)
 | 0, _, _, _, _, _, _ => none
 | k + 1, x5, x7, x1000, x1001, xZ0, xZ1 => if (xZ0.size : Int) < (wrap64 (2 * x5)) then (if x7 > 0 then (if (xZ1.length : Int) = x5 then (if xZ0.size + 1 ≤ 9223372036854775807 then (spec_l92Tree.l0 k x5 (wrap64 (x7 - 1)) x1000 x1001 (xZ0 ++ (⟨#[41]⟩ : ByteArray)) xZ1) else (none)) else ((spec_l6Rd_pick.f k x1000 x1001 2).bind fun bt190 => (if bt190.1 = 0 then (if xZ0.size + 1 ≤ 9223372036854775807 then (spec_l92Tree.l0 k x5 (wrap64 (x7 - 1)) x1000 bt190.2 (xZ0 ++ (⟨#[41]⟩ : ByteArray)) xZ1) else (none)) else (if xZ0.size + 1 ≤ 9223372036854775807 then ((spec_l6Rd_pick.f k x1000 bt190.2 3).bind fun bt192 => (if xZ1.length < 17592186044416 then (spec_l92Tree.l0 k x5 (wrap64 (x7 + 1)) x1000 bt192.2 (xZ0 ++ (⟨#[40]⟩ : ByteArray)) (xZ1 ++ [wrap64 (bt192.1 - 1)])) else (none))) else (none))))) else (if xZ0.size + 1 ≤ 9223372036854775807 then ((spec_l6Rd_pick.f k x1000 x1001 3).bind fun bt197 => (if xZ1.length < 17592186044416 then (spec_l92Tree.l0 k x5 (wrap64 (x7 + 1)) x1000 bt197.2 (xZ0 ++ (⟨#[40]⟩ : ByteArray)) (xZ1 ++ [wrap64 (bt197.1 - 1)])) else (none))) else (none))) else ((spec_l6Rd_pick.f k x1000 x1001 40).bind fun bt202 => (if bt202.1 = 0 then ((spec_l6Rd_of.f k x1000 bt202.2 (([(⟨#[40]⟩ : ByteArray), (⟨#[41]⟩ : ByteArray), (⟨#[120]⟩ : ByteArray), (⟨#[40, 41]⟩ : ByteArray)] : List ByteArray))).bind fun bt207 => (if xZ0.size + bt207.1.size ≤ 9223372036854775807 then (some (xZ0 ++ bt207.1, xZ1, bt207.2)) else (none))) else (if bt202.1 = 1 then ((some (([(-2), 2] : List Int) : List Int)).bind fun y209 => ((spec_l6Rd_pick.f k x1000 bt202.2 2).bind fun bt212 => (if 0 ≤ bt212.1 then (if bt212.1 < (y209.length : Int) then (if 0 < (xZ1.length : Int) then (some (xZ0, (xZ1.set (0 : Int).toNat (rd y209 bt212.1)), bt212.2)) else (none)) else (none)) else (none)))) else (if bt202.1 = 2 then (if 1 ≤ (xZ1.length : Int) then (some (xZ0, (xZ1.drop (1 : Int).toNat), bt202.2)) else (none)) else (some (xZ0, xZ1, bt202.2))))))
def spec_l92Tree.f (k : Nat) (s0_0 : List Int) (s0_1 : Int) (a1 : Int) : Option (ByteArray × List Int × Int) := (spec_l6Rd_pick.f k s0_0 s0_1 a1).bind fun bt184 => (spec_l92Tree.l0 k (wrap64 (1 + bt184.1)) 0 s0_0 bt184.2 (⟨#[]⟩ : ByteArray) (([] : List Int)))
theorem spec_l92Tree.mono_l : ∀ k, (∀ y0 y1 y2 y3 y4 y5, LeO (spec_l92Tree.l0 k y0 y1 y2 y3 y4 y5) (spec_l92Tree.l0 (k + 1) y0 y1 y2 y3 y4 y5))
 | 0 => fun _ _ _ _ _ _ r h => by simp [spec_l92Tree.l0] at h
 | k + 1 => by
  have ih0 := spec_l92Tree.mono_l k
  ·
   intro y0 y1 y2 y3 y4 y5
   unfold spec_l92Tree.l0
   repeat' first
   | (with_reducible exact ih0 _ _ _ _ _ _)
   | (with_reducible exact spec_l6Rd_of.mono _ _ _ _)
   | (with_reducible exact spec_l6Rd_pick.mono _ _ _ _)
   | (with_reducible exact LeO.refl _)
   | (with_reducible exact LeO.none _)
   | (with_reducible refine LeO.ite ?_ ?_)
   | (with_reducible refine LeO.bind ?_ (fun _ => ?_))
   | exact ih0 _ _ _ _ _ _
   | exact spec_l6Rd_of.mono _ _ _ _
   | exact spec_l6Rd_pick.mono _ _ _ _
   | exact LeO.none _
   | refine LeO.ite ?_ ?_
   | refine LeO.bind ?_ (fun _ => ?_)
theorem spec_l92Tree.mono : ∀ a0 a1 a2 k, LeO (spec_l92Tree.f k a0 a1 a2) (spec_l92Tree.f (k + 1) a0 a1 a2) := by
 intro a0 a1 a2 k
 have ih0 := spec_l92Tree.mono_l k
 unfold spec_l92Tree.f
 repeat' first
   | (with_reducible exact ih0 _ _ _ _ _ _)
   | (with_reducible exact spec_l6Rd_of.mono _ _ _ _)
   | (with_reducible exact spec_l6Rd_pick.mono _ _ _ _)
   | (with_reducible exact LeO.refl _)
   | (with_reducible exact LeO.none _)
   | (with_reducible refine LeO.ite ?_ ?_)
   | (with_reducible refine LeO.bind ?_ (fun _ => ?_))
   | exact ih0 _ _ _ _ _ _
   | exact spec_l6Rd_of.mono _ _ _ _
   | exact spec_l6Rd_pick.mono _ _ _ _
   | exact LeO.none _
   | refine LeO.ite ?_ ?_
   | refine LeO.bind ?_ (fun _ => ?_)
def spec_l92Tree.T9 : Bool × List (List Nat × List Nat) := (true, [([], []), ([0], [0]), ([], []), ([2], [2]), ([3], [3]), ([4], [4]), ([1, 5, 3], [1, 5]), ([0, 1, 2, 3, 4, 5, 6], []), ([7, 6, 6, 0, 1, 2, 3, 4, 5, 6], [6, 7])])
def spec_l92Tree.B9 : List Nat := [0, 1, 0, 4, 12, 28, 63, 127, 255]
theorem spec_l92Tree.tab9 : rtab .any (opsOf Try.f61 9) = spec_l92Tree.T9 := by kernel_rfl
theorem spec_l92Tree.bits9 : waitsOk spec_l92Tree.T9.2 spec_l92Tree.B9 = true := by kernel_rfl
def spec_l92Tree.T13 : Bool × List (List Nat × List Nat) := (true, [([], []), ([0], [0]), ([], []), ([], []), ([2, 3], [2, 3]), ([1, 4], [1, 4]), ([0, 1, 2, 3, 4, 5], []), ([6, 5, 4, 0, 1, 2, 3, 4, 5], [5, 6])])
def spec_l92Tree.B13 : List Nat := [0, 1, 0, 0, 12, 31, 63, 127]
theorem spec_l92Tree.tab13 : rtab .any (opsOf Try.f61 13) = spec_l92Tree.T13 := by kernel_rfl
theorem spec_l92Tree.bits13 : waitsOk spec_l92Tree.T13.2 spec_l92Tree.B13 = true := by kernel_rfl
def spec_l92Tree.T15 : Bool × List (List Nat × List Nat) := (true, [([], []), ([0], [0]), ([], []), ([], []), ([3], [3]), ([2, 4], [2, 4]), ([5], [5]), ([1, 0, 1, 2, 3, 4, 5, 6], [1]), ([7, 6, 4, 0, 1, 2, 3, 4, 5, 6], [6, 7])])
def spec_l92Tree.B15 : List Nat := [0, 1, 0, 0, 8, 28, 60, 127, 255]
theorem spec_l92Tree.tab15 : rtab .any (opsOf Try.f61 15) = spec_l92Tree.T15 := by kernel_rfl
theorem spec_l92Tree.bits15 : waitsOk spec_l92Tree.T15.2 spec_l92Tree.B15 = true := by kernel_rfl
set_option maxHeartbeats 8000000 in
set_option maxRecDepth 100000 in
theorem spec_l92Tree.calls (k : Nat) (g : Nat) (s0_0 : List Int) (s0_1 : Int) (a1 : Int) (r1 : ByteArray) (r2 : List Int) (r3 : Int) (w0 w : World) (hI : IsS104 w0 w g s0_0 s0_1) (hB : Below w0.heap.size w0 w) (h : spec_l92Tree.f k s0_0 s0_1 a1 = some (r1, r2, r3)) :
  Calls Try.prog 61 #[.pointer (some ⟨g, 0, none⟩), .int .i64 a1] w fun e w' => ∃ v1_ : Value, e = .returned (.agg #[.string r1, v1_]) ∧ Kd.Q (Kd.int .i64) 3 w' w.heap.size (fun _ => True) v1_ r2 ∧ IsS104 w0 w' g s0_0 r3 ∧ Below w0.heap.size w0 w' ∧ KeepBut w w' g none := by
 have hu25 := Try.underlying25; have HI0 := Az hI; have HK := Az (KeepBut.refl w g none); have HL := Az hB.size; clear hI; have HW0 := Az hB.size; have HB := Az hB; clear hB; have H : ((spec_l6Rd_pick.f k s0_0 s0_1 a1).bind fun bt184 => (spec_l92Tree.l0 k (wrap64 (1 + bt184.1)) 0 s0_0 bt184.2 (⟨#[]⟩ : ByteArray) (([] : List Int)))) = some (r1, r2, r3) := h; clear h; replace H := Option.bind_eq_some_iff.mp H; obtain ⟨⟨t184, t185⟩, A30, H⟩ := H; replace H : (spec_l92Tree.l0 k (wrap64 (1 + t184)) 0 s0_0 t185 (⟨#[]⟩ : ByteArray) (([] : List Int))) = some (r1, r2, r3) := H; have A3 := Az A30; clear A30; obtain ⟨y186, hy186⟩ : ∃ y_ : List Int, y_ = (([] : List Int)) := ⟨_, rfl⟩; replace H : (spec_l92Tree.l0 k (wrap64 (1 + t184)) 0 s0_0 t185 (⟨#[]⟩ : ByteArray) y186) = some (r1, r2, r3) := hR hy186 H; have Ny186 := Az hy186; clear hy186; have H' := Az H; clear H
 go_enter Try.func61, Try.ntmps61
 go_wp2_with (first | ((with_reducible refine gate_dst (N := 4) rfl ?_); (try (refine gate_guard (by rfl) ?_; dsimp only)); refine box_event ?hg (N := 4) ?hd (cs := #[.string (⟨#[]⟩ : ByteArray), .slice none 0 0]) (t := 25) ?hr ?_; (case hd => rfl); (case hg => rfl); (case hr => first | (go_simp; done) | (go_simp; rfl)); intro gb183 hg w4 hbox hb; have n0 := Az (IsS104.below (by repeat (first | (with_reducible first | exact HI0.out | apply IsS104.alloc | apply IsS104.drewN | apply IsS104.drew | apply IsS104.set_1) | exact HI0.out)) hb); have n1 := Az (KeepBut.trans (by repeat (first | (with_reducible first | exact HK.out | apply KeepBut.set_ | apply keep_drewN | apply keep_drew | apply keep_alloc) | exact HK.out)) (KeepBut.of_below hb g none) (.inl rfl)); have n2 := Az (below_step (by repeat (first | (with_reducible first | exact HB.out | apply below_alloc | apply pw_below_drewN | apply below_drew1 | refine below_set ?_ (IsS104.ge HI0.out)) | exact HB.out)) hb); have n3 := Az (hbox); have n4 := Az ((by rw [hg]; exact (keep_size (w := w) (g := g) (row := none) (by repeat (first | (with_reducible first | exact HK.out | apply KeepBut.set_ | apply keep_drewN | apply keep_drew | apply keep_alloc) | exact HK.out))) : w.heap.size ≤ gb183)); have n5 := Az ((Nat.le_trans HW0.out (by rw [hg]; exact (keep_size (w := w) (g := g) (row := none) (by repeat (first | (with_reducible first | exact HK.out | apply KeepBut.set_ | apply keep_drewN | apply keep_drew | apply keep_alloc) | exact HK.out))) : w.heap.size ≤ gb183) : w0.heap.size ≤ gb183)); have n6 := Az ((by rw [hg]; exact Nat.ne_of_lt (IsS104.lt (show IsS104 w0 _ g s0_0 s0_1 from by repeat (first | (with_reducible first | exact HI0.out | apply IsS104.alloc | apply IsS104.drewN | apply IsS104.drew | apply IsS104.set_1) | exact HI0.out))) : g ≠ gb183)); have n7 := Az ((by rw [hg]; exact Nat.ne_of_gt (IsS104.lt (show IsS104 w0 _ g s0_0 s0_1 from by repeat (first | (with_reducible first | exact HI0.out | apply IsS104.alloc | apply IsS104.drewN | apply IsS104.drew | apply IsS104.set_1) | exact HI0.out))) : gb183 ≠ g)); clear HI0 HK HB; have HI0 := n0; have HK := n1; have HB := n2; have BK183 := n3; have GW183 := n4; have GE183 := n5; have NB0_183 := n6; have NB183_0 := n7; clear n0 n1 n2 n3 n4 n5 n6 n7; clear hb hbox hg) | ((with_reducible refine gate_callee (f := 79) rfl ?_); refine goesL_ (some 10) rfl rfl Try.func79 (by kernel_rfl) rfl #[.pointer (some ⟨g, 0, none⟩), .int .i64 a1] rfl (by (try simp only [List.map_toArray, List.map_cons, List.map_nil]); first | done | rfl | (simp only [List.length_drop, List.length_take]; rfl)) ?_; (with_reducible refine (spec_l6Rd_pick.calls k g s0_0 s0_1 a1 t184 t185 w0 _ ?side1 ?side2 A3.out).mono ?_); (case side1 => repeat (first | (with_reducible first | exact HI0.out | apply IsS104.alloc | apply IsS104.drewN | apply IsS104.drew | apply IsS104.set_1 | refine IsS104.far ?_ NB0_183.out _) | exact HI0.out)); (case side2 => repeat (first | (with_reducible first | exact HB.out | apply below_alloc | apply pw_below_drewN | apply below_drew1 | refine below_set ?_ (IsS104.ge HI0.out) | refine below_set ?_ GE183.out) | exact HB.out)); rintro e w5 ⟨rfl, hi, hb, hk⟩; refine ⟨_, rfl, ?_⟩; have n0 := Az (KeepBut.blk hk (g' := gb183) (o := .cells #[.string (⟨#[]⟩ : ByteArray), .slice none 0 0] 25 (0, 0)) (kU BK183.out) NB183_0.out (by simp)); have n1 := Az (KeepBut.trans (by repeat (first | (with_reducible first | exact HK.out | apply KeepBut.set_ | apply keep_drewN | apply keep_drew | apply keep_alloc | refine keep_far ?_ GW183.out _) | exact HK.out)) hk (.inl rfl)); have n2 := Az (hb); have n3 := Az (hi); clear BK183 HK HB HI0; have BK183 := n0; have HK := n1; have HB := n2; have HI0 := n3; clear n0 n1 n2 n3; (try clear hb); (try clear hb2); (try clear hk); (try clear hi)) | ((with_reducible refine gate_dst (N := 12) rfl ?_); (try (refine gate_guard (by rfl) ?_; dsimp only)); refine Kd.R_lit (Kd.int .i64) _ 3 ?hg (N := 12) ?hd (xs := ([] : List Int)) (inner := []) (ok := fun _ => True) (okp := fun _ => True) ?hr ?hp (fun _ hk => hk) trivial (Below.refl _ _) (Nat.le_refl _) (by simp) ?_; (case hd => rfl); (case hg => rfl); (case hr => first | (go_simp; done) | (go_simp; rfl)); (case hp => exact (Reps.none _ _)); intro v187 w6 ho7 hb hg_ hnew_; clear hg_ hnew_; (first | rw [← Ny186.out] at ho7 | (simp only [Int.reduceToNat] at ho7; rw [← Ny186.out] at ho7)); have n0 := Az (Kd.R_lower ho7 (keep_size (w := w) (g := g) (row := none) (by repeat (first | (with_reducible first | exact HK.out | apply KeepBut.set_ | apply keep_drewN | apply keep_drew | apply keep_alloc | refine keep_far ?_ GW183.out _) | exact HK.out)))); have n1 := Az (IsS104.below (by repeat (first | (with_reducible first | exact HI0.out | apply IsS104.alloc | apply IsS104.drewN | apply IsS104.drew | apply IsS104.set_1 | refine IsS104.far ?_ NB0_183.out _) | exact HI0.out)) hb); have n2 := Az (blk_below (g := gb183) (o := .cells #[.string (⟨#[]⟩ : ByteArray), .slice none 0 0] 25 (0, 0)) (kU BK183.out) hb); have n3 := Az (KeepBut.trans (by repeat (first | (with_reducible first | exact HK.out | apply KeepBut.set_ | apply keep_drewN | apply keep_drew | apply keep_alloc | refine keep_far ?_ GW183.out _) | exact HK.out)) (KeepBut.of_below hb g none) (.inl rfl)); have n4 := Az (below_step (by repeat (first | (with_reducible first | exact HB.out | apply below_alloc | apply pw_below_drewN | apply below_drew1 | refine below_set ?_ (IsS104.ge HI0.out) | refine below_set ?_ GE183.out) | exact HB.out)) hb); clear HI0 BK183 HK HB; have HO188 := n0; have HI0 := n1; have BK183 := n2; have HK := n3; have HB := n4; clear n0 n1 n2 n3 n4 hb ho7; obtain ⟨Ao8, co8, eo8⟩ := Kd.R_slice HO188.out; subst eo8) | ((with_reducible refine gate_dst (N := 6) rfl ?_); (try (refine gate_guard (by rfl) ?_; dsimp only)); refine box_event ?hg (N := 6) ?hd (cs := #[.string (⟨#[]⟩ : ByteArray), .slice none 0 0]) (t := 25) ?hr ?_; (case hd => rfl); (case hg => rfl); (case hr => first | (go_simp; done) | (go_simp; rfl)); intro gb189 hg w9 hbox hb; have n0 := Az (Kd.R_below (rU HO188.out) hb); have n1 := Az (IsS104.below (by repeat (first | (with_reducible first | exact HI0.out | apply IsS104.alloc | apply IsS104.drewN | apply IsS104.drew | apply IsS104.set_1 | refine IsS104.far ?_ NB0_183.out _) | exact HI0.out)) hb); have n2 := Az (blk_below (g := gb183) (o := .cells #[.string (⟨#[]⟩ : ByteArray), .slice none 0 0] 25 (0, 0)) (kU BK183.out) hb); have n3 := Az (KeepBut.trans (by repeat (first | (with_reducible first | exact HK.out | apply KeepBut.set_ | apply keep_drewN | apply keep_drew | apply keep_alloc | refine keep_far ?_ GW183.out _) | exact HK.out)) (KeepBut.of_below hb g none) (.inl rfl)); have n4 := Az (below_step (by repeat (first | (with_reducible first | exact HB.out | apply below_alloc | apply pw_below_drewN | apply below_drew1 | refine below_set ?_ (IsS104.ge HI0.out) | refine below_set ?_ GE183.out) | exact HB.out)) hb); have n5 := Az (hbox); have n6 := Az ((by rw [hg]; exact (keep_size (w := w) (g := g) (row := none) (by repeat (first | (with_reducible first | exact HK.out | apply KeepBut.set_ | apply keep_drewN | apply keep_drew | apply keep_alloc | refine keep_far ?_ GW183.out _) | exact HK.out))) : w.heap.size ≤ gb189)); have n7 := Az ((Nat.le_trans HW0.out (by rw [hg]; exact (keep_size (w := w) (g := g) (row := none) (by repeat (first | (with_reducible first | exact HK.out | apply KeepBut.set_ | apply keep_drewN | apply keep_drew | apply keep_alloc | refine keep_far ?_ GW183.out _) | exact HK.out))) : w.heap.size ≤ gb189) : w0.heap.size ≤ gb189)); have n8 := Az ((by rw [hg]; exact Nat.ne_of_lt (blk_lt (g := gb183) (o := .cells #[.string (⟨#[]⟩ : ByteArray), .slice none 0 0] 25 (0, 0)) (kU BK183.out)) : gb183 ≠ gb189)); have n9 := Az ((by rw [hg]; exact Nat.ne_of_gt (blk_lt (g := gb183) (o := .cells #[.string (⟨#[]⟩ : ByteArray), .slice none 0 0] 25 (0, 0)) (kU BK183.out)) : gb189 ≠ gb183)); have n10 := Az ((by rw [hg]; exact Nat.ne_of_lt (IsS104.lt (show IsS104 w0 _ g s0_0 t185 from by repeat (first | (with_reducible first | exact HI0.out | apply IsS104.alloc | apply IsS104.drewN | apply IsS104.drew | apply IsS104.set_1 | refine IsS104.far ?_ NB0_183.out _) | exact HI0.out))) : g ≠ gb189)); have n11 := Az ((by rw [hg]; exact Nat.ne_of_gt (IsS104.lt (show IsS104 w0 _ g s0_0 t185 from by repeat (first | (with_reducible first | exact HI0.out | apply IsS104.alloc | apply IsS104.drewN | apply IsS104.drew | apply IsS104.set_1 | refine IsS104.far ?_ NB0_183.out _) | exact HI0.out))) : gb189 ≠ g)); clear HO188 HI0 BK183 HK HB; have HO188 := n0; have HI0 := n1; have BK183 := n2; have HK := n3; have HB := n4; have BK189 := n5; have GW189 := n6; have GE189 := n7; have NB183_189 := n8; have NB189_183 := n9; have NB0_189 := n10; have NB189_0 := n11; clear n0 n1 n2 n3 n4 n5 n6 n7 n8 n9 n10 n11 hb hbox hg; have hnb10 := NB189_183.out; have hnc10 := NB183_189.out; have hnb11 := NB189_0.out; have hnc11 := NB0_189.out; have hcz12_0 : w9.cell? ⟨gb189, 0, none⟩ = some (.string (⟨#[]⟩ : ByteArray)) := (blk_cell BK189.out 0).trans rfl; have hcz12_1 : w9.cell? ⟨gb189, 1, none⟩ = some (.slice none 0 0) := (blk_cell BK189.out 1).trans rfl; have hfz12_0 := blk_frozen BK189.out 0; have hfz12_1 := blk_frozen BK189.out 1))
 go_loopg [7] k (fun kq v7 w' => ∃ (x7_1 : Int) (x1001_1 : Int) (xZ0_1 : ByteArray) (xZ1_1 : List Int) (uZ1 : Value), v7 = .int .i64 x7_1 ∧ Aside0 (spec_l92Tree.l0 kq (wrap64 (1 + t184)) x7_1 s0_0 x1001_1 xZ0_1 xZ1_1 = some (r1, r2, r3)) ∧ Aside0 (kq ≤ k) ∧ Aside0 (Kd.Q (Kd.int .i64) 3 w' w.heap.size (fun _ => True) uZ1 xZ1_1) ∧ Aside0 (w'.heap[gb183]? = some (.cells #[.string (⟨#[]⟩ : ByteArray), (.slice none 0 0)] 25 (0, 0))) ∧ Aside0 (w'.heap[gb189]? = some (.cells #[.string xZ0_1, uZ1] 25 (0, 0))) ∧ Aside0 (IsS104 w0 w' g s0_0 x1001_1) ∧ Aside0 (KeepBut w w' g none) ∧ Aside0 (Below w0.heap.size w0 w'))
 case atStart => exact ⟨(0), (t185), ((⟨#[]⟩ : ByteArray)), (y186), (.slice Ao8 y186.length co8), rS, H', ⟨Nat.le_refl _⟩, ⟨Kd.Q_of_R (by (with_reducible repeat (first | apply Kd.R_alloc | apply Kd.R_drewN | apply Kd.R_drew)); exact Kd.R_mono (Kd.R_far (p := ⟨gb189, 1, none⟩) (Kd.R_far (p := ⟨gb189, 0, none⟩) (Kd.R_types HO188.out BK189.out (by decide)) (fun _ hk => hk.2) (.string (⟨#[]⟩ : ByteArray))) (fun _ hk => hk.2) (.slice Ao8 y186.length co8)) (fun _ hk => trivial))⟩, ⟨by (with_reducible repeat (first | refine blk_drewN ?_ _ | refine blk_drew ?_ | refine blk_alloc ?_ _)); refine blk_far ?_ NB183_189.out _; (with_reducible repeat (first | refine blk_drewN ?_ _ | refine blk_drew ?_ | refine blk_alloc ?_ _)); refine blk_far ?_ NB183_189.out _; (with_reducible repeat (first | refine blk_drewN ?_ _ | refine blk_drew ?_ | refine blk_alloc ?_ _)); exact BK183.out⟩, ⟨by (with_reducible repeat (first | refine blk_drewN ?_ _ | refine blk_drew ?_ | refine blk_alloc ?_ _)); refine blk_put (cs := #[.string (⟨#[]⟩ : ByteArray), .slice none 0 0]) ?_ 1 _ rfl; (with_reducible repeat (first | refine blk_drewN ?_ _ | refine blk_drew ?_ | refine blk_alloc ?_ _)); refine blk_put (cs := #[.string (⟨#[]⟩ : ByteArray), .slice none 0 0]) ?_ 0 _ rfl; (with_reducible repeat (first | refine blk_drewN ?_ _ | refine blk_drew ?_ | refine blk_alloc ?_ _)); exact BK189.out⟩, ⟨by repeat (first | (with_reducible first | exact HI0.out | apply IsS104.alloc | apply IsS104.drewN | apply IsS104.drew | apply IsS104.set_1 | refine IsS104.far ?_ NB0_183.out _ | refine IsS104.far ?_ NB0_189.out _) | exact HI0.out)⟩, ⟨by repeat (first | (with_reducible first | exact HK.out | apply KeepBut.set_ | apply keep_drewN | apply keep_drew | apply keep_alloc | refine keep_far ?_ GW183.out _ | refine keep_far ?_ GW189.out _) | exact HK.out)⟩, ⟨by repeat (first | (with_reducible first | exact HB.out | apply below_alloc | apply pw_below_drewN | apply below_drew1 | refine below_set ?_ (IsS104.ge HI0.out) | refine below_set ?_ GE183.out | refine below_set ?_ GE189.out) | exact HB.out)⟩⟩
 case round =>
  clear H'; (try clear c1); (try clear p2); (try clear c6); (try clear p6); (try clear c7); (try clear c10); (try clear c11); (try clear hcz12_0); (try clear hcz12_1); (try clear hfz12_0); (try clear hfz12_1); obtain ⟨x7_1, x1001_1, xZ0_1, xZ1_1, uZ1, rfl, HA, HK1, HO_Z1, BK183, BK189, HI0, HK, HB⟩ := hrel
  cases gk with
  | zero => exact absurd HA.out (by simp [spec_l92Tree.l0])
  | succ k1 =>
   have H := HA.out; clear HA; simp only [spec_l92Tree.l0] at H
   by_cases c13 : (xZ0_1.size : Int) < (wrap64 (2 * (wrap64 (1 + t184))))
   ·
    rw [if_pos c13] at H; have c13b0 := decide_eq_true c13; clear c13
    by_cases c14 : x7_1 > 0
    ·
     rw [if_pos c14] at H; have c14b0 := decide_eq_true c14; clear c14
     by_cases c15 : (xZ1_1.length : Int) = (wrap64 (1 + t184))
     ·
      rw [if_pos c15] at H; have c15b0 := beq_iff_eq.mpr c15; have c15b1 := bne_eq_false_iff_eq.mpr c15; clear c15
      by_cases c16 : xZ0_1.size + 1 ≤ 9223372036854775807
      ·
       rw [if_pos c16] at H; have c16b0 := eq_true c16; have c16b1 := decide_eq_true c16
       try have c16b2 : (9223372036854775807 < xZ0_1.size + 1) = False := eq_false (Nat.not_lt.2 c16)
       have H' := Az H; clear H; have hnb17 := NB189_183.out; have hnc17 := NB183_189.out; have hnb18 := NB189_0.out; have hnc18 := NB0_189.out; have hcz19_0 : wr.cell? ⟨gb189, 0, none⟩ = some (.string xZ0_1) := (blk_cell BK189.out 0).trans rfl; have hcz19_1 : wr.cell? ⟨gb189, 1, none⟩ = some (uZ1) := (blk_cell BK189.out 1).trans rfl; have hfz19_0 := blk_frozen BK189.out 0; have hfz19_1 := blk_frozen BK189.out 1; obtain ⟨Ao20, co20, eo20, _⟩ := Kd.Q_slice HO_Z1.out; subst eo20
       go_wp2
       (first | go_roundg k1 | (refine Handed.intro k1 ?measure ?_; rotate_left; go_step; (try simp only [add_plain]); (repeat apply Exists.intro); refine ⟨?rel, rfl⟩))
       case measure => have := HK1.out; omega
       case rel => exact ⟨(wrap64 (x7_1 - 1)), (x1001_1), (xZ0_1 ++ (⟨#[41]⟩ : ByteArray)), (xZ1_1), (.slice Ao20 xZ1_1.length co20), rS, H', ⟨by have := HK1.out; omega⟩, ⟨by (with_reducible repeat (first | apply Kd.Q_alloc | apply Kd.Q_drewN | apply Kd.Q_drew)); exact Kd.Q_mono (Kd.Q_far (p := ⟨gb189, 0, none⟩) (Kd.Q_types HO_Z1.out BK189.out (by decide)) (fun _ hk => hk.2) (.string (xZ0_1 ++ (⟨#[41]⟩ : ByteArray)))) (fun _ hk => trivial)⟩, ⟨by (with_reducible repeat (first | refine blk_drewN ?_ _ | refine blk_drew ?_ | refine blk_alloc ?_ _)); refine blk_far ?_ NB183_189.out _; (with_reducible repeat (first | refine blk_drewN ?_ _ | refine blk_drew ?_ | refine blk_alloc ?_ _)); exact BK183.out⟩, ⟨by (with_reducible repeat (first | refine blk_drewN ?_ _ | refine blk_drew ?_ | refine blk_alloc ?_ _)); refine blk_put (cs := #[.string xZ0_1, .slice Ao20 xZ1_1.length co20]) ?_ 0 _ rfl; (with_reducible repeat (first | refine blk_drewN ?_ _ | refine blk_drew ?_ | refine blk_alloc ?_ _)); exact BK189.out⟩, ⟨by repeat (first | (with_reducible first | exact HI0.out | apply IsS104.alloc | apply IsS104.drewN | apply IsS104.drew | apply IsS104.set_1 | refine IsS104.far ?_ NB0_183.out _ | refine IsS104.far ?_ NB0_189.out _) | exact HI0.out)⟩, ⟨by repeat (first | (with_reducible first | exact HK.out | apply KeepBut.set_ | apply keep_drewN | apply keep_drew | apply keep_alloc | refine keep_far ?_ GW183.out _ | refine keep_far ?_ GW189.out _) | exact HK.out)⟩, ⟨by repeat (first | (with_reducible first | exact HB.out | apply below_alloc | apply pw_below_drewN | apply below_drew1 | refine below_set ?_ (IsS104.ge HI0.out) | refine below_set ?_ GE183.out | refine below_set ?_ GE189.out) | exact HB.out)⟩⟩
      ·
       rw [if_neg c16] at H
       exact absurd H (by simp)
     ·
      rw [if_neg c15] at H; have c15b0 := beq_eq_false_iff_ne.mpr c15; have c15b1 := bne_iff_ne.mpr c15; replace H := Option.bind_eq_some_iff.mp H; obtain ⟨⟨t190, t191⟩, A210, H⟩ := H; replace H : (if t190 = 0 then (if xZ0_1.size + 1 ≤ 9223372036854775807 then (spec_l92Tree.l0 k1 (wrap64 (1 + t184)) (wrap64 (x7_1 - 1)) s0_0 t191 (xZ0_1 ++ (⟨#[41]⟩ : ByteArray)) xZ1_1) else (none)) else (if xZ0_1.size + 1 ≤ 9223372036854775807 then ((spec_l6Rd_pick.f k1 s0_0 t191 3).bind fun bt192 => (if xZ1_1.length < 17592186044416 then (spec_l92Tree.l0 k1 (wrap64 (1 + t184)) (wrap64 (x7_1 + 1)) s0_0 bt192.2 (xZ0_1 ++ (⟨#[40]⟩ : ByteArray)) (xZ1_1 ++ [wrap64 (bt192.1 - 1)])) else (none))) else (none))) = some (r1, r2, r3) := H; have A21 := Az A210; clear A210
      by_cases c22 : t190 = 0
      ·
       rw [if_pos c22] at H; have c22b0 := beq_iff_eq.mpr c22; have c22b1 := bne_eq_false_iff_eq.mpr c22; clear c22
       by_cases c23 : xZ0_1.size + 1 ≤ 9223372036854775807
       ·
        rw [if_pos c23] at H; have c23b0 := eq_true c23; have c23b1 := decide_eq_true c23
        try have c23b2 : (9223372036854775807 < xZ0_1.size + 1) = False := eq_false (Nat.not_lt.2 c23)
        have H' := Az H; clear H; have hnb24 := NB189_183.out; have hnc24 := NB183_189.out; have hnb25 := NB189_0.out; have hnc25 := NB0_189.out; have hcz26_0 : wr.cell? ⟨gb189, 0, none⟩ = some (.string xZ0_1) := (blk_cell BK189.out 0).trans rfl; have hcz26_1 : wr.cell? ⟨gb189, 1, none⟩ = some (uZ1) := (blk_cell BK189.out 1).trans rfl; have hfz26_0 := blk_frozen BK189.out 0; have hfz26_1 := blk_frozen BK189.out 1; obtain ⟨Ao27, co27, eo27, _⟩ := Kd.Q_slice HO_Z1.out; subst eo27
        go_wp2_with (first | (go_at_call 79; (with_reducible refine (spec_l6Rd_pick.calls k1 g s0_0 x1001_1 2 t190 t191 w0 _ ?side1 ?side2 A21.out).mono ?_); (case side1 => repeat (first | (with_reducible first | exact HI0.out | apply IsS104.alloc | apply IsS104.drewN | apply IsS104.drew | apply IsS104.set_1 | refine IsS104.far ?_ NB0_183.out _ | refine IsS104.far ?_ NB0_189.out _) | exact HI0.out)); (case side2 => repeat (first | (with_reducible first | exact HB.out | apply below_alloc | apply pw_below_drewN | apply below_drew1 | refine below_set ?_ (IsS104.ge HI0.out) | refine below_set ?_ GE183.out | refine below_set ?_ GE189.out) | exact HB.out)); rintro e w28 ⟨rfl, hi, hb, hk⟩; have n0 := Az (Kd.Q_mono (Kd.Q_keep (IsS104.apartQ (show IsS104 w0 _ g s0_0 x1001_1 from by repeat (first | (with_reducible first | exact HI0.out | apply IsS104.alloc | apply IsS104.drewN | apply IsS104.drew | apply IsS104.set_1 | refine IsS104.far ?_ NB0_183.out _ | refine IsS104.far ?_ NB0_189.out _) | exact HI0.out)) (qU HO_Z1.out) (by decide)) hk (fun _ h => h.2)) (fun _ h => h.1)); have n1 := Az (KeepBut.blk hk (g' := gb183) (o := .cells #[.string (⟨#[]⟩ : ByteArray), .slice none 0 0] 25 (0, 0)) (kU BK183.out) NB183_0.out (by simp)); have n2 := Az (KeepBut.blk hk (g' := gb189) (o := .cells #[.string xZ0_1, .slice Ao27 xZ1_1.length co27] 25 (0, 0)) (kU BK189.out) NB189_0.out (by simp)); have n3 := Az (KeepBut.trans (by repeat (first | (with_reducible first | exact HK.out | apply KeepBut.set_ | apply keep_drewN | apply keep_drew | apply keep_alloc | refine keep_far ?_ GW183.out _ | refine keep_far ?_ GW189.out _) | exact HK.out)) hk (.inl rfl)); have n4 := Az (hb); have n5 := Az (hi); clear HO_Z1 BK183 BK189 HK HB HI0; have HO_Z1 := n0; have BK183 := n1; have BK189 := n2; have HK := n3; have HB := n4; have HI0 := n5; clear n0 n1 n2 n3 n4 n5; (try clear hb); (try clear hb2); (try clear hk); (try clear hi); have hcz29_0 : w28.cell? ⟨gb189, 0, none⟩ = some (.string xZ0_1) := (blk_cell BK189.out 0).trans rfl; have hcz29_1 : w28.cell? ⟨gb189, 1, none⟩ = some (.slice Ao27 xZ1_1.length co27) := (blk_cell BK189.out 1).trans rfl; have hfz29_0 := blk_frozen BK189.out 0; have hfz29_1 := blk_frozen BK189.out 1))
        (first | go_roundg k1 | (refine Handed.intro k1 ?measure ?_; rotate_left; go_step; (try simp only [add_plain]); (repeat apply Exists.intro); refine ⟨?rel, rfl⟩))
        case measure => have := HK1.out; omega
        case rel => exact ⟨(wrap64 (x7_1 - 1)), (t191), (xZ0_1 ++ (⟨#[41]⟩ : ByteArray)), (xZ1_1), (.slice Ao27 xZ1_1.length co27), rS, H', ⟨by have := HK1.out; omega⟩, ⟨by (with_reducible repeat (first | apply Kd.Q_alloc | apply Kd.Q_drewN | apply Kd.Q_drew)); exact Kd.Q_mono (Kd.Q_far (p := ⟨gb189, 0, none⟩) (Kd.Q_types HO_Z1.out BK189.out (by decide)) (fun _ hk => hk.2) (.string (xZ0_1 ++ (⟨#[41]⟩ : ByteArray)))) (fun _ hk => trivial)⟩, ⟨by (with_reducible repeat (first | refine blk_drewN ?_ _ | refine blk_drew ?_ | refine blk_alloc ?_ _)); refine blk_far ?_ NB183_189.out _; (with_reducible repeat (first | refine blk_drewN ?_ _ | refine blk_drew ?_ | refine blk_alloc ?_ _)); exact BK183.out⟩, ⟨by (with_reducible repeat (first | refine blk_drewN ?_ _ | refine blk_drew ?_ | refine blk_alloc ?_ _)); refine blk_put (cs := #[.string xZ0_1, .slice Ao27 xZ1_1.length co27]) ?_ 0 _ rfl; (with_reducible repeat (first | refine blk_drewN ?_ _ | refine blk_drew ?_ | refine blk_alloc ?_ _)); exact BK189.out⟩, ⟨by repeat (first | (with_reducible first | exact HI0.out | apply IsS104.alloc | apply IsS104.drewN | apply IsS104.drew | apply IsS104.set_1 | refine IsS104.far ?_ NB0_183.out _ | refine IsS104.far ?_ NB0_189.out _) | exact HI0.out)⟩, ⟨by repeat (first | (with_reducible first | exact HK.out | apply KeepBut.set_ | apply keep_drewN | apply keep_drew | apply keep_alloc | refine keep_far ?_ GW183.out _ | refine keep_far ?_ GW189.out _) | exact HK.out)⟩, ⟨by repeat (first | (with_reducible first | exact HB.out | apply below_alloc | apply pw_below_drewN | apply below_drew1 | refine below_set ?_ (IsS104.ge HI0.out) | refine below_set ?_ GE183.out | refine below_set ?_ GE189.out) | exact HB.out)⟩⟩
       ·
        rw [if_neg c23] at H
        exact absurd H (by simp)
      ·
       rw [if_neg c22] at H; have c22b0 := beq_eq_false_iff_ne.mpr c22; have c22b1 := bne_iff_ne.mpr c22
       by_cases c30 : xZ0_1.size + 1 ≤ 9223372036854775807
       ·
        rw [if_pos c30] at H; have c30b0 := eq_true c30; have c30b1 := decide_eq_true c30
        try have c30b2 : (9223372036854775807 < xZ0_1.size + 1) = False := eq_false (Nat.not_lt.2 c30)
        replace H := Option.bind_eq_some_iff.mp H; obtain ⟨⟨t192, t193⟩, A310, H⟩ := H; replace H : (if xZ1_1.length < 17592186044416 then (spec_l92Tree.l0 k1 (wrap64 (1 + t184)) (wrap64 (x7_1 + 1)) s0_0 t193 (xZ0_1 ++ (⟨#[40]⟩ : ByteArray)) (xZ1_1 ++ [wrap64 (t192 - 1)])) else (none)) = some (r1, r2, r3) := H; have A31 := Az A310; clear A310
        by_cases c32 : xZ1_1.length < 17592186044416
        ·
         rw [if_pos c32] at H; have LMc32 := Az c32; clear c32; obtain ⟨y194, hy194⟩ : ∃ y_ : List Int, y_ = (xZ1_1 ++ [wrap64 (t192 - 1)]) := ⟨_, rfl⟩; replace H : (spec_l92Tree.l0 k1 (wrap64 (1 + t184)) (wrap64 (x7_1 + 1)) s0_0 t193 (xZ0_1 ++ (⟨#[40]⟩ : ByteArray)) y194) = some (r1, r2, r3) := hR hy194 H; have Ny194 := Az hy194; clear hy194; have H' := Az H; clear H; have hnb33 := NB189_183.out; have hnc33 := NB183_189.out; have hnb34 := NB189_0.out; have hnc34 := NB0_189.out; have hcz35_0 : wr.cell? ⟨gb189, 0, none⟩ = some (.string xZ0_1) := (blk_cell BK189.out 0).trans rfl; have hcz35_1 : wr.cell? ⟨gb189, 1, none⟩ = some (uZ1) := (blk_cell BK189.out 1).trans rfl; have hfz35_0 := blk_frozen BK189.out 0; have hfz35_1 := blk_frozen BK189.out 1; obtain ⟨Ao36, co36, eo36, _⟩ := Kd.Q_slice HO_Z1.out; subst eo36
         try go_wp2_with (first | (go_at_call 79; (with_reducible refine (spec_l6Rd_pick.calls k1 g s0_0 x1001_1 2 t190 t191 w0 _ ?side1 ?side2 A21.out).mono ?_); (case side1 => repeat (first | (with_reducible first | exact HI0.out | apply IsS104.alloc | apply IsS104.drewN | apply IsS104.drew | apply IsS104.set_1 | refine IsS104.far ?_ NB0_183.out _ | refine IsS104.far ?_ NB0_189.out _) | exact HI0.out)); (case side2 => repeat (first | (with_reducible first | exact HB.out | apply below_alloc | apply pw_below_drewN | apply below_drew1 | refine below_set ?_ (IsS104.ge HI0.out) | refine below_set ?_ GE183.out | refine below_set ?_ GE189.out) | exact HB.out)); rintro e w37 ⟨rfl, hi, hb, hk⟩; have n0 := Az (Kd.Q_mono (Kd.Q_keep (IsS104.apartQ (show IsS104 w0 _ g s0_0 x1001_1 from by repeat (first | (with_reducible first | exact HI0.out | apply IsS104.alloc | apply IsS104.drewN | apply IsS104.drew | apply IsS104.set_1 | refine IsS104.far ?_ NB0_183.out _ | refine IsS104.far ?_ NB0_189.out _) | exact HI0.out)) (qU HO_Z1.out) (by decide)) hk (fun _ h => h.2)) (fun _ h => h.1)); have n1 := Az (KeepBut.blk hk (g' := gb183) (o := .cells #[.string (⟨#[]⟩ : ByteArray), .slice none 0 0] 25 (0, 0)) (kU BK183.out) NB183_0.out (by simp)); have n2 := Az (KeepBut.blk hk (g' := gb189) (o := .cells #[.string xZ0_1, .slice Ao36 xZ1_1.length co36] 25 (0, 0)) (kU BK189.out) NB189_0.out (by simp)); have n3 := Az (KeepBut.trans (by repeat (first | (with_reducible first | exact HK.out | apply KeepBut.set_ | apply keep_drewN | apply keep_drew | apply keep_alloc | refine keep_far ?_ GW183.out _ | refine keep_far ?_ GW189.out _) | exact HK.out)) hk (.inl rfl)); have n4 := Az (hb); have n5 := Az (hi); clear HO_Z1 BK183 BK189 HK HB HI0; have HO_Z1 := n0; have BK183 := n1; have BK189 := n2; have HK := n3; have HB := n4; have HI0 := n5; clear n0 n1 n2 n3 n4 n5; (try clear hb); (try clear hb2); (try clear hk); (try clear hi); have hcz38_0 : w37.cell? ⟨gb189, 0, none⟩ = some (.string xZ0_1) := (blk_cell BK189.out 0).trans rfl; have hcz38_1 : w37.cell? ⟨gb189, 1, none⟩ = some (.slice Ao36 xZ1_1.length co36) := (blk_cell BK189.out 1).trans rfl; have hfz38_0 := blk_frozen BK189.out 0; have hfz38_1 := blk_frozen BK189.out 1))
         have n0 : Aside0 (Kd.Q (Kd.int .i64) 3 (w37.setCell ⟨gb189, 0, none⟩ (.string (xZ0_1 ++ (⟨#[40]⟩ : ByteArray)))) w.heap.size (fun _ => True) (.slice Ao36 xZ1_1.length co36) xZ1_1) := ⟨by (with_reducible repeat (first | apply Kd.Q_alloc | apply Kd.Q_drewN | apply Kd.Q_drew)); exact Kd.Q_mono (Kd.Q_far (p := ⟨gb189, 0, none⟩) (Kd.Q_types HO_Z1.out BK189.out (by decide)) (fun _ hk => hk.2) (.string (xZ0_1 ++ (⟨#[40]⟩ : ByteArray)))) (fun _ hk => trivial)⟩; have n1 : Aside0 ((w37.setCell ⟨gb189, 0, none⟩ (.string (xZ0_1 ++ (⟨#[40]⟩ : ByteArray)))).heap[gb183]? = some (.cells #[.string (⟨#[]⟩ : ByteArray), .slice none 0 0] 25 (0, 0))) := ⟨by (with_reducible repeat (first | refine blk_drewN ?_ _ | refine blk_drew ?_ | refine blk_alloc ?_ _)); refine blk_far ?_ NB183_189.out _; (with_reducible repeat (first | refine blk_drewN ?_ _ | refine blk_drew ?_ | refine blk_alloc ?_ _)); exact BK183.out⟩; have n2 : Aside0 ((w37.setCell ⟨gb189, 0, none⟩ (.string (xZ0_1 ++ (⟨#[40]⟩ : ByteArray)))).heap[gb189]? = some (.cells #[.string (xZ0_1 ++ (⟨#[40]⟩ : ByteArray)), .slice Ao36 xZ1_1.length co36] 25 (0, 0))) := ⟨by (with_reducible repeat (first | refine blk_drewN ?_ _ | refine blk_drew ?_ | refine blk_alloc ?_ _)); refine blk_put (cs := #[.string xZ0_1, .slice Ao36 xZ1_1.length co36]) ?_ 0 _ rfl; (with_reducible repeat (first | refine blk_drewN ?_ _ | refine blk_drew ?_ | refine blk_alloc ?_ _)); exact BK189.out⟩; have n3 : Aside0 (IsS104 w0 (w37.setCell ⟨gb189, 0, none⟩ (.string (xZ0_1 ++ (⟨#[40]⟩ : ByteArray)))) g s0_0 t191) := ⟨by repeat (first | (with_reducible first | exact HI0.out | apply IsS104.alloc | apply IsS104.drewN | apply IsS104.drew | apply IsS104.set_1 | refine IsS104.far ?_ NB0_183.out _ | refine IsS104.far ?_ NB0_189.out _) | exact HI0.out)⟩; have n4 : Aside0 (KeepBut w (w37.setCell ⟨gb189, 0, none⟩ (.string (xZ0_1 ++ (⟨#[40]⟩ : ByteArray)))) g none) := ⟨by repeat (first | (with_reducible first | exact HK.out | apply KeepBut.set_ | apply keep_drewN | apply keep_drew | apply keep_alloc | refine keep_far ?_ GW183.out _ | refine keep_far ?_ GW189.out _) | exact HK.out)⟩; have n5 : Aside0 (Below w0.heap.size w0 (w37.setCell ⟨gb189, 0, none⟩ (.string (xZ0_1 ++ (⟨#[40]⟩ : ByteArray))))) := ⟨by repeat (first | (with_reducible first | exact HB.out | apply below_alloc | apply pw_below_drewN | apply below_drew1 | refine below_set ?_ (IsS104.ge HI0.out) | refine below_set ?_ GE183.out | refine below_set ?_ GE189.out) | exact HB.out)⟩; (try clear HO_Z1); (try clear BK183); (try clear BK189); (try clear HI0); (try clear HK); (try clear HB)
         generalize (w37.setCell ⟨gb189, 0, none⟩ (.string (xZ0_1 ++ (⟨#[40]⟩ : ByteArray)))) = w39 at n0 n1 n2 n3 n4 n5 ⊢
         have HO_Z1 := n0; have BK183 := n1; have BK189 := n2; have HI0 := n3; have HK := n4; have HB := n5; clear n0 n1 n2 n3 n4 n5; have n0 := Az (Kd.Q_drew HO_Z1.out); have n1 := Az (blk_drew BK183.out); have n2 := Az (blk_drew BK189.out); have n3 := Az (IsS104.drew HI0.out); have n4 := Az (keep_drew HK.out); have n5 := Az (below_drew1 HB.out); clear HO_Z1 BK183 BK189 HI0 HK HB; have HO_Z1 := n0; have BK183 := n1; have BK189 := n2; have HI0 := n3; have HK := n4; have HB := n5; clear n0 n1 n2 n3 n4 n5
         refine start_ (n := 9) (S := fun w' => w'.cell? ⟨gb189, 0, none⟩ = some (.string (xZ0_1 ++ (⟨#[40]⟩ : ByteArray))) ∧ w'.cell? ⟨gb189, 1, none⟩ = some (.slice Ao36 xZ1_1.length co36)) (ds := [8]) #[false, false, false, false, false, false, false, false, false] (by kernel_rfl) rfl rfl ⟨(blk_cell BK189.out 0).trans rfl, (blk_cell BK189.out 1).trans rfl⟩ (fun hHeld => ?_); refine with_tabW spec_l92Tree.tab9 spec_l92Tree.bits9 (fun HT_ HW_ => ?_)
         generalize w39.drew = w40 at HO_Z1 BK183 BK189 HI0 HK HB hHeld ⊢
         refine pure_ (i := 0) (N := some 44) (v := ?_) (a' := ?_) #[true, false, false, false, false, false, false, false, false] rfl rfl (any_of HT_.out (by kernel_rfl)) (fun _ _ _ h => h) (Or.inl ⟨by rfl, ?_⟩) ?_ ?_
         rotate_left
         ·
          intro w'
          go_simp
          with_reducible rfl
         rotate_left
         ·
          simp only [Act.put, List.setIfInBounds_toArray, List.set_cons_zero, List.set_cons_succ, i64_w, i32_w]
          rfl
         refine pure_ (i := 2) (N := some 46) (v := ?_) (a' := ?_) #[true, false, true, false, false, false, false, false, false] rfl rfl (any_of HT_.out (by kernel_rfl)) (fun _ _ _ h => h) (Or.inl ⟨by rfl, ?_⟩) ?_ ?_
         rotate_left
         ·
          intro w'
          go_simp
          with_reducible rfl
         rotate_left
         ·
          simp only [Act.put, List.setIfInBounds_toArray, List.set_cons_zero, List.set_cons_succ, i64_w, i32_w]
          rfl
         refine take_ (i := 1) (N := some 45) (v := ?_) (a' := ?_) #[true, true, true, false, false, false, false, false, false] rfl rfl (take_ofW HT_.out HW_.out (by kernel_rfl)) (fun _ _ _ h => h) (Or.inl ⟨by rfl, ?_⟩) hHeld ?_ ?_
         rotate_left
         ·
          rintro w' ⟨s0, s1⟩
          go_simp
          with_reducible rfl
         rotate_left
         ·
          simp only [Act.put, List.setIfInBounds_toArray, List.set_cons_zero, List.set_cons_succ, i64_w, i32_w]
          rfl
         refine one_ (i := 3) (N := some 47) #[true, true, true, true, false, false, false, false, false] rfl rfl (one_of HT_.out (by kernel_rfl)) (by decide) (fun K hK => ?_)
         refine goes_ Try.func79 (by kernel_rfl) rfl #[.pointer (some ⟨g, 0, none⟩), .int .i64 3] (by rfl) rfl rfl (by (try simp only [List.map_toArray, List.map_cons, List.map_nil]); first | done | rfl | (simp only [List.length_drop, List.length_take]; rfl)) ?_
         with_reducible refine (spec_l6Rd_pick.calls k1 g s0_0 t191 3 t192 t193 w0 _ ?side1 ?side2 A31.out).mono ?_
         (case side1 => repeat (first | (with_reducible first | exact HI0.out | apply IsS104.alloc | apply IsS104.drewN | apply IsS104.drew | apply IsS104.set_1 | refine IsS104.far ?_ NB0_183.out _ | refine IsS104.far ?_ NB0_189.out _) | exact HI0.out))
         (case side2 => repeat (first | (with_reducible first | exact HB.out | apply below_alloc | apply pw_below_drewN | apply below_drew1 | refine below_set ?_ (IsS104.ge HI0.out) | refine below_set ?_ GE183.out | refine below_set ?_ GE189.out) | exact HB.out))
         rintro e w41 ⟨rfl, hi, hb, hk⟩
         refine ⟨_, rfl, ?_⟩
         have n0 := Az (Kd.Q_mono (Kd.Q_keep (IsS104.apartQ (show IsS104 w0 _ g s0_0 t191 from by repeat (first | (with_reducible first | exact HI0.out | apply IsS104.alloc | apply IsS104.drewN | apply IsS104.drew | apply IsS104.set_1 | refine IsS104.far ?_ NB0_183.out _ | refine IsS104.far ?_ NB0_189.out _) | exact HI0.out)) (qU HO_Z1.out) (by decide)) hk (fun _ h => h.2)) (fun _ h => h.1)); have n1 := Az (KeepBut.blk hk (g' := gb183) (o := .cells #[.string (⟨#[]⟩ : ByteArray), .slice none 0 0] 25 (0, 0)) (kU BK183.out) NB183_0.out (by simp)); have n2 := Az (KeepBut.blk hk (g' := gb189) (o := .cells #[.string (xZ0_1 ++ (⟨#[40]⟩ : ByteArray)), .slice Ao36 xZ1_1.length co36] 25 (0, 0)) (kU BK189.out) NB189_0.out (by simp)); have n3 := Az (KeepBut.trans (by repeat (first | (with_reducible first | exact HK.out | apply KeepBut.set_ | apply keep_drewN | apply keep_drew | apply keep_alloc | refine keep_far ?_ GW183.out _ | refine keep_far ?_ GW189.out _) | exact HK.out)) hk (.inl rfl)); have n4 := Az (hb); have n5 := Az (hi); clear HO_Z1 BK183 BK189 HK HB HI0; have HO_Z1 := n0; have BK183 := n1; have BK189 := n2; have HK := n3; have HB := n4; have HI0 := n5; clear n0 n1 n2 n3 n4 n5; (try clear hb); (try clear hb2); (try clear hk); (try clear hi)
         refine hK.out _ _ ⟨(blk_cell BK189.out 0).trans rfl, (blk_cell BK189.out 1).trans rfl⟩ (fun hHeld => ?_)
         clear hK K
         refine norm_ (a' := ?_) ?_ ?_
         rotate_left
         ·
          show Act.put _ (some 47) _ = _
          simp only [Act.put, List.setIfInBounds_toArray, List.set_cons_zero, List.set_cons_succ, i64_w, i32_w]
          rfl
         refine pure_ (i := 4) (N := some 48) (v := ?_) (a' := ?_) #[true, true, true, true, true, false, false, false, false] rfl rfl (any_of HT_.out (by kernel_rfl)) (fun _ _ _ h => h) (Or.inl ⟨by rfl, ?_⟩) ?_ ?_
         rotate_left
         ·
          intro w'
          go_simp
          with_reducible rfl
         rotate_left
         ·
          simp only [Act.put, List.setIfInBounds_toArray, List.set_cons_zero, List.set_cons_succ, i64_w, i32_w]
          rfl
         refine one_ (i := 5) (N := some 49) #[true, true, true, true, true, true, false, false, false] rfl rfl (one_of HT_.out (by kernel_rfl)) (by decide) (fun K hK => ?_)
         refine value_ (w1 := ?_) (v := ?_) (by rfl) rfl ?_ ?_
         rotate_left 2
         ·
          go_simp
          constructor
          ·
           rfl
          ·
           rfl
         refine hK.out _ _ ⟨(blk_cell (blk_alloc BK189.out _) 0).trans rfl, (blk_cell (blk_alloc BK189.out _) 1).trans rfl⟩ (fun hHeld => ?_)
         clear hK K
         refine norm_ (a' := ?_) ?_ ?_
         rotate_left
         ·
          show Act.put _ (some 49) _ = _
          simp only [Act.put, List.setIfInBounds_toArray, List.set_cons_zero, List.set_cons_succ, i64_w, i32_w]
          rfl
         refine one_ (i := 6) (N := some 50) #[true, true, true, true, true, true, true, false, false] rfl rfl (one_of HT_.out (by kernel_rfl)) (by decide) (fun K hK => ?_)
         refine Kd.Q_append_step (Kd.int .i64) w.heap.size (by rfl) (.tmp 45) (.tmp 49) 23 3 (.int .i64 0) 8 rfl Try.underlying23 info3 rfl (by decide) (by omega) (.slice Ao36 xZ1_1.length co36) xZ1_1 (wrap64 (t192 - 1)) [.int .i64 (wrap64 (t192 - 1))] (fun _ => True) (fun _ => False) rfl rfl ?aP (fun _ hk => hk.elim) ?aF ?aO (Below.refl _ _) ?aS ?aL ?_
         (case aP => exact rfl)
         (case aF => exact (fun _ _ => trivial))
         (case aO => exact (qU HO_Z1.out))
         (case aS => exact (keep_size (w := w) (g := g) (row := none) (by repeat (first | (with_reducible first | exact HK.out | apply KeepBut.set_ | apply keep_drewN | apply keep_drew | apply keep_alloc | refine keep_far ?_ GW183.out _ | refine keep_far ?_ GW189.out _) | exact HK.out))))
         (case aL => have := LMc32.out; omega)
         intro v195 w42 ho hb hg hat
         rw [← Ny194.out] at ho; have n0 := Az (blk_grown (g := gb183) (o := .cells #[.string (⟨#[]⟩ : ByteArray), .slice none 0 0] 25 (0, 0)) (kU BK183.out) hg (Kd.Q_ne HO_Z1.out BK183.out (by decide))); have n1 := Az (blk_grown (g := gb189) (o := .cells #[.string (xZ0_1 ++ (⟨#[40]⟩ : ByteArray)), .slice Ao36 xZ1_1.length co36] 25 (0, 0)) (kU BK189.out) hg (Kd.Q_ne HO_Z1.out BK189.out (by decide))); have n2 := Az (IsS104.grown (by repeat (first | (with_reducible first | exact HI0.out | apply IsS104.alloc | apply IsS104.drewN | apply IsS104.drew | apply IsS104.set_1 | refine IsS104.far ?_ NB0_183.out _ | refine IsS104.far ?_ NB0_189.out _) | exact HI0.out)) hg (IsS104.own_neQ HI0.out HO_Z1.out (by decide))); have n3 := Az (below_weaken (by repeat (first | (with_reducible first | exact HB.out | apply below_alloc | apply pw_below_drewN | apply below_drew1 | refine below_set ?_ (IsS104.ge HI0.out) | refine below_set ?_ GE183.out | refine below_set ?_ GE189.out) | exact HB.out)) HL.out hb); have n4 := Az (KeepBut.trans (by repeat (first | (with_reducible first | exact HK.out | apply KeepBut.set_ | apply keep_drewN | apply keep_drew | apply keep_alloc | refine keep_far ?_ GW183.out _ | refine keep_far ?_ GW189.out _) | exact HK.out)) (KeepBut.of_grown hg g) (Kd.Q_base2 HO_Z1.out)); have n5 := Az (ho); clear BK183 BK189 HI0 HB HK HO_Z1; have BK183 := n0; have BK189 := n1; have HI0 := n2; have HB := n3; have HK := n4; have HO196 := n5; clear n0 n1 n2 n3 n4 n5 ho hb hg hat; obtain ⟨Ao43, co43, eo43, _⟩ := Kd.Q_slice HO196.out; (first | subst eo43 | (injection eo43 with f1_ f2_ f3_; have f4_ := f1_.symm; have f5_ := f3_.symm; clear f1_ f2_ f3_; subst f4_; subst f5_))
         refine hK.out _ _ ⟨(blk_cell BK189.out 0).trans rfl, (blk_cell BK189.out 1).trans rfl⟩ (fun hHeld => ?_)
         clear hK K
         refine norm_ (a' := ?_) ?_ ?_
         rotate_left
         ·
          show Act.put _ (some 50) _ = _
          simp only [Act.put, List.setIfInBounds_toArray, List.set_cons_zero, List.set_cons_succ, i64_w, i32_w]
          rfl
         refine pure_ (i := 7) (N := some 51) (v := ?_) (a' := ?_) #[true, true, true, true, true, true, true, true, false] rfl rfl (any_of HT_.out (by kernel_rfl)) (fun _ _ _ h => h) (Or.inl ⟨by rfl, ?_⟩) ?_ ?_
         rotate_left
         ·
          intro w'
          go_simp
          with_reducible rfl
         rotate_left
         ·
          simp only [Act.put, List.setIfInBounds_toArray, List.set_cons_zero, List.set_cons_succ, i64_w, i32_w]
          rfl
         refine last_ (i := 8) (N := none) #[true, true, true, true, true, true, true, true, true] rfl rfl (one_of HT_.out (by kernel_rfl)) (by decide) (fun K hK => ?_)
         have hs44 : w42.cell? ⟨gb189, 1, none⟩ = some (.slice Ao36 xZ1_1.length co36) := (blk_cell BK189.out 1).trans rfl; have hfs44 := blk_frozen BK189.out 1; have hns44_0 := NB183_189.out; have hms44_0 := NB189_183.out
         refine skip_ (w1 := ?_) (by rfl) rfl ?_ ?_
         rotate_left
         ·
          go_simp
          rfl
         refine hK.out _ _ ?_
         clear hK K
         refine done_ (done_of HT_.out (by kernel_rfl)) ?_
         try go_wp2
         (first | go_roundg k1 | (refine Handed.intro k1 ?measure ?_; rotate_left; go_step; (try simp only [add_plain]); (repeat apply Exists.intro); refine ⟨?rel, rfl⟩))
         case measure => have := HK1.out; omega
         case rel => exact ⟨(wrap64 (x7_1 + 1)), (t193), (xZ0_1 ++ (⟨#[40]⟩ : ByteArray)), (y194), (.slice Ao43 y194.length co43), rS, H', ⟨by have := HK1.out; omega⟩, ⟨by (with_reducible repeat (first | apply Kd.Q_alloc | apply Kd.Q_drewN | apply Kd.Q_drew)); exact Kd.Q_mono (Kd.Q_far (p := ⟨gb189, 1, none⟩) (Kd.Q_types HO196.out BK189.out (by decide)) (fun _ hk => hk.2) (.slice Ao43 y194.length co43)) (fun _ hk => trivial)⟩, ⟨by (with_reducible repeat (first | refine blk_drewN ?_ _ | refine blk_drew ?_ | refine blk_alloc ?_ _)); refine blk_far ?_ NB183_189.out _; (with_reducible repeat (first | refine blk_drewN ?_ _ | refine blk_drew ?_ | refine blk_alloc ?_ _)); exact BK183.out⟩, ⟨by (with_reducible repeat (first | refine blk_drewN ?_ _ | refine blk_drew ?_ | refine blk_alloc ?_ _)); refine blk_put (cs := #[.string (xZ0_1 ++ (⟨#[40]⟩ : ByteArray)), .slice Ao36 xZ1_1.length co36]) ?_ 1 _ rfl; (with_reducible repeat (first | refine blk_drewN ?_ _ | refine blk_drew ?_ | refine blk_alloc ?_ _)); exact BK189.out⟩, ⟨by repeat (first | (with_reducible first | exact HI0.out | apply IsS104.alloc | apply IsS104.drewN | apply IsS104.drew | apply IsS104.set_1 | refine IsS104.far ?_ NB0_183.out _ | refine IsS104.far ?_ NB0_189.out _) | exact HI0.out)⟩, ⟨by repeat (first | (with_reducible first | exact HK.out | apply KeepBut.set_ | apply keep_drewN | apply keep_drew | apply keep_alloc | refine keep_far ?_ GW183.out _ | refine keep_far ?_ GW189.out _) | exact HK.out)⟩, ⟨by repeat (first | (with_reducible first | exact HB.out | apply below_alloc | apply pw_below_drewN | apply below_drew1 | refine below_set ?_ (IsS104.ge HI0.out) | refine below_set ?_ GE183.out | refine below_set ?_ GE189.out) | exact HB.out)⟩⟩
        ·
         rw [if_neg c32] at H
         exact absurd H (by simp)
       ·
        rw [if_neg c30] at H
        exact absurd H (by simp)
    ·
     rw [if_neg c14] at H; have c14b0 := decide_eq_false c14; clear c14
     by_cases c45 : xZ0_1.size + 1 ≤ 9223372036854775807
     ·
      rw [if_pos c45] at H; have c45b0 := eq_true c45; have c45b1 := decide_eq_true c45
      try have c45b2 : (9223372036854775807 < xZ0_1.size + 1) = False := eq_false (Nat.not_lt.2 c45)
      replace H := Option.bind_eq_some_iff.mp H; obtain ⟨⟨t197, t198⟩, A460, H⟩ := H; replace H : (if xZ1_1.length < 17592186044416 then (spec_l92Tree.l0 k1 (wrap64 (1 + t184)) (wrap64 (x7_1 + 1)) s0_0 t198 (xZ0_1 ++ (⟨#[40]⟩ : ByteArray)) (xZ1_1 ++ [wrap64 (t197 - 1)])) else (none)) = some (r1, r2, r3) := H; have A46 := Az A460; clear A460
      by_cases c47 : xZ1_1.length < 17592186044416
      ·
       rw [if_pos c47] at H; have LMc47 := Az c47; clear c47; obtain ⟨y199, hy199⟩ : ∃ y_ : List Int, y_ = (xZ1_1 ++ [wrap64 (t197 - 1)]) := ⟨_, rfl⟩; replace H : (spec_l92Tree.l0 k1 (wrap64 (1 + t184)) (wrap64 (x7_1 + 1)) s0_0 t198 (xZ0_1 ++ (⟨#[40]⟩ : ByteArray)) y199) = some (r1, r2, r3) := hR hy199 H; have Ny199 := Az hy199; clear hy199; have H' := Az H; clear H; have hnb48 := NB189_183.out; have hnc48 := NB183_189.out; have hnb49 := NB189_0.out; have hnc49 := NB0_189.out; have hcz50_0 : wr.cell? ⟨gb189, 0, none⟩ = some (.string xZ0_1) := (blk_cell BK189.out 0).trans rfl; have hcz50_1 : wr.cell? ⟨gb189, 1, none⟩ = some (uZ1) := (blk_cell BK189.out 1).trans rfl; have hfz50_0 := blk_frozen BK189.out 0; have hfz50_1 := blk_frozen BK189.out 1
       try go_wp2
       have n0 : Aside0 (Kd.Q (Kd.int .i64) 3 (wr.setCell ⟨gb189, 0, none⟩ (.string (xZ0_1 ++ (⟨#[40]⟩ : ByteArray)))) w.heap.size (fun _ => True) uZ1 xZ1_1) := ⟨by (with_reducible repeat (first | apply Kd.Q_alloc | apply Kd.Q_drewN | apply Kd.Q_drew)); exact Kd.Q_mono (Kd.Q_far (p := ⟨gb189, 0, none⟩) (Kd.Q_types HO_Z1.out BK189.out (by decide)) (fun _ hk => hk.2) (.string (xZ0_1 ++ (⟨#[40]⟩ : ByteArray)))) (fun _ hk => trivial)⟩; have n1 : Aside0 ((wr.setCell ⟨gb189, 0, none⟩ (.string (xZ0_1 ++ (⟨#[40]⟩ : ByteArray)))).heap[gb183]? = some (.cells #[.string (⟨#[]⟩ : ByteArray), .slice none 0 0] 25 (0, 0))) := ⟨by (with_reducible repeat (first | refine blk_drewN ?_ _ | refine blk_drew ?_ | refine blk_alloc ?_ _)); refine blk_far ?_ NB183_189.out _; (with_reducible repeat (first | refine blk_drewN ?_ _ | refine blk_drew ?_ | refine blk_alloc ?_ _)); exact BK183.out⟩; have n2 : Aside0 ((wr.setCell ⟨gb189, 0, none⟩ (.string (xZ0_1 ++ (⟨#[40]⟩ : ByteArray)))).heap[gb189]? = some (.cells #[.string (xZ0_1 ++ (⟨#[40]⟩ : ByteArray)), uZ1] 25 (0, 0))) := ⟨by (with_reducible repeat (first | refine blk_drewN ?_ _ | refine blk_drew ?_ | refine blk_alloc ?_ _)); refine blk_put (cs := #[.string xZ0_1, uZ1]) ?_ 0 _ rfl; (with_reducible repeat (first | refine blk_drewN ?_ _ | refine blk_drew ?_ | refine blk_alloc ?_ _)); exact BK189.out⟩; have n3 : Aside0 (IsS104 w0 (wr.setCell ⟨gb189, 0, none⟩ (.string (xZ0_1 ++ (⟨#[40]⟩ : ByteArray)))) g s0_0 x1001_1) := ⟨by repeat (first | (with_reducible first | exact HI0.out | apply IsS104.alloc | apply IsS104.drewN | apply IsS104.drew | apply IsS104.set_1 | refine IsS104.far ?_ NB0_183.out _ | refine IsS104.far ?_ NB0_189.out _) | exact HI0.out)⟩; have n4 : Aside0 (KeepBut w (wr.setCell ⟨gb189, 0, none⟩ (.string (xZ0_1 ++ (⟨#[40]⟩ : ByteArray)))) g none) := ⟨by repeat (first | (with_reducible first | exact HK.out | apply KeepBut.set_ | apply keep_drewN | apply keep_drew | apply keep_alloc | refine keep_far ?_ GW183.out _ | refine keep_far ?_ GW189.out _) | exact HK.out)⟩; have n5 : Aside0 (Below w0.heap.size w0 (wr.setCell ⟨gb189, 0, none⟩ (.string (xZ0_1 ++ (⟨#[40]⟩ : ByteArray))))) := ⟨by repeat (first | (with_reducible first | exact HB.out | apply below_alloc | apply pw_below_drewN | apply below_drew1 | refine below_set ?_ (IsS104.ge HI0.out) | refine below_set ?_ GE183.out | refine below_set ?_ GE189.out) | exact HB.out)⟩; (try clear HO_Z1); (try clear BK183); (try clear BK189); (try clear HI0); (try clear HK); (try clear HB)
       generalize (wr.setCell ⟨gb189, 0, none⟩ (.string (xZ0_1 ++ (⟨#[40]⟩ : ByteArray)))) = w51 at n0 n1 n2 n3 n4 n5 ⊢
       have HO_Z1 := n0; have BK183 := n1; have BK189 := n2; have HI0 := n3; have HK := n4; have HB := n5; clear n0 n1 n2 n3 n4 n5; have n0 := Az (Kd.Q_drew HO_Z1.out); have n1 := Az (blk_drew BK183.out); have n2 := Az (blk_drew BK189.out); have n3 := Az (IsS104.drew HI0.out); have n4 := Az (keep_drew HK.out); have n5 := Az (below_drew1 HB.out); clear HO_Z1 BK183 BK189 HI0 HK HB; have HO_Z1 := n0; have BK183 := n1; have BK189 := n2; have HI0 := n3; have HK := n4; have HB := n5; clear n0 n1 n2 n3 n4 n5
       refine start_ (n := 9) (S := fun w' => w'.cell? ⟨gb189, 0, none⟩ = some (.string (xZ0_1 ++ (⟨#[40]⟩ : ByteArray))) ∧ w'.cell? ⟨gb189, 1, none⟩ = some (uZ1)) (ds := [8]) #[false, false, false, false, false, false, false, false, false] (by kernel_rfl) rfl rfl ⟨(blk_cell BK189.out 0).trans rfl, (blk_cell BK189.out 1).trans rfl⟩ (fun hHeld => ?_); refine with_tabW spec_l92Tree.tab9 spec_l92Tree.bits9 (fun HT_ HW_ => ?_)
       generalize w51.drew = w52 at HO_Z1 BK183 BK189 HI0 HK HB hHeld ⊢
       refine pure_ (i := 0) (N := some 44) (v := ?_) (a' := ?_) #[true, false, false, false, false, false, false, false, false] rfl rfl (any_of HT_.out (by kernel_rfl)) (fun _ _ _ h => h) (Or.inl ⟨by rfl, ?_⟩) ?_ ?_
       rotate_left
       ·
        intro w'
        go_simp
        with_reducible rfl
       rotate_left
       ·
        simp only [Act.put, List.setIfInBounds_toArray, List.set_cons_zero, List.set_cons_succ, i64_w, i32_w]
        rfl
       refine pure_ (i := 2) (N := some 46) (v := ?_) (a' := ?_) #[true, false, true, false, false, false, false, false, false] rfl rfl (any_of HT_.out (by kernel_rfl)) (fun _ _ _ h => h) (Or.inl ⟨by rfl, ?_⟩) ?_ ?_
       rotate_left
       ·
        intro w'
        go_simp
        with_reducible rfl
       rotate_left
       ·
        simp only [Act.put, List.setIfInBounds_toArray, List.set_cons_zero, List.set_cons_succ, i64_w, i32_w]
        rfl
       refine take_ (i := 1) (N := some 45) (v := ?_) (a' := ?_) #[true, true, true, false, false, false, false, false, false] rfl rfl (take_ofW HT_.out HW_.out (by kernel_rfl)) (fun _ _ _ h => h) (Or.inl ⟨by rfl, ?_⟩) hHeld ?_ ?_
       rotate_left
       ·
        rintro w' ⟨s0, s1⟩
        go_simp
        with_reducible rfl
       rotate_left
       ·
        simp only [Act.put, List.setIfInBounds_toArray, List.set_cons_zero, List.set_cons_succ, i64_w, i32_w]
        rfl
       refine one_ (i := 3) (N := some 47) #[true, true, true, true, false, false, false, false, false] rfl rfl (one_of HT_.out (by kernel_rfl)) (by decide) (fun K hK => ?_)
       refine goes_ Try.func79 (by kernel_rfl) rfl #[.pointer (some ⟨g, 0, none⟩), .int .i64 3] (by rfl) rfl rfl (by (try simp only [List.map_toArray, List.map_cons, List.map_nil]); first | done | rfl | (simp only [List.length_drop, List.length_take]; rfl)) ?_
       with_reducible refine (spec_l6Rd_pick.calls k1 g s0_0 x1001_1 3 t197 t198 w0 _ ?side1 ?side2 A46.out).mono ?_
       (case side1 => repeat (first | (with_reducible first | exact HI0.out | apply IsS104.alloc | apply IsS104.drewN | apply IsS104.drew | apply IsS104.set_1 | refine IsS104.far ?_ NB0_183.out _ | refine IsS104.far ?_ NB0_189.out _) | exact HI0.out))
       (case side2 => repeat (first | (with_reducible first | exact HB.out | apply below_alloc | apply pw_below_drewN | apply below_drew1 | refine below_set ?_ (IsS104.ge HI0.out) | refine below_set ?_ GE183.out | refine below_set ?_ GE189.out) | exact HB.out))
       rintro e w53 ⟨rfl, hi, hb, hk⟩
       refine ⟨_, rfl, ?_⟩
       have n0 := Az (Kd.Q_mono (Kd.Q_keep (IsS104.apartQ (show IsS104 w0 _ g s0_0 x1001_1 from by repeat (first | (with_reducible first | exact HI0.out | apply IsS104.alloc | apply IsS104.drewN | apply IsS104.drew | apply IsS104.set_1 | refine IsS104.far ?_ NB0_183.out _ | refine IsS104.far ?_ NB0_189.out _) | exact HI0.out)) (qU HO_Z1.out) (by decide)) hk (fun _ h => h.2)) (fun _ h => h.1)); have n1 := Az (KeepBut.blk hk (g' := gb183) (o := .cells #[.string (⟨#[]⟩ : ByteArray), .slice none 0 0] 25 (0, 0)) (kU BK183.out) NB183_0.out (by simp)); have n2 := Az (KeepBut.blk hk (g' := gb189) (o := .cells #[.string (xZ0_1 ++ (⟨#[40]⟩ : ByteArray)), uZ1] 25 (0, 0)) (kU BK189.out) NB189_0.out (by simp)); have n3 := Az (KeepBut.trans (by repeat (first | (with_reducible first | exact HK.out | apply KeepBut.set_ | apply keep_drewN | apply keep_drew | apply keep_alloc | refine keep_far ?_ GW183.out _ | refine keep_far ?_ GW189.out _) | exact HK.out)) hk (.inl rfl)); have n4 := Az (hb); have n5 := Az (hi); clear HO_Z1 BK183 BK189 HK HB HI0; have HO_Z1 := n0; have BK183 := n1; have BK189 := n2; have HK := n3; have HB := n4; have HI0 := n5; clear n0 n1 n2 n3 n4 n5; (try clear hb); (try clear hb2); (try clear hk); (try clear hi)
       refine hK.out _ _ ⟨(blk_cell BK189.out 0).trans rfl, (blk_cell BK189.out 1).trans rfl⟩ (fun hHeld => ?_)
       clear hK K
       refine norm_ (a' := ?_) ?_ ?_
       rotate_left
       ·
        show Act.put _ (some 47) _ = _
        simp only [Act.put, List.setIfInBounds_toArray, List.set_cons_zero, List.set_cons_succ, i64_w, i32_w]
        rfl
       refine pure_ (i := 4) (N := some 48) (v := ?_) (a' := ?_) #[true, true, true, true, true, false, false, false, false] rfl rfl (any_of HT_.out (by kernel_rfl)) (fun _ _ _ h => h) (Or.inl ⟨by rfl, ?_⟩) ?_ ?_
       rotate_left
       ·
        intro w'
        go_simp
        with_reducible rfl
       rotate_left
       ·
        simp only [Act.put, List.setIfInBounds_toArray, List.set_cons_zero, List.set_cons_succ, i64_w, i32_w]
        rfl
       refine one_ (i := 5) (N := some 49) #[true, true, true, true, true, true, false, false, false] rfl rfl (one_of HT_.out (by kernel_rfl)) (by decide) (fun K hK => ?_)
       refine value_ (w1 := ?_) (v := ?_) (by rfl) rfl ?_ ?_
       rotate_left 2
       ·
        go_simp
        constructor
        ·
         rfl
        ·
         rfl
       refine hK.out _ _ ⟨(blk_cell (blk_alloc BK189.out _) 0).trans rfl, (blk_cell (blk_alloc BK189.out _) 1).trans rfl⟩ (fun hHeld => ?_)
       clear hK K
       refine norm_ (a' := ?_) ?_ ?_
       rotate_left
       ·
        show Act.put _ (some 49) _ = _
        simp only [Act.put, List.setIfInBounds_toArray, List.set_cons_zero, List.set_cons_succ, i64_w, i32_w]
        rfl
       refine one_ (i := 6) (N := some 50) #[true, true, true, true, true, true, true, false, false] rfl rfl (one_of HT_.out (by kernel_rfl)) (by decide) (fun K hK => ?_)
       refine Kd.Q_append_step (Kd.int .i64) w.heap.size (by rfl) (.tmp 45) (.tmp 49) 23 3 (.int .i64 0) 8 rfl Try.underlying23 info3 rfl (by decide) (by omega) uZ1 xZ1_1 (wrap64 (t197 - 1)) [.int .i64 (wrap64 (t197 - 1))] (fun _ => True) (fun _ => False) rfl rfl ?aP (fun _ hk => hk.elim) ?aF ?aO (Below.refl _ _) ?aS ?aL ?_
       (case aP => exact rfl)
       (case aF => exact (fun _ _ => trivial))
       (case aO => exact (qU HO_Z1.out))
       (case aS => exact (keep_size (w := w) (g := g) (row := none) (by repeat (first | (with_reducible first | exact HK.out | apply KeepBut.set_ | apply keep_drewN | apply keep_drew | apply keep_alloc | refine keep_far ?_ GW183.out _ | refine keep_far ?_ GW189.out _) | exact HK.out))))
       (case aL => have := LMc47.out; omega)
       intro v200 w54 ho hb hg hat
       rw [← Ny199.out] at ho; have n0 := Az (blk_grown (g := gb183) (o := .cells #[.string (⟨#[]⟩ : ByteArray), .slice none 0 0] 25 (0, 0)) (kU BK183.out) hg (Kd.Q_ne HO_Z1.out BK183.out (by decide))); have n1 := Az (blk_grown (g := gb189) (o := .cells #[.string (xZ0_1 ++ (⟨#[40]⟩ : ByteArray)), uZ1] 25 (0, 0)) (kU BK189.out) hg (Kd.Q_ne HO_Z1.out BK189.out (by decide))); have n2 := Az (IsS104.grown (by repeat (first | (with_reducible first | exact HI0.out | apply IsS104.alloc | apply IsS104.drewN | apply IsS104.drew | apply IsS104.set_1 | refine IsS104.far ?_ NB0_183.out _ | refine IsS104.far ?_ NB0_189.out _) | exact HI0.out)) hg (IsS104.own_neQ HI0.out HO_Z1.out (by decide))); have n3 := Az (below_weaken (by repeat (first | (with_reducible first | exact HB.out | apply below_alloc | apply pw_below_drewN | apply below_drew1 | refine below_set ?_ (IsS104.ge HI0.out) | refine below_set ?_ GE183.out | refine below_set ?_ GE189.out) | exact HB.out)) HL.out hb); have n4 := Az (KeepBut.trans (by repeat (first | (with_reducible first | exact HK.out | apply KeepBut.set_ | apply keep_drewN | apply keep_drew | apply keep_alloc | refine keep_far ?_ GW183.out _ | refine keep_far ?_ GW189.out _) | exact HK.out)) (KeepBut.of_grown hg g) (Kd.Q_base2 HO_Z1.out)); have n5 := Az (ho); clear BK183 BK189 HI0 HB HK HO_Z1; have BK183 := n0; have BK189 := n1; have HI0 := n2; have HB := n3; have HK := n4; have HO201 := n5; clear n0 n1 n2 n3 n4 n5 ho hb hg hat; obtain ⟨Ao55, co55, eo55, _⟩ := Kd.Q_slice HO201.out; (first | subst eo55 | (injection eo55 with f1_ f2_ f3_; have f4_ := f1_.symm; have f5_ := f3_.symm; clear f1_ f2_ f3_; subst f4_; subst f5_))
       refine hK.out _ _ ⟨(blk_cell BK189.out 0).trans rfl, (blk_cell BK189.out 1).trans rfl⟩ (fun hHeld => ?_)
       clear hK K
       refine norm_ (a' := ?_) ?_ ?_
       rotate_left
       ·
        show Act.put _ (some 50) _ = _
        simp only [Act.put, List.setIfInBounds_toArray, List.set_cons_zero, List.set_cons_succ, i64_w, i32_w]
        rfl
       refine pure_ (i := 7) (N := some 51) (v := ?_) (a' := ?_) #[true, true, true, true, true, true, true, true, false] rfl rfl (any_of HT_.out (by kernel_rfl)) (fun _ _ _ h => h) (Or.inl ⟨by rfl, ?_⟩) ?_ ?_
       rotate_left
       ·
        intro w'
        go_simp
        with_reducible rfl
       rotate_left
       ·
        simp only [Act.put, List.setIfInBounds_toArray, List.set_cons_zero, List.set_cons_succ, i64_w, i32_w]
        rfl
       refine last_ (i := 8) (N := none) #[true, true, true, true, true, true, true, true, true] rfl rfl (one_of HT_.out (by kernel_rfl)) (by decide) (fun K hK => ?_)
       have hs56 : w54.cell? ⟨gb189, 1, none⟩ = some (uZ1) := (blk_cell BK189.out 1).trans rfl; have hfs56 := blk_frozen BK189.out 1; have hns56_0 := NB183_189.out; have hms56_0 := NB189_183.out
       refine skip_ (w1 := ?_) (by rfl) rfl ?_ ?_
       rotate_left
       ·
        go_simp
        rfl
       refine hK.out _ _ ?_
       clear hK K
       refine done_ (done_of HT_.out (by kernel_rfl)) ?_
       try go_wp2
       (first | go_roundg k1 | (refine Handed.intro k1 ?measure ?_; rotate_left; go_step; (try simp only [add_plain]); (repeat apply Exists.intro); refine ⟨?rel, rfl⟩))
       case measure => have := HK1.out; omega
       case rel => exact ⟨(wrap64 (x7_1 + 1)), (t198), (xZ0_1 ++ (⟨#[40]⟩ : ByteArray)), (y199), (.slice Ao55 y199.length co55), rS, H', ⟨by have := HK1.out; omega⟩, ⟨by (with_reducible repeat (first | apply Kd.Q_alloc | apply Kd.Q_drewN | apply Kd.Q_drew)); exact Kd.Q_mono (Kd.Q_far (p := ⟨gb189, 1, none⟩) (Kd.Q_types HO201.out BK189.out (by decide)) (fun _ hk => hk.2) (.slice Ao55 y199.length co55)) (fun _ hk => trivial)⟩, ⟨by (with_reducible repeat (first | refine blk_drewN ?_ _ | refine blk_drew ?_ | refine blk_alloc ?_ _)); refine blk_far ?_ NB183_189.out _; (with_reducible repeat (first | refine blk_drewN ?_ _ | refine blk_drew ?_ | refine blk_alloc ?_ _)); exact BK183.out⟩, ⟨by (with_reducible repeat (first | refine blk_drewN ?_ _ | refine blk_drew ?_ | refine blk_alloc ?_ _)); refine blk_put (cs := #[.string (xZ0_1 ++ (⟨#[40]⟩ : ByteArray)), uZ1]) ?_ 1 _ rfl; (with_reducible repeat (first | refine blk_drewN ?_ _ | refine blk_drew ?_ | refine blk_alloc ?_ _)); exact BK189.out⟩, ⟨by repeat (first | (with_reducible first | exact HI0.out | apply IsS104.alloc | apply IsS104.drewN | apply IsS104.drew | apply IsS104.set_1 | refine IsS104.far ?_ NB0_183.out _ | refine IsS104.far ?_ NB0_189.out _) | exact HI0.out)⟩, ⟨by repeat (first | (with_reducible first | exact HK.out | apply KeepBut.set_ | apply keep_drewN | apply keep_drew | apply keep_alloc | refine keep_far ?_ GW183.out _ | refine keep_far ?_ GW189.out _) | exact HK.out)⟩, ⟨by repeat (first | (with_reducible first | exact HB.out | apply below_alloc | apply pw_below_drewN | apply below_drew1 | refine below_set ?_ (IsS104.ge HI0.out) | refine below_set ?_ GE183.out | refine below_set ?_ GE189.out) | exact HB.out)⟩⟩
      ·
       rw [if_neg c47] at H
       exact absurd H (by simp)
     ·
      rw [if_neg c45] at H
      exact absurd H (by simp)
   ·
    rw [if_neg c13] at H; have c13b0 := decide_eq_false c13; clear c13; replace H := Option.bind_eq_some_iff.mp H; obtain ⟨⟨t202, t203⟩, A570, H⟩ := H; replace H : (if t202 = 0 then ((spec_l6Rd_of.f k1 s0_0 t203 (([(⟨#[40]⟩ : ByteArray), (⟨#[41]⟩ : ByteArray), (⟨#[120]⟩ : ByteArray), (⟨#[40, 41]⟩ : ByteArray)] : List ByteArray))).bind fun bt207 => (if xZ0_1.size + bt207.1.size ≤ 9223372036854775807 then (some (xZ0_1 ++ bt207.1, xZ1_1, bt207.2)) else (none))) else (if t202 = 1 then ((some (([(-2), 2] : List Int) : List Int)).bind fun y209 => ((spec_l6Rd_pick.f k1 s0_0 t203 2).bind fun bt212 => (if 0 ≤ bt212.1 then (if bt212.1 < (y209.length : Int) then (if 0 < (xZ1_1.length : Int) then (some (xZ0_1, (xZ1_1.set (0 : Int).toNat (rd y209 bt212.1)), bt212.2)) else (none)) else (none)) else (none)))) else (if t202 = 2 then (if 1 ≤ (xZ1_1.length : Int) then (some (xZ0_1, (xZ1_1.drop (1 : Int).toNat), t203)) else (none)) else (some (xZ0_1, xZ1_1, t203))))) = some (r1, r2, r3) := H; have A57 := Az A570; clear A570
    by_cases c58 : t202 = 0
    ·
     rw [if_pos c58] at H; have c58b0 := beq_iff_eq.mpr c58; have c58b1 := bne_eq_false_iff_eq.mpr c58; clear c58; obtain ⟨y204, hy204⟩ : ∃ y_ : List ByteArray, y_ = (([(⟨#[40]⟩ : ByteArray), (⟨#[41]⟩ : ByteArray), (⟨#[120]⟩ : ByteArray), (⟨#[40, 41]⟩ : ByteArray)] : List ByteArray)) := ⟨_, rfl⟩; replace H : ((spec_l6Rd_of.f k1 s0_0 t203 y204).bind fun bt207 => (if xZ0_1.size + bt207.1.size ≤ 9223372036854775807 then (some (xZ0_1 ++ bt207.1, xZ1_1, bt207.2)) else (none))) = some (r1, r2, r3) := hR hy204 H; have Ny204 := Az hy204; clear hy204; replace H := Option.bind_eq_some_iff.mp H; obtain ⟨⟨t207, t208⟩, A590, H⟩ := H; replace H : (if xZ0_1.size + t207.size ≤ 9223372036854775807 then (some (xZ0_1 ++ t207, xZ1_1, t208)) else (none)) = some (r1, r2, r3) := H; have A59 := Az A590; clear A590
     by_cases c60 : xZ0_1.size + t207.size ≤ 9223372036854775807
     ·
      rw [if_pos c60] at H; have c60b0 := eq_true c60; have c60b1 := decide_eq_true c60
      try have c60b2 : (9223372036854775807 < xZ0_1.size + t207.size) = False := eq_false (Nat.not_lt.2 c60)
      simp only [Option.some.injEq, Prod.mk.injEq] at H; obtain ⟨rfl, rfl, rfl⟩ := H; have hnb61 := NB189_183.out; have hnc61 := NB183_189.out; have hnb62 := NB189_0.out; have hnc62 := NB0_189.out; have hcz63_0 : wr.cell? ⟨gb189, 0, none⟩ = some (.string xZ0_1) := (blk_cell BK189.out 0).trans rfl; have hcz63_1 : wr.cell? ⟨gb189, 1, none⟩ = some (uZ1) := (blk_cell BK189.out 1).trans rfl; have hfz63_0 := blk_frozen BK189.out 0; have hfz63_1 := blk_frozen BK189.out 1
      try go_wp2_with (first | ((with_reducible refine gate_callee (f := 79) rfl ?_); refine goesL_ (some 55) rfl rfl Try.func79 (by kernel_rfl) rfl #[.pointer (some ⟨g, 0, none⟩), .int .i64 40] rfl (by (try simp only [List.map_toArray, List.map_cons, List.map_nil]); first | done | rfl | (simp only [List.length_drop, List.length_take]; rfl)) ?_; (with_reducible refine (spec_l6Rd_pick.calls k1 g s0_0 x1001_1 40 t202 t203 w0 _ ?side1 ?side2 A57.out).mono ?_); (case side1 => repeat (first | (with_reducible first | exact HI0.out | apply IsS104.alloc | apply IsS104.drewN | apply IsS104.drew | apply IsS104.set_1 | refine IsS104.far ?_ NB0_183.out _ | refine IsS104.far ?_ NB0_189.out _) | exact HI0.out)); (case side2 => repeat (first | (with_reducible first | exact HB.out | apply below_alloc | apply pw_below_drewN | apply below_drew1 | refine below_set ?_ (IsS104.ge HI0.out) | refine below_set ?_ GE183.out | refine below_set ?_ GE189.out) | exact HB.out)); rintro e w64 ⟨rfl, hi, hb, hk⟩; refine ⟨_, rfl, ?_⟩; have n0 := Az (Kd.Q_mono (Kd.Q_keep (IsS104.apartQ (show IsS104 w0 _ g s0_0 x1001_1 from by repeat (first | (with_reducible first | exact HI0.out | apply IsS104.alloc | apply IsS104.drewN | apply IsS104.drew | apply IsS104.set_1 | refine IsS104.far ?_ NB0_183.out _ | refine IsS104.far ?_ NB0_189.out _) | exact HI0.out)) (qU HO_Z1.out) (by decide)) hk (fun _ h => h.2)) (fun _ h => h.1)); have n1 := Az (KeepBut.blk hk (g' := gb183) (o := .cells #[.string (⟨#[]⟩ : ByteArray), .slice none 0 0] 25 (0, 0)) (kU BK183.out) NB183_0.out (by simp)); have n2 := Az (KeepBut.blk hk (g' := gb189) (o := .cells #[.string xZ0_1, uZ1] 25 (0, 0)) (kU BK189.out) NB189_0.out (by simp)); have n3 := Az (KeepBut.trans (by repeat (first | (with_reducible first | exact HK.out | apply KeepBut.set_ | apply keep_drewN | apply keep_drew | apply keep_alloc | refine keep_far ?_ GW183.out _ | refine keep_far ?_ GW189.out _) | exact HK.out)) hk (.inl rfl)); have n4 := Az (hb); have n5 := Az (hi); clear HO_Z1 BK183 BK189 HK HB HI0; have HO_Z1 := n0; have BK183 := n1; have BK189 := n2; have HK := n3; have HB := n4; have HI0 := n5; clear n0 n1 n2 n3 n4 n5; (try clear hb); (try clear hb2); (try clear hk); (try clear hi)))
      have n0 := Az (Kd.Q_drew HO_Z1.out); have n1 := Az (blk_drew BK183.out); have n2 := Az (blk_drew BK189.out); have n3 := Az (IsS104.drew HI0.out); have n4 := Az (keep_drew HK.out); have n5 := Az (below_drew1 HB.out); clear HO_Z1 BK183 BK189 HI0 HK HB; have HO_Z1 := n0; have BK183 := n1; have BK189 := n2; have HI0 := n3; have HK := n4; have HB := n5; clear n0 n1 n2 n3 n4 n5
      refine start_ (n := 8) (S := fun w' => w'.cell? ⟨gb189, 0, none⟩ = some (.string xZ0_1) ∧ w'.cell? ⟨gb189, 1, none⟩ = some (uZ1)) (ds := [7]) #[false, false, false, false, false, false, false, false] (by kernel_rfl) rfl rfl ⟨(blk_cell BK189.out 0).trans rfl, (blk_cell BK189.out 1).trans rfl⟩ (fun hHeld => ?_); refine with_tabW spec_l92Tree.tab13 spec_l92Tree.bits13 (fun HT_ HW_ => ?_)
      generalize w64.drew = w65 at HO_Z1 BK183 BK189 HI0 HK HB hHeld ⊢
      refine pure_ (i := 0) (N := some 58) (v := ?_) (a' := ?_) #[true, false, false, false, false, false, false, false] rfl rfl (any_of HT_.out (by kernel_rfl)) (fun _ _ _ h => h) (Or.inl ⟨by rfl, ?_⟩) ?_ ?_
      rotate_left
      ·
       intro w'
       go_simp
       with_reducible rfl
      rotate_left
      ·
       simp only [Act.put, List.setIfInBounds_toArray, List.set_cons_zero, List.set_cons_succ, i64_w, i32_w]
       rfl
      refine pure_ (i := 2) (N := some 60) (v := ?_) (a' := ?_) #[true, false, true, false, false, false, false, false] rfl rfl (any_of HT_.out (by kernel_rfl)) (fun _ _ _ h => h) (Or.inl ⟨by rfl, ?_⟩) ?_ ?_
      rotate_left
      ·
       intro w'
       go_simp
       with_reducible rfl
      rotate_left
      ·
       simp only [Act.put, List.setIfInBounds_toArray, List.set_cons_zero, List.set_cons_succ, i64_w, i32_w]
       rfl
      refine take_ (i := 1) (N := some 59) (v := ?_) (a' := ?_) #[true, true, true, false, false, false, false, false] rfl rfl (take_ofW HT_.out HW_.out (by kernel_rfl)) (fun _ _ _ h => h) (Or.inl ⟨by rfl, ?_⟩) hHeld ?_ ?_
      rotate_left
      ·
       rintro w' ⟨s0, s1⟩
       go_simp
       with_reducible rfl
      rotate_left
      ·
       simp only [Act.put, List.setIfInBounds_toArray, List.set_cons_zero, List.set_cons_succ, i64_w, i32_w]
       rfl
      refine one_ (i := 3) (N := some 61) #[true, true, true, true, false, false, false, false] rfl rfl (one_of HT_.out (by kernel_rfl)) (by decide) (fun K hK => ?_)
      refine Kd.R_lit_step Kd.string _ 9 ?hg (N := 61) ?hd (xs := ([(⟨#[40]⟩ : ByteArray), (⟨#[41]⟩ : ByteArray), (⟨#[120]⟩ : ByteArray), (⟨#[40, 41]⟩ : ByteArray)] : List ByteArray)) (inner := [.string (⟨#[40]⟩ : ByteArray), .string (⟨#[41]⟩ : ByteArray), .string (⟨#[120]⟩ : ByteArray), .string (⟨#[40, 41]⟩ : ByteArray)]) (ok := fun _ => True) (okp := fun _ => True) ?hr ?hp (fun _ hk => hk) trivial (Below.refl _ _) (Nat.le_refl _) (by simp) ?_; (case hd => rfl); (case hg => rfl); (case hr => first | (go_simp; done) | (go_simp; rfl)); (case hp => exact (Reps.one (show Kd.M Kd.string _ _ _ (⟨#[40]⟩ : ByteArray) [.string (⟨#[40]⟩ : ByteArray)] from rfl) (Reps.one (show Kd.M Kd.string _ _ _ (⟨#[41]⟩ : ByteArray) [.string (⟨#[41]⟩ : ByteArray)] from rfl) (Reps.one (show Kd.M Kd.string _ _ _ (⟨#[120]⟩ : ByteArray) [.string (⟨#[120]⟩ : ByteArray)] from rfl) (Reps.one (show Kd.M Kd.string _ _ _ (⟨#[40, 41]⟩ : ByteArray) [.string (⟨#[40, 41]⟩ : ByteArray)] from rfl) (Reps.none _ _))))))
      intro v205 w66 ho67 hb hg_ hnew_
      clear hg_ hnew_; (first | rw [← Ny204.out] at ho67 | (simp only [Int.reduceToNat] at ho67; rw [← Ny204.out] at ho67)); have n0 := Az (Kd.Q_below (qU HO_Z1.out) hb); have n1 := Az (Kd.R_lower ho67 (keep_size (w := w) (g := g) (row := none) (by repeat (first | (with_reducible first | exact HK.out | apply KeepBut.set_ | apply keep_drewN | apply keep_drew | apply keep_alloc | refine keep_far ?_ GW183.out _ | refine keep_far ?_ GW189.out _) | exact HK.out)))); have n2 := Az (blk_below (g := gb183) (o := .cells #[.string (⟨#[]⟩ : ByteArray), .slice none 0 0] 25 (0, 0)) (kU BK183.out) hb); have n3 := Az (blk_below (g := gb189) (o := .cells #[.string xZ0_1, uZ1] 25 (0, 0)) (kU BK189.out) hb); have n4 := Az (IsS104.below (by repeat (first | (with_reducible first | exact HI0.out | apply IsS104.alloc | apply IsS104.drewN | apply IsS104.drew | apply IsS104.set_1 | refine IsS104.far ?_ NB0_183.out _ | refine IsS104.far ?_ NB0_189.out _) | exact HI0.out)) hb); have n5 := Az (KeepBut.trans (by repeat (first | (with_reducible first | exact HK.out | apply KeepBut.set_ | apply keep_drewN | apply keep_drew | apply keep_alloc | refine keep_far ?_ GW183.out _ | refine keep_far ?_ GW189.out _) | exact HK.out)) (KeepBut.of_below hb g none) (.inl rfl)); have n6 := Az (below_step (by repeat (first | (with_reducible first | exact HB.out | apply below_alloc | apply pw_below_drewN | apply below_drew1 | refine below_set ?_ (IsS104.ge HI0.out) | refine below_set ?_ GE183.out | refine below_set ?_ GE189.out) | exact HB.out)) hb); clear HO_Z1 BK183 BK189 HI0 HK HB; have HO_Z1 := n0; have HO206 := n1; have BK183 := n2; have BK189 := n3; have HI0 := n4; have HK := n5; have HB := n6; clear n0 n1 n2 n3 n4 n5 n6 hb ho67; obtain ⟨Ao68, co68, eo68⟩ := Kd.R_slice HO206.out; (first | subst eo68 | (injection eo68 with f1_ f2_ f3_; have f4_ := f1_.symm; have f5_ := f3_.symm; clear f1_ f2_ f3_; subst f4_; subst f5_))
      refine hK.out _ _ ⟨(blk_cell BK189.out 0).trans rfl, (blk_cell BK189.out 1).trans rfl⟩ (fun hHeld => ?_)
      clear hK K
      refine norm_ (a' := ?_) ?_ ?_
      rotate_left
      ·
       show Act.put _ (some 61) _ = _
       simp only [Act.put, List.setIfInBounds_toArray, List.set_cons_zero, List.set_cons_succ, i64_w, i32_w]
       rfl
      refine one_ (i := 4) (N := some 62) #[true, true, true, true, true, false, false, false] rfl rfl (one_of HT_.out (by kernel_rfl)) (by decide) (fun K hK => ?_)
      refine goes_ Try.func104 (by kernel_rfl) rfl #[.pointer (some ⟨g, 0, none⟩), .slice Ao68 y204.length co68] (by rfl) rfl rfl (by (try simp only [List.map_toArray, List.map_cons, List.map_nil]); first | done | rfl | (simp only [List.length_drop, List.length_take]; rfl)) ?_
      with_reducible refine (spec_l6Rd_of.calls k1 g s0_0 t203 _ _ y204 t207 t208 w0 _ ?side1 ?side2 ?side3 ?side4 ?side5 A59.out).mono ?_
      (case side1 => repeat (first | (with_reducible first | exact HI0.out | apply IsS104.alloc | apply IsS104.drewN | apply IsS104.drew | apply IsS104.set_1 | refine IsS104.far ?_ NB0_183.out _ | refine IsS104.far ?_ NB0_189.out _) | exact HI0.out))
      (case side2 => repeat (first | (with_reducible first | exact HB.out | apply below_alloc | apply pw_below_drewN | apply below_drew1 | refine below_set ?_ (IsS104.ge HI0.out) | refine below_set ?_ GE183.out | refine below_set ?_ GE189.out) | exact HB.out))
      (case side3 => exact cU ((Kd.R_reads' HO206.out).2.2))
      (case side4 => exact (Kd.R_reads' HO206.out).2.1)
      (case side5 => exact far_slice (IsS104.own_ne HI0.out HO206.out (by decide)))
      rintro e w69 ⟨rfl, hi, hb, hk⟩
      refine ⟨_, rfl, ?_⟩
      have n0 := Az (Kd.Q_mono (Kd.Q_keep (IsS104.apartQ (show IsS104 w0 _ g s0_0 t203 from by repeat (first | (with_reducible first | exact HI0.out | apply IsS104.alloc | apply IsS104.drewN | apply IsS104.drew | apply IsS104.set_1 | refine IsS104.far ?_ NB0_183.out _ | refine IsS104.far ?_ NB0_189.out _) | exact HI0.out)) (qU HO_Z1.out) (by decide)) hk (fun _ h => h.2)) (fun _ h => h.1)); have n1 := Az (KeepBut.blk hk (g' := gb183) (o := .cells #[.string (⟨#[]⟩ : ByteArray), .slice none 0 0] 25 (0, 0)) (kU BK183.out) NB183_0.out (by simp)); have n2 := Az (KeepBut.blk hk (g' := gb189) (o := .cells #[.string xZ0_1, uZ1] 25 (0, 0)) (kU BK189.out) NB189_0.out (by simp)); have n3 := Az (Kd.R_mono (Kd.R_keep (IsS104.apart (show IsS104 w0 _ g s0_0 t203 from by repeat (first | (with_reducible first | exact HI0.out | apply IsS104.alloc | apply IsS104.drewN | apply IsS104.drew | apply IsS104.set_1 | refine IsS104.far ?_ NB0_183.out _ | refine IsS104.far ?_ NB0_189.out _) | exact HI0.out)) (rU HO206.out) (by decide)) hk (fun _ h => h.2)) (fun _ h => h.1)); have n4 := Az (KeepBut.trans (by repeat (first | (with_reducible first | exact HK.out | apply KeepBut.set_ | apply keep_drewN | apply keep_drew | apply keep_alloc | refine keep_far ?_ GW183.out _ | refine keep_far ?_ GW189.out _) | exact HK.out)) hk (.inl rfl)); have n5 := Az (hb); have n6 := Az (hi); clear HO_Z1 BK183 BK189 HO206 HK HB HI0; have HO_Z1 := n0; have BK183 := n1; have BK189 := n2; have HO206 := n3; have HK := n4; have HB := n5; have HI0 := n6; clear n0 n1 n2 n3 n4 n5 n6; (try clear hb); (try clear hb2); (try clear hk); (try clear hi)
      refine hK.out _ _ ⟨(blk_cell BK189.out 0).trans rfl, (blk_cell BK189.out 1).trans rfl⟩ (fun hHeld => ?_)
      clear hK K
      refine norm_ (a' := ?_) ?_ ?_
      rotate_left
      ·
       show Act.put _ (some 62) _ = _
       simp only [Act.put, List.setIfInBounds_toArray, List.set_cons_zero, List.set_cons_succ, i64_w, i32_w]
       rfl
      refine pure_ (i := 5) (N := some 63) (v := ?_) (a' := ?_) #[true, true, true, true, true, true, false, false] rfl rfl (any_of HT_.out (by kernel_rfl)) (fun _ _ _ h => h) (Or.inl ⟨by rfl, ?_⟩) ?_ ?_
      rotate_left
      ·
       intro w'
       go_simp
       with_reducible rfl
      rotate_left
      ·
       simp only [Act.put, List.setIfInBounds_toArray, List.set_cons_zero, List.set_cons_succ, i64_w, i32_w]
       rfl
      refine pure_ (i := 6) (N := some 64) (v := ?_) (a' := ?_) #[true, true, true, true, true, true, true, false] rfl rfl (any_of HT_.out (by kernel_rfl)) (fun _ _ _ h => h) (Or.inl ⟨by rfl, ?_⟩) ?_ ?_
      rotate_left
      ·
       intro w'
       go_simp
       with_reducible rfl
      rotate_left
      ·
       simp only [Act.put, List.setIfInBounds_toArray, List.set_cons_zero, List.set_cons_succ, i64_w, i32_w]
       rfl
      refine last_ (i := 7) (N := none) #[true, true, true, true, true, true, true, true] rfl rfl (one_of HT_.out (by kernel_rfl)) (by decide) (fun K hK => ?_)
      have hs70 : w69.cell? ⟨gb189, 0, none⟩ = some (.string xZ0_1) := (blk_cell BK189.out 0).trans rfl; have hfs70 := blk_frozen BK189.out 0; have hns70_0 := NB183_189.out; have hms70_0 := NB189_183.out
      refine skip_ (w1 := ?_) (by rfl) rfl ?_ ?_
      rotate_left
      ·
       go_simp
       rfl
      refine hK.out _ _ ?_
      clear hK K
      refine done_ (done_of HT_.out (by kernel_rfl)) ?_
      have hcz71_0 : w69.cell? ⟨gb189, 0, none⟩ = some (.string xZ0_1) := (blk_cell BK189.out 0).trans rfl; have hcz71_1 : w69.cell? ⟨gb189, 1, none⟩ = some (uZ1) := (blk_cell BK189.out 1).trans rfl; have hfz71_0 := blk_frozen BK189.out 0; have hfz71_1 := blk_frozen BK189.out 1; have hnb72 := NB183_0.out; have hnc72 := NB0_183.out; have hcz73_0 : w69.cell? ⟨gb183, 0, none⟩ = some (.string (⟨#[]⟩ : ByteArray)) := (blk_cell BK183.out 0).trans rfl; have hcz73_1 : w69.cell? ⟨gb183, 1, none⟩ = some (.slice none 0 0) := (blk_cell BK183.out 1).trans rfl; have hfz73_0 := blk_frozen BK183.out 0; have hfz73_1 := blk_frozen BK183.out 1; obtain ⟨Ao74, co74, eo74, _⟩ := Kd.Q_slice HO_Z1.out; subst eo74
      try go_wp2
      refine bodyPost_ret (results_cell_row rfl _ _ gb183 25 #[.string (xZ0_1 ++ t207), .slice Ao74 xZ1_1.length co74] (0, 0) _ rfl (by (with_reducible repeat (first | refine blk_drewN ?_ _ | refine blk_drew ?_ | refine blk_alloc ?_ _)); refine blk_put (cs := #[.string (xZ0_1 ++ t207), .slice none 0 0]) ?_ 1 _ rfl; (with_reducible repeat (first | refine blk_drewN ?_ _ | refine blk_drew ?_ | refine blk_alloc ?_ _)); refine blk_put (cs := #[.string (⟨#[]⟩ : ByteArray), .slice none 0 0]) ?_ 0 _ rfl; (with_reducible repeat (first | refine blk_drewN ?_ _ | refine blk_drew ?_ | refine blk_alloc ?_ _)); refine blk_far ?_ NB183_189.out _; (with_reducible repeat (first | refine blk_drewN ?_ _ | refine blk_drew ?_ | refine blk_alloc ?_ _)); exact BK183.out) Try.underlying25 rfl (by kernel_rfl)) rfl ?_
      exact ⟨_, rE, by (with_reducible repeat (first | apply Kd.Q_alloc | apply Kd.Q_drewN | apply Kd.Q_drew)); exact Kd.Q_mono (Kd.Q_far (p := ⟨gb183, 1, none⟩) (Kd.Q_far (p := ⟨gb183, 0, none⟩) (Kd.Q_far (p := ⟨gb189, 0, none⟩) (Kd.Q_types (Kd.Q_types HO_Z1.out BK189.out (by decide)) BK183.out (by decide)) (fun _ hk => hk.1.2) (.string (xZ0_1 ++ t207))) (fun _ hk => hk.2) (.string (xZ0_1 ++ t207))) (fun _ hk => hk.2) (.slice Ao74 xZ1_1.length co74)) (fun _ hk => trivial), by repeat (first | (with_reducible first | exact HI0.out | apply IsS104.alloc | apply IsS104.drewN | apply IsS104.drew | apply IsS104.set_1 | refine IsS104.far ?_ NB0_183.out _ | refine IsS104.far ?_ NB0_189.out _) | exact HI0.out), by repeat (first | (with_reducible first | exact HB.out | apply below_alloc | apply pw_below_drewN | apply below_drew1 | refine below_set ?_ (IsS104.ge HI0.out) | refine below_set ?_ GE183.out | refine below_set ?_ GE189.out) | exact HB.out), by repeat (first | (with_reducible first | exact HK.out | apply KeepBut.set_ | apply keep_drewN | apply keep_drew | apply keep_alloc | refine keep_far ?_ GW183.out _ | refine keep_far ?_ GW189.out _) | exact HK.out)⟩
     ·
      rw [if_neg c60] at H
      exact absurd H (by simp)
    ·
     rw [if_neg c58] at H; have c58b0 := beq_eq_false_iff_ne.mpr c58; have c58b1 := bne_iff_ne.mpr c58
     by_cases c75 : t202 = 1
     ·
      rw [if_pos c75] at H; have c75b0 := beq_iff_eq.mpr c75; have c75b1 := bne_eq_false_iff_eq.mpr c75; clear c75; obtain ⟨y209, hy209⟩ : ∃ y_ : List Int, y_ = (([(-2), 2] : List Int)) := ⟨_, rfl⟩; replace H : ((spec_l6Rd_pick.f k1 s0_0 t203 2).bind fun bt212 => (if 0 ≤ bt212.1 then (if bt212.1 < (y209.length : Int) then (if 0 < (xZ1_1.length : Int) then (some (xZ0_1, (xZ1_1.set (0 : Int).toNat (rd y209 bt212.1)), bt212.2)) else (none)) else (none)) else (none))) = some (r1, r2, r3) := hR hy209 H; have Ny209 := Az hy209; clear hy209; replace H := Option.bind_eq_some_iff.mp H; obtain ⟨⟨t212, t213⟩, A760, H⟩ := H; replace H : (if 0 ≤ t212 then (if t212 < (y209.length : Int) then (if 0 < (xZ1_1.length : Int) then (some (xZ0_1, (xZ1_1.set (0 : Int).toNat (rd y209 t212)), t213)) else (none)) else (none)) else (none)) = some (r1, r2, r3) := H; have A76 := Az A760; clear A760
      by_cases c77 : 0 ≤ t212
      ·
       rw [if_pos c77] at H; have c77b0 := decide_eq_true c77; clear c77
       by_cases c78 : t212 < (y209.length : Int)
       ·
        rw [if_pos c78] at H; have c78b0 := decide_eq_true c78; clear c78
        by_cases c79 : 0 < (xZ1_1.length : Int)
        ·
         rw [if_pos c79] at H; have c79b0 := decide_eq_true c79; have c79b1 : decide (0 < xZ1_1.length) = true := decide_eq_true (by omega); clear c79; obtain ⟨y215, hy215⟩ : ∃ y_ : List Int, y_ = (xZ1_1.set (0 : Int).toNat (rd y209 t212)) := ⟨_, rfl⟩; replace H : (some (xZ0_1, y215, t213)) = some (r1, r2, r3) := hR hy215 H; have Ny215 := Az hy215; clear hy215; simp only [Option.some.injEq, Prod.mk.injEq] at H; obtain ⟨rfl, rfl, rfl⟩ := H; have hnb81 := NB189_183.out; have hnc81 := NB183_189.out; have hnb82 := NB189_0.out; have hnc82 := NB0_189.out; have hcz83_0 : wr.cell? ⟨gb189, 0, none⟩ = some (.string xZ0_1) := (blk_cell BK189.out 0).trans rfl; have hcz83_1 : wr.cell? ⟨gb189, 1, none⟩ = some (uZ1) := (blk_cell BK189.out 1).trans rfl; have hfz83_0 := blk_frozen BK189.out 0; have hfz83_1 := blk_frozen BK189.out 1
         try go_wp2_with (first | ((with_reducible refine gate_callee (f := 79) rfl ?_); refine goesL_ (some 55) rfl rfl Try.func79 (by kernel_rfl) rfl #[.pointer (some ⟨g, 0, none⟩), .int .i64 40] rfl (by (try simp only [List.map_toArray, List.map_cons, List.map_nil]); first | done | rfl | (simp only [List.length_drop, List.length_take]; rfl)) ?_; (with_reducible refine (spec_l6Rd_pick.calls k1 g s0_0 x1001_1 40 t202 t203 w0 _ ?side1 ?side2 A57.out).mono ?_); (case side1 => repeat (first | (with_reducible first | exact HI0.out | apply IsS104.alloc | apply IsS104.drewN | apply IsS104.drew | apply IsS104.set_1 | refine IsS104.far ?_ NB0_183.out _ | refine IsS104.far ?_ NB0_189.out _) | exact HI0.out)); (case side2 => repeat (first | (with_reducible first | exact HB.out | apply below_alloc | apply pw_below_drewN | apply below_drew1 | refine below_set ?_ (IsS104.ge HI0.out) | refine below_set ?_ GE183.out | refine below_set ?_ GE189.out) | exact HB.out)); rintro e w84 ⟨rfl, hi, hb, hk⟩; refine ⟨_, rfl, ?_⟩; have n0 := Az (Kd.Q_mono (Kd.Q_keep (IsS104.apartQ (show IsS104 w0 _ g s0_0 x1001_1 from by repeat (first | (with_reducible first | exact HI0.out | apply IsS104.alloc | apply IsS104.drewN | apply IsS104.drew | apply IsS104.set_1 | refine IsS104.far ?_ NB0_183.out _ | refine IsS104.far ?_ NB0_189.out _) | exact HI0.out)) (qU HO_Z1.out) (by decide)) hk (fun _ h => h.2)) (fun _ h => h.1)); have n1 := Az (KeepBut.blk hk (g' := gb183) (o := .cells #[.string (⟨#[]⟩ : ByteArray), .slice none 0 0] 25 (0, 0)) (kU BK183.out) NB183_0.out (by simp)); have n2 := Az (KeepBut.blk hk (g' := gb189) (o := .cells #[.string xZ0_1, uZ1] 25 (0, 0)) (kU BK189.out) NB189_0.out (by simp)); have n3 := Az (KeepBut.trans (by repeat (first | (with_reducible first | exact HK.out | apply KeepBut.set_ | apply keep_drewN | apply keep_drew | apply keep_alloc | refine keep_far ?_ GW183.out _ | refine keep_far ?_ GW189.out _) | exact HK.out)) hk (.inl rfl)); have n4 := Az (hb); have n5 := Az (hi); clear HO_Z1 BK183 BK189 HK HB HI0; have HO_Z1 := n0; have BK183 := n1; have BK189 := n2; have HK := n3; have HB := n4; have HI0 := n5; clear n0 n1 n2 n3 n4 n5; (try clear hb); (try clear hb2); (try clear hk); (try clear hi)))
         have pi214 : (0 ≤ (t212 : Int)) = True := eq_true (oA); have qi214 : (t212 < (y209.length : Int)) = True := eq_true (oA); have n0 := Az (Kd.Q_drew HO_Z1.out); have n1 := Az (blk_drew BK183.out); have n2 := Az (blk_drew BK189.out); have n3 := Az (IsS104.drew HI0.out); have n4 := Az (keep_drew HK.out); have n5 := Az (below_drew1 HB.out); clear HO_Z1 BK183 BK189 HI0 HK HB; have HO_Z1 := n0; have BK183 := n1; have BK189 := n2; have HI0 := n3; have HK := n4; have HB := n5; clear n0 n1 n2 n3 n4 n5
         refine start_ (n := 9) (S := fun w' => w'.cell? ⟨gb189, 0, none⟩ = some (.string xZ0_1) ∧ w'.cell? ⟨gb189, 1, none⟩ = some (uZ1)) (ds := [8]) #[false, false, false, false, false, false, false, false, false] (by kernel_rfl) rfl rfl ⟨(blk_cell BK189.out 0).trans rfl, (blk_cell BK189.out 1).trans rfl⟩ (fun hHeld => ?_); refine with_tabW spec_l92Tree.tab15 spec_l92Tree.bits15 (fun HT_ HW_ => ?_)
         generalize w84.drew = w85 at HO_Z1 BK183 BK189 HI0 HK HB hHeld ⊢
         refine pure_ (i := 0) (N := some 67) (v := ?_) (a' := ?_) #[true, false, false, false, false, false, false, false, false] rfl rfl (any_of HT_.out (by kernel_rfl)) (fun _ _ _ h => h) (Or.inl ⟨by rfl, ?_⟩) ?_ ?_
         rotate_left
         ·
          intro w'
          go_simp
          with_reducible rfl
         rotate_left
         ·
          simp only [Act.put, List.setIfInBounds_toArray, List.set_cons_zero, List.set_cons_succ, i64_w, i32_w]
          rfl
         refine pure_ (i := 3) (N := some 70) (v := ?_) (a' := ?_) #[true, false, false, true, false, false, false, false, false] rfl rfl (any_of HT_.out (by kernel_rfl)) (fun _ _ _ h => h) (Or.inl ⟨by rfl, ?_⟩) ?_ ?_
         rotate_left
         ·
          intro w'
          go_simp
          with_reducible rfl
         rotate_left
         ·
          simp only [Act.put, List.setIfInBounds_toArray, List.set_cons_zero, List.set_cons_succ, i64_w, i32_w]
          rfl
         refine take_ (i := 1) (N := some 68) (v := ?_) (a' := ?_) #[true, true, false, true, false, false, false, false, false] rfl rfl (take_ofW HT_.out HW_.out (by kernel_rfl)) (fun _ _ _ h => h) (Or.inl ⟨by rfl, ?_⟩) hHeld ?_ ?_
         rotate_left
         ·
          rintro w' ⟨s0, s1⟩
          go_simp
          with_reducible rfl
         rotate_left
         ·
          simp only [Act.put, List.setIfInBounds_toArray, List.set_cons_zero, List.set_cons_succ, i64_w, i32_w]
          rfl
         refine join_ (σ := Value × Addr) 4 #[true, true, true, true, true, false, false, false, false] (fun s_ => [(69, s_.1), (71, .int .i64 t212)]) (fun s_ w' => (w'.cell? ⟨gb189, 0, none⟩ = some (.string xZ0_1) ∧ w'.cell? ⟨gb189, 1, none⟩ = some (uZ1)) ∧ (Kd.R (Kd.int .i64) 3 w' w.heap.size (fun k_ => some k_ ≠ (uZ1 : Value).ownBlock) s_.1 y209) ∧ (Kd.Q (Kd.int .i64) 3 w' w.heap.size (fun k_ => some k_ ≠ (s_.1 : Value).ownBlock) uZ1 xZ1_1) ∧ (∃ c_, (s_.1 : Value) = .slice (some s_.2) y209.length c_) ∧ (w'.heap[gb183]? = some (.cells #[.string (⟨#[]⟩ : ByteArray), .slice none 0 0] 25 (0, 0))) ∧ (w'.heap[gb189]? = some (.cells #[.string xZ0_1, uZ1] 25 (0, 0))) ∧ (IsS104 w0 w' g s0_0 t213) ∧ (KeepBut w w' g none) ∧ (Below w0.heap.size w0 w')) ?_ ?_
         rotate_left
         ·
          intro hCont
          refine two_ (i := 2) (j := 4) (Ni := some 69) (Nj := some 71) #[true, true, true, true, false, false, false, false, false] #[true, true, false, true, true, false, false, false, false] rfl rfl rfl rfl (two_of HT_.out (by kernel_rfl)) (by decide) (by decide) (fun K hK => ?_) (fun K hK => ?_)
          ·
           skip
           refine Kd.R_lit_step (Kd.int .i64) _ 3 ?hg (N := 69) ?hd (xs := ([(-2), 2] : List Int)) (inner := [.int .i64 (-2), .int .i64 2]) (ok := fun _ => True) (okp := fun _ => True) ?hr ?hp (fun _ hk => hk) trivial (Below.refl _ _) (Nat.le_refl _) (by simp) ?_; (case hd => rfl); (case hg => rfl); (case hr => first | (go_simp; done) | (go_simp; rfl)); (case hp => exact (Reps.one (show Kd.M (Kd.int .i64) _ _ _ (-2) [.int .i64 (-2)] from rfl) (Reps.one (show Kd.M (Kd.int .i64) _ _ _ 2 [.int .i64 2] from rfl) (Reps.none _ _))))
           intro v210 w86 ho87 hb hg_ hnew_
           clear hg_ hnew_; (first | rw [← Ny209.out] at ho87 | (simp only [Int.reduceToNat] at ho87; rw [← Ny209.out] at ho87)); have n0 := Az (Kd.Q_elder' (qU HO_Z1.out) (Kd.R_base ho87) hb); have n1 := Az (Kd.R_lower (Kd.R_new' ho87 (Kd.Q_lt (qU HO_Z1.out))) (keep_size (w := w) (g := g) (row := none) (by repeat (first | (with_reducible first | exact HK.out | apply KeepBut.set_ | apply keep_drewN | apply keep_drew | apply keep_alloc | refine keep_far ?_ GW183.out _ | refine keep_far ?_ GW189.out _) | exact HK.out)))); have n2 := Az (blk_below (g := gb183) (o := .cells #[.string (⟨#[]⟩ : ByteArray), .slice none 0 0] 25 (0, 0)) (kU BK183.out) hb); have n3 := Az (blk_below (g := gb189) (o := .cells #[.string xZ0_1, uZ1] 25 (0, 0)) (kU BK189.out) hb); have n4 := Az (IsS104.below (by repeat (first | (with_reducible first | exact HI0.out | apply IsS104.alloc | apply IsS104.drewN | apply IsS104.drew | apply IsS104.set_1 | refine IsS104.far ?_ NB0_183.out _ | refine IsS104.far ?_ NB0_189.out _) | exact HI0.out)) hb); have n5 := Az (KeepBut.trans (by repeat (first | (with_reducible first | exact HK.out | apply KeepBut.set_ | apply keep_drewN | apply keep_drew | apply keep_alloc | refine keep_far ?_ GW183.out _ | refine keep_far ?_ GW189.out _) | exact HK.out)) (KeepBut.of_below hb g none) (.inl rfl)); have n6 := Az (below_step (by repeat (first | (with_reducible first | exact HB.out | apply below_alloc | apply pw_below_drewN | apply below_drew1 | refine below_set ?_ (IsS104.ge HI0.out) | refine below_set ?_ GE183.out | refine below_set ?_ GE189.out) | exact HB.out)) hb); clear HO_Z1 BK183 BK189 HI0 HK HB; have HO_Z1 := n0; have HO211 := n1; have BK183 := n2; have BK189 := n3; have HI0 := n4; have HK := n5; have HB := n6; clear n0 n1 n2 n3 n4 n5 n6 hb ho87; obtain ⟨Ao88, co88, eo88⟩ := Kd.R_slice HO211.out; subst eo88; obtain ⟨ado88, fo88, _⟩ := Kd.at_int (Kd.R_reads' HO211.out).2.2 0 (by decide) (by rw [Ny209.out]; simp)
           cases fo88
           refine hK.out _ _ ⟨(blk_cell BK189.out 0).trans rfl, (blk_cell BK189.out 1).trans rfl⟩ (fun hHeld => ?_)
           clear hK K
           refine norm_ (a' := ?_) ?_ ?_
           rotate_left
           ·
            show Act.put _ (some 69) _ = _
            simp only [Act.put, List.setIfInBounds_toArray, List.set_cons_zero, List.set_cons_succ, i64_w, i32_w]
            rfl
           refine one_ (i := 4) (N := some 71) #[true, true, true, true, true, false, false, false, false] rfl rfl (one_of HT_.out (by kernel_rfl)) (by decide) (fun K hK => ?_)
           refine goes_ Try.func79 (by kernel_rfl) rfl #[.pointer (some ⟨g, 0, none⟩), .int .i64 2] (by rfl) rfl rfl (by (try simp only [List.map_toArray, List.map_cons, List.map_nil]); first | done | rfl | (simp only [List.length_drop, List.length_take]; rfl)) ?_
           with_reducible refine (spec_l6Rd_pick.calls k1 g s0_0 t203 2 t212 t213 w0 _ ?side1 ?side2 A76.out).mono ?_
           (case side1 => repeat (first | (with_reducible first | exact HI0.out | apply IsS104.alloc | apply IsS104.drewN | apply IsS104.drew | apply IsS104.set_1 | refine IsS104.far ?_ NB0_183.out _ | refine IsS104.far ?_ NB0_189.out _) | exact HI0.out))
           (case side2 => repeat (first | (with_reducible first | exact HB.out | apply below_alloc | apply pw_below_drewN | apply below_drew1 | refine below_set ?_ (IsS104.ge HI0.out) | refine below_set ?_ GE183.out | refine below_set ?_ GE189.out) | exact HB.out))
           rintro e w89 ⟨rfl, hi, hb, hk⟩
           refine ⟨_, rfl, ?_⟩
           have n0 := Az (Kd.Q_mono (Kd.Q_keep (IsS104.apartQ (show IsS104 w0 _ g s0_0 t203 from by repeat (first | (with_reducible first | exact HI0.out | apply IsS104.alloc | apply IsS104.drewN | apply IsS104.drew | apply IsS104.set_1 | refine IsS104.far ?_ NB0_183.out _ | refine IsS104.far ?_ NB0_189.out _) | exact HI0.out)) (qU HO_Z1.out) (by decide)) hk (fun _ h => h.2)) (fun _ h => h.1)); have n1 := Az (KeepBut.blk hk (g' := gb183) (o := .cells #[.string (⟨#[]⟩ : ByteArray), .slice none 0 0] 25 (0, 0)) (kU BK183.out) NB183_0.out (by simp)); have n2 := Az (KeepBut.blk hk (g' := gb189) (o := .cells #[.string xZ0_1, uZ1] 25 (0, 0)) (kU BK189.out) NB189_0.out (by simp)); have n3 := Az (Kd.R_mono (Kd.R_keep (IsS104.apart (show IsS104 w0 _ g s0_0 t203 from by repeat (first | (with_reducible first | exact HI0.out | apply IsS104.alloc | apply IsS104.drewN | apply IsS104.drew | apply IsS104.set_1 | refine IsS104.far ?_ NB0_183.out _ | refine IsS104.far ?_ NB0_189.out _) | exact HI0.out)) (rU HO211.out) (by decide)) hk (fun _ h => h.2)) (fun _ h => h.1)); have n4 := Az (KeepBut.trans (by repeat (first | (with_reducible first | exact HK.out | apply KeepBut.set_ | apply keep_drewN | apply keep_drew | apply keep_alloc | refine keep_far ?_ GW183.out _ | refine keep_far ?_ GW189.out _) | exact HK.out)) hk (.inl rfl)); have n5 := Az (hb); have n6 := Az (hi); clear HO_Z1 BK183 BK189 HO211 HK HB HI0; have HO_Z1 := n0; have BK183 := n1; have BK189 := n2; have HO211 := n3; have HK := n4; have HB := n5; have HI0 := n6; clear n0 n1 n2 n3 n4 n5 n6; (try clear hb); (try clear hb2); (try clear hk); (try clear hi)
           refine hK.out _ _ ⟨(blk_cell BK189.out 0).trans rfl, (blk_cell BK189.out 1).trans rfl⟩ (fun hHeld => ?_)
           clear hK K
           refine norm_ (a' := ?_) ?_ ?_
           rotate_left
           ·
            show Act.put _ (some 71) _ = _
            simp only [Act.put, List.setIfInBounds_toArray, List.set_cons_zero, List.set_cons_succ, i64_w, i32_w]
            rfl
           exact norm_ (by simp only [putAll, Act.put, List.setIfInBounds_toArray, List.set_cons_zero, List.set_cons_succ]) (hCont (.slice (some ado88) y209.length co88, ado88) _ ⟨hHeld, (by (with_reducible repeat (first | apply Kd.R_alloc | apply Kd.R_drewN | apply Kd.R_drew)); exact Kd.R_mono HO211.out (fun _ hk => hk.2)), (by (with_reducible repeat (first | apply Kd.Q_alloc | apply Kd.Q_drewN | apply Kd.Q_drew)); exact Kd.Q_mono HO_Z1.out (fun _ hk => hk.2)), ⟨_, rfl⟩, (kU BK183.out), (kU BK189.out), (by repeat (first | (with_reducible first | exact HI0.out | apply IsS104.alloc | apply IsS104.drewN | apply IsS104.drew | apply IsS104.set_1 | refine IsS104.far ?_ NB0_183.out _ | refine IsS104.far ?_ NB0_189.out _) | exact HI0.out)), (by repeat (first | (with_reducible first | exact HK.out | apply KeepBut.set_ | apply keep_drewN | apply keep_drew | apply keep_alloc | refine keep_far ?_ GW183.out _ | refine keep_far ?_ GW189.out _) | exact HK.out)), (by repeat (first | (with_reducible first | exact HB.out | apply below_alloc | apply pw_below_drewN | apply below_drew1 | refine below_set ?_ (IsS104.ge HI0.out) | refine below_set ?_ GE183.out | refine below_set ?_ GE189.out) | exact HB.out))⟩)
          ·
           skip
           refine goes_ Try.func79 (by kernel_rfl) rfl #[.pointer (some ⟨g, 0, none⟩), .int .i64 2] (by rfl) rfl rfl (by (try simp only [List.map_toArray, List.map_cons, List.map_nil]); first | done | rfl | (simp only [List.length_drop, List.length_take]; rfl)) ?_
           with_reducible refine (spec_l6Rd_pick.calls k1 g s0_0 t203 2 t212 t213 w0 _ ?side1 ?side2 A76.out).mono ?_
           (case side1 => repeat (first | (with_reducible first | exact HI0.out | apply IsS104.alloc | apply IsS104.drewN | apply IsS104.drew | apply IsS104.set_1 | refine IsS104.far ?_ NB0_183.out _ | refine IsS104.far ?_ NB0_189.out _) | exact HI0.out))
           (case side2 => repeat (first | (with_reducible first | exact HB.out | apply below_alloc | apply pw_below_drewN | apply below_drew1 | refine below_set ?_ (IsS104.ge HI0.out) | refine below_set ?_ GE183.out | refine below_set ?_ GE189.out) | exact HB.out))
           rintro e w86 ⟨rfl, hi, hb, hk⟩
           refine ⟨_, rfl, ?_⟩
           have n0 := Az (Kd.Q_mono (Kd.Q_keep (IsS104.apartQ (show IsS104 w0 _ g s0_0 t203 from by repeat (first | (with_reducible first | exact HI0.out | apply IsS104.alloc | apply IsS104.drewN | apply IsS104.drew | apply IsS104.set_1 | refine IsS104.far ?_ NB0_183.out _ | refine IsS104.far ?_ NB0_189.out _) | exact HI0.out)) (qU HO_Z1.out) (by decide)) hk (fun _ h => h.2)) (fun _ h => h.1)); have n1 := Az (KeepBut.blk hk (g' := gb183) (o := .cells #[.string (⟨#[]⟩ : ByteArray), .slice none 0 0] 25 (0, 0)) (kU BK183.out) NB183_0.out (by simp)); have n2 := Az (KeepBut.blk hk (g' := gb189) (o := .cells #[.string xZ0_1, uZ1] 25 (0, 0)) (kU BK189.out) NB189_0.out (by simp)); have n3 := Az (KeepBut.trans (by repeat (first | (with_reducible first | exact HK.out | apply KeepBut.set_ | apply keep_drewN | apply keep_drew | apply keep_alloc | refine keep_far ?_ GW183.out _ | refine keep_far ?_ GW189.out _) | exact HK.out)) hk (.inl rfl)); have n4 := Az (hb); have n5 := Az (hi); clear HO_Z1 BK183 BK189 HK HB HI0; have HO_Z1 := n0; have BK183 := n1; have BK189 := n2; have HK := n3; have HB := n4; have HI0 := n5; clear n0 n1 n2 n3 n4 n5; (try clear hb); (try clear hb2); (try clear hk); (try clear hi)
           refine hK.out _ _ ⟨(blk_cell BK189.out 0).trans rfl, (blk_cell BK189.out 1).trans rfl⟩ (fun hHeld => ?_)
           clear hK K
           refine norm_ (a' := ?_) ?_ ?_
           rotate_left
           ·
            show Act.put _ (some 71) _ = _
            simp only [Act.put, List.setIfInBounds_toArray, List.set_cons_zero, List.set_cons_succ, i64_w, i32_w]
            rfl
           refine one_ (i := 2) (N := some 69) #[true, true, true, true, true, false, false, false, false] rfl rfl (one_of HT_.out (by kernel_rfl)) (by decide) (fun K hK => ?_)
           refine Kd.R_lit_step (Kd.int .i64) _ 3 ?hg (N := 69) ?hd (xs := ([(-2), 2] : List Int)) (inner := [.int .i64 (-2), .int .i64 2]) (ok := fun _ => True) (okp := fun _ => True) ?hr ?hp (fun _ hk => hk) trivial (Below.refl _ _) (Nat.le_refl _) (by simp) ?_; (case hd => rfl); (case hg => rfl); (case hr => first | (go_simp; done) | (go_simp; rfl)); (case hp => exact (Reps.one (show Kd.M (Kd.int .i64) _ _ _ (-2) [.int .i64 (-2)] from rfl) (Reps.one (show Kd.M (Kd.int .i64) _ _ _ 2 [.int .i64 2] from rfl) (Reps.none _ _))))
           intro v210 w87 ho88 hb hg_ hnew_
           clear hg_ hnew_; (first | rw [← Ny209.out] at ho88 | (simp only [Int.reduceToNat] at ho88; rw [← Ny209.out] at ho88)); have n0 := Az (Kd.Q_elder' (qU HO_Z1.out) (Kd.R_base ho88) hb); have n1 := Az (Kd.R_lower (Kd.R_new' ho88 (Kd.Q_lt (qU HO_Z1.out))) (keep_size (w := w) (g := g) (row := none) (by repeat (first | (with_reducible first | exact HK.out | apply KeepBut.set_ | apply keep_drewN | apply keep_drew | apply keep_alloc | refine keep_far ?_ GW183.out _ | refine keep_far ?_ GW189.out _) | exact HK.out)))); have n2 := Az (blk_below (g := gb183) (o := .cells #[.string (⟨#[]⟩ : ByteArray), .slice none 0 0] 25 (0, 0)) (kU BK183.out) hb); have n3 := Az (blk_below (g := gb189) (o := .cells #[.string xZ0_1, uZ1] 25 (0, 0)) (kU BK189.out) hb); have n4 := Az (IsS104.below (by repeat (first | (with_reducible first | exact HI0.out | apply IsS104.alloc | apply IsS104.drewN | apply IsS104.drew | apply IsS104.set_1 | refine IsS104.far ?_ NB0_183.out _ | refine IsS104.far ?_ NB0_189.out _) | exact HI0.out)) hb); have n5 := Az (KeepBut.trans (by repeat (first | (with_reducible first | exact HK.out | apply KeepBut.set_ | apply keep_drewN | apply keep_drew | apply keep_alloc | refine keep_far ?_ GW183.out _ | refine keep_far ?_ GW189.out _) | exact HK.out)) (KeepBut.of_below hb g none) (.inl rfl)); have n6 := Az (below_step (by repeat (first | (with_reducible first | exact HB.out | apply below_alloc | apply pw_below_drewN | apply below_drew1 | refine below_set ?_ (IsS104.ge HI0.out) | refine below_set ?_ GE183.out | refine below_set ?_ GE189.out) | exact HB.out)) hb); clear HO_Z1 BK183 BK189 HI0 HK HB; have HO_Z1 := n0; have HO211 := n1; have BK183 := n2; have BK189 := n3; have HI0 := n4; have HK := n5; have HB := n6; clear n0 n1 n2 n3 n4 n5 n6 hb ho88; obtain ⟨Ao89, co89, eo89⟩ := Kd.R_slice HO211.out; subst eo89; obtain ⟨ado89, fo89, _⟩ := Kd.at_int (Kd.R_reads' HO211.out).2.2 0 (by decide) (by rw [Ny209.out]; simp)
           cases fo89
           refine hK.out _ _ ⟨(blk_cell BK189.out 0).trans rfl, (blk_cell BK189.out 1).trans rfl⟩ (fun hHeld => ?_)
           clear hK K
           refine norm_ (a' := ?_) ?_ ?_
           rotate_left
           ·
            show Act.put _ (some 69) _ = _
            simp only [Act.put, List.setIfInBounds_toArray, List.set_cons_zero, List.set_cons_succ, i64_w, i32_w]
            rfl
           exact norm_ (by simp only [putAll, Act.put, List.setIfInBounds_toArray, List.set_cons_zero, List.set_cons_succ]) (hCont (.slice (some ado89) y209.length co89, ado89) _ ⟨hHeld, (by (with_reducible repeat (first | apply Kd.R_alloc | apply Kd.R_drewN | apply Kd.R_drew)); exact Kd.R_mono HO211.out (fun _ hk => hk.2)), (by (with_reducible repeat (first | apply Kd.Q_alloc | apply Kd.Q_drewN | apply Kd.Q_drew)); exact Kd.Q_mono HO_Z1.out (fun _ hk => hk.2)), ⟨_, rfl⟩, (kU BK183.out), (kU BK189.out), (by repeat (first | (with_reducible first | exact HI0.out | apply IsS104.alloc | apply IsS104.drewN | apply IsS104.drew | apply IsS104.set_1 | refine IsS104.far ?_ NB0_183.out _ | refine IsS104.far ?_ NB0_189.out _) | exact HI0.out)), (by repeat (first | (with_reducible first | exact HK.out | apply KeepBut.set_ | apply keep_drewN | apply keep_drew | apply keep_alloc | refine keep_far ?_ GW183.out _ | refine keep_far ?_ GW189.out _) | exact HK.out)), (by repeat (first | (with_reducible first | exact HB.out | apply below_alloc | apply pw_below_drewN | apply below_drew1 | refine below_set ?_ (IsS104.ge HI0.out) | refine below_set ?_ GE183.out | refine below_set ?_ GE189.out) | exact HB.out))⟩)
         rintro ⟨v210, adz_v210⟩ w90 ⟨hS_, h0_, h1_, h2_, h3_, h4_, h5_, h6_, h7_⟩
         have n0 : Aside0 (Kd.R (Kd.int .i64) 3 w90 w.heap.size (fun k_ => some k_ ≠ (uZ1 : Value).ownBlock) v210 y209) := ⟨h0_⟩; have n1 : Aside0 (Kd.Q (Kd.int .i64) 3 w90 w.heap.size (fun k_ => some k_ ≠ (v210 : Value).ownBlock) uZ1 xZ1_1) := ⟨h1_⟩; have n2 : Aside0 (∃ c_, (v210 : Value) = .slice (some adz_v210) y209.length c_) := ⟨h2_⟩; have n3 : Aside0 (w90.heap[gb183]? = some (.cells #[.string (⟨#[]⟩ : ByteArray), .slice none 0 0] 25 (0, 0))) := ⟨h3_⟩; have n4 : Aside0 (w90.heap[gb189]? = some (.cells #[.string xZ0_1, uZ1] 25 (0, 0))) := ⟨h4_⟩; have n5 : Aside0 (IsS104 w0 w90 g s0_0 t213) := ⟨h5_⟩; have n6 : Aside0 (KeepBut w w90 g none) := ⟨h6_⟩; have n7 : Aside0 (Below w0.heap.size w0 w90) := ⟨h7_⟩; clear HO_Z1 BK183 BK189 HI0 HK HB h0_ h1_ h2_ h3_ h4_ h5_ h6_ h7_; have HO211 := n0; have HO_Z1 := n1; have HA_HO211 := n2; have BK183 := n3; have BK189 := n4; have HI0 := n5; have HK := n6; have HB := n7; clear n0 n1 n2 n3 n4 n5 n6 n7; have hHeld : w90.cell? ⟨gb189, 0, none⟩ = some (.string xZ0_1) ∧ w90.cell? ⟨gb189, 1, none⟩ = some (uZ1) := hS_; obtain ⟨co91, eo91⟩ := HA_HO211.out; clear HA_HO211; subst eo91; have p80 : 0 ≤ (0 : Int) := (by omega); have q80 : (0 : Int) < ((xZ1_1.length : Int) : Int) := oA; have qi80 : (0 < xZ1_1.length) = True := eq_true (by omega); obtain ⟨go80, oo80, co80, eo80, gb80, gl80, cl80, HG80⟩ := Kd.Q_form HO_Z1.out (by omega); (first | cases eo80 | (injection eo80 with ea_ en_ ec_; (first | subst ea_ | (injection ea_ with ea_; subst ea_)); subst ec_; clear en_)); have GB80 := Az gb80; have GG80 := Az HG80; clear gb80 gl80 HG80; obtain ⟨hx80_0, hf80_0⟩ := Kd.Q_cell 0 HO_Z1.out (0 : Int) p80 q80; (try rw [show ((0 : Int)).toNat = 0 from rfl] at hx80_0); (try simp only [Nat.reduceMul, Nat.zero_mul, Nat.zero_add, Nat.reduceAdd] at hx80_0); (try rw [show ((0 : Int)).toNat = 0 from rfl] at hf80_0); (try simp only [Nat.reduceMul, Nat.zero_mul, Nat.zero_add, Nat.reduceAdd] at hf80_0); replace p80 := eq_true p80; replace q80 := eq_true q80; have HN0_go80 := Az (show g ≠ go80 from by have h_ := IsS104.own_neQ HI0.out HO_Z1.out (by decide); intro e_; exact h_ (by rw [e_]; rfl)); have HP92 := (Kd.Q_putg HO_Z1.out (0 : Int) (by omega) (by have h_ : (0 : Int) < ((xZ1_1.length : Int) : Int) := oA; first | exact h_ | (have e_ := (Kd.Q_reads' HO_Z1.out).1; omega) | simpa using h_) (rd y209 t212)).1; rw [← Ny215.out] at HP92; have HQ92 := Az HP92; clear HP92
         refine norm_ (a' := ?_) ?_ ?_
         rotate_left
         ·
          simp only [putAll, Act.put, List.setIfInBounds_toArray, List.set_cons_zero, List.set_cons_succ]
          rfl
         refine pure_ (i := 5) (N := some 72) (v := ?_) (a' := ?_) #[true, true, true, true, true, true, false, false, false] rfl rfl (any_of HT_.out (by kernel_rfl)) (fun _ _ _ h => h) (Or.inl ⟨by rfl, ?_⟩) ?_ ?_
         rotate_left
         ·
          intro w'
          go_simp
          with_reducible rfl
         rotate_left
         ·
          simp only [Act.put, List.setIfInBounds_toArray, List.set_cons_zero, List.set_cons_succ, i64_w, i32_w]
          rfl
         refine one_ (i := 6) (N := some 73) #[true, true, true, true, true, true, true, false, false] rfl rfl (one_of HT_.out (by kernel_rfl)) (by decide) (fun K hK => ?_)
         (have p214 : 0 ≤ (t212 : Int) := oA; have q214 : t212 < (y209.length : Int) := oA; obtain ⟨ad214, e214, hx214_0⟩ := Kd.at_int (Kd.R_reads' HO211.out).2.2 t212 p214 q214; obtain rfl : adz_v210 = ad214 := (by injection e214))
         refine value_ (w1 := ?_) (v := ?_) (by rfl) rfl ?_ ?_
         rotate_left 2
         ·
          go_simp
          constructor
          ·
           rfl
          ·
           rfl
         clear hx214_0
         refine hK.out _ _ ⟨(blk_cell BK189.out 0).trans rfl, (blk_cell BK189.out 1).trans rfl⟩ (fun hHeld => ?_)
         clear hK K
         refine norm_ (a' := ?_) ?_ ?_
         rotate_left
         ·
          show Act.put _ (some 73) _ = _
          simp only [Act.put, List.setIfInBounds_toArray, List.set_cons_zero, List.set_cons_succ, i64_w, i32_w]
          rfl
         refine pure_ (i := 7) (N := some 74) (v := ?_) (a' := ?_) #[true, true, true, true, true, true, true, true, false] rfl rfl (any_of HT_.out (by kernel_rfl)) (fun _ _ _ h => h) (Or.inl ⟨by rfl, ?_⟩) ?_ ?_
         rotate_left
         ·
          intro w'
          go_simp
          with_reducible rfl
         rotate_left
         ·
          simp only [Act.put, List.setIfInBounds_toArray, List.set_cons_zero, List.set_cons_succ, i64_w, i32_w]
          rfl
         refine last_ (i := 8) (N := none) #[true, true, true, true, true, true, true, true, true] rfl rfl (one_of HT_.out (by kernel_rfl)) (by decide) (fun K hK => ?_)
         (try (obtain ⟨hyS_, hzS_⟩ := Kd.Q_cell 0 HO_Z1.out 0 (by omega) (oA); simp only [Int.toNat_zero, Nat.add_zero] at hyS_ hzS_))
         refine skip_ (w1 := ?_) (by rfl) rfl ?_ ?_
         rotate_left
         ·
          go_simp
          rfl
         refine hK.out _ _ ?_
         clear hK K
         refine done_ (done_of HT_.out (by kernel_rfl)) ?_
         have n0 : Aside0 (Kd.Q (Kd.int .i64) 3 (w90.setCell ⟨go80, oo80 + (0 : Int).toNat, none⟩ (.int .i64 (rd y209 t212))) w.heap.size (fun k_ => some k_ ≠ (.slice (some adz_v210) y209.length co91 : Value).ownBlock) (.slice (some ⟨go80, oo80, none⟩) xZ1_1.length co80) y215) := ⟨qU HQ92.out⟩; have n1 : Aside0 (Kd.R (Kd.int .i64) 3 (w90.setCell ⟨go80, oo80 + (0 : Int).toNat, none⟩ (.int .i64 (rd y209 t212))) w.heap.size (fun k_ => some k_ ≠ (.slice (some ⟨go80, oo80, none⟩) xZ1_1.length co80 : Value).ownBlock) (.slice (some adz_v210) y209.length co91) y209) := ⟨by (with_reducible repeat (first | apply Kd.R_alloc | apply Kd.R_drewN | apply Kd.R_drew)); exact Kd.R_mono (Kd.R_far (p := ⟨go80, oo80 + (0 : Int).toNat, none⟩) (Kd.R_mono HO211.out (fun k_ hk => (⟨hk, fun e_ => hk (by rw [e_]; rfl)⟩ : _ ∧ k_ ≠ go80))) (fun _ hk => hk.2) (.int .i64 (rd y209 t212))) (fun _ hk => hk.1)⟩; have n2 : Aside0 ((w90.setCell ⟨go80, oo80 + (0 : Int).toNat, none⟩ (.int .i64 (rd y209 t212))).heap[gb183]? = some (.cells #[.string (⟨#[]⟩ : ByteArray), .slice none 0 0] 25 (0, 0))) := ⟨by (with_reducible repeat (first | refine blk_drewN ?_ _ | refine blk_drew ?_ | refine blk_alloc ?_ _)); refine blk_far ?_ (by have h_ := Kd.Q_ne HO_Z1.out BK183.out (by decide); intro e_; exact h_ (by rw [e_]; rfl)) _; (with_reducible repeat (first | refine blk_drewN ?_ _ | refine blk_drew ?_ | refine blk_alloc ?_ _)); exact BK183.out⟩; have n3 : Aside0 ((w90.setCell ⟨go80, oo80 + (0 : Int).toNat, none⟩ (.int .i64 (rd y209 t212))).heap[gb189]? = some (.cells #[.string xZ0_1, .slice (some ⟨go80, oo80, none⟩) xZ1_1.length co80] 25 (0, 0))) := ⟨by (with_reducible repeat (first | refine blk_drewN ?_ _ | refine blk_drew ?_ | refine blk_alloc ?_ _)); refine blk_far ?_ (by have h_ := Kd.Q_ne HO_Z1.out BK189.out (by decide); intro e_; exact h_ (by rw [e_]; rfl)) _; (with_reducible repeat (first | refine blk_drewN ?_ _ | refine blk_drew ?_ | refine blk_alloc ?_ _)); exact BK189.out⟩; have n4 : Aside0 (IsS104 w0 (w90.setCell ⟨go80, oo80 + (0 : Int).toNat, none⟩ (.int .i64 (rd y209 t212))) g s0_0 t213) := ⟨by repeat (first | (with_reducible first | exact HI0.out | apply IsS104.alloc | apply IsS104.drewN | apply IsS104.drew | apply IsS104.set_1 | refine IsS104.far ?_ HN0_go80.out _ | refine IsS104.far ?_ NB0_183.out _ | refine IsS104.far ?_ NB0_189.out _) | exact HI0.out)⟩; have n5 : Aside0 (KeepBut w (w90.setCell ⟨go80, oo80 + (0 : Int).toNat, none⟩ (.int .i64 (rd y209 t212))) g none) := ⟨by repeat (first | (with_reducible first | exact HK.out | apply KeepBut.set_ | apply keep_drewN | apply keep_drew | apply keep_alloc | refine keep_far ?_ GB80.out _ | refine keep_far ?_ GW183.out _ | refine keep_far ?_ GW189.out _) | exact HK.out)⟩; have n6 : Aside0 (Below w0.heap.size w0 (w90.setCell ⟨go80, oo80 + (0 : Int).toNat, none⟩ (.int .i64 (rd y209 t212)))) := ⟨by repeat (first | (with_reducible first | exact HB.out | apply below_alloc | apply pw_below_drewN | apply below_drew1 | refine below_set ?_ (Nat.le_trans HL.out GB80.out) | refine below_set ?_ (IsS104.ge HI0.out) | refine below_set ?_ GE183.out | refine below_set ?_ GE189.out) | exact HB.out)⟩; (try clear HO_Z1); (try clear HO211); (try clear BK183); (try clear BK189); (try clear HI0); (try clear HK); (try clear HB); (try simp only [Int.toNat_zero, Nat.add_zero] at n0 n1 n2 n3 n4 n5 n6)
         generalize (w90.setCell ⟨go80, oo80, none⟩ (.int .i64 (rd y209 t212))) = w93 at n0 n1 n2 n3 n4 n5 n6 ⊢
         have HO_Z1 := n0; have HO211 := n1; have BK183 := n2; have BK189 := n3; have HI0 := n4; have HK := n5; have HB := n6; clear n0 n1 n2 n3 n4 n5 n6; have hcz94_0 : w93.cell? ⟨gb189, 0, none⟩ = some (.string xZ0_1) := (blk_cell BK189.out 0).trans rfl; have hcz94_1 : w93.cell? ⟨gb189, 1, none⟩ = some (.slice (some ⟨go80, oo80, none⟩) xZ1_1.length co80) := (blk_cell BK189.out 1).trans rfl; have hfz94_0 := blk_frozen BK189.out 0; have hfz94_1 := blk_frozen BK189.out 1; have hnb95 := NB183_0.out; have hnc95 := NB0_183.out; have hcz96_0 : w93.cell? ⟨gb183, 0, none⟩ = some (.string (⟨#[]⟩ : ByteArray)) := (blk_cell BK183.out 0).trans rfl; have hcz96_1 : w93.cell? ⟨gb183, 1, none⟩ = some (.slice none 0 0) := (blk_cell BK183.out 1).trans rfl; have hfz96_0 := blk_frozen BK183.out 0; have hfz96_1 := blk_frozen BK183.out 1
         try go_wp2
         refine bodyPost_ret (results_cell_row rfl _ _ gb183 25 #[.string xZ0_1, .slice (some ⟨go80, oo80, none⟩) xZ1_1.length co80] (0, 0) _ rfl (by (with_reducible repeat (first | refine blk_drewN ?_ _ | refine blk_drew ?_ | refine blk_alloc ?_ _)); refine blk_put (cs := #[.string xZ0_1, .slice none 0 0]) ?_ 1 _ rfl; (with_reducible repeat (first | refine blk_drewN ?_ _ | refine blk_drew ?_ | refine blk_alloc ?_ _)); refine blk_put (cs := #[.string (⟨#[]⟩ : ByteArray), .slice none 0 0]) ?_ 0 _ rfl; (with_reducible repeat (first | refine blk_drewN ?_ _ | refine blk_drew ?_ | refine blk_alloc ?_ _)); exact BK183.out) Try.underlying25 rfl (by kernel_rfl)) rfl ?_
         exact ⟨_, rE, by (with_reducible repeat (first | apply Kd.Q_alloc | apply Kd.Q_drewN | apply Kd.Q_drew)); exact Kd.Q_mono (Kd.Q_far (p := ⟨gb183, 1, none⟩) (Kd.Q_far (p := ⟨gb183, 0, none⟩) (Kd.Q_types HO_Z1.out BK183.out (by decide)) (fun _ hk => hk.2) (.string xZ0_1)) (fun _ hk => hk.2) (.slice (some ⟨go80, oo80, none⟩) xZ1_1.length co80)) (fun _ hk => trivial), by repeat (first | (with_reducible first | exact HI0.out | apply IsS104.alloc | apply IsS104.drewN | apply IsS104.drew | apply IsS104.set_1 | refine IsS104.far ?_ NB0_183.out _ | refine IsS104.far ?_ NB0_189.out _) | exact HI0.out), by repeat (first | (with_reducible first | exact HB.out | apply below_alloc | apply pw_below_drewN | apply below_drew1 | refine below_set ?_ (IsS104.ge HI0.out) | refine below_set ?_ GE183.out | refine below_set ?_ GE189.out) | exact HB.out), by repeat (first | (with_reducible first | exact HK.out | apply KeepBut.set_ | apply keep_drewN | apply keep_drew | apply keep_alloc | refine keep_far ?_ GW183.out _ | refine keep_far ?_ GW189.out _) | exact HK.out)⟩
        ·
         rw [if_neg c79] at H
         exact absurd H (by simp)
       ·
        rw [if_neg c78] at H
        exact absurd H (by simp)
      ·
       rw [if_neg c77] at H
       exact absurd H (by simp)
     ·
      rw [if_neg c75] at H; have c75b0 := beq_eq_false_iff_ne.mpr c75; have c75b1 := bne_iff_ne.mpr c75
      by_cases c97 : t202 = 2
      ·
       rw [if_pos c97] at H; have c97b0 := beq_iff_eq.mpr c97; have c97b1 := bne_eq_false_iff_eq.mpr c97; clear c97
       by_cases c98 : 1 ≤ (xZ1_1.length : Int)
       ·
        rw [if_pos c98] at H; have c98b0 := eq_true c98; have c98b1 := decide_eq_true c98; clear c98; obtain ⟨y216, hy216⟩ : ∃ y_ : List Int, y_ = (xZ1_1.drop (1 : Int).toNat) := ⟨_, rfl⟩; replace H : (some (xZ0_1, y216, t203)) = some (r1, r2, r3) := hR hy216 H; have Ny216 := Az hy216; clear hy216; simp only [Option.some.injEq, Prod.mk.injEq] at H; obtain ⟨rfl, rfl, rfl⟩ := H; have hnb99 := NB189_183.out; have hnc99 := NB183_189.out; have hnb100 := NB189_0.out; have hnc100 := NB0_189.out; have hcz101_0 : wr.cell? ⟨gb189, 0, none⟩ = some (.string xZ0_1) := (blk_cell BK189.out 0).trans rfl; have hcz101_1 : wr.cell? ⟨gb189, 1, none⟩ = some (uZ1) := (blk_cell BK189.out 1).trans rfl; have hfz101_0 := blk_frozen BK189.out 0; have hfz101_1 := blk_frozen BK189.out 1
        go_wp2_with (first | ((with_reducible refine gate_callee (f := 79) rfl ?_); refine goesL_ (some 55) rfl rfl Try.func79 (by kernel_rfl) rfl #[.pointer (some ⟨g, 0, none⟩), .int .i64 40] rfl (by (try simp only [List.map_toArray, List.map_cons, List.map_nil]); first | done | rfl | (simp only [List.length_drop, List.length_take]; rfl)) ?_; (with_reducible refine (spec_l6Rd_pick.calls k1 g s0_0 x1001_1 40 t202 t203 w0 _ ?side1 ?side2 A57.out).mono ?_); (case side1 => repeat (first | (with_reducible first | exact HI0.out | apply IsS104.alloc | apply IsS104.drewN | apply IsS104.drew | apply IsS104.set_1 | refine IsS104.far ?_ NB0_183.out _ | refine IsS104.far ?_ NB0_189.out _) | exact HI0.out)); (case side2 => repeat (first | (with_reducible first | exact HB.out | apply below_alloc | apply pw_below_drewN | apply below_drew1 | refine below_set ?_ (IsS104.ge HI0.out) | refine below_set ?_ GE183.out | refine below_set ?_ GE189.out) | exact HB.out)); rintro e w102 ⟨rfl, hi, hb, hk⟩; refine ⟨_, rfl, ?_⟩; have n0 := Az (Kd.Q_mono (Kd.Q_keep (IsS104.apartQ (show IsS104 w0 _ g s0_0 x1001_1 from by repeat (first | (with_reducible first | exact HI0.out | apply IsS104.alloc | apply IsS104.drewN | apply IsS104.drew | apply IsS104.set_1 | refine IsS104.far ?_ NB0_183.out _ | refine IsS104.far ?_ NB0_189.out _) | exact HI0.out)) (qU HO_Z1.out) (by decide)) hk (fun _ h => h.2)) (fun _ h => h.1)); have n1 := Az (KeepBut.blk hk (g' := gb183) (o := .cells #[.string (⟨#[]⟩ : ByteArray), .slice none 0 0] 25 (0, 0)) (kU BK183.out) NB183_0.out (by simp)); have n2 := Az (KeepBut.blk hk (g' := gb189) (o := .cells #[.string xZ0_1, uZ1] 25 (0, 0)) (kU BK189.out) NB189_0.out (by simp)); have n3 := Az (KeepBut.trans (by repeat (first | (with_reducible first | exact HK.out | apply KeepBut.set_ | apply keep_drewN | apply keep_drew | apply keep_alloc | refine keep_far ?_ GW183.out _ | refine keep_far ?_ GW189.out _) | exact HK.out)) hk (.inl rfl)); have n4 := Az (hb); have n5 := Az (hi); clear HO_Z1 BK183 BK189 HK HB HI0; have HO_Z1 := n0; have BK183 := n1; have BK189 := n2; have HK := n3; have HB := n4; have HI0 := n5; clear n0 n1 n2 n3 n4 n5; (try clear hb); (try clear hb2); (try clear hk); (try clear hi); have hcz103_0 : w102.cell? ⟨gb189, 0, none⟩ = some (.string xZ0_1) := (blk_cell BK189.out 0).trans rfl; have hcz103_1 : w102.cell? ⟨gb189, 1, none⟩ = some (uZ1) := (blk_cell BK189.out 1).trans rfl; have hfz103_0 := blk_frozen BK189.out 0; have hfz103_1 := blk_frozen BK189.out 1; obtain ⟨Ao104, co104, eo104, _⟩ := Kd.Q_slice HO_Z1.out; subst eo104; have q105 : (1 : Int) ≤ ((xZ1_1.length : Int) : Int) := oA; obtain ⟨i0105, hi0105, _, hsz105, _⟩ := info_parts info3; have hcut105 := cut_from (P := Try.prog) 23 3 .i64 Try.underlying23 hi0105 1 hsz105 Ao104 xZ1_1.length co104 1 (by omega) q105; have hr105 := Kd.Q_drop (k := (1 : Int).toNat) HO_Z1.out (by omega); obtain ⟨A105, hA105⟩ : ∃ A1, A1 = (if co104 = (1 : Int).toNat then Ao104 else (Ao104 : Option Addr).map (·.add ((1 : Int).toNat * 1))) := ⟨_, rfl⟩; obtain ⟨c105, hc105⟩ : ∃ c1, c1 = co104 - (1 : Int).toNat := ⟨_, rfl⟩; have hy105 : y216.length = xZ1_1.length - (1 : Int).toNat := (by rw [Ny216.out, List.length_drop]); rw [← Ny216.out] at hr105; rw [← hy105, ← hA105, ← hc105] at hcut105; replace hr105 : Kd.Q (Kd.int .i64) 3 w102 w.heap.size (fun _ => True) (.slice A105 y216.length c105) y216 := (by rw [hA105, hc105, hy105]; exact hr105); have HE105 : Aside0 ((Value.slice A105 y216.length c105).ownBlock = (.slice Ao104 xZ1_1.length co104 : Value).ownBlock) := ⟨by rw [hA105]; split <;> (cases (Ao104 : Option Addr) <;> rfl)⟩; clear hy105 hi0105 hsz105 HO_Z1 hA105 hc105; have HO218 := Az hr105; clear hr105; replace q105 := eq_true q105; have hnb106 := NB183_0.out; have hnc106 := NB0_183.out; have hcz107_0 : w102.cell? ⟨gb183, 0, none⟩ = some (.string (⟨#[]⟩ : ByteArray)) := (blk_cell BK183.out 0).trans rfl; have hcz107_1 : w102.cell? ⟨gb183, 1, none⟩ = some (.slice none 0 0) := (blk_cell BK183.out 1).trans rfl; have hfz107_0 := blk_frozen BK183.out 0; have hfz107_1 := blk_frozen BK183.out 1))
        refine bodyPost_ret (results_cell_row rfl _ _ gb183 25 #[.string xZ0_1, .slice A105 y216.length c105] (0, 0) _ rfl (by (with_reducible repeat (first | refine blk_drewN ?_ _ | refine blk_drew ?_ | refine blk_alloc ?_ _)); refine blk_put (cs := #[.string xZ0_1, .slice none 0 0]) ?_ 1 _ rfl; (with_reducible repeat (first | refine blk_drewN ?_ _ | refine blk_drew ?_ | refine blk_alloc ?_ _)); refine blk_put (cs := #[.string (⟨#[]⟩ : ByteArray), .slice none 0 0]) ?_ 0 _ rfl; (with_reducible repeat (first | refine blk_drewN ?_ _ | refine blk_drew ?_ | refine blk_alloc ?_ _)); refine blk_far ?_ NB183_189.out _; (with_reducible repeat (first | refine blk_drewN ?_ _ | refine blk_drew ?_ | refine blk_alloc ?_ _)); exact BK183.out) Try.underlying25 rfl (by kernel_rfl)) rfl ?_
        exact ⟨_, rE, by (with_reducible repeat (first | apply Kd.Q_alloc | apply Kd.Q_drewN | apply Kd.Q_drew)); exact Kd.Q_mono (Kd.Q_far (p := ⟨gb183, 1, none⟩) (Kd.Q_far (p := ⟨gb183, 0, none⟩) (Kd.Q_far (p := ⟨gb189, 1, none⟩) (Kd.Q_types (Kd.Q_types HO218.out BK189.out (by decide)) BK183.out (by decide)) (fun _ hk => hk.1.2) (.slice A105 y216.length c105)) (fun _ hk => hk.2) (.string xZ0_1)) (fun _ hk => hk.2) (.slice A105 y216.length c105)) (fun _ hk => trivial), by repeat (first | (with_reducible first | exact HI0.out | apply IsS104.alloc | apply IsS104.drewN | apply IsS104.drew | apply IsS104.set_1 | refine IsS104.far ?_ NB0_183.out _ | refine IsS104.far ?_ NB0_189.out _) | exact HI0.out), by repeat (first | (with_reducible first | exact HB.out | apply below_alloc | apply pw_below_drewN | apply below_drew1 | refine below_set ?_ (IsS104.ge HI0.out) | refine below_set ?_ GE183.out | refine below_set ?_ GE189.out) | exact HB.out), by repeat (first | (with_reducible first | exact HK.out | apply KeepBut.set_ | apply keep_drewN | apply keep_drew | apply keep_alloc | refine keep_far ?_ GW183.out _ | refine keep_far ?_ GW189.out _) | exact HK.out)⟩
       ·
        rw [if_neg c98] at H
        exact absurd H (by simp)
      ·
       rw [if_neg c97] at H; have c97b0 := beq_eq_false_iff_ne.mpr c97; have c97b1 := bne_iff_ne.mpr c97; simp only [Option.some.injEq, Prod.mk.injEq] at H; obtain ⟨rfl, rfl, rfl⟩ := H; have hnb108 := NB189_183.out; have hnc108 := NB183_189.out; have hnb109 := NB189_0.out; have hnc109 := NB0_189.out; have hcz110_0 : wr.cell? ⟨gb189, 0, none⟩ = some (.string xZ0_1) := (blk_cell BK189.out 0).trans rfl; have hcz110_1 : wr.cell? ⟨gb189, 1, none⟩ = some (uZ1) := (blk_cell BK189.out 1).trans rfl; have hfz110_0 := blk_frozen BK189.out 0; have hfz110_1 := blk_frozen BK189.out 1
       go_wp2_with (first | ((with_reducible refine gate_callee (f := 79) rfl ?_); refine goesL_ (some 55) rfl rfl Try.func79 (by kernel_rfl) rfl #[.pointer (some ⟨g, 0, none⟩), .int .i64 40] rfl (by (try simp only [List.map_toArray, List.map_cons, List.map_nil]); first | done | rfl | (simp only [List.length_drop, List.length_take]; rfl)) ?_; (with_reducible refine (spec_l6Rd_pick.calls k1 g s0_0 x1001_1 40 t202 t203 w0 _ ?side1 ?side2 A57.out).mono ?_); (case side1 => repeat (first | (with_reducible first | exact HI0.out | apply IsS104.alloc | apply IsS104.drewN | apply IsS104.drew | apply IsS104.set_1 | refine IsS104.far ?_ NB0_183.out _ | refine IsS104.far ?_ NB0_189.out _) | exact HI0.out)); (case side2 => repeat (first | (with_reducible first | exact HB.out | apply below_alloc | apply pw_below_drewN | apply below_drew1 | refine below_set ?_ (IsS104.ge HI0.out) | refine below_set ?_ GE183.out | refine below_set ?_ GE189.out) | exact HB.out)); rintro e w111 ⟨rfl, hi, hb, hk⟩; refine ⟨_, rfl, ?_⟩; have n0 := Az (Kd.Q_mono (Kd.Q_keep (IsS104.apartQ (show IsS104 w0 _ g s0_0 x1001_1 from by repeat (first | (with_reducible first | exact HI0.out | apply IsS104.alloc | apply IsS104.drewN | apply IsS104.drew | apply IsS104.set_1 | refine IsS104.far ?_ NB0_183.out _ | refine IsS104.far ?_ NB0_189.out _) | exact HI0.out)) (qU HO_Z1.out) (by decide)) hk (fun _ h => h.2)) (fun _ h => h.1)); have n1 := Az (KeepBut.blk hk (g' := gb183) (o := .cells #[.string (⟨#[]⟩ : ByteArray), .slice none 0 0] 25 (0, 0)) (kU BK183.out) NB183_0.out (by simp)); have n2 := Az (KeepBut.blk hk (g' := gb189) (o := .cells #[.string xZ0_1, uZ1] 25 (0, 0)) (kU BK189.out) NB189_0.out (by simp)); have n3 := Az (KeepBut.trans (by repeat (first | (with_reducible first | exact HK.out | apply KeepBut.set_ | apply keep_drewN | apply keep_drew | apply keep_alloc | refine keep_far ?_ GW183.out _ | refine keep_far ?_ GW189.out _) | exact HK.out)) hk (.inl rfl)); have n4 := Az (hb); have n5 := Az (hi); clear HO_Z1 BK183 BK189 HK HB HI0; have HO_Z1 := n0; have BK183 := n1; have BK189 := n2; have HK := n3; have HB := n4; have HI0 := n5; clear n0 n1 n2 n3 n4 n5; (try clear hb); (try clear hb2); (try clear hk); (try clear hi); have hcz112_0 : w111.cell? ⟨gb189, 0, none⟩ = some (.string xZ0_1) := (blk_cell BK189.out 0).trans rfl; have hcz112_1 : w111.cell? ⟨gb189, 1, none⟩ = some (uZ1) := (blk_cell BK189.out 1).trans rfl; have hfz112_0 := blk_frozen BK189.out 0; have hfz112_1 := blk_frozen BK189.out 1; have hnb113 := NB183_0.out; have hnc113 := NB0_183.out; have hcz114_0 : w111.cell? ⟨gb183, 0, none⟩ = some (.string (⟨#[]⟩ : ByteArray)) := (blk_cell BK183.out 0).trans rfl; have hcz114_1 : w111.cell? ⟨gb183, 1, none⟩ = some (.slice none 0 0) := (blk_cell BK183.out 1).trans rfl; have hfz114_0 := blk_frozen BK183.out 0; have hfz114_1 := blk_frozen BK183.out 1; obtain ⟨Ao115, co115, eo115, _⟩ := Kd.Q_slice HO_Z1.out; subst eo115))
       refine bodyPost_ret (results_cell_row rfl _ _ gb183 25 #[.string xZ0_1, .slice Ao115 xZ1_1.length co115] (0, 0) _ rfl (by (with_reducible repeat (first | refine blk_drewN ?_ _ | refine blk_drew ?_ | refine blk_alloc ?_ _)); refine blk_put (cs := #[.string xZ0_1, .slice none 0 0]) ?_ 1 _ rfl; (with_reducible repeat (first | refine blk_drewN ?_ _ | refine blk_drew ?_ | refine blk_alloc ?_ _)); refine blk_put (cs := #[.string (⟨#[]⟩ : ByteArray), .slice none 0 0]) ?_ 0 _ rfl; (with_reducible repeat (first | refine blk_drewN ?_ _ | refine blk_drew ?_ | refine blk_alloc ?_ _)); exact BK183.out) Try.underlying25 rfl (by kernel_rfl)) rfl ?_
       exact ⟨_, rE, by (with_reducible repeat (first | apply Kd.Q_alloc | apply Kd.Q_drewN | apply Kd.Q_drew)); exact Kd.Q_mono (Kd.Q_far (p := ⟨gb183, 1, none⟩) (Kd.Q_far (p := ⟨gb183, 0, none⟩) (Kd.Q_types HO_Z1.out BK183.out (by decide)) (fun _ hk => hk.2) (.string xZ0_1)) (fun _ hk => hk.2) (.slice Ao115 xZ1_1.length co115)) (fun _ hk => trivial), by repeat (first | (with_reducible first | exact HI0.out | apply IsS104.alloc | apply IsS104.drewN | apply IsS104.drew | apply IsS104.set_1 | refine IsS104.far ?_ NB0_183.out _ | refine IsS104.far ?_ NB0_189.out _) | exact HI0.out), by repeat (first | (with_reducible first | exact HB.out | apply below_alloc | apply pw_below_drewN | apply below_drew1 | refine below_set ?_ (IsS104.ge HI0.out) | refine below_set ?_ GE183.out | refine below_set ?_ GE189.out) | exact HB.out), by repeat (first | (with_reducible first | exact HK.out | apply KeepBut.set_ | apply keep_drewN | apply keep_drew | apply keep_alloc | refine keep_far ?_ GW183.out _ | refine keep_far ?_ GW189.out _) | exact HK.out)⟩
def spec_l6Open.f (l0 : List Int) : Option (List Int × Int) := if (l0.length : Int) > 2000 then (if 2000 ≤ (l0.length : Int) then (some (l0.take 2000, 0)) else (none)) else (some (l0, 0))
set_option maxHeartbeats 8000000 in
set_option maxRecDepth 100000 in
theorem spec_l6Open.calls (A0 : Option Addr) (c0 : Nat) (l0 : List Int) (r1 : List Int) (r2 : Int) (w0 w : World) (hB : Below w0.heap.size w0 w) (hr0 : Kd.C (Kd.int .u8) w0 A0 l0.length l0) (hc0 : l0.length ≤ c0) (h : spec_l6Open.f l0 = some (r1, r2)) :
  Calls Try.prog 62 #[.slice A0 l0.length c0] w fun e w' => ∃ g_ : Nat, e = .returned (.pointer (some ⟨g_, 0, none⟩)) ∧ IsS104 w0 w' g_ r1 r2 ∧ Below w0.heap.size w0 w' ∧ Below w.heap.size w w' := by
 have hu104 := Try.underlying104; have HR0 := Az hr0; have HC0 := Az hc0; clear hr0 hc0; have HBW := Az (Below.refl w.heap.size w); have HW0 := Az hB.size; have HB := Az hB; clear hB; have H : (if (l0.length : Int) > 2000 then (if 2000 ≤ (l0.length : Int) then (some (l0.take 2000, 0)) else (none)) else (some (l0, 0))) = some (r1, r2) := h; clear h
 by_cases c2 : (l0.length : Int) > 2000
 ·
  rw [if_pos c2] at H; have c2b0 := decide_eq_true c2; have c2b1 : decide (2000 < l0.length) = true := decide_eq_true (by omega); clear c2
  by_cases c3 : 2000 ≤ (l0.length : Int)
  ·
   rw [if_pos c3] at H; have c3b0 := eq_true c3; have c3b1 := decide_eq_true c3; clear c3; simp only [Option.some.injEq, Prod.mk.injEq] at H; obtain ⟨rfl, rfl⟩ := H; obtain ⟨i04, hi04, _, hsz4, _⟩ := info_parts info5; obtain ⟨hcut4, hA4, hC4⟩ := print_take_of (P := Try.prog) (Value.int .u8) 0 22 5 .i64 Try.underlying22 hi04 hsz4 A0 c0 l0 2000 (by omega) (oA) HC0.out; have HR219 := Az (Kd.C_of_reads (h1 := fun _ => rfl) (hA4 _ (Kd.reads_of_C HR0.out))); have HC219 := Az hC4; clear hA4 hC4 hi04 hsz4
   go_enter Try.func62, Try.ntmps62
   go_wp2_with (first | ((with_reducible refine gate_dst (N := 10) rfl ?_); refine box_event ?hg (N := 10) ?hd (cs := #[.slice A0 (l0.take 2000).length c0, .int .i64 0]) (t := 104) ?hr ?_; (case hd => rfl); (case hg => rfl); (case hr => first | (go_simp; done) | (go_simp; rfl)); intro gb220 hg w5 hbox hb; have n0 := Az (below_step HBW.out hb); have n1 := Az (below_step (bU0 HB.out) hb); have n2 := Az (hbox); have n3 := Az ((by rw [hg]; exact (below_size (by repeat (first | (with_reducible first | exact HBW.out | apply below_alloc | apply pw_below_drewN | apply below_drew1) | exact HBW.out))) : w.heap.size ≤ gb220)); have n4 := Az ((Nat.le_trans HW0.out (by rw [hg]; exact (below_size (by repeat (first | (with_reducible first | exact HBW.out | apply below_alloc | apply pw_below_drewN | apply below_drew1) | exact HBW.out))) : w.heap.size ≤ gb220) : w0.heap.size ≤ gb220)); clear HBW HB; have HBW := n0; have HB := n1; have BK220 := n2; have GW220 := n3; have GE220 := n4; clear n0 n1 n2 n3 n4; clear hb hbox hg))
   go_ret
   exact ⟨_, rfl, (show IsS104 w0 _ gb220 (l0.take 2000) 0 from ⟨_, _, kU BK220.out, GE220.out, HR219.out⟩), bU1 HB.out GE220.out, by repeat (first | (with_reducible first | exact HBW.out | apply below_alloc | apply pw_below_drewN | apply below_drew1 | refine below_set ?_ GW220.out) | exact HBW.out)⟩
  ·
   rw [if_neg c3] at H
   exact absurd H (by simp)
 ·
  rw [if_neg c2] at H; have c2b0 := decide_eq_false c2; have c2b1 : decide (2000 < l0.length) = false := decide_eq_false (by omega); clear c2; simp only [Option.some.injEq, Prod.mk.injEq] at H; obtain ⟨rfl, rfl⟩ := H
  go_enter Try.func62, Try.ntmps62
  go_wp2_with (first | ((with_reducible refine gate_dst (N := 10) rfl ?_); refine box_event ?hg (N := 10) ?hd (cs := #[.slice A0 l0.length c0, .int .i64 0]) (t := 104) ?hr ?_; (case hd => rfl); (case hg => rfl); (case hr => first | (go_simp; done) | (go_simp; rfl)); intro gb221 hg w6 hbox hb; have n0 := Az (below_step HBW.out hb); have n1 := Az (below_step (bU0 HB.out) hb); have n2 := Az (hbox); have n3 := Az ((by rw [hg]; exact (below_size (by repeat (first | (with_reducible first | exact HBW.out | apply below_alloc | apply pw_below_drewN | apply below_drew1) | exact HBW.out))) : w.heap.size ≤ gb221)); have n4 := Az ((Nat.le_trans HW0.out (by rw [hg]; exact (below_size (by repeat (first | (with_reducible first | exact HBW.out | apply below_alloc | apply pw_below_drewN | apply below_drew1) | exact HBW.out))) : w.heap.size ≤ gb221) : w0.heap.size ≤ gb221)); clear HBW HB; have HBW := n0; have HB := n1; have BK221 := n2; have GW221 := n3; have GE221 := n4; clear n0 n1 n2 n3 n4; clear hb hbox hg))
  go_ret
  exact ⟨_, rfl, (show IsS104 w0 _ gb221 l0 0 from ⟨_, _, kU BK221.out, GE221.out, HR0.out⟩), bU1 HB.out GE221.out, by repeat (first | (with_reducible first | exact HBW.out | apply below_alloc | apply pw_below_drewN | apply below_drew1 | refine below_set ?_ GW221.out) | exact HBW.out)⟩
def spec_DrawTreeMap.f (k : Nat) (l0 : List Int) : Option (ByteArray × List Int) := (spec_l6Open.f l0).bind fun bt223 => ((spec_l92Tree.f k bt223.1 bt223.2 3).bind fun bt226 => (some (bt226.1, bt226.2.1)))
theorem spec_DrawTreeMap.mono : ∀ a0 k, LeO (spec_DrawTreeMap.f k a0) (spec_DrawTreeMap.f (k + 1) a0) := by
 intro a0 k
 unfold spec_DrawTreeMap.f
 repeat' first
   | (with_reducible exact spec_l92Tree.mono _ _ _ _)
   | (with_reducible exact LeO.refl _)
   | (with_reducible exact LeO.none _)
   | (with_reducible refine LeO.ite ?_ ?_)
   | (with_reducible refine LeO.bind ?_ (fun _ => ?_))
   | exact spec_l92Tree.mono _ _ _ _
   | exact LeO.none _
   | refine LeO.ite ?_ ?_
   | refine LeO.bind ?_ (fun _ => ?_)
set_option maxHeartbeats 8000000 in
set_option maxRecDepth 100000 in
theorem spec_DrawTreeMap.calls (k : Nat) (A0 : Option Addr) (c0 : Nat) (l0 : List Int) (r1 : ByteArray) (r2 : List Int) (w : World) (hr0 : Kd.C (Kd.int .u8) w A0 l0.length l0) (hc0 : l0.length ≤ c0) (h : spec_DrawTreeMap.f k l0 = some (r1, r2)) :
  Calls Try.prog 38 #[.slice A0 l0.length c0] w fun e w' => ∃ v1_ : Value, e = .returned (.agg #[.string r1, v1_]) ∧ Kd.Q (Kd.int .i64) 3 w' w.heap.size (fun _ => True) v1_ r2 ∧ Below w.heap.size w w' := by
 have hu25 := Try.underlying25; have HR0 := Az hr0; have HC0 := Az hc0; clear hr0 hc0; have HB := Az (Below.refl w.heap.size w); have H : ((spec_l6Open.f l0).bind fun bt223 => ((spec_l92Tree.f k bt223.1 bt223.2 3).bind fun bt226 => (some (bt226.1, bt226.2.1)))) = some (r1, r2) := h; clear h; replace H := Option.bind_eq_some_iff.mp H; obtain ⟨⟨t223, t224⟩, A20, H⟩ := H; replace H : ((spec_l92Tree.f k t223 t224 3).bind fun bt226 => (some (bt226.1, bt226.2.1))) = some (r1, r2) := H; have A2 := Az A20; clear A20; replace H := Option.bind_eq_some_iff.mp H; obtain ⟨⟨t226, t227, t230⟩, A30, H⟩ := H; replace H : (some (t226, t227)) = some (r1, r2) := H; have A3 := Az A30; clear A30; simp only [Option.some.injEq, Prod.mk.injEq] at H; obtain ⟨rfl, rfl⟩ := H
 go_enter Try.func38, Try.ntmps38
 go_wp2_with (first | ((with_reducible refine gate_dst (N := 2) rfl ?_); refine box_event ?hg (N := 2) ?hd (cs := #[.string (⟨#[]⟩ : ByteArray), .slice none 0 0]) (t := 25) ?hr ?_; (case hd => rfl); (case hg => rfl); (case hr => first | (go_simp; done) | (go_simp; rfl)); intro gb222 hg w4 hbox hb; have n0 := Az (below_step (bU0 HB.out) hb); have n1 := Az (hbox); have n2 := Az ((by rw [hg]; exact (below_size (bU0 HB.out)) : w.heap.size ≤ gb222)); have n3 := n2; clear HB; have HB := n0; have BK222 := n1; have GW222 := n2; have GE222 := n3; clear n0 n1 n2 n3; clear hb hbox hg) | ((with_reducible refine gate_callee (f := 62) rfl ?_); refine goesL_ (some 4) rfl rfl Try.func62 (by kernel_rfl) rfl #[.slice A0 l0.length c0] rfl (by (try simp only [List.map_toArray, List.map_cons, List.map_nil]); first | done | rfl | (simp only [List.length_drop, List.length_take]; rfl)) ?_; (with_reducible refine (spec_l6Open.calls _ _ l0 t223 t224 w _ ?side1 ?side2 ?side3 A2.out).mono ?_); (case side1 => repeat (first | (with_reducible first | exact HB.out | apply below_alloc | apply pw_below_drewN | apply below_drew1 | refine below_set ?_ GE222.out) | exact HB.out)); (case side2 => exact HR0.out); (case side3 => exact HC0.out); rintro e w5 ⟨g225, rfl, hi, hb, hb2⟩; refine ⟨_, rfl, ?_⟩; have n0 := Az (blk_below (g := gb222) (o := .cells #[.string (⟨#[]⟩ : ByteArray), .slice none 0 0] 25 (0, 0)) (kU BK222.out) hb2); have n1 := Az (hb); have n2 := Az (hi); have n3 := Az (IsS104.ne_blk hi (blk_below (g := gb222) (o := .cells #[.string (⟨#[]⟩ : ByteArray), .slice none 0 0] 25 (0, 0)) (kU BK222.out) hb2) (by decide)); have n4 := Az (Ne.symm (IsS104.ne_blk hi (blk_below (g := gb222) (o := .cells #[.string (⟨#[]⟩ : ByteArray), .slice none 0 0] 25 (0, 0)) (kU BK222.out) hb2) (by decide))); clear BK222 HB; have BK222 := n0; have HB := n1; have HI225 := n2; have NB225_222 := n3; have NB222_225 := n4; clear n0 n1 n2 n3 n4; (try clear hb); (try clear hb2); (try clear hk); (try clear hi)) | ((with_reducible refine gate_callee (f := 61) rfl ?_); refine goesL_ (some 5) rfl rfl Try.func61 (by kernel_rfl) rfl #[.pointer (some ⟨g225, 0, none⟩), .int .i64 3] rfl (by (try simp only [List.map_toArray, List.map_cons, List.map_nil]); first | done | rfl | (simp only [List.length_drop, List.length_take]; rfl)) ?_; (with_reducible refine (spec_l92Tree.calls k g225 t223 t224 3 t226 t227 t230 w _ ?side1 ?side2 A3.out).mono ?_); (case side1 => repeat (first | (with_reducible first | exact HI225.out | apply IsS104.alloc | apply IsS104.drewN | apply IsS104.drew | apply IsS104.set_1 | refine IsS104.far ?_ NB225_222.out _) | exact HI225.out)); (case side2 => repeat (first | (with_reducible first | exact HB.out | apply below_alloc | apply pw_below_drewN | apply below_drew1 | refine below_set ?_ (IsS104.ge HI225.out) | refine below_set ?_ GE222.out) | exact HB.out)); rintro e w6 ⟨v228, rfl, ho0, hi, hb, hk⟩; refine ⟨_, rfl, ?_⟩; have n0 := Az (KeepBut.blk hk (g' := gb222) (o := .cells #[.string (⟨#[]⟩ : ByteArray), .slice none 0 0] 25 (0, 0)) (kU BK222.out) NB222_225.out (by simp)); have n1 := Az (Kd.Q_lower ho0 (below_size (by repeat (first | (with_reducible first | exact HB.out | apply below_alloc | apply pw_below_drewN | apply below_drew1 | refine below_set ?_ (IsS104.ge HI225.out) | refine below_set ?_ GE222.out) | exact HB.out)))); have n2 := Az (hb); have n3 := Az (hi); clear BK222 HB HI225; have BK222 := n0; have HO229 := n1; have HB := n2; have HI225 := n3; clear n0 n1 n2 n3; (try clear hb); (try clear hb2); (try clear hk); (try clear hi); (try clear ho0); have hnb7 := NB222_225.out; have hnc7 := NB225_222.out; have hcz8_0 : w6.cell? ⟨gb222, 0, none⟩ = some (.string (⟨#[]⟩ : ByteArray)) := (blk_cell BK222.out 0).trans rfl; have hcz8_1 : w6.cell? ⟨gb222, 1, none⟩ = some (.slice none 0 0) := (blk_cell BK222.out 1).trans rfl; have hfz8_0 := blk_frozen BK222.out 0; have hfz8_1 := blk_frozen BK222.out 1; obtain ⟨Ao9, co9, eo9, _⟩ := Kd.Q_slice HO229.out; subst eo9))
 refine bodyPost_ret (results_cell_row rfl _ _ gb222 25 #[.string t226, .slice Ao9 t227.length co9] (0, 0) _ rfl (by (with_reducible repeat (first | refine blk_drewN ?_ _ | refine blk_drew ?_ | refine blk_alloc ?_ _)); refine blk_put (cs := #[.string t226, .slice none 0 0]) ?_ 1 _ rfl; (with_reducible repeat (first | refine blk_drewN ?_ _ | refine blk_drew ?_ | refine blk_alloc ?_ _)); refine blk_put (cs := #[.string (⟨#[]⟩ : ByteArray), .slice none 0 0]) ?_ 0 _ rfl; (with_reducible repeat (first | refine blk_drewN ?_ _ | refine blk_drew ?_ | refine blk_alloc ?_ _)); exact BK222.out) Try.underlying25 rfl (by kernel_rfl)) rfl ?_
 exact ⟨_, rE, by (with_reducible repeat (first | apply Kd.Q_alloc | apply Kd.Q_drewN | apply Kd.Q_drew)); exact Kd.Q_mono (Kd.Q_far (p := ⟨gb222, 1, none⟩) (Kd.Q_far (p := ⟨gb222, 0, none⟩) (Kd.Q_types HO229.out BK222.out (by decide)) (fun _ hk => hk.2) (.string t226)) (fun _ hk => hk.2) (.slice Ao9 t227.length co9)) (fun _ hk => trivial), by repeat (first | (with_reducible first | exact HB.out | apply below_alloc | apply pw_below_drewN | apply below_drew1 | refine below_set ?_ (IsS104.ge HI225.out) | refine below_set ?_ GE222.out) | exact HB.out)⟩
def spec_l6In.f (a0 : Int) (a1 : Int) (a2 : Int) : Option (Bool) := if a0 ≥ a1 then (some (decide (a0 ≤ a2))) else (some false)
set_option maxHeartbeats 8000000 in
set_option maxRecDepth 100000 in
theorem spec_l6In.calls (a0 : Int) (a1 : Int) (a2 : Int) (r : Bool) (w : World) (h : spec_l6In.f a0 a1 a2 = some r) :
  Calls Try.prog 63 #[.int .i64 a0, .int .i64 a1, .int .i64 a2] w fun e w' => e = .returned (.bool r) ∧ Drawn0 w w' := by
 have H : (if a0 ≥ a1 then (some (decide (a0 ≤ a2))) else (some false)) = some r := h; clear h
 by_cases c4 : a0 ≥ a1
 ·
  rw [if_pos c4] at H; have c4b0 := decide_eq_true c4; clear c4; obtain rfl := Option.some.inj H
  go_enter Try.func63, Try.ntmps63
  go_wp2
  go_ret
  exact ⟨by first | rfl | (simp; done) | (simp [*]; done), by repeat (first | exact Drawn0.refl _ | apply Drawn0.step)⟩
 ·
  rw [if_neg c4] at H; have c4b0 := decide_eq_false c4; clear c4; obtain rfl := Option.some.inj H
  go_enter Try.func63, Try.ntmps63
  go_wp2
  go_ret
  exact ⟨by first | rfl | (simp; done) | (simp [*]; done), by repeat (first | exact Drawn0.refl _ | apply Drawn0.step)⟩
mutual
def spec_TreeValid.l0 : Nat → Int → Int → Int → ByteArray → List Int → Option (Bool)
 | 0, _, _, _, _, _ => none
 | k + 1, x3, x4, x5, xZ0, xZ1 => if x5 < (xZ0.size : Int) then (if 0 ≤ x5 then (if (bt xZ0 x5) = 40 then (if (wrap64 (x3 + 1)) < 0 then (some false) else (spec_TreeValid.l0 k (wrap64 (x3 + 1)) (wrap64 (x4 + 1)) (wrap64 (x5 + 1)) xZ0 xZ1)) else (if (bt xZ0 x5) = 41 then (if (wrap64 (x3 - 1)) < 0 then (some false) else (spec_TreeValid.l0 k (wrap64 (x3 - 1)) x4 (wrap64 (x5 + 1)) xZ0 xZ1)) else (some false))) else (none)) else (spec_TreeValid.l1 k x3 x4 0 xZ0 xZ1)
def spec_TreeValid.l1 : Nat → Int → Int → Int → ByteArray → List Int → Option (Bool)
 | 0, _, _, _, _, _ => none
 | k + 1, x3, x4, x6, xZ0, xZ1 => if x6 < (xZ1.length : Int) then (if 0 ≤ x6 then ((spec_l6In.f (rd xZ1 x6) (-1) 1).bind fun t233 => (if t233 = true then (spec_TreeValid.l1 k x3 x4 (wrap64 (x6 + 1)) xZ0 xZ1) else (some false))) else (none)) else (if x3 = 0 then ((spec_l6In.f x4 1 3).bind fun t234 => (if t234 = true then (some ((xZ1.length : Int) == x4)) else (some false))) else (some false))
end
def spec_TreeValid.f (k : Nat) (a0_0 : ByteArray) (l0_1 : List Int) : Option (Bool) := spec_TreeValid.l0 k 0 0 0 a0_0 l0_1
theorem spec_TreeValid.mono_l : ∀ k, (∀ y0 y1 y2 y3 y4, LeO (spec_TreeValid.l0 k y0 y1 y2 y3 y4) (spec_TreeValid.l0 (k + 1) y0 y1 y2 y3 y4)) ∧ (∀ y0 y1 y2 y3 y4, LeO (spec_TreeValid.l1 k y0 y1 y2 y3 y4) (spec_TreeValid.l1 (k + 1) y0 y1 y2 y3 y4))
 | 0 => ⟨fun _ _ _ _ _ r h => by simp [spec_TreeValid.l0] at h, fun _ _ _ _ _ r h => by simp [spec_TreeValid.l1] at h⟩
 | k + 1 => by
  obtain ⟨ih0, ih1⟩ := spec_TreeValid.mono_l k
  refine ⟨?_, ?_⟩
  ·
   intro y0 y1 y2 y3 y4
   unfold spec_TreeValid.l0
   repeat' first
   | (with_reducible exact ih0 _ _ _ _ _)
   | (with_reducible exact ih1 _ _ _ _ _)
   | (with_reducible exact LeO.refl _)
   | (with_reducible exact LeO.none _)
   | (with_reducible refine LeO.ite ?_ ?_)
   | (with_reducible refine LeO.bind ?_ (fun _ => ?_))
   | exact ih0 _ _ _ _ _
   | exact ih1 _ _ _ _ _
   | exact LeO.none _
   | refine LeO.ite ?_ ?_
   | refine LeO.bind ?_ (fun _ => ?_)
  ·
   intro y0 y1 y2 y3 y4
   unfold spec_TreeValid.l1
   repeat' first
   | (with_reducible exact ih0 _ _ _ _ _)
   | (with_reducible exact ih1 _ _ _ _ _)
   | (with_reducible exact LeO.refl _)
   | (with_reducible exact LeO.none _)
   | (with_reducible refine LeO.ite ?_ ?_)
   | (with_reducible refine LeO.bind ?_ (fun _ => ?_))
   | exact ih0 _ _ _ _ _
   | exact ih1 _ _ _ _ _
   | exact LeO.none _
   | refine LeO.ite ?_ ?_
   | refine LeO.bind ?_ (fun _ => ?_)
theorem spec_TreeValid.mono : ∀ a0 a1 k, LeO (spec_TreeValid.f k a0 a1) (spec_TreeValid.f (k + 1) a0 a1) := by
 intro a0 a1 k
 obtain ⟨ih0, ih1⟩ := spec_TreeValid.mono_l k
 unfold spec_TreeValid.f
 repeat' first
   | (with_reducible exact ih0 _ _ _ _ _)
   | (with_reducible exact ih1 _ _ _ _ _)
   | (with_reducible exact LeO.refl _)
   | (with_reducible exact LeO.none _)
   | (with_reducible refine LeO.ite ?_ ?_)
   | (with_reducible refine LeO.bind ?_ (fun _ => ?_))
   | exact ih0 _ _ _ _ _
   | exact ih1 _ _ _ _ _
   | exact LeO.none _
   | refine LeO.ite ?_ ?_
   | refine LeO.bind ?_ (fun _ => ?_)
set_option maxHeartbeats 8000000 in
set_option maxRecDepth 100000 in
theorem spec_TreeValid.calls (k : Nat) (a0_0 : ByteArray) (A0_1 : Option Addr) (c0_1 : Nat) (l0_1 : List Int) (r : Bool) (w : World) (hr0_1 : Kd.C (Kd.int .i64) w A0_1 l0_1.length l0_1) (hc0_1 : l0_1.length ≤ c0_1) (h : spec_TreeValid.f k a0_0 l0_1 = some r) :
  Calls Try.prog 17 #[.agg #[.string a0_0, .slice A0_1 l0_1.length c0_1]] w fun e w' => e = .returned (.bool r) ∧ Below w.heap.size w w' := by
 have hu25 := Try.underlying25; have HR0_1 := Az hr0_1; have HC0_1 := Az hc0_1; clear hr0_1 hc0_1; have HB := Az (Below.refl w.heap.size w); have H : (spec_TreeValid.l0 k 0 0 0 a0_0 l0_1) = some r := h; clear h; have H' := Az H; clear H
 go_enter Try.func17, Try.ntmps17
 go_wp2_with (first | ((with_reducible refine gate_dst (N := 1) rfl ?_); (try (refine gate_guard (by rfl) ?_; dsimp only)); refine box_event ?hg (N := 1) ?hd (cs := #[.string a0_0, .slice A0_1 l0_1.length c0_1]) (t := 25) ?hr ?_; (case hd => rfl); (case hg => rfl); (case hr => first | (go_simp; done) | (go_simp; rfl)); intro gb231 hg w2 hbox hb; have n0 := Az (below_step (bU0 HB.out) hb); have n1 := Az (hbox); have n2 := Az ((by rw [hg]; exact (below_size (bU0 HB.out)) : w.heap.size ≤ gb231)); have n3 := n2; clear HB; have HB := n0; have BK231 := n1; have GW231 := n2; have GE231 := n3; clear n0 n1 n2 n3; clear hb hbox hg))
 go_loopg [3, 4, 5] k (fun kq v3 v4 v5 w' => ∃ (x3_1 : Int) (x4_1 : Int) (x5_1 : Int), v3 = .int .i64 x3_1 ∧ v4 = .int .i64 x4_1 ∧ v5 = .int .i64 x5_1 ∧ Aside0 (spec_TreeValid.l0 kq x3_1 x4_1 x5_1 a0_0 l0_1 = some r) ∧ Aside0 (kq ≤ k) ∧ Aside0 (w'.heap[gb231]? = some (.cells #[.string a0_0, (.slice A0_1 l0_1.length c0_1)] 25 (0, 0))) ∧ Aside0 (Below w.heap.size w w'))
 case atStart => exact ⟨(0), (0), (0), rS, rS, rS, H', ⟨Nat.le_refl _⟩, ⟨kU BK231.out⟩, ⟨bU1 HB.out GE231.out⟩⟩
 case round =>
  clear H'; (try clear c1); (try clear p2); obtain ⟨x3_1, x4_1, x5_1, rfl, rfl, rfl, HA, HK1, BK231, HB⟩ := hrel
  cases gk with
  | zero => exact absurd HA.out (by simp [spec_TreeValid.l0])
  | succ k1 =>
   have H := HA.out; clear HA; simp only [spec_TreeValid.l0] at H
   by_cases c3 : x5_1 < (a0_0.size : Int)
   ·
    rw [if_pos c3] at H; have c3b0 := decide_eq_true c3; clear c3
    by_cases c4 : 0 ≤ x5_1
    ·
     rw [if_pos c4] at H; have c4b0 := decide_eq_true c4; clear c4
     by_cases c6 : (bt a0_0 x5_1) = 40
     ·
      rw [if_pos c6] at H; have c6b0 := beq_iff_eq.mpr c6; have c6b1 := bne_eq_false_iff_eq.mpr c6; clear c6
      by_cases c7 : (wrap64 (x3_1 + 1)) < 0
      ·
       rw [if_pos c7] at H; have c7b0 := decide_eq_true c7; clear c7; obtain rfl := Option.some.inj H; have hcz8_0 : wr.cell? ⟨gb231, 0, none⟩ = some (.string a0_0) := (blk_cell BK231.out 0).trans rfl; have hcz8_1 : wr.cell? ⟨gb231, 1, none⟩ = some (.slice A0_1 l0_1.length c0_1) := (blk_cell BK231.out 1).trans rfl; have hfz8_0 := blk_frozen BK231.out 0; have hfz8_1 := blk_frozen BK231.out 1; have p5 : 0 ≤ (x5_1 : Int) := oA; have q5 : x5_1 < (a0_0.size : Int) := oA; have hx5 := bt_at a0_0 x5_1; replace p5 := eq_true p5; replace q5 := eq_true q5
       go_wp2
       go_ret
       exact ⟨rE, bU1 HB.out GE231.out⟩
      ·
       rw [if_neg c7] at H; have c7b0 := decide_eq_false c7; clear c7; have H' := Az H; clear H; have hcz9_0 : wr.cell? ⟨gb231, 0, none⟩ = some (.string a0_0) := (blk_cell BK231.out 0).trans rfl; have hcz9_1 : wr.cell? ⟨gb231, 1, none⟩ = some (.slice A0_1 l0_1.length c0_1) := (blk_cell BK231.out 1).trans rfl; have hfz9_0 := blk_frozen BK231.out 0; have hfz9_1 := blk_frozen BK231.out 1; have p5 : 0 ≤ (x5_1 : Int) := oA; have q5 : x5_1 < (a0_0.size : Int) := oA; have hx5 := bt_at a0_0 x5_1; replace p5 := eq_true p5; replace q5 := eq_true q5
       go_wp2
       (first | go_roundg k1 | (refine Handed.intro k1 ?measure ?_; rotate_left; go_step; (try simp only [add_plain]); (repeat apply Exists.intro); refine ⟨?rel, rfl⟩))
       case measure => have := HK1.out; omega
       case rel => exact ⟨(wrap64 (x3_1 + 1)), (wrap64 (x4_1 + 1)), (wrap64 (x5_1 + 1)), rS, rS, rS, H', ⟨by have := HK1.out; omega⟩, ⟨kU BK231.out⟩, ⟨bU1 HB.out GE231.out⟩⟩
     ·
      rw [if_neg c6] at H; have c6b0 := beq_eq_false_iff_ne.mpr c6; have c6b1 := bne_iff_ne.mpr c6
      by_cases c10 : (bt a0_0 x5_1) = 41
      ·
       rw [if_pos c10] at H; have c10b0 := beq_iff_eq.mpr c10; have c10b1 := bne_eq_false_iff_eq.mpr c10; clear c10
       by_cases c11 : (wrap64 (x3_1 - 1)) < 0
       ·
        rw [if_pos c11] at H; have c11b0 := decide_eq_true c11; clear c11; obtain rfl := Option.some.inj H; have hcz12_0 : wr.cell? ⟨gb231, 0, none⟩ = some (.string a0_0) := (blk_cell BK231.out 0).trans rfl; have hcz12_1 : wr.cell? ⟨gb231, 1, none⟩ = some (.slice A0_1 l0_1.length c0_1) := (blk_cell BK231.out 1).trans rfl; have hfz12_0 := blk_frozen BK231.out 0; have hfz12_1 := blk_frozen BK231.out 1; have p5 : 0 ≤ (x5_1 : Int) := oA; have q5 : x5_1 < (a0_0.size : Int) := oA; have hx5 := bt_at a0_0 x5_1; replace p5 := eq_true p5; replace q5 := eq_true q5
        go_wp2
        go_ret
        exact ⟨rE, bU1 HB.out GE231.out⟩
       ·
        rw [if_neg c11] at H; have c11b0 := decide_eq_false c11; clear c11; have H' := Az H; clear H; have hcz13_0 : wr.cell? ⟨gb231, 0, none⟩ = some (.string a0_0) := (blk_cell BK231.out 0).trans rfl; have hcz13_1 : wr.cell? ⟨gb231, 1, none⟩ = some (.slice A0_1 l0_1.length c0_1) := (blk_cell BK231.out 1).trans rfl; have hfz13_0 := blk_frozen BK231.out 0; have hfz13_1 := blk_frozen BK231.out 1; have p5 : 0 ≤ (x5_1 : Int) := oA; have q5 : x5_1 < (a0_0.size : Int) := oA; have hx5 := bt_at a0_0 x5_1; replace p5 := eq_true p5; replace q5 := eq_true q5
        go_wp2
        (first | go_roundg k1 | (refine Handed.intro k1 ?measure ?_; rotate_left; go_step; (try simp only [add_plain]); (repeat apply Exists.intro); refine ⟨?rel, rfl⟩))
        case measure => have := HK1.out; omega
        case rel => exact ⟨(wrap64 (x3_1 - 1)), (x4_1), (wrap64 (x5_1 + 1)), rS, rS, rS, H', ⟨by have := HK1.out; omega⟩, ⟨kU BK231.out⟩, ⟨bU1 HB.out GE231.out⟩⟩
      ·
       rw [if_neg c10] at H; have c10b0 := beq_eq_false_iff_ne.mpr c10; have c10b1 := bne_iff_ne.mpr c10; obtain rfl := Option.some.inj H; have hcz14_0 : wr.cell? ⟨gb231, 0, none⟩ = some (.string a0_0) := (blk_cell BK231.out 0).trans rfl; have hcz14_1 : wr.cell? ⟨gb231, 1, none⟩ = some (.slice A0_1 l0_1.length c0_1) := (blk_cell BK231.out 1).trans rfl; have hfz14_0 := blk_frozen BK231.out 0; have hfz14_1 := blk_frozen BK231.out 1; have p5 : 0 ≤ (x5_1 : Int) := oA; have q5 : x5_1 < (a0_0.size : Int) := oA; have hx5 := bt_at a0_0 x5_1; replace p5 := eq_true p5; replace q5 := eq_true q5
       go_wp2
       go_ret
       exact ⟨rE, bU1 HB.out GE231.out⟩
    ·
     rw [if_neg c4] at H
     exact absurd H (by simp)
   ·
    rw [if_neg c3] at H; have c3b0 := decide_eq_false c3; clear c3; have H' := Az H; clear H; have hcz15_0 : wr.cell? ⟨gb231, 0, none⟩ = some (.string a0_0) := (blk_cell BK231.out 0).trans rfl; have hcz15_1 : wr.cell? ⟨gb231, 1, none⟩ = some (.slice A0_1 l0_1.length c0_1) := (blk_cell BK231.out 1).trans rfl; have hfz15_0 := blk_frozen BK231.out 0; have hfz15_1 := blk_frozen BK231.out 1
    go_wp2
    go_loopg [6] k1 (fun kq v6 w' => ∃ (x6_2 : Int), v6 = .int .i64 x6_2 ∧ Aside0 (spec_TreeValid.l1 kq x3_1 x4_1 x6_2 a0_0 l0_1 = some r) ∧ Aside0 (kq ≤ k1) ∧ Aside0 (w'.heap[gb231]? = some (.cells #[.string a0_0, (.slice A0_1 l0_1.length c0_1)] 25 (0, 0))) ∧ Aside0 (Below w.heap.size w w'))
    case atStart => exact ⟨(0), rS, H', ⟨Nat.le_refl _⟩, ⟨kU BK231.out⟩, ⟨bU1 HB.out GE231.out⟩⟩
    case round =>
     clear H'; (try clear c1); (try clear p2); (try clear c3); (try clear c3b0); (try clear c4); (try clear c4b0); (try clear p5); (try clear q5); (try clear hx5); (try clear c6); (try clear c6b0); (try clear c6b1); (try clear p6); (try clear c7); (try clear c7b0); (try clear c10); (try clear c10b0); (try clear c10b1); (try clear c11); (try clear c11b0); (try clear hcz12_0); (try clear hcz12_1); (try clear hcz13_0); (try clear hcz13_1); (try clear hcz14_0); (try clear hcz14_1); (try clear hcz15_0); (try clear hcz15_1); (try clear hcz8_0); (try clear hcz8_1); (try clear hcz9_0); (try clear hcz9_1); (try clear hfz12_0); (try clear hfz12_1); (try clear hfz13_0); (try clear hfz13_1); (try clear hfz14_0); (try clear hfz14_1); (try clear hfz15_0); (try clear hfz15_1); (try clear hfz8_0); (try clear hfz8_1); (try clear hfz9_0); (try clear hfz9_1); (try clear p2); (try clear p5); (try clear q5); obtain ⟨x6_2, rfl, HA, HK2, BK231, HB⟩ := hrel
     cases gk with
     | zero => exact absurd HA.out (by simp [spec_TreeValid.l1])
     | succ k2 =>
      have H := HA.out; clear HA; simp only [spec_TreeValid.l1] at H
      by_cases c16 : x6_2 < (l0_1.length : Int)
      ·
       rw [if_pos c16] at H; have c16b0 := decide_eq_true c16; clear c16
       by_cases c17 : 0 ≤ x6_2
       ·
        rw [if_pos c17] at H; have c17b0 := decide_eq_true c17; clear c17; replace H := Option.bind_eq_some_iff.mp H; obtain ⟨t233, A180, H⟩ := H; replace H : (if t233 = true then (spec_TreeValid.l1 k2 x3_1 x4_1 (wrap64 (x6_2 + 1)) a0_0 l0_1) else (some false)) = some r := H; have A18 := Az A180; clear A180
        by_cases c19 : t233 = true
        ·
         subst c19
         have H1 : (spec_TreeValid.l1 k2 x3_1 x4_1 (wrap64 (x6_2 + 1)) a0_0 l0_1) = some r := by rw [if_pos rfl] at H; exact H
         clear H; have H := H1; clear H1; have H' := Az H; clear H; have hcz20_0 : wr.cell? ⟨gb231, 0, none⟩ = some (.string a0_0) := (blk_cell BK231.out 0).trans rfl; have hcz20_1 : wr.cell? ⟨gb231, 1, none⟩ = some (.slice A0_1 l0_1.length c0_1) := (blk_cell BK231.out 1).trans rfl; have hfz20_0 := blk_frozen BK231.out 0; have hfz20_1 := blk_frozen BK231.out 1; have p232 : 0 ≤ (x6_2 : Int) := oA; have q232 : x6_2 < (l0_1.length : Int) := oA; obtain ⟨ad232, e232, hx232_0⟩ := Kd.at_int HR0_1.out x6_2 p232 q232
         cases e232
         (try replace hx232_0 := (HB.out.cell (World.block_lt_of_cell? w _ hx232_0)).trans hx232_0); replace p232 := eq_true p232; replace q232 := eq_true q232
         go_wp2_with (first | ((with_reducible refine gate_callee (f := 63) rfl ?_); refine goesL_ (some 42) rfl rfl Try.func63 (by kernel_rfl) rfl #[.int .i64 (rd l0_1 x6_2), .int .i64 (-1), .int .i64 1] rfl (by (try simp only [List.map_toArray, List.map_cons, List.map_nil]); first | done | rfl | (simp only [List.length_drop, List.length_take]; rfl)) ?_; (with_reducible refine (spec_l6In.calls (rd l0_1 x6_2) (-1) 1 true _ A18.out).mono ?_); rintro e w' ⟨rfl, ⟨nd, rfl⟩⟩; refine ⟨_, rfl, ?_⟩))
         (first | go_roundg k2 | (refine Handed.intro k2 ?measure ?_; rotate_left; go_step; (try simp only [add_plain]); (repeat apply Exists.intro); refine ⟨?rel, rfl⟩))
         case measure => have := HK1.out; have := HK2.out; omega
         case rel => exact ⟨(wrap64 (x6_2 + 1)), rS, H', ⟨by have := HK1.out; have := HK2.out; omega⟩, ⟨kU BK231.out⟩, ⟨bU1 HB.out GE231.out⟩⟩
        ·
         replace c19 := Bool.eq_false_iff.mpr c19; subst c19
         have H1 : (some false) = some r := by rw [if_neg (show ¬ (false = true) by decide)] at H; exact H
         clear H; have H := H1; clear H1; obtain rfl := Option.some.inj H; have hcz21_0 : wr.cell? ⟨gb231, 0, none⟩ = some (.string a0_0) := (blk_cell BK231.out 0).trans rfl; have hcz21_1 : wr.cell? ⟨gb231, 1, none⟩ = some (.slice A0_1 l0_1.length c0_1) := (blk_cell BK231.out 1).trans rfl; have hfz21_0 := blk_frozen BK231.out 0; have hfz21_1 := blk_frozen BK231.out 1; have p232 : 0 ≤ (x6_2 : Int) := oA; have q232 : x6_2 < (l0_1.length : Int) := oA; obtain ⟨ad232, e232, hx232_0⟩ := Kd.at_int HR0_1.out x6_2 p232 q232
         cases e232
         (try replace hx232_0 := (HB.out.cell (World.block_lt_of_cell? w _ hx232_0)).trans hx232_0); replace p232 := eq_true p232; replace q232 := eq_true q232
         go_wp2_with (first | ((with_reducible refine gate_callee (f := 63) rfl ?_); refine goesL_ (some 42) rfl rfl Try.func63 (by kernel_rfl) rfl #[.int .i64 (rd l0_1 x6_2), .int .i64 (-1), .int .i64 1] rfl (by (try simp only [List.map_toArray, List.map_cons, List.map_nil]); first | done | rfl | (simp only [List.length_drop, List.length_take]; rfl)) ?_; (with_reducible refine (spec_l6In.calls (rd l0_1 x6_2) (-1) 1 false _ A18.out).mono ?_); rintro e w' ⟨rfl, ⟨nd, rfl⟩⟩; refine ⟨_, rfl, ?_⟩))
         go_ret
         exact ⟨rE, bU1 HB.out GE231.out⟩
       ·
        rw [if_neg c17] at H
        exact absurd H (by simp)
      ·
       rw [if_neg c16] at H; have c16b0 := decide_eq_false c16; clear c16
       by_cases c22 : x3_1 = 0
       ·
        rw [if_pos c22] at H; have c22b0 := beq_iff_eq.mpr c22; have c22b1 := bne_eq_false_iff_eq.mpr c22; clear c22; replace H := Option.bind_eq_some_iff.mp H; obtain ⟨t234, A230, H⟩ := H; replace H : (if t234 = true then (some ((l0_1.length : Int) == x4_1)) else (some false)) = some r := H; have A23 := Az A230; clear A230
        by_cases c24 : t234 = true
        ·
         subst c24
         have H1 : (some ((l0_1.length : Int) == x4_1)) = some r := by rw [if_pos rfl] at H; exact H
         clear H; have H := H1; clear H1; obtain rfl := Option.some.inj H; have hcz25_0 : wr.cell? ⟨gb231, 0, none⟩ = some (.string a0_0) := (blk_cell BK231.out 0).trans rfl; have hcz25_1 : wr.cell? ⟨gb231, 1, none⟩ = some (.slice A0_1 l0_1.length c0_1) := (blk_cell BK231.out 1).trans rfl; have hfz25_0 := blk_frozen BK231.out 0; have hfz25_1 := blk_frozen BK231.out 1
         go_wp2_with (first | (go_at_call 63; (with_reducible refine (spec_l6In.calls x4_1 1 3 true _ A23.out).mono ?_); rintro e w' ⟨rfl, ⟨nd, rfl⟩⟩))
         go_ret
         exact ⟨rE, bU1 HB.out GE231.out⟩
        ·
         replace c24 := Bool.eq_false_iff.mpr c24; subst c24
         have H1 : (some false) = some r := by rw [if_neg (show ¬ (false = true) by decide)] at H; exact H
         clear H; have H := H1; clear H1; obtain rfl := Option.some.inj H; have hcz26_0 : wr.cell? ⟨gb231, 0, none⟩ = some (.string a0_0) := (blk_cell BK231.out 0).trans rfl; have hcz26_1 : wr.cell? ⟨gb231, 1, none⟩ = some (.slice A0_1 l0_1.length c0_1) := (blk_cell BK231.out 1).trans rfl; have hfz26_0 := blk_frozen BK231.out 0; have hfz26_1 := blk_frozen BK231.out 1
         go_wp2_with (first | (go_at_call 63; (with_reducible refine (spec_l6In.calls x4_1 1 3 false _ A23.out).mono ?_); rintro e w' ⟨rfl, ⟨nd, rfl⟩⟩))
         go_ret
         exact ⟨rE, bU1 HB.out GE231.out⟩
       ·
        rw [if_neg c22] at H; have c22b0 := beq_eq_false_iff_ne.mpr c22; have c22b1 := bne_iff_ne.mpr c22; obtain rfl := Option.some.inj H; have hcz27_0 : wr.cell? ⟨gb231, 0, none⟩ = some (.string a0_0) := (blk_cell BK231.out 0).trans rfl; have hcz27_1 : wr.cell? ⟨gb231, 1, none⟩ = some (.slice A0_1 l0_1.length c0_1) := (blk_cell BK231.out 1).trans rfl; have hfz27_0 := blk_frozen BK231.out 0; have hfz27_1 := blk_frozen BK231.out 1
        go_wp2
        go_ret
        exact ⟨rE, bU1 HB.out GE231.out⟩
def spec_l6qWalk.l0 : Nat → List Int → List Int → List Int → List Int → List Int → List Int → Int → Int → ByteArray → List Int → Option (List Int × List Int × List Int)
 | 0, _, _, _, _, _, _, _, _, _, _ => none
 | k + 1, x5, x6, x7, x8, x9, x10, x11, x12, xZ0, xZ1 => if x12 < (xZ0.size : Int) then (if 0 ≤ (wrap64 ((x8.length : Int) - 1)) then (if (wrap64 ((x8.length : Int) - 1)) < (x8.length : Int) then (if x5.length < 17592186044416 then ((some (x5 ++ [rd x8 (wrap64 ((x8.length : Int) - 1))] : List Int)).bind fun y255 => (if 0 ≤ (wrap64 ((x9.length : Int) - 1)) then (if (wrap64 ((x9.length : Int) - 1)) < (x9.length : Int) then (if x6.length < 17592186044416 then ((some (x6 ++ [rd x9 (wrap64 ((x9.length : Int) - 1))] : List Int)).bind fun y259 => (if 0 ≤ x12 then (if (bt xZ0 x12) = 40 then (if 0 ≤ x11 then (if x11 < (xZ1.length : Int) then (if x9.length < 17592186044416 then (if x8.length < 17592186044416 then (if x10.length < 17592186044416 then (spec_l6qWalk.l0 k y255 y259 x7 (x8 ++ [wrap64 (x11 + 1)]) (x9 ++ [wrap64 ((rd x9 (wrap64 ((x9.length : Int) - 1))) + (rd xZ1 x11))]) (x10 ++ [x12]) (wrap64 (x11 + 1)) (wrap64 (x12 + 1)) xZ0 xZ1) else (none)) else (none)) else (none)) else (none)) else (none)) else (if (wrap64 ((x8.length : Int) - 1)) ≤ (x8.length : Int) then (if (wrap64 ((x9.length : Int) - 1)) ≤ (x9.length : Int) then (if 0 ≤ (wrap64 ((x10.length : Int) - 1)) then (if (wrap64 ((x10.length : Int) - 1)) < (x10.length : Int) then (if (wrap64 ((x10.length : Int) - 1)) ≤ (x10.length : Int) then (if x12 < (x7.length : Int) then (if 0 ≤ (rd x10 (wrap64 ((x10.length : Int) - 1))) then (if (rd x10 (wrap64 ((x10.length : Int) - 1))) < (x7.length : Int) then (spec_l6qWalk.l0 k y255 y259 ((x7.set (x12 : Int).toNat (rd x10 (wrap64 ((x10.length : Int) - 1)))).set ((rd x10 (wrap64 ((x10.length : Int) - 1))) : Int).toNat x12) (x8.take ((wrap64 ((x8.length : Int) - 1)) : Int).toNat) (x9.take ((wrap64 ((x9.length : Int) - 1)) : Int).toNat) (x10.take ((wrap64 ((x10.length : Int) - 1)) : Int).toNat) x11 (wrap64 (x12 + 1)) xZ0 xZ1) else (none)) else (none)) else (none)) else (none)) else (none)) else (none)) else (none)) else (none))) else (none))) else (none)) else (none)) else (none))) else (none)) else (none)) else (none)) else (some (x5, x6, x7))
def spec_l6qWalk.f (k : Nat) (a0_0 : ByteArray) (l0_1 : List Int) : Option (List Int × List Int × List Int) := if 0 ≤ (a0_0.size : Int) then (if ((a0_0.size : Int) : Int).toNat ≤ 35184372088832 then (spec_l6qWalk.l0 k (([] : List Int)) (([] : List Int)) (List.replicate ((a0_0.size : Int) : Int).toNat 0) (([0] : List Int)) (([0] : List Int)) (([] : List Int)) 0 0 a0_0 l0_1) else (none)) else (none)
theorem spec_l6qWalk.mono_l : ∀ k, (∀ y0 y1 y2 y3 y4 y5 y6 y7 y8 y9, LeO (spec_l6qWalk.l0 k y0 y1 y2 y3 y4 y5 y6 y7 y8 y9) (spec_l6qWalk.l0 (k + 1) y0 y1 y2 y3 y4 y5 y6 y7 y8 y9))
 | 0 => fun _ _ _ _ _ _ _ _ _ _ r h => by simp [spec_l6qWalk.l0] at h
 | k + 1 => by
  have ih0 := spec_l6qWalk.mono_l k
  ·
   intro y0 y1 y2 y3 y4 y5 y6 y7 y8 y9
   unfold spec_l6qWalk.l0
   repeat' first
   | (with_reducible exact ih0 _ _ _ _ _ _ _ _ _ _)
   | (with_reducible exact LeO.refl _)
   | (with_reducible exact LeO.none _)
   | (with_reducible refine LeO.ite ?_ ?_)
   | (with_reducible refine LeO.bind ?_ (fun _ => ?_))
   | exact ih0 _ _ _ _ _ _ _ _ _ _
   | exact LeO.none _
   | refine LeO.ite ?_ ?_
   | refine LeO.bind ?_ (fun _ => ?_)
theorem spec_l6qWalk.mono : ∀ a0 a1 k, LeO (spec_l6qWalk.f k a0 a1) (spec_l6qWalk.f (k + 1) a0 a1) := by
 intro a0 a1 k
 have ih0 := spec_l6qWalk.mono_l k
 unfold spec_l6qWalk.f
 repeat' first
   | (with_reducible exact ih0 _ _ _ _ _ _ _ _ _ _)
   | (with_reducible exact LeO.refl _)
   | (with_reducible exact LeO.none _)
   | (with_reducible refine LeO.ite ?_ ?_)
   | (with_reducible refine LeO.bind ?_ (fun _ => ?_))
   | exact ih0 _ _ _ _ _ _ _ _ _ _
   | exact LeO.none _
   | refine LeO.ite ?_ ?_
   | refine LeO.bind ?_ (fun _ => ?_)
def spec_l6qWalk.T14 : Bool × List (List Nat × List Nat) := (true, [([], []), ([], []), ([], []), ([2], [2]), ([3], [3]), ([1, 4], [1, 4]), ([5], [5]), ([], []), ([7], [7]), ([], []), ([8, 9], [8, 9]), ([10], [10]), ([6, 11], [6, 11]), ([12], [12]), ([0, 13], [0, 13]), ([14, 14, 0, 1, 2, 3, 4, 5, 6, 7, 8, 9, 10, 11, 12, 13, 14], [0, 1, 2, 14])])
def spec_l6qWalk.B14 : List Nat := [0, 0, 0, 4, 12, 30, 62, 0, 128, 0, 896, 1920, 4094, 8190, 16383, 32767]
theorem spec_l6qWalk.tab14 : rtab .any (opsOf Try.f70 14) = spec_l6qWalk.T14 := by kernel_rfl
theorem spec_l6qWalk.bits14 : waitsOk spec_l6qWalk.T14.2 spec_l6qWalk.B14 = true := by kernel_rfl
set_option maxHeartbeats 8000000 in
set_option maxRecDepth 100000 in
theorem spec_l6qWalk.calls (k : Nat) (a0_0 : ByteArray) (A0_1 : Option Addr) (c0_1 : Nat) (l0_1 : List Int) (r1 : List Int) (r2 : List Int) (r3 : List Int) (w : World) (hr0_1 : Kd.C (Kd.int .i64) w A0_1 l0_1.length l0_1) (hc0_1 : l0_1.length ≤ c0_1) (h : spec_l6qWalk.f k a0_0 l0_1 = some (r1, r2, r3)) :
  Calls Try.prog 70 #[.agg #[.string a0_0, .slice A0_1 l0_1.length c0_1]] w fun e w' => ∃ v0_ v1_ v2_ : Value, e = .returned (.tuple #[v0_, v1_, v2_]) ∧ Kd.R (Kd.int .i64) 3 w' w.heap.size (fun k_ => some k_ ≠ (v1_ : Value).ownBlock ∧ some k_ ≠ (v2_ : Value).ownBlock) v0_ r1 ∧ Kd.R (Kd.int .i64) 3 w' w.heap.size (fun k_ => some k_ ≠ (v0_ : Value).ownBlock ∧ some k_ ≠ (v2_ : Value).ownBlock) v1_ r2 ∧ Kd.R (Kd.int .i64) 3 w' w.heap.size (fun k_ => some k_ ≠ (v0_ : Value).ownBlock ∧ some k_ ≠ (v1_ : Value).ownBlock) v2_ r3 ∧ Below w.heap.size w w' := by
 have hu25 := Try.underlying25; have HR0_1 := Az hr0_1; have HC0_1 := Az hc0_1; clear hr0_1 hc0_1; have HB := Az (Below.refl w.heap.size w); have H : (if 0 ≤ (a0_0.size : Int) then (if ((a0_0.size : Int) : Int).toNat ≤ 35184372088832 then (spec_l6qWalk.l0 k (([] : List Int)) (([] : List Int)) (List.replicate ((a0_0.size : Int) : Int).toNat 0) (([0] : List Int)) (([0] : List Int)) (([] : List Int)) 0 0 a0_0 l0_1) else (none)) else (none)) = some (r1, r2, r3) := h; clear h; obtain ⟨y236, hy236⟩ : ∃ y_ : List Int, y_ = (([] : List Int)) := ⟨_, rfl⟩; replace H : (if 0 ≤ (a0_0.size : Int) then (if ((a0_0.size : Int) : Int).toNat ≤ 35184372088832 then (spec_l6qWalk.l0 k y236 (([] : List Int)) (List.replicate ((a0_0.size : Int) : Int).toNat 0) (([0] : List Int)) (([0] : List Int)) (([] : List Int)) 0 0 a0_0 l0_1) else (none)) else (none)) = some (r1, r2, r3) := hR hy236 H; have Ny236 := Az hy236; clear hy236; obtain ⟨y239, hy239⟩ : ∃ y_ : List Int, y_ = (([] : List Int)) := ⟨_, rfl⟩; replace H : (if 0 ≤ (a0_0.size : Int) then (if ((a0_0.size : Int) : Int).toNat ≤ 35184372088832 then (spec_l6qWalk.l0 k y236 y239 (List.replicate ((a0_0.size : Int) : Int).toNat 0) (([0] : List Int)) (([0] : List Int)) (([] : List Int)) 0 0 a0_0 l0_1) else (none)) else (none)) = some (r1, r2, r3) := hR hy239 H; have Ny239 := Az hy239; clear hy239
 by_cases c2 : 0 ≤ (a0_0.size : Int)
 ·
  rw [if_pos c2] at H; have c2b0 := eq_true c2; have c2b1 := decide_eq_true c2; clear c2
  by_cases c3 : ((a0_0.size : Int) : Int).toNat ≤ 35184372088832
  ·
   rw [if_pos c3] at H; have c3b0 := eq_true c3; have c3b1 := decide_eq_true c3; clear c3; obtain ⟨y242, hy242⟩ : ∃ y_ : List Int, y_ = (List.replicate ((a0_0.size : Int) : Int).toNat 0) := ⟨_, rfl⟩; replace H : (spec_l6qWalk.l0 k y236 y239 y242 (([0] : List Int)) (([0] : List Int)) (([] : List Int)) 0 0 a0_0 l0_1) = some (r1, r2, r3) := hR hy242 H; have Ny242 := Az hy242; clear hy242; obtain ⟨y245, hy245⟩ : ∃ y_ : List Int, y_ = (([0] : List Int)) := ⟨_, rfl⟩; replace H : (spec_l6qWalk.l0 k y236 y239 y242 y245 (([0] : List Int)) (([] : List Int)) 0 0 a0_0 l0_1) = some (r1, r2, r3) := hR hy245 H; have Ny245 := Az hy245; clear hy245; obtain ⟨y248, hy248⟩ : ∃ y_ : List Int, y_ = (([0] : List Int)) := ⟨_, rfl⟩; replace H : (spec_l6qWalk.l0 k y236 y239 y242 y245 y248 (([] : List Int)) 0 0 a0_0 l0_1) = some (r1, r2, r3) := hR hy248 H; have Ny248 := Az hy248; clear hy248; obtain ⟨y251, hy251⟩ : ∃ y_ : List Int, y_ = (([] : List Int)) := ⟨_, rfl⟩; replace H : (spec_l6qWalk.l0 k y236 y239 y242 y245 y248 y251 0 0 a0_0 l0_1) = some (r1, r2, r3) := hR hy251 H; have Ny251 := Az hy251; clear hy251; have H' := Az H; clear H
   go_enter Try.func70, Try.ntmps70
   go_wp2_with (first | ((with_reducible refine gate_dst (N := 1) rfl ?_); refine box_event ?hg (N := 1) ?hd (cs := #[.string a0_0, .slice A0_1 l0_1.length c0_1]) (t := 25) ?hr ?_; (case hd => rfl); (case hg => rfl); (case hr => first | (go_simp; done) | (go_simp; rfl)); intro gb235 hg w4 hbox hb; have n0 := Az (below_step (bU0 HB.out) hb); have n1 := Az (hbox); have n2 := Az ((by rw [hg]; exact (below_size (bU0 HB.out)) : w.heap.size ≤ gb235)); have n3 := n2; clear HB; have HB := n0; have BK235 := n1; have GW235 := n2; have GE235 := n3; clear n0 n1 n2 n3; clear hb hbox hg) | ((with_reducible refine gate_dst (N := 14) rfl ?_); refine Kd.R_lit (Kd.int .i64) _ 3 ?hg (N := 14) ?hd (xs := ([] : List Int)) (inner := []) (ok := fun _ => True) (okp := fun _ => True) ?hr ?hp (fun _ hk => hk) trivial (Below.refl _ _) (Nat.le_refl _) (by simp) ?_; (case hd => rfl); (case hg => rfl); (case hr => first | (go_simp; done) | (go_simp; rfl)); (case hp => exact (Reps.none _ _)); intro v237 w5 ho6 hb hg_ hnew_; clear hg_ hnew_; (first | rw [← Ny236.out] at ho6 | (simp only [Int.reduceToNat] at ho6; rw [← Ny236.out] at ho6)); have n0 := Az (Kd.R_lower ho6 (below_size (bU1 HB.out GE235.out))); have n1 := Az (blk_below (g := gb235) (o := .cells #[.string a0_0, .slice A0_1 l0_1.length c0_1] 25 (0, 0)) (kU BK235.out) hb); have n2 := Az (below_step (bU1 HB.out GE235.out) hb); clear BK235 HB; have HO238 := n0; have BK235 := n1; have HB := n2; clear n0 n1 n2; clear hb ho6) | ((with_reducible refine gate_dst (N := 15) rfl ?_); refine Kd.R_lit (Kd.int .i64) _ 3 ?hg (N := 15) ?hd (xs := ([] : List Int)) (inner := []) (ok := fun _ => True) (okp := fun _ => True) ?hr ?hp (fun _ hk => hk) trivial (Below.refl _ _) (Nat.le_refl _) (by simp) ?_; (case hd => rfl); (case hg => rfl); (case hr => first | (go_simp; done) | (go_simp; rfl)); (case hp => exact (Reps.none _ _)); intro v240 w7 ho8 hb hg_ hnew_; clear hg_ hnew_; (first | rw [← Ny239.out] at ho8 | (simp only [Int.reduceToNat] at ho8; rw [← Ny239.out] at ho8)); have n0 := Az (Kd.R_elder' (rU HO238.out) (Kd.R_base ho8) hb); have n1 := Az (Kd.R_lower (Kd.R_new' ho8 (Kd.R_lt (rU HO238.out))) (below_size (bU1 HB.out GE235.out))); have n2 := Az (blk_below (g := gb235) (o := .cells #[.string a0_0, .slice A0_1 l0_1.length c0_1] 25 (0, 0)) (kU BK235.out) hb); have n3 := Az (below_step (bU1 HB.out GE235.out) hb); clear HO238 BK235 HB; have HO238 := n0; have HO241 := n1; have BK235 := n2; have HB := n3; clear n0 n1 n2 n3 hb ho8; have hcz9_0 : w7.cell? ⟨gb235, 0, none⟩ = some (.string a0_0) := (blk_cell BK235.out 0).trans rfl; have hcz9_1 : w7.cell? ⟨gb235, 1, none⟩ = some (.slice A0_1 l0_1.length c0_1) := (blk_cell BK235.out 1).trans rfl; have hfz9_0 := blk_frozen BK235.out 0; have hfz9_1 := blk_frozen BK235.out 1) | ((with_reducible refine gate_dst (N := 19) rfl ?_); refine Kd.R_make (Kd.int .i64) _ 3 rfl (N := 19) rfl 23 _ _ rfl (a0_0.size : Int) rfl rfl Try.underlying23 (.int .i64 0) 8 info3 rfl (by decide) (by omega) 0 (ok := fun _ => True) (okp := fun _ => True) rfl (fun _ hk => hk) trivial (oA) (Nat.le_trans (Nat.mul_le_mul_right _ (oA : (a0_0.size : Int).toNat ≤ 35184372088832)) (by omega)) (Below.refl _ _) (Nat.le_refl _) ?_; intro v243 w10 ho11 hb hg_ hnew_; clear hg_ hnew_; (first | rw [← Ny242.out] at ho11 | (simp only [Int.reduceToNat] at ho11; rw [← Ny242.out] at ho11)); have n0 := Az (Kd.R_elder' (rU HO238.out) (Kd.R_base ho11) hb); have n1 := Az (Kd.R_elder' (rU HO241.out) (Kd.R_base ho11) hb); have n2 := Az (Kd.R_lower (Kd.R_new' (Kd.R_new' ho11 (Kd.R_lt (rU HO238.out))) (Kd.R_lt (rU HO241.out))) (below_size (bU1 HB.out GE235.out))); have n3 := Az (blk_below (g := gb235) (o := .cells #[.string a0_0, .slice A0_1 l0_1.length c0_1] 25 (0, 0)) (kU BK235.out) hb); have n4 := Az (below_step (bU1 HB.out GE235.out) hb); clear HO238 HO241 BK235 HB; have HO238 := n0; have HO241 := n1; have HO244 := n2; have BK235 := n3; have HB := n4; clear n0 n1 n2 n3 n4; clear hb ho11) | ((with_reducible refine gate_dst (N := 20) rfl ?_); refine Kd.R_lit (Kd.int .i64) _ 3 ?hg (N := 20) ?hd (xs := ([0] : List Int)) (inner := [.int .i64 0]) (ok := fun _ => True) (okp := fun _ => True) ?hr ?hp (fun _ hk => hk) trivial (Below.refl _ _) (Nat.le_refl _) (by simp) ?_; (case hd => rfl); (case hg => rfl); (case hr => first | (go_simp; done) | (go_simp; rfl)); (case hp => exact (Reps.one (show Kd.M (Kd.int .i64) _ _ _ 0 [.int .i64 0] from rfl) (Reps.none _ _))); intro v246 w12 ho13 hb hg_ hnew_; clear hg_ hnew_; (first | rw [← Ny245.out] at ho13 | (simp only [Int.reduceToNat] at ho13; rw [← Ny245.out] at ho13)); have n0 := Az (Kd.R_elder' (rU HO238.out) (Kd.R_base ho13) hb); have n1 := Az (Kd.R_elder' (rU HO241.out) (Kd.R_base ho13) hb); have n2 := Az (Kd.R_elder' (rU HO244.out) (Kd.R_base ho13) hb); have n3 := Az (Kd.R_lower (Kd.R_new' (Kd.R_new' (Kd.R_new' ho13 (Kd.R_lt (rU HO238.out))) (Kd.R_lt (rU HO241.out))) (Kd.R_lt (rU HO244.out))) (below_size (bU1 HB.out GE235.out))); have n4 := Az (blk_below (g := gb235) (o := .cells #[.string a0_0, .slice A0_1 l0_1.length c0_1] 25 (0, 0)) (kU BK235.out) hb); have n5 := Az (below_step (bU1 HB.out GE235.out) hb); clear HO238 HO241 HO244 BK235 HB; have HO238 := n0; have HO241 := n1; have HO244 := n2; have HO247 := n3; have BK235 := n4; have HB := n5; clear n0 n1 n2 n3 n4 n5; clear hb ho13) | ((with_reducible refine gate_dst (N := 21) rfl ?_); refine Kd.R_lit (Kd.int .i64) _ 3 ?hg (N := 21) ?hd (xs := ([0] : List Int)) (inner := [.int .i64 0]) (ok := fun _ => True) (okp := fun _ => True) ?hr ?hp (fun _ hk => hk) trivial (Below.refl _ _) (Nat.le_refl _) (by simp) ?_; (case hd => rfl); (case hg => rfl); (case hr => first | (go_simp; done) | (go_simp; rfl)); (case hp => exact (Reps.one (show Kd.M (Kd.int .i64) _ _ _ 0 [.int .i64 0] from rfl) (Reps.none _ _))); intro v249 w14 ho15 hb hg_ hnew_; clear hg_ hnew_; (first | rw [← Ny248.out] at ho15 | (simp only [Int.reduceToNat] at ho15; rw [← Ny248.out] at ho15)); have n0 := Az (Kd.R_elder' (rU HO238.out) (Kd.R_base ho15) hb); have n1 := Az (Kd.R_elder' (rU HO241.out) (Kd.R_base ho15) hb); have n2 := Az (Kd.R_elder' (rU HO244.out) (Kd.R_base ho15) hb); have n3 := Az (Kd.R_elder' (rU HO247.out) (Kd.R_base ho15) hb); have n4 := Az (Kd.R_lower (Kd.R_new' (Kd.R_new' (Kd.R_new' (Kd.R_new' ho15 (Kd.R_lt (rU HO238.out))) (Kd.R_lt (rU HO241.out))) (Kd.R_lt (rU HO244.out))) (Kd.R_lt (rU HO247.out))) (below_size (bU1 HB.out GE235.out))); have n5 := Az (blk_below (g := gb235) (o := .cells #[.string a0_0, .slice A0_1 l0_1.length c0_1] 25 (0, 0)) (kU BK235.out) hb); have n6 := Az (below_step (bU1 HB.out GE235.out) hb); clear HO238 HO241 HO244 HO247 BK235 HB; have HO238 := n0; have HO241 := n1; have HO244 := n2; have HO247 := n3; have HO250 := n4; have BK235 := n5; have HB := n6; clear n0 n1 n2 n3 n4 n5 n6; clear hb ho15) | ((with_reducible refine gate_dst (N := 22) rfl ?_); refine Kd.R_lit (Kd.int .i64) _ 3 ?hg (N := 22) ?hd (xs := ([] : List Int)) (inner := []) (ok := fun _ => True) (okp := fun _ => True) ?hr ?hp (fun _ hk => hk) trivial (Below.refl _ _) (Nat.le_refl _) (by simp) ?_; (case hd => rfl); (case hg => rfl); (case hr => first | (go_simp; done) | (go_simp; rfl)); (case hp => exact (Reps.none _ _)); intro v252 w16 ho17 hb hg_ hnew_; clear hg_ hnew_; (first | rw [← Ny251.out] at ho17 | (simp only [Int.reduceToNat] at ho17; rw [← Ny251.out] at ho17)); have n0 := Az (Kd.R_elder' (rU HO238.out) (Kd.R_base ho17) hb); have n1 := Az (Kd.R_elder' (rU HO241.out) (Kd.R_base ho17) hb); have n2 := Az (Kd.R_elder' (rU HO244.out) (Kd.R_base ho17) hb); have n3 := Az (Kd.R_elder' (rU HO247.out) (Kd.R_base ho17) hb); have n4 := Az (Kd.R_elder' (rU HO250.out) (Kd.R_base ho17) hb); have n5 := Az (Kd.R_lower (Kd.R_new' (Kd.R_new' (Kd.R_new' (Kd.R_new' (Kd.R_new' ho17 (Kd.R_lt (rU HO238.out))) (Kd.R_lt (rU HO241.out))) (Kd.R_lt (rU HO244.out))) (Kd.R_lt (rU HO247.out))) (Kd.R_lt (rU HO250.out))) (below_size (bU1 HB.out GE235.out))); have n6 := Az (blk_below (g := gb235) (o := .cells #[.string a0_0, .slice A0_1 l0_1.length c0_1] 25 (0, 0)) (kU BK235.out) hb); have n7 := Az (below_step (bU1 HB.out GE235.out) hb); clear HO238 HO241 HO244 HO247 HO250 BK235 HB; have HO238 := n0; have HO241 := n1; have HO244 := n2; have HO247 := n3; have HO250 := n4; have HO253 := n5; have BK235 := n6; have HB := n7; clear n0 n1 n2 n3 n4 n5 n6 n7; clear hb ho17))
   go_loopg [5, 6, 8, 9, 10, 11, 12] k (fun kq v5 v6 v8 v9 v10 v11 v12 w' => ∃ (x5_1 : List Int) (x6_1 : List Int) (x7_1 : List Int) (x8_1 : List Int) (x9_1 : List Int) (x10_1 : List Int) (x11_1 : Int) (x12_1 : Int), v11 = .int .i64 x11_1 ∧ v12 = .int .i64 x12_1 ∧ Aside0 (spec_l6qWalk.l0 kq x5_1 x6_1 x7_1 x8_1 x9_1 x10_1 x11_1 x12_1 a0_0 l0_1 = some (r1, r2, r3)) ∧ Aside0 (kq ≤ k) ∧ Aside0 (Kd.R (Kd.int .i64) 3 w' w.heap.size (fun k_ => some k_ ≠ (v6 : Value).ownBlock ∧ some k_ ≠ (v243 : Value).ownBlock ∧ some k_ ≠ (v8 : Value).ownBlock ∧ some k_ ≠ (v9 : Value).ownBlock ∧ some k_ ≠ (v10 : Value).ownBlock) v5 x5_1) ∧ Aside0 (Kd.R (Kd.int .i64) 3 w' w.heap.size (fun k_ => some k_ ≠ (v5 : Value).ownBlock ∧ some k_ ≠ (v243 : Value).ownBlock ∧ some k_ ≠ (v8 : Value).ownBlock ∧ some k_ ≠ (v9 : Value).ownBlock ∧ some k_ ≠ (v10 : Value).ownBlock) v6 x6_1) ∧ Aside0 (Kd.R (Kd.int .i64) 3 w' w.heap.size (fun k_ => some k_ ≠ (v5 : Value).ownBlock ∧ some k_ ≠ (v6 : Value).ownBlock ∧ some k_ ≠ (v8 : Value).ownBlock ∧ some k_ ≠ (v9 : Value).ownBlock ∧ some k_ ≠ (v10 : Value).ownBlock) v243 x7_1) ∧ Aside0 (Kd.R (Kd.int .i64) 3 w' w.heap.size (fun k_ => some k_ ≠ (v5 : Value).ownBlock ∧ some k_ ≠ (v6 : Value).ownBlock ∧ some k_ ≠ (v243 : Value).ownBlock ∧ some k_ ≠ (v9 : Value).ownBlock ∧ some k_ ≠ (v10 : Value).ownBlock) v8 x8_1) ∧ Aside0 (Kd.R (Kd.int .i64) 3 w' w.heap.size (fun k_ => some k_ ≠ (v5 : Value).ownBlock ∧ some k_ ≠ (v6 : Value).ownBlock ∧ some k_ ≠ (v243 : Value).ownBlock ∧ some k_ ≠ (v8 : Value).ownBlock ∧ some k_ ≠ (v10 : Value).ownBlock) v9 x9_1) ∧ Aside0 (Kd.R (Kd.int .i64) 3 w' w.heap.size (fun k_ => some k_ ≠ (v5 : Value).ownBlock ∧ some k_ ≠ (v6 : Value).ownBlock ∧ some k_ ≠ (v243 : Value).ownBlock ∧ some k_ ≠ (v8 : Value).ownBlock ∧ some k_ ≠ (v9 : Value).ownBlock) v10 x10_1) ∧ Aside0 (w'.heap[gb235]? = some (.cells #[.string a0_0, (.slice A0_1 l0_1.length c0_1)] 25 (0, 0))) ∧ Aside0 (Below w.heap.size w w'))
   case atStart => exact ⟨(y236), (y239), (y242), (y245), (y248), (y251), (0), (0), rS, rS, H', ⟨Nat.le_refl _⟩, ⟨by (with_reducible repeat (first | apply Kd.R_alloc | apply Kd.R_drewN | apply Kd.R_drew)); exact Kd.R_mono HO238.out (fun _ hk => ⟨hk.1.1.1.1.2, ⟨hk.1.1.1.2, ⟨hk.1.1.2, ⟨hk.1.2, hk.2⟩⟩⟩⟩)⟩, ⟨by (with_reducible repeat (first | apply Kd.R_alloc | apply Kd.R_drewN | apply Kd.R_drew)); exact Kd.R_mono HO241.out (fun _ hk => ⟨hk.1.1.1.1.2, ⟨hk.1.1.1.2, ⟨hk.1.1.2, ⟨hk.1.2, hk.2⟩⟩⟩⟩)⟩, ⟨by (with_reducible repeat (first | apply Kd.R_alloc | apply Kd.R_drewN | apply Kd.R_drew)); exact Kd.R_mono HO244.out (fun _ hk => ⟨hk.1.1.1.1.2, ⟨hk.1.1.1.2, ⟨hk.1.1.2, ⟨hk.1.2, hk.2⟩⟩⟩⟩)⟩, ⟨by (with_reducible repeat (first | apply Kd.R_alloc | apply Kd.R_drewN | apply Kd.R_drew)); exact Kd.R_mono HO247.out (fun _ hk => ⟨hk.1.1.1.1.2, ⟨hk.1.1.1.2, ⟨hk.1.1.2, ⟨hk.1.2, hk.2⟩⟩⟩⟩)⟩, ⟨by (with_reducible repeat (first | apply Kd.R_alloc | apply Kd.R_drewN | apply Kd.R_drew)); exact Kd.R_mono HO250.out (fun _ hk => ⟨hk.1.1.1.1.2, ⟨hk.1.1.1.2, ⟨hk.1.1.2, ⟨hk.1.2, hk.2⟩⟩⟩⟩)⟩, ⟨by (with_reducible repeat (first | apply Kd.R_alloc | apply Kd.R_drewN | apply Kd.R_drew)); exact Kd.R_mono HO253.out (fun _ hk => ⟨hk.1.1.1.1.2, ⟨hk.1.1.1.2, ⟨hk.1.1.2, ⟨hk.1.2, hk.2⟩⟩⟩⟩)⟩, ⟨kU BK235.out⟩, ⟨bU1 HB.out GE235.out⟩⟩
   case round =>
    clear H'; (try clear c2); (try clear c2b0); (try clear c2b1); (try clear p2); (try clear c3); (try clear c3b0); (try clear c3b1); (try clear c7); (try clear hcz9_0); (try clear hcz9_1); (try clear hfz9_0); (try clear hfz9_1); obtain ⟨x5_1, x6_1, x7_1, x8_1, x9_1, x10_1, x11_1, x12_1, rfl, rfl, HA, HK1, HO_5, HO_6, HO_7, HO_8, HO_9, HO_10, BK235, HB⟩ := hrel
    cases gk with
    | zero => exact absurd HA.out (by simp [spec_l6qWalk.l0])
    | succ k1 =>
     have H := HA.out; clear HA; simp only [spec_l6qWalk.l0] at H
     by_cases c18 : x12_1 < (a0_0.size : Int)
     ·
      rw [if_pos c18] at H; have c18b0 := decide_eq_true c18; clear c18; obtain ⟨ji19, hji19⟩ : ∃ j_ : Int, (wrap64 ((x8_1.length : Int) - 1)) = j_ := ⟨_, rfl⟩
      replace H : (if 0 ≤ (ji19) then (if (ji19) < (x8_1.length : Int) then (if x5_1.length < 17592186044416 then ((some (x5_1 ++ [rd x8_1 (ji19)] : List Int)).bind fun y255 => (if 0 ≤ (wrap64 ((x9_1.length : Int) - 1)) then (if (wrap64 ((x9_1.length : Int) - 1)) < (x9_1.length : Int) then (if x6_1.length < 17592186044416 then ((some (x6_1 ++ [rd x9_1 (wrap64 ((x9_1.length : Int) - 1))] : List Int)).bind fun y259 => (if 0 ≤ x12_1 then (if (bt a0_0 x12_1) = 40 then (if 0 ≤ x11_1 then (if x11_1 < (l0_1.length : Int) then (if x9_1.length < 17592186044416 then (if x8_1.length < 17592186044416 then (if x10_1.length < 17592186044416 then (spec_l6qWalk.l0 k1 y255 y259 x7_1 (x8_1 ++ [wrap64 (x11_1 + 1)]) (x9_1 ++ [wrap64 ((rd x9_1 (wrap64 ((x9_1.length : Int) - 1))) + (rd l0_1 x11_1))]) (x10_1 ++ [x12_1]) (wrap64 (x11_1 + 1)) (wrap64 (x12_1 + 1)) a0_0 l0_1) else (none)) else (none)) else (none)) else (none)) else (none)) else (if (ji19) ≤ (x8_1.length : Int) then (if (wrap64 ((x9_1.length : Int) - 1)) ≤ (x9_1.length : Int) then (if 0 ≤ (wrap64 ((x10_1.length : Int) - 1)) then (if (wrap64 ((x10_1.length : Int) - 1)) < (x10_1.length : Int) then (if (wrap64 ((x10_1.length : Int) - 1)) ≤ (x10_1.length : Int) then (if x12_1 < (x7_1.length : Int) then (if 0 ≤ (rd x10_1 (wrap64 ((x10_1.length : Int) - 1))) then (if (rd x10_1 (wrap64 ((x10_1.length : Int) - 1))) < (x7_1.length : Int) then (spec_l6qWalk.l0 k1 y255 y259 ((x7_1.set (x12_1 : Int).toNat (rd x10_1 (wrap64 ((x10_1.length : Int) - 1)))).set ((rd x10_1 (wrap64 ((x10_1.length : Int) - 1))) : Int).toNat x12_1) (x8_1.take ((ji19) : Int).toNat) (x9_1.take ((wrap64 ((x9_1.length : Int) - 1)) : Int).toNat) (x10_1.take ((wrap64 ((x10_1.length : Int) - 1)) : Int).toNat) x11_1 (wrap64 (x12_1 + 1)) a0_0 l0_1) else (none)) else (none)) else (none)) else (none)) else (none)) else (none)) else (none)) else (none))) else (none))) else (none)) else (none)) else (none))) else (none)) else (none)) else (none)) = some (r1, r2, r3) := by first | (rw [hji19] at H; exact H) | (simp only [hji19] at H ⊢; exact H)
      have hji19w : (IntKind.i64.wrap ((x8_1.length : Int) - 1)) = ji19 := (i64_w _).trans hji19
      by_cases c20 : 0 ≤ (ji19)
      ·
       rw [if_pos c20] at H; have c20b0 := decide_eq_true c20; clear c20
       by_cases c21 : (ji19) < (x8_1.length : Int)
       ·
        rw [if_pos c21] at H; have c21b0 := decide_eq_true c21; clear c21
        by_cases c22 : x5_1.length < 17592186044416
        ·
         rw [if_pos c22] at H; have LMc22 := Az c22; clear c22; obtain ⟨y255, hy255⟩ : ∃ y_ : List Int, y_ = (x5_1 ++ [rd x8_1 (ji19)]) := ⟨_, rfl⟩; replace H : (if 0 ≤ (wrap64 ((x9_1.length : Int) - 1)) then (if (wrap64 ((x9_1.length : Int) - 1)) < (x9_1.length : Int) then (if x6_1.length < 17592186044416 then ((some (x6_1 ++ [rd x9_1 (wrap64 ((x9_1.length : Int) - 1))] : List Int)).bind fun y259 => (if 0 ≤ x12_1 then (if (bt a0_0 x12_1) = 40 then (if 0 ≤ x11_1 then (if x11_1 < (l0_1.length : Int) then (if x9_1.length < 17592186044416 then (if x8_1.length < 17592186044416 then (if x10_1.length < 17592186044416 then (spec_l6qWalk.l0 k1 y255 y259 x7_1 (x8_1 ++ [wrap64 (x11_1 + 1)]) (x9_1 ++ [wrap64 ((rd x9_1 (wrap64 ((x9_1.length : Int) - 1))) + (rd l0_1 x11_1))]) (x10_1 ++ [x12_1]) (wrap64 (x11_1 + 1)) (wrap64 (x12_1 + 1)) a0_0 l0_1) else (none)) else (none)) else (none)) else (none)) else (none)) else (if (ji19) ≤ (x8_1.length : Int) then (if (wrap64 ((x9_1.length : Int) - 1)) ≤ (x9_1.length : Int) then (if 0 ≤ (wrap64 ((x10_1.length : Int) - 1)) then (if (wrap64 ((x10_1.length : Int) - 1)) < (x10_1.length : Int) then (if (wrap64 ((x10_1.length : Int) - 1)) ≤ (x10_1.length : Int) then (if x12_1 < (x7_1.length : Int) then (if 0 ≤ (rd x10_1 (wrap64 ((x10_1.length : Int) - 1))) then (if (rd x10_1 (wrap64 ((x10_1.length : Int) - 1))) < (x7_1.length : Int) then (spec_l6qWalk.l0 k1 y255 y259 ((x7_1.set (x12_1 : Int).toNat (rd x10_1 (wrap64 ((x10_1.length : Int) - 1)))).set ((rd x10_1 (wrap64 ((x10_1.length : Int) - 1))) : Int).toNat x12_1) (x8_1.take ((ji19) : Int).toNat) (x9_1.take ((wrap64 ((x9_1.length : Int) - 1)) : Int).toNat) (x10_1.take ((wrap64 ((x10_1.length : Int) - 1)) : Int).toNat) x11_1 (wrap64 (x12_1 + 1)) a0_0 l0_1) else (none)) else (none)) else (none)) else (none)) else (none)) else (none)) else (none)) else (none))) else (none))) else (none)) else (none)) else (none)) = some (r1, r2, r3) := hR hy255 H; have Ny255 := Az hy255; clear hy255; obtain ⟨ji23, hji23⟩ : ∃ j_ : Int, (wrap64 ((x9_1.length : Int) - 1)) = j_ := ⟨_, rfl⟩
         replace H : (if 0 ≤ (ji23) then (if (ji23) < (x9_1.length : Int) then (if x6_1.length < 17592186044416 then ((some (x6_1 ++ [rd x9_1 (ji23)] : List Int)).bind fun y259 => (if 0 ≤ x12_1 then (if (bt a0_0 x12_1) = 40 then (if 0 ≤ x11_1 then (if x11_1 < (l0_1.length : Int) then (if x9_1.length < 17592186044416 then (if x8_1.length < 17592186044416 then (if x10_1.length < 17592186044416 then (spec_l6qWalk.l0 k1 y255 y259 x7_1 (x8_1 ++ [wrap64 (x11_1 + 1)]) (x9_1 ++ [wrap64 ((rd x9_1 (ji23)) + (rd l0_1 x11_1))]) (x10_1 ++ [x12_1]) (wrap64 (x11_1 + 1)) (wrap64 (x12_1 + 1)) a0_0 l0_1) else (none)) else (none)) else (none)) else (none)) else (none)) else (if (ji19) ≤ (x8_1.length : Int) then (if (ji23) ≤ (x9_1.length : Int) then (if 0 ≤ (wrap64 ((x10_1.length : Int) - 1)) then (if (wrap64 ((x10_1.length : Int) - 1)) < (x10_1.length : Int) then (if (wrap64 ((x10_1.length : Int) - 1)) ≤ (x10_1.length : Int) then (if x12_1 < (x7_1.length : Int) then (if 0 ≤ (rd x10_1 (wrap64 ((x10_1.length : Int) - 1))) then (if (rd x10_1 (wrap64 ((x10_1.length : Int) - 1))) < (x7_1.length : Int) then (spec_l6qWalk.l0 k1 y255 y259 ((x7_1.set (x12_1 : Int).toNat (rd x10_1 (wrap64 ((x10_1.length : Int) - 1)))).set ((rd x10_1 (wrap64 ((x10_1.length : Int) - 1))) : Int).toNat x12_1) (x8_1.take ((ji19) : Int).toNat) (x9_1.take ((ji23) : Int).toNat) (x10_1.take ((wrap64 ((x10_1.length : Int) - 1)) : Int).toNat) x11_1 (wrap64 (x12_1 + 1)) a0_0 l0_1) else (none)) else (none)) else (none)) else (none)) else (none)) else (none)) else (none)) else (none))) else (none))) else (none)) else (none)) else (none)) = some (r1, r2, r3) := by first | (rw [hji23] at H; exact H) | (simp only [hji23] at H ⊢; exact H)
         have hji23w : (IntKind.i64.wrap ((x9_1.length : Int) - 1)) = ji23 := (i64_w _).trans hji23
         by_cases c24 : 0 ≤ (ji23)
         ·
          rw [if_pos c24] at H; have c24b0 := decide_eq_true c24; clear c24
          by_cases c25 : (ji23) < (x9_1.length : Int)
          ·
           rw [if_pos c25] at H; have c25b0 := decide_eq_true c25; clear c25
           by_cases c26 : x6_1.length < 17592186044416
           ·
            rw [if_pos c26] at H; have LMc26 := Az c26; clear c26; obtain ⟨y259, hy259⟩ : ∃ y_ : List Int, y_ = (x6_1 ++ [rd x9_1 (ji23)]) := ⟨_, rfl⟩; replace H : (if 0 ≤ x12_1 then (if (bt a0_0 x12_1) = 40 then (if 0 ≤ x11_1 then (if x11_1 < (l0_1.length : Int) then (if x9_1.length < 17592186044416 then (if x8_1.length < 17592186044416 then (if x10_1.length < 17592186044416 then (spec_l6qWalk.l0 k1 y255 y259 x7_1 (x8_1 ++ [wrap64 (x11_1 + 1)]) (x9_1 ++ [wrap64 ((rd x9_1 (ji23)) + (rd l0_1 x11_1))]) (x10_1 ++ [x12_1]) (wrap64 (x11_1 + 1)) (wrap64 (x12_1 + 1)) a0_0 l0_1) else (none)) else (none)) else (none)) else (none)) else (none)) else (if (ji19) ≤ (x8_1.length : Int) then (if (ji23) ≤ (x9_1.length : Int) then (if 0 ≤ (wrap64 ((x10_1.length : Int) - 1)) then (if (wrap64 ((x10_1.length : Int) - 1)) < (x10_1.length : Int) then (if (wrap64 ((x10_1.length : Int) - 1)) ≤ (x10_1.length : Int) then (if x12_1 < (x7_1.length : Int) then (if 0 ≤ (rd x10_1 (wrap64 ((x10_1.length : Int) - 1))) then (if (rd x10_1 (wrap64 ((x10_1.length : Int) - 1))) < (x7_1.length : Int) then (spec_l6qWalk.l0 k1 y255 y259 ((x7_1.set (x12_1 : Int).toNat (rd x10_1 (wrap64 ((x10_1.length : Int) - 1)))).set ((rd x10_1 (wrap64 ((x10_1.length : Int) - 1))) : Int).toNat x12_1) (x8_1.take ((ji19) : Int).toNat) (x9_1.take ((ji23) : Int).toNat) (x10_1.take ((wrap64 ((x10_1.length : Int) - 1)) : Int).toNat) x11_1 (wrap64 (x12_1 + 1)) a0_0 l0_1) else (none)) else (none)) else (none)) else (none)) else (none)) else (none)) else (none)) else (none))) else (none)) = some (r1, r2, r3) := hR hy259 H; have Ny259 := Az hy259; clear hy259
            by_cases c27 : 0 ≤ x12_1
            ·
             rw [if_pos c27] at H; have c27b0 := decide_eq_true c27; clear c27
             by_cases c29 : (bt a0_0 x12_1) = 40
             ·
              rw [if_pos c29] at H; have c29b0 := beq_iff_eq.mpr c29; have c29b1 := bne_eq_false_iff_eq.mpr c29; clear c29
              by_cases c30 : 0 ≤ x11_1
              ·
               rw [if_pos c30] at H; have c30b0 := decide_eq_true c30; clear c30
               by_cases c31 : x11_1 < (l0_1.length : Int)
               ·
                rw [if_pos c31] at H; have c31b0 := decide_eq_true c31; clear c31
                by_cases c32 : x9_1.length < 17592186044416
                ·
                 rw [if_pos c32] at H; have LMc32 := Az c32; clear c32; obtain ⟨y264, hy264⟩ : ∃ y_ : List Int, y_ = (x9_1 ++ [wrap64 ((rd x9_1 (ji23)) + (rd l0_1 x11_1))]) := ⟨_, rfl⟩; replace H : (if x8_1.length < 17592186044416 then (if x10_1.length < 17592186044416 then (spec_l6qWalk.l0 k1 y255 y259 x7_1 (x8_1 ++ [wrap64 (x11_1 + 1)]) y264 (x10_1 ++ [x12_1]) (wrap64 (x11_1 + 1)) (wrap64 (x12_1 + 1)) a0_0 l0_1) else (none)) else (none)) = some (r1, r2, r3) := hR hy264 H; have Ny264 := Az hy264; clear hy264
                 by_cases c33 : x8_1.length < 17592186044416
                 ·
                  rw [if_pos c33] at H; have LMc33 := Az c33; clear c33; obtain ⟨y267, hy267⟩ : ∃ y_ : List Int, y_ = (x8_1 ++ [wrap64 (x11_1 + 1)]) := ⟨_, rfl⟩; replace H : (if x10_1.length < 17592186044416 then (spec_l6qWalk.l0 k1 y255 y259 x7_1 y267 y264 (x10_1 ++ [x12_1]) (wrap64 (x11_1 + 1)) (wrap64 (x12_1 + 1)) a0_0 l0_1) else (none)) = some (r1, r2, r3) := hR hy267 H; have Ny267 := Az hy267; clear hy267
                  by_cases c34 : x10_1.length < 17592186044416
                  ·
                   rw [if_pos c34] at H; have LMc34 := Az c34; clear c34; obtain ⟨y270, hy270⟩ : ∃ y_ : List Int, y_ = (x10_1 ++ [x12_1]) := ⟨_, rfl⟩; replace H : (spec_l6qWalk.l0 k1 y255 y259 x7_1 y267 y264 y270 (wrap64 (x11_1 + 1)) (wrap64 (x12_1 + 1)) a0_0 l0_1) = some (r1, r2, r3) := hR hy270 H; have Ny270 := Az hy270; clear hy270; have H' := Az H; clear H; have hcz35_0 : wr.cell? ⟨gb235, 0, none⟩ = some (.string a0_0) := (blk_cell BK235.out 0).trans rfl; have hcz35_1 : wr.cell? ⟨gb235, 1, none⟩ = some (.slice A0_1 l0_1.length c0_1) := (blk_cell BK235.out 1).trans rfl; have hfz35_0 := blk_frozen BK235.out 0; have hfz35_1 := blk_frozen BK235.out 1; obtain ⟨Ao36, co36, eo36⟩ := Kd.R_slice HO_8.out; subst eo36; have p254 : 0 ≤ ((ji19) : Int) := oA; have q254 : (ji19) < (x8_1.length : Int) := oA; obtain ⟨ad254, e254, hx254_0⟩ := Kd.at_int (Kd.R_reads' HO_8.out).2.2 (ji19) p254 q254
                   cases e254
                   replace p254 := eq_true p254; replace q254 := eq_true q254
                   try go_wp2_with (first | ((with_reducible refine gate_builtin (b := .append) (xs := #[.tmp 30, .tmp 37]) rfl ?_); at_builtin; refine Kd.R_append (Kd.int .i64) (w0 := w) w.heap.size rfl (.tmp 30) (.tmp 37) 23 3 (.int .i64 0) 8 rfl Try.underlying23 info3 rfl (by decide) (by omega) u5 x5_1 (rd x8_1 (ji19)) [.int .i64 (rd x8_1 (ji19))] (fun k_ => some k_ ≠ (u6 : Value).ownBlock ∧ some k_ ≠ (v243 : Value).ownBlock ∧ some k_ ≠ (.slice (some ad254) x8_1.length co36 : Value).ownBlock ∧ some k_ ≠ (u9 : Value).ownBlock ∧ some k_ ≠ (u10 : Value).ownBlock) (fun _ => False) rfl rfl ?aP (fun _ hk => hk.elim) ?aF ?aO ?aB ?aS ?aL ?_; (case aP => exact rfl); (case aB => exact (bU1 HB.out GE235.out)); (case aF => exact (fun k_ hk => ⟨Kd.fresh' (Kd.R_lt (rU HO_6.out)) k_ hk, Kd.fresh' (Kd.R_lt (rU HO_7.out)) k_ hk, Kd.fresh' (Kd.R_lt (rU HO_8.out)) k_ hk, Kd.fresh' (Kd.R_lt (rU HO_9.out)) k_ hk, Kd.fresh' (Kd.R_lt (rU HO_10.out)) k_ hk⟩)); (case aO => exact (rU HO_5.out)); (case aS => exact (below_size (bU1 HB.out GE235.out))); (case aL => have := LMc22.out; omega); intro v256 w37 ho hb hg hat; rw [← Ny255.out] at ho; have n0 := Az (Kd.R_after (ok := (fun k_ => some k_ ≠ (v243 : Value).ownBlock ∧ some k_ ≠ (.slice (some ad254) x8_1.length co36 : Value).ownBlock ∧ some k_ ≠ (u9 : Value).ownBlock ∧ some k_ ≠ (u10 : Value).ownBlock)) (by (with_reducible repeat (first | apply Kd.R_alloc | apply Kd.R_drewN | apply Kd.R_drew)); exact Kd.R_mono HO_6.out (fun _ hk => ⟨⟨hk.2.1, ⟨hk.2.2.1, ⟨hk.2.2.2.1, hk.2.2.2.2⟩⟩⟩, hk.1⟩)) hg hat); have n1 := Az (Kd.R_after (ok := (fun k_ => some k_ ≠ (u6 : Value).ownBlock ∧ some k_ ≠ (.slice (some ad254) x8_1.length co36 : Value).ownBlock ∧ some k_ ≠ (u9 : Value).ownBlock ∧ some k_ ≠ (u10 : Value).ownBlock)) (by (with_reducible repeat (first | apply Kd.R_alloc | apply Kd.R_drewN | apply Kd.R_drew)); exact Kd.R_mono HO_7.out (fun _ hk => ⟨⟨hk.2.1, ⟨hk.2.2.1, ⟨hk.2.2.2.1, hk.2.2.2.2⟩⟩⟩, hk.1⟩)) hg hat); have n2 := Az (Kd.R_after (ok := (fun k_ => some k_ ≠ (u6 : Value).ownBlock ∧ some k_ ≠ (v243 : Value).ownBlock ∧ some k_ ≠ (u9 : Value).ownBlock ∧ some k_ ≠ (u10 : Value).ownBlock)) (by (with_reducible repeat (first | apply Kd.R_alloc | apply Kd.R_drewN | apply Kd.R_drew)); exact Kd.R_mono HO_8.out (fun _ hk => ⟨⟨hk.2.1, ⟨hk.2.2.1, ⟨hk.2.2.2.1, hk.2.2.2.2⟩⟩⟩, hk.1⟩)) hg hat); have n3 := Az (Kd.R_after (ok := (fun k_ => some k_ ≠ (u6 : Value).ownBlock ∧ some k_ ≠ (v243 : Value).ownBlock ∧ some k_ ≠ (.slice (some ad254) x8_1.length co36 : Value).ownBlock ∧ some k_ ≠ (u10 : Value).ownBlock)) (by (with_reducible repeat (first | apply Kd.R_alloc | apply Kd.R_drewN | apply Kd.R_drew)); exact Kd.R_mono HO_9.out (fun _ hk => ⟨⟨hk.2.1, ⟨hk.2.2.1, ⟨hk.2.2.2.1, hk.2.2.2.2⟩⟩⟩, hk.1⟩)) hg hat); have n4 := Az (Kd.R_after (ok := (fun k_ => some k_ ≠ (u6 : Value).ownBlock ∧ some k_ ≠ (v243 : Value).ownBlock ∧ some k_ ≠ (.slice (some ad254) x8_1.length co36 : Value).ownBlock ∧ some k_ ≠ (u9 : Value).ownBlock)) (by (with_reducible repeat (first | apply Kd.R_alloc | apply Kd.R_drewN | apply Kd.R_drew)); exact Kd.R_mono HO_10.out (fun _ hk => ⟨⟨hk.2.1, ⟨hk.2.2.1, ⟨hk.2.2.2.1, hk.2.2.2.2⟩⟩⟩, hk.1⟩)) hg hat); have n5 := Az (blk_grown (g := gb235) (o := .cells #[.string a0_0, .slice A0_1 l0_1.length c0_1] 25 (0, 0)) (kU BK235.out) hg (Kd.R_ne HO_5.out BK235.out (by decide))); have n6 := Az (hb); have n7 := Az (ho); clear HO_6 HO_7 HO_8 HO_9 HO_10 BK235 HB HO_5; have HO_6 := n0; have HO_7 := n1; have HO_8 := n2; have HO_9 := n3; have HO_10 := n4; have BK235 := n5; have HB := n6; have HO257 := n7; clear n0 n1 n2 n3 n4 n5 n6 n7 ho hb hg hat; obtain ⟨Ao38, co38, eo38⟩ := Kd.R_slice HO_9.out; subst eo38; have p258 : 0 ≤ ((ji23) : Int) := oA; have q258 : (ji23) < (x9_1.length : Int) := oA; obtain ⟨ad258, e258, hx258_0⟩ := Kd.at_int (Kd.R_reads' HO_9.out).2.2 (ji23) p258 q258; cases e258; replace p258 := eq_true p258; replace q258 := eq_true q258) | ((with_reducible refine gate_builtin (b := .append) (xs := #[.tmp 39, .tmp 46]) rfl ?_); at_builtin; refine Kd.R_append (Kd.int .i64) (w0 := w) w.heap.size rfl (.tmp 39) (.tmp 46) 23 3 (.int .i64 0) 8 rfl Try.underlying23 info3 rfl (by decide) (by omega) u6 x6_1 (rd x9_1 (ji23)) [.int .i64 (rd x9_1 (ji23))] (fun k_ => some k_ ≠ (v243 : Value).ownBlock ∧ some k_ ≠ (.slice (some ad254) x8_1.length co36 : Value).ownBlock ∧ some k_ ≠ (.slice (some ad258) x9_1.length co38 : Value).ownBlock ∧ some k_ ≠ (u10 : Value).ownBlock ∧ some k_ ≠ (v256 : Value).ownBlock) (fun _ => False) rfl rfl ?aP (fun _ hk => hk.elim) ?aF ?aO ?aB ?aS ?aL ?_; (case aP => exact rfl); (case aB => exact (bU1 HB.out GE235.out)); (case aF => exact (fun k_ hk => ⟨Kd.fresh' (Kd.R_lt (rU HO_7.out)) k_ hk, Kd.fresh' (Kd.R_lt (rU HO_8.out)) k_ hk, Kd.fresh' (Kd.R_lt (rU HO_9.out)) k_ hk, Kd.fresh' (Kd.R_lt (rU HO_10.out)) k_ hk, Kd.fresh' (Kd.R_lt (rU HO257.out)) k_ hk⟩)); (case aO => exact (by (with_reducible repeat (first | apply Kd.R_alloc | apply Kd.R_drewN | apply Kd.R_drew)); exact Kd.R_mono HO_6.out (fun _ hk => ⟨hk.1.1, ⟨hk.1.2.1, ⟨hk.1.2.2.1, ⟨hk.1.2.2.2, hk.2⟩⟩⟩⟩))); (case aS => exact (below_size (bU1 HB.out GE235.out))); (case aL => have := LMc26.out; omega); intro v260 w39 ho hb hg hat; rw [← Ny259.out] at ho; have n0 := Az (Kd.R_after (ok := (fun k_ => some k_ ≠ (.slice (some ad254) x8_1.length co36 : Value).ownBlock ∧ some k_ ≠ (.slice (some ad258) x9_1.length co38 : Value).ownBlock ∧ some k_ ≠ (u10 : Value).ownBlock ∧ some k_ ≠ (v256 : Value).ownBlock)) (by (with_reducible repeat (first | apply Kd.R_alloc | apply Kd.R_drewN | apply Kd.R_drew)); exact Kd.R_mono HO_7.out (fun _ hk => ⟨⟨hk.1.2.1, ⟨hk.1.2.2.1, ⟨hk.1.2.2.2, hk.2⟩⟩⟩, hk.1.1⟩)) hg hat); have n1 := Az (Kd.R_after (ok := (fun k_ => some k_ ≠ (v243 : Value).ownBlock ∧ some k_ ≠ (.slice (some ad258) x9_1.length co38 : Value).ownBlock ∧ some k_ ≠ (u10 : Value).ownBlock ∧ some k_ ≠ (v256 : Value).ownBlock)) (by (with_reducible repeat (first | apply Kd.R_alloc | apply Kd.R_drewN | apply Kd.R_drew)); exact Kd.R_mono HO_8.out (fun _ hk => ⟨⟨hk.1.2.1, ⟨hk.1.2.2.1, ⟨hk.1.2.2.2, hk.2⟩⟩⟩, hk.1.1⟩)) hg hat); have n2 := Az (Kd.R_after (ok := (fun k_ => some k_ ≠ (v243 : Value).ownBlock ∧ some k_ ≠ (.slice (some ad254) x8_1.length co36 : Value).ownBlock ∧ some k_ ≠ (u10 : Value).ownBlock ∧ some k_ ≠ (v256 : Value).ownBlock)) (by (with_reducible repeat (first | apply Kd.R_alloc | apply Kd.R_drewN | apply Kd.R_drew)); exact Kd.R_mono HO_9.out (fun _ hk => ⟨⟨hk.1.2.1, ⟨hk.1.2.2.1, ⟨hk.1.2.2.2, hk.2⟩⟩⟩, hk.1.1⟩)) hg hat); have n3 := Az (Kd.R_after (ok := (fun k_ => some k_ ≠ (v243 : Value).ownBlock ∧ some k_ ≠ (.slice (some ad254) x8_1.length co36 : Value).ownBlock ∧ some k_ ≠ (.slice (some ad258) x9_1.length co38 : Value).ownBlock ∧ some k_ ≠ (v256 : Value).ownBlock)) (by (with_reducible repeat (first | apply Kd.R_alloc | apply Kd.R_drewN | apply Kd.R_drew)); exact Kd.R_mono HO_10.out (fun _ hk => ⟨⟨hk.1.2.1, ⟨hk.1.2.2.1, ⟨hk.1.2.2.2, hk.2⟩⟩⟩, hk.1.1⟩)) hg hat); have n4 := Az (blk_grown (g := gb235) (o := .cells #[.string a0_0, .slice A0_1 l0_1.length c0_1] 25 (0, 0)) (kU BK235.out) hg (Kd.R_ne HO_6.out BK235.out (by decide))); have n5 := Az (Kd.R_after (ok := (fun k_ => some k_ ≠ (v243 : Value).ownBlock ∧ some k_ ≠ (.slice (some ad254) x8_1.length co36 : Value).ownBlock ∧ some k_ ≠ (.slice (some ad258) x9_1.length co38 : Value).ownBlock ∧ some k_ ≠ (u10 : Value).ownBlock)) (by (with_reducible repeat (first | apply Kd.R_alloc | apply Kd.R_drewN | apply Kd.R_drew)); exact Kd.R_mono HO257.out (fun _ hk => ⟨⟨hk.2.1, ⟨hk.2.2.1, ⟨hk.2.2.2.1, hk.2.2.2.2⟩⟩⟩, hk.1⟩)) hg hat); have n6 := Az (hb); have n7 := Az (ho); clear HO_7 HO_8 HO_9 HO_10 BK235 HO257 HB HO_6; have HO_7 := n0; have HO_8 := n1; have HO_9 := n2; have HO_10 := n3; have BK235 := n4; have HO257 := n5; have HB := n6; have HO261 := n7; clear n0 n1 n2 n3 n4 n5 n6 n7 ho hb hg hat; have hcz40_0 : w39.cell? ⟨gb235, 0, none⟩ = some (.string a0_0) := (blk_cell BK235.out 0).trans rfl; have hcz40_1 : w39.cell? ⟨gb235, 1, none⟩ = some (.slice A0_1 l0_1.length c0_1) := (blk_cell BK235.out 1).trans rfl; have hfz40_0 := blk_frozen BK235.out 0; have hfz40_1 := blk_frozen BK235.out 1; have p28 : 0 ≤ (x12_1 : Int) := oA; have q28 : x12_1 < (a0_0.size : Int) := oA; have hx28 := bt_at a0_0 x12_1; replace p28 := eq_true p28; replace q28 := eq_true q28))
                   have n0 := Az (Kd.R_drew HO_7.out); have n1 := Az (Kd.R_drew HO_8.out); have n2 := Az (Kd.R_drew HO_9.out); have n3 := Az (Kd.R_drew HO_10.out); have n4 := Az (Kd.R_drew HO257.out); have n5 := Az (Kd.R_drew HO261.out); have n6 := Az (blk_drew BK235.out); have n7 := Az (below_drew1 HB.out); clear HO_7 HO_8 HO_9 HO_10 HO257 HO261 BK235 HB; have HO_7 := n0; have HO_8 := n1; have HO_9 := n2; have HO_10 := n3; have HO257 := n4; have HO261 := n5; have BK235 := n6; have HB := n7; clear n0 n1 n2 n3 n4 n5 n6 n7; have p262 : 0 ≤ ((ji23) : Int) := oA; have q262 : (ji23) < (x9_1.length : Int) := oA; obtain ⟨ad262, e262, hx262_0⟩ := Kd.at_int (Kd.R_reads' HO_9.out).2.2 (ji23) p262 q262; obtain rfl : ad258 = ad262 := (by injection e262); replace p262 := eq_true p262; replace q262 := eq_true q262; have p263 : 0 ≤ (x11_1 : Int) := oA; have q263 : x11_1 < (l0_1.length : Int) := oA; obtain ⟨ad263, e263, hx263_0⟩ := Kd.at_int HR0_1.out x11_1 p263 q263; have hw263_0 := hx263_0
                   cases e263
                   (try replace hx263_0 := (HB.out.cell (World.block_lt_of_cell? w _ hx263_0)).trans hx263_0); replace p263 := eq_true p263; replace q263 := eq_true q263
                   refine start_ (n := 16) (S := fun w' => w'.cell? ⟨gb235, 0, none⟩ = some (.string a0_0) ∧ w'.cell? ⟨gb235, 1, none⟩ = some (.slice (some ad263) l0_1.length c0_1) ∧ w'.cell? (ad258.add ((ji23)).toNat) = some (.int .i64 (rd x9_1 (ji23))) ∧ w'.cell? (ad263.add (x11_1).toNat) = some (.int .i64 (rd l0_1 x11_1))) (ds := [13, 14]) #[false, false, false, false, false, false, false, false, false, false, false, false, false, false, false, false] (by kernel_rfl) rfl rfl ⟨(blk_cell BK235.out 0).trans rfl, (blk_cell BK235.out 1).trans rfl, hx262_0, ((HB.out.cell (World.block_lt_of_cell? w _ hw263_0)).trans hw263_0)⟩ (fun hHeld => ?_); refine with_tabW spec_l6qWalk.tab14 spec_l6qWalk.bits14 (fun HT_ HW_ => ?_)
                   generalize w39.drew = w41 at HO_7 HO_8 HO_9 HO_10 HO257 HO261 BK235 HB hx262_0 hx263_0 hHeld ⊢
                   refine pure_ (i := 0) (N := some 53) (v := ?_) (a' := ?_) #[true, false, false, false, false, false, false, false, false, false, false, false, false, false, false, false] rfl rfl (any_of HT_.out (by kernel_rfl)) (fun _ _ _ h => h) (Or.inl ⟨by rfl, ?_⟩) ?_ ?_
                   rotate_left
                   ·
                    intro w'
                    go_simp
                    with_reducible rfl
                   rotate_left
                   ·
                    simp only [Act.put, List.setIfInBounds_toArray, List.set_cons_zero, List.set_cons_succ, i64_w, i32_w]
                    rfl
                   refine pure_ (i := 1) (N := some 54) (v := ?_) (a' := ?_) #[true, true, false, false, false, false, false, false, false, false, false, false, false, false, false, false] rfl rfl (any_of HT_.out (by kernel_rfl)) (fun _ _ _ h => h) (Or.inl ⟨by rfl, ?_⟩) ?_ ?_
                   rotate_left
                   ·
                    intro w'
                    go_simp
                    with_reducible rfl
                   rotate_left
                   ·
                    simp only [Act.put, List.setIfInBounds_toArray, List.set_cons_zero, List.set_cons_succ, i64_w, i32_w]
                    rfl
                   refine pure_ (i := 2) (N := some 55) (v := ?_) (a' := ?_) #[true, true, true, false, false, false, false, false, false, false, false, false, false, false, false, false] rfl rfl (any_of HT_.out (by kernel_rfl)) (fun _ _ _ h => h) (Or.inl ⟨by rfl, ?_⟩) ?_ ?_
                   rotate_left
                   ·
                    intro w'
                    go_simp
                    with_reducible rfl
                   rotate_left
                   ·
                    simp only [Act.put, List.setIfInBounds_toArray, List.set_cons_zero, List.set_cons_succ, i64_w, i32_w]
                    rfl
                   refine pure_ (i := 3) (N := some 56) (v := ?_) (a' := ?_) #[true, true, true, true, false, false, false, false, false, false, false, false, false, false, false, false] rfl rfl (any_of HT_.out (by kernel_rfl)) (fun _ _ _ h => h) (Or.inl ⟨by rfl, ?_⟩) ?_ ?_
                   rotate_left
                   ·
                    intro w'
                    go_simp
                    with_reducible rfl
                   rotate_left
                   ·
                    simp only [Act.put, List.setIfInBounds_toArray, List.set_cons_zero, List.set_cons_succ, i64_w, i32_w]
                    rfl
                   refine pure_ (i := 4) (N := some 57) (v := ?_) (a' := ?_) #[true, true, true, true, true, false, false, false, false, false, false, false, false, false, false, false] rfl rfl (any_of HT_.out (by kernel_rfl)) (fun _ _ _ h => h) (Or.inl ⟨by rfl, ?_⟩) ?_ ?_
                   rotate_left
                   ·
                    intro w'
                    go_simp
                    with_reducible rfl
                   rotate_left
                   ·
                    simp only [Act.put, List.setIfInBounds_toArray, List.set_cons_zero, List.set_cons_succ, i64_w, i32_w]
                    rfl
                   refine pure_ (i := 5) (N := some 58) (v := ?_) (a' := ?_) #[true, true, true, true, true, true, false, false, false, false, false, false, false, false, false, false] rfl rfl (any_of HT_.out (by kernel_rfl)) (fun _ _ _ h => h) (Or.inl ⟨by rfl, ?_⟩) ?_ ?_
                   rotate_left
                   ·
                    intro w'
                    go_simp
                    with_reducible rfl
                   rotate_left
                   ·
                    simp only [Act.put, List.setIfInBounds_toArray, List.set_cons_zero, List.set_cons_succ, i64_w, i32_w]
                    rfl
                   refine pure_ (i := 7) (N := some 60) (v := ?_) (a' := ?_) #[true, true, true, true, true, true, false, true, false, false, false, false, false, false, false, false] rfl rfl (any_of HT_.out (by kernel_rfl)) (fun _ _ _ h => h) (Or.inl ⟨by rfl, ?_⟩) ?_ ?_
                   rotate_left
                   ·
                    intro w'
                    go_simp
                    with_reducible rfl
                   rotate_left
                   ·
                    simp only [Act.put, List.setIfInBounds_toArray, List.set_cons_zero, List.set_cons_succ, i64_w, i32_w]
                    rfl
                   refine pure_ (i := 9) (N := some 62) (v := ?_) (a' := ?_) #[true, true, true, true, true, true, false, true, false, true, false, false, false, false, false, false] rfl rfl (any_of HT_.out (by kernel_rfl)) (fun _ _ _ h => h) (Or.inl ⟨by rfl, ?_⟩) ?_ ?_
                   rotate_left
                   ·
                    intro w'
                    go_simp
                    with_reducible rfl
                   rotate_left
                   ·
                    simp only [Act.put, List.setIfInBounds_toArray, List.set_cons_zero, List.set_cons_succ, i64_w, i32_w]
                    rfl
                   refine take_ (i := 6) (N := some 59) (v := ?_) (a' := ?_) #[true, true, true, true, true, true, true, true, false, true, false, false, false, false, false, false] rfl rfl (take_ofW HT_.out HW_.out (by kernel_rfl)) (fun _ _ _ h => h) (Or.inl ⟨by rfl, ?_⟩) hHeld ?_ ?_
                   rotate_left
                   ·
                    rintro w' ⟨s0, s1, s2, s3⟩
                    go_simp
                    with_reducible rfl
                   rotate_left
                   ·
                    simp only [Act.put, List.setIfInBounds_toArray, List.set_cons_zero, List.set_cons_succ, i64_w, i32_w]
                    rfl
                   refine take_ (i := 8) (N := some 61) (v := ?_) (a' := ?_) #[true, true, true, true, true, true, true, true, true, true, false, false, false, false, false, false] rfl rfl (take_ofW HT_.out HW_.out (by kernel_rfl)) (fun _ _ _ h => h) (Or.inl ⟨by rfl, ?_⟩) hHeld ?_ ?_
                   rotate_left
                   ·
                    rintro w' ⟨s0, s1, s2, s3⟩
                    go_simp
                    with_reducible rfl
                   rotate_left
                   ·
                    simp only [Act.put, List.setIfInBounds_toArray, List.set_cons_zero, List.set_cons_succ, i64_w, i32_w]
                    rfl
                   refine pure_ (i := 10) (N := some 63) (v := ?_) (a' := ?_) #[true, true, true, true, true, true, true, true, true, true, true, false, false, false, false, false] rfl rfl (any_of HT_.out (by kernel_rfl)) (fun _ _ _ h => h) (Or.inl ⟨by rfl, ?_⟩) ?_ ?_
                   rotate_left
                   ·
                    intro w'
                    go_simp
                    with_reducible rfl
                   rotate_left
                   ·
                    simp only [Act.put, List.setIfInBounds_toArray, List.set_cons_zero, List.set_cons_succ, i64_w, i32_w]
                    rfl
                   refine take_ (i := 11) (N := some 64) (v := ?_) (a' := ?_) #[true, true, true, true, true, true, true, true, true, true, true, true, false, false, false, false] rfl rfl (take_ofW HT_.out HW_.out (by kernel_rfl)) (fun _ _ _ h => h) (Or.inl ⟨by rfl, ?_⟩) hHeld ?_ ?_
                   rotate_left
                   ·
                    rintro w' ⟨s0, s1, s2, s3⟩
                    go_simp
                    with_reducible rfl
                   rotate_left
                   ·
                    simp only [Act.put, List.setIfInBounds_toArray, List.set_cons_zero, List.set_cons_succ, i64_w, i32_w]
                    rfl
                   refine pure_ (i := 12) (N := some 65) (v := ?_) (a' := ?_) #[true, true, true, true, true, true, true, true, true, true, true, true, true, false, false, false] rfl rfl (any_of HT_.out (by kernel_rfl)) (fun _ _ _ h => h) (Or.inl ⟨by rfl, ?_⟩) ?_ ?_
                   rotate_left
                   ·
                    intro w'
                    go_simp
                    with_reducible rfl
                   rotate_left
                   ·
                    simp only [Act.put, List.setIfInBounds_toArray, List.set_cons_zero, List.set_cons_succ, i64_w, i32_w]
                    rfl
                   refine last_ (i := 13) (N := some 66) #[true, true, true, true, true, true, true, true, true, true, true, true, true, true, false, false] rfl rfl (one_of HT_.out (by kernel_rfl)) (by decide) (fun K hK => ?_)
                   refine value_ (w1 := ?_) (v := ?_) (by rfl) rfl ?_ ?_
                   rotate_left 2
                   ·
                    go_simp
                    constructor
                    ·
                     rfl
                    ·
                     rfl
                   refine hK.out _ _ ?_
                   clear hK K
                   refine norm_ (a' := ?_) ?_ ?_
                   rotate_left
                   ·
                    show Act.put _ (some 66) _ = _
                    simp only [Act.put, List.setIfInBounds_toArray, List.set_cons_zero, List.set_cons_succ, i64_w, i32_w]
                    rfl
                   refine last_ (i := 14) (N := some 67) #[true, true, true, true, true, true, true, true, true, true, true, true, true, true, true, false] rfl rfl (one_of HT_.out (by kernel_rfl)) (by decide) (fun K hK => ?_)
                   refine Kd.R_append_step (Kd.int .i64) (w0 := w) w.heap.size (by rfl) (.tmp 53) (.tmp 66) 23 3 (.int .i64 0) 8 rfl Try.underlying23 info3 rfl (by decide) (by omega) (.slice (some ad258) x9_1.length co38) x9_1 (wrap64 ((rd x9_1 (ji23)) + (rd l0_1 x11_1))) [.int .i64 (wrap64 ((rd x9_1 (ji23)) + (rd l0_1 x11_1)))] (fun k_ => some k_ ≠ (v243 : Value).ownBlock ∧ some k_ ≠ (.slice (some ad254) x8_1.length co36 : Value).ownBlock ∧ some k_ ≠ (u10 : Value).ownBlock ∧ some k_ ≠ (v256 : Value).ownBlock ∧ some k_ ≠ (v260 : Value).ownBlock) (fun _ => False) rfl rfl ?aP (fun _ hk => hk.elim) ?aF ?aO ?aB ?aS ?aL ?_
                   (case aP => exact rfl)
                   (case aB => exact (bU1 HB.out GE235.out))
                   (case aF => exact (fun k_ hk => ⟨Kd.fresh' (Kd.R_lt (rU HO_7.out)) k_ hk, Kd.fresh' (Kd.R_lt (rU HO_8.out)) k_ hk, Kd.fresh' (Kd.R_lt (rU HO_10.out)) k_ hk, Kd.fresh' (Kd.R_lt (rU HO257.out)) k_ hk, Kd.fresh' (Kd.R_lt (rU HO261.out)) k_ hk⟩))
                   (case aO => exact (by (with_reducible repeat (first | apply Kd.R_alloc | apply Kd.R_drewN | apply Kd.R_drew)); exact Kd.R_mono HO_9.out (fun _ hk => ⟨hk.1.1, ⟨hk.1.2.1, ⟨hk.1.2.2.1, ⟨hk.1.2.2.2, hk.2⟩⟩⟩⟩)))
                   (case aS => exact (below_size (bU1 HB.out GE235.out)))
                   (case aL => have := LMc32.out; omega)
                   intro v265 w42 ho hb hg hat
                   rw [← Ny264.out] at ho; have n0 := Az (Kd.R_after (ok := (fun k_ => some k_ ≠ (.slice (some ad254) x8_1.length co36 : Value).ownBlock ∧ some k_ ≠ (u10 : Value).ownBlock ∧ some k_ ≠ (v256 : Value).ownBlock ∧ some k_ ≠ (v260 : Value).ownBlock)) (by (with_reducible repeat (first | apply Kd.R_alloc | apply Kd.R_drewN | apply Kd.R_drew)); exact Kd.R_mono HO_7.out (fun _ hk => ⟨⟨hk.1.1, ⟨hk.1.2.2.1, ⟨hk.1.2.2.2, hk.2⟩⟩⟩, hk.1.2.1⟩)) hg hat); have n1 := Az (Kd.R_after (ok := (fun k_ => some k_ ≠ (v243 : Value).ownBlock ∧ some k_ ≠ (u10 : Value).ownBlock ∧ some k_ ≠ (v256 : Value).ownBlock ∧ some k_ ≠ (v260 : Value).ownBlock)) (by (with_reducible repeat (first | apply Kd.R_alloc | apply Kd.R_drewN | apply Kd.R_drew)); exact Kd.R_mono HO_8.out (fun _ hk => ⟨⟨hk.1.1, ⟨hk.1.2.2.1, ⟨hk.1.2.2.2, hk.2⟩⟩⟩, hk.1.2.1⟩)) hg hat); have n2 := Az (Kd.R_after (ok := (fun k_ => some k_ ≠ (v243 : Value).ownBlock ∧ some k_ ≠ (.slice (some ad254) x8_1.length co36 : Value).ownBlock ∧ some k_ ≠ (v256 : Value).ownBlock ∧ some k_ ≠ (v260 : Value).ownBlock)) (by (with_reducible repeat (first | apply Kd.R_alloc | apply Kd.R_drewN | apply Kd.R_drew)); exact Kd.R_mono HO_10.out (fun _ hk => ⟨⟨hk.1.1, ⟨hk.1.2.1, ⟨hk.1.2.2.2, hk.2⟩⟩⟩, hk.1.2.2.1⟩)) hg hat); have n3 := Az (blk_grown (g := gb235) (o := .cells #[.string a0_0, .slice (some ad263) l0_1.length c0_1] 25 (0, 0)) (kU BK235.out) hg (Kd.R_ne HO_9.out BK235.out (by decide))); have n4 := Az (Kd.R_after (ok := (fun k_ => some k_ ≠ (v243 : Value).ownBlock ∧ some k_ ≠ (.slice (some ad254) x8_1.length co36 : Value).ownBlock ∧ some k_ ≠ (u10 : Value).ownBlock ∧ some k_ ≠ (v260 : Value).ownBlock)) (by (with_reducible repeat (first | apply Kd.R_alloc | apply Kd.R_drewN | apply Kd.R_drew)); exact Kd.R_mono HO257.out (fun _ hk => ⟨⟨hk.1.1, ⟨hk.1.2.1, ⟨hk.1.2.2.2, hk.2⟩⟩⟩, hk.1.2.2.1⟩)) hg hat); have n5 := Az (Kd.R_after (ok := (fun k_ => some k_ ≠ (v243 : Value).ownBlock ∧ some k_ ≠ (.slice (some ad254) x8_1.length co36 : Value).ownBlock ∧ some k_ ≠ (u10 : Value).ownBlock ∧ some k_ ≠ (v256 : Value).ownBlock)) (by (with_reducible repeat (first | apply Kd.R_alloc | apply Kd.R_drewN | apply Kd.R_drew)); exact Kd.R_mono HO261.out (fun _ hk => ⟨⟨hk.1, ⟨hk.2.1, ⟨hk.2.2.2.1, hk.2.2.2.2⟩⟩⟩, hk.2.2.1⟩)) hg hat); have n6 := Az (hb); have n7 := Az (ho); clear HO_7 HO_8 HO_10 BK235 HO257 HO261 HB HO_9; have HO_7 := n0; have HO_8 := n1; have HO_10 := n2; have BK235 := n3; have HO257 := n4; have HO261 := n5; have HB := n6; have HO266 := n7; clear n0 n1 n2 n3 n4 n5 n6 n7 ho hb hg hat
                   refine hK.out _ _ ?_
                   clear hK K
                   refine norm_ (a' := ?_) ?_ ?_
                   rotate_left
                   ·
                    show Act.put _ (some 67) _ = _
                    simp only [Act.put, List.setIfInBounds_toArray, List.set_cons_zero, List.set_cons_succ, i64_w, i32_w]
                    rfl
                   refine pure_ (i := 15) (N := some 9) (v := ?_) (a' := ?_) #[true, true, true, true, true, true, true, true, true, true, true, true, true, true, true, true] rfl rfl (any_of HT_.out (by kernel_rfl)) (fun _ _ _ h => h) (Or.inl ⟨by rfl, ?_⟩) ?_ ?_
                   rotate_left
                   ·
                    intro w'
                    go_simp
                    with_reducible rfl
                   rotate_left
                   ·
                    simp only [Act.put, List.setIfInBounds_toArray, List.set_cons_zero, List.set_cons_succ, i64_w, i32_w]
                    rfl
                   refine done_ (done_of HT_.out (by kernel_rfl)) ?_
                   try go_wp2_with (first | ((with_reducible refine gate_builtin (b := .append) (xs := #[.tmp 70, .tmp 72]) rfl ?_); at_builtin; refine Kd.R_append (Kd.int .i64) (w0 := w) w.heap.size rfl (.tmp 70) (.tmp 72) 23 3 (.int .i64 0) 8 rfl Try.underlying23 info3 rfl (by decide) (by omega) (.slice (some ad254) x8_1.length co36) x8_1 (wrap64 (x11_1 + 1)) [.int .i64 (wrap64 (x11_1 + 1))] (fun k_ => some k_ ≠ (v243 : Value).ownBlock ∧ some k_ ≠ (u10 : Value).ownBlock ∧ some k_ ≠ (v256 : Value).ownBlock ∧ some k_ ≠ (v260 : Value).ownBlock ∧ some k_ ≠ (v265 : Value).ownBlock) (fun _ => False) rfl rfl ?aP (fun _ hk => hk.elim) ?aF ?aO ?aB ?aS ?aL ?_; (case aP => exact rfl); (case aB => exact (bU1 HB.out GE235.out)); (case aF => exact (fun k_ hk => ⟨Kd.fresh' (Kd.R_lt (rU HO_7.out)) k_ hk, Kd.fresh' (Kd.R_lt (rU HO_10.out)) k_ hk, Kd.fresh' (Kd.R_lt (rU HO257.out)) k_ hk, Kd.fresh' (Kd.R_lt (rU HO261.out)) k_ hk, Kd.fresh' (Kd.R_lt (rU HO266.out)) k_ hk⟩)); (case aO => exact (by (with_reducible repeat (first | apply Kd.R_alloc | apply Kd.R_drewN | apply Kd.R_drew)); exact Kd.R_mono HO_8.out (fun _ hk => ⟨hk.1.1, ⟨hk.1.2.1, ⟨hk.1.2.2.1, ⟨hk.1.2.2.2, hk.2⟩⟩⟩⟩))); (case aS => exact (below_size (bU1 HB.out GE235.out))); (case aL => have := LMc33.out; omega); intro v268 w43 ho hb hg hat; rw [← Ny267.out] at ho; have n0 := Az (Kd.R_after (ok := (fun k_ => some k_ ≠ (u10 : Value).ownBlock ∧ some k_ ≠ (v256 : Value).ownBlock ∧ some k_ ≠ (v260 : Value).ownBlock ∧ some k_ ≠ (v265 : Value).ownBlock)) (by (with_reducible repeat (first | apply Kd.R_alloc | apply Kd.R_drewN | apply Kd.R_drew)); exact Kd.R_mono HO_7.out (fun _ hk => ⟨⟨hk.1.2.1, ⟨hk.1.2.2.1, ⟨hk.1.2.2.2, hk.2⟩⟩⟩, hk.1.1⟩)) hg hat); have n1 := Az (Kd.R_after (ok := (fun k_ => some k_ ≠ (v243 : Value).ownBlock ∧ some k_ ≠ (v256 : Value).ownBlock ∧ some k_ ≠ (v260 : Value).ownBlock ∧ some k_ ≠ (v265 : Value).ownBlock)) (by (with_reducible repeat (first | apply Kd.R_alloc | apply Kd.R_drewN | apply Kd.R_drew)); exact Kd.R_mono HO_10.out (fun _ hk => ⟨⟨hk.1.1, ⟨hk.1.2.2.1, ⟨hk.1.2.2.2, hk.2⟩⟩⟩, hk.1.2.1⟩)) hg hat); have n2 := Az (blk_grown (g := gb235) (o := .cells #[.string a0_0, .slice (some ad263) l0_1.length c0_1] 25 (0, 0)) (kU BK235.out) hg (Kd.R_ne HO_8.out BK235.out (by decide))); have n3 := Az (Kd.R_after (ok := (fun k_ => some k_ ≠ (v243 : Value).ownBlock ∧ some k_ ≠ (u10 : Value).ownBlock ∧ some k_ ≠ (v260 : Value).ownBlock ∧ some k_ ≠ (v265 : Value).ownBlock)) (by (with_reducible repeat (first | apply Kd.R_alloc | apply Kd.R_drewN | apply Kd.R_drew)); exact Kd.R_mono HO257.out (fun _ hk => ⟨⟨hk.1.1, ⟨hk.1.2.2.1, ⟨hk.1.2.2.2, hk.2⟩⟩⟩, hk.1.2.1⟩)) hg hat); have n4 := Az (Kd.R_after (ok := (fun k_ => some k_ ≠ (v243 : Value).ownBlock ∧ some k_ ≠ (u10 : Value).ownBlock ∧ some k_ ≠ (v256 : Value).ownBlock ∧ some k_ ≠ (v265 : Value).ownBlock)) (by (with_reducible repeat (first | apply Kd.R_alloc | apply Kd.R_drewN | apply Kd.R_drew)); exact Kd.R_mono HO261.out (fun _ hk => ⟨⟨hk.1.1, ⟨hk.1.2.2.1, ⟨hk.1.2.2.2, hk.2⟩⟩⟩, hk.1.2.1⟩)) hg hat); have n5 := Az (Kd.R_after (ok := (fun k_ => some k_ ≠ (v243 : Value).ownBlock ∧ some k_ ≠ (u10 : Value).ownBlock ∧ some k_ ≠ (v256 : Value).ownBlock ∧ some k_ ≠ (v260 : Value).ownBlock)) (by (with_reducible repeat (first | apply Kd.R_alloc | apply Kd.R_drewN | apply Kd.R_drew)); exact Kd.R_mono HO266.out (fun _ hk => ⟨⟨hk.1, ⟨hk.2.2.1, ⟨hk.2.2.2.1, hk.2.2.2.2⟩⟩⟩, hk.2.1⟩)) hg hat); have n6 := Az (hb); have n7 := Az (ho); clear HO_7 HO_10 BK235 HO257 HO261 HO266 HB HO_8; have HO_7 := n0; have HO_10 := n1; have BK235 := n2; have HO257 := n3; have HO261 := n4; have HO266 := n5; have HB := n6; have HO269 := n7; clear n0 n1 n2 n3 n4 n5 n6 n7; clear ho hb hg hat) | ((with_reducible refine gate_builtin (b := .append) (xs := #[.tmp 74, .tmp 76]) rfl ?_); at_builtin; refine Kd.R_append (Kd.int .i64) (w0 := w) w.heap.size rfl (.tmp 74) (.tmp 76) 23 3 (.int .i64 0) 8 rfl Try.underlying23 info3 rfl (by decide) (by omega) u10 x10_1 x12_1 [.int .i64 x12_1] (fun k_ => some k_ ≠ (v243 : Value).ownBlock ∧ some k_ ≠ (v256 : Value).ownBlock ∧ some k_ ≠ (v260 : Value).ownBlock ∧ some k_ ≠ (v265 : Value).ownBlock ∧ some k_ ≠ (v268 : Value).ownBlock) (fun _ => False) rfl rfl ?aP (fun _ hk => hk.elim) ?aF ?aO ?aB ?aS ?aL ?_; (case aP => exact rfl); (case aB => exact (bU1 HB.out GE235.out)); (case aF => exact (fun k_ hk => ⟨Kd.fresh' (Kd.R_lt (rU HO_7.out)) k_ hk, Kd.fresh' (Kd.R_lt (rU HO257.out)) k_ hk, Kd.fresh' (Kd.R_lt (rU HO261.out)) k_ hk, Kd.fresh' (Kd.R_lt (rU HO266.out)) k_ hk, Kd.fresh' (Kd.R_lt (rU HO269.out)) k_ hk⟩)); (case aO => exact (by (with_reducible repeat (first | apply Kd.R_alloc | apply Kd.R_drewN | apply Kd.R_drew)); exact Kd.R_mono HO_10.out (fun _ hk => ⟨hk.1.1, ⟨hk.1.2.1, ⟨hk.1.2.2.1, ⟨hk.1.2.2.2, hk.2⟩⟩⟩⟩))); (case aS => exact (below_size (bU1 HB.out GE235.out))); (case aL => have := LMc34.out; omega); intro v271 w44 ho hb hg hat; rw [← Ny270.out] at ho; have n0 := Az (Kd.R_after (ok := (fun k_ => some k_ ≠ (v256 : Value).ownBlock ∧ some k_ ≠ (v260 : Value).ownBlock ∧ some k_ ≠ (v265 : Value).ownBlock ∧ some k_ ≠ (v268 : Value).ownBlock)) (by (with_reducible repeat (first | apply Kd.R_alloc | apply Kd.R_drewN | apply Kd.R_drew)); exact Kd.R_mono HO_7.out (fun _ hk => ⟨⟨hk.1.2.1, ⟨hk.1.2.2.1, ⟨hk.1.2.2.2, hk.2⟩⟩⟩, hk.1.1⟩)) hg hat); have n1 := Az (blk_grown (g := gb235) (o := .cells #[.string a0_0, .slice (some ad263) l0_1.length c0_1] 25 (0, 0)) (kU BK235.out) hg (Kd.R_ne HO_10.out BK235.out (by decide))); have n2 := Az (Kd.R_after (ok := (fun k_ => some k_ ≠ (v243 : Value).ownBlock ∧ some k_ ≠ (v260 : Value).ownBlock ∧ some k_ ≠ (v265 : Value).ownBlock ∧ some k_ ≠ (v268 : Value).ownBlock)) (by (with_reducible repeat (first | apply Kd.R_alloc | apply Kd.R_drewN | apply Kd.R_drew)); exact Kd.R_mono HO257.out (fun _ hk => ⟨⟨hk.1.1, ⟨hk.1.2.2.1, ⟨hk.1.2.2.2, hk.2⟩⟩⟩, hk.1.2.1⟩)) hg hat); have n3 := Az (Kd.R_after (ok := (fun k_ => some k_ ≠ (v243 : Value).ownBlock ∧ some k_ ≠ (v256 : Value).ownBlock ∧ some k_ ≠ (v265 : Value).ownBlock ∧ some k_ ≠ (v268 : Value).ownBlock)) (by (with_reducible repeat (first | apply Kd.R_alloc | apply Kd.R_drewN | apply Kd.R_drew)); exact Kd.R_mono HO261.out (fun _ hk => ⟨⟨hk.1.1, ⟨hk.1.2.2.1, ⟨hk.1.2.2.2, hk.2⟩⟩⟩, hk.1.2.1⟩)) hg hat); have n4 := Az (Kd.R_after (ok := (fun k_ => some k_ ≠ (v243 : Value).ownBlock ∧ some k_ ≠ (v256 : Value).ownBlock ∧ some k_ ≠ (v260 : Value).ownBlock ∧ some k_ ≠ (v268 : Value).ownBlock)) (by (with_reducible repeat (first | apply Kd.R_alloc | apply Kd.R_drewN | apply Kd.R_drew)); exact Kd.R_mono HO266.out (fun _ hk => ⟨⟨hk.1.1, ⟨hk.1.2.2.1, ⟨hk.1.2.2.2, hk.2⟩⟩⟩, hk.1.2.1⟩)) hg hat); have n5 := Az (Kd.R_after (ok := (fun k_ => some k_ ≠ (v243 : Value).ownBlock ∧ some k_ ≠ (v256 : Value).ownBlock ∧ some k_ ≠ (v260 : Value).ownBlock ∧ some k_ ≠ (v265 : Value).ownBlock)) (by (with_reducible repeat (first | apply Kd.R_alloc | apply Kd.R_drewN | apply Kd.R_drew)); exact Kd.R_mono HO269.out (fun _ hk => ⟨⟨hk.1, ⟨hk.2.2.1, ⟨hk.2.2.2.1, hk.2.2.2.2⟩⟩⟩, hk.2.1⟩)) hg hat); have n6 := Az (hb); have n7 := Az (ho); clear HO_7 BK235 HO257 HO261 HO266 HO269 HB HO_10; have HO_7 := n0; have BK235 := n1; have HO257 := n2; have HO261 := n3; have HO266 := n4; have HO269 := n5; have HB := n6; have HO272 := n7; clear n0 n1 n2 n3 n4 n5 n6 n7; clear ho hb hg hat))
                   (first | go_roundg k1 | (refine Handed.intro k1 ?measure ?_; rotate_left; go_step; (try simp only [add_plain]); (repeat apply Exists.intro); refine ⟨?rel, rfl⟩))
                   case measure => have := HK1.out; omega
                   case rel => exact ⟨(y255), (y259), (x7_1), (y267), (y264), (y270), (wrap64 (x11_1 + 1)), (wrap64 (x12_1 + 1)), rS, rS, H', ⟨by have := HK1.out; omega⟩, ⟨by (with_reducible repeat (first | apply Kd.R_alloc | apply Kd.R_drewN | apply Kd.R_drew)); exact Kd.R_mono HO257.out (fun _ hk => ⟨hk.1.2.1, ⟨hk.1.1, ⟨hk.1.2.2.2, ⟨hk.1.2.2.1, hk.2⟩⟩⟩⟩)⟩, ⟨by (with_reducible repeat (first | apply Kd.R_alloc | apply Kd.R_drewN | apply Kd.R_drew)); exact Kd.R_mono HO261.out (fun _ hk => ⟨hk.1.2.1, ⟨hk.1.1, ⟨hk.1.2.2.2, ⟨hk.1.2.2.1, hk.2⟩⟩⟩⟩)⟩, ⟨by (with_reducible repeat (first | apply Kd.R_alloc | apply Kd.R_drewN | apply Kd.R_drew)); exact Kd.R_mono HO_7.out (fun _ hk => ⟨hk.1.1, ⟨hk.1.2.1, ⟨hk.1.2.2.2, ⟨hk.1.2.2.1, hk.2⟩⟩⟩⟩)⟩, ⟨by (with_reducible repeat (first | apply Kd.R_alloc | apply Kd.R_drewN | apply Kd.R_drew)); exact Kd.R_mono HO269.out (fun _ hk => ⟨hk.1.2.1, ⟨hk.1.2.2.1, ⟨hk.1.1, ⟨hk.1.2.2.2, hk.2⟩⟩⟩⟩)⟩, ⟨by (with_reducible repeat (first | apply Kd.R_alloc | apply Kd.R_drewN | apply Kd.R_drew)); exact Kd.R_mono HO266.out (fun _ hk => ⟨hk.1.2.1, ⟨hk.1.2.2.1, ⟨hk.1.1, ⟨hk.1.2.2.2, hk.2⟩⟩⟩⟩)⟩, ⟨by (with_reducible repeat (first | apply Kd.R_alloc | apply Kd.R_drewN | apply Kd.R_drew)); exact Kd.R_mono HO272.out (fun _ hk => ⟨hk.2.1, ⟨hk.2.2.1, ⟨hk.1, ⟨hk.2.2.2.2, hk.2.2.2.1⟩⟩⟩⟩)⟩, ⟨kU BK235.out⟩, ⟨bU1 HB.out GE235.out⟩⟩
                  ·
                   rw [if_neg c34] at H
                   exact absurd H (by simp)
                 ·
                  rw [if_neg c33] at H
                  exact absurd H (by simp)
                ·
                 rw [if_neg c32] at H
                 exact absurd H (by simp)
               ·
                rw [if_neg c31] at H
                exact absurd H (by simp)
              ·
               rw [if_neg c30] at H
               exact absurd H (by simp)
             ·
              rw [if_neg c29] at H; have c29b0 := beq_eq_false_iff_ne.mpr c29; have c29b1 := bne_iff_ne.mpr c29
              by_cases c45 : (ji19) ≤ (x8_1.length : Int)
              ·
               rw [if_pos c45] at H; have c45b0 := eq_true c45; have c45b1 := decide_eq_true c45; clear c45; obtain ⟨y273, hy273⟩ : ∃ y_ : List Int, y_ = (x8_1.take ((ji19) : Int).toNat) := ⟨_, rfl⟩; replace H : (if (ji23) ≤ (x9_1.length : Int) then (if 0 ≤ (wrap64 ((x10_1.length : Int) - 1)) then (if (wrap64 ((x10_1.length : Int) - 1)) < (x10_1.length : Int) then (if (wrap64 ((x10_1.length : Int) - 1)) ≤ (x10_1.length : Int) then (if x12_1 < (x7_1.length : Int) then (if 0 ≤ (rd x10_1 (wrap64 ((x10_1.length : Int) - 1))) then (if (rd x10_1 (wrap64 ((x10_1.length : Int) - 1))) < (x7_1.length : Int) then (spec_l6qWalk.l0 k1 y255 y259 ((x7_1.set (x12_1 : Int).toNat (rd x10_1 (wrap64 ((x10_1.length : Int) - 1)))).set ((rd x10_1 (wrap64 ((x10_1.length : Int) - 1))) : Int).toNat x12_1) y273 (x9_1.take ((ji23) : Int).toNat) (x10_1.take ((wrap64 ((x10_1.length : Int) - 1)) : Int).toNat) x11_1 (wrap64 (x12_1 + 1)) a0_0 l0_1) else (none)) else (none)) else (none)) else (none)) else (none)) else (none)) else (none)) = some (r1, r2, r3) := hR hy273 H; have Ny273 := Az hy273; clear hy273
               by_cases c46 : (ji23) ≤ (x9_1.length : Int)
               ·
                rw [if_pos c46] at H; have c46b0 := eq_true c46; have c46b1 := decide_eq_true c46; clear c46; obtain ⟨y276, hy276⟩ : ∃ y_ : List Int, y_ = (x9_1.take ((ji23) : Int).toNat) := ⟨_, rfl⟩; replace H : (if 0 ≤ (wrap64 ((x10_1.length : Int) - 1)) then (if (wrap64 ((x10_1.length : Int) - 1)) < (x10_1.length : Int) then (if (wrap64 ((x10_1.length : Int) - 1)) ≤ (x10_1.length : Int) then (if x12_1 < (x7_1.length : Int) then (if 0 ≤ (rd x10_1 (wrap64 ((x10_1.length : Int) - 1))) then (if (rd x10_1 (wrap64 ((x10_1.length : Int) - 1))) < (x7_1.length : Int) then (spec_l6qWalk.l0 k1 y255 y259 ((x7_1.set (x12_1 : Int).toNat (rd x10_1 (wrap64 ((x10_1.length : Int) - 1)))).set ((rd x10_1 (wrap64 ((x10_1.length : Int) - 1))) : Int).toNat x12_1) y273 y276 (x10_1.take ((wrap64 ((x10_1.length : Int) - 1)) : Int).toNat) x11_1 (wrap64 (x12_1 + 1)) a0_0 l0_1) else (none)) else (none)) else (none)) else (none)) else (none)) else (none)) = some (r1, r2, r3) := hR hy276 H; have Ny276 := Az hy276; clear hy276; obtain ⟨ji47, hji47⟩ : ∃ j_ : Int, (wrap64 ((x10_1.length : Int) - 1)) = j_ := ⟨_, rfl⟩
                replace H : (if 0 ≤ (ji47) then (if (ji47) < (x10_1.length : Int) then (if (ji47) ≤ (x10_1.length : Int) then (if x12_1 < (x7_1.length : Int) then (if 0 ≤ (rd x10_1 (ji47)) then (if (rd x10_1 (ji47)) < (x7_1.length : Int) then (spec_l6qWalk.l0 k1 y255 y259 ((x7_1.set (x12_1 : Int).toNat (rd x10_1 (ji47))).set ((rd x10_1 (ji47)) : Int).toNat x12_1) y273 y276 (x10_1.take ((ji47) : Int).toNat) x11_1 (wrap64 (x12_1 + 1)) a0_0 l0_1) else (none)) else (none)) else (none)) else (none)) else (none)) else (none)) = some (r1, r2, r3) := by first | (rw [hji47] at H; exact H) | (simp only [hji47] at H ⊢; exact H)
                have hji47w : (IntKind.i64.wrap ((x10_1.length : Int) - 1)) = ji47 := (i64_w _).trans hji47
                by_cases c48 : 0 ≤ (ji47)
                ·
                 rw [if_pos c48] at H; have c48b0 := decide_eq_true c48; clear c48
                 by_cases c49 : (ji47) < (x10_1.length : Int)
                 ·
                  rw [if_pos c49] at H; have c49b0 := decide_eq_true c49; clear c49
                  by_cases c50 : (ji47) ≤ (x10_1.length : Int)
                  ·
                   rw [if_pos c50] at H; have c50b0 := eq_true c50; have c50b1 := decide_eq_true c50; clear c50; obtain ⟨y280, hy280⟩ : ∃ y_ : List Int, y_ = (x10_1.take ((ji47) : Int).toNat) := ⟨_, rfl⟩; replace H : (if x12_1 < (x7_1.length : Int) then (if 0 ≤ (rd x10_1 (ji47)) then (if (rd x10_1 (ji47)) < (x7_1.length : Int) then (spec_l6qWalk.l0 k1 y255 y259 ((x7_1.set (x12_1 : Int).toNat (rd x10_1 (ji47))).set ((rd x10_1 (ji47)) : Int).toNat x12_1) y273 y276 y280 x11_1 (wrap64 (x12_1 + 1)) a0_0 l0_1) else (none)) else (none)) else (none)) = some (r1, r2, r3) := hR hy280 H; have Ny280 := Az hy280; clear hy280
                   by_cases c51 : x12_1 < (x7_1.length : Int)
                   ·
                    rw [if_pos c51] at H; have c51b0 := decide_eq_true c51; clear c51; obtain ⟨y283, hy283⟩ : ∃ y_ : List Int, y_ = (x7_1.set (x12_1 : Int).toNat (rd x10_1 (ji47))) := ⟨_, rfl⟩; replace H : (if 0 ≤ (rd x10_1 (ji47)) then (if (rd x10_1 (ji47)) < (x7_1.length : Int) then (spec_l6qWalk.l0 k1 y255 y259 (y283.set ((rd x10_1 (ji47)) : Int).toNat x12_1) y273 y276 y280 x11_1 (wrap64 (x12_1 + 1)) a0_0 l0_1) else (none)) else (none)) = some (r1, r2, r3) := hR hy283 H; have Ny283 := Az hy283; clear hy283
                    by_cases c53 : 0 ≤ (rd x10_1 (ji47))
                    ·
                     rw [if_pos c53] at H; have c53b0 := decide_eq_true c53; clear c53
                     by_cases c54 : (rd x10_1 (ji47)) < (x7_1.length : Int)
                     ·
                      rw [if_pos c54] at H; have c54b0 := decide_eq_true c54; clear c54; obtain ⟨y284, hy284⟩ : ∃ y_ : List Int, y_ = (y283.set ((rd x10_1 (ji47)) : Int).toNat x12_1) := ⟨_, rfl⟩; replace H : (spec_l6qWalk.l0 k1 y255 y259 y284 y273 y276 y280 x11_1 (wrap64 (x12_1 + 1)) a0_0 l0_1) = some (r1, r2, r3) := hR hy284 H; have Ny284 := Az hy284; clear hy284; have H' := Az H; clear H; have hcz56_0 : wr.cell? ⟨gb235, 0, none⟩ = some (.string a0_0) := (blk_cell BK235.out 0).trans rfl; have hcz56_1 : wr.cell? ⟨gb235, 1, none⟩ = some (.slice A0_1 l0_1.length c0_1) := (blk_cell BK235.out 1).trans rfl; have hfz56_0 := blk_frozen BK235.out 0; have hfz56_1 := blk_frozen BK235.out 1; obtain ⟨Ao57, co57, eo57⟩ := Kd.R_slice HO_8.out; subst eo57; have p254 : 0 ≤ ((ji19) : Int) := oA; have q254 : (ji19) < (x8_1.length : Int) := oA; obtain ⟨ad254, e254, hx254_0⟩ := Kd.at_int (Kd.R_reads' HO_8.out).2.2 (ji19) p254 q254
                      cases e254
                      replace p254 := eq_true p254; replace q254 := eq_true q254
                      go_wp2_with (first | ((with_reducible refine gate_builtin (b := .append) (xs := #[.tmp 30, .tmp 37]) rfl ?_); at_builtin; refine Kd.R_append (Kd.int .i64) (w0 := w) w.heap.size rfl (.tmp 30) (.tmp 37) 23 3 (.int .i64 0) 8 rfl Try.underlying23 info3 rfl (by decide) (by omega) u5 x5_1 (rd x8_1 (ji19)) [.int .i64 (rd x8_1 (ji19))] (fun k_ => some k_ ≠ (u6 : Value).ownBlock ∧ some k_ ≠ (v243 : Value).ownBlock ∧ some k_ ≠ (.slice (some ad254) x8_1.length co57 : Value).ownBlock ∧ some k_ ≠ (u9 : Value).ownBlock ∧ some k_ ≠ (u10 : Value).ownBlock) (fun _ => False) rfl rfl ?aP (fun _ hk => hk.elim) ?aF ?aO ?aB ?aS ?aL ?_; (case aP => exact rfl); (case aB => exact (bU1 HB.out GE235.out)); (case aF => exact (fun k_ hk => ⟨Kd.fresh' (Kd.R_lt (rU HO_6.out)) k_ hk, Kd.fresh' (Kd.R_lt (rU HO_7.out)) k_ hk, Kd.fresh' (Kd.R_lt (rU HO_8.out)) k_ hk, Kd.fresh' (Kd.R_lt (rU HO_9.out)) k_ hk, Kd.fresh' (Kd.R_lt (rU HO_10.out)) k_ hk⟩)); (case aO => exact (rU HO_5.out)); (case aS => exact (below_size (bU1 HB.out GE235.out))); (case aL => have := LMc22.out; omega); intro v256 w58 ho hb hg hat; rw [← Ny255.out] at ho; have n0 := Az (Kd.R_after (ok := (fun k_ => some k_ ≠ (v243 : Value).ownBlock ∧ some k_ ≠ (.slice (some ad254) x8_1.length co57 : Value).ownBlock ∧ some k_ ≠ (u9 : Value).ownBlock ∧ some k_ ≠ (u10 : Value).ownBlock)) (by (with_reducible repeat (first | apply Kd.R_alloc | apply Kd.R_drewN | apply Kd.R_drew)); exact Kd.R_mono HO_6.out (fun _ hk => ⟨⟨hk.2.1, ⟨hk.2.2.1, ⟨hk.2.2.2.1, hk.2.2.2.2⟩⟩⟩, hk.1⟩)) hg hat); have n1 := Az (Kd.R_after (ok := (fun k_ => some k_ ≠ (u6 : Value).ownBlock ∧ some k_ ≠ (.slice (some ad254) x8_1.length co57 : Value).ownBlock ∧ some k_ ≠ (u9 : Value).ownBlock ∧ some k_ ≠ (u10 : Value).ownBlock)) (by (with_reducible repeat (first | apply Kd.R_alloc | apply Kd.R_drewN | apply Kd.R_drew)); exact Kd.R_mono HO_7.out (fun _ hk => ⟨⟨hk.2.1, ⟨hk.2.2.1, ⟨hk.2.2.2.1, hk.2.2.2.2⟩⟩⟩, hk.1⟩)) hg hat); have n2 := Az (Kd.R_after (ok := (fun k_ => some k_ ≠ (u6 : Value).ownBlock ∧ some k_ ≠ (v243 : Value).ownBlock ∧ some k_ ≠ (u9 : Value).ownBlock ∧ some k_ ≠ (u10 : Value).ownBlock)) (by (with_reducible repeat (first | apply Kd.R_alloc | apply Kd.R_drewN | apply Kd.R_drew)); exact Kd.R_mono HO_8.out (fun _ hk => ⟨⟨hk.2.1, ⟨hk.2.2.1, ⟨hk.2.2.2.1, hk.2.2.2.2⟩⟩⟩, hk.1⟩)) hg hat); have n3 := Az (Kd.R_after (ok := (fun k_ => some k_ ≠ (u6 : Value).ownBlock ∧ some k_ ≠ (v243 : Value).ownBlock ∧ some k_ ≠ (.slice (some ad254) x8_1.length co57 : Value).ownBlock ∧ some k_ ≠ (u10 : Value).ownBlock)) (by (with_reducible repeat (first | apply Kd.R_alloc | apply Kd.R_drewN | apply Kd.R_drew)); exact Kd.R_mono HO_9.out (fun _ hk => ⟨⟨hk.2.1, ⟨hk.2.2.1, ⟨hk.2.2.2.1, hk.2.2.2.2⟩⟩⟩, hk.1⟩)) hg hat); have n4 := Az (Kd.R_after (ok := (fun k_ => some k_ ≠ (u6 : Value).ownBlock ∧ some k_ ≠ (v243 : Value).ownBlock ∧ some k_ ≠ (.slice (some ad254) x8_1.length co57 : Value).ownBlock ∧ some k_ ≠ (u9 : Value).ownBlock)) (by (with_reducible repeat (first | apply Kd.R_alloc | apply Kd.R_drewN | apply Kd.R_drew)); exact Kd.R_mono HO_10.out (fun _ hk => ⟨⟨hk.2.1, ⟨hk.2.2.1, ⟨hk.2.2.2.1, hk.2.2.2.2⟩⟩⟩, hk.1⟩)) hg hat); have n5 := Az (blk_grown (g := gb235) (o := .cells #[.string a0_0, .slice A0_1 l0_1.length c0_1] 25 (0, 0)) (kU BK235.out) hg (Kd.R_ne HO_5.out BK235.out (by decide))); have n6 := Az (hb); have n7 := Az (ho); clear HO_6 HO_7 HO_8 HO_9 HO_10 BK235 HB HO_5; have HO_6 := n0; have HO_7 := n1; have HO_8 := n2; have HO_9 := n3; have HO_10 := n4; have BK235 := n5; have HB := n6; have HO257 := n7; clear n0 n1 n2 n3 n4 n5 n6 n7 ho hb hg hat; obtain ⟨Ao59, co59, eo59⟩ := Kd.R_slice HO_9.out; subst eo59; have p258 : 0 ≤ ((ji23) : Int) := oA; have q258 : (ji23) < (x9_1.length : Int) := oA; obtain ⟨ad258, e258, hx258_0⟩ := Kd.at_int (Kd.R_reads' HO_9.out).2.2 (ji23) p258 q258; cases e258; replace p258 := eq_true p258; replace q258 := eq_true q258) | ((with_reducible refine gate_builtin (b := .append) (xs := #[.tmp 39, .tmp 46]) rfl ?_); at_builtin; refine Kd.R_append (Kd.int .i64) (w0 := w) w.heap.size rfl (.tmp 39) (.tmp 46) 23 3 (.int .i64 0) 8 rfl Try.underlying23 info3 rfl (by decide) (by omega) u6 x6_1 (rd x9_1 (ji23)) [.int .i64 (rd x9_1 (ji23))] (fun k_ => some k_ ≠ (v243 : Value).ownBlock ∧ some k_ ≠ (.slice (some ad254) x8_1.length co57 : Value).ownBlock ∧ some k_ ≠ (.slice (some ad258) x9_1.length co59 : Value).ownBlock ∧ some k_ ≠ (u10 : Value).ownBlock ∧ some k_ ≠ (v256 : Value).ownBlock) (fun _ => False) rfl rfl ?aP (fun _ hk => hk.elim) ?aF ?aO ?aB ?aS ?aL ?_; (case aP => exact rfl); (case aB => exact (bU1 HB.out GE235.out)); (case aF => exact (fun k_ hk => ⟨Kd.fresh' (Kd.R_lt (rU HO_7.out)) k_ hk, Kd.fresh' (Kd.R_lt (rU HO_8.out)) k_ hk, Kd.fresh' (Kd.R_lt (rU HO_9.out)) k_ hk, Kd.fresh' (Kd.R_lt (rU HO_10.out)) k_ hk, Kd.fresh' (Kd.R_lt (rU HO257.out)) k_ hk⟩)); (case aO => exact (by (with_reducible repeat (first | apply Kd.R_alloc | apply Kd.R_drewN | apply Kd.R_drew)); exact Kd.R_mono HO_6.out (fun _ hk => ⟨hk.1.1, ⟨hk.1.2.1, ⟨hk.1.2.2.1, ⟨hk.1.2.2.2, hk.2⟩⟩⟩⟩))); (case aS => exact (below_size (bU1 HB.out GE235.out))); (case aL => have := LMc26.out; omega); intro v260 w60 ho hb hg hat; rw [← Ny259.out] at ho; have n0 := Az (Kd.R_after (ok := (fun k_ => some k_ ≠ (.slice (some ad254) x8_1.length co57 : Value).ownBlock ∧ some k_ ≠ (.slice (some ad258) x9_1.length co59 : Value).ownBlock ∧ some k_ ≠ (u10 : Value).ownBlock ∧ some k_ ≠ (v256 : Value).ownBlock)) (by (with_reducible repeat (first | apply Kd.R_alloc | apply Kd.R_drewN | apply Kd.R_drew)); exact Kd.R_mono HO_7.out (fun _ hk => ⟨⟨hk.1.2.1, ⟨hk.1.2.2.1, ⟨hk.1.2.2.2, hk.2⟩⟩⟩, hk.1.1⟩)) hg hat); have n1 := Az (Kd.R_after (ok := (fun k_ => some k_ ≠ (v243 : Value).ownBlock ∧ some k_ ≠ (.slice (some ad258) x9_1.length co59 : Value).ownBlock ∧ some k_ ≠ (u10 : Value).ownBlock ∧ some k_ ≠ (v256 : Value).ownBlock)) (by (with_reducible repeat (first | apply Kd.R_alloc | apply Kd.R_drewN | apply Kd.R_drew)); exact Kd.R_mono HO_8.out (fun _ hk => ⟨⟨hk.1.2.1, ⟨hk.1.2.2.1, ⟨hk.1.2.2.2, hk.2⟩⟩⟩, hk.1.1⟩)) hg hat); have n2 := Az (Kd.R_after (ok := (fun k_ => some k_ ≠ (v243 : Value).ownBlock ∧ some k_ ≠ (.slice (some ad254) x8_1.length co57 : Value).ownBlock ∧ some k_ ≠ (u10 : Value).ownBlock ∧ some k_ ≠ (v256 : Value).ownBlock)) (by (with_reducible repeat (first | apply Kd.R_alloc | apply Kd.R_drewN | apply Kd.R_drew)); exact Kd.R_mono HO_9.out (fun _ hk => ⟨⟨hk.1.2.1, ⟨hk.1.2.2.1, ⟨hk.1.2.2.2, hk.2⟩⟩⟩, hk.1.1⟩)) hg hat); have n3 := Az (Kd.R_after (ok := (fun k_ => some k_ ≠ (v243 : Value).ownBlock ∧ some k_ ≠ (.slice (some ad254) x8_1.length co57 : Value).ownBlock ∧ some k_ ≠ (.slice (some ad258) x9_1.length co59 : Value).ownBlock ∧ some k_ ≠ (v256 : Value).ownBlock)) (by (with_reducible repeat (first | apply Kd.R_alloc | apply Kd.R_drewN | apply Kd.R_drew)); exact Kd.R_mono HO_10.out (fun _ hk => ⟨⟨hk.1.2.1, ⟨hk.1.2.2.1, ⟨hk.1.2.2.2, hk.2⟩⟩⟩, hk.1.1⟩)) hg hat); have n4 := Az (blk_grown (g := gb235) (o := .cells #[.string a0_0, .slice A0_1 l0_1.length c0_1] 25 (0, 0)) (kU BK235.out) hg (Kd.R_ne HO_6.out BK235.out (by decide))); have n5 := Az (Kd.R_after (ok := (fun k_ => some k_ ≠ (v243 : Value).ownBlock ∧ some k_ ≠ (.slice (some ad254) x8_1.length co57 : Value).ownBlock ∧ some k_ ≠ (.slice (some ad258) x9_1.length co59 : Value).ownBlock ∧ some k_ ≠ (u10 : Value).ownBlock)) (by (with_reducible repeat (first | apply Kd.R_alloc | apply Kd.R_drewN | apply Kd.R_drew)); exact Kd.R_mono HO257.out (fun _ hk => ⟨⟨hk.2.1, ⟨hk.2.2.1, ⟨hk.2.2.2.1, hk.2.2.2.2⟩⟩⟩, hk.1⟩)) hg hat); have n6 := Az (hb); have n7 := Az (ho); clear HO_7 HO_8 HO_9 HO_10 BK235 HO257 HB HO_6; have HO_7 := n0; have HO_8 := n1; have HO_9 := n2; have HO_10 := n3; have BK235 := n4; have HO257 := n5; have HB := n6; have HO261 := n7; clear n0 n1 n2 n3 n4 n5 n6 n7 ho hb hg hat; have hcz61_0 : w60.cell? ⟨gb235, 0, none⟩ = some (.string a0_0) := (blk_cell BK235.out 0).trans rfl; have hcz61_1 : w60.cell? ⟨gb235, 1, none⟩ = some (.slice A0_1 l0_1.length c0_1) := (blk_cell BK235.out 1).trans rfl; have hfz61_0 := blk_frozen BK235.out 0; have hfz61_1 := blk_frozen BK235.out 1; have p28 : 0 ≤ (x12_1 : Int) := oA; have q28 : x12_1 < (a0_0.size : Int) := oA; have hx28 := bt_at a0_0 x12_1; replace p28 := eq_true p28; replace q28 := eq_true q28; have q62 : ((ji19) : Int) ≤ ((x8_1.length : Int) : Int) := oA; obtain ⟨i062, hi062, _, hsz62, _⟩ := info_parts info3; have hcut62 := cut_to (P := Try.prog) 23 3 .i64 Try.underlying23 hi062 (some ad254) x8_1.length co57 (ji19) (oA) q62 (Kd.R_reads' HO_8.out).2.1; have hr62 := Kd.R_take (m := ((ji19) : Int).toNat) HO_8.out (by omega); have hy62 : y273.length = ((ji19) : Int).toNat := (by rw [Ny273.out, List.length_take]; omega); rw [← Ny273.out] at hr62; rw [← hy62] at hr62 hcut62; clear hy62 hi062 hsz62 HO_8; have HO275 := Az hr62; clear hr62; replace q62 := eq_true q62; have q63 : ((ji23) : Int) ≤ ((x9_1.length : Int) : Int) := oA; obtain ⟨i063, hi063, _, hsz63, _⟩ := info_parts info3; have hcut63 := cut_to (P := Try.prog) 23 3 .i64 Try.underlying23 hi063 (some ad258) x9_1.length co59 (ji23) (oA) q63 (Kd.R_reads' HO_9.out).2.1; have hr63 := Kd.R_take (m := ((ji23) : Int).toNat) HO_9.out (by omega); have hy63 : y276.length = ((ji23) : Int).toNat := (by rw [Ny276.out, List.length_take]; omega); rw [← Ny276.out] at hr63; rw [← hy63] at hr63 hcut63; clear hy63 hi063 hsz63 HO_9; have HO278 := Az hr63; clear hr63; replace q63 := eq_true q63; obtain ⟨Ao64, co64, eo64⟩ := Kd.R_slice HO_10.out; subst eo64; have p279 : 0 ≤ ((ji47) : Int) := oA; have q279 : (ji47) < (x10_1.length : Int) := oA; obtain ⟨ad279, e279, hx279_0⟩ := Kd.at_int (Kd.R_reads' HO_10.out).2.2 (ji47) p279 q279; cases e279; replace p279 := eq_true p279; replace q279 := eq_true q279; have q65 : ((ji47) : Int) ≤ ((x10_1.length : Int) : Int) := oA; obtain ⟨i065, hi065, _, hsz65, _⟩ := info_parts info3; have hcut65 := cut_to (P := Try.prog) 23 3 .i64 Try.underlying23 hi065 (some ad279) x10_1.length co64 (ji47) (oA) q65 (Kd.R_reads' HO_10.out).2.1; have hr65 := Kd.R_take (m := ((ji47) : Int).toNat) HO_10.out (by omega); have hy65 : y280.length = ((ji47) : Int).toNat := (by rw [Ny280.out, List.length_take]; omega); rw [← Ny280.out] at hr65; rw [← hy65] at hr65 hcut65; clear hy65 hi065 hsz65 HO_10; have HO282 := Az hr65; clear hr65; replace q65 := eq_true q65; have p52 : 0 ≤ (x12_1 : Int) := oA; have q52 : (x12_1 : Int) < ((x7_1.length : Int) : Int) := oA; obtain ⟨go52, co52, eo52, gb52, gl52, cl52, HG52⟩ := Kd.R_form HO_7.out (by omega); (first | cases eo52 | (injection eo52 with ea_ en_ ec_; (first | subst ea_ | (injection ea_ with ea_; subst ea_)); subst ec_; clear en_)); have GB52 := Az gb52; have GG52 := Az HG52; clear gb52 gl52 HG52; obtain ⟨hx52_0, hf52_0⟩ := Kd.R_celln 0 HO_7.out (x12_1 : Int) p52 q52; replace p52 := eq_true p52; replace q52 := eq_true q52; have n_ := Az (Kd.R_mono (ok' := (fun k_ => some k_ ≠ (.slice (some ad254) y273.length co57 : Value).ownBlock ∧ some k_ ≠ (.slice (some ad258) y276.length co59 : Value).ownBlock ∧ some k_ ≠ (.slice (some ad279) y280.length co64 : Value).ownBlock ∧ some k_ ≠ (v256 : Value).ownBlock ∧ some k_ ≠ (v260 : Value).ownBlock)) HO_7.out (fun k_ hk => ⟨hk.1.1, ⟨hk.1.2.1, ⟨hk.1.2.2.1, ⟨hk.1.2.2.2, hk.2⟩⟩⟩⟩)); clear HO_7; have HO_7 := n_; clear n_; obtain ⟨hy66_, hz66_⟩ := Kd.R_celln 0 HO_7.out (x12_1 : Int) (oA) (oA); have HP66 := Kd.R_putg HO_7.out (x12_1 : Int) (rd x10_1 (ji47))) | ((with_reducible refine gate_store (t := 3) (p := 102) rfl ?_); refine store_event (t := 3) (p := 102) (v := ?vo_w67) (w1 := (w60.setCell ⟨go52, (x12_1 : Int).toNat, none⟩ (.int .i64 (rd x10_1 (ji47))))) ?hg ?ho ?hn ?hr ?_; (case ho => rfl); (case hg => rfl); (case hn => rfl); (case hr => first | (go_simp; done) | (go_simp; rfl)); intro w67 hw; have hg : w60.grownBy w67 (some go52) := (by rw [hw]; exact HP66.2); have hp_ : Kd.R (Kd.int .i64) 3 w67 w.heap.size (fun k_ => some k_ ≠ (.slice (some ad254) y273.length co57 : Value).ownBlock ∧ some k_ ≠ (.slice (some ad258) y276.length co59 : Value).ownBlock ∧ some k_ ≠ (.slice (some ad279) y280.length co64 : Value).ownBlock ∧ some k_ ≠ (v256 : Value).ownBlock ∧ some k_ ≠ (v260 : Value).ownBlock) (.slice (some ⟨go52, 0, none⟩) x7_1.length co52) y283 := (by rw [hw, Ny283.out]; exact HP66.1); clear HP66; have n0 := Az (hp_); have n1 := Az (Kd.R_after (v := (.slice (some ⟨go52, 0, none⟩) x7_1.length co52)) (v1 := (.slice (some ⟨go52, 0, none⟩) x7_1.length co52)) (ok := (fun k_ => some k_ ≠ (.slice (some ad258) y276.length co59 : Value).ownBlock ∧ some k_ ≠ (.slice (some ad279) y280.length co64 : Value).ownBlock ∧ some k_ ≠ (v256 : Value).ownBlock ∧ some k_ ≠ (v260 : Value).ownBlock)) (by (with_reducible repeat (first | apply Kd.R_alloc | apply Kd.R_drewN | apply Kd.R_drew)); exact Kd.R_mono HO275.out (fun _ hk => ⟨⟨hk.1.2.1, ⟨hk.1.2.2.1, ⟨hk.1.2.2.2, hk.2⟩⟩⟩, hk.1.1⟩)) hg (.inl rfl)); have n2 := Az (Kd.R_after (v := (.slice (some ⟨go52, 0, none⟩) x7_1.length co52)) (v1 := (.slice (some ⟨go52, 0, none⟩) x7_1.length co52)) (ok := (fun k_ => some k_ ≠ (.slice (some ad254) y273.length co57 : Value).ownBlock ∧ some k_ ≠ (.slice (some ad279) y280.length co64 : Value).ownBlock ∧ some k_ ≠ (v256 : Value).ownBlock ∧ some k_ ≠ (v260 : Value).ownBlock)) (by (with_reducible repeat (first | apply Kd.R_alloc | apply Kd.R_drewN | apply Kd.R_drew)); exact Kd.R_mono HO278.out (fun _ hk => ⟨⟨hk.1.2.1, ⟨hk.1.2.2.1, ⟨hk.1.2.2.2, hk.2⟩⟩⟩, hk.1.1⟩)) hg (.inl rfl)); have n3 := Az (Kd.R_after (v := (.slice (some ⟨go52, 0, none⟩) x7_1.length co52)) (v1 := (.slice (some ⟨go52, 0, none⟩) x7_1.length co52)) (ok := (fun k_ => some k_ ≠ (.slice (some ad254) y273.length co57 : Value).ownBlock ∧ some k_ ≠ (.slice (some ad258) y276.length co59 : Value).ownBlock ∧ some k_ ≠ (v256 : Value).ownBlock ∧ some k_ ≠ (v260 : Value).ownBlock)) (by (with_reducible repeat (first | apply Kd.R_alloc | apply Kd.R_drewN | apply Kd.R_drew)); exact Kd.R_mono HO282.out (fun _ hk => ⟨⟨hk.1.2.1, ⟨hk.1.2.2.1, ⟨hk.1.2.2.2, hk.2⟩⟩⟩, hk.1.1⟩)) hg (.inl rfl)); have n4 := Az (blk_grown (g := gb235) (o := .cells #[.string a0_0, .slice A0_1 l0_1.length c0_1] 25 (0, 0)) (kU BK235.out) hg (Kd.R_ne HO_7.out BK235.out (by decide))); have n5 := Az (Kd.R_after (v := (.slice (some ⟨go52, 0, none⟩) x7_1.length co52)) (v1 := (.slice (some ⟨go52, 0, none⟩) x7_1.length co52)) (ok := (fun k_ => some k_ ≠ (.slice (some ad254) y273.length co57 : Value).ownBlock ∧ some k_ ≠ (.slice (some ad258) y276.length co59 : Value).ownBlock ∧ some k_ ≠ (.slice (some ad279) y280.length co64 : Value).ownBlock ∧ some k_ ≠ (v260 : Value).ownBlock)) (by (with_reducible repeat (first | apply Kd.R_alloc | apply Kd.R_drewN | apply Kd.R_drew)); exact Kd.R_mono HO257.out (fun _ hk => ⟨⟨hk.1.2.1, ⟨hk.1.2.2.1, ⟨hk.1.2.2.2, hk.2⟩⟩⟩, hk.1.1⟩)) hg (.inl rfl)); have n6 := Az (Kd.R_after (v := (.slice (some ⟨go52, 0, none⟩) x7_1.length co52)) (v1 := (.slice (some ⟨go52, 0, none⟩) x7_1.length co52)) (ok := (fun k_ => some k_ ≠ (.slice (some ad254) y273.length co57 : Value).ownBlock ∧ some k_ ≠ (.slice (some ad258) y276.length co59 : Value).ownBlock ∧ some k_ ≠ (.slice (some ad279) y280.length co64 : Value).ownBlock ∧ some k_ ≠ (v256 : Value).ownBlock)) (by (with_reducible repeat (first | apply Kd.R_alloc | apply Kd.R_drewN | apply Kd.R_drew)); exact Kd.R_mono HO261.out (fun _ hk => ⟨⟨hk.2.1, ⟨hk.2.2.1, ⟨hk.2.2.2.1, hk.2.2.2.2⟩⟩⟩, hk.1⟩)) hg (.inl rfl)); have n7 := Az ((by rw [hw]; exact below_set (HB.out) GB52.out : Below w.heap.size w w67)); clear HO_7 HO275 HO278 HO282 BK235 HO257 HO261 HB; have HO_7 := n0; have HO275 := n1; have HO278 := n2; have HO282 := n3; have BK235 := n4; have HO257 := n5; have HO261 := n6; have HB := n7; clear n0 n1 n2 n3 n4 n5 n6 n7 hg hw hp_; have p55 : 0 ≤ ((rd x10_1 (ji47)) : Int) := oA; have q55 : ((rd x10_1 (ji47)) : Int) < ((x7_1.length : Int) : Int) := oA; obtain ⟨hx55_0, hf55_0⟩ := Kd.R_celln 0 HO_7.out ((rd x10_1 (ji47)) : Int) p55 q55; replace p55 := eq_true p55; replace q55 := eq_true q55; obtain ⟨hy68_, hz68_⟩ := Kd.R_celln 0 HO_7.out ((rd x10_1 (ji47)) : Int) (oA) (oA); have HP68 := Kd.R_putg HO_7.out ((rd x10_1 (ji47)) : Int) x12_1) | ((with_reducible refine gate_store (t := 3) (p := 106) rfl ?_); refine store_event (t := 3) (p := 106) (v := ?vo_w69) (w1 := (w67.setCell ⟨go52, ((rd x10_1 (ji47)) : Int).toNat, none⟩ (.int .i64 x12_1))) ?hg ?ho ?hn ?hr ?_; (case ho => rfl); (case hg => rfl); (case hn => rfl); (case hr => first | (go_simp; done) | (go_simp; rfl)); intro w69 hw; have hg : w67.grownBy w69 (some go52) := (by rw [hw]; exact HP68.2); have hp_ : Kd.R (Kd.int .i64) 3 w69 w.heap.size (fun k_ => some k_ ≠ (.slice (some ad254) y273.length co57 : Value).ownBlock ∧ some k_ ≠ (.slice (some ad258) y276.length co59 : Value).ownBlock ∧ some k_ ≠ (.slice (some ad279) y280.length co64 : Value).ownBlock ∧ some k_ ≠ (v256 : Value).ownBlock ∧ some k_ ≠ (v260 : Value).ownBlock) (.slice (some ⟨go52, 0, none⟩) x7_1.length co52) y284 := (by rw [hw, Ny284.out]; exact HP68.1); clear HP68; have n0 := Az (hp_); have n1 := Az (Kd.R_after (v := (.slice (some ⟨go52, 0, none⟩) x7_1.length co52)) (v1 := (.slice (some ⟨go52, 0, none⟩) x7_1.length co52)) (ok := (fun k_ => some k_ ≠ (.slice (some ad258) y276.length co59 : Value).ownBlock ∧ some k_ ≠ (.slice (some ad279) y280.length co64 : Value).ownBlock ∧ some k_ ≠ (v256 : Value).ownBlock ∧ some k_ ≠ (v260 : Value).ownBlock)) (rU HO275.out) hg (.inl rfl)); have n2 := Az (Kd.R_after (v := (.slice (some ⟨go52, 0, none⟩) x7_1.length co52)) (v1 := (.slice (some ⟨go52, 0, none⟩) x7_1.length co52)) (ok := (fun k_ => some k_ ≠ (.slice (some ad254) y273.length co57 : Value).ownBlock ∧ some k_ ≠ (.slice (some ad279) y280.length co64 : Value).ownBlock ∧ some k_ ≠ (v256 : Value).ownBlock ∧ some k_ ≠ (v260 : Value).ownBlock)) (rU HO278.out) hg (.inl rfl)); have n3 := Az (Kd.R_after (v := (.slice (some ⟨go52, 0, none⟩) x7_1.length co52)) (v1 := (.slice (some ⟨go52, 0, none⟩) x7_1.length co52)) (ok := (fun k_ => some k_ ≠ (.slice (some ad254) y273.length co57 : Value).ownBlock ∧ some k_ ≠ (.slice (some ad258) y276.length co59 : Value).ownBlock ∧ some k_ ≠ (v256 : Value).ownBlock ∧ some k_ ≠ (v260 : Value).ownBlock)) (rU HO282.out) hg (.inl rfl)); have n4 := Az (blk_grown (g := gb235) (o := .cells #[.string a0_0, .slice A0_1 l0_1.length c0_1] 25 (0, 0)) (kU BK235.out) hg (Kd.R_ne HO_7.out BK235.out (by decide))); have n5 := Az (Kd.R_after (v := (.slice (some ⟨go52, 0, none⟩) x7_1.length co52)) (v1 := (.slice (some ⟨go52, 0, none⟩) x7_1.length co52)) (ok := (fun k_ => some k_ ≠ (.slice (some ad254) y273.length co57 : Value).ownBlock ∧ some k_ ≠ (.slice (some ad258) y276.length co59 : Value).ownBlock ∧ some k_ ≠ (.slice (some ad279) y280.length co64 : Value).ownBlock ∧ some k_ ≠ (v260 : Value).ownBlock)) (rU HO257.out) hg (.inl rfl)); have n6 := Az (Kd.R_after (v := (.slice (some ⟨go52, 0, none⟩) x7_1.length co52)) (v1 := (.slice (some ⟨go52, 0, none⟩) x7_1.length co52)) (ok := (fun k_ => some k_ ≠ (.slice (some ad254) y273.length co57 : Value).ownBlock ∧ some k_ ≠ (.slice (some ad258) y276.length co59 : Value).ownBlock ∧ some k_ ≠ (.slice (some ad279) y280.length co64 : Value).ownBlock ∧ some k_ ≠ (v256 : Value).ownBlock)) (rU HO261.out) hg (.inl rfl)); have n7 := Az ((by rw [hw]; exact below_set (HB.out) GB52.out : Below w.heap.size w w69)); clear HO_7 HO275 HO278 HO282 BK235 HO257 HO261 HB; have HO_7 := n0; have HO275 := n1; have HO278 := n2; have HO282 := n3; have BK235 := n4; have HO257 := n5; have HO261 := n6; have HB := n7; clear n0 n1 n2 n3 n4 n5 n6 n7; clear hg hw hp_))
                      (first | go_roundg k1 | (refine Handed.intro k1 ?measure ?_; rotate_left; go_step; (try simp only [add_plain]); (repeat apply Exists.intro); refine ⟨?rel, rfl⟩))
                      case measure => have := HK1.out; omega
                      case rel => exact ⟨(y255), (y259), (y284), (y273), (y276), (y280), (x11_1), (wrap64 (x12_1 + 1)), rS, rS, H', ⟨by have := HK1.out; omega⟩, ⟨by (with_reducible repeat (first | apply Kd.R_alloc | apply Kd.R_drewN | apply Kd.R_drew)); exact Kd.R_mono HO257.out (fun _ hk => ⟨hk.1.2.2.2, ⟨hk.2, ⟨hk.1.1, ⟨hk.1.2.1, hk.1.2.2.1⟩⟩⟩⟩)⟩, ⟨by (with_reducible repeat (first | apply Kd.R_alloc | apply Kd.R_drewN | apply Kd.R_drew)); exact Kd.R_mono HO261.out (fun _ hk => ⟨hk.1.2.2.2, ⟨hk.2, ⟨hk.1.1, ⟨hk.1.2.1, hk.1.2.2.1⟩⟩⟩⟩)⟩, ⟨by (with_reducible repeat (first | apply Kd.R_alloc | apply Kd.R_drewN | apply Kd.R_drew)); exact Kd.R_mono HO_7.out (fun _ hk => ⟨hk.2.2.2.1, ⟨hk.2.2.2.2, ⟨hk.1, ⟨hk.2.1, hk.2.2.1⟩⟩⟩⟩)⟩, ⟨by (with_reducible repeat (first | apply Kd.R_alloc | apply Kd.R_drewN | apply Kd.R_drew)); exact Kd.R_mono HO275.out (fun _ hk => ⟨hk.1.2.2.1, ⟨hk.1.2.2.2, ⟨hk.2, ⟨hk.1.1, hk.1.2.1⟩⟩⟩⟩)⟩, ⟨by (with_reducible repeat (first | apply Kd.R_alloc | apply Kd.R_drewN | apply Kd.R_drew)); exact Kd.R_mono HO278.out (fun _ hk => ⟨hk.1.2.2.1, ⟨hk.1.2.2.2, ⟨hk.2, ⟨hk.1.1, hk.1.2.1⟩⟩⟩⟩)⟩, ⟨by (with_reducible repeat (first | apply Kd.R_alloc | apply Kd.R_drewN | apply Kd.R_drew)); exact Kd.R_mono HO282.out (fun _ hk => ⟨hk.1.2.2.1, ⟨hk.1.2.2.2, ⟨hk.2, ⟨hk.1.1, hk.1.2.1⟩⟩⟩⟩)⟩, ⟨kU BK235.out⟩, ⟨bU1 HB.out GE235.out⟩⟩
                     ·
                      rw [if_neg c54] at H
                      exact absurd H (by simp)
                    ·
                     rw [if_neg c53] at H
                     exact absurd H (by simp)
                   ·
                    rw [if_neg c51] at H
                    exact absurd H (by simp)
                  ·
                   rw [if_neg c50] at H
                   exact absurd H (by simp)
                 ·
                  rw [if_neg c49] at H
                  exact absurd H (by simp)
                ·
                 rw [if_neg c48] at H
                 exact absurd H (by simp)
               ·
                rw [if_neg c46] at H
                exact absurd H (by simp)
              ·
               rw [if_neg c45] at H
               exact absurd H (by simp)
            ·
             rw [if_neg c27] at H
             exact absurd H (by simp)
           ·
            rw [if_neg c26] at H
            exact absurd H (by simp)
          ·
           rw [if_neg c25] at H
           exact absurd H (by simp)
         ·
          rw [if_neg c24] at H
          exact absurd H (by simp)
        ·
         rw [if_neg c22] at H
         exact absurd H (by simp)
       ·
        rw [if_neg c21] at H
        exact absurd H (by simp)
      ·
       rw [if_neg c20] at H
       exact absurd H (by simp)
     ·
      rw [if_neg c18] at H; have c18b0 := decide_eq_false c18; clear c18; simp only [Option.some.injEq, Prod.mk.injEq] at H; obtain ⟨rfl, rfl, rfl⟩ := H; have hcz70_0 : wr.cell? ⟨gb235, 0, none⟩ = some (.string a0_0) := (blk_cell BK235.out 0).trans rfl; have hcz70_1 : wr.cell? ⟨gb235, 1, none⟩ = some (.slice A0_1 l0_1.length c0_1) := (blk_cell BK235.out 1).trans rfl; have hfz70_0 := blk_frozen BK235.out 0; have hfz70_1 := blk_frozen BK235.out 1
      go_wp2
      go_ret3
      exact ⟨_, _, _, rE, by (with_reducible repeat (first | apply Kd.R_alloc | apply Kd.R_drewN | apply Kd.R_drew)); exact Kd.R_mono HO_5.out (fun _ hk => ⟨hk.1, hk.2.1⟩), by (with_reducible repeat (first | apply Kd.R_alloc | apply Kd.R_drewN | apply Kd.R_drew)); exact Kd.R_mono HO_6.out (fun _ hk => ⟨hk.1, hk.2.1⟩), by (with_reducible repeat (first | apply Kd.R_alloc | apply Kd.R_drewN | apply Kd.R_drew)); exact Kd.R_mono HO_7.out (fun _ hk => ⟨hk.1, hk.2.1⟩), bU1 HB.out GE235.out⟩
  ·
   rw [if_neg c3] at H
   exact absurd H (by simp)
 ·
  rw [if_neg c2] at H
  exact absurd H (by simp)
end Go.Proofs.Ytlpbalebodlipaa.PG
