/- For every list of bytes, the law FnDegrees answers true: of the map that it draws, MapDegrees of the program answers what the reference answers; a valid map's degrees are as many as its vertices, the dual's as many as its faces, and either's sum is twice the edges. There are no conditions. -/
import Derived.Test.YtggghijamfmenaaKFnDegreesOwnx1
namespace Go.Proofs.Ytggghijamfmenaa.PA
open Go.RowKit Go.Proofs.YtggghijamfmenaaW.PrintWords Go.Proofs.YtggghijamfmenaaW.PrintLast Go.Proofs.YtggghijamfmenaaW.PrintMore
attribute [local go_sem] max2_int min2_int max_two min_two max_three min_three max_four min_four   -- for this text's walks alone
set_option linter.unusedVariables false
set_option linter.unusedSimpArgs false
mutual
def spec_l91Map.l0 : Nat → Int → List Int → List Int → Int → List Int → Int → Option (List Int × List Int × Int)
 | 0, _, _, _, _, _, _ => none
 | k + 1, x5, x6, x7, x8, x1000, x1001 => if (wrap64 (x8 + 1)) < x5 then (if 0 ≤ x8 then (if x8 < (x6.length : Int) then (if 0 ≤ (wrap64 (x8 + 1)) then (if (wrap64 (x8 + 1)) < (x6.length : Int) then (if 0 ≤ (rd x6 x8) then (if (rd x6 x8) < (x7.length : Int) then (if 0 ≤ (rd x6 (wrap64 (x8 + 1))) then (if (rd x6 (wrap64 (x8 + 1))) < (x7.length : Int) then (spec_l91Map.l0 k x5 x6 ((x7.set ((rd x6 x8) : Int).toNat (rd x6 (wrap64 (x8 + 1)))).set ((rd x6 (wrap64 (x8 + 1))) : Int).toNat (rd x6 x8)) (wrap64 (x8 + 2)) x1000 x1001) else (none)) else (none)) else (none)) else (none)) else (none)) else (none)) else (none)) else (none)) else ((spec_l91Perm.f k x1000 x1001 x5).bind fun bt250 => (spec_l91Map.l1 k x5 0 x1000 bt250.2 bt250.1 x7))
def spec_l91Map.l1 : Nat → Int → Int → List Int → Int → List Int → List Int → Option (List Int × List Int × Int)
 | 0, _, _, _, _, _, _ => none
 | k + 1, x5, x10, x1000, x1001, xZ0, xZ1 => if x10 < x5 then ((spec_MapValid.f k xZ0 xZ1).bind fun t255 => (spec_l91Map.j2 k x5 x10 (!t255) x1000 x1001 xZ0 xZ1)) else (spec_l91Map.j2 k x5 x10 false x1000 x1001 xZ0 xZ1)
def spec_l91Map.j2 : Nat → Int → Int → Bool → List Int → Int → List Int → List Int → Option (List Int × List Int × Int)
 | 0, _, _, _, _, _, _, _ => none
 | k + 1, x5, x10, x64, x1000, x1001, xZ0, xZ1 => if x64 = true then ((spec_l1Orbits.f k xZ0 xZ1).bind fun t256 => (spec_l91Map.l2 k x5 x10 t256 0 x1000 x1001 xZ0 xZ1)) else ((spec_l6Rd_pick.f k x1000 x1001 50).bind fun bt264 => (if bt264.1 = 0 then (if 0 < (xZ1.length : Int) then (some (xZ0, (xZ1.set (0 : Int).toNat 0), bt264.2)) else (none)) else (if bt264.1 = 1 then (if 1 ≤ (xZ0.length : Int) then (some ((xZ0.drop (1 : Int).toNat), xZ1, bt264.2)) else (none)) else (if bt264.1 = 2 then (if 0 < (xZ0.length : Int) then (some ((xZ0.set (0 : Int).toNat x5), xZ1, bt264.2)) else (none)) else (some (xZ0, xZ1, bt264.2))))))
def spec_l91Map.l2 : Nat → Int → Int → List Int → Int → List Int → Int → List Int → List Int → Option (List Int × List Int × Int)
 | 0, _, _, _, _, _, _, _, _ => none
 | k + 1, x5, x10, x11, x12, x1000, x1001, xZ0, xZ1 => if 0 ≤ x12 then (if x12 < (x11.length : Int) then (if (rd x11 x12) = 0 then (spec_l91Map.l2 k x5 x10 x11 (wrap64 (x12 + 1)) x1000 x1001 xZ0 xZ1) else (if 0 < (xZ0.length : Int) then (if x12 < (xZ0.length : Int) then (spec_l91Map.l1 k x5 (wrap64 (x10 + 1)) x1000 x1001 ((xZ0.set (0 : Int).toNat (rd xZ0 x12)).set (x12 : Int).toNat (rd xZ0 0)) xZ1) else (none)) else (none))) else (none)) else (none)
end
def spec_l91Map.f (k : Nat) (s0_0 : List Int) (s0_1 : Int) (a1 : Int) : Option (List Int × List Int × Int) := (spec_l6Rd_pick.f k s0_0 s0_1 a1).bind fun bt235 => ((spec_l91Perm.f k s0_0 bt235.2 (wrap64 (2 * (wrap64 (1 + bt235.1))))).bind fun bt237 => (if 0 ≤ (wrap64 (2 * (wrap64 (1 + bt235.1)))) then (if (wrap64 (2 * (wrap64 (1 + bt235.1))) : Int).toNat ≤ 35184372088832 then (spec_l91Map.l0 k (wrap64 (2 * (wrap64 (1 + bt235.1)))) bt237.1 (List.replicate (wrap64 (2 * (wrap64 (1 + bt235.1))) : Int).toNat 0) 0 s0_0 bt237.2) else (none)) else (none)))
def spec_l91Map.T7 : Bool × List (List Nat × List Nat) := (true, [([], []), ([], []), ([], []), ([1, 2], [1, 2]), ([3], [3]), ([], []), ([], []), ([6], [6]), ([5, 7], [5, 7]), ([8], [8]), ([0, 4, 0, 1, 2, 3, 4, 5, 6, 7, 8, 9], [0, 4]), ([10, 9, 0, 1, 2, 3, 4, 5, 6, 7, 8, 9], [9, 10])])
def spec_l91Map.B7 : List Nat := [0, 0, 0, 6, 14, 0, 0, 64, 224, 480, 1023, 2047]
theorem spec_l91Map.tab7 : rtab .any (opsOf Try.f77 7) = spec_l91Map.T7 := by kernel_rfl
theorem spec_l91Map.bits7 : waitsOk spec_l91Map.T7.2 spec_l91Map.B7 = true := by kernel_rfl
def spec_l91Map.T8 : Bool × List (List Nat × List Nat) := (true, [([], []), ([], []), ([], []), ([2], [2]), ([1, 3], [1, 3]), ([4], [4]), ([], []), ([], []), ([6, 7], [6, 7]), ([8], [8]), ([0, 5, 0, 1, 2, 3, 4, 5, 6, 7, 8, 9], [0, 5]), ([10, 9, 0, 1, 2, 3, 4, 5, 6, 7, 8, 9], [9, 10])])
def spec_l91Map.B8 : List Nat := [0, 0, 0, 4, 14, 30, 0, 0, 192, 448, 1023, 2047]
theorem spec_l91Map.tab8 : rtab .any (opsOf Try.f77 8) = spec_l91Map.T8 := by kernel_rfl
theorem spec_l91Map.bits8 : waitsOk spec_l91Map.T8.2 spec_l91Map.B8 = true := by kernel_rfl
def spec_l91Map.T18 : Bool × List (List Nat × List Nat) := (true, [([], []), ([0], [0]), ([], []), ([2], [2]), ([], []), ([3, 4], [3, 4]), ([5], [5]), ([1, 0, 1, 2, 3, 4, 5, 6], [1]), ([7, 6, 0, 1, 2, 3, 4, 5, 6], [6, 7])])
def spec_l91Map.B18 : List Nat := [0, 1, 0, 4, 0, 28, 60, 127, 255]
theorem spec_l91Map.tab18 : rtab .any (opsOf Try.f77 18) = spec_l91Map.T18 := by kernel_rfl
theorem spec_l91Map.bits18 : waitsOk spec_l91Map.T18.2 spec_l91Map.B18 = true := by kernel_rfl
set_option maxHeartbeats 8000000 in
set_option maxRecDepth 100000 in
theorem spec_l91Map.calls (k : Nat) (g : Nat) (s0_0 : List Int) (s0_1 : Int) (a1 : Int) (r1 : List Int) (r2 : List Int) (r3 : Int) (w0 w : World) (hI : IsS87 w0 w g s0_0 s0_1) (hB : Below w0.heap.size w0 w) (h : spec_l91Map.f k s0_0 s0_1 a1 = some (r1, r2, r3)) :
  Calls Try.prog 77 #[.pointer (some ⟨g, 0, none⟩), .int .i64 a1] w fun e w' => ∃ v0_ v1_ : Value, e = .returned (.agg #[v0_, v1_]) ∧ Kd.Q (Kd.int .i64) 3 w' w.heap.size (fun k_ => some k_ ≠ (v1_ : Value).ownBlock) v0_ r1 ∧ Kd.R (Kd.int .i64) 3 w' w.heap.size (fun k_ => some k_ ≠ (v0_ : Value).ownBlock) v1_ r2 ∧ IsS87 w0 w' g s0_0 r3 ∧ Below w0.heap.size w0 w' ∧ KeepBut w w' g none := by
 have hu25 := Try.underlying25; have HI0 := Az hI; have HK := Az (KeepBut.refl w g none); have HL := Az hB.size; clear hI; have HW0 := Az hB.size; have HB := Az hB; clear hB; have H : ((spec_l6Rd_pick.f k s0_0 s0_1 a1).bind fun bt235 => ((spec_l91Perm.f k s0_0 bt235.2 (wrap64 (2 * (wrap64 (1 + bt235.1))))).bind fun bt237 => (if 0 ≤ (wrap64 (2 * (wrap64 (1 + bt235.1)))) then (if (wrap64 (2 * (wrap64 (1 + bt235.1))) : Int).toNat ≤ 35184372088832 then (spec_l91Map.l0 k (wrap64 (2 * (wrap64 (1 + bt235.1)))) bt237.1 (List.replicate (wrap64 (2 * (wrap64 (1 + bt235.1))) : Int).toNat 0) 0 s0_0 bt237.2) else (none)) else (none)))) = some (r1, r2, r3) := h; clear h; replace H := Option.bind_eq_some_iff.mp H; obtain ⟨⟨t235, t236⟩, A30, H⟩ := H; replace H : ((spec_l91Perm.f k s0_0 t236 (wrap64 (2 * (wrap64 (1 + t235))))).bind fun bt237 => (if 0 ≤ (wrap64 (2 * (wrap64 (1 + t235)))) then (if (wrap64 (2 * (wrap64 (1 + t235))) : Int).toNat ≤ 35184372088832 then (spec_l91Map.l0 k (wrap64 (2 * (wrap64 (1 + t235)))) bt237.1 (List.replicate (wrap64 (2 * (wrap64 (1 + t235))) : Int).toNat 0) 0 s0_0 bt237.2) else (none)) else (none))) = some (r1, r2, r3) := H; have A3 := Az A30; clear A30; replace H := Option.bind_eq_some_iff.mp H; obtain ⟨⟨t237, t240⟩, A40, H⟩ := H; replace H : (if 0 ≤ (wrap64 (2 * (wrap64 (1 + t235)))) then (if (wrap64 (2 * (wrap64 (1 + t235))) : Int).toNat ≤ 35184372088832 then (spec_l91Map.l0 k (wrap64 (2 * (wrap64 (1 + t235)))) t237 (List.replicate (wrap64 (2 * (wrap64 (1 + t235))) : Int).toNat 0) 0 s0_0 t240) else (none)) else (none)) = some (r1, r2, r3) := H; have A4 := Az A40; clear A40; obtain ⟨ji5, hji5⟩ : ∃ j_ : Int, (wrap64 (2 * (wrap64 (1 + t235)))) = j_ := ⟨_, rfl⟩
 replace H : (if 0 ≤ (ji5) then (if (ji5 : Int).toNat ≤ 35184372088832 then (spec_l91Map.l0 k ji5 t237 (List.replicate (ji5 : Int).toNat 0) 0 s0_0 t240) else (none)) else (none)) = some (r1, r2, r3) := by first | (rw [hji5] at H; exact H) | (simp only [hji5] at H ⊢; exact H)
 (try rw [hji5] at A3); (try rw [hji5] at A4); have hji5w : (IntKind.i64.wrap (2 * (wrap64 (1 + t235)))) = ji5 := (i64_w _).trans hji5
 by_cases c6 : 0 ≤ (ji5)
 ·
  rw [if_pos c6] at H; have c6b0 := eq_true c6; have c6b1 := decide_eq_true c6; clear c6
  by_cases c7 : (ji5 : Int).toNat ≤ 35184372088832
  ·
   rw [if_pos c7] at H; have c7b0 := eq_true c7; have c7b1 := decide_eq_true c7; clear c7; obtain ⟨y241, hy241⟩ : ∃ y_ : List Int, y_ = (List.replicate (ji5 : Int).toNat 0) := ⟨_, rfl⟩; replace H : (spec_l91Map.l0 k ji5 t237 y241 0 s0_0 t240) = some (r1, r2, r3) := hR hy241 H; have Ny241 := Az hy241; clear hy241; have H' := Az H; clear H
   go_enter Try.func77, Try.ntmps77
   go_wp2_with (first | ((with_reducible refine gate_dst (N := 4) rfl ?_); refine box_event ?hg (N := 4) ?hd (cs := #[.slice none 0 0, .slice none 0 0]) (t := 25) ?hr ?_; (case hd => rfl); (case hg => rfl); (case hr => first | (go_simp; done) | (go_simp; rfl)); intro gb234 hg w8 hbox hb; have n0 := Az (IsS87.below (by repeat (first | (with_reducible first | exact HI0.out | apply IsS87.alloc | apply IsS87.drewN | apply IsS87.drew | apply IsS87.set_1) | exact HI0.out)) hb); have n1 := Az (KeepBut.trans (by repeat (first | (with_reducible first | exact HK.out | apply KeepBut.set_ | apply keep_drewN | apply keep_drew | apply keep_alloc) | exact HK.out)) (KeepBut.of_below hb g none) (.inl rfl)); have n2 := Az (below_step (by repeat (first | (with_reducible first | exact HB.out | apply below_alloc | apply pw_below_drewN | apply below_drew1 | refine below_set ?_ (IsS87.ge HI0.out)) | exact HB.out)) hb); have n3 := Az (hbox); have n4 := Az ((by rw [hg]; exact (keep_size (w := w) (g := g) (row := none) (by repeat (first | (with_reducible first | exact HK.out | apply KeepBut.set_ | apply keep_drewN | apply keep_drew | apply keep_alloc) | exact HK.out))) : w.heap.size ≤ gb234)); have n5 := Az ((Nat.le_trans HW0.out (by rw [hg]; exact (keep_size (w := w) (g := g) (row := none) (by repeat (first | (with_reducible first | exact HK.out | apply KeepBut.set_ | apply keep_drewN | apply keep_drew | apply keep_alloc) | exact HK.out))) : w.heap.size ≤ gb234) : w0.heap.size ≤ gb234)); have n6 := Az ((by rw [hg]; exact Nat.ne_of_lt (IsS87.lt (show IsS87 w0 _ g s0_0 s0_1 from by repeat (first | (with_reducible first | exact HI0.out | apply IsS87.alloc | apply IsS87.drewN | apply IsS87.drew | apply IsS87.set_1) | exact HI0.out))) : g ≠ gb234)); have n7 := Az ((by rw [hg]; exact Nat.ne_of_gt (IsS87.lt (show IsS87 w0 _ g s0_0 s0_1 from by repeat (first | (with_reducible first | exact HI0.out | apply IsS87.alloc | apply IsS87.drewN | apply IsS87.drew | apply IsS87.set_1) | exact HI0.out))) : gb234 ≠ g)); clear HI0 HK HB; have HI0 := n0; have HK := n1; have HB := n2; have BK234 := n3; have GW234 := n4; have GE234 := n5; have NB0_234 := n6; have NB234_0 := n7; clear n0 n1 n2 n3 n4 n5 n6 n7; clear hb hbox hg) | ((with_reducible refine gate_callee (f := 76) rfl ?_); refine goesL_ (some 16) rfl rfl Try.func76 (by kernel_rfl) rfl #[.pointer (some ⟨g, 0, none⟩), .int .i64 a1] rfl (by (try simp only [List.map_toArray, List.map_cons, List.map_nil]); first | done | rfl | (simp only [List.length_drop, List.length_take]; rfl)) ?_; (with_reducible refine (spec_l6Rd_pick.calls k g s0_0 s0_1 a1 t235 t236 w0 _ ?side1 ?side2 A3.out).mono ?_); (case side1 => repeat (first | (with_reducible first | exact HI0.out | apply IsS87.alloc | apply IsS87.drewN | apply IsS87.drew | apply IsS87.set_1 | refine IsS87.far ?_ NB0_234.out _) | exact HI0.out)); (case side2 => repeat (first | (with_reducible first | exact HB.out | apply below_alloc | apply pw_below_drewN | apply below_drew1 | refine below_set ?_ (IsS87.ge HI0.out) | refine below_set ?_ GE234.out) | exact HB.out)); rintro e w9 ⟨rfl, hi, hb, hk⟩; refine ⟨_, rfl, ?_⟩; have n0 := Az (KeepBut.blk hk (g' := gb234) (o := .cells #[.slice none 0 0, .slice none 0 0] 25 (0, 0)) (kU BK234.out) NB234_0.out (by simp)); have n1 := Az (KeepBut.trans (by repeat (first | (with_reducible first | exact HK.out | apply KeepBut.set_ | apply keep_drewN | apply keep_drew | apply keep_alloc | refine keep_far ?_ GW234.out _) | exact HK.out)) hk (.inl rfl)); have n2 := Az (hb); have n3 := Az (hi); clear BK234 HK HB HI0; have BK234 := n0; have HK := n1; have HB := n2; have HI0 := n3; clear n0 n1 n2 n3; (try clear hb); (try clear hb2); (try clear hk); (try clear hi)) | ((with_reducible refine gate_callee (f := 123) rfl ?_); refine goesL_ (some 21) rfl rfl Try.func123 (by kernel_rfl) rfl #[.pointer (some ⟨g, 0, none⟩), .int .i64 ji5] rfl (by (try simp only [List.map_toArray, List.map_cons, List.map_nil]); first | done | (simp only [hji5]; rfl) | rfl | (simp only [List.length_drop, List.length_take]; rfl)) ?_; (with_reducible refine (spec_l91Perm.calls k g s0_0 t236 ji5 t237 t240 w0 _ ?side1 ?side2 A4.out).mono ?_); (case side1 => repeat (first | (with_reducible first | exact HI0.out | apply IsS87.alloc | apply IsS87.drewN | apply IsS87.drew | apply IsS87.set_1 | refine IsS87.far ?_ NB0_234.out _) | exact HI0.out)); (case side2 => repeat (first | (with_reducible first | exact HB.out | apply below_alloc | apply pw_below_drewN | apply below_drew1 | refine below_set ?_ (IsS87.ge HI0.out) | refine below_set ?_ GE234.out) | exact HB.out)); rintro e w10 ⟨v238, rfl, ho0, hi, hb, hk⟩; refine ⟨_, rfl, ?_⟩; have n0 := Az (KeepBut.blk hk (g' := gb234) (o := .cells #[.slice none 0 0, .slice none 0 0] 25 (0, 0)) (kU BK234.out) NB234_0.out (by simp)); have n1 := Az (Kd.R_lower ho0 (keep_size (w := w) (g := g) (row := none) (by repeat (first | (with_reducible first | exact HK.out | apply KeepBut.set_ | apply keep_drewN | apply keep_drew | apply keep_alloc | refine keep_far ?_ GW234.out _) | exact HK.out)))); have n2 := Az (KeepBut.trans (by repeat (first | (with_reducible first | exact HK.out | apply KeepBut.set_ | apply keep_drewN | apply keep_drew | apply keep_alloc | refine keep_far ?_ GW234.out _) | exact HK.out)) hk (.inl rfl)); have n3 := Az (hb); have n4 := Az (hi); clear BK234 HK HB HI0; have BK234 := n0; have HO239 := n1; have HK := n2; have HB := n3; have HI0 := n4; clear n0 n1 n2 n3 n4; (try clear hb); (try clear hb2); (try clear hk); (try clear hi); (try clear ho0)) | ((with_reducible refine gate_dst (N := 23) rfl ?_); refine Kd.R_make (Kd.int .i64) _ 3 rfl (N := 23) rfl 23 _ _ rfl ji5 rfl rfl Try.underlying23 (.int .i64 0) 8 info3 rfl (by decide) (by omega) 0 (ok := fun _ => True) (okp := fun _ => True) rfl (fun _ hk => hk) trivial (oA) (Nat.le_trans (Nat.mul_le_mul_right _ (oA : ji5.toNat ≤ 35184372088832)) (by omega)) (Below.refl _ _) (Nat.le_refl _) ?_; intro v242 w11 ho12 hb hg_ hnew_; clear hg_ hnew_; (first | rw [← Ny241.out] at ho12 | (simp only [Int.reduceToNat] at ho12; rw [← Ny241.out] at ho12)); have n0 := Az (Kd.R_elder' (rU HO239.out) (Kd.R_base ho12) hb); have n1 := Az (Kd.R_lower (Kd.R_new' ho12 (Kd.R_lt (rU HO239.out))) (keep_size (w := w) (g := g) (row := none) (by repeat (first | (with_reducible first | exact HK.out | apply KeepBut.set_ | apply keep_drewN | apply keep_drew | apply keep_alloc | refine keep_far ?_ GW234.out _) | exact HK.out)))); have n2 := Az (IsS87.below (by repeat (first | (with_reducible first | exact HI0.out | apply IsS87.alloc | apply IsS87.drewN | apply IsS87.drew | apply IsS87.set_1 | refine IsS87.far ?_ NB0_234.out _) | exact HI0.out)) hb); have n3 := Az (blk_below (g := gb234) (o := .cells #[.slice none 0 0, .slice none 0 0] 25 (0, 0)) (kU BK234.out) hb); have n4 := Az (KeepBut.trans (by repeat (first | (with_reducible first | exact HK.out | apply KeepBut.set_ | apply keep_drewN | apply keep_drew | apply keep_alloc | refine keep_far ?_ GW234.out _) | exact HK.out)) (KeepBut.of_below hb g none) (.inl rfl)); have n5 := Az (below_step (by repeat (first | (with_reducible first | exact HB.out | apply below_alloc | apply pw_below_drewN | apply below_drew1 | refine below_set ?_ (IsS87.ge HI0.out) | refine below_set ?_ GE234.out) | exact HB.out)) hb); clear HO239 HI0 BK234 HK HB; have HO239 := n0; have HO243 := n1; have HI0 := n2; have BK234 := n3; have HK := n4; have HB := n5; clear n0 n1 n2 n3 n4 n5; clear hb ho12))
   go_loopg [8] k (fun kq v8 w' => ∃ (x7_1 : List Int) (x8_1 : Int), v8 = .int .i64 x8_1 ∧ Aside0 (spec_l91Map.l0 kq ji5 t237 x7_1 x8_1 s0_0 t240 = some (r1, r2, r3)) ∧ Aside0 (kq ≤ k) ∧ Aside0 (Kd.R (Kd.int .i64) 3 w' w.heap.size (fun k_ => some k_ ≠ (v242 : Value).ownBlock) v238 t237) ∧ Aside0 (Kd.R (Kd.int .i64) 3 w' w.heap.size (fun k_ => some k_ ≠ (v238 : Value).ownBlock) v242 x7_1) ∧ Aside0 (w'.heap[gb234]? = some (.cells #[(.slice none 0 0), (.slice none 0 0)] 25 (0, 0))) ∧ Aside0 (IsS87 w0 w' g s0_0 t240) ∧ Aside0 (KeepBut w w' g none) ∧ Aside0 (Below w0.heap.size w0 w'))
   case atStart => exact ⟨(y241), (0), rS, H', ⟨Nat.le_refl _⟩, ⟨by (with_reducible repeat (first | apply Kd.R_alloc | apply Kd.R_drewN | apply Kd.R_drew)); exact Kd.R_mono HO239.out (fun _ hk => hk.2)⟩, ⟨by (with_reducible repeat (first | apply Kd.R_alloc | apply Kd.R_drewN | apply Kd.R_drew)); exact Kd.R_mono HO243.out (fun _ hk => hk.2)⟩, ⟨kU BK234.out⟩, ⟨by repeat (first | (with_reducible first | exact HI0.out | apply IsS87.alloc | apply IsS87.drewN | apply IsS87.drew | apply IsS87.set_1 | refine IsS87.far ?_ NB0_234.out _) | exact HI0.out)⟩, ⟨by repeat (first | (with_reducible first | exact HK.out | apply KeepBut.set_ | apply keep_drewN | apply keep_drew | apply keep_alloc | refine keep_far ?_ GW234.out _) | exact HK.out)⟩, ⟨by repeat (first | (with_reducible first | exact HB.out | apply below_alloc | apply pw_below_drewN | apply below_drew1 | refine below_set ?_ (IsS87.ge HI0.out) | refine below_set ?_ GE234.out) | exact HB.out)⟩⟩
   case round =>
    clear H'; (try clear c1); (try clear p2); (try clear c6); (try clear c6b0); (try clear c6b1); (try clear p6); (try clear c7); (try clear c7b0); (try clear c7b1); (try clear c12); obtain ⟨x7_1, x8_1, rfl, HA, HK1, HO_6, HO_7, BK234, HI0, HK, HB⟩ := hrel
    cases gk with
    | zero => exact absurd HA.out (by simp [spec_l91Map.l0])
    | succ k1 =>
     have H := HA.out; clear HA; simp only [spec_l91Map.l0] at H
     by_cases c13 : (wrap64 (x8_1 + 1)) < ji5
     ·
      rw [if_pos c13] at H; have c13b0 := decide_eq_true c13; clear c13
      by_cases c14 : 0 ≤ x8_1
      ·
       rw [if_pos c14] at H; have c14b0 := decide_eq_true c14; clear c14
       by_cases c15 : x8_1 < (t237.length : Int)
       ·
        rw [if_pos c15] at H; have c15b0 := decide_eq_true c15; clear c15; obtain ⟨ji16, hji16⟩ : ∃ j_ : Int, (wrap64 (x8_1 + 1)) = j_ := ⟨_, rfl⟩
        replace H : (if 0 ≤ (ji16) then (if (ji16) < (t237.length : Int) then (if 0 ≤ (rd t237 x8_1) then (if (rd t237 x8_1) < (x7_1.length : Int) then (if 0 ≤ (rd t237 (ji16)) then (if (rd t237 (ji16)) < (x7_1.length : Int) then (spec_l91Map.l0 k1 ji5 t237 ((x7_1.set ((rd t237 x8_1) : Int).toNat (rd t237 (ji16))).set ((rd t237 (ji16)) : Int).toNat (rd t237 x8_1)) (wrap64 (x8_1 + 2)) s0_0 t240) else (none)) else (none)) else (none)) else (none)) else (none)) else (none)) = some (r1, r2, r3) := by first | (rw [hji16] at H; exact H) | (simp only [hji16] at H ⊢; exact H)
        (try rw [hji16] at c13b0); have hji16w : (IntKind.i64.wrap (x8_1 + 1)) = ji16 := (i64_w _).trans hji16
        by_cases c17 : 0 ≤ (ji16)
        ·
         rw [if_pos c17] at H; have c17b0 := decide_eq_true c17; clear c17
         by_cases c18 : (ji16) < (t237.length : Int)
         ·
          rw [if_pos c18] at H; have c18b0 := decide_eq_true c18; clear c18
          by_cases c19 : 0 ≤ (rd t237 x8_1)
          ·
           rw [if_pos c19] at H; have c19b0 := decide_eq_true c19; clear c19
           by_cases c20 : (rd t237 x8_1) < (x7_1.length : Int)
           ·
            rw [if_pos c20] at H; have c20b0 := decide_eq_true c20; clear c20; obtain ⟨y246, hy246⟩ : ∃ y_ : List Int, y_ = (x7_1.set ((rd t237 x8_1) : Int).toNat (rd t237 (ji16))) := ⟨_, rfl⟩; replace H : (if 0 ≤ (rd t237 (ji16)) then (if (rd t237 (ji16)) < (x7_1.length : Int) then (spec_l91Map.l0 k1 ji5 t237 (y246.set ((rd t237 (ji16)) : Int).toNat (rd t237 x8_1)) (wrap64 (x8_1 + 2)) s0_0 t240) else (none)) else (none)) = some (r1, r2, r3) := hR hy246 H; have Ny246 := Az hy246; clear hy246
            by_cases c22 : 0 ≤ (rd t237 (ji16))
            ·
             rw [if_pos c22] at H; have c22b0 := decide_eq_true c22; clear c22
             by_cases c23 : (rd t237 (ji16)) < (x7_1.length : Int)
             ·
              rw [if_pos c23] at H; have c23b0 := decide_eq_true c23; clear c23; obtain ⟨y249, hy249⟩ : ∃ y_ : List Int, y_ = (y246.set ((rd t237 (ji16)) : Int).toNat (rd t237 x8_1)) := ⟨_, rfl⟩; replace H : (spec_l91Map.l0 k1 ji5 t237 y249 (wrap64 (x8_1 + 2)) s0_0 t240) = some (r1, r2, r3) := hR hy249 H; have Ny249 := Az hy249; clear hy249; have H' := Az H; clear H
              try go_wp2
              have n0 := Az (Kd.R_drew HO_6.out); have n1 := Az (Kd.R_drew HO_7.out); have n2 := Az (blk_drew BK234.out); have n3 := Az (IsS87.drew HI0.out); have n4 := Az (keep_drew HK.out); have n5 := Az (below_drew1 HB.out); clear HO_6 HO_7 BK234 HI0 HK HB; have HO_6 := n0; have HO_7 := n1; have BK234 := n2; have HI0 := n3; have HK := n4; have HB := n5; clear n0 n1 n2 n3 n4 n5; obtain ⟨Ao26, co26, eo26⟩ := Kd.R_slice HO_6.out; (first | subst eo26 | (injection eo26 with f1_ f2_ f3_; have f4_ := f1_.symm; have f5_ := f3_.symm; clear f1_ f2_ f3_; subst f4_; subst f5_)); have p244 : 0 ≤ (x8_1 : Int) := oA; have q244 : x8_1 < (t237.length : Int) := oA; obtain ⟨ad244, e244, hx244_0⟩ := Kd.at_int (Kd.R_reads' HO_6.out).2.2 x8_1 p244 q244
              cases e244
              replace p244 := eq_true p244; replace q244 := eq_true q244; have p245 : 0 ≤ ((ji16) : Int) := oA; have q245 : (ji16) < (t237.length : Int) := oA; obtain ⟨ad245, e245, hx245_0⟩ := Kd.at_int (Kd.R_reads' HO_6.out).2.2 (ji16) p245 q245; obtain rfl : ad244 = ad245 := (by injection e245); replace p245 := eq_true p245; replace q245 := eq_true q245; have p21 : 0 ≤ ((rd t237 x8_1) : Int) := oA; have q21 : ((rd t237 x8_1) : Int) < ((x7_1.length : Int) : Int) := oA; obtain ⟨go21, co21, eo21, gb21, gl21, cl21, HG21⟩ := Kd.R_form HO_7.out (by omega); (first | cases eo21 | (injection eo21 with ea_ en_ ec_; (first | subst ea_ | (injection ea_ with ea_; subst ea_)); subst ec_; clear en_)); have GB21 := Az gb21; have GG21 := Az HG21; clear gb21 gl21 HG21; obtain ⟨hx21_0, hf21_0⟩ := Kd.R_celln 0 HO_7.out ((rd t237 x8_1) : Int) p21 q21; replace p21 := eq_true p21; replace q21 := eq_true q21; have HN0_go21 := Az (show g ≠ go21 from by have h_ := IsS87.own_ne HI0.out HO_7.out (by decide); intro e_; exact h_ (by rw [e_]; rfl)); have HP27 := Kd.R_putn HO_7.out ((rd t237 x8_1) : Int) (rd t237 (ji16)); rw [← Ny246.out] at HP27; have HQ27 := Az HP27; clear HP27
              refine start_ (n := 12) (S := fun w' => w'.cell? (ad244.add (x8_1).toNat) = some (.int .i64 (rd t237 x8_1)) ∧ w'.cell? (ad244.add ((ji16)).toNat) = some (.int .i64 (rd t237 (ji16)))) (ds := [11]) #[false, false, false, false, false, false, false, false, false, false, false, false] (by kernel_rfl) rfl rfl ⟨hx244_0, hx245_0⟩ (fun hHeld => ?_); refine with_tabW spec_l91Map.tab7 spec_l91Map.bits7 (fun HT_ HW_ => ?_)
              generalize wr.drew = w25 at HO_6 HO_7 BK234 HI0 HK HB GG21 HQ27 hf21_0 hx21_0 hx244_0 hx245_0 hHeld ⊢
              refine pure_ (i := 0) (N := some 30) (v := ?_) (a' := ?_) #[true, false, false, false, false, false, false, false, false, false, false, false] rfl rfl (any_of HT_.out (by kernel_rfl)) (fun _ _ _ h => h) (Or.inl ⟨by rfl, ?_⟩) ?_ ?_
              rotate_left
              ·
               intro w'
               go_simp
               with_reducible rfl
              rotate_left
              ·
               simp only [Act.put, List.setIfInBounds_toArray, List.set_cons_zero, List.set_cons_succ, i64_w, i32_w]
               rfl
              refine pure_ (i := 1) (N := some 31) (v := ?_) (a' := ?_) #[true, true, false, false, false, false, false, false, false, false, false, false] rfl rfl (any_of HT_.out (by kernel_rfl)) (fun _ _ _ h => h) (Or.inl ⟨by rfl, ?_⟩) ?_ ?_
              rotate_left
              ·
               intro w'
               go_simp
               with_reducible rfl
              rotate_left
              ·
               simp only [Act.put, List.setIfInBounds_toArray, List.set_cons_zero, List.set_cons_succ, i64_w, i32_w]
               rfl
              refine pure_ (i := 2) (N := some 32) (v := ?_) (a' := ?_) #[true, true, true, false, false, false, false, false, false, false, false, false] rfl rfl (any_of HT_.out (by kernel_rfl)) (fun _ _ _ h => h) (Or.inl ⟨by rfl, ?_⟩) ?_ ?_
              rotate_left
              ·
               intro w'
               go_simp
               with_reducible rfl
              rotate_left
              ·
               simp only [Act.put, List.setIfInBounds_toArray, List.set_cons_zero, List.set_cons_succ, i64_w, i32_w]
               rfl
              refine pure_ (i := 3) (N := some 33) (v := ?_) (a' := ?_) #[true, true, true, true, false, false, false, false, false, false, false, false] rfl rfl (any_of HT_.out (by kernel_rfl)) (fun _ _ _ h => h) (Or.inl ⟨by rfl, ?_⟩) ?_ ?_
              rotate_left
              ·
               intro w'
               go_simp
               with_reducible rfl
              rotate_left
              ·
               simp only [Act.put, List.setIfInBounds_toArray, List.set_cons_zero, List.set_cons_succ, i64_w, i32_w]
               rfl
              refine pure_ (i := 5) (N := some 35) (v := ?_) (a' := ?_) #[true, true, true, true, false, true, false, false, false, false, false, false] rfl rfl (any_of HT_.out (by kernel_rfl)) (fun _ _ _ h => h) (Or.inl ⟨by rfl, ?_⟩) ?_ ?_
              rotate_left
              ·
               intro w'
               go_simp
               with_reducible rfl
              rotate_left
              ·
               simp only [Act.put, List.setIfInBounds_toArray, List.set_cons_zero, List.set_cons_succ, i64_w, i32_w]
               rfl
              refine pure_ (i := 6) (N := some 36) (v := ?_) (a' := ?_) #[true, true, true, true, false, true, true, false, false, false, false, false] rfl rfl (any_of HT_.out (by kernel_rfl)) (fun _ _ _ h => h) (Or.inl ⟨by rfl, ?_⟩) ?_ ?_
              rotate_left
              ·
               intro w'
               go_simp
               with_reducible rfl
              rotate_left
              ·
               simp only [Act.put, List.setIfInBounds_toArray, List.set_cons_zero, List.set_cons_succ, i64_w, i32_w]
               rfl
              refine pure_ (i := 7) (N := some 37) (v := ?_) (a' := ?_) #[true, true, true, true, false, true, true, true, false, false, false, false] rfl rfl (any_of HT_.out (by kernel_rfl)) (fun _ _ _ h => h) (Or.inl ⟨by rfl, ?_⟩) ?_ ?_
              rotate_left
              ·
               intro w'
               go_simp
               with_reducible rfl
              rotate_left
              ·
               simp only [Act.put, List.setIfInBounds_toArray, List.set_cons_zero, List.set_cons_succ, i64_w, i32_w]
               rfl
              refine pure_ (i := 8) (N := some 38) (v := ?_) (a' := ?_) #[true, true, true, true, false, true, true, true, true, false, false, false] rfl rfl (any_of HT_.out (by kernel_rfl)) (fun _ _ _ h => h) (Or.inl ⟨by rfl, ?_⟩) ?_ ?_
              rotate_left
              ·
               intro w'
               go_simp
               with_reducible rfl
              rotate_left
              ·
               simp only [Act.put, List.setIfInBounds_toArray, List.set_cons_zero, List.set_cons_succ, i64_w, i32_w]
               rfl
              refine take_ (i := 4) (N := some 34) (v := ?_) (a' := ?_) #[true, true, true, true, true, true, true, true, true, false, false, false] rfl rfl (take_ofW HT_.out HW_.out (by kernel_rfl)) (fun _ _ _ h => h) (Or.inl ⟨by rfl, ?_⟩) hHeld ?_ ?_
              rotate_left
              ·
               rintro w' ⟨s0, s1⟩
               go_simp
               with_reducible rfl
              rotate_left
              ·
               simp only [Act.put, List.setIfInBounds_toArray, List.set_cons_zero, List.set_cons_succ, i64_w, i32_w]
               rfl
              refine take_ (i := 9) (N := some 39) (v := ?_) (a' := ?_) #[true, true, true, true, true, true, true, true, true, true, false, false] rfl rfl (take_ofW HT_.out HW_.out (by kernel_rfl)) (fun _ _ _ h => h) (Or.inl ⟨by rfl, ?_⟩) hHeld ?_ ?_
              rotate_left
              ·
               rintro w' ⟨s0, s1⟩
               go_simp
               with_reducible rfl
              rotate_left
              ·
               simp only [Act.put, List.setIfInBounds_toArray, List.set_cons_zero, List.set_cons_succ, i64_w, i32_w]
               rfl
              refine pure_ (i := 10) (N := some 40) (v := ?_) (a' := ?_) #[true, true, true, true, true, true, true, true, true, true, true, false] rfl rfl (any_of HT_.out (by kernel_rfl)) (fun _ _ _ h => h) (Or.inl ⟨by rfl, ?_⟩) ?_ ?_
              rotate_left
              ·
               intro w'
               go_simp
               with_reducible rfl
              rotate_left
              ·
               simp only [Act.put, List.setIfInBounds_toArray, List.set_cons_zero, List.set_cons_succ, i64_w, i32_w]
               rfl
              refine last_ (i := 11) (N := none) #[true, true, true, true, true, true, true, true, true, true, true, true] rfl rfl (one_of HT_.out (by kernel_rfl)) (by decide) (fun K hK => ?_)
              refine skip_ (w1 := ?_) (by rfl) rfl ?_ ?_
              rotate_left
              ·
               go_simp
               rfl
              refine hK.out _ _ ?_
              clear hK K
              refine done_ (done_of HT_.out (by kernel_rfl)) ?_
              try go_wp2
              have n0 : Aside0 (Kd.R (Kd.int .i64) 3 (w25.setCell ⟨go21, ((rd t237 x8_1) : Int).toNat, none⟩ (.int .i64 (rd t237 (ji16)))) w.heap.size (fun k_ => some k_ ≠ (.slice (some ⟨go21, 0, none⟩) x7_1.length co21 : Value).ownBlock) (.slice (some ad244) t237.length co26) t237) := ⟨by (with_reducible repeat (first | apply Kd.R_alloc | apply Kd.R_drewN | apply Kd.R_drew)); exact Kd.R_mono (Kd.R_far (p := ⟨go21, ((rd t237 x8_1) : Int).toNat, none⟩) (Kd.R_mono HO_6.out (fun k_ hk => (⟨hk, fun e_ => hk (by rw [e_]; rfl)⟩ : _ ∧ k_ ≠ go21))) (fun _ hk => hk.2) (.int .i64 (rd t237 (ji16)))) (fun _ hk => hk.1)⟩; have n1 : Aside0 (Kd.R (Kd.int .i64) 3 (w25.setCell ⟨go21, ((rd t237 x8_1) : Int).toNat, none⟩ (.int .i64 (rd t237 (ji16)))) w.heap.size (fun k_ => some k_ ≠ (.slice (some ad244) t237.length co26 : Value).ownBlock) (.slice (some ⟨go21, 0, none⟩) x7_1.length co21) y246) := ⟨rU HQ27.out⟩; have n2 : Aside0 ((w25.setCell ⟨go21, ((rd t237 x8_1) : Int).toNat, none⟩ (.int .i64 (rd t237 (ji16)))).heap[gb234]? = some (.cells #[.slice none 0 0, .slice none 0 0] 25 (0, 0))) := ⟨by (with_reducible repeat (first | refine blk_drewN ?_ _ | refine blk_drew ?_ | refine blk_alloc ?_ _)); refine blk_far ?_ (by have h_ := Kd.R_ne HO_7.out BK234.out (by decide); intro e_; exact h_ (by rw [e_]; rfl)) _; (with_reducible repeat (first | refine blk_drewN ?_ _ | refine blk_drew ?_ | refine blk_alloc ?_ _)); exact BK234.out⟩; have n3 : Aside0 (IsS87 w0 (w25.setCell ⟨go21, ((rd t237 x8_1) : Int).toNat, none⟩ (.int .i64 (rd t237 (ji16)))) g s0_0 t240) := ⟨by repeat (first | (with_reducible first | exact HI0.out | apply IsS87.alloc | apply IsS87.drewN | apply IsS87.drew | apply IsS87.set_1 | refine IsS87.far ?_ HN0_go21.out _ | refine IsS87.far ?_ NB0_234.out _) | exact HI0.out)⟩; have n4 : Aside0 (KeepBut w (w25.setCell ⟨go21, ((rd t237 x8_1) : Int).toNat, none⟩ (.int .i64 (rd t237 (ji16)))) g none) := ⟨by repeat (first | (with_reducible first | exact HK.out | apply KeepBut.set_ | apply keep_drewN | apply keep_drew | apply keep_alloc | refine keep_far ?_ GB21.out _ | refine keep_far ?_ GW234.out _) | exact HK.out)⟩; have n5 : Aside0 (Below w0.heap.size w0 (w25.setCell ⟨go21, ((rd t237 x8_1) : Int).toNat, none⟩ (.int .i64 (rd t237 (ji16))))) := ⟨by repeat (first | (with_reducible first | exact HB.out | apply below_alloc | apply pw_below_drewN | apply below_drew1 | refine below_set ?_ (Nat.le_trans HL.out GB21.out) | refine below_set ?_ (IsS87.ge HI0.out) | refine below_set ?_ GE234.out) | exact HB.out)⟩; (try clear HO_6); (try clear HO_7); (try clear BK234); (try clear HI0); (try clear HK); (try clear HB)
              generalize (w25.setCell ⟨go21, ((rd t237 x8_1) : Int).toNat, none⟩ (.int .i64 (rd t237 (ji16)))) = w28 at n0 n1 n2 n3 n4 n5 ⊢
              have HO_6 := n0; have HO_7 := n1; have BK234 := n2; have HI0 := n3; have HK := n4; have HB := n5; clear n0 n1 n2 n3 n4 n5; have n0 := Az (Kd.R_drew HO_6.out); have n1 := Az (Kd.R_drew HO_7.out); have n2 := Az (blk_drew BK234.out); have n3 := Az (IsS87.drew HI0.out); have n4 := Az (keep_drew HK.out); have n5 := Az (below_drew1 HB.out); clear HO_6 HO_7 BK234 HI0 HK HB; have HO_6 := n0; have HO_7 := n1; have BK234 := n2; have HI0 := n3; have HK := n4; have HB := n5; clear n0 n1 n2 n3 n4 n5; have p247 : 0 ≤ ((ji16) : Int) := oA; have q247 : (ji16) < (t237.length : Int) := oA; obtain ⟨ad247, e247, hx247_0⟩ := Kd.at_int (Kd.R_reads' HO_6.out).2.2 (ji16) p247 q247; obtain rfl : ad244 = ad247 := (by injection e247); replace p247 := eq_true p247; replace q247 := eq_true q247; have p248 : 0 ≤ (x8_1 : Int) := oA; have q248 : x8_1 < (t237.length : Int) := oA; obtain ⟨ad248, e248, hx248_0⟩ := Kd.at_int (Kd.R_reads' HO_6.out).2.2 x8_1 p248 q248; obtain rfl : ad244 = ad248 := (by injection e248); replace p248 := eq_true p248; replace q248 := eq_true q248; have p24 : 0 ≤ ((rd t237 (ji16)) : Int) := oA; have q24 : ((rd t237 (ji16)) : Int) < ((x7_1.length : Int) : Int) := oA; obtain ⟨hx24_0, hf24_0⟩ := Kd.R_celln 0 HO_7.out ((rd t237 (ji16)) : Int) p24 q24; replace p24 := eq_true p24; replace q24 := eq_true q24; have HN0_go21 := Az (show g ≠ go21 from by have h_ := IsS87.own_ne HI0.out HO_7.out (by decide); intro e_; exact h_ (by rw [e_]; rfl)); have HP30 := Kd.R_putn HO_7.out ((rd t237 (ji16)) : Int) (rd t237 x8_1); rw [← Ny249.out] at HP30; have HQ30 := Az HP30; clear HP30
              refine start_ (n := 12) (S := fun w' => w'.cell? (ad244.add ((ji16)).toNat) = some (.int .i64 (rd t237 (ji16))) ∧ w'.cell? (ad244.add (x8_1).toNat) = some (.int .i64 (rd t237 x8_1))) (ds := [11]) #[false, false, false, false, false, false, false, false, false, false, false, false] (by kernel_rfl) rfl rfl ⟨hx247_0, hx248_0⟩ (fun hHeld => ?_); refine with_tabW spec_l91Map.tab8 spec_l91Map.bits8 (fun HT_ HW_ => ?_)
              generalize w28.drew = w29 at HO_6 HO_7 BK234 HI0 HK HB HQ27 HQ30 hf24_0 hx247_0 hx248_0 hx24_0 hHeld ⊢
              refine pure_ (i := 0) (N := some 41) (v := ?_) (a' := ?_) #[true, false, false, false, false, false, false, false, false, false, false, false] rfl rfl (any_of HT_.out (by kernel_rfl)) (fun _ _ _ h => h) (Or.inl ⟨by rfl, ?_⟩) ?_ ?_
              rotate_left
              ·
               intro w'
               go_simp
               with_reducible rfl
              rotate_left
              ·
               simp only [Act.put, List.setIfInBounds_toArray, List.set_cons_zero, List.set_cons_succ, i64_w, i32_w]
               rfl
              refine pure_ (i := 1) (N := some 42) (v := ?_) (a' := ?_) #[true, true, false, false, false, false, false, false, false, false, false, false] rfl rfl (any_of HT_.out (by kernel_rfl)) (fun _ _ _ h => h) (Or.inl ⟨by rfl, ?_⟩) ?_ ?_
              rotate_left
              ·
               intro w'
               go_simp
               with_reducible rfl
              rotate_left
              ·
               simp only [Act.put, List.setIfInBounds_toArray, List.set_cons_zero, List.set_cons_succ, i64_w, i32_w]
               rfl
              refine pure_ (i := 2) (N := some 43) (v := ?_) (a' := ?_) #[true, true, true, false, false, false, false, false, false, false, false, false] rfl rfl (any_of HT_.out (by kernel_rfl)) (fun _ _ _ h => h) (Or.inl ⟨by rfl, ?_⟩) ?_ ?_
              rotate_left
              ·
               intro w'
               go_simp
               with_reducible rfl
              rotate_left
              ·
               simp only [Act.put, List.setIfInBounds_toArray, List.set_cons_zero, List.set_cons_succ, i64_w, i32_w]
               rfl
              refine pure_ (i := 3) (N := some 44) (v := ?_) (a' := ?_) #[true, true, true, true, false, false, false, false, false, false, false, false] rfl rfl (any_of HT_.out (by kernel_rfl)) (fun _ _ _ h => h) (Or.inl ⟨by rfl, ?_⟩) ?_ ?_
              rotate_left
              ·
               intro w'
               go_simp
               with_reducible rfl
              rotate_left
              ·
               simp only [Act.put, List.setIfInBounds_toArray, List.set_cons_zero, List.set_cons_succ, i64_w, i32_w]
               rfl
              refine pure_ (i := 4) (N := some 45) (v := ?_) (a' := ?_) #[true, true, true, true, true, false, false, false, false, false, false, false] rfl rfl (any_of HT_.out (by kernel_rfl)) (fun _ _ _ h => h) (Or.inl ⟨by rfl, ?_⟩) ?_ ?_
              rotate_left
              ·
               intro w'
               go_simp
               with_reducible rfl
              rotate_left
              ·
               simp only [Act.put, List.setIfInBounds_toArray, List.set_cons_zero, List.set_cons_succ, i64_w, i32_w]
               rfl
              refine pure_ (i := 6) (N := some 47) (v := ?_) (a' := ?_) #[true, true, true, true, true, false, true, false, false, false, false, false] rfl rfl (any_of HT_.out (by kernel_rfl)) (fun _ _ _ h => h) (Or.inl ⟨by rfl, ?_⟩) ?_ ?_
              rotate_left
              ·
               intro w'
               go_simp
               with_reducible rfl
              rotate_left
              ·
               simp only [Act.put, List.setIfInBounds_toArray, List.set_cons_zero, List.set_cons_succ, i64_w, i32_w]
               rfl
              refine pure_ (i := 7) (N := some 48) (v := ?_) (a' := ?_) #[true, true, true, true, true, false, true, true, false, false, false, false] rfl rfl (any_of HT_.out (by kernel_rfl)) (fun _ _ _ h => h) (Or.inl ⟨by rfl, ?_⟩) ?_ ?_
              rotate_left
              ·
               intro w'
               go_simp
               with_reducible rfl
              rotate_left
              ·
               simp only [Act.put, List.setIfInBounds_toArray, List.set_cons_zero, List.set_cons_succ, i64_w, i32_w]
               rfl
              refine pure_ (i := 8) (N := some 49) (v := ?_) (a' := ?_) #[true, true, true, true, true, false, true, true, true, false, false, false] rfl rfl (any_of HT_.out (by kernel_rfl)) (fun _ _ _ h => h) (Or.inl ⟨by rfl, ?_⟩) ?_ ?_
              rotate_left
              ·
               intro w'
               go_simp
               with_reducible rfl
              rotate_left
              ·
               simp only [Act.put, List.setIfInBounds_toArray, List.set_cons_zero, List.set_cons_succ, i64_w, i32_w]
               rfl
              refine take_ (i := 5) (N := some 46) (v := ?_) (a' := ?_) #[true, true, true, true, true, true, true, true, true, false, false, false] rfl rfl (take_ofW HT_.out HW_.out (by kernel_rfl)) (fun _ _ _ h => h) (Or.inl ⟨by rfl, ?_⟩) hHeld ?_ ?_
              rotate_left
              ·
               rintro w' ⟨s0, s1⟩
               go_simp
               with_reducible rfl
              rotate_left
              ·
               simp only [Act.put, List.setIfInBounds_toArray, List.set_cons_zero, List.set_cons_succ, i64_w, i32_w]
               rfl
              refine take_ (i := 9) (N := some 50) (v := ?_) (a' := ?_) #[true, true, true, true, true, true, true, true, true, true, false, false] rfl rfl (take_ofW HT_.out HW_.out (by kernel_rfl)) (fun _ _ _ h => h) (Or.inl ⟨by rfl, ?_⟩) hHeld ?_ ?_
              rotate_left
              ·
               rintro w' ⟨s0, s1⟩
               go_simp
               with_reducible rfl
              rotate_left
              ·
               simp only [Act.put, List.setIfInBounds_toArray, List.set_cons_zero, List.set_cons_succ, i64_w, i32_w]
               rfl
              refine pure_ (i := 10) (N := some 51) (v := ?_) (a' := ?_) #[true, true, true, true, true, true, true, true, true, true, true, false] rfl rfl (any_of HT_.out (by kernel_rfl)) (fun _ _ _ h => h) (Or.inl ⟨by rfl, ?_⟩) ?_ ?_
              rotate_left
              ·
               intro w'
               go_simp
               with_reducible rfl
              rotate_left
              ·
               simp only [Act.put, List.setIfInBounds_toArray, List.set_cons_zero, List.set_cons_succ, i64_w, i32_w]
               rfl
              refine last_ (i := 11) (N := none) #[true, true, true, true, true, true, true, true, true, true, true, true] rfl rfl (one_of HT_.out (by kernel_rfl)) (by decide) (fun K hK => ?_)
              refine skip_ (w1 := ?_) (by rfl) rfl ?_ ?_
              rotate_left
              ·
               go_simp
               rfl
              refine hK.out _ _ ?_
              clear hK K
              refine done_ (done_of HT_.out (by kernel_rfl)) ?_
              try go_wp2
              (first | go_roundg k1 | (refine Handed.intro k1 ?measure ?_; rotate_left; go_step; (try simp only [add_plain]); (repeat apply Exists.intro); refine ⟨?rel, rfl⟩))
              case measure => have := HK1.out; omega
              case rel => exact ⟨(y249), (wrap64 (x8_1 + 2)), rS, H', ⟨by have := HK1.out; omega⟩, ⟨by (with_reducible repeat (first | apply Kd.R_alloc | apply Kd.R_drewN | apply Kd.R_drew)); exact Kd.R_mono (Kd.R_far (p := ⟨go21, ((rd t237 (ji16)) : Int).toNat, none⟩) (Kd.R_mono HO_6.out (fun k_ hk => (⟨hk, fun e_ => hk (by rw [e_]; rfl)⟩ : _ ∧ k_ ≠ go21))) (fun _ hk => hk.2) (.int .i64 (rd t237 x8_1))) (fun _ hk => hk.1)⟩, ⟨rU HQ30.out⟩, ⟨by (with_reducible repeat (first | refine blk_drewN ?_ _ | refine blk_drew ?_ | refine blk_alloc ?_ _)); refine blk_far ?_ (by have h_ := Kd.R_ne HO_7.out BK234.out (by decide); intro e_; exact h_ (by rw [e_]; rfl)) _; (with_reducible repeat (first | refine blk_drewN ?_ _ | refine blk_drew ?_ | refine blk_alloc ?_ _)); exact BK234.out⟩, ⟨by repeat (first | (with_reducible first | exact HI0.out | apply IsS87.alloc | apply IsS87.drewN | apply IsS87.drew | apply IsS87.set_1 | refine IsS87.far ?_ HN0_go21.out _ | refine IsS87.far ?_ NB0_234.out _) | exact HI0.out)⟩, ⟨by repeat (first | (with_reducible first | exact HK.out | apply KeepBut.set_ | apply keep_drewN | apply keep_drew | apply keep_alloc | refine keep_far ?_ GB21.out _ | refine keep_far ?_ GW234.out _) | exact HK.out)⟩, ⟨by repeat (first | (with_reducible first | exact HB.out | apply below_alloc | apply pw_below_drewN | apply below_drew1 | refine below_set ?_ (Nat.le_trans HL.out GB21.out) | refine below_set ?_ (IsS87.ge HI0.out) | refine below_set ?_ GE234.out) | exact HB.out)⟩⟩
             ·
              rw [if_neg c23] at H
              exact absurd H (by simp)
            ·
             rw [if_neg c22] at H
             exact absurd H (by simp)
           ·
            rw [if_neg c20] at H
            exact absurd H (by simp)
          ·
           rw [if_neg c19] at H
           exact absurd H (by simp)
         ·
          rw [if_neg c18] at H
          exact absurd H (by simp)
        ·
         rw [if_neg c17] at H
         exact absurd H (by simp)
       ·
        rw [if_neg c15] at H
        exact absurd H (by simp)
      ·
       rw [if_neg c14] at H
       exact absurd H (by simp)
     ·
      rw [if_neg c13] at H; have c13b0 := decide_eq_false c13; clear c13; replace H := Option.bind_eq_some_iff.mp H; obtain ⟨⟨t250, t253⟩, A310, H⟩ := H; replace H : (spec_l91Map.l1 k1 ji5 0 s0_0 t253 t250 x7_1) = some (r1, r2, r3) := H; have A31 := Az A310; clear A310; have H' := Az H; clear H
      go_wp2_with (first | ((with_reducible refine gate_callee (f := 123) rfl ?_); refine goesL_ (some 54) rfl rfl Try.func123 (by kernel_rfl) rfl #[.pointer (some ⟨g, 0, none⟩), .int .i64 ji5] rfl (by (try simp only [List.map_toArray, List.map_cons, List.map_nil]); first | done | (simp only [hji5]; rfl) | rfl | (simp only [List.length_drop, List.length_take]; rfl)) ?_; (with_reducible refine (spec_l91Perm.calls k1 g s0_0 t240 ji5 t250 t253 w0 _ ?side1 ?side2 A31.out).mono ?_); (case side1 => repeat (first | (with_reducible first | exact HI0.out | apply IsS87.alloc | apply IsS87.drewN | apply IsS87.drew | apply IsS87.set_1 | refine IsS87.far ?_ NB0_234.out _) | exact HI0.out)); (case side2 => repeat (first | (with_reducible first | exact HB.out | apply below_alloc | apply pw_below_drewN | apply below_drew1 | refine below_set ?_ (IsS87.ge HI0.out) | refine below_set ?_ GE234.out) | exact HB.out)); rintro e w32 ⟨v251, rfl, ho0, hi, hb, hk⟩; refine ⟨_, rfl, ?_⟩; have n0 := Az (Kd.R_mono (Kd.R_told (Kd.R_oldK (IsS87.apart (show IsS87 w0 _ g s0_0 t240 from by repeat (first | (with_reducible first | exact HI0.out | apply IsS87.alloc | apply IsS87.drewN | apply IsS87.drew | apply IsS87.set_1 | refine IsS87.far ?_ NB0_234.out _) | exact HI0.out)) (rU HO_6.out) (by decide)) hk) (Kd.R_base ho0)) (fun _ h_ => h_.1)); have n1 := Az (Kd.R_mono (Kd.R_told (Kd.R_oldK (IsS87.apart (show IsS87 w0 _ g s0_0 t240 from by repeat (first | (with_reducible first | exact HI0.out | apply IsS87.alloc | apply IsS87.drewN | apply IsS87.drew | apply IsS87.set_1 | refine IsS87.far ?_ NB0_234.out _) | exact HI0.out)) (rU HO_7.out) (by decide)) hk) (Kd.R_base ho0)) (fun _ h_ => h_.1)); have n2 := Az (KeepBut.blk hk (g' := gb234) (o := .cells #[.slice none 0 0, .slice none 0 0] 25 (0, 0)) (kU BK234.out) NB234_0.out (by simp)); have n3 := Az (Kd.R_lower (Kd.R_new' (Kd.R_new' ho0 (Kd.R_lt (rU HO_6.out))) (Kd.R_lt (rU HO_7.out))) (keep_size (w := w) (g := g) (row := none) (by repeat (first | (with_reducible first | exact HK.out | apply KeepBut.set_ | apply keep_drewN | apply keep_drew | apply keep_alloc | refine keep_far ?_ GW234.out _) | exact HK.out)))); have n4 := Az (KeepBut.trans (by repeat (first | (with_reducible first | exact HK.out | apply KeepBut.set_ | apply keep_drewN | apply keep_drew | apply keep_alloc | refine keep_far ?_ GW234.out _) | exact HK.out)) hk (.inl rfl)); have n5 := Az (hb); have n6 := Az (hi); clear HO_6 HO_7 BK234 HK HB HI0; have HO_6 := n0; have HO_7 := n1; have BK234 := n2; have HO252 := n3; have HK := n4; have HB := n5; have HI0 := n6; clear n0 n1 n2 n3 n4 n5 n6; (try clear hb); (try clear hb2); (try clear hk); (try clear hi); (try clear ho0); obtain ⟨Ao33, co33, eo33⟩ := Kd.R_slice HO_7.out; subst eo33; obtain ⟨Ao34, co34, eo34⟩ := Kd.R_slice HO252.out; subst eo34) | ((with_reducible refine gate_dst (N := 9) rfl ?_); refine box_event ?hg (N := 9) ?hd (cs := #[.slice none 0 0, .slice none 0 0]) (t := 25) ?hr ?_; (case hd => rfl); (case hg => rfl); (case hr => first | (go_simp; done) | (go_simp; rfl)); intro gb254 hg w35 hbox hb; have n0 := Az (Kd.R_below (rU HO_6.out) hb); have n1 := Az (Kd.R_below (rU HO_7.out) hb); have n2 := Az (Kd.R_below (rU HO252.out) hb); have n3 := Az (blk_below (g := gb234) (o := .cells #[.slice none 0 0, .slice none 0 0] 25 (0, 0)) (kU BK234.out) hb); have n4 := Az (IsS87.below (by repeat (first | (with_reducible first | exact HI0.out | apply IsS87.alloc | apply IsS87.drewN | apply IsS87.drew | apply IsS87.set_1 | refine IsS87.far ?_ NB0_234.out _) | exact HI0.out)) hb); have n5 := Az (KeepBut.trans (by repeat (first | (with_reducible first | exact HK.out | apply KeepBut.set_ | apply keep_drewN | apply keep_drew | apply keep_alloc | refine keep_far ?_ GW234.out _) | exact HK.out)) (KeepBut.of_below hb g none) (.inl rfl)); have n6 := Az (below_step (by repeat (first | (with_reducible first | exact HB.out | apply below_alloc | apply pw_below_drewN | apply below_drew1 | refine below_set ?_ (IsS87.ge HI0.out) | refine below_set ?_ GE234.out) | exact HB.out)) hb); have n7 := Az (hbox); have n8 := Az ((by rw [hg]; exact (keep_size (w := w) (g := g) (row := none) (by repeat (first | (with_reducible first | exact HK.out | apply KeepBut.set_ | apply keep_drewN | apply keep_drew | apply keep_alloc | refine keep_far ?_ GW234.out _) | exact HK.out))) : w.heap.size ≤ gb254)); have n9 := Az ((Nat.le_trans HW0.out (by rw [hg]; exact (keep_size (w := w) (g := g) (row := none) (by repeat (first | (with_reducible first | exact HK.out | apply KeepBut.set_ | apply keep_drewN | apply keep_drew | apply keep_alloc | refine keep_far ?_ GW234.out _) | exact HK.out))) : w.heap.size ≤ gb254) : w0.heap.size ≤ gb254)); have n10 := Az ((by rw [hg]; exact Nat.ne_of_lt (blk_lt (g := gb234) (o := .cells #[.slice none 0 0, .slice none 0 0] 25 (0, 0)) (kU BK234.out)) : gb234 ≠ gb254)); have n11 := Az ((by rw [hg]; exact Nat.ne_of_gt (blk_lt (g := gb234) (o := .cells #[.slice none 0 0, .slice none 0 0] 25 (0, 0)) (kU BK234.out)) : gb254 ≠ gb234)); have n12 := Az ((by rw [hg]; exact Nat.ne_of_lt (IsS87.lt (show IsS87 w0 _ g s0_0 t253 from by repeat (first | (with_reducible first | exact HI0.out | apply IsS87.alloc | apply IsS87.drewN | apply IsS87.drew | apply IsS87.set_1 | refine IsS87.far ?_ NB0_234.out _) | exact HI0.out))) : g ≠ gb254)); have n13 := Az ((by rw [hg]; exact Nat.ne_of_gt (IsS87.lt (show IsS87 w0 _ g s0_0 t253 from by repeat (first | (with_reducible first | exact HI0.out | apply IsS87.alloc | apply IsS87.drewN | apply IsS87.drew | apply IsS87.set_1 | refine IsS87.far ?_ NB0_234.out _) | exact HI0.out))) : gb254 ≠ g)); clear HO_6 HO_7 HO252 BK234 HI0 HK HB; have HO_6 := n0; have HO_7 := n1; have HO252 := n2; have BK234 := n3; have HI0 := n4; have HK := n5; have HB := n6; have BK254 := n7; have GW254 := n8; have GE254 := n9; have NB234_254 := n10; have NB254_234 := n11; have NB0_254 := n12; have NB254_0 := n13; clear n0 n1 n2 n3 n4 n5 n6 n7 n8 n9 n10 n11 n12 n13 hb hbox hg; have hnb36 := NB254_234.out; have hnc36 := NB234_254.out; have hnb37 := NB254_0.out; have hnc37 := NB0_254.out; have hcz38_0 : w35.cell? ⟨gb254, 0, none⟩ = some (.slice none 0 0) := (blk_cell BK254.out 0).trans rfl; have hcz38_1 : w35.cell? ⟨gb254, 1, none⟩ = some (.slice none 0 0) := (blk_cell BK254.out 1).trans rfl; have hfz38_0 := blk_frozen BK254.out 0; have hfz38_1 := blk_frozen BK254.out 1))
      go_loopg [10] k1 (fun kq v10 w' => ∃ (x10_2 : Int) (xZ0_2 : List Int) (xZ1_2 : List Int) (uZ0 : Value) (uZ1 : Value), v10 = .int .i64 x10_2 ∧ Aside0 (spec_l91Map.l1 kq ji5 x10_2 s0_0 t253 xZ0_2 xZ1_2 = some (r1, r2, r3)) ∧ Aside0 (kq ≤ k1) ∧ Aside0 (Kd.Q (Kd.int .i64) 3 w' w.heap.size (fun k_ => some k_ ≠ (uZ1 : Value).ownBlock) uZ0 xZ0_2) ∧ Aside0 (Kd.R (Kd.int .i64) 3 w' w.heap.size (fun k_ => some k_ ≠ (uZ0 : Value).ownBlock) uZ1 xZ1_2) ∧ Aside0 (w'.heap[gb234]? = some (.cells #[(.slice none 0 0), (.slice none 0 0)] 25 (0, 0))) ∧ Aside0 (w'.heap[gb254]? = some (.cells #[uZ0, uZ1] 25 (0, 0))) ∧ Aside0 (IsS87 w0 w' g s0_0 t253) ∧ Aside0 (KeepBut w w' g none) ∧ Aside0 (Below w0.heap.size w0 w'))
      case atStart => exact ⟨(0), (t250), (x7_1), (.slice Ao34 t250.length co34), (.slice Ao33 x7_1.length co33), rS, H', ⟨Nat.le_refl _⟩, ⟨Kd.Q_of_R (by (with_reducible repeat (first | apply Kd.R_alloc | apply Kd.R_drewN | apply Kd.R_drew)); exact Kd.R_mono (Kd.R_far (p := ⟨gb254, 1, none⟩) (Kd.R_far (p := ⟨gb254, 0, none⟩) (Kd.R_types HO252.out BK254.out (by decide)) (fun _ hk => hk.2) (.slice Ao34 t250.length co34)) (fun _ hk => hk.2) (.slice Ao33 x7_1.length co33)) (fun _ hk => hk.1.2))⟩, ⟨by (with_reducible repeat (first | apply Kd.R_alloc | apply Kd.R_drewN | apply Kd.R_drew)); exact Kd.R_mono (Kd.R_far (p := ⟨gb254, 1, none⟩) (Kd.R_far (p := ⟨gb254, 0, none⟩) (Kd.R_types HO_7.out BK254.out (by decide)) (fun _ hk => hk.2) (.slice Ao34 t250.length co34)) (fun _ hk => hk.2) (.slice Ao33 x7_1.length co33)) (fun _ hk => hk.1.2)⟩, ⟨by (with_reducible repeat (first | refine blk_drewN ?_ _ | refine blk_drew ?_ | refine blk_alloc ?_ _)); refine blk_far ?_ NB234_254.out _; (with_reducible repeat (first | refine blk_drewN ?_ _ | refine blk_drew ?_ | refine blk_alloc ?_ _)); refine blk_far ?_ NB234_254.out _; (with_reducible repeat (first | refine blk_drewN ?_ _ | refine blk_drew ?_ | refine blk_alloc ?_ _)); exact BK234.out⟩, ⟨by (with_reducible repeat (first | refine blk_drewN ?_ _ | refine blk_drew ?_ | refine blk_alloc ?_ _)); refine blk_put (cs := #[.slice Ao34 t250.length co34, .slice none 0 0]) ?_ 1 _ rfl; (with_reducible repeat (first | refine blk_drewN ?_ _ | refine blk_drew ?_ | refine blk_alloc ?_ _)); refine blk_put (cs := #[.slice none 0 0, .slice none 0 0]) ?_ 0 _ rfl; (with_reducible repeat (first | refine blk_drewN ?_ _ | refine blk_drew ?_ | refine blk_alloc ?_ _)); exact BK254.out⟩, ⟨by repeat (first | (with_reducible first | exact HI0.out | apply IsS87.alloc | apply IsS87.drewN | apply IsS87.drew | apply IsS87.set_1 | refine IsS87.far ?_ NB0_234.out _ | refine IsS87.far ?_ NB0_254.out _) | exact HI0.out)⟩, ⟨by repeat (first | (with_reducible first | exact HK.out | apply KeepBut.set_ | apply keep_drewN | apply keep_drew | apply keep_alloc | refine keep_far ?_ GW234.out _ | refine keep_far ?_ GW254.out _) | exact HK.out)⟩, ⟨by repeat (first | (with_reducible first | exact HB.out | apply below_alloc | apply pw_below_drewN | apply below_drew1 | refine below_set ?_ (IsS87.ge HI0.out) | refine below_set ?_ GE234.out | refine below_set ?_ GE254.out) | exact HB.out)⟩⟩
      case round =>
       clear H'; (try clear c1); (try clear c2); (try clear p2); (try clear q2); (try clear hx2); (try clear hf2); (try clear c3); (try clear c6); (try clear c6b0); (try clear c6b1); (try clear p6); (try clear c7); (try clear c7b0); (try clear c7b1); (try clear c12); (try clear c13); (try clear c13b0); (try clear c14); (try clear c14b0); (try clear c15); (try clear c15b0); (try clear c17); (try clear c17b0); (try clear c18); (try clear c18b0); (try clear c19); (try clear c19b0); (try clear c20); (try clear c20b0); (try clear p21); (try clear q21); (try clear hx21); (try clear hf21); (try clear c22); (try clear c22b0); (try clear c23); (try clear c23b0); (try clear p24); (try clear q24); (try clear hx24); (try clear hf24); (try clear c36); (try clear c37); (try clear hcz38_0); (try clear hcz38_1); (try clear hfz38_0); (try clear hfz38_1); (try clear hx21_0); (try clear hx244_0); (try clear hx245_0); (try clear hx247_0); (try clear hx248_0); (try clear hx24_0); (try clear p2); (try clear p21); (try clear p24); (try clear p244); (try clear p245); (try clear p247); (try clear p248); (try clear p6); (try clear q21); (try clear q24); (try clear q244); (try clear q245); (try clear q247); (try clear q248); obtain ⟨x10_2, xZ0_2, xZ1_2, uZ0, uZ1, rfl, HA, HK2, HO_Z0, HO_Z1, BK234, BK254, HI0, HK, HB⟩ := hrel
       cases gk with
       | zero => exact absurd HA.out (by simp [spec_l91Map.l1])
       | succ k2 =>
        have H := HA.out; clear HA; simp only [spec_l91Map.l1] at H; have HC39 := Az H; clear H
        go_upto_region 11 with (fail)
        go_cut [64] (fun v64 wc => ∃ (kq : Nat) (x64_38 : Bool), v64 = .bool x64_38 ∧ Aside0 (spec_l91Map.j2 kq ji5 x10_2 x64_38 s0_0 t253 xZ0_2 xZ1_2 = some (r1, r2, r3)) ∧ Aside0 (kq ≤ k2) ∧ Aside0 (Kd.Q (Kd.int .i64) 3 wc w.heap.size (fun k_ => some k_ ≠ (uZ1 : Value).ownBlock) uZ0 xZ0_2) ∧ Aside0 (Kd.R (Kd.int .i64) 3 wc w.heap.size (fun k_ => some k_ ≠ (uZ0 : Value).ownBlock) uZ1 xZ1_2) ∧ Aside0 (wc.heap[gb234]? = some (.cells #[(.slice none 0 0), (.slice none 0 0)] 25 (0, 0))) ∧ Aside0 (wc.heap[gb254]? = some (.cells #[uZ0, uZ1] 25 (0, 0))) ∧ Aside0 (IsS87 w0 wc g s0_0 t253) ∧ Aside0 (KeepBut w wc g none) ∧ Aside0 (Below w0.heap.size w0 wc))
        case first =>
         have H := HC39.out; clear HC39
         by_cases c40 : x10_2 < ji5
         ·
          rw [if_pos c40] at H; have c40b0 := decide_eq_true c40; clear c40; (first | rw [c40b0] | (simp only [i64_w, i32_w]; rw [c40b0]) | skip); replace H := Option.bind_eq_some_iff.mp H; obtain ⟨t255, A410, H⟩ := H; replace H : (spec_l91Map.j2 k2 ji5 x10_2 (!t255) s0_0 t253 xZ0_2 xZ1_2) = some (r1, r2, r3) := H; have A41 := Az A410; clear A410; have H' := Az H; clear H; have hnb42 := NB254_234.out; have hnc42 := NB234_254.out; have hnb43 := NB254_0.out; have hnc43 := NB0_254.out; have hcz44_0 : wr.cell? ⟨gb254, 0, none⟩ = some (uZ0) := (blk_cell BK254.out 0).trans rfl; have hcz44_1 : wr.cell? ⟨gb254, 1, none⟩ = some (uZ1) := (blk_cell BK254.out 1).trans rfl; have hfz44_0 := blk_frozen BK254.out 0; have hfz44_1 := blk_frozen BK254.out 1; obtain ⟨Ao45, co45, eo45, _⟩ := Kd.Q_slice HO_Z0.out; subst eo45; obtain ⟨Ao46, co46, eo46⟩ := Kd.R_slice HO_Z1.out; subst eo46
          go_wp2_with (first | (go_at_call 79; (with_reducible refine (spec_MapValid.calls k2 _ _ xZ0_2 _ _ xZ1_2 t255 _ ?side1 ?side2 ?side3 ?side4 A41.out).mono ?_); (case side1 => exact cU ((Kd.Q_reads' HO_Z0.out).2.2)); (case side2 => exact (Kd.Q_reads' HO_Z0.out).2.1); (case side3 => exact cU ((Kd.R_reads' HO_Z1.out).2.2)); (case side4 => exact (Kd.R_reads' HO_Z1.out).2.1); rintro e w47 ⟨rfl, hb⟩; have n0 := Az (Kd.Q_below (qU HO_Z0.out) hb); have n1 := Az (Kd.R_below (rU HO_Z1.out) hb); have n2 := Az (blk_below (g := gb234) (o := .cells #[.slice none 0 0, .slice none 0 0] 25 (0, 0)) (kU BK234.out) hb); have n3 := Az (blk_below (g := gb254) (o := .cells #[.slice Ao45 xZ0_2.length co45, .slice Ao46 xZ1_2.length co46] 25 (0, 0)) (kU BK254.out) hb); have n4 := Az (IsS87.below (by repeat (first | (with_reducible first | exact HI0.out | apply IsS87.alloc | apply IsS87.drewN | apply IsS87.drew | apply IsS87.set_1 | refine IsS87.far ?_ NB0_234.out _ | refine IsS87.far ?_ NB0_254.out _) | exact HI0.out)) hb); have n5 := Az (KeepBut.trans (by repeat (first | (with_reducible first | exact HK.out | apply KeepBut.set_ | apply keep_drewN | apply keep_drew | apply keep_alloc | refine keep_far ?_ GW234.out _ | refine keep_far ?_ GW254.out _) | exact HK.out)) (KeepBut.of_below hb g none) (.inl rfl)); have n6 := Az (below_step (by repeat (first | (with_reducible first | exact HB.out | apply below_alloc | apply pw_below_drewN | apply below_drew1 | refine below_set ?_ (IsS87.ge HI0.out) | refine below_set ?_ GE234.out | refine below_set ?_ GE254.out) | exact HB.out)) hb); clear HO_Z0 HO_Z1 BK234 BK254 HI0 HK HB; have HO_Z0 := n0; have HO_Z1 := n1; have BK234 := n2; have BK254 := n3; have HI0 := n4; have HK := n5; have HB := n6; clear n0 n1 n2 n3 n4 n5 n6; (try clear hb); (try clear hb2); (try clear hk); (try clear hi)))
          go_meet
          case rel => exact ⟨_, (!t255), rS, H', ⟨by have := HK1.out; have := HK2.out; first | omega | exact Nat.le_refl _⟩, ⟨qU HO_Z0.out⟩, ⟨rU HO_Z1.out⟩, ⟨kU BK234.out⟩, ⟨kU BK254.out⟩, ⟨by repeat (first | (with_reducible first | exact HI0.out | apply IsS87.alloc | apply IsS87.drewN | apply IsS87.drew | apply IsS87.set_1 | refine IsS87.far ?_ NB0_234.out _ | refine IsS87.far ?_ NB0_254.out _) | exact HI0.out)⟩, ⟨by repeat (first | (with_reducible first | exact HK.out | apply KeepBut.set_ | apply keep_drewN | apply keep_drew | apply keep_alloc | refine keep_far ?_ GW234.out _ | refine keep_far ?_ GW254.out _) | exact HK.out)⟩, ⟨by repeat (first | (with_reducible first | exact HB.out | apply below_alloc | apply pw_below_drewN | apply below_drew1 | refine below_set ?_ (IsS87.ge HI0.out) | refine below_set ?_ GE234.out | refine below_set ?_ GE254.out) | exact HB.out)⟩⟩
         ·
          rw [if_neg c40] at H; have c40b0 := decide_eq_false c40; clear c40; (first | rw [c40b0] | (simp only [i64_w, i32_w]; rw [c40b0]) | skip); have H' := Az H; clear H
          go_wp2
          go_meet
          case rel => exact ⟨_, (false), rS, H', ⟨by have := HK1.out; have := HK2.out; first | omega | exact Nat.le_refl _⟩, ⟨qU HO_Z0.out⟩, ⟨rU HO_Z1.out⟩, ⟨kU BK234.out⟩, ⟨kU BK254.out⟩, ⟨by repeat (first | (with_reducible first | exact HI0.out | apply IsS87.alloc | apply IsS87.drewN | apply IsS87.drew | apply IsS87.set_1 | refine IsS87.far ?_ NB0_234.out _ | refine IsS87.far ?_ NB0_254.out _) | exact HI0.out)⟩, ⟨by repeat (first | (with_reducible first | exact HK.out | apply KeepBut.set_ | apply keep_drewN | apply keep_drew | apply keep_alloc | refine keep_far ?_ GW234.out _ | refine keep_far ?_ GW254.out _) | exact HK.out)⟩, ⟨by repeat (first | (with_reducible first | exact HB.out | apply below_alloc | apply pw_below_drewN | apply below_drew1 | refine below_set ?_ (IsS87.ge HI0.out) | refine below_set ?_ GE234.out | refine below_set ?_ GE254.out) | exact HB.out)⟩⟩
        case rest =>
         clear HC39; (try clear c1); (try clear c2); (try clear p2); (try clear q2); (try clear hx2); (try clear hf2); (try clear c3); (try clear c4); (try clear c6); (try clear c6b0); (try clear c6b1); (try clear p6); (try clear c7); (try clear c7b0); (try clear c7b1); (try clear c12); (try clear c13); (try clear c13b0); (try clear c14); (try clear c14b0); (try clear c15); (try clear c15b0); (try clear c17); (try clear c17b0); (try clear c18); (try clear c18b0); (try clear c19); (try clear c19b0); (try clear c20); (try clear c20b0); (try clear p21); (try clear q21); (try clear hx21); (try clear hf21); (try clear c22); (try clear c22b0); (try clear c23); (try clear c23b0); (try clear p24); (try clear q24); (try clear hx24); (try clear hf24); (try clear c36); (try clear c37); (try clear c40); (try clear c40b0); (try clear c42); (try clear c43); (try clear hcz38_0); (try clear hcz38_1); (try clear hcz44_0); (try clear hcz44_1); (try clear hfz38_0); (try clear hfz38_1); (try clear hfz44_0); (try clear hfz44_1); (try clear hx21_0); (try clear hx244_0); (try clear hx245_0); (try clear hx247_0); (try clear hx248_0); (try clear hx24_0); (try clear p2); (try clear p21); (try clear p24); (try clear p244); (try clear p245); (try clear p247); (try clear p248); (try clear p6); (try clear q2); (try clear q21); (try clear q24); (try clear q244); (try clear q245); (try clear q247); (try clear q248); obtain ⟨kq, x64_38, rfl, HA, HJ38, HO_Z0, HO_Z1, BK234, BK254, HI0, HK, HB⟩ := hcut
         cases kq with
         | zero => exact absurd HA.out (by simp [spec_l91Map.j2])
         | succ kj38 =>
          have H := HA.out; clear HA; simp only [spec_l91Map.j2] at H
          by_cases c48 : x64_38 = true
          ·
           subst c48
           have H1 : ((spec_l1Orbits.f kj38 xZ0_2 xZ1_2).bind fun t256 => (spec_l91Map.l2 kj38 ji5 x10_2 t256 0 s0_0 t253 xZ0_2 xZ1_2)) = some (r1, r2, r3) := by rw [if_pos rfl] at H; exact H
           clear H; have H := H1; clear H1; replace H := Option.bind_eq_some_iff.mp H; obtain ⟨t256, A490, H⟩ := H; replace H : (spec_l91Map.l2 kj38 ji5 x10_2 t256 0 s0_0 t253 xZ0_2 xZ1_2) = some (r1, r2, r3) := H; have A49 := Az A490; clear A490; have H' := Az H; clear H; have hnb50 := NB254_234.out; have hnc50 := NB234_254.out; have hnb51 := NB254_0.out; have hnc51 := NB0_254.out; have hcz52_0 : wc.cell? ⟨gb254, 0, none⟩ = some (uZ0) := (blk_cell BK254.out 0).trans rfl; have hcz52_1 : wc.cell? ⟨gb254, 1, none⟩ = some (uZ1) := (blk_cell BK254.out 1).trans rfl; have hfz52_0 := blk_frozen BK254.out 0; have hfz52_1 := blk_frozen BK254.out 1; obtain ⟨Ao53, co53, eo53, _⟩ := Kd.Q_slice HO_Z0.out; subst eo53; obtain ⟨Ao54, co54, eo54⟩ := Kd.R_slice HO_Z1.out; subst eo54
           go_wp2_with (first | ((with_reducible refine gate_callee (f := 124) rfl ?_); refine goesL_ (some 71) rfl rfl Try.func124 (by kernel_rfl) rfl #[.slice Ao53 xZ0_2.length co53, .slice Ao54 xZ1_2.length co54] rfl (by (try simp only [List.map_toArray, List.map_cons, List.map_nil]); first | done | rfl | (simp only [List.length_drop, List.length_take]; rfl)) ?_; (with_reducible refine (spec_l1Orbits.calls kj38 _ _ xZ0_2 _ _ xZ1_2 t256 _ ?side1 ?side2 ?side3 ?side4 A49.out).mono ?_); (case side1 => exact cU ((Kd.Q_reads' HO_Z0.out).2.2)); (case side2 => exact (Kd.Q_reads' HO_Z0.out).2.1); (case side3 => exact cU ((Kd.R_reads' HO_Z1.out).2.2)); (case side4 => exact (Kd.R_reads' HO_Z1.out).2.1); rintro e w55 ⟨v257, rfl, ho0, hb⟩; refine ⟨_, rfl, ?_⟩; have n0 := Az (Kd.Q_elder' (qU HO_Z0.out) (Kd.R_base ho0) hb); have n1 := Az (Kd.R_elder' (rU HO_Z1.out) (Kd.R_base ho0) hb); have n2 := Az (Kd.R_lower (Kd.R_new' (Kd.R_new' ho0 (Kd.Q_lt (qU HO_Z0.out))) (Kd.R_lt (rU HO_Z1.out))) (keep_size (w := w) (g := g) (row := none) (by repeat (first | (with_reducible first | exact HK.out | apply KeepBut.set_ | apply keep_drewN | apply keep_drew | apply keep_alloc | refine keep_far ?_ GW234.out _ | refine keep_far ?_ GW254.out _) | exact HK.out)))); have n3 := Az (blk_below (g := gb234) (o := .cells #[.slice none 0 0, .slice none 0 0] 25 (0, 0)) (kU BK234.out) hb); have n4 := Az (blk_below (g := gb254) (o := .cells #[.slice Ao53 xZ0_2.length co53, .slice Ao54 xZ1_2.length co54] 25 (0, 0)) (kU BK254.out) hb); have n5 := Az (IsS87.below (by repeat (first | (with_reducible first | exact HI0.out | apply IsS87.alloc | apply IsS87.drewN | apply IsS87.drew | apply IsS87.set_1 | refine IsS87.far ?_ NB0_234.out _ | refine IsS87.far ?_ NB0_254.out _) | exact HI0.out)) hb); have n6 := Az (KeepBut.trans (by repeat (first | (with_reducible first | exact HK.out | apply KeepBut.set_ | apply keep_drewN | apply keep_drew | apply keep_alloc | refine keep_far ?_ GW234.out _ | refine keep_far ?_ GW254.out _) | exact HK.out)) (KeepBut.of_below hb g none) (.inl rfl)); have n7 := Az (below_step (by repeat (first | (with_reducible first | exact HB.out | apply below_alloc | apply pw_below_drewN | apply below_drew1 | refine below_set ?_ (IsS87.ge HI0.out) | refine below_set ?_ GE234.out | refine below_set ?_ GE254.out) | exact HB.out)) hb); clear HO_Z0 HO_Z1 BK234 BK254 HI0 HK HB; have HO_Z0 := n0; have HO_Z1 := n1; have HO258 := n2; have BK234 := n3; have BK254 := n4; have HI0 := n5; have HK := n6; have HB := n7; clear n0 n1 n2 n3 n4 n5 n6 n7; (try clear hb); (try clear hb2); (try clear hk); (try clear hi); (try clear ho0)))
           go_loopg [12] kj38 (fun kq v12 w' => ∃ (x12_4 : Int), v12 = .int .i64 x12_4 ∧ Aside0 (spec_l91Map.l2 kq ji5 x10_2 t256 x12_4 s0_0 t253 xZ0_2 xZ1_2 = some (r1, r2, r3)) ∧ Aside0 (kq ≤ kj38) ∧ Aside0 (Kd.R (Kd.int .i64) 3 w' w.heap.size (fun k_ => some k_ ≠ ((.slice Ao53 xZ0_2.length co53) : Value).ownBlock ∧ some k_ ≠ ((.slice Ao54 xZ1_2.length co54) : Value).ownBlock) v257 t256) ∧ Aside0 (Kd.Q (Kd.int .i64) 3 w' w.heap.size (fun k_ => some k_ ≠ (v257 : Value).ownBlock ∧ some k_ ≠ ((.slice Ao54 xZ1_2.length co54) : Value).ownBlock) (.slice Ao53 xZ0_2.length co53) xZ0_2) ∧ Aside0 (Kd.R (Kd.int .i64) 3 w' w.heap.size (fun k_ => some k_ ≠ (v257 : Value).ownBlock ∧ some k_ ≠ ((.slice Ao53 xZ0_2.length co53) : Value).ownBlock) (.slice Ao54 xZ1_2.length co54) xZ1_2) ∧ Aside0 (w'.heap[gb234]? = some (.cells #[(.slice none 0 0), (.slice none 0 0)] 25 (0, 0))) ∧ Aside0 (w'.heap[gb254]? = some (.cells #[(.slice Ao53 xZ0_2.length co53), (.slice Ao54 xZ1_2.length co54)] 25 (0, 0))) ∧ Aside0 (IsS87 w0 w' g s0_0 t253) ∧ Aside0 (KeepBut w w' g none) ∧ Aside0 (Below w0.heap.size w0 w'))
           case atStart => exact ⟨(0), rS, H', ⟨Nat.le_refl _⟩, ⟨by (with_reducible repeat (first | apply Kd.R_alloc | apply Kd.R_drewN | apply Kd.R_drew)); exact Kd.R_mono HO258.out (fun _ hk => ⟨hk.1.2, hk.2⟩)⟩, ⟨by (with_reducible repeat (first | apply Kd.Q_alloc | apply Kd.Q_drewN | apply Kd.Q_drew)); exact Kd.Q_mono HO_Z0.out (fun _ hk => ⟨hk.2, hk.1⟩)⟩, ⟨by (with_reducible repeat (first | apply Kd.R_alloc | apply Kd.R_drewN | apply Kd.R_drew)); exact Kd.R_mono HO_Z1.out (fun _ hk => ⟨hk.2, hk.1⟩)⟩, ⟨kU BK234.out⟩, ⟨kU BK254.out⟩, ⟨by repeat (first | (with_reducible first | exact HI0.out | apply IsS87.alloc | apply IsS87.drewN | apply IsS87.drew | apply IsS87.set_1 | refine IsS87.far ?_ NB0_234.out _ | refine IsS87.far ?_ NB0_254.out _) | exact HI0.out)⟩, ⟨by repeat (first | (with_reducible first | exact HK.out | apply KeepBut.set_ | apply keep_drewN | apply keep_drew | apply keep_alloc | refine keep_far ?_ GW234.out _ | refine keep_far ?_ GW254.out _) | exact HK.out)⟩, ⟨by repeat (first | (with_reducible first | exact HB.out | apply below_alloc | apply pw_below_drewN | apply below_drew1 | refine below_set ?_ (IsS87.ge HI0.out) | refine below_set ?_ GE234.out | refine below_set ?_ GE254.out) | exact HB.out)⟩⟩
           case round =>
            clear H'; (try clear c1); (try clear c2); (try clear p2); (try clear q2); (try clear hx2); (try clear hf2); (try clear c3); (try clear c4); (try clear c5); (try clear c6); (try clear c6b0); (try clear c6b1); (try clear p6); (try clear c7); (try clear c7b0); (try clear c7b1); (try clear c12); (try clear c13); (try clear c13b0); (try clear c14); (try clear c14b0); (try clear c15); (try clear c15b0); (try clear c17); (try clear c17b0); (try clear c18); (try clear c18b0); (try clear c19); (try clear c19b0); (try clear c20); (try clear c20b0); (try clear p21); (try clear q21); (try clear hx21); (try clear hf21); (try clear c22); (try clear c22b0); (try clear c23); (try clear c23b0); (try clear p24); (try clear q24); (try clear hx24); (try clear hf24); (try clear c36); (try clear c37); (try clear c40); (try clear c40b0); (try clear c42); (try clear c43); (try clear c48); (try clear c50); (try clear c51); (try clear hcz38_0); (try clear hcz38_1); (try clear hcz44_0); (try clear hcz44_1); (try clear hcz52_0); (try clear hcz52_1); (try clear hfz38_0); (try clear hfz38_1); (try clear hfz44_0); (try clear hfz44_1); (try clear hfz52_0); (try clear hfz52_1); (try clear hx21_0); (try clear hx244_0); (try clear hx245_0); (try clear hx247_0); (try clear hx248_0); (try clear hx24_0); (try clear p2); (try clear p21); (try clear p24); (try clear p244); (try clear p245); (try clear p247); (try clear p248); (try clear p6); (try clear q2); (try clear q21); (try clear q24); (try clear q244); (try clear q245); (try clear q247); (try clear q248); obtain ⟨x12_4, rfl, HA, HK4, HO_11, HO_Z0, HO_Z1, BK234, BK254, HI0, HK, HB⟩ := hrel
            cases gk with
            | zero => exact absurd HA.out (by simp [spec_l91Map.l2])
            | succ k4 =>
             have H := HA.out; clear HA; simp only [spec_l91Map.l2] at H
             by_cases c56 : 0 ≤ x12_4
             ·
              rw [if_pos c56] at H; have c56b0 := decide_eq_true c56; clear c56
              by_cases c57 : x12_4 < (t256.length : Int)
              ·
               rw [if_pos c57] at H; have c57b0 := decide_eq_true c57; clear c57
               by_cases c58 : (rd t256 x12_4) = 0
               ·
                rw [if_pos c58] at H; have c58b0 := beq_iff_eq.mpr c58; have c58b1 := bne_eq_false_iff_eq.mpr c58; clear c58; have H' := Az H; clear H; obtain ⟨Ao59, co59, eo59⟩ := Kd.R_slice HO_11.out; subst eo59; have p259 : 0 ≤ (x12_4 : Int) := oA; have q259 : x12_4 < (t256.length : Int) := oA; obtain ⟨ad259, e259, hx259_0⟩ := Kd.at_int (Kd.R_reads' HO_11.out).2.2 x12_4 p259 q259
                cases e259
                replace p259 := eq_true p259; replace q259 := eq_true q259
                go_wp2
                (first | go_roundg k4 | (refine Handed.intro k4 ?measure ?_; rotate_left; go_step; (try simp only [add_plain]); (repeat apply Exists.intro); refine ⟨?rel, rfl⟩))
                case measure => have := HK1.out; have := HK2.out; have := HJ38.out; have := HK4.out; omega
                case rel => exact ⟨(wrap64 (x12_4 + 1)), rS, H', ⟨by have := HK1.out; have := HK2.out; have := HJ38.out; have := HK4.out; omega⟩, ⟨rU HO_11.out⟩, ⟨qU HO_Z0.out⟩, ⟨rU HO_Z1.out⟩, ⟨kU BK234.out⟩, ⟨kU BK254.out⟩, ⟨by repeat (first | (with_reducible first | exact HI0.out | apply IsS87.alloc | apply IsS87.drewN | apply IsS87.drew | apply IsS87.set_1 | refine IsS87.far ?_ NB0_234.out _ | refine IsS87.far ?_ NB0_254.out _) | exact HI0.out)⟩, ⟨by repeat (first | (with_reducible first | exact HK.out | apply KeepBut.set_ | apply keep_drewN | apply keep_drew | apply keep_alloc | refine keep_far ?_ GW234.out _ | refine keep_far ?_ GW254.out _) | exact HK.out)⟩, ⟨by repeat (first | (with_reducible first | exact HB.out | apply below_alloc | apply pw_below_drewN | apply below_drew1 | refine below_set ?_ (IsS87.ge HI0.out) | refine below_set ?_ GE234.out | refine below_set ?_ GE254.out) | exact HB.out)⟩⟩
               ·
                rw [if_neg c58] at H; have c58b0 := beq_eq_false_iff_ne.mpr c58; have c58b1 := bne_iff_ne.mpr c58
                by_cases c60 : 0 < (xZ0_2.length : Int)
                ·
                 rw [if_pos c60] at H; have c60b0 := decide_eq_true c60; have c60b1 : decide (0 < xZ0_2.length) = true := decide_eq_true (by omega); clear c60
                 by_cases c61 : x12_4 < (xZ0_2.length : Int)
                 ·
                  rw [if_pos c61] at H; have c61b0 := decide_eq_true c61; clear c61; obtain ⟨y262, hy262⟩ : ∃ y_ : List Int, y_ = (xZ0_2.set (0 : Int).toNat (rd xZ0_2 x12_4)) := ⟨_, rfl⟩; replace H : (spec_l91Map.l1 k4 ji5 (wrap64 (x10_2 + 1)) s0_0 t253 (y262.set (x12_4 : Int).toNat (rd xZ0_2 0)) xZ1_2) = some (r1, r2, r3) := hR hy262 H; have Ny262 := Az hy262; clear hy262; obtain ⟨y263, hy263⟩ : ∃ y_ : List Int, y_ = (y262.set (x12_4 : Int).toNat (rd xZ0_2 0)) := ⟨_, rfl⟩; replace H : (spec_l91Map.l1 k4 ji5 (wrap64 (x10_2 + 1)) s0_0 t253 y263 xZ1_2) = some (r1, r2, r3) := hR hy263 H; have Ny263 := Az hy263; clear hy263; have H' := Az H; clear H; obtain ⟨Ao64, co64, eo64⟩ := Kd.R_slice HO_11.out; subst eo64; have p259 : 0 ≤ (x12_4 : Int) := oA; have q259 : x12_4 < (t256.length : Int) := oA; obtain ⟨ad259, e259, hx259_0⟩ := Kd.at_int (Kd.R_reads' HO_11.out).2.2 x12_4 p259 q259
                  cases e259
                  replace p259 := eq_true p259; replace q259 := eq_true q259; have hnb65 := NB254_234.out; have hnc65 := NB234_254.out; have hnb66 := NB254_0.out; have hnc66 := NB0_254.out; have hcz67_0 : wr.cell? ⟨gb254, 0, none⟩ = some (.slice Ao53 xZ0_2.length co53) := (blk_cell BK254.out 0).trans rfl; have hcz67_1 : wr.cell? ⟨gb254, 1, none⟩ = some (.slice Ao54 xZ1_2.length co54) := (blk_cell BK254.out 1).trans rfl; have hfz67_0 := blk_frozen BK254.out 0; have hfz67_1 := blk_frozen BK254.out 1; have p260 : 0 ≤ (0 : Int) := (by omega); have q260 : 0 < (xZ0_2.length : Int) := oA; obtain ⟨ad260, e260, hx260_0⟩ := Kd.at_int (Kd.Q_reads' HO_Z0.out).2.2 0 p260 q260
                  cases e260
                  have qi260 : (0 < xZ0_2.length) = True := eq_true (by omega); (try rw [show ((0 : Int)).toNat = 0 from rfl] at hx260_0); (try rw [Addr.add_zero'] at hx260_0); replace p260 := eq_true p260; replace q260 := eq_true q260
                  try go_wp2
                  have n0 := Az (Kd.R_drew HO_11.out); have n1 := Az (Kd.Q_drew HO_Z0.out); have n2 := Az (Kd.R_drew HO_Z1.out); have n3 := Az (blk_drew BK234.out); have n4 := Az (blk_drew BK254.out); have n5 := Az (IsS87.drew HI0.out); have n6 := Az (keep_drew HK.out); have n7 := Az (below_drew1 HB.out); clear HO_11 HO_Z0 HO_Z1 BK234 BK254 HI0 HK HB; have HO_11 := n0; have HO_Z0 := n1; have HO_Z1 := n2; have BK234 := n3; have BK254 := n4; have HI0 := n5; have HK := n6; have HB := n7; clear n0 n1 n2 n3 n4 n5 n6 n7; have p261 : 0 ≤ (x12_4 : Int) := oA; have q261 : x12_4 < (xZ0_2.length : Int) := oA; obtain ⟨ad261, e261, hx261_0⟩ := Kd.at_int (Kd.Q_reads' HO_Z0.out).2.2 x12_4 p261 q261; obtain rfl : ad260 = ad261 := (by injection e261); replace p261 := eq_true p261; replace q261 := eq_true q261; have p62 : 0 ≤ (0 : Int) := (by omega); have q62 : (0 : Int) < ((xZ0_2.length : Int) : Int) := oA; have qi62 : (0 < xZ0_2.length) = True := eq_true (by omega); obtain ⟨go62, oo62, co62, eo62, gb62, gl62, cl62, HG62⟩ := Kd.Q_form HO_Z0.out (by omega); (first | cases eo62 | (injection eo62 with ea_ en_ ec_; (first | subst ea_ | (injection ea_ with ea_; subst ea_)); subst ec_; clear en_)); have GB62 := Az gb62; have GG62 := Az HG62; clear gb62 gl62 HG62; (first | simp only [add_at] at hx260_0 | skip); (first | simp only [add_at] at hx261_0 | skip); obtain ⟨hx62_0, hf62_0⟩ := Kd.Q_cell 0 HO_Z0.out (0 : Int) p62 q62; (try rw [show ((0 : Int)).toNat = 0 from rfl] at hx62_0); (try simp only [Nat.reduceMul, Nat.zero_mul, Nat.zero_add, Nat.reduceAdd] at hx62_0); (try rw [show ((0 : Int)).toNat = 0 from rfl] at hf62_0); (try simp only [Nat.reduceMul, Nat.zero_mul, Nat.zero_add, Nat.reduceAdd] at hf62_0); replace p62 := eq_true p62; replace q62 := eq_true q62; have HN0_go62 := Az (show g ≠ go62 from by have h_ := IsS87.own_neQ HI0.out HO_Z0.out (by decide); intro e_; exact h_ (by rw [e_]; rfl)); have HP69 := (Kd.Q_putg HO_Z0.out (0 : Int) (by omega) (by have h_ : (0 : Int) < ((xZ0_2.length : Int) : Int) := oA; first | exact h_ | (have e_ := (Kd.Q_reads' HO_Z0.out).1; omega) | simpa using h_) (rd xZ0_2 x12_4)).1; rw [← Ny262.out] at HP69; have HQ69 := Az HP69; clear HP69
                  refine start_ (n := 9) (S := fun w' => w'.cell? ⟨gb254, 0, none⟩ = some (.slice (some ⟨go62, oo62, none⟩) xZ0_2.length co53) ∧ w'.cell? ⟨gb254, 1, none⟩ = some (.slice Ao54 xZ1_2.length co54) ∧ w'.cell? ⟨go62, oo62 + (x12_4).toNat, none⟩ = some (.int .i64 (rd xZ0_2 x12_4))) (ds := [8]) #[false, false, false, false, false, false, false, false, false] (by kernel_rfl) rfl rfl ⟨(blk_cell BK254.out 0).trans rfl, (blk_cell BK254.out 1).trans rfl, hx261_0⟩ (fun hHeld => ?_); refine with_tabW spec_l91Map.tab18 spec_l91Map.bits18 (fun HT_ HW_ => ?_)
                  generalize wr.drew = w68 at HO_11 HO_Z0 HO_Z1 BK234 BK254 HI0 HK HB GG62 HQ69 hf62_0 hx260_0 hx261_0 hx62_0 hHeld ⊢
                  refine pure_ (i := 0) (N := some 83) (v := ?_) (a' := ?_) #[true, false, false, false, false, false, false, false, false] rfl rfl (any_of HT_.out (by kernel_rfl)) (fun _ _ _ h => h) (Or.inl ⟨by rfl, ?_⟩) ?_ ?_
                  rotate_left
                  ·
                   intro w'
                   go_simp
                   with_reducible rfl
                  rotate_left
                  ·
                   simp only [Act.put, List.setIfInBounds_toArray, List.set_cons_zero, List.set_cons_succ, i64_w, i32_w]
                   rfl
                  refine pure_ (i := 2) (N := some 85) (v := ?_) (a' := ?_) #[true, false, true, false, false, false, false, false, false] rfl rfl (any_of HT_.out (by kernel_rfl)) (fun _ _ _ h => h) (Or.inl ⟨by rfl, ?_⟩) ?_ ?_
                  rotate_left
                  ·
                   intro w'
                   go_simp
                   with_reducible rfl
                  rotate_left
                  ·
                   simp only [Act.put, List.setIfInBounds_toArray, List.set_cons_zero, List.set_cons_succ, i64_w, i32_w]
                   rfl
                  refine pure_ (i := 4) (N := some 87) (v := ?_) (a' := ?_) #[true, false, true, false, true, false, false, false, false] rfl rfl (any_of HT_.out (by kernel_rfl)) (fun _ _ _ h => h) (Or.inl ⟨by rfl, ?_⟩) ?_ ?_
                  rotate_left
                  ·
                   intro w'
                   go_simp
                   with_reducible rfl
                  rotate_left
                  ·
                   simp only [Act.put, List.setIfInBounds_toArray, List.set_cons_zero, List.set_cons_succ, i64_w, i32_w]
                   rfl
                  refine take_ (i := 1) (N := some 84) (v := ?_) (a' := ?_) #[true, true, true, false, true, false, false, false, false] rfl rfl (take_ofW HT_.out HW_.out (by kernel_rfl)) (fun _ _ _ h => h) (Or.inl ⟨by rfl, ?_⟩) hHeld ?_ ?_
                  rotate_left
                  ·
                   rintro w' ⟨s0, s1, s2⟩
                   go_simp
                   with_reducible rfl
                  rotate_left
                  ·
                   simp only [Act.put, List.setIfInBounds_toArray, List.set_cons_zero, List.set_cons_succ, i64_w, i32_w]
                   rfl
                  refine take_ (i := 3) (N := some 86) (v := ?_) (a' := ?_) #[true, true, true, true, true, false, false, false, false] rfl rfl (take_ofW HT_.out HW_.out (by kernel_rfl)) (fun _ _ _ h => h) (Or.inl ⟨by rfl, ?_⟩) hHeld ?_ ?_
                  rotate_left
                  ·
                   rintro w' ⟨s0, s1, s2⟩
                   go_simp
                   with_reducible rfl
                  rotate_left
                  ·
                   simp only [Act.put, List.setIfInBounds_toArray, List.set_cons_zero, List.set_cons_succ, i64_w, i32_w]
                   rfl
                  refine pure_ (i := 5) (N := some 88) (v := ?_) (a' := ?_) #[true, true, true, true, true, true, false, false, false] rfl rfl (any_of HT_.out (by kernel_rfl)) (fun _ _ _ h => h) (Or.inl ⟨by rfl, ?_⟩) ?_ ?_
                  rotate_left
                  ·
                   intro w'
                   go_simp
                   with_reducible rfl
                  rotate_left
                  ·
                   simp only [Act.put, List.setIfInBounds_toArray, List.set_cons_zero, List.set_cons_succ, i64_w, i32_w]
                   rfl
                  refine take_ (i := 6) (N := some 89) (v := ?_) (a' := ?_) #[true, true, true, true, true, true, true, false, false] rfl rfl (take_ofW HT_.out HW_.out (by kernel_rfl)) (fun _ _ _ h => h) (Or.inl ⟨by rfl, ?_⟩) hHeld ?_ ?_
                  rotate_left
                  ·
                   rintro w' ⟨s0, s1, s2⟩
                   go_simp
                   with_reducible rfl
                  rotate_left
                  ·
                   simp only [Act.put, List.setIfInBounds_toArray, List.set_cons_zero, List.set_cons_succ, i64_w, i32_w]
                   rfl
                  refine pure_ (i := 7) (N := some 90) (v := ?_) (a' := ?_) #[true, true, true, true, true, true, true, true, false] rfl rfl (any_of HT_.out (by kernel_rfl)) (fun _ _ _ h => h) (Or.inl ⟨by rfl, ?_⟩) ?_ ?_
                  rotate_left
                  ·
                   intro w'
                   go_simp
                   with_reducible rfl
                  rotate_left
                  ·
                   simp only [Act.put, List.setIfInBounds_toArray, List.set_cons_zero, List.set_cons_succ, i64_w, i32_w]
                   rfl
                  refine last_ (i := 8) (N := none) #[true, true, true, true, true, true, true, true, true] rfl rfl (one_of HT_.out (by kernel_rfl)) (by decide) (fun K hK => ?_)
                  (try (obtain ⟨hyS_, hzS_⟩ := Kd.Q_cell 0 HO_Z0.out 0 (by omega) (oA); simp only [Int.toNat_zero, Nat.add_zero] at hyS_ hzS_))
                  refine skip_ (w1 := ?_) (by rfl) rfl ?_ ?_
                  rotate_left
                  ·
                   go_simp
                   rfl
                  refine hK.out _ _ ?_
                  clear hK K
                  refine done_ (done_of HT_.out (by kernel_rfl)) ?_
                  have n0 : Aside0 (Kd.R (Kd.int .i64) 3 (w68.setCell ⟨go62, oo62 + (0 : Int).toNat, none⟩ (.int .i64 (rd xZ0_2 x12_4))) w.heap.size (fun k_ => some k_ ≠ (.slice (some ⟨go62, oo62, none⟩) xZ0_2.length co53 : Value).ownBlock ∧ some k_ ≠ (.slice Ao54 xZ1_2.length co54 : Value).ownBlock) (.slice (some ad259) t256.length co64) t256) := ⟨by (with_reducible repeat (first | apply Kd.R_alloc | apply Kd.R_drewN | apply Kd.R_drew)); exact Kd.R_mono (Kd.R_far (p := ⟨go62, oo62 + (0 : Int).toNat, none⟩) (Kd.R_mono HO_11.out (fun k_ hk => (⟨hk, fun e_ => hk.1 (by rw [e_]; rfl)⟩ : _ ∧ k_ ≠ go62))) (fun _ hk => hk.2) (.int .i64 (rd xZ0_2 x12_4))) (fun _ hk => ⟨hk.1.1, hk.1.2⟩)⟩; have n1 : Aside0 (Kd.Q (Kd.int .i64) 3 (w68.setCell ⟨go62, oo62 + (0 : Int).toNat, none⟩ (.int .i64 (rd xZ0_2 x12_4))) w.heap.size (fun k_ => some k_ ≠ (.slice (some ad259) t256.length co64 : Value).ownBlock ∧ some k_ ≠ (.slice Ao54 xZ1_2.length co54 : Value).ownBlock) (.slice (some ⟨go62, oo62, none⟩) xZ0_2.length co53) y262) := ⟨qU HQ69.out⟩; have n2 : Aside0 (Kd.R (Kd.int .i64) 3 (w68.setCell ⟨go62, oo62 + (0 : Int).toNat, none⟩ (.int .i64 (rd xZ0_2 x12_4))) w.heap.size (fun k_ => some k_ ≠ (.slice (some ad259) t256.length co64 : Value).ownBlock ∧ some k_ ≠ (.slice (some ⟨go62, oo62, none⟩) xZ0_2.length co53 : Value).ownBlock) (.slice Ao54 xZ1_2.length co54) xZ1_2) := ⟨by (with_reducible repeat (first | apply Kd.R_alloc | apply Kd.R_drewN | apply Kd.R_drew)); exact Kd.R_mono (Kd.R_far (p := ⟨go62, oo62 + (0 : Int).toNat, none⟩) (Kd.R_mono HO_Z1.out (fun k_ hk => (⟨hk, fun e_ => hk.2 (by rw [e_]; rfl)⟩ : _ ∧ k_ ≠ go62))) (fun _ hk => hk.2) (.int .i64 (rd xZ0_2 x12_4))) (fun _ hk => ⟨hk.1.1, hk.1.2⟩)⟩; have n3 : Aside0 ((w68.setCell ⟨go62, oo62 + (0 : Int).toNat, none⟩ (.int .i64 (rd xZ0_2 x12_4))).heap[gb234]? = some (.cells #[.slice none 0 0, .slice none 0 0] 25 (0, 0))) := ⟨by (with_reducible repeat (first | refine blk_drewN ?_ _ | refine blk_drew ?_ | refine blk_alloc ?_ _)); refine blk_far ?_ (by have h_ := Kd.Q_ne HO_Z0.out BK234.out (by decide); intro e_; exact h_ (by rw [e_]; rfl)) _; (with_reducible repeat (first | refine blk_drewN ?_ _ | refine blk_drew ?_ | refine blk_alloc ?_ _)); exact BK234.out⟩; have n4 : Aside0 ((w68.setCell ⟨go62, oo62 + (0 : Int).toNat, none⟩ (.int .i64 (rd xZ0_2 x12_4))).heap[gb254]? = some (.cells #[.slice (some ⟨go62, oo62, none⟩) xZ0_2.length co53, .slice Ao54 xZ1_2.length co54] 25 (0, 0))) := ⟨by (with_reducible repeat (first | refine blk_drewN ?_ _ | refine blk_drew ?_ | refine blk_alloc ?_ _)); refine blk_far ?_ (by have h_ := Kd.Q_ne HO_Z0.out BK254.out (by decide); intro e_; exact h_ (by rw [e_]; rfl)) _; (with_reducible repeat (first | refine blk_drewN ?_ _ | refine blk_drew ?_ | refine blk_alloc ?_ _)); exact BK254.out⟩; have n5 : Aside0 (IsS87 w0 (w68.setCell ⟨go62, oo62 + (0 : Int).toNat, none⟩ (.int .i64 (rd xZ0_2 x12_4))) g s0_0 t253) := ⟨by repeat (first | (with_reducible first | exact HI0.out | apply IsS87.alloc | apply IsS87.drewN | apply IsS87.drew | apply IsS87.set_1 | refine IsS87.far ?_ HN0_go62.out _ | refine IsS87.far ?_ NB0_234.out _ | refine IsS87.far ?_ NB0_254.out _) | exact HI0.out)⟩; have n6 : Aside0 (KeepBut w (w68.setCell ⟨go62, oo62 + (0 : Int).toNat, none⟩ (.int .i64 (rd xZ0_2 x12_4))) g none) := ⟨by repeat (first | (with_reducible first | exact HK.out | apply KeepBut.set_ | apply keep_drewN | apply keep_drew | apply keep_alloc | refine keep_far ?_ GB62.out _ | refine keep_far ?_ GW234.out _ | refine keep_far ?_ GW254.out _) | exact HK.out)⟩; have n7 : Aside0 (Below w0.heap.size w0 (w68.setCell ⟨go62, oo62 + (0 : Int).toNat, none⟩ (.int .i64 (rd xZ0_2 x12_4)))) := ⟨by repeat (first | (with_reducible first | exact HB.out | apply below_alloc | apply pw_below_drewN | apply below_drew1 | refine below_set ?_ (Nat.le_trans HL.out GB62.out) | refine below_set ?_ (IsS87.ge HI0.out) | refine below_set ?_ GE234.out | refine below_set ?_ GE254.out) | exact HB.out)⟩; (try clear HO_11); (try clear HO_Z0); (try clear HO_Z1); (try clear BK234); (try clear BK254); (try clear HI0); (try clear HK); (try clear HB); (try simp only [Int.toNat_zero, Nat.add_zero] at n0 n1 n2 n3 n4 n5 n6 n7)
                  generalize (w68.setCell ⟨go62, oo62, none⟩ (.int .i64 (rd xZ0_2 x12_4))) = w70 at n0 n1 n2 n3 n4 n5 n6 n7 ⊢
                  have HO_11 := n0; have HO_Z0 := n1; have HO_Z1 := n2; have BK234 := n3; have BK254 := n4; have HI0 := n5; have HK := n6; have HB := n7; clear n0 n1 n2 n3 n4 n5 n6 n7; have hcz71_0 : w70.cell? ⟨gb254, 0, none⟩ = some (.slice (some ⟨go62, oo62, none⟩) xZ0_2.length co53) := (blk_cell BK254.out 0).trans rfl; have hcz71_1 : w70.cell? ⟨gb254, 1, none⟩ = some (.slice Ao54 xZ1_2.length co54) := (blk_cell BK254.out 1).trans rfl; have hfz71_0 := blk_frozen BK254.out 0; have hfz71_1 := blk_frozen BK254.out 1; have p63 : 0 ≤ (x12_4 : Int) := oA; have q63 : (x12_4 : Int) < ((xZ0_2.length : Int) : Int) := oA; obtain ⟨hx63_0, hf63_0⟩ := Kd.Q_cell 0 HO_Z0.out (x12_4 : Int) p63 q63; replace p63 := eq_true p63; replace q63 := eq_true q63; obtain ⟨hy72_, hz72_⟩ := Kd.Q_cell 0 HO_Z0.out (x12_4 : Int) (oA) (oA); have HP72 := Kd.Q_putg HO_Z0.out (x12_4 : Int) (oA) (by have h_ : (x12_4 : Int) < ((xZ0_2.length : Int) : Int) := oA; first | exact h_ | (have e_ := (Kd.Q_reads' HO_Z0.out).1; omega) | simpa using h_) (rd xZ0_2 0)
                  try go_wp2_with (first | ((with_reducible refine gate_store (t := 3) (p := 95) rfl ?_); refine store_event (t := 3) (p := 95) (v := ?vo_w73) (w1 := (w70.setCell ⟨go62, oo62 + (x12_4 : Int).toNat, none⟩ (.int .i64 (rd xZ0_2 0)))) ?hg ?ho ?hn ?hr ?_; (case ho => rfl); (case hg => rfl); (case hn => rfl); (case hr => first | (go_simp; done) | (go_simp; rfl)); intro w73 hw; have hg : w70.grownBy w73 (some go62) := (by rw [hw]; exact HP72.2); have hp_ : Kd.Q (Kd.int .i64) 3 w73 w.heap.size (fun k_ => some k_ ≠ (.slice (some ad259) t256.length co64 : Value).ownBlock ∧ some k_ ≠ (.slice Ao54 xZ1_2.length co54 : Value).ownBlock) (.slice (some ⟨go62, oo62, none⟩) xZ0_2.length co53) y263 := (by rw [hw, Ny263.out]; exact HP72.1); clear HP72; have n0 := Az (Kd.R_after (v := (.slice (some ⟨go62, oo62, none⟩) xZ0_2.length co53)) (v1 := (.slice (some ⟨go62, oo62, none⟩) xZ0_2.length co53)) (ok := (fun k_ => some k_ ≠ (.slice Ao54 xZ1_2.length co54 : Value).ownBlock)) (by (with_reducible repeat (first | apply Kd.R_alloc | apply Kd.R_drewN | apply Kd.R_drew)); exact Kd.R_mono HO_11.out (fun _ hk => ⟨hk.2, hk.1⟩)) hg (.inl rfl)); have n1 := Az (hp_); have n2 := Az (Kd.R_after (v := (.slice (some ⟨go62, oo62, none⟩) xZ0_2.length co53)) (v1 := (.slice (some ⟨go62, oo62, none⟩) xZ0_2.length co53)) (ok := (fun k_ => some k_ ≠ (.slice (some ad259) t256.length co64 : Value).ownBlock)) (rU HO_Z1.out) hg (.inl rfl)); have n3 := Az (blk_grown (g := gb234) (o := .cells #[.slice none 0 0, .slice none 0 0] 25 (0, 0)) (kU BK234.out) hg (Kd.Q_ne HO_Z0.out BK234.out (by decide))); have n4 := Az (blk_grown (g := gb254) (o := .cells #[.slice (some ⟨go62, oo62, none⟩) xZ0_2.length co53, .slice Ao54 xZ1_2.length co54] 25 (0, 0)) (kU BK254.out) hg (Kd.Q_ne HO_Z0.out BK254.out (by decide))); have n5 := Az (IsS87.grown (by repeat (first | (with_reducible first | exact HI0.out | apply IsS87.alloc | apply IsS87.drewN | apply IsS87.drew | apply IsS87.set_1 | refine IsS87.far ?_ NB0_234.out _ | refine IsS87.far ?_ NB0_254.out _) | exact HI0.out)) hg (IsS87.own_neQ HI0.out HO_Z0.out (by decide))); have n6 := Az ((by rw [hw]; exact below_set (HB.out) (Nat.le_trans HL.out GB62.out) : Below w0.heap.size w0 w73)); have n7 := Az (KeepBut.trans (by repeat (first | (with_reducible first | exact HK.out | apply KeepBut.set_ | apply keep_drewN | apply keep_drew | apply keep_alloc | refine keep_far ?_ GW234.out _ | refine keep_far ?_ GW254.out _) | exact HK.out)) (KeepBut.of_grown hg g) (Kd.Q_base2 HO_Z0.out)); clear HO_11 HO_Z0 HO_Z1 BK234 BK254 HI0 HB HK; have HO_11 := n0; have HO_Z0 := n1; have HO_Z1 := n2; have BK234 := n3; have BK254 := n4; have HI0 := n5; have HB := n6; have HK := n7; clear n0 n1 n2 n3 n4 n5 n6 n7; clear hg hw hp_))
                  (first | go_roundg k4 | (refine Handed.intro k4 ?measure ?_; rotate_left; go_step; (try simp only [add_plain]); (repeat apply Exists.intro); refine ⟨?rel, rfl⟩))
                  case measure => have := HK1.out; have := HK2.out; have := HJ38.out; have := HK4.out; omega
                  case rel => exact ⟨(wrap64 (x10_2 + 1)), (y263), (xZ1_2), (.slice (some ⟨go62, oo62, none⟩) xZ0_2.length co53), (.slice Ao54 xZ1_2.length co54), rS, H', ⟨by have := HK1.out; have := HK2.out; have := HJ38.out; have := HK4.out; omega⟩, ⟨by (with_reducible repeat (first | apply Kd.Q_alloc | apply Kd.Q_drewN | apply Kd.Q_drew)); exact Kd.Q_mono HO_Z0.out (fun _ hk => hk.2)⟩, ⟨by (with_reducible repeat (first | apply Kd.R_alloc | apply Kd.R_drewN | apply Kd.R_drew)); exact Kd.R_mono HO_Z1.out (fun _ hk => hk.2)⟩, ⟨kU BK234.out⟩, ⟨kU BK254.out⟩, ⟨by repeat (first | (with_reducible first | exact HI0.out | apply IsS87.alloc | apply IsS87.drewN | apply IsS87.drew | apply IsS87.set_1 | refine IsS87.far ?_ NB0_234.out _ | refine IsS87.far ?_ NB0_254.out _) | exact HI0.out)⟩, ⟨by repeat (first | (with_reducible first | exact HK.out | apply KeepBut.set_ | apply keep_drewN | apply keep_drew | apply keep_alloc | refine keep_far ?_ GW234.out _ | refine keep_far ?_ GW254.out _) | exact HK.out)⟩, ⟨by repeat (first | (with_reducible first | exact HB.out | apply below_alloc | apply pw_below_drewN | apply below_drew1 | refine below_set ?_ (IsS87.ge HI0.out) | refine below_set ?_ GE234.out | refine below_set ?_ GE254.out) | exact HB.out)⟩⟩
                 ·
                  rw [if_neg c61] at H
                  exact absurd H (by simp)
                ·
                 rw [if_neg c60] at H
                 exact absurd H (by simp)
              ·
               rw [if_neg c57] at H
               exact absurd H (by simp)
             ·
              rw [if_neg c56] at H
              exact absurd H (by simp)
          ·
           replace c48 := Bool.eq_false_iff.mpr c48; subst c48
           have H1 : ((spec_l6Rd_pick.f kj38 s0_0 t253 50).bind fun bt264 => (if bt264.1 = 0 then (if 0 < (xZ1_2.length : Int) then (some (xZ0_2, (xZ1_2.set (0 : Int).toNat 0), bt264.2)) else (none)) else (if bt264.1 = 1 then (if 1 ≤ (xZ0_2.length : Int) then (some ((xZ0_2.drop (1 : Int).toNat), xZ1_2, bt264.2)) else (none)) else (if bt264.1 = 2 then (if 0 < (xZ0_2.length : Int) then (some ((xZ0_2.set (0 : Int).toNat ji5), xZ1_2, bt264.2)) else (none)) else (some (xZ0_2, xZ1_2, bt264.2)))))) = some (r1, r2, r3) := by rw [if_neg (show ¬ (false = true) by decide)] at H; exact H
           clear H; have H := H1; clear H1; replace H := Option.bind_eq_some_iff.mp H; obtain ⟨⟨t264, t265⟩, A740, H⟩ := H; replace H : (if t264 = 0 then (if 0 < (xZ1_2.length : Int) then (some (xZ0_2, (xZ1_2.set (0 : Int).toNat 0), t265)) else (none)) else (if t264 = 1 then (if 1 ≤ (xZ0_2.length : Int) then (some ((xZ0_2.drop (1 : Int).toNat), xZ1_2, t265)) else (none)) else (if t264 = 2 then (if 0 < (xZ0_2.length : Int) then (some ((xZ0_2.set (0 : Int).toNat ji5), xZ1_2, t265)) else (none)) else (some (xZ0_2, xZ1_2, t265))))) = some (r1, r2, r3) := H; have A74 := Az A740; clear A740
           by_cases c75 : t264 = 0
           ·
            rw [if_pos c75] at H; have c75b0 := beq_iff_eq.mpr c75; have c75b1 := bne_eq_false_iff_eq.mpr c75; clear c75
            by_cases c76 : 0 < (xZ1_2.length : Int)
            ·
             rw [if_pos c76] at H; have c76b0 := decide_eq_true c76; have c76b1 : decide (0 < xZ1_2.length) = true := decide_eq_true (by omega); clear c76; obtain ⟨y266, hy266⟩ : ∃ y_ : List Int, y_ = (xZ1_2.set (0 : Int).toNat 0) := ⟨_, rfl⟩; replace H : (some (xZ0_2, y266, t265)) = some (r1, r2, r3) := hR hy266 H; have Ny266 := Az hy266; clear hy266; simp only [Option.some.injEq, Prod.mk.injEq] at H; obtain ⟨rfl, rfl, rfl⟩ := H
             go_wp2_with (first | ((with_reducible refine gate_callee (f := 76) rfl ?_); refine goesL_ (some 97) rfl rfl Try.func76 (by kernel_rfl) rfl #[.pointer (some ⟨g, 0, none⟩), .int .i64 50] rfl (by (try simp only [List.map_toArray, List.map_cons, List.map_nil]); first | done | rfl | (simp only [List.length_drop, List.length_take]; rfl)) ?_; (with_reducible refine (spec_l6Rd_pick.calls kj38 g s0_0 t253 50 t264 t265 w0 _ ?side1 ?side2 A74.out).mono ?_); (case side1 => repeat (first | (with_reducible first | exact HI0.out | apply IsS87.alloc | apply IsS87.drewN | apply IsS87.drew | apply IsS87.set_1 | refine IsS87.far ?_ NB0_234.out _ | refine IsS87.far ?_ NB0_254.out _) | exact HI0.out)); (case side2 => repeat (first | (with_reducible first | exact HB.out | apply below_alloc | apply pw_below_drewN | apply below_drew1 | refine below_set ?_ (IsS87.ge HI0.out) | refine below_set ?_ GE234.out | refine below_set ?_ GE254.out) | exact HB.out)); rintro e w78 ⟨rfl, hi, hb, hk⟩; refine ⟨_, rfl, ?_⟩; have n0 := Az (Kd.Q_mono (Kd.Q_keep (IsS87.apartQ (show IsS87 w0 _ g s0_0 t253 from by repeat (first | (with_reducible first | exact HI0.out | apply IsS87.alloc | apply IsS87.drewN | apply IsS87.drew | apply IsS87.set_1 | refine IsS87.far ?_ NB0_234.out _ | refine IsS87.far ?_ NB0_254.out _) | exact HI0.out)) (qU HO_Z0.out) (by decide)) hk (fun _ h => h.2)) (fun _ h => h.1)); have n1 := Az (Kd.R_mono (Kd.R_keep (IsS87.apart (show IsS87 w0 _ g s0_0 t253 from by repeat (first | (with_reducible first | exact HI0.out | apply IsS87.alloc | apply IsS87.drewN | apply IsS87.drew | apply IsS87.set_1 | refine IsS87.far ?_ NB0_234.out _ | refine IsS87.far ?_ NB0_254.out _) | exact HI0.out)) (rU HO_Z1.out) (by decide)) hk (fun _ h => h.2)) (fun _ h => h.1)); have n2 := Az (KeepBut.blk hk (g' := gb234) (o := .cells #[.slice none 0 0, .slice none 0 0] 25 (0, 0)) (kU BK234.out) NB234_0.out (by simp)); have n3 := Az (KeepBut.blk hk (g' := gb254) (o := .cells #[uZ0, uZ1] 25 (0, 0)) (kU BK254.out) NB254_0.out (by simp)); have n4 := Az (KeepBut.trans (by repeat (first | (with_reducible first | exact HK.out | apply KeepBut.set_ | apply keep_drewN | apply keep_drew | apply keep_alloc | refine keep_far ?_ GW234.out _ | refine keep_far ?_ GW254.out _) | exact HK.out)) hk (.inl rfl)); have n5 := Az (hb); have n6 := Az (hi); clear HO_Z0 HO_Z1 BK234 BK254 HK HB HI0; have HO_Z0 := n0; have HO_Z1 := n1; have BK234 := n2; have BK254 := n3; have HK := n4; have HB := n5; have HI0 := n6; clear n0 n1 n2 n3 n4 n5 n6; (try clear hb); (try clear hb2); (try clear hk); (try clear hi); have hnb79 := NB254_234.out; have hnc79 := NB234_254.out; have hnb80 := NB254_0.out; have hnc80 := NB0_254.out; have hcz81_0 : w78.cell? ⟨gb254, 0, none⟩ = some (uZ0) := (blk_cell BK254.out 0).trans rfl; have hcz81_1 : w78.cell? ⟨gb254, 1, none⟩ = some (uZ1) := (blk_cell BK254.out 1).trans rfl; have hfz81_0 := blk_frozen BK254.out 0; have hfz81_1 := blk_frozen BK254.out 1; have p77 : 0 ≤ (0 : Int) := (by omega); have q77 : (0 : Int) < ((xZ1_2.length : Int) : Int) := oA; have qi77 : (0 < xZ1_2.length) = True := eq_true (by omega); obtain ⟨go77, co77, eo77, gb77, gl77, cl77, HG77⟩ := Kd.R_form HO_Z1.out (by omega); (first | cases eo77 | (injection eo77 with ea_ en_ ec_; (first | subst ea_ | (injection ea_ with ea_; subst ea_)); subst ec_; clear en_)); have GB77 := Az gb77; have GG77 := Az HG77; clear gb77 gl77 HG77; obtain ⟨hx77_0, hf77_0⟩ := Kd.R_celln 0 HO_Z1.out (0 : Int) p77 q77; (try rw [show ((0 : Int)).toNat = 0 from rfl] at hx77_0); (try simp only [Nat.reduceMul, Nat.zero_mul, Nat.zero_add, Nat.reduceAdd] at hx77_0); (try rw [show ((0 : Int)).toNat = 0 from rfl] at hf77_0); (try simp only [Nat.reduceMul, Nat.zero_mul, Nat.zero_add, Nat.reduceAdd] at hf77_0); replace p77 := eq_true p77; replace q77 := eq_true q77; obtain ⟨hy82_, hz82_⟩ := Kd.R_celln 0 HO_Z1.out (0 : Int) (by omega) (oA); (try simp only [Int.reduceToNat, Int.toNat_zero, Int.toNat_ofNat, Nat.reduceMul, Nat.zero_mul, Nat.zero_add] at hy82_ hz82_); (try rw [show ((0 : Int)).toNat = 0 from rfl] at hy82_); (try rw [show ((0 : Int)).toNat = 0 from rfl] at hz82_); have HP82 := Kd.R_putg HO_Z1.out (0 : Int) 0) | ((with_reducible refine gate_store (t := 3) (p := 102) rfl ?_); refine store_event (t := 3) (p := 102) (v := ?vo_w83) (w1 := (w78.setCell ⟨go77, (0 : Int).toNat, none⟩ (.int .i64 0))) ?hg ?ho ?hn ?hr ?_; (case ho => rfl); (case hg => rfl); (case hn => rfl); (case hr => first | (go_simp; done) | (go_simp; rfl)); intro w83 hw; have hg : w78.grownBy w83 (some go77) := (by rw [hw]; exact HP82.2); have hp_ : Kd.R (Kd.int .i64) 3 w83 w.heap.size (fun k_ => some k_ ≠ (uZ0 : Value).ownBlock) (.slice (some ⟨go77, 0, none⟩) xZ1_2.length co77) y266 := (by rw [hw, Ny266.out]; exact HP82.1); clear HP82; have n0 := Az (Kd.Q_after (v := (.slice (some ⟨go77, 0, none⟩) xZ1_2.length co77)) (v1 := (.slice (some ⟨go77, 0, none⟩) xZ1_2.length co77)) (ok := (fun _ => True)) (by (with_reducible repeat (first | apply Kd.Q_alloc | apply Kd.Q_drewN | apply Kd.Q_drew)); exact Kd.Q_mono HO_Z0.out (fun _ hk => ⟨trivial, hk⟩)) hg (.inl rfl)); have n1 := Az (hp_); have n2 := Az (blk_grown (g := gb234) (o := .cells #[.slice none 0 0, .slice none 0 0] 25 (0, 0)) (kU BK234.out) hg (Kd.R_ne HO_Z1.out BK234.out (by decide))); have n3 := Az (blk_grown (g := gb254) (o := .cells #[uZ0, .slice (some ⟨go77, 0, none⟩) xZ1_2.length co77] 25 (0, 0)) (kU BK254.out) hg (Kd.R_ne HO_Z1.out BK254.out (by decide))); have n4 := Az (IsS87.grown (by repeat (first | (with_reducible first | exact HI0.out | apply IsS87.alloc | apply IsS87.drewN | apply IsS87.drew | apply IsS87.set_1 | refine IsS87.far ?_ NB0_234.out _ | refine IsS87.far ?_ NB0_254.out _) | exact HI0.out)) hg (IsS87.own_ne HI0.out HO_Z1.out (by decide))); have n5 := Az ((by rw [hw]; exact below_set (HB.out) (Nat.le_trans HL.out GB77.out) : Below w0.heap.size w0 w83)); have n6 := Az (KeepBut.trans (by repeat (first | (with_reducible first | exact HK.out | apply KeepBut.set_ | apply keep_drewN | apply keep_drew | apply keep_alloc | refine keep_far ?_ GW234.out _ | refine keep_far ?_ GW254.out _) | exact HK.out)) (KeepBut.of_grown hg g) (Kd.R_base2 HO_Z1.out)); clear HO_Z0 HO_Z1 BK234 BK254 HI0 HB HK; have HO_Z0 := n0; have HO_Z1 := n1; have BK234 := n2; have BK254 := n3; have HI0 := n4; have HB := n5; have HK := n6; clear n0 n1 n2 n3 n4 n5 n6 hg hw hp_; have hcz84_0 : w83.cell? ⟨gb254, 0, none⟩ = some (uZ0) := (blk_cell BK254.out 0).trans rfl; have hcz84_1 : w83.cell? ⟨gb254, 1, none⟩ = some (.slice (some ⟨go77, 0, none⟩) xZ1_2.length co77) := (blk_cell BK254.out 1).trans rfl; have hfz84_0 := blk_frozen BK254.out 0; have hfz84_1 := blk_frozen BK254.out 1; obtain ⟨Ao85, co85, eo85, _⟩ := Kd.Q_slice HO_Z0.out; subst eo85; have hnb86 := NB234_0.out; have hnc86 := NB0_234.out; have hcz87_0 : w83.cell? ⟨gb234, 0, none⟩ = some (.slice none 0 0) := (blk_cell BK234.out 0).trans rfl; have hcz87_1 : w83.cell? ⟨gb234, 1, none⟩ = some (.slice none 0 0) := (blk_cell BK234.out 1).trans rfl; have hfz87_0 := blk_frozen BK234.out 0; have hfz87_1 := blk_frozen BK234.out 1))
             refine bodyPost_ret (results_cell_row rfl _ _ gb234 25 #[.slice Ao85 xZ0_2.length co85, .slice (some ⟨go77, 0, none⟩) xZ1_2.length co77] (0, 0) _ rfl (by (with_reducible repeat (first | refine blk_drewN ?_ _ | refine blk_drew ?_ | refine blk_alloc ?_ _)); refine blk_put (cs := #[.slice Ao85 xZ0_2.length co85, .slice none 0 0]) ?_ 1 _ rfl; (with_reducible repeat (first | refine blk_drewN ?_ _ | refine blk_drew ?_ | refine blk_alloc ?_ _)); refine blk_put (cs := #[.slice none 0 0, .slice none 0 0]) ?_ 0 _ rfl; (with_reducible repeat (first | refine blk_drewN ?_ _ | refine blk_drew ?_ | refine blk_alloc ?_ _)); exact BK234.out) Try.underlying25 rfl (by kernel_rfl)) rfl ?_
             exact ⟨_, _, by first | rfl | (simp [errW_none, errW_some] <;> rfl) | (simp only [← hji5]; first | rfl | (simp [errW_none, errW_some] <;> rfl)) | (simp [*, errW_none, errW_some] <;> rfl), by (with_reducible repeat (first | apply Kd.Q_alloc | apply Kd.Q_drewN | apply Kd.Q_drew)); exact Kd.Q_mono (Kd.Q_far (p := ⟨gb234, 1, none⟩) (Kd.Q_far (p := ⟨gb234, 0, none⟩) (Kd.Q_types HO_Z0.out BK234.out (by decide)) (fun _ hk => hk.2) (.slice Ao85 xZ0_2.length co85)) (fun _ hk => hk.2) (.slice (some ⟨go77, 0, none⟩) xZ1_2.length co77)) (fun _ hk => hk.1.2), by (with_reducible repeat (first | apply Kd.R_alloc | apply Kd.R_drewN | apply Kd.R_drew)); exact Kd.R_mono (Kd.R_far (p := ⟨gb234, 1, none⟩) (Kd.R_far (p := ⟨gb234, 0, none⟩) (Kd.R_types HO_Z1.out BK234.out (by decide)) (fun _ hk => hk.2) (.slice Ao85 xZ0_2.length co85)) (fun _ hk => hk.2) (.slice (some ⟨go77, 0, none⟩) xZ1_2.length co77)) (fun _ hk => hk.1), by repeat (first | (with_reducible first | exact HI0.out | apply IsS87.alloc | apply IsS87.drewN | apply IsS87.drew | apply IsS87.set_1 | refine IsS87.far ?_ NB0_234.out _ | refine IsS87.far ?_ NB0_254.out _) | exact HI0.out), by repeat (first | (with_reducible first | exact HB.out | apply below_alloc | apply pw_below_drewN | apply below_drew1 | refine below_set ?_ (IsS87.ge HI0.out) | refine below_set ?_ GE234.out | refine below_set ?_ GE254.out) | exact HB.out), by repeat (first | (with_reducible first | exact HK.out | apply KeepBut.set_ | apply keep_drewN | apply keep_drew | apply keep_alloc | refine keep_far ?_ GW234.out _ | refine keep_far ?_ GW254.out _) | exact HK.out)⟩
            ·
             rw [if_neg c76] at H
             exact absurd H (by simp)
           ·
            rw [if_neg c75] at H; have c75b0 := beq_eq_false_iff_ne.mpr c75; have c75b1 := bne_iff_ne.mpr c75
            by_cases c88 : t264 = 1
            ·
             rw [if_pos c88] at H; have c88b0 := beq_iff_eq.mpr c88; have c88b1 := bne_eq_false_iff_eq.mpr c88; clear c88
             by_cases c89 : 1 ≤ (xZ0_2.length : Int)
             ·
              rw [if_pos c89] at H; have c89b0 := eq_true c89; have c89b1 := decide_eq_true c89; clear c89; obtain ⟨y267, hy267⟩ : ∃ y_ : List Int, y_ = (xZ0_2.drop (1 : Int).toNat) := ⟨_, rfl⟩; replace H : (some (y267, xZ1_2, t265)) = some (r1, r2, r3) := hR hy267 H; have Ny267 := Az hy267; clear hy267; simp only [Option.some.injEq, Prod.mk.injEq] at H; obtain ⟨rfl, rfl, rfl⟩ := H
              go_wp2_with (first | ((with_reducible refine gate_callee (f := 76) rfl ?_); refine goesL_ (some 97) rfl rfl Try.func76 (by kernel_rfl) rfl #[.pointer (some ⟨g, 0, none⟩), .int .i64 50] rfl (by (try simp only [List.map_toArray, List.map_cons, List.map_nil]); first | done | rfl | (simp only [List.length_drop, List.length_take]; rfl)) ?_; (with_reducible refine (spec_l6Rd_pick.calls kj38 g s0_0 t253 50 t264 t265 w0 _ ?side1 ?side2 A74.out).mono ?_); (case side1 => repeat (first | (with_reducible first | exact HI0.out | apply IsS87.alloc | apply IsS87.drewN | apply IsS87.drew | apply IsS87.set_1 | refine IsS87.far ?_ NB0_234.out _ | refine IsS87.far ?_ NB0_254.out _) | exact HI0.out)); (case side2 => repeat (first | (with_reducible first | exact HB.out | apply below_alloc | apply pw_below_drewN | apply below_drew1 | refine below_set ?_ (IsS87.ge HI0.out) | refine below_set ?_ GE234.out | refine below_set ?_ GE254.out) | exact HB.out)); rintro e w90 ⟨rfl, hi, hb, hk⟩; refine ⟨_, rfl, ?_⟩; have n0 := Az (Kd.Q_mono (Kd.Q_keep (IsS87.apartQ (show IsS87 w0 _ g s0_0 t253 from by repeat (first | (with_reducible first | exact HI0.out | apply IsS87.alloc | apply IsS87.drewN | apply IsS87.drew | apply IsS87.set_1 | refine IsS87.far ?_ NB0_234.out _ | refine IsS87.far ?_ NB0_254.out _) | exact HI0.out)) (qU HO_Z0.out) (by decide)) hk (fun _ h => h.2)) (fun _ h => h.1)); have n1 := Az (Kd.R_mono (Kd.R_keep (IsS87.apart (show IsS87 w0 _ g s0_0 t253 from by repeat (first | (with_reducible first | exact HI0.out | apply IsS87.alloc | apply IsS87.drewN | apply IsS87.drew | apply IsS87.set_1 | refine IsS87.far ?_ NB0_234.out _ | refine IsS87.far ?_ NB0_254.out _) | exact HI0.out)) (rU HO_Z1.out) (by decide)) hk (fun _ h => h.2)) (fun _ h => h.1)); have n2 := Az (KeepBut.blk hk (g' := gb234) (o := .cells #[.slice none 0 0, .slice none 0 0] 25 (0, 0)) (kU BK234.out) NB234_0.out (by simp)); have n3 := Az (KeepBut.blk hk (g' := gb254) (o := .cells #[uZ0, uZ1] 25 (0, 0)) (kU BK254.out) NB254_0.out (by simp)); have n4 := Az (KeepBut.trans (by repeat (first | (with_reducible first | exact HK.out | apply KeepBut.set_ | apply keep_drewN | apply keep_drew | apply keep_alloc | refine keep_far ?_ GW234.out _ | refine keep_far ?_ GW254.out _) | exact HK.out)) hk (.inl rfl)); have n5 := Az (hb); have n6 := Az (hi); clear HO_Z0 HO_Z1 BK234 BK254 HK HB HI0; have HO_Z0 := n0; have HO_Z1 := n1; have BK234 := n2; have BK254 := n3; have HK := n4; have HB := n5; have HI0 := n6; clear n0 n1 n2 n3 n4 n5 n6; (try clear hb); (try clear hb2); (try clear hk); (try clear hi); have hnb91 := NB254_234.out; have hnc91 := NB234_254.out; have hnb92 := NB254_0.out; have hnc92 := NB0_254.out; have hcz93_0 : w90.cell? ⟨gb254, 0, none⟩ = some (uZ0) := (blk_cell BK254.out 0).trans rfl; have hcz93_1 : w90.cell? ⟨gb254, 1, none⟩ = some (uZ1) := (blk_cell BK254.out 1).trans rfl; have hfz93_0 := blk_frozen BK254.out 0; have hfz93_1 := blk_frozen BK254.out 1; obtain ⟨Ao94, co94, eo94, _⟩ := Kd.Q_slice HO_Z0.out; subst eo94; have q95 : (1 : Int) ≤ ((xZ0_2.length : Int) : Int) := oA; obtain ⟨i095, hi095, _, hsz95, _⟩ := info_parts info3; have hcut95 := cut_from (P := Try.prog) 23 3 .i64 Try.underlying23 hi095 1 hsz95 Ao94 xZ0_2.length co94 1 (by omega) q95; have hr95 := Kd.Q_drop (k := (1 : Int).toNat) HO_Z0.out (by omega); obtain ⟨A95, hA95⟩ : ∃ A1, A1 = (if co94 = (1 : Int).toNat then Ao94 else (Ao94 : Option Addr).map (·.add ((1 : Int).toNat * 1))) := ⟨_, rfl⟩; obtain ⟨c95, hc95⟩ : ∃ c1, c1 = co94 - (1 : Int).toNat := ⟨_, rfl⟩; have hy95 : y267.length = xZ0_2.length - (1 : Int).toNat := (by rw [Ny267.out, List.length_drop]); rw [← Ny267.out] at hr95; rw [← hy95, ← hA95, ← hc95] at hcut95; replace hr95 : Kd.Q (Kd.int .i64) 3 w90 w.heap.size (fun k_ => some k_ ≠ (uZ1 : Value).ownBlock) (.slice A95 y267.length c95) y267 := (by rw [hA95, hc95, hy95]; exact hr95); have HE95 : Aside0 ((Value.slice A95 y267.length c95).ownBlock = (.slice Ao94 xZ0_2.length co94 : Value).ownBlock) := ⟨by rw [hA95]; split <;> (cases (Ao94 : Option Addr) <;> rfl)⟩; clear hy95 hi095 hsz95 HO_Z0 hA95 hc95; have HO269 := Az hr95; clear hr95; replace q95 := eq_true q95; have n_ := Az (Kd.R_mono (ok' := fun k_ => some k_ ≠ (.slice A95 y267.length c95 : Value).ownBlock) HO_Z1.out (fun k_ hk => (by rw [HE95.out]; exact hk))); clear HO_Z1; have HO_Z1 := n_; clear n_; have hnb96 := NB234_0.out; have hnc96 := NB0_234.out; have hcz97_0 : w90.cell? ⟨gb234, 0, none⟩ = some (.slice none 0 0) := (blk_cell BK234.out 0).trans rfl; have hcz97_1 : w90.cell? ⟨gb234, 1, none⟩ = some (.slice none 0 0) := (blk_cell BK234.out 1).trans rfl; have hfz97_0 := blk_frozen BK234.out 0; have hfz97_1 := blk_frozen BK234.out 1; obtain ⟨Ao98, co98, eo98⟩ := Kd.R_slice HO_Z1.out; subst eo98))
              refine bodyPost_ret (results_cell_row rfl _ _ gb234 25 #[.slice A95 y267.length c95, .slice Ao98 xZ1_2.length co98] (0, 0) _ rfl (by (with_reducible repeat (first | refine blk_drewN ?_ _ | refine blk_drew ?_ | refine blk_alloc ?_ _)); refine blk_put (cs := #[.slice A95 y267.length c95, .slice none 0 0]) ?_ 1 _ rfl; (with_reducible repeat (first | refine blk_drewN ?_ _ | refine blk_drew ?_ | refine blk_alloc ?_ _)); refine blk_put (cs := #[.slice none 0 0, .slice none 0 0]) ?_ 0 _ rfl; (with_reducible repeat (first | refine blk_drewN ?_ _ | refine blk_drew ?_ | refine blk_alloc ?_ _)); refine blk_far ?_ NB234_254.out _; (with_reducible repeat (first | refine blk_drewN ?_ _ | refine blk_drew ?_ | refine blk_alloc ?_ _)); exact BK234.out) Try.underlying25 rfl (by kernel_rfl)) rfl ?_
              exact ⟨_, _, by first | rfl | (simp [errW_none, errW_some] <;> rfl) | (simp only [← hji5]; first | rfl | (simp [errW_none, errW_some] <;> rfl)) | (simp [*, errW_none, errW_some] <;> rfl), by (with_reducible repeat (first | apply Kd.Q_alloc | apply Kd.Q_drewN | apply Kd.Q_drew)); exact Kd.Q_mono (Kd.Q_far (p := ⟨gb234, 1, none⟩) (Kd.Q_far (p := ⟨gb234, 0, none⟩) (Kd.Q_far (p := ⟨gb254, 0, none⟩) (Kd.Q_types (Kd.Q_types HO269.out BK254.out (by decide)) BK234.out (by decide)) (fun _ hk => hk.1.2) (.slice A95 y267.length c95)) (fun _ hk => hk.2) (.slice A95 y267.length c95)) (fun _ hk => hk.2) (.slice Ao98 xZ1_2.length co98)) (fun _ hk => hk.1.1), by (with_reducible repeat (first | apply Kd.R_alloc | apply Kd.R_drewN | apply Kd.R_drew)); exact Kd.R_mono (Kd.R_far (p := ⟨gb234, 1, none⟩) (Kd.R_far (p := ⟨gb234, 0, none⟩) (Kd.R_far (p := ⟨gb254, 0, none⟩) (Kd.R_types (Kd.R_types HO_Z1.out BK254.out (by decide)) BK234.out (by decide)) (fun _ hk => hk.1.2) (.slice A95 y267.length c95)) (fun _ hk => hk.2) (.slice A95 y267.length c95)) (fun _ hk => hk.2) (.slice Ao98 xZ1_2.length co98)) (fun _ hk => hk.1.1), by repeat (first | (with_reducible first | exact HI0.out | apply IsS87.alloc | apply IsS87.drewN | apply IsS87.drew | apply IsS87.set_1 | refine IsS87.far ?_ NB0_234.out _ | refine IsS87.far ?_ NB0_254.out _) | exact HI0.out), by repeat (first | (with_reducible first | exact HB.out | apply below_alloc | apply pw_below_drewN | apply below_drew1 | refine below_set ?_ (IsS87.ge HI0.out) | refine below_set ?_ GE234.out | refine below_set ?_ GE254.out) | exact HB.out), by repeat (first | (with_reducible first | exact HK.out | apply KeepBut.set_ | apply keep_drewN | apply keep_drew | apply keep_alloc | refine keep_far ?_ GW234.out _ | refine keep_far ?_ GW254.out _) | exact HK.out)⟩
             ·
              rw [if_neg c89] at H
              exact absurd H (by simp)
            ·
             rw [if_neg c88] at H; have c88b0 := beq_eq_false_iff_ne.mpr c88; have c88b1 := bne_iff_ne.mpr c88
             by_cases c99 : t264 = 2
             ·
              rw [if_pos c99] at H; have c99b0 := beq_iff_eq.mpr c99; have c99b1 := bne_eq_false_iff_eq.mpr c99; clear c99
              by_cases c100 : 0 < (xZ0_2.length : Int)
              ·
               rw [if_pos c100] at H; have c100b0 := decide_eq_true c100; have c100b1 : decide (0 < xZ0_2.length) = true := decide_eq_true (by omega); clear c100; obtain ⟨y270, hy270⟩ : ∃ y_ : List Int, y_ = (xZ0_2.set (0 : Int).toNat ji5) := ⟨_, rfl⟩; replace H : (some (y270, xZ1_2, t265)) = some (r1, r2, r3) := hR hy270 H; have Ny270 := Az hy270; clear hy270; simp only [Option.some.injEq, Prod.mk.injEq] at H; obtain ⟨rfl, rfl, rfl⟩ := H
               go_wp2_with (first | ((with_reducible refine gate_callee (f := 76) rfl ?_); refine goesL_ (some 97) rfl rfl Try.func76 (by kernel_rfl) rfl #[.pointer (some ⟨g, 0, none⟩), .int .i64 50] rfl (by (try simp only [List.map_toArray, List.map_cons, List.map_nil]); first | done | rfl | (simp only [List.length_drop, List.length_take]; rfl)) ?_; (with_reducible refine (spec_l6Rd_pick.calls kj38 g s0_0 t253 50 t264 t265 w0 _ ?side1 ?side2 A74.out).mono ?_); (case side1 => repeat (first | (with_reducible first | exact HI0.out | apply IsS87.alloc | apply IsS87.drewN | apply IsS87.drew | apply IsS87.set_1 | refine IsS87.far ?_ NB0_234.out _ | refine IsS87.far ?_ NB0_254.out _) | exact HI0.out)); (case side2 => repeat (first | (with_reducible first | exact HB.out | apply below_alloc | apply pw_below_drewN | apply below_drew1 | refine below_set ?_ (IsS87.ge HI0.out) | refine below_set ?_ GE234.out | refine below_set ?_ GE254.out) | exact HB.out)); rintro e w102 ⟨rfl, hi, hb, hk⟩; refine ⟨_, rfl, ?_⟩; have n0 := Az (Kd.Q_mono (Kd.Q_keep (IsS87.apartQ (show IsS87 w0 _ g s0_0 t253 from by repeat (first | (with_reducible first | exact HI0.out | apply IsS87.alloc | apply IsS87.drewN | apply IsS87.drew | apply IsS87.set_1 | refine IsS87.far ?_ NB0_234.out _ | refine IsS87.far ?_ NB0_254.out _) | exact HI0.out)) (qU HO_Z0.out) (by decide)) hk (fun _ h => h.2)) (fun _ h => h.1)); have n1 := Az (Kd.R_mono (Kd.R_keep (IsS87.apart (show IsS87 w0 _ g s0_0 t253 from by repeat (first | (with_reducible first | exact HI0.out | apply IsS87.alloc | apply IsS87.drewN | apply IsS87.drew | apply IsS87.set_1 | refine IsS87.far ?_ NB0_234.out _ | refine IsS87.far ?_ NB0_254.out _) | exact HI0.out)) (rU HO_Z1.out) (by decide)) hk (fun _ h => h.2)) (fun _ h => h.1)); have n2 := Az (KeepBut.blk hk (g' := gb234) (o := .cells #[.slice none 0 0, .slice none 0 0] 25 (0, 0)) (kU BK234.out) NB234_0.out (by simp)); have n3 := Az (KeepBut.blk hk (g' := gb254) (o := .cells #[uZ0, uZ1] 25 (0, 0)) (kU BK254.out) NB254_0.out (by simp)); have n4 := Az (KeepBut.trans (by repeat (first | (with_reducible first | exact HK.out | apply KeepBut.set_ | apply keep_drewN | apply keep_drew | apply keep_alloc | refine keep_far ?_ GW234.out _ | refine keep_far ?_ GW254.out _) | exact HK.out)) hk (.inl rfl)); have n5 := Az (hb); have n6 := Az (hi); clear HO_Z0 HO_Z1 BK234 BK254 HK HB HI0; have HO_Z0 := n0; have HO_Z1 := n1; have BK234 := n2; have BK254 := n3; have HK := n4; have HB := n5; have HI0 := n6; clear n0 n1 n2 n3 n4 n5 n6; (try clear hb); (try clear hb2); (try clear hk); (try clear hi); have hnb103 := NB254_234.out; have hnc103 := NB234_254.out; have hnb104 := NB254_0.out; have hnc104 := NB0_254.out; have hcz105_0 : w102.cell? ⟨gb254, 0, none⟩ = some (uZ0) := (blk_cell BK254.out 0).trans rfl; have hcz105_1 : w102.cell? ⟨gb254, 1, none⟩ = some (uZ1) := (blk_cell BK254.out 1).trans rfl; have hfz105_0 := blk_frozen BK254.out 0; have hfz105_1 := blk_frozen BK254.out 1; have p101 : 0 ≤ (0 : Int) := (by omega); have q101 : (0 : Int) < ((xZ0_2.length : Int) : Int) := oA; have qi101 : (0 < xZ0_2.length) = True := eq_true (by omega); obtain ⟨go101, oo101, co101, eo101, gb101, gl101, cl101, HG101⟩ := Kd.Q_form HO_Z0.out (by omega); (first | cases eo101 | (injection eo101 with ea_ en_ ec_; (first | subst ea_ | (injection ea_ with ea_; subst ea_)); subst ec_; clear en_)); have GB101 := Az gb101; have GG101 := Az HG101; clear gb101 gl101 HG101; obtain ⟨hx101_0, hf101_0⟩ := Kd.Q_cell 0 HO_Z0.out (0 : Int) p101 q101; (try rw [show ((0 : Int)).toNat = 0 from rfl] at hx101_0); (try simp only [Nat.reduceMul, Nat.zero_mul, Nat.zero_add, Nat.reduceAdd] at hx101_0); (try rw [show ((0 : Int)).toNat = 0 from rfl] at hf101_0); (try simp only [Nat.reduceMul, Nat.zero_mul, Nat.zero_add, Nat.reduceAdd] at hf101_0); replace p101 := eq_true p101; replace q101 := eq_true q101; obtain ⟨hy106_, hz106_⟩ := Kd.Q_cell 0 HO_Z0.out (0 : Int) (by omega) (oA); (try simp only [Int.reduceToNat, Int.toNat_zero, Int.toNat_ofNat, Nat.reduceMul, Nat.zero_mul, Nat.zero_add] at hy106_ hz106_); (try rw [show ((0 : Int)).toNat = 0 from rfl] at hy106_); (try rw [show ((0 : Int)).toNat = 0 from rfl] at hz106_); have HP106 := Kd.Q_putg HO_Z0.out (0 : Int) (by omega) (by have h_ : (0 : Int) < ((xZ0_2.length : Int) : Int) := oA; first | exact h_ | (have e_ := (Kd.Q_reads' HO_Z0.out).1; omega) | simpa using h_) ji5) | ((with_reducible refine gate_store (t := 3) (p := 114) rfl ?_); (try (obtain ⟨hyS_, hzS_⟩ := Kd.Q_cell 0 HO_Z0.out 0 (by omega) (oA); simp only [Int.toNat_zero, Nat.add_zero] at hyS_ hzS_)); refine store_event (t := 3) (p := 114) (v := ?vo_w107) (w1 := (w102.setCell ⟨go101, oo101 + (0 : Int).toNat, none⟩ (.int .i64 ji5))) ?hg ?ho ?hn ?hr ?_; (case ho => rfl); (case hg => rfl); (case hn => rfl); (case hr => first | (go_simp; done) | (go_simp; rfl)); intro w107 hw; have hg : w102.grownBy w107 (some go101) := (by rw [hw]; exact HP106.2); have hp_ : Kd.Q (Kd.int .i64) 3 w107 w.heap.size (fun k_ => some k_ ≠ (uZ1 : Value).ownBlock) (.slice (some ⟨go101, oo101, none⟩) xZ0_2.length co101) y270 := (by rw [hw, Ny270.out]; exact HP106.1); clear HP106; have n0 := Az (hp_); have n1 := Az (Kd.R_after (v := (.slice (some ⟨go101, oo101, none⟩) xZ0_2.length co101)) (v1 := (.slice (some ⟨go101, oo101, none⟩) xZ0_2.length co101)) (ok := (fun _ => True)) (by (with_reducible repeat (first | apply Kd.R_alloc | apply Kd.R_drewN | apply Kd.R_drew)); exact Kd.R_mono HO_Z1.out (fun _ hk => ⟨trivial, hk⟩)) hg (.inl rfl)); have n2 := Az (blk_grown (g := gb234) (o := .cells #[.slice none 0 0, .slice none 0 0] 25 (0, 0)) (kU BK234.out) hg (Kd.Q_ne HO_Z0.out BK234.out (by decide))); have n3 := Az (blk_grown (g := gb254) (o := .cells #[.slice (some ⟨go101, oo101, none⟩) xZ0_2.length co101, uZ1] 25 (0, 0)) (kU BK254.out) hg (Kd.Q_ne HO_Z0.out BK254.out (by decide))); have n4 := Az (IsS87.grown (by repeat (first | (with_reducible first | exact HI0.out | apply IsS87.alloc | apply IsS87.drewN | apply IsS87.drew | apply IsS87.set_1 | refine IsS87.far ?_ NB0_234.out _ | refine IsS87.far ?_ NB0_254.out _) | exact HI0.out)) hg (IsS87.own_neQ HI0.out HO_Z0.out (by decide))); have n5 := Az ((by rw [hw]; exact below_set (HB.out) (Nat.le_trans HL.out GB101.out) : Below w0.heap.size w0 w107)); have n6 := Az (KeepBut.trans (by repeat (first | (with_reducible first | exact HK.out | apply KeepBut.set_ | apply keep_drewN | apply keep_drew | apply keep_alloc | refine keep_far ?_ GW234.out _ | refine keep_far ?_ GW254.out _) | exact HK.out)) (KeepBut.of_grown hg g) (Kd.Q_base2 HO_Z0.out)); clear HO_Z0 HO_Z1 BK234 BK254 HI0 HB HK; have HO_Z0 := n0; have HO_Z1 := n1; have BK234 := n2; have BK254 := n3; have HI0 := n4; have HB := n5; have HK := n6; clear n0 n1 n2 n3 n4 n5 n6 hg hw hp_; have hcz108_0 : w107.cell? ⟨gb254, 0, none⟩ = some (.slice (some ⟨go101, oo101, none⟩) xZ0_2.length co101) := (blk_cell BK254.out 0).trans rfl; have hcz108_1 : w107.cell? ⟨gb254, 1, none⟩ = some (uZ1) := (blk_cell BK254.out 1).trans rfl; have hfz108_0 := blk_frozen BK254.out 0; have hfz108_1 := blk_frozen BK254.out 1; have hnb109 := NB234_0.out; have hnc109 := NB0_234.out; have hcz110_0 : w107.cell? ⟨gb234, 0, none⟩ = some (.slice none 0 0) := (blk_cell BK234.out 0).trans rfl; have hcz110_1 : w107.cell? ⟨gb234, 1, none⟩ = some (.slice none 0 0) := (blk_cell BK234.out 1).trans rfl; have hfz110_0 := blk_frozen BK234.out 0; have hfz110_1 := blk_frozen BK234.out 1; obtain ⟨Ao111, co111, eo111⟩ := Kd.R_slice HO_Z1.out; subst eo111))
               refine bodyPost_ret (results_cell_row rfl _ _ gb234 25 #[.slice (some ⟨go101, oo101, none⟩) xZ0_2.length co101, .slice Ao111 xZ1_2.length co111] (0, 0) _ rfl (by (with_reducible repeat (first | refine blk_drewN ?_ _ | refine blk_drew ?_ | refine blk_alloc ?_ _)); refine blk_put (cs := #[.slice (some ⟨go101, oo101, none⟩) xZ0_2.length co101, .slice none 0 0]) ?_ 1 _ rfl; (with_reducible repeat (first | refine blk_drewN ?_ _ | refine blk_drew ?_ | refine blk_alloc ?_ _)); refine blk_put (cs := #[.slice none 0 0, .slice none 0 0]) ?_ 0 _ rfl; (with_reducible repeat (first | refine blk_drewN ?_ _ | refine blk_drew ?_ | refine blk_alloc ?_ _)); exact BK234.out) Try.underlying25 rfl (by kernel_rfl)) rfl ?_
               exact ⟨_, _, by first | rfl | (simp [errW_none, errW_some] <;> rfl) | (simp only [← hji5]; first | rfl | (simp [errW_none, errW_some] <;> rfl)) | (simp [*, errW_none, errW_some] <;> rfl), by (with_reducible repeat (first | apply Kd.Q_alloc | apply Kd.Q_drewN | apply Kd.Q_drew)); exact Kd.Q_mono (Kd.Q_far (p := ⟨gb234, 1, none⟩) (Kd.Q_far (p := ⟨gb234, 0, none⟩) (Kd.Q_types HO_Z0.out BK234.out (by decide)) (fun _ hk => hk.2) (.slice (some ⟨go101, oo101, none⟩) xZ0_2.length co101)) (fun _ hk => hk.2) (.slice Ao111 xZ1_2.length co111)) (fun _ hk => hk.1), by (with_reducible repeat (first | apply Kd.R_alloc | apply Kd.R_drewN | apply Kd.R_drew)); exact Kd.R_mono (Kd.R_far (p := ⟨gb234, 1, none⟩) (Kd.R_far (p := ⟨gb234, 0, none⟩) (Kd.R_types HO_Z1.out BK234.out (by decide)) (fun _ hk => hk.2) (.slice (some ⟨go101, oo101, none⟩) xZ0_2.length co101)) (fun _ hk => hk.2) (.slice Ao111 xZ1_2.length co111)) (fun _ hk => hk.1.2), by repeat (first | (with_reducible first | exact HI0.out | apply IsS87.alloc | apply IsS87.drewN | apply IsS87.drew | apply IsS87.set_1 | refine IsS87.far ?_ NB0_234.out _ | refine IsS87.far ?_ NB0_254.out _) | exact HI0.out), by repeat (first | (with_reducible first | exact HB.out | apply below_alloc | apply pw_below_drewN | apply below_drew1 | refine below_set ?_ (IsS87.ge HI0.out) | refine below_set ?_ GE234.out | refine below_set ?_ GE254.out) | exact HB.out), by repeat (first | (with_reducible first | exact HK.out | apply KeepBut.set_ | apply keep_drewN | apply keep_drew | apply keep_alloc | refine keep_far ?_ GW234.out _ | refine keep_far ?_ GW254.out _) | exact HK.out)⟩
              ·
               rw [if_neg c100] at H
               exact absurd H (by simp)
             ·
              rw [if_neg c99] at H; have c99b0 := beq_eq_false_iff_ne.mpr c99; have c99b1 := bne_iff_ne.mpr c99; simp only [Option.some.injEq, Prod.mk.injEq] at H; obtain ⟨rfl, rfl, rfl⟩ := H
              go_wp2_with (first | ((with_reducible refine gate_callee (f := 76) rfl ?_); refine goesL_ (some 97) rfl rfl Try.func76 (by kernel_rfl) rfl #[.pointer (some ⟨g, 0, none⟩), .int .i64 50] rfl (by (try simp only [List.map_toArray, List.map_cons, List.map_nil]); first | done | rfl | (simp only [List.length_drop, List.length_take]; rfl)) ?_; (with_reducible refine (spec_l6Rd_pick.calls kj38 g s0_0 t253 50 t264 t265 w0 _ ?side1 ?side2 A74.out).mono ?_); (case side1 => repeat (first | (with_reducible first | exact HI0.out | apply IsS87.alloc | apply IsS87.drewN | apply IsS87.drew | apply IsS87.set_1 | refine IsS87.far ?_ NB0_234.out _ | refine IsS87.far ?_ NB0_254.out _) | exact HI0.out)); (case side2 => repeat (first | (with_reducible first | exact HB.out | apply below_alloc | apply pw_below_drewN | apply below_drew1 | refine below_set ?_ (IsS87.ge HI0.out) | refine below_set ?_ GE234.out | refine below_set ?_ GE254.out) | exact HB.out)); rintro e w112 ⟨rfl, hi, hb, hk⟩; refine ⟨_, rfl, ?_⟩; have n0 := Az (Kd.Q_mono (Kd.Q_keep (IsS87.apartQ (show IsS87 w0 _ g s0_0 t253 from by repeat (first | (with_reducible first | exact HI0.out | apply IsS87.alloc | apply IsS87.drewN | apply IsS87.drew | apply IsS87.set_1 | refine IsS87.far ?_ NB0_234.out _ | refine IsS87.far ?_ NB0_254.out _) | exact HI0.out)) (qU HO_Z0.out) (by decide)) hk (fun _ h => h.2)) (fun _ h => h.1)); have n1 := Az (Kd.R_mono (Kd.R_keep (IsS87.apart (show IsS87 w0 _ g s0_0 t253 from by repeat (first | (with_reducible first | exact HI0.out | apply IsS87.alloc | apply IsS87.drewN | apply IsS87.drew | apply IsS87.set_1 | refine IsS87.far ?_ NB0_234.out _ | refine IsS87.far ?_ NB0_254.out _) | exact HI0.out)) (rU HO_Z1.out) (by decide)) hk (fun _ h => h.2)) (fun _ h => h.1)); have n2 := Az (KeepBut.blk hk (g' := gb234) (o := .cells #[.slice none 0 0, .slice none 0 0] 25 (0, 0)) (kU BK234.out) NB234_0.out (by simp)); have n3 := Az (KeepBut.blk hk (g' := gb254) (o := .cells #[uZ0, uZ1] 25 (0, 0)) (kU BK254.out) NB254_0.out (by simp)); have n4 := Az (KeepBut.trans (by repeat (first | (with_reducible first | exact HK.out | apply KeepBut.set_ | apply keep_drewN | apply keep_drew | apply keep_alloc | refine keep_far ?_ GW234.out _ | refine keep_far ?_ GW254.out _) | exact HK.out)) hk (.inl rfl)); have n5 := Az (hb); have n6 := Az (hi); clear HO_Z0 HO_Z1 BK234 BK254 HK HB HI0; have HO_Z0 := n0; have HO_Z1 := n1; have BK234 := n2; have BK254 := n3; have HK := n4; have HB := n5; have HI0 := n6; clear n0 n1 n2 n3 n4 n5 n6; (try clear hb); (try clear hb2); (try clear hk); (try clear hi); have hnb113 := NB254_234.out; have hnc113 := NB234_254.out; have hnb114 := NB254_0.out; have hnc114 := NB0_254.out; have hcz115_0 : w112.cell? ⟨gb254, 0, none⟩ = some (uZ0) := (blk_cell BK254.out 0).trans rfl; have hcz115_1 : w112.cell? ⟨gb254, 1, none⟩ = some (uZ1) := (blk_cell BK254.out 1).trans rfl; have hfz115_0 := blk_frozen BK254.out 0; have hfz115_1 := blk_frozen BK254.out 1; obtain ⟨Ao116, co116, eo116, _⟩ := Kd.Q_slice HO_Z0.out; subst eo116; have hnb117 := NB234_0.out; have hnc117 := NB0_234.out; have hcz118_0 : w112.cell? ⟨gb234, 0, none⟩ = some (.slice none 0 0) := (blk_cell BK234.out 0).trans rfl; have hcz118_1 : w112.cell? ⟨gb234, 1, none⟩ = some (.slice none 0 0) := (blk_cell BK234.out 1).trans rfl; have hfz118_0 := blk_frozen BK234.out 0; have hfz118_1 := blk_frozen BK234.out 1; obtain ⟨Ao119, co119, eo119⟩ := Kd.R_slice HO_Z1.out; subst eo119))
              refine bodyPost_ret (results_cell_row rfl _ _ gb234 25 #[.slice Ao116 xZ0_2.length co116, .slice Ao119 xZ1_2.length co119] (0, 0) _ rfl (by (with_reducible repeat (first | refine blk_drewN ?_ _ | refine blk_drew ?_ | refine blk_alloc ?_ _)); refine blk_put (cs := #[.slice Ao116 xZ0_2.length co116, .slice none 0 0]) ?_ 1 _ rfl; (with_reducible repeat (first | refine blk_drewN ?_ _ | refine blk_drew ?_ | refine blk_alloc ?_ _)); refine blk_put (cs := #[.slice none 0 0, .slice none 0 0]) ?_ 0 _ rfl; (with_reducible repeat (first | refine blk_drewN ?_ _ | refine blk_drew ?_ | refine blk_alloc ?_ _)); exact BK234.out) Try.underlying25 rfl (by kernel_rfl)) rfl ?_
              exact ⟨_, _, by first | rfl | (simp [errW_none, errW_some] <;> rfl) | (simp only [← hji5]; first | rfl | (simp [errW_none, errW_some] <;> rfl)) | (simp [*, errW_none, errW_some] <;> rfl), by (with_reducible repeat (first | apply Kd.Q_alloc | apply Kd.Q_drewN | apply Kd.Q_drew)); exact Kd.Q_mono (Kd.Q_far (p := ⟨gb234, 1, none⟩) (Kd.Q_far (p := ⟨gb234, 0, none⟩) (Kd.Q_types HO_Z0.out BK234.out (by decide)) (fun _ hk => hk.2) (.slice Ao116 xZ0_2.length co116)) (fun _ hk => hk.2) (.slice Ao119 xZ1_2.length co119)) (fun _ hk => hk.1), by (with_reducible repeat (first | apply Kd.R_alloc | apply Kd.R_drewN | apply Kd.R_drew)); exact Kd.R_mono (Kd.R_far (p := ⟨gb234, 1, none⟩) (Kd.R_far (p := ⟨gb234, 0, none⟩) (Kd.R_types HO_Z1.out BK234.out (by decide)) (fun _ hk => hk.2) (.slice Ao116 xZ0_2.length co116)) (fun _ hk => hk.2) (.slice Ao119 xZ1_2.length co119)) (fun _ hk => hk.1), by repeat (first | (with_reducible first | exact HI0.out | apply IsS87.alloc | apply IsS87.drewN | apply IsS87.drew | apply IsS87.set_1 | refine IsS87.far ?_ NB0_234.out _ | refine IsS87.far ?_ NB0_254.out _) | exact HI0.out), by repeat (first | (with_reducible first | exact HB.out | apply below_alloc | apply pw_below_drewN | apply below_drew1 | refine below_set ?_ (IsS87.ge HI0.out) | refine below_set ?_ GE234.out | refine below_set ?_ GE254.out) | exact HB.out), by repeat (first | (with_reducible first | exact HK.out | apply KeepBut.set_ | apply keep_drewN | apply keep_drew | apply keep_alloc | refine keep_far ?_ GW234.out _ | refine keep_far ?_ GW254.out _) | exact HK.out)⟩
  ·
   rw [if_neg c7] at H
   exact absurd H (by simp)
 ·
  rw [if_neg c6] at H
  exact absurd H (by simp)
def spec_DrawMapDegrees.f (k : Nat) (l0 : List Int) : Option (List Int × List Int) := (spec_l6Open.f l0).bind fun bt272 => ((spec_l91Map.f k bt272.1 bt272.2 5).bind fun bt275 => (some (bt275.1, bt275.2.1)))
set_option maxHeartbeats 8000000 in
set_option maxRecDepth 100000 in
theorem spec_DrawMapDegrees.calls (k : Nat) (A0 : Option Addr) (c0 : Nat) (l0 : List Int) (r1 : List Int) (r2 : List Int) (w : World) (hr0 : Kd.C (Kd.int .u8) w A0 l0.length l0) (hc0 : l0.length ≤ c0) (h : spec_DrawMapDegrees.f k l0 = some (r1, r2)) :
  Calls Try.prog 33 #[.slice A0 l0.length c0] w fun e w' => ∃ v0_ v1_ : Value, e = .returned (.agg #[v0_, v1_]) ∧ Kd.Q (Kd.int .i64) 3 w' w.heap.size (fun k_ => some k_ ≠ (v1_ : Value).ownBlock) v0_ r1 ∧ Kd.R (Kd.int .i64) 3 w' w.heap.size (fun k_ => some k_ ≠ (v0_ : Value).ownBlock) v1_ r2 ∧ Below w.heap.size w w' := by
 have hu25 := Try.underlying25; have HR0 := Az hr0; have HC0 := Az hc0; clear hr0 hc0; have HB := Az (Below.refl w.heap.size w); have H : ((spec_l6Open.f l0).bind fun bt272 => ((spec_l91Map.f k bt272.1 bt272.2 5).bind fun bt275 => (some (bt275.1, bt275.2.1)))) = some (r1, r2) := h; clear h; replace H := Option.bind_eq_some_iff.mp H; obtain ⟨⟨t272, t273⟩, A20, H⟩ := H; replace H : ((spec_l91Map.f k t272 t273 5).bind fun bt275 => (some (bt275.1, bt275.2.1))) = some (r1, r2) := H; have A2 := Az A20; clear A20; replace H := Option.bind_eq_some_iff.mp H; obtain ⟨⟨t275, t278, t281⟩, A30, H⟩ := H; replace H : (some (t275, t278)) = some (r1, r2) := H; have A3 := Az A30; clear A30; simp only [Option.some.injEq, Prod.mk.injEq] at H; obtain ⟨rfl, rfl⟩ := H
 go_enter Try.func33, Try.ntmps33
 go_wp2_with (first | ((with_reducible refine gate_dst (N := 2) rfl ?_); refine box_event ?hg (N := 2) ?hd (cs := #[.slice none 0 0, .slice none 0 0]) (t := 25) ?hr ?_; (case hd => rfl); (case hg => rfl); (case hr => first | (go_simp; done) | (go_simp; rfl)); intro gb271 hg w4 hbox hb; have n0 := Az (below_step (bU0 HB.out) hb); have n1 := Az (hbox); have n2 := Az ((by rw [hg]; exact (below_size (bU0 HB.out)) : w.heap.size ≤ gb271)); have n3 := n2; clear HB; have HB := n0; have BK271 := n1; have GW271 := n2; have GE271 := n3; clear n0 n1 n2 n3; clear hb hbox hg) | ((with_reducible refine gate_callee (f := 55) rfl ?_); refine goesL_ (some 4) rfl rfl Try.func55 (by kernel_rfl) rfl #[.slice A0 l0.length c0] rfl (by (try simp only [List.map_toArray, List.map_cons, List.map_nil]); first | done | rfl | (simp only [List.length_drop, List.length_take]; rfl)) ?_; (with_reducible refine (spec_l6Open.calls _ _ l0 t272 t273 w _ ?side1 ?side2 ?side3 A2.out).mono ?_); (case side1 => repeat (first | (with_reducible first | exact HB.out | apply below_alloc | apply pw_below_drewN | apply below_drew1 | refine below_set ?_ GE271.out) | exact HB.out)); (case side2 => exact HR0.out); (case side3 => exact HC0.out); rintro e w5 ⟨g274, rfl, hi, hb, hb2⟩; refine ⟨_, rfl, ?_⟩; have n0 := Az (blk_below (g := gb271) (o := .cells #[.slice none 0 0, .slice none 0 0] 25 (0, 0)) (kU BK271.out) hb2); have n1 := Az (hb); have n2 := Az (hi); have n3 := Az (IsS87.ne_blk hi (blk_below (g := gb271) (o := .cells #[.slice none 0 0, .slice none 0 0] 25 (0, 0)) (kU BK271.out) hb2) (by decide)); have n4 := Az (Ne.symm (IsS87.ne_blk hi (blk_below (g := gb271) (o := .cells #[.slice none 0 0, .slice none 0 0] 25 (0, 0)) (kU BK271.out) hb2) (by decide))); clear BK271 HB; have BK271 := n0; have HB := n1; have HI274 := n2; have NB274_271 := n3; have NB271_274 := n4; clear n0 n1 n2 n3 n4; (try clear hb); (try clear hb2); (try clear hk); (try clear hi)) | ((with_reducible refine gate_callee (f := 77) rfl ?_); refine goesL_ (some 5) rfl rfl Try.func77 (by kernel_rfl) rfl #[.pointer (some ⟨g274, 0, none⟩), .int .i64 5] rfl (by (try simp only [List.map_toArray, List.map_cons, List.map_nil]); first | done | rfl | (simp only [List.length_drop, List.length_take]; rfl)) ?_; (with_reducible refine (spec_l91Map.calls k g274 t272 t273 5 t275 t278 t281 w _ ?side1 ?side2 A3.out).mono ?_); (case side1 => repeat (first | (with_reducible first | exact HI274.out | apply IsS87.alloc | apply IsS87.drewN | apply IsS87.drew | apply IsS87.set_1 | refine IsS87.far ?_ NB274_271.out _) | exact HI274.out)); (case side2 => repeat (first | (with_reducible first | exact HB.out | apply below_alloc | apply pw_below_drewN | apply below_drew1 | refine below_set ?_ (IsS87.ge HI274.out) | refine below_set ?_ GE271.out) | exact HB.out)); rintro e w6 ⟨v276, v279, rfl, ho0, ho1, hi, hb, hk⟩; refine ⟨_, rfl, ?_⟩; have n0 := Az (KeepBut.blk hk (g' := gb271) (o := .cells #[.slice none 0 0, .slice none 0 0] 25 (0, 0)) (kU BK271.out) NB271_274.out (by simp)); have n1 := Az (Kd.Q_lower ho0 (below_size (by repeat (first | (with_reducible first | exact HB.out | apply below_alloc | apply pw_below_drewN | apply below_drew1 | refine below_set ?_ (IsS87.ge HI274.out) | refine below_set ?_ GE271.out) | exact HB.out)))); have n2 := Az (Kd.R_lower ho1 (below_size (by repeat (first | (with_reducible first | exact HB.out | apply below_alloc | apply pw_below_drewN | apply below_drew1 | refine below_set ?_ (IsS87.ge HI274.out) | refine below_set ?_ GE271.out) | exact HB.out)))); have n3 := Az (hb); have n4 := Az (hi); clear BK271 HB HI274; have BK271 := n0; have HO277 := n1; have HO280 := n2; have HB := n3; have HI274 := n4; clear n0 n1 n2 n3 n4; (try clear hb); (try clear hb2); (try clear hk); (try clear hi); (try clear ho0); (try clear ho1); obtain ⟨Ao7, co7, eo7, _⟩ := Kd.Q_slice HO277.out; subst eo7; have hnb8 := NB271_274.out; have hnc8 := NB274_271.out; have hcz9_0 : w6.cell? ⟨gb271, 0, none⟩ = some (.slice none 0 0) := (blk_cell BK271.out 0).trans rfl; have hcz9_1 : w6.cell? ⟨gb271, 1, none⟩ = some (.slice none 0 0) := (blk_cell BK271.out 1).trans rfl; have hfz9_0 := blk_frozen BK271.out 0; have hfz9_1 := blk_frozen BK271.out 1; obtain ⟨Ao10, co10, eo10⟩ := Kd.R_slice HO280.out; subst eo10))
 refine bodyPost_ret (results_cell_row rfl _ _ gb271 25 #[.slice Ao7 t275.length co7, .slice Ao10 t278.length co10] (0, 0) _ rfl (by (with_reducible repeat (first | refine blk_drewN ?_ _ | refine blk_drew ?_ | refine blk_alloc ?_ _)); refine blk_put (cs := #[.slice Ao7 t275.length co7, .slice none 0 0]) ?_ 1 _ rfl; (with_reducible repeat (first | refine blk_drewN ?_ _ | refine blk_drew ?_ | refine blk_alloc ?_ _)); refine blk_put (cs := #[.slice none 0 0, .slice none 0 0]) ?_ 0 _ rfl; (with_reducible repeat (first | refine blk_drewN ?_ _ | refine blk_drew ?_ | refine blk_alloc ?_ _)); exact BK271.out) Try.underlying25 rfl (by kernel_rfl)) rfl ?_
 exact ⟨_, _, rE, by (with_reducible repeat (first | apply Kd.Q_alloc | apply Kd.Q_drewN | apply Kd.Q_drew)); exact Kd.Q_mono (Kd.Q_far (p := ⟨gb271, 1, none⟩) (Kd.Q_far (p := ⟨gb271, 0, none⟩) (Kd.Q_types HO277.out BK271.out (by decide)) (fun _ hk => hk.2) (.slice Ao7 t275.length co7)) (fun _ hk => hk.2) (.slice Ao10 t278.length co10)) (fun _ hk => hk.1), by (with_reducible repeat (first | apply Kd.R_alloc | apply Kd.R_drewN | apply Kd.R_drew)); exact Kd.R_mono (Kd.R_far (p := ⟨gb271, 1, none⟩) (Kd.R_far (p := ⟨gb271, 0, none⟩) (Kd.R_types HO280.out BK271.out (by decide)) (fun _ hk => hk.2) (.slice Ao7 t275.length co7)) (fun _ hk => hk.2) (.slice Ao10 t278.length co10)) (fun _ hk => hk.1), by repeat (first | (with_reducible first | exact HB.out | apply below_alloc | apply pw_below_drewN | apply below_drew1 | refine below_set ?_ (IsS87.ge HI274.out) | refine below_set ?_ GE271.out) | exact HB.out)⟩
def laysSort_ren : Go.Shelf.Ren := ⟨fun | 189 => 128 | 125 => 154 | 257 => 153 | 128 => 170 | 129 => 171 | 294 => 161 | 295 => 162 | 296 => 163 | 297 => 164 | 298 => 165 | 299 => 166 | 216 => 167 | 300 => 168 | 301 => 169 | 328 => 173 | 329 => 174 | 330 => 175 | 331 => 176 | 332 => 177 | 215 => 172 | 343 => 178 | n => n, fun | 28 => 23 | 3 => 3 | 46 => 108 | 0 => 0 | 51 => 120 | 53 => 122 | 4 => 4 | 183 => 114 | 182 => 113 | 131 => 82 | 5 => 5 | 9 => 9 | 218 => 123 | 222 => 127 | 228 => 129 | 229 => 130 | n => n, fun | n => n⟩
theorem laysSort : Lays.n189 Try.prog laysSort_ren := { mixed := by kernel_rfl, f125 := Try.func154.trans (congrArg some (by kernel_rfl)), f128 := Try.func170.trans (congrArg some (by kernel_rfl)), f129 := Try.func171.trans (congrArg some (by kernel_rfl)), f189 := Try.func128.trans (congrArg some (by kernel_rfl)), f215 := Try.func172.trans (congrArg some (by kernel_rfl)), f216 := Try.func167.trans (congrArg some (by kernel_rfl)), f257 := Try.func153.trans (congrArg some (by kernel_rfl)), f294 := Try.func161.trans (congrArg some (by kernel_rfl)), f295 := Try.func162.trans (congrArg some (by kernel_rfl)), f296 := Try.func163.trans (congrArg some (by kernel_rfl)), f297 := Try.func164.trans (congrArg some (by kernel_rfl)), f298 := Try.func165.trans (congrArg some (by kernel_rfl)), f299 := Try.func166.trans (congrArg some (by kernel_rfl)), f300 := Try.func168.trans (congrArg some (by kernel_rfl)), f301 := Try.func169.trans (congrArg some (by kernel_rfl)), f328 := Try.func173.trans (congrArg some (by kernel_rfl)), f329 := Try.func174.trans (congrArg some (by kernel_rfl)), f330 := Try.func175.trans (congrArg some (by kernel_rfl)), f331 := Try.func176.trans (congrArg some (by kernel_rfl)), f332 := Try.func177.trans (congrArg some (by kernel_rfl)), f343 := Try.func178.trans (congrArg some (by kernel_rfl)), t0 := Try.underlying0, a0 := Try.isAgg0, z0 := Try.sizeOf0, v0 := Try.zeroValue0, t3 := Try.underlying3, a3 := Try.isAgg3, z3 := Try.sizeOf3, v3 := Try.zeroValue3, t4 := Try.underlying4, a4 := Try.isAgg4, z4 := Try.sizeOf4, v4 := Try.zeroValue4, t5 := Try.underlying5, a5 := Try.isAgg5, z5 := Try.sizeOf5, v5 := Try.zeroValue5, t9 := Try.underlying9, a9 := Try.isAgg9, z9 := Try.sizeOf9, v9 := Try.zeroValue9, t28 := Try.underlying23, a28 := Try.isAgg23, z28 := Try.sizeOf23, v28 := Try.zeroValue23, t46 := Try.underlying108, a46 := Try.isAgg108, z46 := Try.sizeOf108, v46 := Try.zeroValue108, t51 := Try.underlying120, a51 := Try.isAgg120, z51 := Try.sizeOf120, v51 := Try.zeroValue120, t53 := Try.underlying122, a53 := Try.isAgg122, z53 := Try.sizeOf122, v53 := Try.zeroValue122, t131 := Try.underlying82, a131 := Try.isAgg82, z131 := Try.sizeOf82, v131 := Try.zeroValue82, t182 := Try.underlying113, a182 := Try.isAgg113, z182 := Try.sizeOf113, v182 := Try.zeroValue113, t183 := Try.underlying114, a183 := Try.isAgg114, z183 := Try.sizeOf114, v183 := Try.zeroValue114, t218 := Try.underlying123, a218 := Try.isAgg123, z218 := Try.sizeOf123, v218 := Try.zeroValue123, t222 := Try.underlying127, a222 := Try.isAgg127, z222 := Try.sizeOf127, v222 := Try.zeroValue127, t228 := Try.underlying129, a228 := Try.isAgg129, z228 := Try.sizeOf129, v228 := Try.zeroValue129, t229 := Try.underlying130, a229 := Try.isAgg130, z229 := Try.sizeOf130, v229 := Try.zeroValue130 }
def slices_Sort_int_int.f (l0 : List Int) : Option (List Int) := if 0 < l0.length ∧ l0.length < 4611686018427387904 then some (l0.mergeSort fun x y => decide (x ≤ y)) else none
theorem slices_Sort_int_int.calls (P0_ : Nat → Prop) (u9000_ : Value) (l0 : List Int) (r : List Int) (w0 w : World) (hB : Below w0.heap.size w0 w) (ho0 : Kd.R (Kd.int .i64) 3 w w0.heap.size P0_ u9000_ l0) (h : slices_Sort_int_int.f l0 = some r) :
  Calls Try.prog 128 #[u9000_] w fun e w' => e = .returned (.tuple #[]) ∧ Kd.R (Kd.int .i64) 3 w' w0.heap.size (fun k_ => (P0_ k_ ∨ w.heap.size ≤ k_)) u9000_ r ∧ Below w0.heap.size w0 w' ∧ Kept w w' (fun k_ => P0_ k_) := by
 unfold slices_Sort_int_int.f at h
 split at h
 ·
  rename_i hn
  obtain rfl := Option.some.inj h; have ow := Kd.own_of_R ho0; obtain ⟨hlen, ⟨_, h0⟩ | ⟨g, cap, cur, hv, hbase, hb, h1, h2, h3, h4⟩⟩ := ow
  ·
   omega
  subst hv; have hg : g < w.heap.size := (Array.getElem?_eq_some_iff.1 hb).1; have hP : P0_ g := ho0.1 g rfl; have hH := holds_of_blockI (ss := l0) hb (by rw [← Nat.mul_one l0.length, h4]; rfl)
  refine (Any.slices_Sort_int laysSort g 0 cap l0 w hH hg hn.2).mono ?_
  rintro e w' ⟨rfl, n, os, rfl⟩
  have hgr := grownBy_sortedI (w := w) (g := g) (n := n) (os := os) (l0.mergeSort fun x y => decide (x ≤ y)).toArray; have hl : (l0.mergeSort fun x y => decide (x ≤ y)).length = l0.length := List.length_mergeSort _; have own := ownsRow_sortedI (n := n) (os := os) (ts := l0.mergeSort fun x y => decide (x ≤ y)) hl hbase hb h1 h2 (by rw [h3])
  refine ⟨rfl, ?_, ?_, ?_⟩
  ·
   refine Kd.R_of_own ?_ (fun k hk => .inl ?_)
   ·
    rw [hl]
    exact own
   ·
    have : g = k := Option.some.inj hk; rw [← this]
    exact hP
  ·
   exact hB.grown hgr (by have := hB.size; omega) (fun k hk => by have := Option.some.inj hk; omega)
  ·
   exact Kept.of_grown hgr (Kept.refl w _) (fun k hk => .inl (by have := Option.some.inj hk; rw [← this]; exact hP))
 ·
  cases h
def slices_Reverse_int_int.l0 : Nat → List Int → Int → Int → Option (List Int)
 | 0, _, _, _ => none
 | k + 1, x0, x2, x3 => if x2 < x3 then (if 0 ≤ x3 then (if x3 < (x0.length : Int) then (if 0 ≤ x2 then (if x2 < (x0.length : Int) then (slices_Reverse_int_int.l0 k ((x0.set (x2 : Int).toNat (rd x0 x3)).set (x3 : Int).toNat (rd x0 x2)) (wrap64 (x2 + 1)) (wrap64 (x3 - 1))) else (none)) else (none)) else (none)) else (none)) else (some x0)
def slices_Reverse_int_int.f (k : Nat) (l0 : List Int) : Option (List Int) := slices_Reverse_int_int.l0 k l0 0 (wrap64 ((l0.length : Int) - 1))
def slices_Reverse_int_int.T3 : Bool × List (List Nat × List Nat) := (true, [([], []), ([], []), ([], []), ([], []), ([], []), ([], []), ([4, 5], [4, 5]), ([6], [6]), ([], []), ([], []), ([8, 9], [8, 9]), ([10], [10]), ([0, 1, 0, 1, 4, 5, 6, 7, 11], [0, 1]), ([12, 7, 0, 1, 4, 5, 6, 7, 11], [7, 12]), ([2, 3, 0, 1, 2, 3, 4, 5, 6, 7, 8, 9, 10, 11, 12, 13], [2, 3]), ([14, 11, 13, 0, 1, 2, 3, 4, 5, 6, 7, 8, 9, 10, 11, 12, 13], [11, 14])])
def slices_Reverse_int_int.B3 : List Nat := [0, 0, 0, 0, 0, 0, 48, 112, 0, 0, 768, 1792, 4083, 8179, 16383, 32767]
theorem slices_Reverse_int_int.tab3 : rtab .any (opsOf Try.f129 3) = slices_Reverse_int_int.T3 := by kernel_rfl
theorem slices_Reverse_int_int.bits3 : waitsOk slices_Reverse_int_int.T3.2 slices_Reverse_int_int.B3 = true := by kernel_rfl
set_option maxHeartbeats 8000000 in
set_option maxRecDepth 100000 in
theorem slices_Reverse_int_int.calls (k : Nat) (P0_ : Nat → Prop) (u9000_ : Value) (l0 : List Int) (r : List Int) (w0 w : World) (hB : Below w0.heap.size w0 w) (ho0 : Kd.R (Kd.int .i64) 3 w w0.heap.size P0_ u9000_ l0) (h : slices_Reverse_int_int.f k l0 = some r) :
  Calls Try.prog 129 #[u9000_] w fun e w' => e = .returned (.tuple #[]) ∧ Kd.R (Kd.int .i64) 3 w' w0.heap.size (fun k_ => (P0_ k_ ∨ w.heap.size ≤ k_)) u9000_ r ∧ Below w0.heap.size w0 w' ∧ Kept w w' (fun k_ => P0_ k_) := by
 have HO0 := Az (show Kd.R (Kd.int .i64) 3 w w0.heap.size (fun k_ => (P0_ k_ ∨ w.heap.size ≤ k_)) u9000_ l0 from Kd.R_mono ho0 (fun k_ hk => (.inl hk))); have HK := Az (Kept.refl w (fun k_ => P0_ k_)); have HW0 := Az hB.size; have HB := Az hB; clear hB; have H : (slices_Reverse_int_int.l0 k l0 0 (wrap64 ((l0.length : Int) - 1))) = some r := h; clear h; have H' := Az H; clear H; obtain ⟨Ao2, co2, eo2⟩ := Kd.R_slice HO0.out; subst eo2
 go_enter Try.func129, Try.ntmps129
 go_wp2
 go_loopg [2, 3] k (fun kq v2 v3 w' => ∃ (x0_1 : List Int) (x2_1 : Int) (x3_1 : Int), v2 = .int .i64 x2_1 ∧ v3 = .int .i64 x3_1 ∧ Aside0 (slices_Reverse_int_int.l0 kq x0_1 x2_1 x3_1 = some r) ∧ Aside0 (kq ≤ k) ∧ Aside0 (Kd.R (Kd.int .i64) 3 w' w0.heap.size (fun k_ => (P0_ k_ ∨ w.heap.size ≤ k_)) (.slice Ao2 l0.length co2) x0_1) ∧ Aside0 (Kept w w' (fun k_ => P0_ k_)) ∧ Aside0 (Below w0.heap.size w0 w'))
 case atStart => exact ⟨(l0), (0), (wrap64 ((l0.length : Int) - 1)), rS, rS, H', ⟨Nat.le_refl _⟩, ⟨rU HO0.out⟩, ⟨by repeat (first | (with_reducible first | exact HK.out | apply Kept.alloc | apply Kept.drewN | apply Kept.drew) | exact HK.out)⟩, ⟨bU0 HB.out⟩⟩
 case round =>
  clear H'; (try clear c1); (try clear p2); obtain ⟨x0_1, x2_1, x3_1, rfl, rfl, HA, HK1, HO_0, HK, HB⟩ := hrel; have hl0_1 := (Kd.R_reads' HO_0.out).1; rw [hl0_1] at HO_0; (try simp only [hl0_1])
  cases gk with
  | zero => exact absurd HA.out (by simp [slices_Reverse_int_int.l0])
  | succ k1 =>
   have H := HA.out; clear HA; simp only [slices_Reverse_int_int.l0] at H
   by_cases c3 : x2_1 < x3_1
   ·
    rw [if_pos c3] at H; have c3b0 := decide_eq_true c3; clear c3
    by_cases c4 : 0 ≤ x3_1
    ·
     rw [if_pos c4] at H; have c4b0 := decide_eq_true c4; clear c4
     by_cases c5 : x3_1 < (x0_1.length : Int)
     ·
      rw [if_pos c5] at H; have c5b0 := decide_eq_true c5; (try (have c5b0hl0_1 := c5b0; rw [hl0_1] at c5b0hl0_1)); clear c5
      by_cases c6 : 0 ≤ x2_1
      ·
       rw [if_pos c6] at H; have c6b0 := decide_eq_true c6; clear c6
       by_cases c7 : x2_1 < (x0_1.length : Int)
       ·
        rw [if_pos c7] at H; have c7b0 := decide_eq_true c7; (try (have c7b0hl0_1 := c7b0; rw [hl0_1] at c7b0hl0_1)); clear c7; obtain ⟨y406, hy406⟩ : ∃ y_ : List Int, y_ = (x0_1.set (x2_1 : Int).toNat (rd x0_1 x3_1)) := ⟨_, rfl⟩; replace H : (slices_Reverse_int_int.l0 k1 (y406.set (x3_1 : Int).toNat (rd x0_1 x2_1)) (wrap64 (x2_1 + 1)) (wrap64 (x3_1 - 1))) = some r := hR hy406 H; have Ny406 := Az hy406; clear hy406; obtain ⟨y407, hy407⟩ : ∃ y_ : List Int, y_ = (y406.set (x3_1 : Int).toNat (rd x0_1 x2_1)) := ⟨_, rfl⟩; replace H : (slices_Reverse_int_int.l0 k1 y407 (wrap64 (x2_1 + 1)) (wrap64 (x3_1 - 1))) = some r := hR hy407 H; have Ny407 := Az hy407; clear hy407; have H' := Az H; clear H
        try go_wp2
        have n0 := Az (Kd.R_drew HO_0.out); have n1 := Az (Kept.drew HK.out); have n2 := Az (below_drew1 HB.out); clear HO_0 HK HB; have HO_0 := n0; have HK := n1; have HB := n2; clear n0 n1 n2; have p404 : 0 ≤ (x3_1 : Int) := oA; have q404 : x3_1 < (x0_1.length : Int) := oA; obtain ⟨ad404, e404, hx404_0⟩ := Kd.at_int (Kd.R_reads' HO_0.out).2.2 x3_1 p404 q404
        cases e404
        replace p404 := eq_true p404; replace q404 := eq_true q404; have p405 : 0 ≤ (x2_1 : Int) := oA; have q405 : x2_1 < (x0_1.length : Int) := oA; obtain ⟨ad405, e405, hx405_0⟩ := Kd.at_int (Kd.R_reads' HO_0.out).2.2 x2_1 p405 q405; obtain rfl : ad404 = ad405 := (by injection e405); replace p405 := eq_true p405; replace q405 := eq_true q405; have p8 : 0 ≤ (x2_1 : Int) := oA; have q8 : (x2_1 : Int) < ((x0_1.length : Int) : Int) := oA; obtain ⟨go8, co8, eo8, gb8, gl8, cl8, HG8⟩ := Kd.R_form HO_0.out (by omega); (first | cases eo8 | (injection eo8 with ea_ en_ ec_; (first | subst ea_ | (injection ea_ with ea_; subst ea_)); subst ec_; clear en_)); have GB8 := Az gb8; have GG8 := Az HG8; clear gb8 gl8 HG8; have HMgo8 := Az (show (P0_ go8 ∨ w.heap.size ≤ go8) from (HO_0.out.1 _ rfl)); (first | simp only [add_plain] at hx404_0 | skip); (first | simp only [add_plain] at hx405_0 | skip); obtain ⟨hx8_0, hf8_0⟩ := Kd.R_celln 0 HO_0.out (x2_1 : Int) p8 q8; replace p8 := eq_true p8; replace q8 := eq_true q8; have HP11 := Kd.R_putn HO_0.out (x2_1 : Int) (rd x0_1 x3_1); rw [← Ny406.out] at HP11; have HQ11 := Az HP11; clear HP11; have p9 : 0 ≤ (x3_1 : Int) := oA; have q9 : (x3_1 : Int) < ((x0_1.length : Int) : Int) := oA; obtain ⟨hx9_0, hf9_0⟩ := Kd.R_celln 0 HQ11.out (x3_1 : Int) p9 q9; replace p9 := eq_true p9; replace q9 := eq_true q9; have HP12 := Kd.R_putn HQ11.out (x3_1 : Int) (rd x0_1 x2_1); rw [← Ny407.out] at HP12; have HQ12 := Az HP12; clear HP12
        refine start_ (n := 16) (S := fun w' => w'.cell? ⟨go8, (x3_1).toNat, none⟩ = some (.int .i64 (rd x0_1 x3_1)) ∧ w'.cell? ⟨go8, (x2_1).toNat, none⟩ = some (.int .i64 (rd x0_1 x2_1))) (ds := [13, 15]) #[false, false, false, false, false, false, false, false, false, false, false, false, false, false, false, false] (by kernel_rfl) rfl rfl ⟨hx404_0, hx405_0⟩ (fun hHeld => ?_); refine with_tabW slices_Reverse_int_int.tab3 slices_Reverse_int_int.bits3 (fun HT_ HW_ => ?_)
        generalize wr.drew = w10 at HO_0 HK HB GG8 HQ11 HQ12 hf8_0 hf9_0 hx404_0 hx405_0 hx8_0 hx9_0 hHeld ⊢
        refine pure_ (i := 0) (N := some 14) (v := ?_) (a' := ?_) #[true, false, false, false, false, false, false, false, false, false, false, false, false, false, false, false] rfl rfl (any_of HT_.out (by kernel_rfl)) (fun _ _ _ h => h) (Or.inl ⟨by rfl, ?_⟩) ?_ ?_
        rotate_left
        ·
         intro w'
         go_simp
         with_reducible rfl
        rotate_left
        ·
         simp only [Act.put, List.setIfInBounds_toArray, List.set_cons_zero, List.set_cons_succ, i64_w, i32_w]
         rfl
        refine pure_ (i := 1) (N := some 15) (v := ?_) (a' := ?_) #[true, true, false, false, false, false, false, false, false, false, false, false, false, false, false, false] rfl rfl (any_of HT_.out (by kernel_rfl)) (fun _ _ _ h => h) (Or.inl ⟨by rfl, ?_⟩) ?_ ?_
        rotate_left
        ·
         intro w'
         go_simp
         with_reducible rfl
        rotate_left
        ·
         simp only [Act.put, List.setIfInBounds_toArray, List.set_cons_zero, List.set_cons_succ, i64_w, i32_w]
         rfl
        refine pure_ (i := 2) (N := some 16) (v := ?_) (a' := ?_) #[true, true, true, false, false, false, false, false, false, false, false, false, false, false, false, false] rfl rfl (any_of HT_.out (by kernel_rfl)) (fun _ _ _ h => h) (Or.inl ⟨by rfl, ?_⟩) ?_ ?_
        rotate_left
        ·
         intro w'
         go_simp
         with_reducible rfl
        rotate_left
        ·
         simp only [Act.put, List.setIfInBounds_toArray, List.set_cons_zero, List.set_cons_succ, i64_w, i32_w]
         rfl
        refine pure_ (i := 3) (N := some 17) (v := ?_) (a' := ?_) #[true, true, true, true, false, false, false, false, false, false, false, false, false, false, false, false] rfl rfl (any_of HT_.out (by kernel_rfl)) (fun _ _ _ h => h) (Or.inl ⟨by rfl, ?_⟩) ?_ ?_
        rotate_left
        ·
         intro w'
         go_simp
         with_reducible rfl
        rotate_left
        ·
         simp only [Act.put, List.setIfInBounds_toArray, List.set_cons_zero, List.set_cons_succ, i64_w, i32_w]
         rfl
        refine pure_ (i := 4) (N := some 18) (v := ?_) (a' := ?_) #[true, true, true, true, true, false, false, false, false, false, false, false, false, false, false, false] rfl rfl (any_of HT_.out (by kernel_rfl)) (fun _ _ _ h => h) (Or.inl ⟨by rfl, ?_⟩) ?_ ?_
        rotate_left
        ·
         intro w'
         go_simp
         with_reducible rfl
        rotate_left
        ·
         simp only [Act.put, List.setIfInBounds_toArray, List.set_cons_zero, List.set_cons_succ, i64_w, i32_w]
         rfl
        refine pure_ (i := 5) (N := some 19) (v := ?_) (a' := ?_) #[true, true, true, true, true, true, false, false, false, false, false, false, false, false, false, false] rfl rfl (any_of HT_.out (by kernel_rfl)) (fun _ _ _ h => h) (Or.inl ⟨by rfl, ?_⟩) ?_ ?_
        rotate_left
        ·
         intro w'
         go_simp
         with_reducible rfl
        rotate_left
        ·
         simp only [Act.put, List.setIfInBounds_toArray, List.set_cons_zero, List.set_cons_succ, i64_w, i32_w]
         rfl
        refine pure_ (i := 6) (N := some 20) (v := ?_) (a' := ?_) #[true, true, true, true, true, true, true, false, false, false, false, false, false, false, false, false] rfl rfl (any_of HT_.out (by kernel_rfl)) (fun _ _ _ h => h) (Or.inl ⟨by rfl, ?_⟩) ?_ ?_
        rotate_left
        ·
         intro w'
         go_simp
         with_reducible rfl
        rotate_left
        ·
         simp only [Act.put, List.setIfInBounds_toArray, List.set_cons_zero, List.set_cons_succ, i64_w, i32_w]
         rfl
        refine pure_ (i := 8) (N := some 22) (v := ?_) (a' := ?_) #[true, true, true, true, true, true, true, false, true, false, false, false, false, false, false, false] rfl rfl (any_of HT_.out (by kernel_rfl)) (fun _ _ _ h => h) (Or.inl ⟨by rfl, ?_⟩) ?_ ?_
        rotate_left
        ·
         intro w'
         go_simp
         with_reducible rfl
        rotate_left
        ·
         simp only [Act.put, List.setIfInBounds_toArray, List.set_cons_zero, List.set_cons_succ, i64_w, i32_w]
         rfl
        refine pure_ (i := 9) (N := some 23) (v := ?_) (a' := ?_) #[true, true, true, true, true, true, true, false, true, true, false, false, false, false, false, false] rfl rfl (any_of HT_.out (by kernel_rfl)) (fun _ _ _ h => h) (Or.inl ⟨by rfl, ?_⟩) ?_ ?_
        rotate_left
        ·
         intro w'
         go_simp
         with_reducible rfl
        rotate_left
        ·
         simp only [Act.put, List.setIfInBounds_toArray, List.set_cons_zero, List.set_cons_succ, i64_w, i32_w]
         rfl
        refine pure_ (i := 10) (N := some 24) (v := ?_) (a' := ?_) #[true, true, true, true, true, true, true, false, true, true, true, false, false, false, false, false] rfl rfl (any_of HT_.out (by kernel_rfl)) (fun _ _ _ h => h) (Or.inl ⟨by rfl, ?_⟩) ?_ ?_
        rotate_left
        ·
         intro w'
         go_simp
         with_reducible rfl
        rotate_left
        ·
         simp only [Act.put, List.setIfInBounds_toArray, List.set_cons_zero, List.set_cons_succ, i64_w, i32_w]
         rfl
        refine take_ (i := 7) (N := some 21) (v := ?_) (a' := ?_) #[true, true, true, true, true, true, true, true, true, true, true, false, false, false, false, false] rfl rfl (take_ofW HT_.out HW_.out (by kernel_rfl)) (fun _ _ _ h => h) (Or.inl ⟨by rfl, ?_⟩) hHeld ?_ ?_
        rotate_left
        ·
         rintro w' ⟨s0, s1⟩
         go_simp
         with_reducible rfl
        rotate_left
        ·
         simp only [Act.put, List.setIfInBounds_toArray, List.set_cons_zero, List.set_cons_succ, i64_w, i32_w]
         rfl
        refine take_ (i := 11) (N := some 25) (v := ?_) (a' := ?_) #[true, true, true, true, true, true, true, true, true, true, true, true, false, false, false, false] rfl rfl (take_ofW HT_.out HW_.out (by kernel_rfl)) (fun _ _ _ h => h) (Or.inl ⟨by rfl, ?_⟩) hHeld ?_ ?_
        rotate_left
        ·
         rintro w' ⟨s0, s1⟩
         go_simp
         with_reducible rfl
        rotate_left
        ·
         simp only [Act.put, List.setIfInBounds_toArray, List.set_cons_zero, List.set_cons_succ, i64_w, i32_w]
         rfl
        refine pure_ (i := 12) (N := some 26) (v := ?_) (a' := ?_) #[true, true, true, true, true, true, true, true, true, true, true, true, true, false, false, false] rfl rfl (any_of HT_.out (by kernel_rfl)) (fun _ _ _ h => h) (Or.inl ⟨by rfl, ?_⟩) ?_ ?_
        rotate_left
        ·
         intro w'
         go_simp
         with_reducible rfl
        rotate_left
        ·
         simp only [Act.put, List.setIfInBounds_toArray, List.set_cons_zero, List.set_cons_succ, i64_w, i32_w]
         rfl
        refine last_ (i := 13) (N := none) #[true, true, true, true, true, true, true, true, true, true, true, true, true, true, false, false] rfl rfl (one_of HT_.out (by kernel_rfl)) (by decide) (fun K hK => ?_)
        refine skip_ (w1 := ?_) (by rfl) rfl ?_ ?_
        rotate_left
        ·
         go_simp
         rfl
        refine hK.out _ _ ?_
        clear hK K
        refine pure_ (i := 14) (N := some 27) (v := ?_) (a' := ?_) #[true, true, true, true, true, true, true, true, true, true, true, true, true, true, true, false] rfl rfl (any_of HT_.out (by kernel_rfl)) (fun _ _ _ h => h) (Or.inl ⟨by rfl, ?_⟩) ?_ ?_
        rotate_left
        ·
         intro w'
         go_simp
         with_reducible rfl
        rotate_left
        ·
         simp only [Act.put, List.setIfInBounds_toArray, List.set_cons_zero, List.set_cons_succ, i64_w, i32_w]
         rfl
        refine last_ (i := 15) (N := none) #[true, true, true, true, true, true, true, true, true, true, true, true, true, true, true, true] rfl rfl (one_of HT_.out (by kernel_rfl)) (by decide) (fun K hK => ?_)
        refine skip_ (w1 := ?_) (by rfl) rfl ?_ ?_
        rotate_left
        ·
         go_simp
         rfl
        refine hK.out _ _ ?_
        clear hK K
        refine done_ (done_of HT_.out (by kernel_rfl)) ?_
        try go_wp2
        (try simp only [← hl0_1]); (first | go_roundg k1 | (refine Handed.intro k1 ?measure ?_; rotate_left; go_step; (try simp only [add_plain]); (repeat apply Exists.intro); refine ⟨?rel, rfl⟩))
        case measure => have := HK1.out; omega
        case rel => exact ⟨(y407), (wrap64 (x2_1 + 1)), (wrap64 (x3_1 - 1)), rS, rS, H', ⟨by have := HK1.out; omega⟩, ⟨by (try simp only [hl0_1]); (with_reducible repeat (first | apply Kd.R_alloc | apply Kd.R_drewN | apply Kd.R_drew)); exact HQ12.out⟩, ⟨by repeat (first | (with_reducible first | exact HK.out | apply Kept.alloc | apply Kept.drewN | apply Kept.drew | refine Kept.setCell ?_ HMgo8.out _ | refine Kept.setCell ?_ HMgo8.out _) | exact HK.out)⟩, ⟨bU2 HB.out GB8.out GB8.out⟩⟩
       ·
        rw [if_neg c7] at H
        exact absurd H (by simp)
      ·
       rw [if_neg c6] at H
       exact absurd H (by simp)
     ·
      rw [if_neg c5] at H
      exact absurd H (by simp)
    ·
     rw [if_neg c4] at H
     exact absurd H (by simp)
   ·
    rw [if_neg c3] at H; have c3b0 := decide_eq_false c3; clear c3; obtain rfl := Option.some.inj H
    go_wp2
    first | go_end0 | ((try simp only [Exit.inBlock, Exit.then]); refine bodyPost_ret (results_none rfl _ _ _) rfl ?_)
    exact ⟨rE, (by first | exact (rU HO_0.out) | (simp only [hl0_1]; exact (rU HO_0.out))), bU0 HB.out, by repeat (first | (with_reducible first | exact HK.out | apply Kept.alloc | apply Kept.drewN | apply Kept.drew) | exact HK.out)⟩
def impl_typeOf.l0 : Nat → List Int → List (List Int) → Int → Int → Option (List Int)
 | 0, _, _, _, _ => none
 | k + 1, x3, x8, x9, x10 => if x10 < x9 then (if 0 ≤ x10 then (if x10 < (x8.length : Int) then (if x3.length < 17592186044416 then (impl_typeOf.l0 k (x3 ++ [((rd_L1 x8 x10).length : Int)]) x8 x9 (wrap64 (x10 + 1))) else (none)) else (none)) else (none)) else ((slices_Sort_int_int.f x3).bind fun t418 => ((slices_Reverse_int_int.f k t418).bind fun t419 => (some t419)))
def impl_typeOf.f (k : Nat) (l0 : List Int) : Option (List Int) := (impl_cyclesOf.f k l0).bind fun t411 => (impl_typeOf.l0 k (([] : List Int)) t411 (t411.length : Int) 0)
set_option maxHeartbeats 8000000 in
set_option maxRecDepth 100000 in
theorem impl_typeOf.calls (k : Nat) (A0 : Option Addr) (c0 : Nat) (l0 : List Int) (r : List Int) (w : World) (hr0 : Kd.C (Kd.int .i64) w A0 l0.length l0) (hc0 : l0.length ≤ c0) (h : impl_typeOf.f k l0 = some r) :
  Calls Try.prog 86 #[.slice A0 l0.length c0] w fun e w' => ∃ v0_ : Value, e = .returned (v0_) ∧ Kd.R (Kd.int .i64) 3 w' w.heap.size (fun _ => True) v0_ r ∧ Below w.heap.size w w' := by
 have HR0 := Az hr0; have HC0 := Az hc0; clear hr0 hc0; have HB := Az (Below.refl w.heap.size w); have H : ((impl_cyclesOf.f k l0).bind fun t411 => (impl_typeOf.l0 k (([] : List Int)) t411 (t411.length : Int) 0)) = some r := h; clear h; obtain ⟨y408, hy408⟩ : ∃ y_ : List Int, y_ = (([] : List Int)) := ⟨_, rfl⟩; replace H : ((impl_cyclesOf.f k l0).bind fun t411 => (impl_typeOf.l0 k y408 t411 (t411.length : Int) 0)) = some r := hR hy408 H; have Ny408 := Az hy408; clear hy408; replace H := Option.bind_eq_some_iff.mp H; obtain ⟨t411, A20, H⟩ := H; replace H : (impl_typeOf.l0 k y408 t411 (t411.length : Int) 0) = some r := H; have A2 := Az A20; clear A20; have H' := Az H; clear H
 go_enter Try.func86, Try.ntmps86
 go_wp2_with (first | ((with_reducible refine gate_dst (N := 6) rfl ?_); refine Kd.R_lit (Kd.int .i64) _ 3 ?hg (N := 6) ?hd (xs := ([] : List Int)) (inner := []) (ok := fun _ => True) (okp := fun _ => True) ?hr ?hp (fun _ hk => hk) trivial (Below.refl _ _) (Nat.le_refl _) (by simp) ?_; (case hd => rfl); (case hg => rfl); (case hr => first | (go_simp; done) | (go_simp; rfl)); (case hp => exact (Reps.none _ _)); intro v409 w3 ho4 hb hg_ hnew_; clear hg_ hnew_; (first | rw [← Ny408.out] at ho4 | (simp only [Int.reduceToNat] at ho4; rw [← Ny408.out] at ho4)); have n0 := Az (Kd.R_lower ho4 (below_size (bU0 HB.out))); have n1 := Az (below_step (bU0 HB.out) hb); clear HB; have HO410 := n0; have HB := n1; clear n0 n1; clear hb ho4) | ((with_reducible refine gate_callee (f := 66) rfl ?_); refine goesL_ (some 8) rfl rfl Try.func66 (by kernel_rfl) rfl #[.slice A0 l0.length c0] rfl (by (try simp only [List.map_toArray, List.map_cons, List.map_nil]); first | done | rfl | (simp only [List.length_drop, List.length_take]; rfl)) ?_; (with_reducible refine (impl_cyclesOf.calls k _ _ l0 t411 _ ?side1 ?side2 A2.out).mono ?_); (case side1 => exact cU (Kd.C_below HR0.out HB.out)); (case side2 => exact HC0.out); rintro e w5 ⟨v412, rfl, ho0, hb⟩; refine ⟨_, rfl, ?_⟩; have n0 := Az (Kd.R_below (rU HO410.out) hb); have n1 := Az (Kd.S_lower (Kd.S_new' ho0 (Kd.R_lt (rU HO410.out))) (below_size (bU0 HB.out))); have n2 := Az (below_step (bU0 HB.out) hb); clear HO410 HB; have HO410 := n0; have HO413 := n1; have HB := n2; clear n0 n1 n2; (try clear hb); (try clear hb2); (try clear hk); (try clear hi); (try clear ho0); obtain ⟨Ao6, co6, eo6⟩ := Kd.S_slice HO413.out; subst eo6))
 go_loopg [3, 10] k (fun kq v3 v10 w' => ∃ (x3_1 : List Int) (x10_1 : Int), v10 = .int .i64 x10_1 ∧ Aside0 (impl_typeOf.l0 kq x3_1 t411 (t411.length : Int) x10_1 = some r) ∧ Aside0 (kq ≤ k) ∧ Aside0 (Kd.R (Kd.int .i64) 3 w' w.heap.size (fun _ => True) v3 x3_1) ∧ Aside0 (Kd.S (Kd.slice 3 (Kd.int .i64)) 23 w' w.heap.size (fun k_ => some k_ ≠ (v3 : Value).ownBlock) (.slice Ao6 t411.length co6) t411) ∧ Aside0 (Below w.heap.size w w'))
 case atStart => exact ⟨(y408), (0), rS, H', ⟨Nat.le_refl _⟩, ⟨rU HO410.out⟩, ⟨by (with_reducible repeat (first | apply Kd.S_alloc | apply Kd.S_drewN | apply Kd.S_drew)); exact Kd.S_mono HO413.out (fun _ hk => hk.2)⟩, ⟨bU0 HB.out⟩⟩
 case round =>
  clear H'; (try clear p2); (try clear c6); obtain ⟨x3_1, x10_1, rfl, HA, HK1, HO_3, HO_8, HB⟩ := hrel
  cases gk with
  | zero => exact absurd HA.out (by simp [impl_typeOf.l0])
  | succ k1 =>
   have H := HA.out; clear HA; simp only [impl_typeOf.l0] at H
   by_cases c7 : x10_1 < (t411.length : Int)
   ·
    rw [if_pos c7] at H; have c7b0 := decide_eq_true c7; clear c7
    by_cases c8 : 0 ≤ x10_1
    ·
     rw [if_pos c8] at H; have c8b0 := decide_eq_true c8; clear c8
     by_cases c9 : x10_1 < (t411.length : Int)
     ·
      rw [if_pos c9] at H; have c9b0 := decide_eq_true c9; clear c9
      by_cases c10 : x3_1.length < 17592186044416
      ·
       rw [if_pos c10] at H; have LMc10 := Az c10; clear c10; obtain ⟨y415, hy415⟩ : ∃ y_ : List Int, y_ = (x3_1 ++ [((rd_L1 t411 x10_1).length : Int)]) := ⟨_, rfl⟩; replace H : (impl_typeOf.l0 k1 y415 t411 (t411.length : Int) (wrap64 (x10_1 + 1))) = some r := hR hy415 H; have Ny415 := Az hy415; clear hy415; have H' := Az H; clear H; have p414 : 0 ≤ (x10_1 : Int) := oA; have q414 : x10_1 < (t411.length : Int) := oA; obtain ⟨ad414, A414_0, c414_0, e414, hx414_0, hl414_0, hi414_0⟩ := at_L1 (Kd.S_reads' HO_8.out).2.2 x10_1 p414 q414
       cases e414
       obtain ⟨ce414, hce414, hMe414, hcc414⟩ := Kd.S_get HO_8.out [] x10_1 p414 (by first | exact q414 | exact oA | (have e_ := (Kd.S_reads' HO_8.out).1; omega)); obtain ⟨ve414_0, rfl, ge414_0⟩ := hMe414; have hv414_0 := hcc414 0 _ rfl; rw [Nat.add_zero, show ((Kd.slice 3 (Kd.int .i64))).sz = 1 from rfl, Nat.mul_one] at hv414_0; replace hv414_0 := Option.some.inj (hv414_0.symm.trans hx414_0); rw [hv414_0] at ge414_0; have HL414_0 := Az (show Kd.R (Kd.int .i64) 3 _ _ _ _ (rd_L1 t411 x10_1) from ge414_0); clear hv414_0 ge414_0 hcc414 hce414; have HR414_0 := Az hi414_0; have HC414_0 := Az hl414_0; clear hi414_0 hl414_0; replace p414 := eq_true p414; replace q414 := eq_true q414
       go_wp2_with (first | ((with_reducible refine gate_builtin (b := .append) (xs := #[.tmp 14, .tmp 17]) rfl ?_); at_builtin; refine Kd.R_append (Kd.int .i64) (w0 := w) w.heap.size rfl (.tmp 14) (.tmp 17) 23 3 (.int .i64 0) 8 rfl Try.underlying23 info3 rfl (by decide) (by omega) u3 x3_1 ((rd_L1 t411 x10_1).length : Int) [.int .i64 ((rd_L1 t411 x10_1).length : Int)] (fun _ => True) (fun _ => False) rfl rfl ?aP (fun _ hk => hk.elim) ?aF ?aO ?aB ?aS ?aL ?_; (case aP => exact rfl); (case aB => exact (bU0 HB.out)); (case aF => exact (fun _ _ => trivial)); (case aO => exact (rU HO_3.out)); (case aS => exact (below_size (bU0 HB.out))); (case aL => have := LMc10.out; omega); intro v416 w11 ho hb hg hat; rw [← Ny415.out] at ho; have n0 := Az (Kd.S_after (ok := (fun _ => True)) (by (with_reducible repeat (first | apply Kd.S_alloc | apply Kd.S_drewN | apply Kd.S_drew)); exact Kd.S_mono HO_8.out (fun _ hk => ⟨trivial, hk⟩)) hg hat); have n1 := Az (Kd.R_after (ok := (fun k_ => some k_ ≠ (.slice (some ad414) t411.length co6 : Value).ownBlock)) (by (with_reducible repeat (first | apply Kd.R_alloc | apply Kd.R_drewN | apply Kd.R_drew)); exact Kd.R_mono HL414_0.out (fun _ hk => ⟨hk.2, hk.1⟩)) hg hat); have n2 := Az (hb); have n3 := Az (ho); clear HO_8 HL414_0 HB HO_3; have HO_8 := n0; have HL414_0 := n1; have HB := n2; have HO417 := n3; clear n0 n1 n2 n3; clear ho hb hg hat))
       (first | go_roundg k1 | (refine Handed.intro k1 ?measure ?_; rotate_left; go_step; (try simp only [add_plain]); (repeat apply Exists.intro); refine ⟨?rel, rfl⟩))
       case measure => have := HK1.out; omega
       case rel => exact ⟨(y415), (wrap64 (x10_1 + 1)), rS, H', ⟨by have := HK1.out; omega⟩, ⟨rU HO417.out⟩, ⟨by (with_reducible repeat (first | apply Kd.S_alloc | apply Kd.S_drewN | apply Kd.S_drew)); exact Kd.S_mono HO_8.out (fun _ hk => hk.2)⟩, ⟨bU0 HB.out⟩⟩
      ·
       rw [if_neg c10] at H
       exact absurd H (by simp)
     ·
      rw [if_neg c9] at H
      exact absurd H (by simp)
    ·
     rw [if_neg c8] at H
     exact absurd H (by simp)
   ·
    rw [if_neg c7] at H; have c7b0 := decide_eq_false c7; clear c7; replace H := Option.bind_eq_some_iff.mp H; obtain ⟨t418, A120, H⟩ := H; replace H : ((slices_Reverse_int_int.f k1 t418).bind fun t419 => (some t419)) = some r := H; have A12 := Az A120; clear A120; replace H := Option.bind_eq_some_iff.mp H; obtain ⟨t419, A130, H⟩ := H; replace H : (some t419) = some r := H; have A13 := Az A130; clear A130; obtain rfl := Option.some.inj H; obtain ⟨Ao14, co14, eo14⟩ := Kd.R_slice HO_3.out; subst eo14
    go_wp2_with (first | ((with_reducible refine gate_callee (f := 128) rfl ?_); refine goesL_ (some 21) rfl rfl Try.func128 (by kernel_rfl) rfl #[.slice Ao14 x3_1.length co14] rfl (by (try simp only [List.map_toArray, List.map_cons, List.map_nil]); first | done | rfl | (simp only [List.length_drop, List.length_take]; rfl)) ?_; (with_reducible refine (slices_Sort_int_int.calls (fun k_ => some k_ = (.slice Ao14 x3_1.length co14 : Value).ownBlock) (.slice Ao14 x3_1.length co14) x3_1 t418 w _ ?side1 ?side2 A12.out).mono ?_); (case side1 => repeat (first | (with_reducible first | exact HB.out | apply below_alloc | apply pw_below_drewN | apply below_drew1) | exact HB.out)); (case side2 => exact Kd.R_tight rfl HO_3.out); rintro e w15 ⟨rfl, hy0, hb, hkp⟩; refine ⟨_, rfl, ?_⟩; have n0 := Az (Kd.R_reok rfl hy0 (fun k_ e_ => HO_3.out.1 k_ e_)); have n1 := Az (Kd.S_mono (ok' := fun k_ => some k_ ≠ (.slice Ao14 x3_1.length co14 : Value).ownBlock) (Kd.S_keptB (HO_8.out) hkp (fun k_ hk_ hs_ => (hk_) hs_)) (fun k_ hk_ => hk_.1)); have n2 := Az (hb); clear HO_3 HO_8 HB; have HO_3 := n0; have HO_8 := n1; have HB := n2; clear n0 n1 n2; (try clear hb); (try clear hkp); (try clear hy0)) | ((with_reducible refine gate_callee (f := 129) rfl ?_); refine goesL_ (some 23) rfl rfl Try.func129 (by kernel_rfl) rfl #[.slice Ao14 x3_1.length co14] rfl (by (try simp only [List.map_toArray, List.map_cons, List.map_nil]); first | done | rfl | (simp only [List.length_drop, List.length_take]; rfl)) ?_; (with_reducible refine (slices_Reverse_int_int.calls k1 (fun k_ => some k_ = (.slice Ao14 x3_1.length co14 : Value).ownBlock) (.slice Ao14 x3_1.length co14) t418 t419 w _ ?side1 ?side2 A13.out).mono ?_); (case side1 => repeat (first | (with_reducible first | exact HB.out | apply below_alloc | apply pw_below_drewN | apply below_drew1) | exact HB.out)); (case side2 => exact Kd.R_tight rfl HO_3.out); rintro e w16 ⟨rfl, hy0, hb, hkp⟩; refine ⟨_, rfl, ?_⟩; have n0 := Az (Kd.R_reok rfl hy0 (fun k_ e_ => HO_3.out.1 k_ e_)); have n1 := Az (Kd.S_mono (ok' := fun k_ => some k_ ≠ (.slice Ao14 x3_1.length co14 : Value).ownBlock) (Kd.S_keptB (HO_8.out) hkp (fun k_ hk_ hs_ => (hk_) hs_)) (fun k_ hk_ => hk_.1)); have n2 := Az (hb); clear HO_3 HO_8 HB; have HO_3 := n0; have HO_8 := n1; have HB := n2; clear n0 n1 n2; (try clear hb); (try clear hkp); (try clear hy0)))
    go_ret
    exact ⟨_, rE, rU HO_3.out, bU0 HB.out⟩
def impl_MapDegrees.f (k : Nat) (l0_0 : List Int) (l0_1 : List Int) : Option (List Int × Bool) := (impl_MapValid.f k l0_0 l0_1).bind fun t421 => (if t421 = true then ((impl_typeOf.f k l0_0).bind fun t422 => (some (t422, true))) else (some (([] : List Int), false)))
set_option maxHeartbeats 8000000 in
set_option maxRecDepth 100000 in
theorem impl_MapDegrees.calls (k : Nat) (A0_0 : Option Addr) (c0_0 : Nat) (l0_0 : List Int) (A0_1 : Option Addr) (c0_1 : Nat) (l0_1 : List Int) (r1 : List Int) (r2 : Bool) (w : World) (hr0_0 : Kd.C (Kd.int .i64) w A0_0 l0_0.length l0_0) (hc0_0 : l0_0.length ≤ c0_0) (hr0_1 : Kd.C (Kd.int .i64) w A0_1 l0_1.length l0_1) (hc0_1 : l0_1.length ≤ c0_1) (h : impl_MapDegrees.f k l0_0 l0_1 = some (r1, r2)) :
  Calls Try.prog 34 #[.agg #[.slice A0_0 l0_0.length c0_0, .slice A0_1 l0_1.length c0_1]] w fun e w' => ∃ v0_ : Value, e = .returned (.tuple #[v0_, .bool r2]) ∧ Kd.R (Kd.int .i64) 3 w' w.heap.size (fun _ => True) v0_ r1 ∧ Below w.heap.size w w' := by
 have hu25 := Try.underlying25; have HR0_0 := Az hr0_0; have HC0_0 := Az hc0_0; clear hr0_0 hc0_0; have HR0_1 := Az hr0_1; have HC0_1 := Az hc0_1; clear hr0_1 hc0_1; have HB := Az (Below.refl w.heap.size w); have H : ((impl_MapValid.f k l0_0 l0_1).bind fun t421 => (if t421 = true then ((impl_typeOf.f k l0_0).bind fun t422 => (some (t422, true))) else (some (([] : List Int), false)))) = some (r1, r2) := h; clear h; replace H := Option.bind_eq_some_iff.mp H; obtain ⟨t421, A20, H⟩ := H; replace H : (if t421 = true then ((impl_typeOf.f k l0_0).bind fun t422 => (some (t422, true))) else (some (([] : List Int), false))) = some (r1, r2) := H; have A2 := Az A20; clear A20
 by_cases c3 : t421 = true
 ·
  subst c3
  have H1 : ((impl_typeOf.f k l0_0).bind fun t422 => (some (t422, true))) = some (r1, r2) := by rw [if_pos rfl] at H; exact H
  clear H; have H := H1; clear H1; replace H := Option.bind_eq_some_iff.mp H; obtain ⟨t422, A40, H⟩ := H; replace H : (some (t422, true)) = some (r1, r2) := H; have A4 := Az A40; clear A40; simp only [Option.some.injEq, Prod.mk.injEq] at H; obtain ⟨rfl, rfl⟩ := H
  go_enter Try.func34, Try.ntmps34
  go_wp2_with (first | ((with_reducible refine gate_dst (N := 1) rfl ?_); refine box_event ?hg (N := 1) ?hd (cs := #[.slice A0_0 l0_0.length c0_0, .slice A0_1 l0_1.length c0_1]) (t := 25) ?hr ?_; (case hd => rfl); (case hg => rfl); (case hr => first | (go_simp; done) | (go_simp; rfl)); intro gb420 hg w5 hbox hb; have n0 := Az (below_step (bU0 HB.out) hb); have n1 := Az (hbox); have n2 := Az ((by rw [hg]; exact (below_size (bU0 HB.out)) : w.heap.size ≤ gb420)); have n3 := n2; clear HB; have HB := n0; have BK420 := n1; have GW420 := n2; have GE420 := n3; clear n0 n1 n2 n3 hb hbox hg; have hcz6_0 : w5.cell? ⟨gb420, 0, none⟩ = some (.slice A0_0 l0_0.length c0_0) := (blk_cell BK420.out 0).trans rfl; have hcz6_1 : w5.cell? ⟨gb420, 1, none⟩ = some (.slice A0_1 l0_1.length c0_1) := (blk_cell BK420.out 1).trans rfl; have hfz6_0 := blk_frozen BK420.out 0; have hfz6_1 := blk_frozen BK420.out 1) | ((with_reducible refine gate_callee (f := 65) rfl ?_); refine goesL_ (some 5) rfl rfl Try.func65 (by kernel_rfl) rfl #[.agg #[.slice A0_0 l0_0.length c0_0, .slice A0_1 l0_1.length c0_1]] rfl (by (try simp only [List.map_toArray, List.map_cons, List.map_nil]); first | done | rfl | (simp only [List.length_drop, List.length_take]; rfl)) ?_; (with_reducible refine (impl_MapValid.calls k (fun k_ => k_ < w.heap.size) _ _ l0_0 (fun k_ => k_ < w.heap.size) _ _ l0_1 true _ ?side1 ?side2 A2.out).mono ?_); (case side1 => exact Kd.V_mk HC0_0.out (Kd.F_below (Kd.C_F (Kd.heap_int .i64) HR0_0.out) (bU1 HB.out GE420.out))); (case side2 => exact Kd.V_mk HC0_1.out (Kd.F_below (Kd.C_F (Kd.heap_int .i64) HR0_1.out) (bU1 HB.out GE420.out))); rintro e w7 ⟨rfl, hb⟩; refine ⟨_, rfl, ?_⟩; have n0 := Az (blk_below (g := gb420) (o := .cells #[.slice A0_0 l0_0.length c0_0, .slice A0_1 l0_1.length c0_1] 25 (0, 0)) (kU BK420.out) hb); have n1 := Az (below_step (bU1 HB.out GE420.out) hb); clear BK420 HB; have BK420 := n0; have HB := n1; clear n0 n1; (try clear hb); (try clear hb2); (try clear hk); (try clear hi); have hcz8_0 : w7.cell? ⟨gb420, 0, none⟩ = some (.slice A0_0 l0_0.length c0_0) := (blk_cell BK420.out 0).trans rfl; have hcz8_1 : w7.cell? ⟨gb420, 1, none⟩ = some (.slice A0_1 l0_1.length c0_1) := (blk_cell BK420.out 1).trans rfl; have hfz8_0 := blk_frozen BK420.out 0; have hfz8_1 := blk_frozen BK420.out 1) | ((with_reducible refine gate_callee (f := 86) rfl ?_); refine goesL_ (some 9) rfl rfl Try.func86 (by kernel_rfl) rfl #[.slice A0_0 l0_0.length c0_0] rfl (by (try simp only [List.map_toArray, List.map_cons, List.map_nil]); first | done | rfl | (simp only [List.length_drop, List.length_take]; rfl)) ?_; (with_reducible refine (impl_typeOf.calls k _ _ l0_0 t422 _ ?side1 ?side2 A4.out).mono ?_); (case side1 => exact cU (Kd.C_below HR0_0.out HB.out)); (case side2 => exact HC0_0.out); rintro e w9 ⟨v423, rfl, ho0, hb⟩; refine ⟨_, rfl, ?_⟩; have n0 := Az (Kd.R_lower ho0 (below_size (bU1 HB.out GE420.out))); have n1 := Az (blk_below (g := gb420) (o := .cells #[.slice A0_0 l0_0.length c0_0, .slice A0_1 l0_1.length c0_1] 25 (0, 0)) (kU BK420.out) hb); have n2 := Az (below_step (bU1 HB.out GE420.out) hb); clear BK420 HB; have HO424 := n0; have BK420 := n1; have HB := n2; clear n0 n1 n2; (try clear hb); (try clear hb2); (try clear hk); (try clear hi); (try clear ho0)))
  go_ret2
  exact ⟨_, rE, rU HO424.out, bU1 HB.out GE420.out⟩
 ·
  replace c3 := Bool.eq_false_iff.mpr c3; subst c3
  have H1 : (some (([] : List Int), false)) = some (r1, r2) := by rw [if_neg (show ¬ (false = true) by decide)] at H; exact H
  clear H; have H := H1; clear H1; simp only [Option.some.injEq, Prod.mk.injEq] at H; obtain ⟨rfl, rfl⟩ := H
  go_enter Try.func34, Try.ntmps34
  go_wp2_with (first | ((with_reducible refine gate_dst (N := 1) rfl ?_); refine box_event ?hg (N := 1) ?hd (cs := #[.slice A0_0 l0_0.length c0_0, .slice A0_1 l0_1.length c0_1]) (t := 25) ?hr ?_; (case hd => rfl); (case hg => rfl); (case hr => first | (go_simp; done) | (go_simp; rfl)); intro gb420 hg w10 hbox hb; have n0 := Az (below_step (bU0 HB.out) hb); have n1 := Az (hbox); have n2 := Az ((by rw [hg]; exact (below_size (bU0 HB.out)) : w.heap.size ≤ gb420)); have n3 := n2; clear HB; have HB := n0; have BK420 := n1; have GW420 := n2; have GE420 := n3; clear n0 n1 n2 n3 hb hbox hg; have hcz11_0 : w10.cell? ⟨gb420, 0, none⟩ = some (.slice A0_0 l0_0.length c0_0) := (blk_cell BK420.out 0).trans rfl; have hcz11_1 : w10.cell? ⟨gb420, 1, none⟩ = some (.slice A0_1 l0_1.length c0_1) := (blk_cell BK420.out 1).trans rfl; have hfz11_0 := blk_frozen BK420.out 0; have hfz11_1 := blk_frozen BK420.out 1) | ((with_reducible refine gate_callee (f := 65) rfl ?_); refine goesL_ (some 5) rfl rfl Try.func65 (by kernel_rfl) rfl #[.agg #[.slice A0_0 l0_0.length c0_0, .slice A0_1 l0_1.length c0_1]] rfl (by (try simp only [List.map_toArray, List.map_cons, List.map_nil]); first | done | rfl | (simp only [List.length_drop, List.length_take]; rfl)) ?_; (with_reducible refine (impl_MapValid.calls k (fun k_ => k_ < w.heap.size) _ _ l0_0 (fun k_ => k_ < w.heap.size) _ _ l0_1 false _ ?side1 ?side2 A2.out).mono ?_); (case side1 => exact Kd.V_mk HC0_0.out (Kd.F_below (Kd.C_F (Kd.heap_int .i64) HR0_0.out) (bU1 HB.out GE420.out))); (case side2 => exact Kd.V_mk HC0_1.out (Kd.F_below (Kd.C_F (Kd.heap_int .i64) HR0_1.out) (bU1 HB.out GE420.out))); rintro e w12 ⟨rfl, hb⟩; refine ⟨_, rfl, ?_⟩; have n0 := Az (blk_below (g := gb420) (o := .cells #[.slice A0_0 l0_0.length c0_0, .slice A0_1 l0_1.length c0_1] 25 (0, 0)) (kU BK420.out) hb); have n1 := Az (below_step (bU1 HB.out GE420.out) hb); clear BK420 HB; have BK420 := n0; have HB := n1; clear n0 n1; (try clear hb); (try clear hb2); (try clear hk); (try clear hi)))
  go_ret2
  exact ⟨_, rE, by first | exact Kd.R_nil _ _ _ _ _ | exact Kd.N_nil _ _ _ _ _ | exact Kd.V_nil _ _ _ _ _ | exact Kd.Q_nil _ _ _ _ _ | exact Kd.S_nil _ _ _ _ _, bU1 HB.out GE420.out⟩
mutual
def spec_l1Cycles.l0 : Nat → List Int → List (List Int) → List Bool → Int → Option ((List (List Int)))
 | 0, _, _, _, _ => none
 | k + 1, x0, x3, x4, x5 => if x5 < (x0.length : Int) then (if 0 ≤ x5 then (if x5 < (x4.length : Int) then (if rdOf false x4 x5 = true then (spec_l1Cycles.l0 k x0 x3 x4 (wrap64 (x5 + 1))) else (spec_l1Cycles.l1 k x0 x3 x4 x5 (([] : List Int)) x5)) else (none)) else (none)) else (some x3)
def spec_l1Cycles.l1 : Nat → List Int → List (List Int) → List Bool → Int → List Int → Int → Option ((List (List Int)))
 | 0, _, _, _, _, _, _ => none
 | k + 1, x0, x3, x4, x5, x6, x7 => if 0 ≤ x7 then (if x7 < (x4.length : Int) then (if rdOf false x4 x7 = true then (if x3.length < 5864062014805 then (spec_l1Cycles.l0 k x0 (x3 ++ [x6]) x4 (wrap64 (x5 + 1))) else (none)) else (if x6.length < 17592186044416 then (if x7 < (x0.length : Int) then (spec_l1Cycles.l1 k x0 x3 (x4.set (x7 : Int).toNat true) x5 (x6 ++ [x7]) (rd x0 x7)) else (none)) else (none))) else (none)) else (none)
end
def spec_l1Cycles.f (k : Nat) (l0 : List Int) : Option ((List (List Int))) := if 0 ≤ (l0.length : Int) then (if ((l0.length : Int) : Int).toNat ≤ 281474976710656 then (spec_l1Cycles.l0 k l0 (([] : List (List Int))) (List.replicate ((l0.length : Int) : Int).toNat false) 0) else (none)) else (none)
set_option maxHeartbeats 8000000 in
set_option maxRecDepth 100000 in
theorem spec_l1Cycles.calls (k : Nat) (A0 : Option Addr) (c0 : Nat) (l0 : List Int) (r : List (List Int)) (w : World) (hr0 : Kd.C (Kd.int .i64) w A0 l0.length l0) (hc0 : l0.length ≤ c0) (h : spec_l1Cycles.f k l0 = some r) :
  Calls Try.prog 133 #[.slice A0 l0.length c0] w fun e w' => ∃ v0_ : Value, e = .returned (v0_) ∧ Kd.S (Kd.slice 3 (Kd.int .i64)) 23 w' w.heap.size (fun _ => True) v0_ r ∧ Below w.heap.size w w' := by
 have HR0 := Az hr0; have HC0 := Az hc0; clear hr0 hc0; have HB := Az (Below.refl w.heap.size w); have H : (if 0 ≤ (l0.length : Int) then (if ((l0.length : Int) : Int).toNat ≤ 281474976710656 then (spec_l1Cycles.l0 k l0 (([] : List (List Int))) (List.replicate ((l0.length : Int) : Int).toNat false) 0) else (none)) else (none)) = some r := h; clear h; obtain ⟨y425, hy425⟩ : ∃ y_ : List (List Int), y_ = (([] : List (List Int))) := ⟨_, rfl⟩; replace H : (if 0 ≤ (l0.length : Int) then (if ((l0.length : Int) : Int).toNat ≤ 281474976710656 then (spec_l1Cycles.l0 k l0 y425 (List.replicate ((l0.length : Int) : Int).toNat false) 0) else (none)) else (none)) = some r := hR hy425 H; have Ny425 := Az hy425; clear hy425
 by_cases c2 : 0 ≤ (l0.length : Int)
 ·
  rw [if_pos c2] at H; have c2b0 := eq_true c2; have c2b1 := decide_eq_true c2; clear c2
  by_cases c3 : ((l0.length : Int) : Int).toNat ≤ 281474976710656
  ·
   rw [if_pos c3] at H; have c3b0 := eq_true c3; have c3b1 := decide_eq_true c3; clear c3; obtain ⟨y428, hy428⟩ : ∃ y_ : List Bool, y_ = (List.replicate ((l0.length : Int) : Int).toNat false) := ⟨_, rfl⟩; replace H : (spec_l1Cycles.l0 k l0 y425 y428 0) = some r := hR hy428 H; have Ny428 := Az hy428; clear hy428; have H' := Az H; clear H
   go_enter Try.func133, Try.ntmps133
   go_wp2_with (first | ((with_reducible refine gate_dst (N := 8) rfl ?_); refine Kd.S_lit (Kd.slice 3 (Kd.int .i64)) _ 23 ?hg (N := 8) ?hd (xs := ([] : List (List Int))) (inner := []) (ok := fun _ => True) (okp := fun _ => True) ?hr ?hp (fun _ hk => hk) trivial (Below.refl _ _) (Nat.le_refl _) (by simp) ?_; (case hd => rfl); (case hg => rfl); (case hr => first | (go_simp; done) | (go_simp; rfl)); (case hp => exact (Reps.none _ _)); intro v426 w4 ho5 hb hg_ hnew_; clear hg_ hnew_; (first | rw [← Ny425.out] at ho5 | (simp only [Int.reduceToNat] at ho5; rw [← Ny425.out] at ho5)); have n0 := Az (Kd.S_lower ho5 (below_size (bU0 HB.out))); have n1 := Az (below_step (bU0 HB.out) hb); clear HB; have HO427 := n0; have HB := n1; clear n0 n1; clear hb ho5) | ((with_reducible refine gate_dst (N := 11) rfl ?_); refine Kd.R_make Kd.bool _ 4 rfl (N := 11) rfl 92 _ _ rfl (l0.length : Int) rfl rfl Try.underlying92 (.bool false) 1 info4 rfl (by decide) (by omega) false (ok := fun _ => True) (okp := fun _ => True) rfl (fun _ hk => hk) trivial (oA) (Nat.le_trans (Nat.mul_le_mul_right _ (oA : (l0.length : Int).toNat ≤ 281474976710656)) (by omega)) (Below.refl _ _) (Nat.le_refl _) ?_; intro v429 w6 ho7 hb hg_ hnew_; clear hg_ hnew_; (first | rw [← Ny428.out] at ho7 | (simp only [Int.reduceToNat] at ho7; rw [← Ny428.out] at ho7)); have n0 := Az (Kd.S_below (sU HO427.out) hb); have n1 := Az (Kd.R_lower ho7 (below_size (bU0 HB.out))); have n2 := Az (below_step (bU0 HB.out) hb); clear HO427 HB; have HO427 := n0; have HO430 := n1; have HB := n2; clear n0 n1 n2; clear hb ho7))
   go_loopg [3, 5] k (fun kq v3 v5 w' => ∃ (x3_1 : List (List Int)) (x4_1 : List Bool) (x5_1 : Int), v5 = .int .i64 x5_1 ∧ Aside0 (spec_l1Cycles.l0 kq l0 x3_1 x4_1 x5_1 = some r) ∧ Aside0 (kq ≤ k) ∧ Aside0 (Kd.S (Kd.slice 3 (Kd.int .i64)) 23 w' w.heap.size (fun _ => True) v3 x3_1) ∧ Aside0 (Kd.R Kd.bool 4 w' w.heap.size (fun _ => True) v429 x4_1) ∧ Aside0 (Below w.heap.size w w'))
   case atStart => exact ⟨(y425), (y428), (0), rS, H', ⟨Nat.le_refl _⟩, ⟨sU HO427.out⟩, ⟨rU HO430.out⟩, ⟨bU0 HB.out⟩⟩
   case round =>
    clear H'; (try clear c1); (try clear c2); (try clear c2b0); (try clear c2b1); (try clear p2); (try clear c3); (try clear c3b0); (try clear c3b1); obtain ⟨x3_1, x4_1, x5_1, rfl, HA, HK1, HO_3, HO_4, HB⟩ := hrel
    cases gk with
    | zero => exact absurd HA.out (by simp [spec_l1Cycles.l0])
    | succ k1 =>
     have H := HA.out; clear HA; simp only [spec_l1Cycles.l0] at H
     by_cases c8 : x5_1 < (l0.length : Int)
     ·
      rw [if_pos c8] at H; have c8b0 := decide_eq_true c8; clear c8
      by_cases c9 : 0 ≤ x5_1
      ·
       rw [if_pos c9] at H; have c9b0 := decide_eq_true c9; clear c9
       by_cases c10 : x5_1 < (x4_1.length : Int)
       ·
        rw [if_pos c10] at H; have c10b0 := decide_eq_true c10; clear c10; obtain ⟨bq11, hbq11⟩ : ∃ b_ : Bool, b_ = (rdOf false x4_1 x5_1) := ⟨_, rfl⟩
        replace H : (if bq11 = true then (spec_l1Cycles.l0 k1 l0 x3_1 x4_1 (wrap64 (x5_1 + 1))) else (spec_l1Cycles.l1 k1 l0 x3_1 x4_1 x5_1 (([] : List Int)) x5_1)) = some r := by rw [← hbq11] at H; exact H
        have Nbq11 := Az hbq11; clear hbq11
        by_cases c12 : bq11 = true
        ·
         subst c12
         have H1 : (spec_l1Cycles.l0 k1 l0 x3_1 x4_1 (wrap64 (x5_1 + 1))) = some r := by rw [if_pos rfl] at H; exact H
         clear H; have H := H1; clear H1; have H' := Az H; clear H; obtain ⟨Ao13, co13, eo13⟩ := Kd.R_slice HO_4.out; subst eo13; have p431 : 0 ≤ (x5_1 : Int) := oA; have q431 : x5_1 < (x4_1.length : Int) := oA; obtain ⟨ad431, e431, hx431_0⟩ := Kd.at_bool (Kd.R_reads' HO_4.out).2.2 x5_1 p431 q431; (try rw [← Nbq11.out] at hx431_0)
         cases e431
         replace p431 := eq_true p431; replace q431 := eq_true q431
         go_wp2
         (first | go_roundg k1 | (refine Handed.intro k1 ?measure ?_; rotate_left; go_step; (try simp only [add_plain]); (repeat apply Exists.intro); refine ⟨?rel, rfl⟩))
         case measure => have := HK1.out; omega
         case rel => exact ⟨(x3_1), (x4_1), (wrap64 (x5_1 + 1)), rS, H', ⟨by have := HK1.out; omega⟩, ⟨sU HO_3.out⟩, ⟨rU HO_4.out⟩, ⟨bU0 HB.out⟩⟩
        ·
         replace c12 := Bool.eq_false_iff.mpr c12; subst c12
         have H1 : (spec_l1Cycles.l1 k1 l0 x3_1 x4_1 x5_1 (([] : List Int)) x5_1) = some r := by rw [if_neg (show ¬ (false = true) by decide)] at H; exact H
         clear H; have H := H1; clear H1; obtain ⟨y432, hy432⟩ : ∃ y_ : List Int, y_ = (([] : List Int)) := ⟨_, rfl⟩; replace H : (spec_l1Cycles.l1 k1 l0 x3_1 x4_1 x5_1 y432 x5_1) = some r := hR hy432 H; have Ny432 := Az hy432; clear hy432; have H' := Az H; clear H; obtain ⟨Ao14, co14, eo14⟩ := Kd.R_slice HO_4.out; subst eo14; have p431 : 0 ≤ (x5_1 : Int) := oA; have q431 : x5_1 < (x4_1.length : Int) := oA; obtain ⟨ad431, e431, hx431_0⟩ := Kd.at_bool (Kd.R_reads' HO_4.out).2.2 x5_1 p431 q431; (try rw [← Nbq11.out] at hx431_0)
         cases e431
         replace p431 := eq_true p431; replace q431 := eq_true q431
         go_wp2_with (first | ((with_reducible refine gate_dst (N := 22) rfl ?_); refine Kd.R_lit (Kd.int .i64) _ 3 ?hg (N := 22) ?hd (xs := ([] : List Int)) (inner := []) (ok := fun _ => True) (okp := fun _ => True) ?hr ?hp (fun _ hk => hk) trivial (Below.refl _ _) (Nat.le_refl _) (by simp) ?_; (case hd => rfl); (case hg => rfl); (case hr => first | (go_simp; done) | (go_simp; rfl)); (case hp => exact (Reps.none _ _)); intro v433 w15 ho16 hb hg_ hnew_; clear hg_ hnew_; (first | rw [← Ny432.out] at ho16 | (simp only [Int.reduceToNat] at ho16; rw [← Ny432.out] at ho16)); have n0 := Az (Kd.S_elder' (sU HO_3.out) (Kd.R_base ho16) hb); have n1 := Az (Kd.R_below (rU HO_4.out) hb); have n2 := Az (Kd.R_lower ho16 (below_size (bU0 HB.out))); have n3 := Az (below_step (bU0 HB.out) hb); clear HO_3 HO_4 HB; have HO_3 := n0; have HO_4 := n1; have HO434 := n2; have HB := n3; clear n0 n1 n2 n3; clear hb ho16))
         go_loopg [6, 7] k1 (fun kq v6 v7 w' => ∃ (x4_2 : List Bool) (x6_2 : List Int) (x7_2 : Int), v7 = .int .i64 x7_2 ∧ Aside0 (spec_l1Cycles.l1 kq l0 x3_1 x4_2 x5_1 x6_2 x7_2 = some r) ∧ Aside0 (kq ≤ k1) ∧ Aside0 (Kd.S (Kd.slice 3 (Kd.int .i64)) 23 w' w.heap.size (fun k_ => some k_ ≠ (v6 : Value).ownBlock) u3 x3_1) ∧ Aside0 (Kd.R Kd.bool 4 w' w.heap.size (fun _ => True) (.slice (some ad431) x4_1.length co14) x4_2) ∧ Aside0 (Kd.R (Kd.int .i64) 3 w' w.heap.size (fun _ => True) v6 x6_2) ∧ Aside0 (Below w.heap.size w w'))
         case atStart => exact ⟨(x4_1), (y432), (x5_1), rS, H', ⟨Nat.le_refl _⟩, ⟨by (with_reducible repeat (first | apply Kd.S_alloc | apply Kd.S_drewN | apply Kd.S_drew)); exact Kd.S_mono HO_3.out (fun _ hk => hk.2)⟩, ⟨rU HO_4.out⟩, ⟨rU HO434.out⟩, ⟨bU0 HB.out⟩⟩
         case round =>
          clear H'; (try clear c1); (try clear q1); (try clear c2); (try clear c2b0); (try clear c2b1); (try clear p2); (try clear c3); (try clear c3b0); (try clear c3b1); (try clear p4); (try clear q4); (try clear hx4); (try clear p6); (try clear c8); (try clear c8b0); (try clear c9); (try clear c9b0); (try clear c10); (try clear c10b0); (try clear q11); (try clear c12); (try clear c13); (try clear hx431_0); (try clear p2); (try clear p431); (try clear q431); obtain ⟨x4_2, x6_2, x7_2, rfl, HA, HK2, HO_3, HO_4, HO_6, HB⟩ := hrel; have hl4_2 := (Kd.R_reads' HO_4.out).1; rw [hl4_2] at HO_4; (try simp only [hl4_2]); (try simp only [hl4_2] at HO_3); (try simp only [hl4_2] at HO_6)
          cases gk with
          | zero => exact absurd HA.out (by simp [spec_l1Cycles.l1])
          | succ k2 =>
           have H := HA.out; clear HA; simp only [spec_l1Cycles.l1] at H
           by_cases c17 : 0 ≤ x7_2
           ·
            rw [if_pos c17] at H; have c17b0 := decide_eq_true c17; clear c17
            by_cases c18 : x7_2 < (x4_2.length : Int)
            ·
             rw [if_pos c18] at H; have c18b0 := decide_eq_true c18; (try (have c18b0hl4_2 := c18b0; rw [hl4_2] at c18b0hl4_2)); clear c18; obtain ⟨bq19, hbq19⟩ : ∃ b_ : Bool, b_ = (rdOf false x4_2 x7_2) := ⟨_, rfl⟩
             replace H : (if bq19 = true then (if x3_1.length < 5864062014805 then (spec_l1Cycles.l0 k2 l0 (x3_1 ++ [x6_2]) x4_2 (wrap64 (x5_1 + 1))) else (none)) else (if x6_2.length < 17592186044416 then (if x7_2 < (l0.length : Int) then (spec_l1Cycles.l1 k2 l0 x3_1 (x4_2.set (x7_2 : Int).toNat true) x5_1 (x6_2 ++ [x7_2]) (rd l0 x7_2)) else (none)) else (none))) = some r := by rw [← hbq19] at H; exact H
             have Nbq19 := Az hbq19; clear hbq19
             by_cases c20 : bq19 = true
             ·
              subst c20
              have H1 : (if x3_1.length < 5864062014805 then (spec_l1Cycles.l0 k2 l0 (x3_1 ++ [x6_2]) x4_2 (wrap64 (x5_1 + 1))) else (none)) = some r := by rw [if_pos rfl] at H; exact H
              clear H; have H := H1; clear H1
              by_cases c21 : x3_1.length < 5864062014805
              ·
               rw [if_pos c21] at H; have LMc21 := Az c21; clear c21; obtain ⟨y436, hy436⟩ : ∃ y_ : List (List Int), y_ = (x3_1 ++ [x6_2]) := ⟨_, rfl⟩; replace H : (spec_l1Cycles.l0 k2 l0 y436 x4_2 (wrap64 (x5_1 + 1))) = some r := hR hy436 H; have Ny436 := Az hy436; clear hy436; have H' := Az H; clear H; have p435 : 0 ≤ (x7_2 : Int) := oA; have q435 : x7_2 < (x4_2.length : Int) := oA; obtain ⟨ad435, e435, hx435_0⟩ := Kd.at_bool (Kd.R_reads' HO_4.out).2.2 x7_2 p435 q435; (try rw [← Nbq11.out] at hx435_0); (try rw [← Nbq19.out] at hx435_0); obtain rfl : ad431 = ad435 := (by injection e435); replace p435 := eq_true p435; replace q435 := eq_true q435; obtain ⟨Ao23, co23, eo23⟩ := Kd.R_slice HO_6.out; subst eo23
               go_wp2_with (first | ((with_reducible refine gate_builtin (b := .append) (xs := #[.tmp 40, .tmp 42]) rfl ?_); at_builtin; refine Kd.S_append (Kd.slice 3 (Kd.int .i64)) (w0 := w) w.heap.size rfl (.tmp 40) (.tmp 42) 45 23 (.slice none 0 0) 24 rfl Try.underlying45 info23 rfl (by decide) (by omega) u3 x3_1 x6_2 [.slice Ao23 x6_2.length co23] (fun _ => True) (fun k_ => some k_ = (.slice Ao23 x6_2.length co23 : Value).ownBlock) rfl rfl ?aP (fun k_ hk_ => ((Kd.R_mono (ok' := fun k_ => ((fun _ => True)) k_ ∧ some k_ ≠ (u3 : Value).ownBlock) (Kd.R_apart' (HO_6.out) (Kd.S_typed HO_3.out) (by decide)) (fun k_ hk => ⟨trivial, hk.2⟩))).1 k_ hk_.symm) ?aF ?aO ?aB ?aS ?aL ?_; (case aP => exact Kd.M_row (Kd.R_mono (Kd.R_tight rfl (Kd.R_mono (ok' := fun k_ => ((fun _ => True)) k_ ∧ some k_ ≠ (u3 : Value).ownBlock) (Kd.R_apart' (HO_6.out) (Kd.S_typed HO_3.out) (by decide)) (fun k_ hk => ⟨trivial, hk.2⟩))) (fun _ h_ => h_))); (case aB => exact (bU0 HB.out)); (case aF => exact (fun _ _ => trivial)); (case aO => exact (by (with_reducible repeat (first | apply Kd.S_alloc | apply Kd.S_drewN | apply Kd.S_drew)); exact Kd.S_mono HO_3.out (fun k_ hk => ⟨trivial, fun e_ => hk e_⟩))); (case aS => exact (below_size (bU0 HB.out))); (case aL => have := LMc21.out; omega); intro v437 w22 ho hb hg hat; rw [← Ny436.out] at ho; have n0 := Az (Kd.R_over' (rU HO_4.out) (Kd.S_typed (sU HO_3.out)) (by decide) hg); have n1 := Az (hb); have n2 := Az (ho); clear HO_4 HB HO_3 HO_6; have HO_4 := n0; have HB := n1; have HO438 := n2; clear n0 n1 n2; clear ho hb hg hat))
               (try simp only [← hl4_2]); (first | go_roundg k2 | (refine Handed.intro k2 ?measure ?_; rotate_left; go_step; (try simp only [add_plain]); (repeat apply Exists.intro); refine ⟨?rel, rfl⟩))
               case measure => have := HK1.out; have := HK2.out; omega
               case rel => exact ⟨(y436), (x4_2), (wrap64 (x5_1 + 1)), rS, H', ⟨by have := HK1.out; have := HK2.out; omega⟩, ⟨by (try simp only [hl4_2]); (with_reducible repeat (first | apply Kd.S_alloc | apply Kd.S_drewN | apply Kd.S_drew)); exact HO438.out⟩, ⟨by (try simp only [hl4_2]); (with_reducible repeat (first | apply Kd.R_alloc | apply Kd.R_drewN | apply Kd.R_drew)); exact HO_4.out⟩, ⟨bU0 HB.out⟩⟩
              ·
               rw [if_neg c21] at H
               exact absurd H (by simp)
             ·
              replace c20 := Bool.eq_false_iff.mpr c20; subst c20
              have H1 : (if x6_2.length < 17592186044416 then (if x7_2 < (l0.length : Int) then (spec_l1Cycles.l1 k2 l0 x3_1 (x4_2.set (x7_2 : Int).toNat true) x5_1 (x6_2 ++ [x7_2]) (rd l0 x7_2)) else (none)) else (none)) = some r := by rw [if_neg (show ¬ (false = true) by decide)] at H; exact H
              clear H; have H := H1; clear H1; obtain ⟨y439, hy439⟩ : ∃ y_ : List Bool, y_ = (x4_2.set (x7_2 : Int).toNat true) := ⟨_, rfl⟩; replace H : (if x6_2.length < 17592186044416 then (if x7_2 < (l0.length : Int) then (spec_l1Cycles.l1 k2 l0 x3_1 y439 x5_1 (x6_2 ++ [x7_2]) (rd l0 x7_2)) else (none)) else (none)) = some r := hR hy439 H; have Ny439 := Az hy439; clear hy439
              by_cases c25 : x6_2.length < 17592186044416
              ·
               rw [if_pos c25] at H; have LMc25 := Az c25; clear c25; obtain ⟨y440, hy440⟩ : ∃ y_ : List Int, y_ = (x6_2 ++ [x7_2]) := ⟨_, rfl⟩; replace H : (if x7_2 < (l0.length : Int) then (spec_l1Cycles.l1 k2 l0 x3_1 y439 x5_1 y440 (rd l0 x7_2)) else (none)) = some r := hR hy440 H; have Ny440 := Az hy440; clear hy440
               by_cases c26 : x7_2 < (l0.length : Int)
               ·
                rw [if_pos c26] at H; have c26b0 := decide_eq_true c26; (try (have c26b0hl4_2 := c26b0; rw [hl4_2] at c26b0hl4_2)); clear c26; have H' := Az H; clear H; have p435 : 0 ≤ (x7_2 : Int) := oA; have q435 : x7_2 < (x4_2.length : Int) := oA; obtain ⟨ad435, e435, hx435_0⟩ := Kd.at_bool (Kd.R_reads' HO_4.out).2.2 x7_2 p435 q435; (try rw [← Nbq11.out] at hx435_0); (try rw [← Nbq19.out] at hx435_0); obtain rfl : ad431 = ad435 := (by injection e435); replace p435 := eq_true p435; replace q435 := eq_true q435; have p24 : 0 ≤ (x7_2 : Int) := oA; have q24 : (x7_2 : Int) < ((x4_2.length : Int) : Int) := oA; obtain ⟨go24, co24, eo24, gb24, gl24, cl24, HG24⟩ := Kd.R_form HO_4.out (by omega); (first | cases eo24 | (injection eo24 with ea_ en_ ec_; (first | subst ea_ | (injection ea_ with ea_; subst ea_)); subst ec_; clear en_)); have GB24 := Az gb24; have GG24 := Az HG24; clear gb24 gl24 HG24; (first | simp only [add_plain] at hx431_0 | skip); (first | simp only [add_plain] at hx435_0 | skip); obtain ⟨hx24_0, hf24_0⟩ := Kd.R_celln false HO_4.out (x7_2 : Int) p24 q24; replace p24 := eq_true p24; replace q24 := eq_true q24; obtain ⟨hy27_, hz27_⟩ := Kd.R_celln false HO_4.out (x7_2 : Int) (oA) (oA); have HP27 := Kd.R_putg HO_4.out (x7_2 : Int) true
                go_wp2_with (first | ((with_reducible refine gate_store (t := 4) (p := 35) rfl ?_); refine store_event (t := 4) (p := 35) (v := ?vo_w28) (w1 := (wr.setCell ⟨go24, (x7_2 : Int).toNat, none⟩ (.bool true))) ?hg ?ho ?hn ?hr ?_; (case ho => rfl); (case hg => rfl); (case hn => rfl); (case hr => first | (go_simp; done) | (go_simp; rfl)); intro w28 hw; have hg : wr.grownBy w28 (some go24) := (by rw [hw]; exact HP27.2); have hp_ : Kd.R Kd.bool 4 w28 w.heap.size (fun _ => True) (.slice (some ⟨go24, 0, none⟩) x4_2.length co14) y439 := (by rw [hw, Ny439.out]; exact HP27.1); clear HP27; have n0 := Az (Kd.S_over' (v := (.slice (some ⟨go24, 0, none⟩) x4_2.length co14)) (sU HO_3.out) (Kd.R_typed HO_4.out) (by decide) hg); have n1 := Az (hp_); have n2 := Az (Kd.R_over' (v := (.slice (some ⟨go24, 0, none⟩) x4_2.length co14)) (rU HO_6.out) (Kd.R_typed HO_4.out) (by decide) hg); have n3 := Az ((by rw [hw]; exact below_set (HB.out) GB24.out : Below w.heap.size w w28)); clear HO_3 HO_4 HO_6 HB; have HO_3 := n0; have HO_4 := n1; have HO_6 := n2; have HB := n3; clear n0 n1 n2 n3; clear hg hw hp_) | ((with_reducible refine gate_builtin (b := .append) (xs := #[.tmp 36, .tmp 38]) rfl ?_); at_builtin; refine Kd.R_append (Kd.int .i64) (w0 := w) w.heap.size rfl (.tmp 36) (.tmp 38) 23 3 (.int .i64 0) 8 rfl Try.underlying23 info3 rfl (by decide) (by omega) u6 x6_2 x7_2 [.int .i64 x7_2] (fun _ => True) (fun _ => False) rfl rfl ?aP (fun _ hk => hk.elim) ?aF ?aO ?aB ?aS ?aL ?_; (case aP => exact rfl); (case aB => exact (bU0 HB.out)); (case aF => exact (fun _ _ => trivial)); (case aO => exact (rU HO_6.out)); (case aS => exact (below_size (bU0 HB.out))); (case aL => have := LMc25.out; omega); intro v441 w29 ho hb hg hat; rw [← Ny440.out] at ho; have n0 := Az (Kd.S_after (ok := (fun _ => True)) (by (with_reducible repeat (first | apply Kd.S_alloc | apply Kd.S_drewN | apply Kd.S_drew)); exact Kd.S_mono HO_3.out (fun _ hk => ⟨trivial, hk⟩)) hg hat); have n1 := Az (Kd.R_over' (rU HO_4.out) (Kd.R_typed (rU HO_6.out)) (by decide) hg); have n2 := Az (hb); have n3 := Az (ho); clear HO_3 HO_4 HB HO_6; have HO_3 := n0; have HO_4 := n1; have HB := n2; have HO442 := n3; clear n0 n1 n2 n3 ho hb hg hat; have p443 : 0 ≤ (x7_2 : Int) := oA; have q443 : x7_2 < (l0.length : Int) := oA; obtain ⟨ad443, e443, hx443_0⟩ := Kd.at_int HR0.out x7_2 p443 q443; cases e443; replace hx443_0 := (HB.out.cell (World.block_lt_of_cell? w _ hx443_0)).trans hx443_0; replace p443 := eq_true p443; replace q443 := eq_true q443))
                (try simp only [← hl4_2]); (first | go_roundg k2 | (refine Handed.intro k2 ?measure ?_; rotate_left; go_step; (try simp only [add_plain]); (repeat apply Exists.intro); refine ⟨?rel, rfl⟩))
                case measure => have := HK1.out; have := HK2.out; omega
                case rel => exact ⟨(y439), (y440), (rd l0 x7_2), rS, H', ⟨by have := HK1.out; have := HK2.out; omega⟩, ⟨by (try simp only [hl4_2]); (with_reducible repeat (first | apply Kd.S_alloc | apply Kd.S_drewN | apply Kd.S_drew)); exact Kd.S_mono HO_3.out (fun _ hk => hk.2)⟩, ⟨by (try simp only [hl4_2]); (with_reducible repeat (first | apply Kd.R_alloc | apply Kd.R_drewN | apply Kd.R_drew)); exact HO_4.out⟩, ⟨by (try simp only [hl4_2]); (with_reducible repeat (first | apply Kd.R_alloc | apply Kd.R_drewN | apply Kd.R_drew)); exact HO442.out⟩, ⟨bU0 HB.out⟩⟩
               ·
                rw [if_neg c26] at H
                exact absurd H (by simp)
              ·
               rw [if_neg c25] at H
               exact absurd H (by simp)
            ·
             rw [if_neg c18] at H
             exact absurd H (by simp)
           ·
            rw [if_neg c17] at H
            exact absurd H (by simp)
       ·
        rw [if_neg c10] at H
        exact absurd H (by simp)
      ·
       rw [if_neg c9] at H
       exact absurd H (by simp)
     ·
      rw [if_neg c8] at H; have c8b0 := decide_eq_false c8; clear c8; obtain rfl := Option.some.inj H
      go_wp2
      go_ret
      exact ⟨_, rE, sU HO_3.out, bU0 HB.out⟩
  ·
   rw [if_neg c3] at H
   exact absurd H (by simp)
 ·
  rw [if_neg c2] at H
  exact absurd H (by simp)
mutual
def spec_l1Type.l0 : Nat → List Int → List (List Int) → Int → Option (List Int)
 | 0, _, _, _ => none
 | k + 1, x3, x4, x5 => if x5 > 0 then (spec_l1Type.l1 k x3 x4 x5 0) else (some x3)
def spec_l1Type.l1 : Nat → List Int → List (List Int) → Int → Int → Option (List Int)
 | 0, _, _, _, _ => none
 | k + 1, x3, x4, x5, x6 => if x6 < (x4.length : Int) then (if 0 ≤ x6 then (if ((rd_L1 x4 x6).length : Int) = x5 then (if x3.length < 17592186044416 then (spec_l1Type.l1 k (x3 ++ [x5]) x4 x5 (wrap64 (x6 + 1))) else (none)) else (spec_l1Type.l1 k x3 x4 x5 (wrap64 (x6 + 1)))) else (none)) else (spec_l1Type.l0 k x3 x4 (wrap64 (x5 - 1)))
end
def spec_l1Type.f (k : Nat) (l0 : List Int) : Option (List Int) := (spec_l1Cycles.f k l0).bind fun t447 => (spec_l1Type.l0 k (([] : List Int)) t447 (l0.length : Int))
set_option maxHeartbeats 8000000 in
set_option maxRecDepth 100000 in
theorem spec_l1Type.calls (k : Nat) (A0 : Option Addr) (c0 : Nat) (l0 : List Int) (r : List Int) (w : World) (hr0 : Kd.C (Kd.int .i64) w A0 l0.length l0) (hc0 : l0.length ≤ c0) (h : spec_l1Type.f k l0 = some r) :
  Calls Try.prog 89 #[.slice A0 l0.length c0] w fun e w' => ∃ v0_ : Value, e = .returned (v0_) ∧ Kd.R (Kd.int .i64) 3 w' w.heap.size (fun _ => True) v0_ r ∧ Below w.heap.size w w' := by
 have HR0 := Az hr0; have HC0 := Az hc0; clear hr0 hc0; have HB := Az (Below.refl w.heap.size w); have H : ((spec_l1Cycles.f k l0).bind fun t447 => (spec_l1Type.l0 k (([] : List Int)) t447 (l0.length : Int))) = some r := h; clear h; obtain ⟨y444, hy444⟩ : ∃ y_ : List Int, y_ = (([] : List Int)) := ⟨_, rfl⟩; replace H : ((spec_l1Cycles.f k l0).bind fun t447 => (spec_l1Type.l0 k y444 t447 (l0.length : Int))) = some r := hR hy444 H; have Ny444 := Az hy444; clear hy444; replace H := Option.bind_eq_some_iff.mp H; obtain ⟨t447, A20, H⟩ := H; replace H : (spec_l1Type.l0 k y444 t447 (l0.length : Int)) = some r := H; have A2 := Az A20; clear A20; have H' := Az H; clear H
 go_enter Try.func89, Try.ntmps89
 go_wp2_with (first | ((with_reducible refine gate_dst (N := 7) rfl ?_); refine Kd.R_lit (Kd.int .i64) _ 3 ?hg (N := 7) ?hd (xs := ([] : List Int)) (inner := []) (ok := fun _ => True) (okp := fun _ => True) ?hr ?hp (fun _ hk => hk) trivial (Below.refl _ _) (Nat.le_refl _) (by simp) ?_; (case hd => rfl); (case hg => rfl); (case hr => first | (go_simp; done) | (go_simp; rfl)); (case hp => exact (Reps.none _ _)); intro v445 w3 ho4 hb hg_ hnew_; clear hg_ hnew_; (first | rw [← Ny444.out] at ho4 | (simp only [Int.reduceToNat] at ho4; rw [← Ny444.out] at ho4)); have n0 := Az (Kd.R_lower ho4 (below_size (bU0 HB.out))); have n1 := Az (below_step (bU0 HB.out) hb); clear HB; have HO446 := n0; have HB := n1; clear n0 n1; clear hb ho4) | ((with_reducible refine gate_callee (f := 133) rfl ?_); refine goesL_ (some 9) rfl rfl Try.func133 (by kernel_rfl) rfl #[.slice A0 l0.length c0] rfl (by (try simp only [List.map_toArray, List.map_cons, List.map_nil]); first | done | rfl | (simp only [List.length_drop, List.length_take]; rfl)) ?_; (with_reducible refine (spec_l1Cycles.calls k _ _ l0 t447 _ ?side1 ?side2 A2.out).mono ?_); (case side1 => exact cU (Kd.C_below HR0.out HB.out)); (case side2 => exact HC0.out); rintro e w5 ⟨v448, rfl, ho0, hb⟩; refine ⟨_, rfl, ?_⟩; have n0 := Az (Kd.R_below (rU HO446.out) hb); have n1 := Az (Kd.S_lower (Kd.S_new' ho0 (Kd.R_lt (rU HO446.out))) (below_size (bU0 HB.out))); have n2 := Az (below_step (bU0 HB.out) hb); clear HO446 HB; have HO446 := n0; have HO449 := n1; have HB := n2; clear n0 n1 n2; (try clear hb); (try clear hb2); (try clear hk); (try clear hi); (try clear ho0)))
 go_loopg [3, 5] k (fun kq v3 v5 w' => ∃ (x3_1 : List Int) (x5_1 : Int), v5 = .int .i64 x5_1 ∧ Aside0 (spec_l1Type.l0 kq x3_1 t447 x5_1 = some r) ∧ Aside0 (kq ≤ k) ∧ Aside0 (Kd.R (Kd.int .i64) 3 w' w.heap.size (fun _ => True) v3 x3_1) ∧ Aside0 (Kd.S (Kd.slice 3 (Kd.int .i64)) 23 w' w.heap.size (fun k_ => some k_ ≠ (v3 : Value).ownBlock) v448 t447) ∧ Aside0 (Below w.heap.size w w'))
 case atStart => exact ⟨(y444), ((l0.length : Int)), rS, H', ⟨Nat.le_refl _⟩, ⟨rU HO446.out⟩, ⟨by (with_reducible repeat (first | apply Kd.S_alloc | apply Kd.S_drewN | apply Kd.S_drew)); exact Kd.S_mono HO449.out (fun _ hk => hk.2)⟩, ⟨bU0 HB.out⟩⟩
 case round =>
  clear H'; (try clear c1); (try clear p2); obtain ⟨x3_1, x5_1, rfl, HA, HK1, HO_3, HO_4, HB⟩ := hrel
  cases gk with
  | zero => exact absurd HA.out (by simp [spec_l1Type.l0])
  | succ k1 =>
   have H := HA.out; clear HA; simp only [spec_l1Type.l0] at H
   by_cases c6 : x5_1 > 0
   ·
    rw [if_pos c6] at H; have c6b0 := decide_eq_true c6; clear c6; have H' := Az H; clear H
    go_wp2
    go_loopg [3, 6] k1 (fun kq v3 v6 w' => ∃ (x3_2 : List Int) (x6_2 : Int), v6 = .int .i64 x6_2 ∧ Aside0 (spec_l1Type.l1 kq x3_2 t447 x5_1 x6_2 = some r) ∧ Aside0 (kq ≤ k1) ∧ Aside0 (Kd.R (Kd.int .i64) 3 w' w.heap.size (fun _ => True) v3 x3_2) ∧ Aside0 (Kd.S (Kd.slice 3 (Kd.int .i64)) 23 w' w.heap.size (fun k_ => some k_ ≠ (v3 : Value).ownBlock) v448 t447) ∧ Aside0 (Below w.heap.size w w'))
    case atStart => exact ⟨(x3_1), (0), rS, H', ⟨Nat.le_refl _⟩, ⟨rU HO_3.out⟩, ⟨sU HO_4.out⟩, ⟨bU0 HB.out⟩⟩
    case round =>
     clear H'; (try clear c1); (try clear p2); (try clear c6); (try clear c6b0); (try clear p2); obtain ⟨x3_2, x6_2, rfl, HA, HK2, HO_3, HO_4, HB⟩ := hrel
     cases gk with
     | zero => exact absurd HA.out (by simp [spec_l1Type.l1])
     | succ k2 =>
      have H := HA.out; clear HA; simp only [spec_l1Type.l1] at H
      by_cases c7 : x6_2 < (t447.length : Int)
      ·
       rw [if_pos c7] at H; have c7b0 := decide_eq_true c7; clear c7
       by_cases c8 : 0 ≤ x6_2
       ·
        rw [if_pos c8] at H; have c8b0 := decide_eq_true c8; clear c8
        by_cases c9 : ((rd_L1 t447 x6_2).length : Int) = x5_1
        ·
         rw [if_pos c9] at H; have c9b0 := beq_iff_eq.mpr c9; have c9b1 := bne_eq_false_iff_eq.mpr c9; clear c9
         by_cases c10 : x3_2.length < 17592186044416
         ·
          rw [if_pos c10] at H; have LMc10 := Az c10; clear c10; obtain ⟨y451, hy451⟩ : ∃ y_ : List Int, y_ = (x3_2 ++ [x5_1]) := ⟨_, rfl⟩; replace H : (spec_l1Type.l1 k2 y451 t447 x5_1 (wrap64 (x6_2 + 1))) = some r := hR hy451 H; have Ny451 := Az hy451; clear hy451; have H' := Az H; clear H; obtain ⟨Ao11, co11, eo11⟩ := Kd.S_slice HO_4.out; subst eo11; have p450 : 0 ≤ (x6_2 : Int) := oA; have q450 : x6_2 < (t447.length : Int) := oA; obtain ⟨ad450, A450_0, c450_0, e450, hx450_0, hl450_0, hi450_0⟩ := at_L1 (Kd.S_reads' HO_4.out).2.2 x6_2 p450 q450
          cases e450
          obtain ⟨ce450, hce450, hMe450, hcc450⟩ := Kd.S_get HO_4.out [] x6_2 p450 (by first | exact q450 | exact oA | (have e_ := (Kd.S_reads' HO_4.out).1; omega)); obtain ⟨ve450_0, rfl, ge450_0⟩ := hMe450; have hv450_0 := hcc450 0 _ rfl; rw [Nat.add_zero, show ((Kd.slice 3 (Kd.int .i64))).sz = 1 from rfl, Nat.mul_one] at hv450_0; replace hv450_0 := Option.some.inj (hv450_0.symm.trans hx450_0); rw [hv450_0] at ge450_0; have HL450_0 := Az (show Kd.R (Kd.int .i64) 3 _ _ _ _ (rd_L1 t447 x6_2) from ge450_0); clear hv450_0 ge450_0 hcc450 hce450; have HR450_0 := Az hi450_0; have HC450_0 := Az hl450_0; clear hi450_0 hl450_0; replace p450 := eq_true p450; replace q450 := eq_true q450
          go_wp2_with (first | ((with_reducible refine gate_builtin (b := .append) (xs := #[.tmp 29, .tmp 31]) rfl ?_); at_builtin; refine Kd.R_append (Kd.int .i64) (w0 := w) w.heap.size rfl (.tmp 29) (.tmp 31) 23 3 (.int .i64 0) 8 rfl Try.underlying23 info3 rfl (by decide) (by omega) u3 x3_2 x5_1 [.int .i64 x5_1] (fun _ => True) (fun _ => False) rfl rfl ?aP (fun _ hk => hk.elim) ?aF ?aO ?aB ?aS ?aL ?_; (case aP => exact rfl); (case aB => exact (bU0 HB.out)); (case aF => exact (fun _ _ => trivial)); (case aO => exact (rU HO_3.out)); (case aS => exact (below_size (bU0 HB.out))); (case aL => have := LMc10.out; omega); intro v452 w12 ho hb hg hat; rw [← Ny451.out] at ho; have n0 := Az (Kd.S_after (ok := (fun _ => True)) (by (with_reducible repeat (first | apply Kd.S_alloc | apply Kd.S_drewN | apply Kd.S_drew)); exact Kd.S_mono HO_4.out (fun _ hk => ⟨trivial, hk⟩)) hg hat); have n1 := Az (Kd.R_after (ok := (fun k_ => some k_ ≠ (.slice (some ad450) t447.length co11 : Value).ownBlock)) (by (with_reducible repeat (first | apply Kd.R_alloc | apply Kd.R_drewN | apply Kd.R_drew)); exact Kd.R_mono HL450_0.out (fun _ hk => ⟨hk.2, hk.1⟩)) hg hat); have n2 := Az (hb); have n3 := Az (ho); clear HO_4 HL450_0 HB HO_3; have HO_4 := n0; have HL450_0 := n1; have HB := n2; have HO453 := n3; clear n0 n1 n2 n3; clear ho hb hg hat))
          (first | go_roundg k2 | (refine Handed.intro k2 ?measure ?_; rotate_left; go_step; (try simp only [add_plain]); (repeat apply Exists.intro); refine ⟨?rel, rfl⟩))
          case measure => have := HK1.out; have := HK2.out; omega
          case rel => exact ⟨(y451), (wrap64 (x6_2 + 1)), rS, H', ⟨by have := HK1.out; have := HK2.out; omega⟩, ⟨rU HO453.out⟩, ⟨by (with_reducible repeat (first | apply Kd.S_alloc | apply Kd.S_drewN | apply Kd.S_drew)); exact Kd.S_mono HO_4.out (fun _ hk => hk.2)⟩, ⟨bU0 HB.out⟩⟩
         ·
          rw [if_neg c10] at H
          exact absurd H (by simp)
        ·
         rw [if_neg c9] at H; have c9b0 := beq_eq_false_iff_ne.mpr c9; have c9b1 := bne_iff_ne.mpr c9; have H' := Az H; clear H; obtain ⟨Ao13, co13, eo13⟩ := Kd.S_slice HO_4.out; subst eo13; have p450 : 0 ≤ (x6_2 : Int) := oA; have q450 : x6_2 < (t447.length : Int) := oA; obtain ⟨ad450, A450_0, c450_0, e450, hx450_0, hl450_0, hi450_0⟩ := at_L1 (Kd.S_reads' HO_4.out).2.2 x6_2 p450 q450
         cases e450
         obtain ⟨ce450, hce450, hMe450, hcc450⟩ := Kd.S_get HO_4.out [] x6_2 p450 (by first | exact q450 | exact oA | (have e_ := (Kd.S_reads' HO_4.out).1; omega)); obtain ⟨ve450_0, rfl, ge450_0⟩ := hMe450; have hv450_0 := hcc450 0 _ rfl; rw [Nat.add_zero, show ((Kd.slice 3 (Kd.int .i64))).sz = 1 from rfl, Nat.mul_one] at hv450_0; replace hv450_0 := Option.some.inj (hv450_0.symm.trans hx450_0); rw [hv450_0] at ge450_0; have HL450_0 := Az (show Kd.R (Kd.int .i64) 3 _ _ _ _ (rd_L1 t447 x6_2) from ge450_0); clear hv450_0 ge450_0 hcc450 hce450; have HR450_0 := Az hi450_0; have HC450_0 := Az hl450_0; clear hi450_0 hl450_0; replace p450 := eq_true p450; replace q450 := eq_true q450
         go_wp2
         (first | go_roundg k2 | (refine Handed.intro k2 ?measure ?_; rotate_left; go_step; (try simp only [add_plain]); (repeat apply Exists.intro); refine ⟨?rel, rfl⟩))
         case measure => have := HK1.out; have := HK2.out; omega
         case rel => exact ⟨(x3_2), (wrap64 (x6_2 + 1)), rS, H', ⟨by have := HK1.out; have := HK2.out; omega⟩, ⟨rU HO_3.out⟩, ⟨sU HO_4.out⟩, ⟨bU0 HB.out⟩⟩
       ·
        rw [if_neg c8] at H
        exact absurd H (by simp)
      ·
       rw [if_neg c7] at H; have c7b0 := decide_eq_false c7; clear c7; have H' := Az H; clear H; obtain ⟨Ao14, co14, eo14⟩ := Kd.S_slice HO_4.out; subst eo14
       go_wp2
       (first | go_roundg k2 | (refine Handed.intro k2 ?measure ?_; rotate_left; go_step; (try simp only [add_plain]); (repeat apply Exists.intro); refine ⟨?rel, rfl⟩))
       case measure => have := HK1.out; have := HK2.out; omega
       case rel => exact ⟨(x3_2), (wrap64 (x5_1 - 1)), rS, H', ⟨by have := HK1.out; have := HK2.out; omega⟩, ⟨rU HO_3.out⟩, ⟨sU HO_4.out⟩, ⟨bU0 HB.out⟩⟩
   ·
    rw [if_neg c6] at H; have c6b0 := decide_eq_false c6; clear c6; obtain rfl := Option.some.inj H
    go_wp2
    go_ret
    exact ⟨_, rE, rU HO_3.out, bU0 HB.out⟩
def spec_MapDegrees.f (k : Nat) (l0_0 : List Int) (l0_1 : List Int) : Option (List Int × Bool) := (spec_MapValid.f k l0_0 l0_1).bind fun t455 => (if t455 = true then ((spec_l1Type.f k l0_0).bind fun t456 => (some (t456, true))) else (some ((([] : List Int)), false)))
set_option maxHeartbeats 8000000 in
set_option maxRecDepth 100000 in
theorem spec_MapDegrees.calls (k : Nat) (A0_0 : Option Addr) (c0_0 : Nat) (l0_0 : List Int) (A0_1 : Option Addr) (c0_1 : Nat) (l0_1 : List Int) (r1 : List Int) (r2 : Bool) (w : World) (hr0_0 : Kd.C (Kd.int .i64) w A0_0 l0_0.length l0_0) (hc0_0 : l0_0.length ≤ c0_0) (hr0_1 : Kd.C (Kd.int .i64) w A0_1 l0_1.length l0_1) (hc0_1 : l0_1.length ≤ c0_1) (h : spec_MapDegrees.f k l0_0 l0_1 = some (r1, r2)) :
  Calls Try.prog 35 #[.agg #[.slice A0_0 l0_0.length c0_0, .slice A0_1 l0_1.length c0_1]] w fun e w' => ∃ v0_ : Value, e = .returned (.tuple #[v0_, .bool r2]) ∧ Kd.R (Kd.int .i64) 3 w' w.heap.size (fun _ => True) v0_ r1 ∧ Below w.heap.size w w' := by
 have hu25 := Try.underlying25; have HR0_0 := Az hr0_0; have HC0_0 := Az hc0_0; clear hr0_0 hc0_0; have HR0_1 := Az hr0_1; have HC0_1 := Az hc0_1; clear hr0_1 hc0_1; have HB := Az (Below.refl w.heap.size w); have H : ((spec_MapValid.f k l0_0 l0_1).bind fun t455 => (if t455 = true then ((spec_l1Type.f k l0_0).bind fun t456 => (some (t456, true))) else (some ((([] : List Int)), false)))) = some (r1, r2) := h; clear h; replace H := Option.bind_eq_some_iff.mp H; obtain ⟨t455, A20, H⟩ := H; replace H : (if t455 = true then ((spec_l1Type.f k l0_0).bind fun t456 => (some (t456, true))) else (some ((([] : List Int)), false))) = some (r1, r2) := H; have A2 := Az A20; clear A20
 by_cases c3 : t455 = true
 ·
  subst c3
  have H1 : ((spec_l1Type.f k l0_0).bind fun t456 => (some (t456, true))) = some (r1, r2) := by rw [if_pos rfl] at H; exact H
  clear H; have H := H1; clear H1; replace H := Option.bind_eq_some_iff.mp H; obtain ⟨t456, A40, H⟩ := H; replace H : (some (t456, true)) = some (r1, r2) := H; have A4 := Az A40; clear A40; simp only [Option.some.injEq, Prod.mk.injEq] at H; obtain ⟨rfl, rfl⟩ := H
  go_enter Try.func35, Try.ntmps35
  go_wp2_with (first | ((with_reducible refine gate_dst (N := 1) rfl ?_); refine box_event ?hg (N := 1) ?hd (cs := #[.slice A0_0 l0_0.length c0_0, .slice A0_1 l0_1.length c0_1]) (t := 25) ?hr ?_; (case hd => rfl); (case hg => rfl); (case hr => first | (go_simp; done) | (go_simp; rfl)); intro gb454 hg w5 hbox hb; have n0 := Az (below_step (bU0 HB.out) hb); have n1 := Az (hbox); have n2 := Az ((by rw [hg]; exact (below_size (bU0 HB.out)) : w.heap.size ≤ gb454)); have n3 := n2; clear HB; have HB := n0; have BK454 := n1; have GW454 := n2; have GE454 := n3; clear n0 n1 n2 n3 hb hbox hg; have hcz6_0 : w5.cell? ⟨gb454, 0, none⟩ = some (.slice A0_0 l0_0.length c0_0) := (blk_cell BK454.out 0).trans rfl; have hcz6_1 : w5.cell? ⟨gb454, 1, none⟩ = some (.slice A0_1 l0_1.length c0_1) := (blk_cell BK454.out 1).trans rfl; have hfz6_0 := blk_frozen BK454.out 0; have hfz6_1 := blk_frozen BK454.out 1) | ((with_reducible refine gate_callee (f := 79) rfl ?_); refine goesL_ (some 5) rfl rfl Try.func79 (by kernel_rfl) rfl #[.agg #[.slice A0_0 l0_0.length c0_0, .slice A0_1 l0_1.length c0_1]] rfl (by (try simp only [List.map_toArray, List.map_cons, List.map_nil]); first | done | rfl | (simp only [List.length_drop, List.length_take]; rfl)) ?_; (with_reducible refine (spec_MapValid.calls k _ _ l0_0 _ _ l0_1 true _ ?side1 ?side2 ?side3 ?side4 A2.out).mono ?_); (case side1 => exact cU (Kd.C_below HR0_0.out HB.out)); (case side2 => exact HC0_0.out); (case side3 => exact cU (Kd.C_below HR0_1.out HB.out)); (case side4 => exact HC0_1.out); rintro e w7 ⟨rfl, hb⟩; refine ⟨_, rfl, ?_⟩; have n0 := Az (blk_below (g := gb454) (o := .cells #[.slice A0_0 l0_0.length c0_0, .slice A0_1 l0_1.length c0_1] 25 (0, 0)) (kU BK454.out) hb); have n1 := Az (below_step (bU1 HB.out GE454.out) hb); clear BK454 HB; have BK454 := n0; have HB := n1; clear n0 n1; (try clear hb); (try clear hb2); (try clear hk); (try clear hi); have hcz8_0 : w7.cell? ⟨gb454, 0, none⟩ = some (.slice A0_0 l0_0.length c0_0) := (blk_cell BK454.out 0).trans rfl; have hcz8_1 : w7.cell? ⟨gb454, 1, none⟩ = some (.slice A0_1 l0_1.length c0_1) := (blk_cell BK454.out 1).trans rfl; have hfz8_0 := blk_frozen BK454.out 0; have hfz8_1 := blk_frozen BK454.out 1) | ((with_reducible refine gate_callee (f := 89) rfl ?_); refine goesL_ (some 10) rfl rfl Try.func89 (by kernel_rfl) rfl #[.slice A0_0 l0_0.length c0_0] rfl (by (try simp only [List.map_toArray, List.map_cons, List.map_nil]); first | done | rfl | (simp only [List.length_drop, List.length_take]; rfl)) ?_; (with_reducible refine (spec_l1Type.calls k _ _ l0_0 t456 _ ?side1 ?side2 A4.out).mono ?_); (case side1 => exact cU (Kd.C_below HR0_0.out HB.out)); (case side2 => exact HC0_0.out); rintro e w9 ⟨v457, rfl, ho0, hb⟩; refine ⟨_, rfl, ?_⟩; have n0 := Az (Kd.R_lower ho0 (below_size (bU1 HB.out GE454.out))); have n1 := Az (blk_below (g := gb454) (o := .cells #[.slice A0_0 l0_0.length c0_0, .slice A0_1 l0_1.length c0_1] 25 (0, 0)) (kU BK454.out) hb); have n2 := Az (below_step (bU1 HB.out GE454.out) hb); clear BK454 HB; have HO458 := n0; have BK454 := n1; have HB := n2; clear n0 n1 n2; (try clear hb); (try clear hb2); (try clear hk); (try clear hi); (try clear ho0)))
  go_ret2
  exact ⟨_, rE, rU HO458.out, bU1 HB.out GE454.out⟩
 ·
  replace c3 := Bool.eq_false_iff.mpr c3; subst c3
  have H1 : (some ((([] : List Int)), false)) = some (r1, r2) := by rw [if_neg (show ¬ (false = true) by decide)] at H; exact H
  clear H; have H := H1; clear H1; obtain ⟨y459, hy459⟩ : ∃ y_ : List Int, y_ = (([] : List Int)) := ⟨_, rfl⟩; replace H : (some (y459, false)) = some (r1, r2) := hR hy459 H; have Ny459 := Az hy459; clear hy459; simp only [Option.some.injEq, Prod.mk.injEq] at H; obtain ⟨rfl, rfl⟩ := H
  go_enter Try.func35, Try.ntmps35
  go_wp2_with (first | ((with_reducible refine gate_dst (N := 1) rfl ?_); refine box_event ?hg (N := 1) ?hd (cs := #[.slice A0_0 l0_0.length c0_0, .slice A0_1 l0_1.length c0_1]) (t := 25) ?hr ?_; (case hd => rfl); (case hg => rfl); (case hr => first | (go_simp; done) | (go_simp; rfl)); intro gb454 hg w10 hbox hb; have n0 := Az (below_step (bU0 HB.out) hb); have n1 := Az (hbox); have n2 := Az ((by rw [hg]; exact (below_size (bU0 HB.out)) : w.heap.size ≤ gb454)); have n3 := n2; clear HB; have HB := n0; have BK454 := n1; have GW454 := n2; have GE454 := n3; clear n0 n1 n2 n3 hb hbox hg; have hcz11_0 : w10.cell? ⟨gb454, 0, none⟩ = some (.slice A0_0 l0_0.length c0_0) := (blk_cell BK454.out 0).trans rfl; have hcz11_1 : w10.cell? ⟨gb454, 1, none⟩ = some (.slice A0_1 l0_1.length c0_1) := (blk_cell BK454.out 1).trans rfl; have hfz11_0 := blk_frozen BK454.out 0; have hfz11_1 := blk_frozen BK454.out 1) | ((with_reducible refine gate_callee (f := 79) rfl ?_); refine goesL_ (some 5) rfl rfl Try.func79 (by kernel_rfl) rfl #[.agg #[.slice A0_0 l0_0.length c0_0, .slice A0_1 l0_1.length c0_1]] rfl (by (try simp only [List.map_toArray, List.map_cons, List.map_nil]); first | done | rfl | (simp only [List.length_drop, List.length_take]; rfl)) ?_; (with_reducible refine (spec_MapValid.calls k _ _ l0_0 _ _ l0_1 false _ ?side1 ?side2 ?side3 ?side4 A2.out).mono ?_); (case side1 => exact cU (Kd.C_below HR0_0.out HB.out)); (case side2 => exact HC0_0.out); (case side3 => exact cU (Kd.C_below HR0_1.out HB.out)); (case side4 => exact HC0_1.out); rintro e w12 ⟨rfl, hb⟩; refine ⟨_, rfl, ?_⟩; have n0 := Az (blk_below (g := gb454) (o := .cells #[.slice A0_0 l0_0.length c0_0, .slice A0_1 l0_1.length c0_1] 25 (0, 0)) (kU BK454.out) hb); have n1 := Az (below_step (bU1 HB.out GE454.out) hb); clear BK454 HB; have BK454 := n0; have HB := n1; clear n0 n1; (try clear hb); (try clear hb2); (try clear hk); (try clear hi)) | ((with_reducible refine gate_dst (N := 7) rfl ?_); refine Kd.R_lit (Kd.int .i64) _ 3 ?hg (N := 7) ?hd (xs := ([] : List Int)) (inner := []) (ok := fun _ => True) (okp := fun _ => True) ?hr ?hp (fun _ hk => hk) trivial (Below.refl _ _) (Nat.le_refl _) (by simp) ?_; (case hd => rfl); (case hg => rfl); (case hr => first | (go_simp; done) | (go_simp; rfl)); (case hp => exact (Reps.none _ _)); intro v460 w13 ho14 hb hg_ hnew_; clear hg_ hnew_; (first | rw [← Ny459.out] at ho14 | (simp only [Int.reduceToNat] at ho14; rw [← Ny459.out] at ho14)); have n0 := Az (Kd.R_lower ho14 (below_size (bU1 HB.out GE454.out))); have n1 := Az (blk_below (g := gb454) (o := .cells #[.slice A0_0 l0_0.length c0_0, .slice A0_1 l0_1.length c0_1] 25 (0, 0)) (kU BK454.out) hb); have n2 := Az (below_step (bU1 HB.out GE454.out) hb); clear BK454 HB; have HO461 := n0; have BK454 := n1; have HB := n2; clear n0 n1 n2; clear hb ho14))
  go_ret2
  exact ⟨_, rE, rU HO461.out, bU1 HB.out GE454.out⟩
def laws_sameInts.l0 : Nat → List Int → List Int → Int → Option (Bool)
 | 0, _, _, _ => none
 | k + 1, x0, x1, x5 => if x5 < (x0.length : Int) then (if 0 ≤ x5 then (if x5 < (x1.length : Int) then (if (rd x0 x5) = (rd x1 x5) then (laws_sameInts.l0 k x0 x1 (wrap64 (x5 + 1))) else (some false)) else (none)) else (none)) else (some true)
def laws_sameInts.f (k : Nat) (l0 : List Int) (l1 : List Int) : Option (Bool) := if (l0.length : Int) = (l1.length : Int) then (laws_sameInts.l0 k l0 l1 0) else (some false)
set_option maxHeartbeats 8000000 in
set_option maxRecDepth 100000 in
theorem laws_sameInts.calls (k : Nat) (A0 : Option Addr) (c0 : Nat) (l0 : List Int) (A1 : Option Addr) (c1 : Nat) (l1 : List Int) (r : Bool) (w : World) (hr0 : Kd.C (Kd.int .i64) w A0 l0.length l0) (hc0 : l0.length ≤ c0) (hr1 : Kd.C (Kd.int .i64) w A1 l1.length l1) (hc1 : l1.length ≤ c1) (h : laws_sameInts.f k l0 l1 = some r) :
  Calls Try.prog 36 #[.slice A0 l0.length c0, .slice A1 l1.length c1] w fun e w' => e = .returned (.bool r) ∧ Drawn0 w w' := by
 have HR0 := Az hr0; have HC0 := Az hc0; clear hr0 hc0; have HR1 := Az hr1; have HC1 := Az hc1; clear hr1 hc1; have H : (if (l0.length : Int) = (l1.length : Int) then (laws_sameInts.l0 k l0 l1 0) else (some false)) = some r := h; clear h
 by_cases c3 : (l0.length : Int) = (l1.length : Int)
 ·
  rw [if_pos c3] at H; have c3b0 := beq_iff_eq.mpr c3; have c3b1 := bne_eq_false_iff_eq.mpr c3
  have c3b2 : (l0.length == l1.length) = true := by first | simpa using c3 | (simp at c3 ⊢; omega)
  clear c3; have H' := Az H; clear H
  go_enter Try.func36, Try.ntmps36
  go_wp2
  repeat (go_quiet (fail); try go_wp2)
  go_loopg [5] k (fun kq v5 w' => ∃ (x5_1 : Int), v5 = .int .i64 x5_1 ∧ Aside0 (laws_sameInts.l0 kq l0 l1 x5_1 = some r) ∧ Aside0 (kq ≤ k) ∧ Drawn0 w w')
  case atStart => exact ⟨(0), rS, H', ⟨Nat.le_refl _⟩, by repeat (first | exact Drawn0.refl _ | apply Drawn0.step)⟩
  case round =>
   clear H'; (try clear c1); (try clear p2); (try clear c3); (try clear c3b0); (try clear c3b1); (try clear c3b2); obtain ⟨x5_1, rfl, HA, HK1, ⟨m1, rfl⟩⟩ := hrel
   cases gk with
   | zero => exact absurd HA.out (by simp [laws_sameInts.l0])
   | succ k1 =>
    have H := HA.out; clear HA; simp only [laws_sameInts.l0] at H
    by_cases c4 : x5_1 < (l0.length : Int)
    ·
     rw [if_pos c4] at H; have c4b0 := decide_eq_true c4; clear c4
     by_cases c5 : 0 ≤ x5_1
     ·
      rw [if_pos c5] at H; have c5b0 := decide_eq_true c5; clear c5
      by_cases c6 : x5_1 < (l1.length : Int)
      ·
       rw [if_pos c6] at H; have c6b0 := decide_eq_true c6; clear c6
       by_cases c7 : (rd l0 x5_1) = (rd l1 x5_1)
       ·
        rw [if_pos c7] at H; have c7b0 := beq_iff_eq.mpr c7; have c7b1 := bne_eq_false_iff_eq.mpr c7; clear c7; have H' := Az H; clear H; have p462 : 0 ≤ (x5_1 : Int) := oA; have q462 : x5_1 < (l0.length : Int) := oA; obtain ⟨ad462, e462, hx462_0⟩ := Kd.at_int HR0.out x5_1 p462 q462
        cases e462
        replace p462 := eq_true p462; replace q462 := eq_true q462; have p463 : 0 ≤ (x5_1 : Int) := oA; have q463 : x5_1 < (l1.length : Int) := oA; obtain ⟨ad463, e463, hx463_0⟩ := Kd.at_int HR1.out x5_1 p463 q463
        cases e463
        replace p463 := eq_true p463; replace q463 := eq_true q463
        go_wp2
        repeat (go_quiet (fail); try go_wp2)
        (first | go_roundg k1 | (refine Handed.intro k1 ?measure ?_; rotate_left; go_step; (try simp only [add_plain]); (repeat apply Exists.intro); refine ⟨?rel, rfl⟩))
        case measure => have := HK1.out; omega
        case rel => exact ⟨(wrap64 (x5_1 + 1)), rS, H', ⟨by have := HK1.out; omega⟩, by repeat (first | exact Drawn0.refl _ | apply Drawn0.step)⟩
       ·
        rw [if_neg c7] at H; have c7b0 := beq_eq_false_iff_ne.mpr c7; have c7b1 := bne_iff_ne.mpr c7; obtain rfl := Option.some.inj H; have p462 : 0 ≤ (x5_1 : Int) := oA; have q462 : x5_1 < (l0.length : Int) := oA; obtain ⟨ad462, e462, hx462_0⟩ := Kd.at_int HR0.out x5_1 p462 q462
        cases e462
        replace p462 := eq_true p462; replace q462 := eq_true q462; have p463 : 0 ≤ (x5_1 : Int) := oA; have q463 : x5_1 < (l1.length : Int) := oA; obtain ⟨ad463, e463, hx463_0⟩ := Kd.at_int HR1.out x5_1 p463 q463
        cases e463
        replace p463 := eq_true p463; replace q463 := eq_true q463
        go_wp2
        repeat (go_quiet (fail); try go_wp2)
        go_ret
        exact ⟨by first | rfl | (simp; done) | (simp [*]; done), by repeat (first | exact Drawn0.refl _ | apply Drawn0.step)⟩
      ·
       rw [if_neg c6] at H
       exact absurd H (by simp)
     ·
      rw [if_neg c5] at H
      exact absurd H (by simp)
    ·
     rw [if_neg c4] at H; have c4b0 := decide_eq_false c4; clear c4; obtain rfl := Option.some.inj H
     go_wp2
     repeat (go_quiet (fail); try go_wp2)
     go_ret
     exact ⟨by first | rfl | (simp; done) | (simp [*]; done), by repeat (first | exact Drawn0.refl _ | apply Drawn0.step)⟩
 ·
  rw [if_neg c3] at H; have c3b0 := beq_eq_false_iff_ne.mpr c3; have c3b1 := bne_iff_ne.mpr c3
  have c3b2 : (l0.length == l1.length) = false := by first | simpa using c3 | (simp at c3 ⊢; omega)
  obtain rfl := Option.some.inj H
  go_enter Try.func36, Try.ntmps36
  go_wp2
  repeat (go_quiet (fail); try go_wp2)
  go_ret
  exact ⟨by first | rfl | (simp; done) | (simp [*]; done), by repeat (first | exact Drawn0.refl _ | apply Drawn0.step)⟩
def laws_sumOf.l0 : Nat → List Int → Int → Int → Option (Int)
 | 0, _, _, _ => none
 | k + 1, x0, x3, x4 => if x4 < (x0.length : Int) then (if 0 ≤ x4 then (laws_sumOf.l0 k x0 (wrap64 (x3 + (rd x0 x4))) (wrap64 (x4 + 1))) else (none)) else (some x3)
def laws_sumOf.f (k : Nat) (l0 : List Int) : Option (Int) := laws_sumOf.l0 k l0 0 0
set_option maxHeartbeats 8000000 in
set_option maxRecDepth 100000 in
theorem laws_sumOf.calls (k : Nat) (A0 : Option Addr) (c0 : Nat) (l0 : List Int) (r : Int) (w : World) (hr0 : Kd.C (Kd.int .i64) w A0 l0.length l0) (hc0 : l0.length ≤ c0) (h : laws_sumOf.f k l0 = some r) :
  Calls Try.prog 37 #[.slice A0 l0.length c0] w fun e w' => e = .returned (.int .i64 r) ∧ Drawn0 w w' := by
 have HR0 := Az hr0; have HC0 := Az hc0; clear hr0 hc0; have H : (laws_sumOf.l0 k l0 0 0) = some r := h; clear h; have H' := Az H; clear H
 go_enter Try.func37, Try.ntmps37
 go_wp2
 go_loopg [3, 4] k (fun kq v3 v4 w' => ∃ (x3_1 : Int) (x4_1 : Int), v3 = .int .i64 x3_1 ∧ v4 = .int .i64 x4_1 ∧ Aside0 (laws_sumOf.l0 kq l0 x3_1 x4_1 = some r) ∧ Aside0 (kq ≤ k) ∧ Drawn0 w w')
 case atStart => exact ⟨(0), (0), rS, rS, H', ⟨Nat.le_refl _⟩, by repeat (first | exact Drawn0.refl _ | apply Drawn0.step)⟩
 case round =>
  clear H'; obtain ⟨x3_1, x4_1, rfl, rfl, HA, HK1, ⟨m1, rfl⟩⟩ := hrel
  cases gk with
  | zero => exact absurd HA.out (by simp [laws_sumOf.l0])
  | succ k1 =>
   have H := HA.out; clear HA; simp only [laws_sumOf.l0] at H
   by_cases c2 : x4_1 < (l0.length : Int)
   ·
    rw [if_pos c2] at H; have c2b0 := decide_eq_true c2; clear c2
    by_cases c3 : 0 ≤ x4_1
    ·
     rw [if_pos c3] at H; have c3b0 := decide_eq_true c3; clear c3; have H' := Az H; clear H; have p464 : 0 ≤ (x4_1 : Int) := oA; have q464 : x4_1 < (l0.length : Int) := oA; obtain ⟨ad464, e464, hx464_0⟩ := Kd.at_int HR0.out x4_1 p464 q464
     cases e464
     replace p464 := eq_true p464; replace q464 := eq_true q464
     go_wp2
     (first | go_roundg k1 | (refine Handed.intro k1 ?measure ?_; rotate_left; go_step; (try simp only [add_plain]); (repeat apply Exists.intro); refine ⟨?rel, rfl⟩))
     case measure => have := HK1.out; omega
     case rel => exact ⟨(wrap64 (x3_1 + (rd l0 x4_1))), (wrap64 (x4_1 + 1)), rS, rS, H', ⟨by have := HK1.out; omega⟩, by repeat (first | exact Drawn0.refl _ | apply Drawn0.step)⟩
    ·
     rw [if_neg c3] at H
     exact absurd H (by simp)
   ·
    rw [if_neg c2] at H; have c2b0 := decide_eq_false c2; clear c2; obtain rfl := Option.some.inj H
    go_wp2
    go_ret
    exact ⟨by first | rfl | (simp; done) | (simp [*]; done), by repeat (first | exact Drawn0.refl _ | apply Drawn0.step)⟩
end Go.Proofs.Ytggghijamfmenaa.PA
