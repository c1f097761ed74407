/- For every code: of the map and the choice that the statement draws, ChoiceRest of the program answers what the reference answers; the rest's rest is the choice; and in the dual map the rest has as many sides. There are no conditions. -/
import Derived.Test.YtjgknblneokhlaaKFnChoiceRestOwnx1
namespace Go.Proofs.Ytjgknblneokhlaa.PB
open Go.RowKit Go.Proofs.YtjgknblneokhlaaW.PrintWords Go.Proofs.YtjgknblneokhlaaW.PrintLast Go.Proofs.YtjgknblneokhlaaW.PrintMore
attribute [local go_sem] max2_int min2_int max_two min_two max_three min_three max_four min_four   -- for this text's walks alone
set_option linter.unusedVariables false
set_option linter.unusedSimpArgs false
mutual
def impl_ribbon.l0 : Nat → List Int → Int → List Int → List Int → Int → Int → List Int → List Int → List Bool → Option (List Int)
 | 0, _, _, _, _, _, _, _, _, _ => none
 | k + 1, x1, x5, x7, x30, x31, x32, xZ0, xZ1, xZ2 => if x32 < x31 then (if 0 ≤ x32 then (if x32 < (x30.length : Int) then ((impl_edgesOf.f k xZ0 xZ1).bind fun t183 => (if 0 ≤ (rd x30 x32) then (if (rd x30 x32) < (t183.length : Int) then (if 0 ≤ (rd t183 (rd x30 x32)) then (if (rd t183 (rd x30 x32)) < (xZ1.length : Int) then (if (rd t183 (rd x30 x32)) < (xZ2.length : Int) then (if 0 ≤ (rd xZ1 (rd t183 (rd x30 x32))) then (if (rd xZ1 (rd t183 (rd x30 x32))) < (xZ2.length : Int) then (if (rd t183 (rd x30 x32)) < (x7.length : Int) then (if (rd xZ1 (rd t183 (rd x30 x32))) < (x7.length : Int) then (impl_ribbon.l0 k x1 x5 ((x7.set ((rd t183 (rd x30 x32)) : Int).toNat (rd xZ1 (rd t183 (rd x30 x32)))).set ((rd xZ1 (rd t183 (rd x30 x32))) : Int).toNat (rd t183 (rd x30 x32))) x30 x31 (wrap64 (x32 + 1)) xZ0 xZ1 ((xZ2.set ((rd t183 (rd x30 x32)) : Int).toNat true).set ((rd xZ1 (rd t183 (rd x30 x32))) : Int).toNat true)) else (none)) else (none)) else (none)) else (none)) else (none)) else (none)) else (none)) else (none)) else (none))) else (none)) else (none)) else ((impl_orbits.f k (([xZ0, x7] : List (List Int)))).bind fun t195 => (impl_ribbon.l1 k x1 x5 x7 0 t195 (t195.length : Int) 0 xZ0 xZ1 xZ2))
def impl_ribbon.l1 : Nat → List Int → Int → List Int → Int → List Int → Int → Int → List Int → List Int → List Bool → Option (List Int)
 | 0, _, _, _, _, _, _, _, _, _, _ => none
 | k + 1, x1, x5, x7, x12, x65, x66, x67, xZ0, xZ1, xZ2 => if x67 < x66 then (if 0 ≤ x67 then (if x67 < (x65.length : Int) then (if x67 = (rd x65 x67) then (impl_ribbon.l1 k x1 x5 x7 (wrap64 (x12 + 1)) x65 x66 (wrap64 (x67 + 1)) xZ0 xZ1 xZ2) else (impl_ribbon.l1 k x1 x5 x7 x12 x65 x66 (wrap64 (x67 + 1)) xZ0 xZ1 xZ2)) else (none)) else (none)) else ((impl_cyclesOf.f k xZ0).bind fun t199 => (impl_ribbon.l2 k x1 x5 x7 x12 0 t199 (t199.length : Int) 0 xZ0 xZ1 xZ2))
def impl_ribbon.l2 : Nat → List Int → Int → List Int → Int → Int → List (List Int) → Int → Int → List Int → List Int → List Bool → Option (List Int)
 | 0, _, _, _, _, _, _, _, _, _, _, _ => none
 | k + 1, x1, x5, x7, x12, x15, x80, x81, x82, xZ0, xZ1, xZ2 => if x82 < x81 then (if 0 ≤ x82 then (if x82 < (x80.length : Int) then ((containsF.f k (rd_L1 x80 x82) xZ2).bind fun t203 => (if t203 = true then (impl_ribbon.l2 k x1 x5 x7 x12 x15 x80 x81 (wrap64 (x82 + 1)) xZ0 xZ1 xZ2) else (impl_ribbon.l2 k x1 x5 x7 x12 (wrap64 (x15 + 1)) x80 x81 (wrap64 (x82 + 1)) xZ0 xZ1 xZ2))) else (none)) else (none)) else (if 0 ≤ x5 then (if (x5 : Int).toNat ≤ 281474976710656 then (impl_ribbon.l3 k x1 x7 x12 x15 (List.replicate (x5 : Int).toNat false) x5 0 xZ0 xZ1 xZ2) else (none)) else (none))
def impl_ribbon.l3 : Nat → List Int → List Int → Int → Int → List Bool → Int → Int → List Int → List Int → List Bool → Option (List Int)
 | 0, _, _, _, _, _, _, _, _, _, _ => none
 | k + 1, x1, x7, x12, x15, x18, x95, x96, xZ0, xZ1, xZ2 => if x96 < x95 then (if 0 ≤ x96 then (if x96 < (xZ2.length : Int) then (if rdOf false xZ2 x96 = true then (if x96 < (x18.length : Int) then (impl_ribbon.j4 k x1 x7 x12 x15 x18 x96 x95 x96 (rdOf false x18 x96) xZ0 xZ1 xZ2) else (none)) else (impl_ribbon.j4 k x1 x7 x12 x15 x18 x96 x95 x96 true xZ0 xZ1 xZ2)) else (none)) else (none)) else ((impl_cyclesOf.f k xZ0).bind fun t207 => (some (([x12, x15, wrap64 ((t207.length : Int) - x12), wrap64 ((x1.length : Int) - (wrap64 ((t207.length : Int) - x12))), wrap64 (Int.tdiv (wrap64 ((wrap64 ((wrap64 ((wrap64 (2 * x12)) - (t207.length : Int))) + (x1.length : Int))) - x15)) 2)] : List Int))))
def impl_ribbon.j4 : Nat → List Int → List Int → Int → Int → List Bool → Int → Int → Int → Bool → List Int → List Int → List Bool → Option (List Int)
 | 0, _, _, _, _, _, _, _, _, _, _, _, _ => none
 | k + 1, x1, x7, x12, x15, x18, x19, x95, x96, x109, xZ0, xZ1, xZ2 => if x109 = true then (impl_ribbon.l3 k x1 x7 x12 x15 x18 x95 (wrap64 (x96 + 1)) xZ0 xZ1 xZ2) else (impl_ribbon.l4 k x1 x7 x12 (wrap64 (x15 + 1)) x18 x19 x95 x96 xZ0 xZ1 xZ2)
def impl_ribbon.l4 : Nat → List Int → List Int → Int → Int → List Bool → Int → Int → Int → List Int → List Int → List Bool → Option (List Int)
 | 0, _, _, _, _, _, _, _, _, _, _, _ => none
 | k + 1, x1, x7, x12, x15, x18, x20, x95, x96, xZ0, xZ1, xZ2 => if 0 ≤ x20 then (if x20 < (x18.length : Int) then (if rdOf false x18 x20 = true then (impl_ribbon.l3 k x1 x7 x12 x15 x18 x95 (wrap64 (x96 + 1)) xZ0 xZ1 xZ2) else (if x20 < (x7.length : Int) then (if 0 ≤ (rd x7 x20) then (if (rd x7 x20) < (xZ0.length : Int) then (impl_ribbon.l5 k x1 x7 x12 x15 (x18.set (x20 : Int).toNat true) (rd xZ0 (rd x7 x20)) x95 x96 xZ0 xZ1 xZ2) else (none)) else (none)) else (none))) else (none)) else (none)
def impl_ribbon.l5 : Nat → List Int → List Int → Int → Int → List Bool → Int → Int → Int → List Int → List Int → List Bool → Option (List Int)
 | 0, _, _, _, _, _, _, _, _, _, _, _ => none
 | k + 1, x1, x7, x12, x15, x18, x20, x95, x96, xZ0, xZ1, xZ2 => if 0 ≤ x20 then (if x20 < (xZ2.length : Int) then (if rdOf false xZ2 x20 = true then (impl_ribbon.l4 k x1 x7 x12 x15 x18 x20 x95 x96 xZ0 xZ1 xZ2) else (if x20 < (xZ0.length : Int) then (impl_ribbon.l5 k x1 x7 x12 x15 x18 (rd xZ0 x20) x95 x96 xZ0 xZ1 xZ2) else (none))) else (none)) else (none)
end
def impl_ribbon.f (k : Nat) (l0_0 : List Int) (l0_1 : List Int) (l1 : List Int) : Option (List Int) := if 0 ≤ (l0_0.length : Int) then (if ((l0_0.length : Int) : Int).toNat ≤ 281474976710656 then ((impl_still.f k (l0_0.length : Int)).bind fun t179 => (impl_ribbon.l0 k l1 (l0_0.length : Int) t179 l1 (l1.length : Int) 0 l0_0 l0_1 (List.replicate ((l0_0.length : Int) : Int).toNat false))) else (none)) else (none)
def impl_ribbon.T9 : Bool × List (List Nat × List Nat) := (true, [([], []), ([], []), ([], []), ([], []), ([0, 1, 0, 1], [0, 1]), ([4, 0, 1], [4]), ([2, 3, 0, 1, 2, 3, 4, 5], [2, 3]), ([6, 5, 0, 1, 2, 3, 4, 5], [6])])
def impl_ribbon.B9 : List Nat := [0, 0, 0, 0, 3, 19, 63, 127]
theorem impl_ribbon.tab9 : rtab .any (opsOf Try.f65 9) = impl_ribbon.T9 := by kernel_rfl
theorem impl_ribbon.bits9 : waitsOk impl_ribbon.T9.2 impl_ribbon.B9 = true := by kernel_rfl
def impl_ribbon.T35 : Bool × List (List Nat × List Nat) := (true, [([], []), ([0], [0]), ([], []), ([], []), ([2, 3], [2, 3]), ([4], [4]), ([1, 5], [1, 5]), ([6], [6]), ([7, 0, 1, 2, 3, 4, 5, 6, 7], [3, 7])])
def impl_ribbon.B35 : List Nat := [0, 1, 0, 0, 12, 28, 63, 127, 255]
theorem impl_ribbon.tab35 : rtab .any (opsOf Try.f65 35) = impl_ribbon.T35 := by kernel_rfl
theorem impl_ribbon.bits35 : waitsOk impl_ribbon.T35.2 impl_ribbon.B35 = true := by kernel_rfl
set_option maxHeartbeats 8000000 in
set_option maxRecDepth 100000 in
theorem impl_ribbon.calls (k : Nat) (P0_0_ : Nat → Prop) (A0_0 : Option Addr) (c0_0 : Nat) (l0_0 : List Int) (A0_1 : Option Addr) (c0_1 : Nat) (l0_1 : List Int) (A1 : Option Addr) (c1 : Nat) (l1 : List Int) (r : List Int) (w : World) (hs0_0 : Kd.V (Kd.int .i64) 3 w w.heap.size (fun k_ => P0_0_ k_) (.slice A0_0 l0_0.length c0_0) l0_0) (hr0_1 : Kd.C (Kd.int .i64) w A0_1 l0_1.length l0_1) (hc0_1 : l0_1.length ≤ c0_1) (hr1 : Kd.C (Kd.int .i64) w A1 l1.length l1) (hc1 : l1.length ≤ c1) (h : impl_ribbon.f k l0_0 l0_1 l1 = some r) :
  Calls Try.prog 65 #[.agg #[.slice A0_0 l0_0.length c0_0, .slice A0_1 l0_1.length c0_1], .slice A1 l1.length c1] w fun e w' => ∃ v0_ : Value, e = .returned (v0_) ∧ Kd.R (Kd.int .i64) 3 w' w.heap.size (fun k_ => (w.heap.size ≤ k_)) v0_ r ∧ Below w.heap.size w w' := by
 have hu25 := Try.underlying25; have HO0_0 := Az (show Kd.V (Kd.int .i64) 3 w w.heap.size (fun k_ => (P0_0_ k_ ∨ w.heap.size ≤ k_)) (.slice A0_0 l0_0.length c0_0) l0_0 from Kd.V_mono hs0_0 (fun k_ hk => .inl hk)); have HR0_1 := Az hr0_1; have HC0_1 := Az hc0_1; clear hr0_1 hc0_1; have HR1 := Az hr1; have HC1 := Az hc1; clear hr1 hc1; have HB := Az (Below.refl w.heap.size w); have H : (if 0 ≤ (l0_0.length : Int) then (if ((l0_0.length : Int) : Int).toNat ≤ 281474976710656 then ((impl_still.f k (l0_0.length : Int)).bind fun t179 => (impl_ribbon.l0 k l1 (l0_0.length : Int) t179 l1 (l1.length : Int) 0 l0_0 l0_1 (List.replicate ((l0_0.length : Int) : Int).toNat false))) else (none)) else (none)) = some r := h; clear h
 by_cases c3 : 0 ≤ (l0_0.length : Int)
 ·
  rw [if_pos c3] at H; have c3b0 := eq_true c3; have c3b1 : decide (0 ≤ (l0_0.length : Int)) = true := decide_eq_true c3; clear c3
  by_cases c4 : ((l0_0.length : Int) : Int).toNat ≤ 281474976710656
  ·
   rw [if_pos c4] at H; have c4b0 := eq_true c4; have c4b1 : decide (((l0_0.length : Int) : Int).toNat ≤ 281474976710656) = true := decide_eq_true c4; clear c4; obtain ⟨y175, hy175⟩ : ∃ y_ : List Bool, y_ = (List.replicate ((l0_0.length : Int) : Int).toNat false) := ⟨_, rfl⟩; replace H : ((impl_still.f k (l0_0.length : Int)).bind fun t179 => (impl_ribbon.l0 k l1 (l0_0.length : Int) t179 l1 (l1.length : Int) 0 l0_0 l0_1 y175)) = some r := hR hy175 H; have Ny175 := Az hy175; clear hy175; replace H := Option.bind_eq_some_iff.mp H; obtain ⟨t179, A50, H⟩ := H; replace H : (impl_ribbon.l0 k l1 (l0_0.length : Int) t179 l1 (l1.length : Int) 0 l0_0 l0_1 y175) = some r := H; have A5 := Az A50; clear A50; have H' := Az H; clear H
   go_enter Try.func65, Try.ntmps65
   go_wp2_with (first | ((with_reducible refine gate_dst (N := 2) rfl ?_); refine box_event ?hg (N := 2) ?hd (cs := #[.slice A0_0 l0_0.length c0_0, .slice A0_1 l0_1.length c0_1]) (t := 25) ?hr ?_; (case hd => rfl); (case hg => rfl); (case hr => first | (go_simp; done) | (go_simp; rfl)); intro gb174 hg w6 hbox hb; have n0 := Az (Kd.V_below (Kd.V_elderB (vU HO0_0.out) gb174 (Nat.le_of_eq hg.symm)) hb); have n1 := Az (below_step (bU0 HB.out) hb); have n2 := Az (hbox); have n3 := Az ((by rw [hg]; exact (below_size (bU0 HB.out)) : w.heap.size ≤ gb174)); have n4 := n3; clear HO0_0 HB; have HO0_0 := n0; have HB := n1; have BK174 := n2; have GW174 := n3; have GE174 := n4; clear n0 n1 n2 n3 n4 hb hbox hg; have hcz7_0 : w6.cell? ⟨gb174, 0, none⟩ = some (.slice A0_0 l0_0.length c0_0) := (blk_cell BK174.out 0).trans rfl; have hcz7_1 : w6.cell? ⟨gb174, 1, none⟩ = some (.slice A0_1 l0_1.length c0_1) := (blk_cell BK174.out 1).trans rfl; have hfz7_0 := blk_frozen BK174.out 0; have hfz7_1 := blk_frozen BK174.out 1) | ((with_reducible refine gate_dst (N := 27) rfl ?_); refine Kd.R_make Kd.bool _ 4 rfl (N := 27) rfl 78 _ _ rfl (l0_0.length : Int) rfl rfl Try.underlying78 (.bool false) 1 info4 rfl (by decide) (by omega) false (ok := fun _ => True) (okp := fun _ => True) rfl (fun _ hk => hk) trivial (oA) (Nat.le_trans (Nat.mul_le_mul_right _ (oA : (l0_0.length : Int).toNat ≤ 281474976710656)) (by omega)) (Below.refl _ _) (Nat.le_refl _) ?_; intro v176 w8 ho9 hb hg_ hnew_; clear hg_ hnew_; (first | rw [← Ny175.out] at ho9 | (simp only [Int.reduceToNat] at ho9; rw [← Ny175.out] at ho9)); have n0 := Az (Kd.V_elder' (vU HO0_0.out) (Kd.R_base ho9) hb); have n1 := Az (Kd.R_lower (Kd.R_newM (M := fun k_ => (w.heap.size ≤ k_)) ho9 (below_size (bU1 HB.out GE174.out)) (fun k_ h_ => h_)) (below_size (bU1 HB.out GE174.out))); have n2 := Az (blk_below (g := gb174) (o := .cells #[.slice A0_0 l0_0.length c0_0, .slice A0_1 l0_1.length c0_1] 25 (0, 0)) (kU BK174.out) hb); have n3 := Az (below_step (bU1 HB.out GE174.out) hb); clear HO0_0 BK174 HB; have HO0_0 := n0; have HO177 := n1; have BK174 := n2; have HB := n3; clear n0 n1 n2 n3; clear hb ho9) | ((with_reducible refine gate_dst (N := 6) rfl ?_); refine box_event ?hg (N := 6) ?hd (cs := #[.slice none 0 0]) (t := 78) ?hr ?_; (case hd => rfl); (case hg => rfl); (case hr => first | (go_simp; done) | (go_simp; rfl)); intro gb178 hg w10 hbox hb; have n0 := Az (Kd.V_below (Kd.V_elderB (vU HO0_0.out) gb178 (Nat.le_of_eq hg.symm)) hb); have n1 := Az (Kd.R_below (rU HO177.out) hb); have n2 := Az (blk_below (g := gb174) (o := .cells #[.slice A0_0 l0_0.length c0_0, .slice A0_1 l0_1.length c0_1] 25 (0, 0)) (kU BK174.out) hb); have n3 := Az (below_step (bU1 HB.out GE174.out) hb); have n4 := Az (hbox); have n5 := Az ((by rw [hg]; exact (below_size (bU1 HB.out GE174.out)) : w.heap.size ≤ gb178)); have n6 := n5; have n7 := Az ((by rw [hg]; exact Nat.ne_of_lt (blk_lt (g := gb174) (o := .cells #[.slice A0_0 l0_0.length c0_0, .slice A0_1 l0_1.length c0_1] 25 (0, 0)) (kU BK174.out)) : gb174 ≠ gb178)); have n8 := Az ((by rw [hg]; exact Nat.ne_of_gt (blk_lt (g := gb174) (o := .cells #[.slice A0_0 l0_0.length c0_0, .slice A0_1 l0_1.length c0_1] 25 (0, 0)) (kU BK174.out)) : gb178 ≠ gb174)); clear HO0_0 HO177 BK174 HB; have HO0_0 := n0; have HO177 := n1; have BK174 := n2; have HB := n3; have BK178 := n4; have GW178 := n5; have GE178 := n6; have NB174_178 := n7; have NB178_174 := n8; clear n0 n1 n2 n3 n4 n5 n6 n7 n8 hb hbox hg; obtain ⟨Ao11, co11, eo11⟩ := Kd.R_slice HO177.out; subst eo11; have hnb12 := NB178_174.out; have hnc12 := NB174_178.out; have hcz13_0 : w10.cell? ⟨gb178, 0, none⟩ = some (.slice none 0 0) := (blk_cell BK178.out 0).trans rfl; have hfz13_0 := blk_frozen BK178.out 0) | ((with_reducible refine gate_callee (f := 101) rfl ?_); refine goesL_ (some 29) rfl rfl Try.func101 (by kernel_rfl) rfl #[.int .i64 (l0_0.length : Int)] rfl (by (try simp only [List.map_toArray, List.map_cons, List.map_nil]); first | done | rfl | (simp only [List.length_drop, List.length_take]; rfl)) ?_; (with_reducible refine (impl_still.calls k (l0_0.length : Int) t179 _ A5.out).mono ?_); rintro e w14 ⟨v180, rfl, ho0, hb⟩; refine ⟨_, rfl, ?_⟩; have n0 := Az (Kd.V_elder' (by (with_reducible repeat (first | apply Kd.V_alloc | apply Kd.V_drewN | apply Kd.V_drew)); exact (Kd.V_mono (Kd.V_far (p := ⟨gb178, 0, none⟩) (Kd.V_mono HO0_0.out (fun k_ hk => (⟨hk, hk.2⟩ : _ ∧ k_ ≠ gb178))) (fun _ hk => hk.2) (.slice Ao11 y175.length co11)) (fun _ h_ => h_.1))) (Kd.R_base ho0) hb); have n1 := Az (Kd.R_below (by (with_reducible repeat (first | apply Kd.R_alloc | apply Kd.R_drewN | apply Kd.R_drew)); exact (Kd.R_mono (Kd.R_far (p := ⟨gb178, 0, none⟩) (Kd.R_types HO177.out BK178.out (by decide)) (fun _ hk => hk.2) (.slice Ao11 y175.length co11)) (fun _ h_ => h_.1))) hb); have n2 := Az (Kd.R_lower (Kd.R_newM (M := fun k_ => (w.heap.size ≤ k_)) ho0 (below_size (bU2 HB.out GE174.out GE178.out)) (fun k_ h_ => h_)) (below_size (bU2 HB.out GE174.out GE178.out))); have n3 := Az (blk_below (g := gb174) (o := .cells #[.slice A0_0 l0_0.length c0_0, .slice A0_1 l0_1.length c0_1] 25 (0, 0)) (by (with_reducible repeat (first | refine blk_drewN ?_ _ | refine blk_drew ?_ | refine blk_alloc ?_ _)); refine blk_far ?_ NB174_178.out _; (with_reducible repeat (first | refine blk_drewN ?_ _ | refine blk_drew ?_ | refine blk_alloc ?_ _)); exact BK174.out) hb); have n4 := Az (blk_below (g := gb178) (o := .cells #[.slice Ao11 y175.length co11] 78 (0, 0)) (by (with_reducible repeat (first | refine blk_drewN ?_ _ | refine blk_drew ?_ | refine blk_alloc ?_ _)); refine blk_put (cs := #[.slice none 0 0]) ?_ 0 _ rfl; (with_reducible repeat (first | refine blk_drewN ?_ _ | refine blk_drew ?_ | refine blk_alloc ?_ _)); exact BK178.out) hb); have n5 := Az (below_step (bU2 HB.out GE174.out GE178.out) hb); clear HO0_0 HO177 BK174 BK178 HB; have HO0_0 := n0; have HO177 := n1; have HO181 := n2; have BK174 := n3; have BK178 := n4; have HB := n5; clear n0 n1 n2 n3 n4 n5; (try clear hb); (try clear hb2); (try clear hk); (try clear hi); (try clear ho0)))
   go_loopg [32] k (fun kq v32 w' => ∃ (x7_1 : List Int) (x32_1 : Int) (xZ2_1 : List Bool) (uZ2 : Value), v32 = .int .i64 x32_1 ∧ Aside0 (impl_ribbon.l0 kq l1 (l0_0.length : Int) x7_1 l1 (l1.length : Int) x32_1 l0_0 l0_1 xZ2_1 = some r) ∧ Aside0 (kq ≤ k) ∧ Aside0 (Kd.R (Kd.int .i64) 3 w' w.heap.size (fun k_ => (w.heap.size ≤ k_)) v180 x7_1) ∧ Aside0 (Kd.V (Kd.int .i64) 3 w' w.heap.size (fun k_ => (P0_0_ k_ ∨ w.heap.size ≤ k_) ∧ some k_ ≠ (v180 : Value).ownBlock ∧ some k_ ≠ (uZ2 : Value).ownBlock ∧ k_ ≠ gb174 ∧ k_ ≠ gb178) (.slice A0_0 l0_0.length c0_0) l0_0) ∧ Aside0 (Kd.R Kd.bool 4 w' w.heap.size (fun k_ => (w.heap.size ≤ k_)) uZ2 xZ2_1) ∧ Aside0 (w'.heap[gb174]? = some (.cells #[(.slice A0_0 l0_0.length c0_0), (.slice A0_1 l0_1.length c0_1)] 25 (0, 0))) ∧ Aside0 (w'.heap[gb178]? = some (.cells #[uZ2] 78 (0, 0))) ∧ Aside0 (Below w.heap.size w w'))
   case atStart => exact ⟨(t179), (0), (y175), (.slice Ao11 y175.length co11), rS, H', ⟨Nat.le_refl _⟩, ⟨by (with_reducible repeat (first | apply Kd.R_alloc | apply Kd.R_drewN | apply Kd.R_drew)); exact Kd.R_mono HO181.out (fun _ hk => hk.1)⟩, ⟨by (with_reducible repeat (first | apply Kd.V_alloc | apply Kd.V_drewN | apply Kd.V_drew)); exact Kd.V_mono HO0_0.out (fun _ hk => ⟨hk.1.1.1.1, ⟨hk.2, ⟨hk.1.1.2, ⟨hk.1.1.1.2, hk.1.2⟩⟩⟩⟩)⟩, ⟨by (with_reducible repeat (first | apply Kd.R_alloc | apply Kd.R_drewN | apply Kd.R_drew)); exact Kd.R_mono HO177.out (fun _ hk => hk.1)⟩, ⟨kU BK174.out⟩, ⟨kU BK178.out⟩, ⟨bU2 HB.out GE174.out GE178.out⟩⟩
   case round =>
    clear H'; (try clear c1); (try clear p2); (try clear c3); (try clear c3b0); (try clear c3b1); (try clear c4); (try clear c4b0); (try clear c4b1); (try clear c6); (try clear c10); (try clear c12); (try clear hcz13_0); (try clear hcz7_0); (try clear hcz7_1); (try clear hfz13_0); (try clear hfz7_0); (try clear hfz7_1); obtain ⟨x7_1, x32_1, xZ2_1, uZ2, rfl, HA, HK1, HO_7, HO_Z0, HO_Z2, BK174, BK178, HB⟩ := hrel
    cases gk with
    | zero => exact absurd HA.out (by simp [impl_ribbon.l0])
    | succ k1 =>
     have H := HA.out; clear HA; simp only [impl_ribbon.l0] at H
     by_cases c15 : x32_1 < (l1.length : Int)
     ·
      rw [if_pos c15] at H; have c15b0 : decide (x32_1 < (l1.length : Int)) = true := decide_eq_true c15; clear c15
      by_cases c16 : 0 ≤ x32_1
      ·
       rw [if_pos c16] at H; have c16b0 : decide (0 ≤ x32_1) = true := decide_eq_true c16; clear c16
       by_cases c17 : x32_1 < (l1.length : Int)
       ·
        rw [if_pos c17] at H; have c17b0 : decide (x32_1 < (l1.length : Int)) = true := decide_eq_true c17; clear c17; replace H := Option.bind_eq_some_iff.mp H; obtain ⟨t183, A180, H⟩ := H; replace H : (if 0 ≤ (rd l1 x32_1) then (if (rd l1 x32_1) < (t183.length : Int) then (if 0 ≤ (rd t183 (rd l1 x32_1)) then (if (rd t183 (rd l1 x32_1)) < (l0_1.length : Int) then (if (rd t183 (rd l1 x32_1)) < (xZ2_1.length : Int) then (if 0 ≤ (rd l0_1 (rd t183 (rd l1 x32_1))) then (if (rd l0_1 (rd t183 (rd l1 x32_1))) < (xZ2_1.length : Int) then (if (rd t183 (rd l1 x32_1)) < (x7_1.length : Int) then (if (rd l0_1 (rd t183 (rd l1 x32_1))) < (x7_1.length : Int) then (impl_ribbon.l0 k1 l1 (l0_0.length : Int) ((x7_1.set ((rd t183 (rd l1 x32_1)) : Int).toNat (rd l0_1 (rd t183 (rd l1 x32_1)))).set ((rd l0_1 (rd t183 (rd l1 x32_1))) : Int).toNat (rd t183 (rd l1 x32_1))) l1 (l1.length : Int) (wrap64 (x32_1 + 1)) l0_0 l0_1 ((xZ2_1.set ((rd t183 (rd l1 x32_1)) : Int).toNat true).set ((rd l0_1 (rd t183 (rd l1 x32_1))) : Int).toNat true)) else (none)) else (none)) else (none)) else (none)) else (none)) else (none)) else (none)) else (none)) else (none)) = some r := H; have A18 := Az A180; clear A180
        by_cases c19 : 0 ≤ (rd l1 x32_1)
        ·
         rw [if_pos c19] at H; have c19b0 : decide (0 ≤ (rd l1 x32_1)) = true := decide_eq_true c19; clear c19
         by_cases c20 : (rd l1 x32_1) < (t183.length : Int)
         ·
          rw [if_pos c20] at H; have c20b0 : decide ((rd l1 x32_1) < (t183.length : Int)) = true := decide_eq_true c20; clear c20
          by_cases c21 : 0 ≤ (rd t183 (rd l1 x32_1))
          ·
           rw [if_pos c21] at H; have c21b0 : decide (0 ≤ (rd t183 (rd l1 x32_1))) = true := decide_eq_true c21; clear c21
           by_cases c22 : (rd t183 (rd l1 x32_1)) < (l0_1.length : Int)
           ·
            rw [if_pos c22] at H; have c22b0 : decide ((rd t183 (rd l1 x32_1)) < (l0_1.length : Int)) = true := decide_eq_true c22; clear c22
            by_cases c23 : (rd t183 (rd l1 x32_1)) < (xZ2_1.length : Int)
            ·
             rw [if_pos c23] at H; have c23b0 : decide ((rd t183 (rd l1 x32_1)) < (xZ2_1.length : Int)) = true := decide_eq_true c23; clear c23; obtain ⟨y188, hy188⟩ : ∃ y_ : List Bool, y_ = (xZ2_1.set ((rd t183 (rd l1 x32_1)) : Int).toNat true) := ⟨_, rfl⟩; replace H : (if 0 ≤ (rd l0_1 (rd t183 (rd l1 x32_1))) then (if (rd l0_1 (rd t183 (rd l1 x32_1))) < (xZ2_1.length : Int) then (if (rd t183 (rd l1 x32_1)) < (x7_1.length : Int) then (if (rd l0_1 (rd t183 (rd l1 x32_1))) < (x7_1.length : Int) then (impl_ribbon.l0 k1 l1 (l0_0.length : Int) ((x7_1.set ((rd t183 (rd l1 x32_1)) : Int).toNat (rd l0_1 (rd t183 (rd l1 x32_1)))).set ((rd l0_1 (rd t183 (rd l1 x32_1))) : Int).toNat (rd t183 (rd l1 x32_1))) l1 (l1.length : Int) (wrap64 (x32_1 + 1)) l0_0 l0_1 (y188.set ((rd l0_1 (rd t183 (rd l1 x32_1))) : Int).toNat true)) else (none)) else (none)) else (none)) else (none)) = some r := hR hy188 H; have Ny188 := Az hy188; clear hy188
             by_cases c25 : 0 ≤ (rd l0_1 (rd t183 (rd l1 x32_1)))
             ·
              rw [if_pos c25] at H; have c25b0 : decide (0 ≤ (rd l0_1 (rd t183 (rd l1 x32_1)))) = true := decide_eq_true c25; clear c25
              by_cases c26 : (rd l0_1 (rd t183 (rd l1 x32_1))) < (xZ2_1.length : Int)
              ·
               rw [if_pos c26] at H; have c26b0 : decide ((rd l0_1 (rd t183 (rd l1 x32_1))) < (xZ2_1.length : Int)) = true := decide_eq_true c26; clear c26; obtain ⟨y189, hy189⟩ : ∃ y_ : List Bool, y_ = (y188.set ((rd l0_1 (rd t183 (rd l1 x32_1))) : Int).toNat true) := ⟨_, rfl⟩; replace H : (if (rd t183 (rd l1 x32_1)) < (x7_1.length : Int) then (if (rd l0_1 (rd t183 (rd l1 x32_1))) < (x7_1.length : Int) then (impl_ribbon.l0 k1 l1 (l0_0.length : Int) ((x7_1.set ((rd t183 (rd l1 x32_1)) : Int).toNat (rd l0_1 (rd t183 (rd l1 x32_1)))).set ((rd l0_1 (rd t183 (rd l1 x32_1))) : Int).toNat (rd t183 (rd l1 x32_1))) l1 (l1.length : Int) (wrap64 (x32_1 + 1)) l0_0 l0_1 y189) else (none)) else (none)) = some r := hR hy189 H; have Ny189 := Az hy189; clear hy189
               by_cases c28 : (rd t183 (rd l1 x32_1)) < (x7_1.length : Int)
               ·
                rw [if_pos c28] at H; have c28b0 : decide ((rd t183 (rd l1 x32_1)) < (x7_1.length : Int)) = true := decide_eq_true c28; clear c28; obtain ⟨y190, hy190⟩ : ∃ y_ : List Int, y_ = (x7_1.set ((rd t183 (rd l1 x32_1)) : Int).toNat (rd l0_1 (rd t183 (rd l1 x32_1)))) := ⟨_, rfl⟩; replace H : (if (rd l0_1 (rd t183 (rd l1 x32_1))) < (x7_1.length : Int) then (impl_ribbon.l0 k1 l1 (l0_0.length : Int) (y190.set ((rd l0_1 (rd t183 (rd l1 x32_1))) : Int).toNat (rd t183 (rd l1 x32_1))) l1 (l1.length : Int) (wrap64 (x32_1 + 1)) l0_0 l0_1 y189) else (none)) = some r := hR hy190 H; have Ny190 := Az hy190; clear hy190
                by_cases c30 : (rd l0_1 (rd t183 (rd l1 x32_1))) < (x7_1.length : Int)
                ·
                 rw [if_pos c30] at H; have c30b0 : decide ((rd l0_1 (rd t183 (rd l1 x32_1))) < (x7_1.length : Int)) = true := decide_eq_true c30; clear c30; obtain ⟨y191, hy191⟩ : ∃ y_ : List Int, y_ = (y190.set ((rd l0_1 (rd t183 (rd l1 x32_1))) : Int).toNat (rd t183 (rd l1 x32_1))) := ⟨_, rfl⟩; replace H : (impl_ribbon.l0 k1 l1 (l0_0.length : Int) y191 l1 (l1.length : Int) (wrap64 (x32_1 + 1)) l0_0 l0_1 y189) = some r := hR hy191 H; have Ny191 := Az hy191; clear hy191; have H' := Az H; clear H; have p182 : 0 ≤ (x32_1 : Int) := oA; have q182 : x32_1 < (l1.length : Int) := oA; obtain ⟨ad182, e182, hx182_0⟩ := Kd.at_int HR1.out x32_1 p182 q182
                 cases e182
                 (try replace hx182_0 := (HB.out.cell (World.block_lt_of_cell? w _ hx182_0)).trans hx182_0); replace p182 := eq_true p182; replace q182 := eq_true q182; have hnb32 := NB174_178.out; have hnc32 := NB178_174.out; have hcz33_0 : wr.cell? ⟨gb174, 0, none⟩ = some (.slice A0_0 l0_0.length c0_0) := (blk_cell BK174.out 0).trans rfl; have hcz33_1 : wr.cell? ⟨gb174, 1, none⟩ = some (.slice A0_1 l0_1.length c0_1) := (blk_cell BK174.out 1).trans rfl; have hfz33_0 := blk_frozen BK174.out 0; have hfz33_1 := blk_frozen BK174.out 1
                 try go_wp2_with (first | ((with_reducible refine gate_callee (f := 83) rfl ?_); refine goesL_ (some 37) rfl rfl Try.func83 (by kernel_rfl) rfl #[.agg #[.slice A0_0 l0_0.length c0_0, .slice A0_1 l0_1.length c0_1]] rfl (by (try simp only [List.map_toArray, List.map_cons, List.map_nil]); first | done | rfl | (simp only [List.length_drop, List.length_take]; rfl)) ?_; (with_reducible refine (impl_edgesOf.calls k1 _ _ l0_0 _ _ l0_1 t183 _ ?side1 ?side2 ?side3 ?side4 A18.out).mono ?_); (case side1 => exact cU ((Kd.V_reads' HO_Z0.out).2.2)); (case side2 => exact (Kd.V_reads' HO_Z0.out).2.1); (case side3 => exact cU (Kd.C_below HR0_1.out HB.out)); (case side4 => exact HC0_1.out); rintro e w34 ⟨v184, rfl, ho0, hb⟩; refine ⟨_, rfl, ?_⟩; have n0 := Az (Kd.R_elder' (rU HO_7.out) (Kd.R_base ho0) hb); have n1 := Az (Kd.V_elder' (vU HO_Z0.out) (Kd.R_base ho0) hb); have n2 := Az (Kd.R_below (rU HO_Z2.out) hb); have n3 := Az (Kd.R_lower (Kd.R_new' (Kd.R_newM (M := fun k_ => (w.heap.size ≤ k_)) ho0 (below_size (bU2 HB.out GE174.out GE178.out)) (fun k_ h_ => h_)) (Kd.R_lt (rU HO_7.out))) (below_size (bU2 HB.out GE174.out GE178.out))); have n4 := Az (blk_below (g := gb174) (o := .cells #[.slice A0_0 l0_0.length c0_0, .slice A0_1 l0_1.length c0_1] 25 (0, 0)) (kU BK174.out) hb); have n5 := Az (blk_below (g := gb178) (o := .cells #[uZ2] 78 (0, 0)) (kU BK178.out) hb); have n6 := Az (below_step (bU2 HB.out GE174.out GE178.out) hb); clear HO_7 HO_Z0 HO_Z2 BK174 BK178 HB; have HO_7 := n0; have HO_Z0 := n1; have HO_Z2 := n2; have HO185 := n3; have BK174 := n4; have BK178 := n5; have HB := n6; clear n0 n1 n2 n3 n4 n5 n6; (try clear hb); (try clear hb2); (try clear hk); (try clear hi); (try clear ho0); obtain ⟨Ao35, co35, eo35⟩ := Kd.R_slice HO185.out; subst eo35; have p186 : 0 ≤ ((rd l1 x32_1) : Int) := oA; have q186 : (rd l1 x32_1) < (t183.length : Int) := oA; obtain ⟨ad186, e186, hx186_0⟩ := Kd.at_int (Kd.R_reads' HO185.out).2.2 (rd l1 x32_1) p186 q186; cases e186; replace p186 := eq_true p186; replace q186 := eq_true q186; have hcz36_0 : w34.cell? ⟨gb174, 0, none⟩ = some (.slice A0_0 l0_0.length c0_0) := (blk_cell BK174.out 0).trans rfl; have hcz36_1 : w34.cell? ⟨gb174, 1, none⟩ = some (.slice A0_1 l0_1.length c0_1) := (blk_cell BK174.out 1).trans rfl; have hfz36_0 := blk_frozen BK174.out 0; have hfz36_1 := blk_frozen BK174.out 1; have p187 : 0 ≤ ((rd t183 (rd l1 x32_1)) : Int) := oA; have q187 : (rd t183 (rd l1 x32_1)) < (l0_1.length : Int) := oA; obtain ⟨ad187, e187, hx187_0⟩ := Kd.at_int HR0_1.out (rd t183 (rd l1 x32_1)) p187 q187; cases e187; replace hx187_0 := (HB.out.cell (World.block_lt_of_cell? w _ hx187_0)).trans hx187_0; replace p187 := eq_true p187; replace q187 := eq_true q187))
                 have n0 := Az (Kd.R_drew HO_7.out); have n1 := Az (Kd.V_drew HO_Z0.out); have n2 := Az (Kd.R_drew HO_Z2.out); have n3 := Az (Kd.R_drew HO185.out); have n4 := Az (blk_drew BK174.out); have n5 := Az (blk_drew BK178.out); have n6 := Az (below_drew1 HB.out); clear HO_7 HO_Z0 HO_Z2 HO185 BK174 BK178 HB; have HO_7 := n0; have HO_Z0 := n1; have HO_Z2 := n2; have HO185 := n3; have BK174 := n4; have BK178 := n5; have HB := n6; clear n0 n1 n2 n3 n4 n5 n6; have p24 : 0 ≤ ((rd t183 (rd l1 x32_1)) : Int) := oA; have q24 : ((rd t183 (rd l1 x32_1)) : Int) < ((xZ2_1.length : Int) : Int) := oA; obtain ⟨go24, co24, eo24, gb24, gl24, cl24, HG24⟩ := Kd.R_form HO_Z2.out (by omega); (first | cases eo24 | (injection eo24 with ea_ en_ ec_; (first | subst ea_ | (injection ea_ with ea_; subst ea_)); subst ec_; clear en_)); have GB24 := Az gb24; have GG24 := Az HG24; clear gb24 gl24 HG24; obtain ⟨hx24_0, hf24_0⟩ := Kd.R_celln false HO_Z2.out ((rd t183 (rd l1 x32_1)) : Int) p24 q24; replace p24 := eq_true p24; replace q24 := eq_true q24; have HP38 := Kd.R_putn HO_Z2.out ((rd t183 (rd l1 x32_1)) : Int) true; rw [← Ny188.out] at HP38; have HQ38 := Az HP38; clear HP38; have p27 : 0 ≤ ((rd l0_1 (rd t183 (rd l1 x32_1))) : Int) := oA; have q27 : ((rd l0_1 (rd t183 (rd l1 x32_1))) : Int) < ((xZ2_1.length : Int) : Int) := oA; obtain ⟨hx27_0, hf27_0⟩ := Kd.R_celln false HQ38.out ((rd l0_1 (rd t183 (rd l1 x32_1))) : Int) p27 q27; replace p27 := eq_true p27; replace q27 := eq_true q27; have HP39 := Kd.R_putn HQ38.out ((rd l0_1 (rd t183 (rd l1 x32_1))) : Int) true; rw [← Ny189.out] at HP39; have HQ39 := Az HP39; clear HP39
                 refine start_ (n := 8) (S := fun w' => w'.cell? ⟨gb178, 0, none⟩ = some (.slice (some ⟨go24, 0, none⟩) xZ2_1.length co24)) (ds := [7]) #[false, false, false, false, false, false, false, false] (by kernel_rfl) rfl rfl ((blk_cell BK178.out 0).trans rfl) (fun hHeld => ?_); refine with_tabW impl_ribbon.tab9 impl_ribbon.bits9 (fun HT_ HW_ => ?_)
                 generalize w34.drew = w37 at HO_7 HO_Z0 HO_Z2 HO185 BK174 BK178 HB GG24 HQ38 HQ39 hf24_0 hf27_0 hx24_0 hx27_0 hHeld ⊢
                 refine pure_ (i := 1) (N := some 47) (v := ?_) (a' := ?_) #[false, true, false, false, false, false, false, false] rfl rfl (any_of HT_.out (by kernel_rfl)) (fun _ _ _ h => h) (Or.inl ⟨by rfl, ?_⟩) ?_ ?_
                 rotate_left
                 ·
                  intro w'
                  go_simp
                  with_reducible rfl
                 rotate_left
                 ·
                  simp only [Act.put, List.setIfInBounds_toArray, List.set_cons_zero, List.set_cons_succ, i64_w, i32_w]
                  rfl
                 refine pure_ (i := 3) (N := some 49) (v := ?_) (a' := ?_) #[false, true, false, true, false, false, false, false] rfl rfl (any_of HT_.out (by kernel_rfl)) (fun _ _ _ h => h) (Or.inl ⟨by rfl, ?_⟩) ?_ ?_
                 rotate_left
                 ·
                  intro w'
                  go_simp
                  with_reducible rfl
                 rotate_left
                 ·
                  simp only [Act.put, List.setIfInBounds_toArray, List.set_cons_zero, List.set_cons_succ, i64_w, i32_w]
                  rfl
                 refine take_ (i := 0) (N := some 46) (v := ?_) (a' := ?_) #[true, true, false, true, false, false, false, false] rfl rfl (take_ofW HT_.out HW_.out (by kernel_rfl)) (fun _ _ _ h => h) (Or.inl ⟨by rfl, ?_⟩) hHeld ?_ ?_
                 rotate_left
                 ·
                  intro w' s0
                  go_simp
                  with_reducible rfl
                 rotate_left
                 ·
                  simp only [Act.put, List.setIfInBounds_toArray, List.set_cons_zero, List.set_cons_succ, i64_w, i32_w]
                  rfl
                 refine pure_ (i := 4) (N := some 50) (v := ?_) (a' := ?_) #[true, true, false, true, true, false, false, false] rfl rfl (any_of HT_.out (by kernel_rfl)) (fun _ _ _ h => h) (Or.inl ⟨by rfl, ?_⟩) ?_ ?_
                 rotate_left
                 ·
                  intro w'
                  go_simp
                  with_reducible rfl
                 rotate_left
                 ·
                  simp only [Act.put, List.setIfInBounds_toArray, List.set_cons_zero, List.set_cons_succ, i64_w, i32_w]
                  rfl
                 refine take_ (i := 2) (N := some 48) (v := ?_) (a' := ?_) #[true, true, true, true, true, false, false, false] rfl rfl (take_ofW HT_.out HW_.out (by kernel_rfl)) (fun _ _ _ h => h) (Or.inl ⟨by rfl, ?_⟩) hHeld ?_ ?_
                 rotate_left
                 ·
                  intro w' s0
                  go_simp
                  with_reducible rfl
                 rotate_left
                 ·
                  simp only [Act.put, List.setIfInBounds_toArray, List.set_cons_zero, List.set_cons_succ, i64_w, i32_w]
                  rfl
                 refine one_ (i := 5) (N := none) #[true, true, true, true, true, true, false, false] rfl rfl (one_of HT_.out (by kernel_rfl)) (by decide) (fun K hK => ?_)
                 refine skip_ (w1 := ?_) (by rfl) rfl ?_ ?_
                 rotate_left
                 ·
                  go_simp
                  rfl
                 refine hK.out _ _ (((cell_far (p := ⟨go24, _, none⟩) (by have h_ := Kd.R_ne HO_Z2.out BK178.out (by decide); intro e_; exact h_ (by first | exact congrArg some e_ | (rw [e_]; rfl))) _).trans (hHeld))) (fun hHeld => ?_)
                 clear hK K
                 refine pure_ (i := 6) (N := some 51) (v := ?_) (a' := ?_) #[true, true, true, true, true, true, true, false] rfl rfl (any_of HT_.out (by kernel_rfl)) (fun _ _ _ h => h) (Or.inl ⟨by rfl, ?_⟩) ?_ ?_
                 rotate_left
                 ·
                  intro w'
                  go_simp
                  with_reducible rfl
                 rotate_left
                 ·
                  simp only [Act.put, List.setIfInBounds_toArray, List.set_cons_zero, List.set_cons_succ, i64_w, i32_w]
                  rfl
                 refine last_ (i := 7) (N := none) #[true, true, true, true, true, true, true, true] rfl rfl (one_of HT_.out (by kernel_rfl)) (by decide) (fun K hK => ?_)
                 refine skip_ (w1 := ?_) (by rfl) rfl ?_ ?_
                 rotate_left
                 ·
                  go_simp
                  rfl
                 refine hK.out _ _ ?_
                 clear hK K
                 refine done_ (done_of HT_.out (by kernel_rfl)) ?_
                 have n0 : Aside0 (Kd.R (Kd.int .i64) 3 ((w37.setCell ⟨go24, ((rd t183 (rd l1 x32_1)) : Int).toNat, none⟩ (.bool true)).setCell ⟨go24, ((rd l0_1 (rd t183 (rd l1 x32_1))) : Int).toNat, none⟩ (.bool true)) w.heap.size (fun k_ => (w.heap.size ≤ k_) ∧ some k_ ≠ (.slice (some ad186) t183.length co35 : Value).ownBlock) v180 x7_1) := ⟨by (with_reducible repeat (first | apply Kd.R_alloc | apply Kd.R_drewN | apply Kd.R_drew)); exact Kd.R_mono (Kd.R_far (p := ⟨go24, ((rd l0_1 (rd t183 (rd l1 x32_1))) : Int).toNat, none⟩) (Kd.R_far (p := ⟨go24, ((rd t183 (rd l1 x32_1)) : Int).toNat, none⟩) (Kd.R_types HO_7.out GG24.out (by decide)) (fun _ hk => hk.2) (.bool true)) (fun _ hk => hk.2) (.bool true)) (fun _ hk => ⟨hk.1.1, hk.1.2⟩)⟩; have n1 : Aside0 (Kd.V (Kd.int .i64) 3 ((w37.setCell ⟨go24, ((rd t183 (rd l1 x32_1)) : Int).toNat, none⟩ (.bool true)).setCell ⟨go24, ((rd l0_1 (rd t183 (rd l1 x32_1))) : Int).toNat, none⟩ (.bool true)) w.heap.size (fun k_ => (P0_0_ k_ ∨ w.heap.size ≤ k_) ∧ some k_ ≠ (v180 : Value).ownBlock ∧ some k_ ≠ (.slice (some ⟨go24, 0, none⟩) xZ2_1.length co24 : Value).ownBlock ∧ some k_ ≠ (.slice (some ad186) t183.length co35 : Value).ownBlock ∧ k_ ≠ gb174 ∧ k_ ≠ gb178) (.slice A0_0 l0_0.length c0_0) l0_0) := ⟨by (with_reducible repeat (first | apply Kd.V_alloc | apply Kd.V_drewN | apply Kd.V_drew)); exact Kd.V_mono (Kd.V_far (p := ⟨go24, ((rd l0_1 (rd t183 (rd l1 x32_1))) : Int).toNat, none⟩) (Kd.V_far (p := ⟨go24, ((rd t183 (rd l1 x32_1)) : Int).toNat, none⟩) (Kd.V_mono HO_Z0.out (fun k_ hk => (⟨hk, fun e_ => hk.1.2.2.1 (by rw [e_]; rfl)⟩ : _ ∧ k_ ≠ go24))) (fun _ hk => hk.2) (.bool true)) (fun _ hk => hk.2) (.bool true)) (fun _ hk => ⟨hk.1.1.1, ⟨hk.1.1.2.1, ⟨hk.1.1.2.2.1, ⟨hk.1.2, ⟨hk.1.1.2.2.2.1, hk.1.1.2.2.2.2⟩⟩⟩⟩⟩)⟩; have n2 : Aside0 (Kd.R Kd.bool 4 ((w37.setCell ⟨go24, ((rd t183 (rd l1 x32_1)) : Int).toNat, none⟩ (.bool true)).setCell ⟨go24, ((rd l0_1 (rd t183 (rd l1 x32_1))) : Int).toNat, none⟩ (.bool true)) w.heap.size (fun k_ => (w.heap.size ≤ k_)) (.slice (some ⟨go24, 0, none⟩) xZ2_1.length co24) y189) := ⟨rU HQ39.out⟩; have n3 : Aside0 (Kd.R (Kd.int .i64) 3 ((w37.setCell ⟨go24, ((rd t183 (rd l1 x32_1)) : Int).toNat, none⟩ (.bool true)).setCell ⟨go24, ((rd l0_1 (rd t183 (rd l1 x32_1))) : Int).toNat, none⟩ (.bool true)) w.heap.size (fun k_ => (w.heap.size ≤ k_) ∧ some k_ ≠ (v180 : Value).ownBlock) (.slice (some ad186) t183.length co35) t183) := ⟨by (with_reducible repeat (first | apply Kd.R_alloc | apply Kd.R_drewN | apply Kd.R_drew)); exact Kd.R_mono (Kd.R_far (p := ⟨go24, ((rd l0_1 (rd t183 (rd l1 x32_1))) : Int).toNat, none⟩) (Kd.R_far (p := ⟨go24, ((rd t183 (rd l1 x32_1)) : Int).toNat, none⟩) (Kd.R_types HO185.out GG24.out (by decide)) (fun _ hk => hk.2) (.bool true)) (fun _ hk => hk.2) (.bool true)) (fun _ hk => ⟨hk.1.1.1, hk.1.2⟩)⟩; have n4 : Aside0 (((w37.setCell ⟨go24, ((rd t183 (rd l1 x32_1)) : Int).toNat, none⟩ (.bool true)).setCell ⟨go24, ((rd l0_1 (rd t183 (rd l1 x32_1))) : Int).toNat, none⟩ (.bool true)).heap[gb174]? = some (.cells #[.slice A0_0 l0_0.length c0_0, .slice (some ad187) l0_1.length c0_1] 25 (0, 0))) := ⟨by (with_reducible repeat (first | refine blk_drewN ?_ _ | refine blk_drew ?_ | refine blk_alloc ?_ _)); refine blk_far ?_ (by have h_ := Kd.R_ne HO_Z2.out BK174.out (by decide); intro e_; exact h_ (by rw [e_]; rfl)) _; (with_reducible repeat (first | refine blk_drewN ?_ _ | refine blk_drew ?_ | refine blk_alloc ?_ _)); refine blk_far ?_ (by have h_ := Kd.R_ne HO_Z2.out BK174.out (by decide); intro e_; exact h_ (by rw [e_]; rfl)) _; (with_reducible repeat (first | refine blk_drewN ?_ _ | refine blk_drew ?_ | refine blk_alloc ?_ _)); exact BK174.out⟩; have n5 : Aside0 (((w37.setCell ⟨go24, ((rd t183 (rd l1 x32_1)) : Int).toNat, none⟩ (.bool true)).setCell ⟨go24, ((rd l0_1 (rd t183 (rd l1 x32_1))) : Int).toNat, none⟩ (.bool true)).heap[gb178]? = some (.cells #[.slice (some ⟨go24, 0, none⟩) xZ2_1.length co24] 78 (0, 0))) := ⟨by (with_reducible repeat (first | refine blk_drewN ?_ _ | refine blk_drew ?_ | refine blk_alloc ?_ _)); refine blk_far ?_ (by have h_ := Kd.R_ne HO_Z2.out BK178.out (by decide); intro e_; exact h_ (by rw [e_]; rfl)) _; (with_reducible repeat (first | refine blk_drewN ?_ _ | refine blk_drew ?_ | refine blk_alloc ?_ _)); refine blk_far ?_ (by have h_ := Kd.R_ne HO_Z2.out BK178.out (by decide); intro e_; exact h_ (by rw [e_]; rfl)) _; (with_reducible repeat (first | refine blk_drewN ?_ _ | refine blk_drew ?_ | refine blk_alloc ?_ _)); exact BK178.out⟩; have n6 : Aside0 (Below w.heap.size w ((w37.setCell ⟨go24, ((rd t183 (rd l1 x32_1)) : Int).toNat, none⟩ (.bool true)).setCell ⟨go24, ((rd l0_1 (rd t183 (rd l1 x32_1))) : Int).toNat, none⟩ (.bool true))) := ⟨bU4 HB.out GB24.out GB24.out GE174.out GE178.out⟩; (try clear HO_7); (try clear HO_Z0); (try clear HO_Z2); (try clear HO185); (try clear BK174); (try clear BK178); (try clear HB)
                 generalize ((w37.setCell ⟨go24, ((rd t183 (rd l1 x32_1)) : Int).toNat, none⟩ (.bool true)).setCell ⟨go24, ((rd l0_1 (rd t183 (rd l1 x32_1))) : Int).toNat, none⟩ (.bool true)) = w40 at n0 n1 n2 n3 n4 n5 n6 ⊢
                 have HO_7 := n0; have HO_Z0 := n1; have HO_Z2 := n2; have HO185 := n3; have BK174 := n4; have BK178 := n5; have HB := n6; clear n0 n1 n2 n3 n4 n5 n6; have p29 : 0 ≤ ((rd t183 (rd l1 x32_1)) : Int) := oA; have q29 : ((rd t183 (rd l1 x32_1)) : Int) < ((x7_1.length : Int) : Int) := oA; obtain ⟨go29, co29, eo29, gb29, gl29, cl29, HG29⟩ := Kd.R_form HO_7.out (by omega); (first | cases eo29 | (injection eo29 with ea_ en_ ec_; (first | subst ea_ | (injection ea_ with ea_; subst ea_)); subst ec_; clear en_)); have GB29 := Az gb29; have GG29 := Az HG29; clear gb29 gl29 HG29; obtain ⟨hx29_0, hf29_0⟩ := Kd.R_celln 0 HO_7.out ((rd t183 (rd l1 x32_1)) : Int) p29 q29; replace p29 := eq_true p29; replace q29 := eq_true q29; obtain ⟨hy41_, hz41_⟩ := Kd.R_celln 0 HO_7.out ((rd t183 (rd l1 x32_1)) : Int) (oA) (oA); have HP41 := Kd.R_putg HO_7.out ((rd t183 (rd l1 x32_1)) : Int) (rd l0_1 (rd t183 (rd l1 x32_1)))
                 try go_wp2_with (first | ((with_reducible refine gate_store (t := 3) (p := 58) rfl ?_); refine store_event (t := 3) (p := 58) (v := ?vo_w42) (w1 := (w40.setCell ⟨go29, ((rd t183 (rd l1 x32_1)) : Int).toNat, none⟩ (.int .i64 (rd l0_1 (rd t183 (rd l1 x32_1)))))) ?hg ?ho ?hn ?hr ?_; (case ho => rfl); (case hg => rfl); (case hn => rfl); (case hr => first | (go_simp; done) | (go_simp; rfl)); intro w42 hw; have hg : w40.grownBy w42 (some go29) := (by rw [hw]; exact HP41.2); have hp_ : Kd.R (Kd.int .i64) 3 w42 w.heap.size (fun k_ => (w.heap.size ≤ k_) ∧ some k_ ≠ (.slice (some ad186) t183.length co35 : Value).ownBlock) (.slice (some ⟨go29, 0, none⟩) x7_1.length co29) y190 := (by rw [hw, Ny190.out]; exact HP41.1); clear HP41; have n0 := Az (hp_); have n1 := Az (Kd.V_afterv (v := (.slice (some ⟨go29, 0, none⟩) x7_1.length co29)) (v1 := (.slice (some ⟨go29, 0, none⟩) x7_1.length co29)) (ok := (fun k_ => (P0_0_ k_ ∨ w.heap.size ≤ k_) ∧ some k_ ≠ (.slice (some ⟨go24, 0, none⟩) xZ2_1.length co24 : Value).ownBlock ∧ some k_ ≠ (.slice (some ad186) t183.length co35 : Value).ownBlock ∧ k_ ≠ gb174 ∧ k_ ≠ gb178)) (by (with_reducible repeat (first | apply Kd.V_alloc | apply Kd.V_drewN | apply Kd.V_drew)); exact Kd.V_mono HO_Z0.out (fun _ hk => ⟨⟨hk.1, ⟨hk.2.2.1, ⟨hk.2.2.2.1, ⟨hk.2.2.2.2.1, hk.2.2.2.2.2⟩⟩⟩⟩, hk.2.1⟩)) hg (.inl rfl)); have n2 := Az (Kd.R_over' (v := (.slice (some ⟨go29, 0, none⟩) x7_1.length co29)) (rU HO_Z2.out) (Kd.R_typed HO_7.out) (by decide) hg); have n3 := Az (blk_grown (g := gb174) (o := .cells #[.slice A0_0 l0_0.length c0_0, .slice (some ad187) l0_1.length c0_1] 25 (0, 0)) (kU BK174.out) hg (Kd.R_ne HO_7.out BK174.out (by decide))); have n4 := Az (blk_grown (g := gb178) (o := .cells #[.slice (some ⟨go24, 0, none⟩) xZ2_1.length co24] 78 (0, 0)) (kU BK178.out) hg (Kd.R_ne HO_7.out BK178.out (by decide))); have n5 := Az (Kd.R_after (v := (.slice (some ⟨go29, 0, none⟩) x7_1.length co29)) (v1 := (.slice (some ⟨go29, 0, none⟩) x7_1.length co29)) (ok := (fun k_ => (w.heap.size ≤ k_))) (rU HO185.out) hg (.inl rfl)); have n6 := Az ((by rw [hw]; exact below_set (HB.out) GB29.out : Below w.heap.size w w42)); clear HO_7 HO_Z0 HO_Z2 BK174 BK178 HO185 HB; have HO_7 := n0; have HO_Z0 := n1; have HO_Z2 := n2; have BK174 := n3; have BK178 := n4; have HO185 := n5; have HB := n6; clear n0 n1 n2 n3 n4 n5 n6 hg hw hp_; have p31 : 0 ≤ ((rd l0_1 (rd t183 (rd l1 x32_1))) : Int) := oA; have q31 : ((rd l0_1 (rd t183 (rd l1 x32_1))) : Int) < ((x7_1.length : Int) : Int) := oA; obtain ⟨hx31_0, hf31_0⟩ := Kd.R_celln 0 HO_7.out ((rd l0_1 (rd t183 (rd l1 x32_1))) : Int) p31 q31; replace p31 := eq_true p31; replace q31 := eq_true q31; obtain ⟨hy43_, hz43_⟩ := Kd.R_celln 0 HO_7.out ((rd l0_1 (rd t183 (rd l1 x32_1))) : Int) (oA) (oA); have HP43 := Kd.R_putg HO_7.out ((rd l0_1 (rd t183 (rd l1 x32_1))) : Int) (rd t183 (rd l1 x32_1))) | ((with_reducible refine gate_store (t := 3) (p := 59) rfl ?_); refine store_event (t := 3) (p := 59) (v := ?vo_w44) (w1 := (w42.setCell ⟨go29, ((rd l0_1 (rd t183 (rd l1 x32_1))) : Int).toNat, none⟩ (.int .i64 (rd t183 (rd l1 x32_1))))) ?hg ?ho ?hn ?hr ?_; (case ho => rfl); (case hg => rfl); (case hn => rfl); (case hr => first | (go_simp; done) | (go_simp; rfl)); intro w44 hw; have hg : w42.grownBy w44 (some go29) := (by rw [hw]; exact HP43.2); have hp_ : Kd.R (Kd.int .i64) 3 w44 w.heap.size (fun k_ => (w.heap.size ≤ k_) ∧ some k_ ≠ (.slice (some ad186) t183.length co35 : Value).ownBlock) (.slice (some ⟨go29, 0, none⟩) x7_1.length co29) y191 := (by rw [hw, Ny191.out]; exact HP43.1); clear HP43; have n0 := Az (hp_); have n1 := Az (Kd.V_afterv (v := (.slice (some ⟨go29, 0, none⟩) x7_1.length co29)) (v1 := (.slice (some ⟨go29, 0, none⟩) x7_1.length co29)) (ok := (fun k_ => (P0_0_ k_ ∨ w.heap.size ≤ k_) ∧ some k_ ≠ (.slice (some ⟨go24, 0, none⟩) xZ2_1.length co24 : Value).ownBlock ∧ some k_ ≠ (.slice (some ad186) t183.length co35 : Value).ownBlock ∧ k_ ≠ gb174 ∧ k_ ≠ gb178)) (vU HO_Z0.out) hg (.inl rfl)); have n2 := Az (Kd.R_over' (v := (.slice (some ⟨go29, 0, none⟩) x7_1.length co29)) (rU HO_Z2.out) (Kd.R_typed HO_7.out) (by decide) hg); have n3 := Az (blk_grown (g := gb174) (o := .cells #[.slice A0_0 l0_0.length c0_0, .slice (some ad187) l0_1.length c0_1] 25 (0, 0)) (kU BK174.out) hg (Kd.R_ne HO_7.out BK174.out (by decide))); have n4 := Az (blk_grown (g := gb178) (o := .cells #[.slice (some ⟨go24, 0, none⟩) xZ2_1.length co24] 78 (0, 0)) (kU BK178.out) hg (Kd.R_ne HO_7.out BK178.out (by decide))); have n5 := Az (Kd.R_after (v := (.slice (some ⟨go29, 0, none⟩) x7_1.length co29)) (v1 := (.slice (some ⟨go29, 0, none⟩) x7_1.length co29)) (ok := (fun k_ => (w.heap.size ≤ k_))) (rU HO185.out) hg (.inl rfl)); have n6 := Az ((by rw [hw]; exact below_set (HB.out) GB29.out : Below w.heap.size w w44)); clear HO_7 HO_Z0 HO_Z2 BK174 BK178 HO185 HB; have HO_7 := n0; have HO_Z0 := n1; have HO_Z2 := n2; have BK174 := n3; have BK178 := n4; have HO185 := n5; have HB := n6; clear n0 n1 n2 n3 n4 n5 n6; clear hg hw hp_))
                 (first | go_roundg k1 | (refine Handed.intro k1 ?measure ?_; rotate_left; go_step; (try simp only [add_plain]); (repeat apply Exists.intro); refine ⟨?rel, rfl⟩))
                 case measure => have := HK1.out; omega
                 case rel => exact ⟨(y191), (wrap64 (x32_1 + 1)), (y189), (.slice (some ⟨go24, 0, none⟩) xZ2_1.length co24), rS, H', ⟨by have := HK1.out; omega⟩, ⟨by (with_reducible repeat (first | apply Kd.R_alloc | apply Kd.R_drewN | apply Kd.R_drew)); exact Kd.R_mono HO_7.out (fun _ hk => hk.1)⟩, ⟨by (with_reducible repeat (first | apply Kd.V_alloc | apply Kd.V_drewN | apply Kd.V_drew)); exact Kd.V_mono HO_Z0.out (fun _ hk => ⟨hk.1.1, ⟨hk.2, ⟨hk.1.2.1, ⟨hk.1.2.2.2.1, hk.1.2.2.2.2⟩⟩⟩⟩)⟩, ⟨rU HO_Z2.out⟩, ⟨kU BK174.out⟩, ⟨kU BK178.out⟩, ⟨bU2 HB.out GE174.out GE178.out⟩⟩
                ·
                 rw [if_neg c30] at H
                 exact absurd H (by simp)
               ·
                rw [if_neg c28] at H
                exact absurd H (by simp)
              ·
               rw [if_neg c26] at H
               exact absurd H (by simp)
             ·
              rw [if_neg c25] at H
              exact absurd H (by simp)
            ·
             rw [if_neg c23] at H
             exact absurd H (by simp)
           ·
            rw [if_neg c22] at H
            exact absurd H (by simp)
          ·
           rw [if_neg c21] at H
           exact absurd H (by simp)
         ·
          rw [if_neg c20] at H
          exact absurd H (by simp)
        ·
         rw [if_neg c19] at H
         exact absurd H (by simp)
       ·
        rw [if_neg c17] at H
        exact absurd H (by simp)
      ·
       rw [if_neg c16] at H
       exact absurd H (by simp)
     ·
      rw [if_neg c15] at H; have c15b0 : decide (x32_1 < (l1.length : Int)) = false := decide_eq_false c15; clear c15; obtain ⟨y192, hy192⟩ : ∃ y_ : List (List Int), y_ = (([l0_0, x7_1] : List (List Int))) := ⟨_, rfl⟩; replace H : ((impl_orbits.f k1 y192).bind fun t195 => (impl_ribbon.l1 k1 l1 (l0_0.length : Int) x7_1 0 t195 (t195.length : Int) 0 l0_0 l0_1 xZ2_1)) = some r := hR hy192 H; have Ny192 := Az hy192; clear hy192; replace H := Option.bind_eq_some_iff.mp H; obtain ⟨t195, A450, H⟩ := H; replace H : (impl_ribbon.l1 k1 l1 (l0_0.length : Int) x7_1 0 t195 (t195.length : Int) 0 l0_0 l0_1 xZ2_1) = some r := H; have A45 := Az A450; clear A450; have H' := Az H; clear H; have hnb46 := NB174_178.out; have hnc46 := NB178_174.out; have hcz47_0 : wr.cell? ⟨gb174, 0, none⟩ = some (.slice A0_0 l0_0.length c0_0) := (blk_cell BK174.out 0).trans rfl; have hcz47_1 : wr.cell? ⟨gb174, 1, none⟩ = some (.slice A0_1 l0_1.length c0_1) := (blk_cell BK174.out 1).trans rfl; have hfz47_0 := blk_frozen BK174.out 0; have hfz47_1 := blk_frozen BK174.out 1; obtain ⟨Ao48, co48, eo48⟩ := Kd.R_slice HO_7.out; subst eo48
      go_wp2_with (first | ((with_reducible refine gate_dst (N := 64) rfl ?_); refine Kd.N_lit (Kd.slice 3 (Kd.int .i64)) _ 23 ?hg (N' := 64) ?hd (xs := ([l0_0, x7_1] : List (List Int))) (inner := [.slice A0_0 l0_0.length c0_0, .slice Ao48 x7_1.length co48]) (ok := (fun k_ => (P0_0_ k_ ∨ w.heap.size ≤ k_) ∧ some k_ ≠ (uZ2 : Value).ownBlock ∧ k_ ≠ gb174 ∧ k_ ≠ gb178)) (okp := (fun k_ => (P0_0_ k_ ∨ w.heap.size ≤ k_) ∧ some k_ ≠ (uZ2 : Value).ownBlock ∧ k_ ≠ gb174 ∧ k_ ≠ gb178)) ?hr ?hp (fun _ hk => hk) ((show ∀ k_, wr.heap.size ≤ k_ → (fun k_ => (P0_0_ k_ ∨ w.heap.size ≤ k_) ∧ some k_ ≠ (uZ2 : Value).ownBlock ∧ k_ ≠ gb174 ∧ k_ ≠ gb178) k_ from fun k_ hk => ⟨(.inr (Nat.le_trans (below_size (bU2 HB.out GE174.out GE178.out)) hk)), Kd.fresh' (Kd.R_lt (rU HO_Z2.out)) k_ hk, Kd.freshB (g := gb174) (o := .cells #[.slice A0_0 l0_0.length c0_0, .slice A0_1 l0_1.length c0_1] 25 (0, 0)) (kU BK174.out) k_ hk, Kd.freshB (g := gb178) (o := .cells #[uZ2] 78 (0, 0)) (kU BK178.out) k_ hk⟩) _ (Nat.le_refl _)) (Below.refl _ _) (Nat.le_refl _) (by simp) ?_; (case hd => rfl); (case hg => rfl); (case hr => first | (go_simp; done) | (go_simp; rfl)); (case hp => exact (Reps.one (show Kd.FK (Kd.slice 3 (Kd.int .i64)) _ _ l0_0 [.slice A0_0 l0_0.length c0_0] from (Kd.FK_slice_mk (Kd.V_reads' (Kd.V_mono (ok' := (fun k_ => (P0_0_ k_ ∨ w.heap.size ≤ k_) ∧ some k_ ≠ (uZ2 : Value).ownBlock ∧ k_ ≠ gb174 ∧ k_ ≠ gb178)) (HO_Z0.out) (fun k_ hk => ⟨hk.1, ⟨hk.2.2.1, ⟨hk.2.2.2.1, hk.2.2.2.2⟩⟩⟩))).2.1 (Kd.V_F (Kd.V_mono (ok' := (fun k_ => (P0_0_ k_ ∨ w.heap.size ≤ k_) ∧ some k_ ≠ (uZ2 : Value).ownBlock ∧ k_ ≠ gb174 ∧ k_ ≠ gb178)) (HO_Z0.out) (fun k_ hk => ⟨hk.1, ⟨hk.2.2.1, ⟨hk.2.2.2.1, hk.2.2.2.2⟩⟩⟩))))) (Reps.one (show Kd.FK (Kd.slice 3 (Kd.int .i64)) _ _ x7_1 [.slice Ao48 x7_1.length co48] from (Kd.FK_slice_mk (Kd.R_reads' (Kd.R_mono (ok' := (fun k_ => (P0_0_ k_ ∨ w.heap.size ≤ k_) ∧ some k_ ≠ (uZ2 : Value).ownBlock ∧ k_ ≠ gb174 ∧ k_ ≠ gb178)) (Kd.R_types (Kd.R_types (Kd.R_apart' (HO_7.out) (Kd.R_typed HO_Z2.out) (by decide)) BK174.out (by decide)) BK178.out (by decide)) (fun k_ hk => ⟨(.inr (hk.1.1.1)), ⟨hk.1.1.2, ⟨hk.1.2, hk.2⟩⟩⟩))).2.1 (Kd.R_F (Kd.R_mono (ok' := (fun k_ => (P0_0_ k_ ∨ w.heap.size ≤ k_) ∧ some k_ ≠ (uZ2 : Value).ownBlock ∧ k_ ≠ gb174 ∧ k_ ≠ gb178)) (Kd.R_types (Kd.R_types (Kd.R_apart' (HO_7.out) (Kd.R_typed HO_Z2.out) (by decide)) BK174.out (by decide)) BK178.out (by decide)) (fun k_ hk => ⟨(.inr (hk.1.1.1)), ⟨hk.1.1.2, ⟨hk.1.2, hk.2⟩⟩⟩))))) (Reps.none _ _)))); intro v193 w49 ho50 hb hg_ hnew_; clear hg_ hnew_; (first | rw [← Ny192.out] at ho50 | (simp only [Int.reduceToNat] at ho50; rw [← Ny192.out] at ho50)); have n0 := Az (Kd.R_below (rU HO_7.out) hb); have n1 := Az (Kd.V_elder' (vU HO_Z0.out) (by first | exact Kd.N_base ho50 | exact Kd.S_base ho50 | exact Kd.R_base ho50) hb); have n2 := Az (Kd.R_below (rU HO_Z2.out) hb); have n3 := Az (Kd.N_lower ho50 (below_size (bU2 HB.out GE174.out GE178.out))); have n4 := Az (blk_below (g := gb174) (o := .cells #[.slice A0_0 l0_0.length c0_0, .slice A0_1 l0_1.length c0_1] 25 (0, 0)) (kU BK174.out) hb); have n5 := Az (blk_below (g := gb178) (o := .cells #[uZ2] 78 (0, 0)) (kU BK178.out) hb); have n6 := Az (below_step (bU2 HB.out GE174.out GE178.out) hb); clear HO_7 HO_Z0 HO_Z2 BK174 BK178 HB; have HO_7 := n0; have HO_Z0 := n1; have HO_Z2 := n2; have HO194 := n3; have BK174 := n4; have BK178 := n5; have HB := n6; clear n0 n1 n2 n3 n4 n5 n6 hb ho50; obtain ⟨Ao51, co51, eo51⟩ := Kd.N_slice HO194.out; subst eo51) | ((with_reducible refine gate_callee (f := 97) rfl ?_); refine goesL_ (some 65) rfl rfl Try.func97 (by kernel_rfl) rfl #[.slice Ao51 y192.length co51] rfl (by (try simp only [List.map_toArray, List.map_cons, List.map_nil]); first | done | rfl | (simp only [List.length_drop, List.length_take]; rfl)) ?_; (with_reducible refine (impl_orbits.calls k1 _ _ y192 t195 _ ?side1 ?side2 A45.out).mono ?_); (case side1 => exact cU ((Kd.N_reads' HO194.out).2.2)); (case side2 => exact (Kd.N_reads' HO194.out).2.1); rintro e w52 ⟨v196, rfl, ho0, hb⟩; refine ⟨_, rfl, ?_⟩; have n0 := Az (Kd.R_elder' (rU HO_7.out) (Kd.R_base ho0) hb); have n1 := Az (Kd.V_elder' (vU HO_Z0.out) (Kd.R_base ho0) hb); have n2 := Az (Kd.R_below (rU HO_Z2.out) hb); have n3 := Az (Kd.N_elder' (nU HO194.out) (Kd.R_base ho0) hb); have n4 := Az (Kd.R_lower (Kd.R_new' (Kd.R_newM (M := fun k_ => (w.heap.size ≤ k_)) ho0 (below_size (bU2 HB.out GE174.out GE178.out)) (fun k_ h_ => h_)) (Kd.R_lt (rU HO_7.out))) (below_size (bU2 HB.out GE174.out GE178.out))); have n5 := Az (blk_below (g := gb174) (o := .cells #[.slice A0_0 l0_0.length c0_0, .slice A0_1 l0_1.length c0_1] 25 (0, 0)) (kU BK174.out) hb); have n6 := Az (blk_below (g := gb178) (o := .cells #[uZ2] 78 (0, 0)) (kU BK178.out) hb); have n7 := Az (below_step (bU2 HB.out GE174.out GE178.out) hb); clear HO_7 HO_Z0 HO_Z2 HO194 BK174 BK178 HB; have HO_7 := n0; have HO_Z0 := n1; have HO_Z2 := n2; have HO194 := n3; have HO197 := n4; have BK174 := n5; have BK178 := n6; have HB := n7; clear n0 n1 n2 n3 n4 n5 n6 n7; (try clear hb); (try clear hb2); (try clear hk); (try clear hi); (try clear ho0); obtain ⟨Ao53, co53, eo53⟩ := Kd.R_slice HO197.out; subst eo53))
      go_loopg [12, 67] k1 (fun kq v12 v67 w' => ∃ (x12_2 : Int) (x67_2 : Int), v12 = .int .i64 x12_2 ∧ v67 = .int .i64 x67_2 ∧ Aside0 (impl_ribbon.l1 kq l1 (l0_0.length : Int) x7_1 x12_2 t195 (t195.length : Int) x67_2 l0_0 l0_1 xZ2_1 = some r) ∧ Aside0 (kq ≤ k1) ∧ Aside0 (Kd.R (Kd.int .i64) 3 w' w.heap.size (fun k_ => (w.heap.size ≤ k_) ∧ some k_ ≠ ((.slice Ao53 t195.length co53) : Value).ownBlock) (.slice Ao48 x7_1.length co48) x7_1) ∧ Aside0 (Kd.R (Kd.int .i64) 3 w' w.heap.size (fun k_ => (w.heap.size ≤ k_) ∧ some k_ ≠ ((.slice Ao48 x7_1.length co48) : Value).ownBlock) (.slice Ao53 t195.length co53) t195) ∧ Aside0 (Kd.V (Kd.int .i64) 3 w' w.heap.size (fun k_ => (P0_0_ k_ ∨ w.heap.size ≤ k_) ∧ some k_ ≠ ((.slice Ao48 x7_1.length co48) : Value).ownBlock ∧ some k_ ≠ ((.slice Ao53 t195.length co53) : Value).ownBlock ∧ some k_ ≠ (uZ2 : Value).ownBlock ∧ k_ ≠ gb174 ∧ k_ ≠ gb178) (.slice A0_0 l0_0.length c0_0) l0_0) ∧ Aside0 (Kd.R Kd.bool 4 w' w.heap.size (fun k_ => (w.heap.size ≤ k_)) uZ2 xZ2_1) ∧ Aside0 (w'.heap[gb174]? = some (.cells #[(.slice A0_0 l0_0.length c0_0), (.slice A0_1 l0_1.length c0_1)] 25 (0, 0))) ∧ Aside0 (w'.heap[gb178]? = some (.cells #[uZ2] 78 (0, 0))) ∧ Aside0 (Below w.heap.size w w'))
      case atStart => exact ⟨(0), (0), rS, rS, H', ⟨Nat.le_refl _⟩, ⟨rU HO_7.out⟩, ⟨by (with_reducible repeat (first | apply Kd.R_alloc | apply Kd.R_drewN | apply Kd.R_drew)); exact Kd.R_mono HO197.out (fun _ hk => ⟨hk.1.1, hk.2⟩)⟩, ⟨by (with_reducible repeat (first | apply Kd.V_alloc | apply Kd.V_drewN | apply Kd.V_drew)); exact Kd.V_mono HO_Z0.out (fun _ hk => ⟨hk.1.1.1, ⟨hk.1.1.2.1, ⟨hk.2, ⟨hk.1.1.2.2.1, ⟨hk.1.1.2.2.2.1, hk.1.1.2.2.2.2⟩⟩⟩⟩⟩)⟩, ⟨rU HO_Z2.out⟩, ⟨kU BK174.out⟩, ⟨kU BK178.out⟩, ⟨bU2 HB.out GE174.out GE178.out⟩⟩
      case round =>
       clear H'; (try clear c1); (try clear p1); (try clear q1); (try clear hx1); (try clear c2); (try clear p2); (try clear q2); (try clear hx2); (try clear hf2); (try clear c3); (try clear c3b0); (try clear c3b1); (try clear p3); (try clear q3); (try clear hx3); (try clear hf3); (try clear c4); (try clear c4b0); (try clear c4b1); (try clear c6); (try clear p6); (try clear c8); (try clear c9); (try clear c10); (try clear c12); (try clear c15); (try clear c15b0); (try clear c16); (try clear c16b0); (try clear c17); (try clear c17b0); (try clear p18); (try clear q18); (try clear hx18); (try clear c19); (try clear c19b0); (try clear c20); (try clear c20b0); (try clear c21); (try clear c21b0); (try clear c22); (try clear c22b0); (try clear c23); (try clear c23b0); (try clear p24); (try clear q24); (try clear hx24); (try clear hf24); (try clear c25); (try clear c25b0); (try clear c26); (try clear c26b0); (try clear p27); (try clear q27); (try clear hx27); (try clear hf27); (try clear c28); (try clear c28b0); (try clear p29); (try clear q29); (try clear hx29); (try clear hf29); (try clear c30); (try clear c30b0); (try clear p31); (try clear q31); (try clear hx31); (try clear hf31); (try clear c32); (try clear c46); (try clear hcz13_0); (try clear hcz33_0); (try clear hcz33_1); (try clear hcz36_0); (try clear hcz36_1); (try clear hcz47_0); (try clear hcz47_1); (try clear hcz7_0); (try clear hcz7_1); (try clear hfz13_0); (try clear hfz33_0); (try clear hfz33_1); (try clear hfz36_0); (try clear hfz36_1); (try clear hfz47_0); (try clear hfz47_1); (try clear hfz7_0); (try clear hfz7_1); (try clear hx182_0); (try clear hx186_0); (try clear hx187_0); (try clear hx24_0); (try clear hx27_0); (try clear hx29_0); (try clear hx31_0); (try clear p182); (try clear p186); (try clear p187); (try clear p2); (try clear p24); (try clear p27); (try clear p29); (try clear p31); (try clear q182); (try clear q186); (try clear q187); (try clear q24); (try clear q27); (try clear q29); (try clear q31); obtain ⟨x12_2, x67_2, rfl, rfl, HA, HK2, HO_7, HO_65, HO_Z0, HO_Z2, BK174, BK178, HB⟩ := hrel
       cases gk with
       | zero => exact absurd HA.out (by simp [impl_ribbon.l1])
       | succ k2 =>
        have H := HA.out; clear HA; simp only [impl_ribbon.l1] at H
        by_cases c54 : x67_2 < (t195.length : Int)
        ·
         rw [if_pos c54] at H; have c54b0 : decide (x67_2 < (t195.length : Int)) = true := decide_eq_true c54; clear c54
         by_cases c55 : 0 ≤ x67_2
         ·
          rw [if_pos c55] at H; have c55b0 : decide (0 ≤ x67_2) = true := decide_eq_true c55; clear c55
          by_cases c56 : x67_2 < (t195.length : Int)
          ·
           rw [if_pos c56] at H; have c56b0 : decide (x67_2 < (t195.length : Int)) = true := decide_eq_true c56; clear c56
           by_cases c57 : x67_2 = (rd t195 x67_2)
           ·
            rw [if_pos c57] at H; have c57b0 : (x67_2 == (rd t195 x67_2)) = true := beq_iff_eq.mpr c57; have c57b1 : (x67_2 != (rd t195 x67_2)) = false := bne_eq_false_iff_eq.mpr c57; clear c57; have H' := Az H; clear H; have p198 : 0 ≤ (x67_2 : Int) := oA; have q198 : x67_2 < (t195.length : Int) := oA; obtain ⟨ad198, e198, hx198_0⟩ := Kd.at_int (Kd.R_reads' HO_65.out).2.2 x67_2 p198 q198
            cases e198
            replace p198 := eq_true p198; replace q198 := eq_true q198
            go_wp2
            (first | go_roundg k2 | (refine Handed.intro k2 ?measure ?_; rotate_left; go_step; (try simp only [add_plain]); (repeat apply Exists.intro); refine ⟨?rel, rfl⟩))
            case measure => have := HK1.out; have := HK2.out; omega
            case rel => exact ⟨(wrap64 (x12_2 + 1)), (wrap64 (x67_2 + 1)), rS, rS, H', ⟨by have := HK1.out; have := HK2.out; omega⟩, ⟨rU HO_7.out⟩, ⟨rU HO_65.out⟩, ⟨vU HO_Z0.out⟩, ⟨rU HO_Z2.out⟩, ⟨kU BK174.out⟩, ⟨kU BK178.out⟩, ⟨bU2 HB.out GE174.out GE178.out⟩⟩
           ·
            rw [if_neg c57] at H; have c57b0 : (x67_2 == (rd t195 x67_2)) = false := beq_eq_false_iff_ne.mpr c57; have c57b1 : (x67_2 != (rd t195 x67_2)) = true := bne_iff_ne.mpr c57; have H' := Az H; clear H; have p198 : 0 ≤ (x67_2 : Int) := oA; have q198 : x67_2 < (t195.length : Int) := oA; obtain ⟨ad198, e198, hx198_0⟩ := Kd.at_int (Kd.R_reads' HO_65.out).2.2 x67_2 p198 q198
            cases e198
            replace p198 := eq_true p198; replace q198 := eq_true q198
            go_wp2
            (first | go_roundg k2 | (refine Handed.intro k2 ?measure ?_; rotate_left; go_step; (try simp only [add_plain]); (repeat apply Exists.intro); refine ⟨?rel, rfl⟩))
            case measure => have := HK1.out; have := HK2.out; omega
            case rel => exact ⟨(x12_2), (wrap64 (x67_2 + 1)), rS, rS, H', ⟨by have := HK1.out; have := HK2.out; omega⟩, ⟨rU HO_7.out⟩, ⟨rU HO_65.out⟩, ⟨vU HO_Z0.out⟩, ⟨rU HO_Z2.out⟩, ⟨kU BK174.out⟩, ⟨kU BK178.out⟩, ⟨bU2 HB.out GE174.out GE178.out⟩⟩
          ·
           rw [if_neg c56] at H
           exact absurd H (by simp)
         ·
          rw [if_neg c55] at H
          exact absurd H (by simp)
        ·
         rw [if_neg c54] at H; have c54b0 : decide (x67_2 < (t195.length : Int)) = false := decide_eq_false c54; clear c54; replace H := Option.bind_eq_some_iff.mp H; obtain ⟨t199, A580, H⟩ := H; replace H : (impl_ribbon.l2 k2 l1 (l0_0.length : Int) x7_1 x12_2 0 t199 (t199.length : Int) 0 l0_0 l0_1 xZ2_1) = some r := H; have A58 := Az A580; clear A580; have H' := Az H; clear H; have hnb59 := NB174_178.out; have hnc59 := NB178_174.out; have hcz60_0 : wr.cell? ⟨gb174, 0, none⟩ = some (.slice A0_0 l0_0.length c0_0) := (blk_cell BK174.out 0).trans rfl; have hcz60_1 : wr.cell? ⟨gb174, 1, none⟩ = some (.slice A0_1 l0_1.length c0_1) := (blk_cell BK174.out 1).trans rfl; have hfz60_0 := blk_frozen BK174.out 0; have hfz60_1 := blk_frozen BK174.out 1
         go_wp2_with (first | ((with_reducible refine gate_callee (f := 63) rfl ?_); refine goesL_ (some 80) rfl rfl Try.func63 (by kernel_rfl) rfl #[.slice A0_0 l0_0.length c0_0] rfl (by (try simp only [List.map_toArray, List.map_cons, List.map_nil]); first | done | rfl | (simp only [List.length_drop, List.length_take]; rfl)) ?_; (with_reducible refine (impl_cyclesOf.calls k2 _ _ l0_0 t199 _ ?side1 ?side2 A58.out).mono ?_); (case side1 => exact cU ((Kd.V_reads' HO_Z0.out).2.2)); (case side2 => exact (Kd.V_reads' HO_Z0.out).2.1); rintro e w61 ⟨v200, rfl, ho0, hb⟩; refine ⟨_, rfl, ?_⟩; have n0 := Az (Kd.R_below (rU HO_7.out) hb); have n1 := Az (Kd.R_below (rU HO_65.out) hb); have n2 := Az (Kd.V_elder' (vU HO_Z0.out) (by first | exact Kd.N_base ho0 | exact Kd.S_base ho0 | exact Kd.R_base ho0) hb); have n3 := Az (Kd.R_below (rU HO_Z2.out) hb); have n4 := Az (Kd.N_lower (Kd.N_mono (ok' := fun k_ => (P0_0_ k_ ∨ w.heap.size ≤ k_) ∧ some k_ ≠ (.slice Ao48 x7_1.length co48 : Value).ownBlock ∧ some k_ ≠ (.slice Ao53 t195.length co53 : Value).ownBlock ∧ some k_ ≠ (uZ2 : Value).ownBlock ∧ k_ ≠ gb174 ∧ k_ ≠ gb178) (Kd.S_N (Kd.S_bound ho0)) (fun k_ hk_ => ⟨(.inr (Nat.le_trans (below_size (bU2 HB.out GE174.out GE178.out)) hk_.2.1)), (Kd.fresh' (Kd.R_lt (rU HO_7.out)) k_ hk_.2.1), (Kd.fresh' (Kd.R_lt (rU HO_65.out)) k_ hk_.2.1), (Kd.fresh' (Kd.R_lt (rU HO_Z2.out)) k_ hk_.2.1), (Kd.freshB (g := gb174) (o := .cells #[.slice A0_0 l0_0.length c0_0, .slice A0_1 l0_1.length c0_1] 25 (0, 0)) (kU BK174.out) k_ hk_.2.1), (Kd.freshB (g := gb178) (o := .cells #[uZ2] 78 (0, 0)) (kU BK178.out) k_ hk_.2.1)⟩)) (below_size (bU2 HB.out GE174.out GE178.out))); have n5 := Az (blk_below (g := gb174) (o := .cells #[.slice A0_0 l0_0.length c0_0, .slice A0_1 l0_1.length c0_1] 25 (0, 0)) (kU BK174.out) hb); have n6 := Az (blk_below (g := gb178) (o := .cells #[uZ2] 78 (0, 0)) (kU BK178.out) hb); have n7 := Az (below_step (bU2 HB.out GE174.out GE178.out) hb); clear HO_7 HO_65 HO_Z0 HO_Z2 BK174 BK178 HB; have HO_7 := n0; have HO_65 := n1; have HO_Z0 := n2; have HO_Z2 := n3; have HO201 := n4; have BK174 := n5; have BK178 := n6; have HB := n7; clear n0 n1 n2 n3 n4 n5 n6 n7; (try clear hb); (try clear hb2); (try clear hk); (try clear hi); (try clear ho0); obtain ⟨Ao62, co62, eo62⟩ := Kd.N_slice HO201.out; subst eo62))
         go_loopg [15, 82] k2 (fun kq v15 v82 w' => ∃ (x15_3 : Int) (x82_3 : Int), v15 = .int .i64 x15_3 ∧ v82 = .int .i64 x82_3 ∧ Aside0 (impl_ribbon.l2 kq l1 (l0_0.length : Int) x7_1 x12_2 x15_3 t199 (t199.length : Int) x82_3 l0_0 l0_1 xZ2_1 = some r) ∧ Aside0 (kq ≤ k2) ∧ Aside0 (Kd.R (Kd.int .i64) 3 w' w.heap.size (fun k_ => (w.heap.size ≤ k_)) (.slice Ao48 x7_1.length co48) x7_1) ∧ Aside0 (Kd.N (Kd.slice 3 (Kd.int .i64)) 23 w' w.heap.size (fun k_ => (P0_0_ k_ ∨ w.heap.size ≤ k_) ∧ some k_ ≠ ((.slice Ao48 x7_1.length co48) : Value).ownBlock ∧ some k_ ≠ (uZ2 : Value).ownBlock ∧ k_ ≠ gb174 ∧ k_ ≠ gb178) (.slice Ao62 t199.length co62) t199) ∧ Aside0 (Kd.V (Kd.int .i64) 3 w' w.heap.size (fun k_ => (P0_0_ k_ ∨ w.heap.size ≤ k_) ∧ some k_ ≠ ((.slice Ao48 x7_1.length co48) : Value).ownBlock ∧ some k_ ≠ ((.slice Ao62 t199.length co62) : Value).ownBlock ∧ some k_ ≠ (uZ2 : Value).ownBlock ∧ k_ ≠ gb174 ∧ k_ ≠ gb178) (.slice A0_0 l0_0.length c0_0) l0_0) ∧ Aside0 (Kd.R Kd.bool 4 w' w.heap.size (fun k_ => (w.heap.size ≤ k_)) uZ2 xZ2_1) ∧ Aside0 (w'.heap[gb174]? = some (.cells #[(.slice A0_0 l0_0.length c0_0), (.slice A0_1 l0_1.length c0_1)] 25 (0, 0))) ∧ Aside0 (w'.heap[gb178]? = some (.cells #[uZ2] 78 (0, 0))) ∧ Aside0 (Below w.heap.size w w'))
         case atStart => exact ⟨(0), (0), rS, rS, H', ⟨Nat.le_refl _⟩, ⟨by (with_reducible repeat (first | apply Kd.R_alloc | apply Kd.R_drewN | apply Kd.R_drew)); exact Kd.R_mono HO_7.out (fun _ hk => hk.1)⟩, ⟨by (with_reducible repeat (first | apply Kd.N_alloc | apply Kd.N_drewN | apply Kd.N_drew)); exact Kd.N_mono HO201.out (fun _ hk => ⟨hk.1, ⟨hk.2.1, ⟨hk.2.2.2.1, ⟨hk.2.2.2.2.1, hk.2.2.2.2.2⟩⟩⟩⟩)⟩, ⟨by (with_reducible repeat (first | apply Kd.V_alloc | apply Kd.V_drewN | apply Kd.V_drew)); exact Kd.V_mono HO_Z0.out (fun _ hk => ⟨hk.1.1, ⟨hk.1.2.1, ⟨hk.2, ⟨hk.1.2.2.2.1, ⟨hk.1.2.2.2.2.1, hk.1.2.2.2.2.2⟩⟩⟩⟩⟩)⟩, ⟨rU HO_Z2.out⟩, ⟨kU BK174.out⟩, ⟨kU BK178.out⟩, ⟨bU2 HB.out GE174.out GE178.out⟩⟩
         case round =>
          clear H'; (try clear c1); (try clear p1); (try clear q1); (try clear hx1); (try clear c2); (try clear p2); (try clear q2); (try clear hx2); (try clear hf2); (try clear c3); (try clear c3b0); (try clear c3b1); (try clear p3); (try clear q3); (try clear hx3); (try clear hf3); (try clear c4); (try clear c4b0); (try clear c4b1); (try clear c5); (try clear c6); (try clear p6); (try clear c8); (try clear c9); (try clear c10); (try clear c12); (try clear c15); (try clear c15b0); (try clear c16); (try clear c16b0); (try clear c17); (try clear c17b0); (try clear p18); (try clear q18); (try clear hx18); (try clear c19); (try clear c19b0); (try clear p19); (try clear q19); (try clear hx19); (try clear c20); (try clear c20b0); (try clear c21); (try clear c21b0); (try clear c22); (try clear c22b0); (try clear c23); (try clear c23b0); (try clear p24); (try clear q24); (try clear hx24); (try clear hf24); (try clear c25); (try clear c25b0); (try clear c26); (try clear c26b0); (try clear p27); (try clear q27); (try clear hx27); (try clear hf27); (try clear c28); (try clear c28b0); (try clear p29); (try clear q29); (try clear hx29); (try clear hf29); (try clear c30); (try clear c30b0); (try clear p31); (try clear q31); (try clear hx31); (try clear hf31); (try clear c32); (try clear c46); (try clear c54); (try clear c54b0); (try clear c55); (try clear c55b0); (try clear c56); (try clear c56b0); (try clear c57); (try clear c57b0); (try clear c57b1); (try clear c59); (try clear hcz13_0); (try clear hcz33_0); (try clear hcz33_1); (try clear hcz36_0); (try clear hcz36_1); (try clear hcz47_0); (try clear hcz47_1); (try clear hcz60_0); (try clear hcz60_1); (try clear hcz7_0); (try clear hcz7_1); (try clear hfz13_0); (try clear hfz33_0); (try clear hfz33_1); (try clear hfz36_0); (try clear hfz36_1); (try clear hfz47_0); (try clear hfz47_1); (try clear hfz60_0); (try clear hfz60_1); (try clear hfz7_0); (try clear hfz7_1); (try clear hx182_0); (try clear hx186_0); (try clear hx187_0); (try clear hx198_0); (try clear hx24_0); (try clear hx27_0); (try clear hx29_0); (try clear hx31_0); (try clear p1); (try clear p18); (try clear p182); (try clear p186); (try clear p187); (try clear p198); (try clear p2); (try clear p24); (try clear p27); (try clear p29); (try clear p3); (try clear p31); (try clear p6); (try clear q1); (try clear q18); (try clear q182); (try clear q186); (try clear q187); (try clear q198); (try clear q2); (try clear q24); (try clear q27); (try clear q29); (try clear q3); (try clear q31); obtain ⟨x15_3, x82_3, rfl, rfl, HA, HK3, HO_7, HO_80, HO_Z0, HO_Z2, BK174, BK178, HB⟩ := hrel
          cases gk with
          | zero => exact absurd HA.out (by simp [impl_ribbon.l2])
          | succ k3 =>
           have H := HA.out; clear HA; simp only [impl_ribbon.l2] at H
           by_cases c63 : x82_3 < (t199.length : Int)
           ·
            rw [if_pos c63] at H; have c63b0 : decide (x82_3 < (t199.length : Int)) = true := decide_eq_true c63; clear c63
            by_cases c64 : 0 ≤ x82_3
            ·
             rw [if_pos c64] at H; have c64b0 : decide (0 ≤ x82_3) = true := decide_eq_true c64; clear c64
             by_cases c65 : x82_3 < (t199.length : Int)
             ·
              rw [if_pos c65] at H; have c65b0 : decide (x82_3 < (t199.length : Int)) = true := decide_eq_true c65; clear c65; replace H := Option.bind_eq_some_iff.mp H; obtain ⟨t203, A660, H⟩ := H; replace H : (if t203 = true then (impl_ribbon.l2 k3 l1 (l0_0.length : Int) x7_1 x12_2 x15_3 t199 (t199.length : Int) (wrap64 (x82_3 + 1)) l0_0 l0_1 xZ2_1) else (impl_ribbon.l2 k3 l1 (l0_0.length : Int) x7_1 x12_2 (wrap64 (x15_3 + 1)) t199 (t199.length : Int) (wrap64 (x82_3 + 1)) l0_0 l0_1 xZ2_1)) = some r := H; have A66 := Az A660; clear A660
              by_cases c67 : t203 = true
              ·
               subst c67
               have H1 : (impl_ribbon.l2 k3 l1 (l0_0.length : Int) x7_1 x12_2 x15_3 t199 (t199.length : Int) (wrap64 (x82_3 + 1)) l0_0 l0_1 xZ2_1) = some r := by rw [if_pos rfl] at H; exact H
               clear H; have H := H1; clear H1; have H' := Az H; clear H; have p202 : 0 ≤ (x82_3 : Int) := oA; have q202 : x82_3 < (t199.length : Int) := oA; obtain ⟨ad202, A202_0, c202_0, e202, hx202_0, hl202_0, hi202_0⟩ := at_L1 (Kd.N_reads' HO_80.out).2.2 x82_3 p202 q202
               cases e202
               obtain ⟨ce202, hce202, hMe202, hcc202⟩ := Kd.N_get HO_80.out [] x82_3 p202 (by first | exact q202 | exact oA | (have e_ := (Kd.N_reads' HO_80.out).1; omega)); obtain ⟨ua202_0, uc202_0, rfl, ul202_0, ge202_0⟩ := Kd.FK_slice_open hMe202; have hv202_0 := hcc202 0 _ rfl; rw [Nat.add_zero, show ((Kd.slice 3 (Kd.int .i64))).sz = 1 from rfl, Nat.mul_one] at hv202_0; replace hv202_0 := Option.some.inj (hv202_0.symm.trans hx202_0); injection hv202_0 with hva_ hvn_ hvc_; rw [hva_] at ge202_0; rw [hvc_] at ul202_0; have HL202_0 := Az (show Kd.V (Kd.int .i64) 3 _ w.heap.size _ _ (rd_L1 t199 x82_3) from Kd.V_mk ul202_0 ge202_0); clear hva_ hvn_ hvc_ ge202_0 ul202_0 hcc202 hce202; have HR202_0 := Az hi202_0; have HC202_0 := Az hl202_0; clear hi202_0 hl202_0; replace p202 := eq_true p202; replace q202 := eq_true q202; obtain ⟨Ao68, co68, eo68⟩ := Kd.R_slice HO_Z2.out; subst eo68
               go_wp2_with (first | ((with_reducible refine gate_callee (f := 102) rfl ?_); refine goesL_ (some 88) rfl rfl Try.func102 (by kernel_rfl) rfl #[.slice A202_0 (rd_L1 t199 x82_3).length c202_0, .func (.func 103) #[] #[.pointer (some ⟨gb178, 0, none⟩)]] rfl (by (try simp only [List.map_toArray, List.map_cons, List.map_nil]); first | done | rfl | (simp only [List.length_drop, List.length_take]; rfl)) ?_; (with_reducible refine (containsF.calls k3 _ _ (rd_L1 t199 x82_3) gb178 Ao68 co68 xZ2_1 true _ ?side1 ?side2 ?side3 ?side4 ?side5 A66.out).mono ?_); (case side1 => (with_reducible repeat (first | refine blk_drewN ?_ _ | refine blk_drew ?_ | refine blk_alloc ?_ _)); exact BK178.out); (case side2 => exact cU (by repeat (first | (with_reducible exact HR202_0.out) | (with_reducible refine Kd.C_alloc ?_ _) | (with_reducible refine Kd.C_drewN ?_ _) | (with_reducible refine Kd.C_drew ?_) | exact HR202_0.out))); (case side3 => exact HC202_0.out); (case side4 => exact cU ((Kd.R_reads' HO_Z2.out).2.2)); (case side5 => exact (Kd.R_reads' HO_Z2.out).2.1); rintro e w69 ⟨rfl, hb⟩; refine ⟨_, rfl, ?_⟩; have n0 := Az (Kd.R_below (rU HO_7.out) hb); have n1 := Az (Kd.N_below (nU HO_80.out) hb); have n2 := Az (Kd.V_below (vU HO_Z0.out) hb); have n3 := Az (Kd.R_below (rU HO_Z2.out) hb); have n4 := Az (Kd.V_below (vU HL202_0.out) hb); have n5 := Az (blk_below (g := gb174) (o := .cells #[.slice A0_0 l0_0.length c0_0, .slice A0_1 l0_1.length c0_1] 25 (0, 0)) (kU BK174.out) hb); have n6 := Az (blk_below (g := gb178) (o := .cells #[.slice Ao68 xZ2_1.length co68] 78 (0, 0)) (kU BK178.out) hb); have n7 := Az (Kd.C_below (by repeat (first | (with_reducible exact HR202_0.out) | (with_reducible refine Kd.C_alloc ?_ _) | (with_reducible refine Kd.C_drewN ?_ _) | (with_reducible refine Kd.C_drew ?_) | exact HR202_0.out)) hb); have n8 := Az (below_step (bU2 HB.out GE174.out GE178.out) hb); clear HO_7 HO_80 HO_Z0 HO_Z2 HL202_0 BK174 BK178 HR202_0 HB; have HO_7 := n0; have HO_80 := n1; have HO_Z0 := n2; have HO_Z2 := n3; have HL202_0 := n4; have BK174 := n5; have BK178 := n6; have HR202_0 := n7; have HB := n8; clear n0 n1 n2 n3 n4 n5 n6 n7 n8; (try clear hb); (try clear hb2); (try clear hk); (try clear hi)))
               (first | go_roundg k3 | (refine Handed.intro k3 ?measure ?_; rotate_left; go_step; (try simp only [add_plain]); (repeat apply Exists.intro); refine ⟨?rel, rfl⟩))
               case measure => have := HK1.out; have := HK2.out; have := HK3.out; omega
               case rel => exact ⟨(x15_3), (wrap64 (x82_3 + 1)), rS, rS, H', ⟨by have := HK1.out; have := HK2.out; have := HK3.out; omega⟩, ⟨rU HO_7.out⟩, ⟨nU HO_80.out⟩, ⟨vU HO_Z0.out⟩, ⟨rU HO_Z2.out⟩, ⟨kU BK174.out⟩, ⟨kU BK178.out⟩, ⟨bU2 HB.out GE174.out GE178.out⟩⟩
              ·
               replace c67 := Bool.eq_false_iff.mpr c67; subst c67
               have H1 : (impl_ribbon.l2 k3 l1 (l0_0.length : Int) x7_1 x12_2 (wrap64 (x15_3 + 1)) t199 (t199.length : Int) (wrap64 (x82_3 + 1)) l0_0 l0_1 xZ2_1) = some r := by rw [if_neg (show ¬ (false = true) by decide)] at H; exact H
               clear H; have H := H1; clear H1; have H' := Az H; clear H; have p202 : 0 ≤ (x82_3 : Int) := oA; have q202 : x82_3 < (t199.length : Int) := oA; obtain ⟨ad202, A202_0, c202_0, e202, hx202_0, hl202_0, hi202_0⟩ := at_L1 (Kd.N_reads' HO_80.out).2.2 x82_3 p202 q202
               cases e202
               obtain ⟨ce202, hce202, hMe202, hcc202⟩ := Kd.N_get HO_80.out [] x82_3 p202 (by first | exact q202 | exact oA | (have e_ := (Kd.N_reads' HO_80.out).1; omega)); obtain ⟨ua202_0, uc202_0, rfl, ul202_0, ge202_0⟩ := Kd.FK_slice_open hMe202; have hv202_0 := hcc202 0 _ rfl; rw [Nat.add_zero, show ((Kd.slice 3 (Kd.int .i64))).sz = 1 from rfl, Nat.mul_one] at hv202_0; replace hv202_0 := Option.some.inj (hv202_0.symm.trans hx202_0); injection hv202_0 with hva_ hvn_ hvc_; rw [hva_] at ge202_0; rw [hvc_] at ul202_0; have HL202_0 := Az (show Kd.V (Kd.int .i64) 3 _ w.heap.size _ _ (rd_L1 t199 x82_3) from Kd.V_mk ul202_0 ge202_0); clear hva_ hvn_ hvc_ ge202_0 ul202_0 hcc202 hce202; have HR202_0 := Az hi202_0; have HC202_0 := Az hl202_0; clear hi202_0 hl202_0; replace p202 := eq_true p202; replace q202 := eq_true q202; obtain ⟨Ao70, co70, eo70⟩ := Kd.R_slice HO_Z2.out; subst eo70
               go_wp2_with (first | ((with_reducible refine gate_callee (f := 102) rfl ?_); refine goesL_ (some 88) rfl rfl Try.func102 (by kernel_rfl) rfl #[.slice A202_0 (rd_L1 t199 x82_3).length c202_0, .func (.func 103) #[] #[.pointer (some ⟨gb178, 0, none⟩)]] rfl (by (try simp only [List.map_toArray, List.map_cons, List.map_nil]); first | done | rfl | (simp only [List.length_drop, List.length_take]; rfl)) ?_; (with_reducible refine (containsF.calls k3 _ _ (rd_L1 t199 x82_3) gb178 Ao70 co70 xZ2_1 false _ ?side1 ?side2 ?side3 ?side4 ?side5 A66.out).mono ?_); (case side1 => (with_reducible repeat (first | refine blk_drewN ?_ _ | refine blk_drew ?_ | refine blk_alloc ?_ _)); exact BK178.out); (case side2 => exact cU (by repeat (first | (with_reducible exact HR202_0.out) | (with_reducible refine Kd.C_alloc ?_ _) | (with_reducible refine Kd.C_drewN ?_ _) | (with_reducible refine Kd.C_drew ?_) | exact HR202_0.out))); (case side3 => exact HC202_0.out); (case side4 => exact cU ((Kd.R_reads' HO_Z2.out).2.2)); (case side5 => exact (Kd.R_reads' HO_Z2.out).2.1); rintro e w71 ⟨rfl, hb⟩; refine ⟨_, rfl, ?_⟩; have n0 := Az (Kd.R_below (rU HO_7.out) hb); have n1 := Az (Kd.N_below (nU HO_80.out) hb); have n2 := Az (Kd.V_below (vU HO_Z0.out) hb); have n3 := Az (Kd.R_below (rU HO_Z2.out) hb); have n4 := Az (Kd.V_below (vU HL202_0.out) hb); have n5 := Az (blk_below (g := gb174) (o := .cells #[.slice A0_0 l0_0.length c0_0, .slice A0_1 l0_1.length c0_1] 25 (0, 0)) (kU BK174.out) hb); have n6 := Az (blk_below (g := gb178) (o := .cells #[.slice Ao70 xZ2_1.length co70] 78 (0, 0)) (kU BK178.out) hb); have n7 := Az (Kd.C_below (by repeat (first | (with_reducible exact HR202_0.out) | (with_reducible refine Kd.C_alloc ?_ _) | (with_reducible refine Kd.C_drewN ?_ _) | (with_reducible refine Kd.C_drew ?_) | exact HR202_0.out)) hb); have n8 := Az (below_step (bU2 HB.out GE174.out GE178.out) hb); clear HO_7 HO_80 HO_Z0 HO_Z2 HL202_0 BK174 BK178 HR202_0 HB; have HO_7 := n0; have HO_80 := n1; have HO_Z0 := n2; have HO_Z2 := n3; have HL202_0 := n4; have BK174 := n5; have BK178 := n6; have HR202_0 := n7; have HB := n8; clear n0 n1 n2 n3 n4 n5 n6 n7 n8; (try clear hb); (try clear hb2); (try clear hk); (try clear hi)))
               (first | go_roundg k3 | (refine Handed.intro k3 ?measure ?_; rotate_left; go_step; (try simp only [add_plain]); (repeat apply Exists.intro); refine ⟨?rel, rfl⟩))
               case measure => have := HK1.out; have := HK2.out; have := HK3.out; omega
               case rel => exact ⟨(wrap64 (x15_3 + 1)), (wrap64 (x82_3 + 1)), rS, rS, H', ⟨by have := HK1.out; have := HK2.out; have := HK3.out; omega⟩, ⟨rU HO_7.out⟩, ⟨nU HO_80.out⟩, ⟨vU HO_Z0.out⟩, ⟨rU HO_Z2.out⟩, ⟨kU BK174.out⟩, ⟨kU BK178.out⟩, ⟨bU2 HB.out GE174.out GE178.out⟩⟩
             ·
              rw [if_neg c65] at H
              exact absurd H (by simp)
            ·
             rw [if_neg c64] at H
             exact absurd H (by simp)
           ·
            rw [if_neg c63] at H; have c63b0 : decide (x82_3 < (t199.length : Int)) = false := decide_eq_false c63; clear c63
            by_cases c72 : 0 ≤ (l0_0.length : Int)
            ·
             rw [if_pos c72] at H; have c72b0 := eq_true c72; have c72b1 : decide (0 ≤ (l0_0.length : Int)) = true := decide_eq_true c72; clear c72
             by_cases c73 : ((l0_0.length : Int) : Int).toNat ≤ 281474976710656
             ·
              rw [if_pos c73] at H; have c73b0 := eq_true c73; have c73b1 : decide (((l0_0.length : Int) : Int).toNat ≤ 281474976710656) = true := decide_eq_true c73; clear c73; obtain ⟨y204, hy204⟩ : ∃ y_ : List Bool, y_ = (List.replicate ((l0_0.length : Int) : Int).toNat false) := ⟨_, rfl⟩; replace H : (impl_ribbon.l3 k3 l1 x7_1 x12_2 x15_3 y204 (l0_0.length : Int) 0 l0_0 l0_1 xZ2_1) = some r := hR hy204 H; have Ny204 := Az hy204; clear hy204; have H' := Az H; clear H
              go_wp2_with (first | ((with_reducible refine gate_dst (N := 94) rfl ?_); refine Kd.R_make Kd.bool _ 4 rfl (N := 94) rfl 78 _ _ rfl (l0_0.length : Int) rfl rfl Try.underlying78 (.bool false) 1 info4 rfl (by decide) (by omega) false (ok := fun _ => True) (okp := fun _ => True) rfl (fun _ hk => hk) trivial (oA) (Nat.le_trans (Nat.mul_le_mul_right _ (oA : (l0_0.length : Int).toNat ≤ 281474976710656)) (by omega)) (Below.refl _ _) (Nat.le_refl _) ?_; intro v205 w74 ho75 hb hg_ hnew_; clear hg_ hnew_; (first | rw [← Ny204.out] at ho75 | (simp only [Int.reduceToNat] at ho75; rw [← Ny204.out] at ho75)); have n0 := Az (Kd.R_below (rU HO_7.out) hb); have n1 := Az (Kd.N_elder' (nU HO_80.out) (Kd.R_base ho75) hb); have n2 := Az (Kd.V_elder' (vU HO_Z0.out) (Kd.R_base ho75) hb); have n3 := Az (Kd.R_elder' (rU HO_Z2.out) (Kd.R_base ho75) hb); have n4 := Az (Kd.R_lower (Kd.R_new' (Kd.R_newM (M := fun k_ => (w.heap.size ≤ k_)) ho75 (below_size (bU2 HB.out GE174.out GE178.out)) (fun k_ h_ => h_)) (Kd.R_lt (rU HO_Z2.out))) (below_size (bU2 HB.out GE174.out GE178.out))); have n5 := Az (blk_below (g := gb174) (o := .cells #[.slice A0_0 l0_0.length c0_0, .slice A0_1 l0_1.length c0_1] 25 (0, 0)) (kU BK174.out) hb); have n6 := Az (blk_below (g := gb178) (o := .cells #[uZ2] 78 (0, 0)) (kU BK178.out) hb); have n7 := Az (below_step (bU2 HB.out GE174.out GE178.out) hb); clear HO_7 HO_80 HO_Z0 HO_Z2 BK174 BK178 HB; have HO_7 := n0; have HO_80 := n1; have HO_Z0 := n2; have HO_Z2 := n3; have HO206 := n4; have BK174 := n5; have BK178 := n6; have HB := n7; clear n0 n1 n2 n3 n4 n5 n6 n7; clear hb ho75))
              go_loopg [15, 96] k3 (fun kq v15 v96 w' => ∃ (x15_4 : Int) (x18_4 : List Bool) (x96_4 : Int), v15 = .int .i64 x15_4 ∧ v96 = .int .i64 x96_4 ∧ Aside0 (impl_ribbon.l3 kq l1 x7_1 x12_2 x15_4 x18_4 (l0_0.length : Int) x96_4 l0_0 l0_1 xZ2_1 = some r) ∧ Aside0 (kq ≤ k3) ∧ Aside0 (Kd.R (Kd.int .i64) 3 w' w.heap.size (fun k_ => (w.heap.size ≤ k_)) (.slice Ao48 x7_1.length co48) x7_1) ∧ Aside0 (Kd.R Kd.bool 4 w' w.heap.size (fun k_ => (w.heap.size ≤ k_) ∧ some k_ ≠ (uZ2 : Value).ownBlock) v205 x18_4) ∧ Aside0 (Kd.V (Kd.int .i64) 3 w' w.heap.size (fun k_ => (P0_0_ k_ ∨ w.heap.size ≤ k_) ∧ some k_ ≠ ((.slice Ao48 x7_1.length co48) : Value).ownBlock ∧ some k_ ≠ (v205 : Value).ownBlock ∧ some k_ ≠ (uZ2 : Value).ownBlock ∧ k_ ≠ gb174 ∧ k_ ≠ gb178) (.slice A0_0 l0_0.length c0_0) l0_0) ∧ Aside0 (Kd.R Kd.bool 4 w' w.heap.size (fun k_ => (w.heap.size ≤ k_) ∧ some k_ ≠ (v205 : Value).ownBlock) uZ2 xZ2_1) ∧ Aside0 (w'.heap[gb174]? = some (.cells #[(.slice A0_0 l0_0.length c0_0), (.slice A0_1 l0_1.length c0_1)] 25 (0, 0))) ∧ Aside0 (w'.heap[gb178]? = some (.cells #[uZ2] 78 (0, 0))) ∧ Aside0 (Below w.heap.size w w'))
              case atStart => exact ⟨(x15_3), (y204), (0), rS, rS, H', ⟨Nat.le_refl _⟩, ⟨rU HO_7.out⟩, ⟨by (with_reducible repeat (first | apply Kd.R_alloc | apply Kd.R_drewN | apply Kd.R_drew)); exact Kd.R_mono HO206.out (fun _ hk => ⟨hk.1.1, hk.2⟩)⟩, ⟨by (with_reducible repeat (first | apply Kd.V_alloc | apply Kd.V_drewN | apply Kd.V_drew)); exact Kd.V_mono HO_Z0.out (fun _ hk => ⟨hk.1.1, ⟨hk.1.2.1, ⟨hk.2, ⟨hk.1.2.2.2.1, ⟨hk.1.2.2.2.2.1, hk.1.2.2.2.2.2⟩⟩⟩⟩⟩)⟩, ⟨rU HO_Z2.out⟩, ⟨kU BK174.out⟩, ⟨kU BK178.out⟩, ⟨bU2 HB.out GE174.out GE178.out⟩⟩
              case round =>
               clear H'; (try clear c1); (try clear p1); (try clear q1); (try clear hx1); (try clear c2); (try clear p2); (try clear q2); (try clear hx2); (try clear hf2); (try clear c3); (try clear c3b0); (try clear c3b1); (try clear p3); (try clear q3); (try clear hx3); (try clear hf3); (try clear c4); (try clear c4b0); (try clear c4b1); (try clear c5); (try clear c6); (try clear p6); (try clear c7); (try clear c8); (try clear c9); (try clear c10); (try clear c12); (try clear c15); (try clear c15b0); (try clear c16); (try clear c16b0); (try clear c17); (try clear c17b0); (try clear p18); (try clear q18); (try clear hx18); (try clear c19); (try clear c19b0); (try clear p19); (try clear q19); (try clear hx19); (try clear c20); (try clear c20b0); (try clear p20); (try clear q20); (try clear hx20); (try clear c21); (try clear c21b0); (try clear c22); (try clear c22b0); (try clear c23); (try clear c23b0); (try clear p24); (try clear q24); (try clear hx24); (try clear hf24); (try clear c25); (try clear c25b0); (try clear c26); (try clear c26b0); (try clear p27); (try clear q27); (try clear hx27); (try clear hf27); (try clear c28); (try clear c28b0); (try clear p29); (try clear q29); (try clear hx29); (try clear hf29); (try clear c30); (try clear c30b0); (try clear p31); (try clear q31); (try clear hx31); (try clear hf31); (try clear c32); (try clear c46); (try clear c54); (try clear c54b0); (try clear c55); (try clear c55b0); (try clear c56); (try clear c56b0); (try clear c57); (try clear c57b0); (try clear c57b1); (try clear c59); (try clear c63); (try clear c63b0); (try clear c64); (try clear c64b0); (try clear p64); (try clear c65); (try clear c65b0); (try clear c67); (try clear c72); (try clear c72b0); (try clear c72b1); (try clear c73); (try clear c73b0); (try clear c73b1); (try clear hcz13_0); (try clear hcz33_0); (try clear hcz33_1); (try clear hcz36_0); (try clear hcz36_1); (try clear hcz47_0); (try clear hcz47_1); (try clear hcz60_0); (try clear hcz60_1); (try clear hcz7_0); (try clear hcz7_1); (try clear hfz13_0); (try clear hfz33_0); (try clear hfz33_1); (try clear hfz36_0); (try clear hfz36_1); (try clear hfz47_0); (try clear hfz47_1); (try clear hfz60_0); (try clear hfz60_1); (try clear hfz7_0); (try clear hfz7_1); (try clear hx182_0); (try clear hx186_0); (try clear hx187_0); (try clear hx198_0); (try clear hx202_0); (try clear hx24_0); (try clear hx27_0); (try clear hx29_0); (try clear hx31_0); (try clear p1); (try clear p18); (try clear p182); (try clear p186); (try clear p187); (try clear p19); (try clear p198); (try clear p2); (try clear p202); (try clear p24); (try clear p27); (try clear p29); (try clear p3); (try clear p31); (try clear p6); (try clear q1); (try clear q18); (try clear q182); (try clear q186); (try clear q187); (try clear q19); (try clear q198); (try clear q2); (try clear q202); (try clear q24); (try clear q27); (try clear q29); (try clear q3); (try clear q31); obtain ⟨x15_4, x18_4, x96_4, rfl, rfl, HA, HK4, HO_7, HO_18, HO_Z0, HO_Z2, BK174, BK178, HB⟩ := hrel
               cases gk with
               | zero => exact absurd HA.out (by simp [impl_ribbon.l3])
               | succ k4 =>
                have H := HA.out; clear HA; simp only [impl_ribbon.l3] at H
                by_cases c76 : x96_4 < (l0_0.length : Int)
                ·
                 rw [if_pos c76] at H; have c76b0 : decide (x96_4 < (l0_0.length : Int)) = true := decide_eq_true c76; clear c76; have HC77 := Az H; clear H
                 go_upto_region 30 with (fail)
                 go_cut [109] (fun v109 wc => ∃ (kq : Nat) (x109_76 : Bool), v109 = .bool x109_76 ∧ Aside0 (impl_ribbon.j4 kq l1 x7_1 x12_2 x15_4 x18_4 x96_4 (l0_0.length : Int) x96_4 x109_76 l0_0 l0_1 xZ2_1 = some r) ∧ Aside0 (kq ≤ k4) ∧ Aside0 (Kd.R (Kd.int .i64) 3 wc w.heap.size (fun k_ => (w.heap.size ≤ k_)) (.slice Ao48 x7_1.length co48) x7_1) ∧ Aside0 (Kd.R Kd.bool 4 wc w.heap.size (fun k_ => (w.heap.size ≤ k_) ∧ some k_ ≠ (uZ2 : Value).ownBlock) v205 x18_4) ∧ Aside0 (Kd.V (Kd.int .i64) 3 wc w.heap.size (fun k_ => (P0_0_ k_ ∨ w.heap.size ≤ k_) ∧ some k_ ≠ ((.slice Ao48 x7_1.length co48) : Value).ownBlock ∧ some k_ ≠ (v205 : Value).ownBlock ∧ some k_ ≠ (uZ2 : Value).ownBlock ∧ k_ ≠ gb174 ∧ k_ ≠ gb178) (.slice A0_0 l0_0.length c0_0) l0_0) ∧ Aside0 (Kd.R Kd.bool 4 wc w.heap.size (fun k_ => (w.heap.size ≤ k_) ∧ some k_ ≠ (v205 : Value).ownBlock) uZ2 xZ2_1) ∧ Aside0 (wc.heap[gb174]? = some (.cells #[(.slice A0_0 l0_0.length c0_0), (.slice A0_1 l0_1.length c0_1)] 25 (0, 0))) ∧ Aside0 (wc.heap[gb178]? = some (.cells #[uZ2] 78 (0, 0))) ∧ Aside0 (Below w.heap.size w wc))
                 case first =>
                  have H := HC77.out; clear HC77
                  by_cases c78 : 0 ≤ x96_4
                  ·
                   rw [if_pos c78] at H; have c78b0 : decide (0 ≤ x96_4) = true := decide_eq_true c78; clear c78; (first | rw [c78b0] | (simp only [i64_w, i32_w]; rw [c78b0]) | skip)
                   by_cases c79 : x96_4 < (xZ2_1.length : Int)
                   ·
                    rw [if_pos c79] at H; have c79b0 : decide (x96_4 < (xZ2_1.length : Int)) = true := decide_eq_true c79; clear c79; obtain ⟨bq80, hbq80⟩ : ∃ b_ : Bool, b_ = (rdOf false xZ2_1 x96_4) := ⟨_, rfl⟩
                    replace H : (if bq80 = true then (if x96_4 < (x18_4.length : Int) then (impl_ribbon.j4 k4 l1 x7_1 x12_2 x15_4 x18_4 x96_4 (l0_0.length : Int) x96_4 (rdOf false x18_4 x96_4) l0_0 l0_1 xZ2_1) else (none)) else (impl_ribbon.j4 k4 l1 x7_1 x12_2 x15_4 x18_4 x96_4 (l0_0.length : Int) x96_4 true l0_0 l0_1 xZ2_1)) = some r := by rw [← hbq80] at H; exact H
                    have Nbq80 := Az hbq80; clear hbq80
                    by_cases c81 : bq80 = true
                    ·
                     subst c81
                     have H1 : (if x96_4 < (x18_4.length : Int) then (impl_ribbon.j4 k4 l1 x7_1 x12_2 x15_4 x18_4 x96_4 (l0_0.length : Int) x96_4 (rdOf false x18_4 x96_4) l0_0 l0_1 xZ2_1) else (none)) = some r := by rw [if_pos rfl] at H; exact H
                     clear H; have H := H1; clear H1
                     by_cases c82 : x96_4 < (x18_4.length : Int)
                     ·
                      rw [if_pos c82] at H; have c82b0 : decide (x96_4 < (x18_4.length : Int)) = true := decide_eq_true c82; clear c82; have H' := Az H; clear H; have hnb83 := NB178_174.out; have hnc83 := NB174_178.out; have hcz84_0 : wr.cell? ⟨gb178, 0, none⟩ = some (uZ2) := (blk_cell BK178.out 0).trans rfl; have hfz84_0 := blk_frozen BK178.out 0; obtain ⟨Ao85, co85, eo85⟩ := Kd.R_slice HO_Z2.out; subst eo85; have p213 : 0 ≤ (x96_4 : Int) := oA; have q213 : x96_4 < (xZ2_1.length : Int) := oA; obtain ⟨ad213, e213, hx213_0⟩ := Kd.at_bool (Kd.R_reads' HO_Z2.out).2.2 x96_4 p213 q213; (try rw [← Nbq80.out] at hx213_0)
                      cases e213
                      replace p213 := eq_true p213; replace q213 := eq_true q213; obtain ⟨Ao86, co86, eo86⟩ := Kd.R_slice HO_18.out; subst eo86; have p214 : 0 ≤ (x96_4 : Int) := oA; have q214 : x96_4 < (x18_4.length : Int) := oA; obtain ⟨ad214, e214, hx214_0⟩ := Kd.at_bool (Kd.R_reads' HO_18.out).2.2 x96_4 p214 q214; (try rw [← Nbq80.out] at hx214_0)
                      cases e214
                      replace p214 := eq_true p214; replace q214 := eq_true q214
                      go_wp2
                      go_meet
                      case rel => exact ⟨_, (rdOf false x18_4 x96_4), rS, H', ⟨by have := HK1.out; have := HK2.out; have := HK3.out; have := HK4.out; first | omega | exact Nat.le_refl _⟩, ⟨rU HO_7.out⟩, ⟨rU HO_18.out⟩, ⟨vU HO_Z0.out⟩, ⟨rU HO_Z2.out⟩, ⟨kU BK174.out⟩, ⟨kU BK178.out⟩, ⟨bU2 HB.out GE174.out GE178.out⟩⟩
                     ·
                      rw [if_neg c82] at H
                      exact absurd H (by simp)
                    ·
                     replace c81 := Bool.eq_false_iff.mpr c81; subst c81
                     have H1 : (impl_ribbon.j4 k4 l1 x7_1 x12_2 x15_4 x18_4 x96_4 (l0_0.length : Int) x96_4 true l0_0 l0_1 xZ2_1) = some r := by rw [if_neg (show ¬ (false = true) by decide)] at H; exact H
                     clear H; have H := H1; clear H1; have H' := Az H; clear H; have hnb87 := NB178_174.out; have hnc87 := NB174_178.out; have hcz88_0 : wr.cell? ⟨gb178, 0, none⟩ = some (uZ2) := (blk_cell BK178.out 0).trans rfl; have hfz88_0 := blk_frozen BK178.out 0; obtain ⟨Ao89, co89, eo89⟩ := Kd.R_slice HO_Z2.out; subst eo89; have p213 : 0 ≤ (x96_4 : Int) := oA; have q213 : x96_4 < (xZ2_1.length : Int) := oA; obtain ⟨ad213, e213, hx213_0⟩ := Kd.at_bool (Kd.R_reads' HO_Z2.out).2.2 x96_4 p213 q213; (try rw [← Nbq80.out] at hx213_0)
                     cases e213
                     replace p213 := eq_true p213; replace q213 := eq_true q213
                     go_wp2
                     go_meet
                     case rel => exact ⟨_, (true), rS, H', ⟨by have := HK1.out; have := HK2.out; have := HK3.out; have := HK4.out; first | omega | exact Nat.le_refl _⟩, ⟨rU HO_7.out⟩, ⟨rU HO_18.out⟩, ⟨vU HO_Z0.out⟩, ⟨rU HO_Z2.out⟩, ⟨kU BK174.out⟩, ⟨kU BK178.out⟩, ⟨bU2 HB.out GE174.out GE178.out⟩⟩
                   ·
                    rw [if_neg c79] at H
                    exact absurd H (by simp)
                  ·
                   rw [if_neg c78] at H
                   exact absurd H (by simp)
                 case rest =>
                  clear HC77; (try clear c1); (try clear p1); (try clear q1); (try clear hx1); (try clear c2); (try clear p2); (try clear q2); (try clear hx2); (try clear hf2); (try clear c3); (try clear c3b0); (try clear c3b1); (try clear p3); (try clear q3); (try clear hx3); (try clear hf3); (try clear c4); (try clear c4b0); (try clear c4b1); (try clear c5); (try clear c6); (try clear p6); (try clear c7); (try clear c8); (try clear q8); (try clear c9); (try clear c10); (try clear c12); (try clear c15); (try clear c15b0); (try clear c16); (try clear c16b0); (try clear c17); (try clear c17b0); (try clear p18); (try clear q18); (try clear hx18); (try clear c19); (try clear c19b0); (try clear p19); (try clear q19); (try clear hx19); (try clear c20); (try clear c20b0); (try clear p20); (try clear q20); (try clear hx20); (try clear c21); (try clear c21b0); (try clear p21); (try clear q21); (try clear hx21); (try clear c22); (try clear c22b0); (try clear c23); (try clear c23b0); (try clear p24); (try clear q24); (try clear hx24); (try clear hf24); (try clear c25); (try clear c25b0); (try clear c26); (try clear c26b0); (try clear p27); (try clear q27); (try clear hx27); (try clear hf27); (try clear c28); (try clear c28b0); (try clear p29); (try clear q29); (try clear hx29); (try clear hf29); (try clear c30); (try clear c30b0); (try clear p31); (try clear q31); (try clear hx31); (try clear hf31); (try clear c32); (try clear c46); (try clear c54); (try clear c54b0); (try clear c55); (try clear c55b0); (try clear c56); (try clear c56b0); (try clear c57); (try clear c57b0); (try clear c57b1); (try clear c59); (try clear c63); (try clear c63b0); (try clear c64); (try clear c64b0); (try clear p64); (try clear c65); (try clear c65b0); (try clear c67); (try clear c72); (try clear c72b0); (try clear c72b1); (try clear c73); (try clear c73b0); (try clear c73b1); (try clear c76); (try clear c76b0); (try clear c78); (try clear c78b0); (try clear c79); (try clear c79b0); (try clear c80); (try clear q80); (try clear c81); (try clear c82); (try clear c82b0); (try clear c83); (try clear c87); (try clear hcz13_0); (try clear hcz33_0); (try clear hcz33_1); (try clear hcz36_0); (try clear hcz36_1); (try clear hcz47_0); (try clear hcz47_1); (try clear hcz60_0); (try clear hcz60_1); (try clear hcz7_0); (try clear hcz7_1); (try clear hcz84_0); (try clear hcz88_0); (try clear hfz13_0); (try clear hfz33_0); (try clear hfz33_1); (try clear hfz36_0); (try clear hfz36_1); (try clear hfz47_0); (try clear hfz47_1); (try clear hfz60_0); (try clear hfz60_1); (try clear hfz7_0); (try clear hfz7_1); (try clear hfz84_0); (try clear hfz88_0); (try clear hx182_0); (try clear hx186_0); (try clear hx187_0); (try clear hx198_0); (try clear hx202_0); (try clear hx213_0); (try clear hx214_0); (try clear hx24_0); (try clear hx27_0); (try clear hx29_0); (try clear hx31_0); (try clear p1); (try clear p18); (try clear p182); (try clear p186); (try clear p187); (try clear p19); (try clear p198); (try clear p2); (try clear p20); (try clear p202); (try clear p213); (try clear p214); (try clear p24); (try clear p27); (try clear p29); (try clear p3); (try clear p31); (try clear p6); (try clear p64); (try clear q1); (try clear q18); (try clear q182); (try clear q186); (try clear q187); (try clear q19); (try clear q198); (try clear q2); (try clear q20); (try clear q202); (try clear q213); (try clear q214); (try clear q24); (try clear q27); (try clear q29); (try clear q3); (try clear q31); obtain ⟨kq, x109_76, rfl, HA, HJ76, HO_7, HO_18, HO_Z0, HO_Z2, BK174, BK178, HB⟩ := hcut
                  cases kq with
                  | zero => exact absurd HA.out (by simp [impl_ribbon.j4])
                  | succ kj76 =>
                   have H := HA.out; clear HA; simp only [impl_ribbon.j4] at H
                   by_cases c90 : x109_76 = true
                   ·
                    subst c90
                    have H1 : (impl_ribbon.l3 kj76 l1 x7_1 x12_2 x15_4 x18_4 (l0_0.length : Int) (wrap64 (x96_4 + 1)) l0_0 l0_1 xZ2_1) = some r := by rw [if_pos rfl] at H; exact H
                    clear H; have H := H1; clear H1; have H' := Az H; clear H
                    go_wp2
                    (first | go_roundg kj76 | (refine Handed.intro kj76 ?measure ?_; rotate_left; go_step; (try simp only [add_plain]); (repeat apply Exists.intro); refine ⟨?rel, rfl⟩))
                    case measure => have := HK1.out; have := HK2.out; have := HK3.out; have := HK4.out; have := HJ76.out; omega
                    case rel => exact ⟨(x15_4), (x18_4), (wrap64 (x96_4 + 1)), rS, rS, H', ⟨by have := HK1.out; have := HK2.out; have := HK3.out; have := HK4.out; have := HJ76.out; omega⟩, ⟨rU HO_7.out⟩, ⟨rU HO_18.out⟩, ⟨vU HO_Z0.out⟩, ⟨rU HO_Z2.out⟩, ⟨kU BK174.out⟩, ⟨kU BK178.out⟩, ⟨bU2 HB.out GE174.out GE178.out⟩⟩
                   ·
                    replace c90 := Bool.eq_false_iff.mpr c90; subst c90
                    have H1 : (impl_ribbon.l4 kj76 l1 x7_1 x12_2 (wrap64 (x15_4 + 1)) x18_4 x96_4 (l0_0.length : Int) x96_4 l0_0 l0_1 xZ2_1) = some r := by rw [if_neg (show ¬ (false = true) by decide)] at H; exact H
                    clear H; have H := H1; clear H1; have H' := Az H; clear H
                    go_wp2
                    go_loopg [20] kj76 (fun kq v20 w' => ∃ (x18_6 : List Bool) (x20_6 : Int), v20 = .int .i64 x20_6 ∧ Aside0 (impl_ribbon.l4 kq l1 x7_1 x12_2 (wrap64 (x15_4 + 1)) x18_6 x20_6 (l0_0.length : Int) x96_4 l0_0 l0_1 xZ2_1 = some r) ∧ Aside0 (kq ≤ kj76) ∧ Aside0 (Kd.R (Kd.int .i64) 3 w' w.heap.size (fun k_ => (w.heap.size ≤ k_)) (.slice Ao48 x7_1.length co48) x7_1) ∧ Aside0 (Kd.R Kd.bool 4 w' w.heap.size (fun k_ => (w.heap.size ≤ k_) ∧ some k_ ≠ (uZ2 : Value).ownBlock) v205 x18_6) ∧ Aside0 (Kd.V (Kd.int .i64) 3 w' w.heap.size (fun k_ => (P0_0_ k_ ∨ w.heap.size ≤ k_) ∧ some k_ ≠ ((.slice Ao48 x7_1.length co48) : Value).ownBlock ∧ some k_ ≠ (v205 : Value).ownBlock ∧ some k_ ≠ (uZ2 : Value).ownBlock ∧ k_ ≠ gb174 ∧ k_ ≠ gb178) (.slice A0_0 l0_0.length c0_0) l0_0) ∧ Aside0 (Kd.R Kd.bool 4 w' w.heap.size (fun k_ => (w.heap.size ≤ k_) ∧ some k_ ≠ (v205 : Value).ownBlock) uZ2 xZ2_1) ∧ Aside0 (w'.heap[gb174]? = some (.cells #[(.slice A0_0 l0_0.length c0_0), (.slice A0_1 l0_1.length c0_1)] 25 (0, 0))) ∧ Aside0 (w'.heap[gb178]? = some (.cells #[uZ2] 78 (0, 0))) ∧ Aside0 (Below w.heap.size w w'))
                    case atStart => exact ⟨(x18_4), (x96_4), rS, H', ⟨Nat.le_refl _⟩, ⟨rU HO_7.out⟩, ⟨rU HO_18.out⟩, ⟨vU HO_Z0.out⟩, ⟨rU HO_Z2.out⟩, ⟨kU BK174.out⟩, ⟨kU BK178.out⟩, ⟨bU2 HB.out GE174.out GE178.out⟩⟩
                    case round =>
                     clear H'; (try clear c1); (try clear p1); (try clear q1); (try clear hx1); (try clear c2); (try clear p2); (try clear q2); (try clear hx2); (try clear hf2); (try clear c3); (try clear c3b0); (try clear c3b1); (try clear p3); (try clear q3); (try clear hx3); (try clear hf3); (try clear c4); (try clear c4b0); (try clear c4b1); (try clear c5); (try clear c6); (try clear p6); (try clear c7); (try clear c8); (try clear q8); (try clear c9); (try clear c10); (try clear c12); (try clear c15); (try clear c15b0); (try clear c16); (try clear c16b0); (try clear c17); (try clear c17b0); (try clear p18); (try clear q18); (try clear hx18); (try clear c19); (try clear c19b0); (try clear p19); (try clear q19); (try clear hx19); (try clear c20); (try clear c20b0); (try clear p20); (try clear q20); (try clear hx20); (try clear c21); (try clear c21b0); (try clear p21); (try clear q21); (try clear hx21); (try clear c22); (try clear c22b0); (try clear c23); (try clear c23b0); (try clear p24); (try clear q24); (try clear hx24); (try clear hf24); (try clear c25); (try clear c25b0); (try clear c26); (try clear c26b0); (try clear p27); (try clear q27); (try clear hx27); (try clear hf27); (try clear c28); (try clear c28b0); (try clear p29); (try clear q29); (try clear hx29); (try clear hf29); (try clear c30); (try clear c30b0); (try clear p31); (try clear q31); (try clear hx31); (try clear hf31); (try clear c32); (try clear c46); (try clear c54); (try clear c54b0); (try clear c55); (try clear c55b0); (try clear c56); (try clear c56b0); (try clear c57); (try clear c57b0); (try clear c57b1); (try clear c59); (try clear c63); (try clear c63b0); (try clear c64); (try clear c64b0); (try clear p64); (try clear c65); (try clear c65b0); (try clear c67); (try clear c72); (try clear c72b0); (try clear c72b1); (try clear c73); (try clear c73b0); (try clear c73b1); (try clear c76); (try clear c76b0); (try clear c78); (try clear c78b0); (try clear c79); (try clear c79b0); (try clear c80); (try clear q80); (try clear c81); (try clear c82); (try clear c82b0); (try clear c83); (try clear c87); (try clear c90); (try clear hcz13_0); (try clear hcz33_0); (try clear hcz33_1); (try clear hcz36_0); (try clear hcz36_1); (try clear hcz47_0); (try clear hcz47_1); (try clear hcz60_0); (try clear hcz60_1); (try clear hcz7_0); (try clear hcz7_1); (try clear hcz84_0); (try clear hcz88_0); (try clear hfz13_0); (try clear hfz33_0); (try clear hfz33_1); (try clear hfz36_0); (try clear hfz36_1); (try clear hfz47_0); (try clear hfz47_1); (try clear hfz60_0); (try clear hfz60_1); (try clear hfz7_0); (try clear hfz7_1); (try clear hfz84_0); (try clear hfz88_0); (try clear hx182_0); (try clear hx186_0); (try clear hx187_0); (try clear hx198_0); (try clear hx202_0); (try clear hx213_0); (try clear hx214_0); (try clear hx24_0); (try clear hx27_0); (try clear hx29_0); (try clear hx31_0); (try clear p1); (try clear p18); (try clear p182); (try clear p186); (try clear p187); (try clear p19); (try clear p198); (try clear p2); (try clear p20); (try clear p202); (try clear p21); (try clear p213); (try clear p214); (try clear p24); (try clear p27); (try clear p29); (try clear p3); (try clear p31); (try clear p6); (try clear p64); (try clear q1); (try clear q18); (try clear q182); (try clear q186); (try clear q187); (try clear q19); (try clear q198); (try clear q2); (try clear q20); (try clear q202); (try clear q21); (try clear q213); (try clear q214); (try clear q24); (try clear q27); (try clear q29); (try clear q3); (try clear q31); (try clear q8); (try clear q80); obtain ⟨x18_6, x20_6, rfl, HA, HK6, HO_7, HO_18, HO_Z0, HO_Z2, BK174, BK178, HB⟩ := hrel
                     cases gk with
                     | zero => exact absurd HA.out (by simp [impl_ribbon.l4])
                     | succ k6 =>
                      have H := HA.out; clear HA; simp only [impl_ribbon.l4] at H
                      by_cases c91 : 0 ≤ x20_6
                      ·
                       rw [if_pos c91] at H; have c91b0 : decide (0 ≤ x20_6) = true := decide_eq_true c91; clear c91
                       by_cases c92 : x20_6 < (x18_6.length : Int)
                       ·
                        rw [if_pos c92] at H; have c92b0 : decide (x20_6 < (x18_6.length : Int)) = true := decide_eq_true c92; clear c92; obtain ⟨bq93, hbq93⟩ : ∃ b_ : Bool, b_ = (rdOf false x18_6 x20_6) := ⟨_, rfl⟩
                        replace H : (if bq93 = true then (impl_ribbon.l3 k6 l1 x7_1 x12_2 (wrap64 (x15_4 + 1)) x18_6 (l0_0.length : Int) (wrap64 (x96_4 + 1)) l0_0 l0_1 xZ2_1) else (if x20_6 < (x7_1.length : Int) then (if 0 ≤ (rd x7_1 x20_6) then (if (rd x7_1 x20_6) < (l0_0.length : Int) then (impl_ribbon.l5 k6 l1 x7_1 x12_2 (wrap64 (x15_4 + 1)) (x18_6.set (x20_6 : Int).toNat true) (rd l0_0 (rd x7_1 x20_6)) (l0_0.length : Int) x96_4 l0_0 l0_1 xZ2_1) else (none)) else (none)) else (none))) = some r := by rw [← hbq93] at H; exact H
                        have Nbq93 := Az hbq93; clear hbq93
                        by_cases c94 : bq93 = true
                        ·
                         subst c94
                         have H1 : (impl_ribbon.l3 k6 l1 x7_1 x12_2 (wrap64 (x15_4 + 1)) x18_6 (l0_0.length : Int) (wrap64 (x96_4 + 1)) l0_0 l0_1 xZ2_1) = some r := by rw [if_pos rfl] at H; exact H
                         clear H; have H := H1; clear H1; have H' := Az H; clear H; obtain ⟨Ao95, co95, eo95⟩ := Kd.R_slice HO_18.out; subst eo95; have p215 : 0 ≤ (x20_6 : Int) := oA; have q215 : x20_6 < (x18_6.length : Int) := oA; obtain ⟨ad215, e215, hx215_0⟩ := Kd.at_bool (Kd.R_reads' HO_18.out).2.2 x20_6 p215 q215; (try rw [← Nbq93.out] at hx215_0)
                         cases e215
                         replace p215 := eq_true p215; replace q215 := eq_true q215
                         go_wp2
                         (first | go_roundg k6 | (refine Handed.intro k6 ?measure ?_; rotate_left; go_step; (try simp only [add_plain]); (repeat apply Exists.intro); refine ⟨?rel, rfl⟩))
                         case measure => have := HK1.out; have := HK2.out; have := HK3.out; have := HK4.out; have := HJ76.out; have := HK6.out; omega
                         case rel => exact ⟨((wrap64 (x15_4 + 1))), (x18_6), (wrap64 (x96_4 + 1)), rS, rS, H', ⟨by have := HK1.out; have := HK2.out; have := HK3.out; have := HK4.out; have := HJ76.out; have := HK6.out; omega⟩, ⟨rU HO_7.out⟩, ⟨rU HO_18.out⟩, ⟨vU HO_Z0.out⟩, ⟨rU HO_Z2.out⟩, ⟨kU BK174.out⟩, ⟨kU BK178.out⟩, ⟨bU2 HB.out GE174.out GE178.out⟩⟩
                        ·
                         replace c94 := Bool.eq_false_iff.mpr c94; subst c94
                         have H1 : (if x20_6 < (x7_1.length : Int) then (if 0 ≤ (rd x7_1 x20_6) then (if (rd x7_1 x20_6) < (l0_0.length : Int) then (impl_ribbon.l5 k6 l1 x7_1 x12_2 (wrap64 (x15_4 + 1)) (x18_6.set (x20_6 : Int).toNat true) (rd l0_0 (rd x7_1 x20_6)) (l0_0.length : Int) x96_4 l0_0 l0_1 xZ2_1) else (none)) else (none)) else (none)) = some r := by rw [if_neg (show ¬ (false = true) by decide)] at H; exact H
                         clear H; have H := H1; clear H1; obtain ⟨y216, hy216⟩ : ∃ y_ : List Bool, y_ = (x18_6.set (x20_6 : Int).toNat true) := ⟨_, rfl⟩; replace H : (if x20_6 < (x7_1.length : Int) then (if 0 ≤ (rd x7_1 x20_6) then (if (rd x7_1 x20_6) < (l0_0.length : Int) then (impl_ribbon.l5 k6 l1 x7_1 x12_2 (wrap64 (x15_4 + 1)) y216 (rd l0_0 (rd x7_1 x20_6)) (l0_0.length : Int) x96_4 l0_0 l0_1 xZ2_1) else (none)) else (none)) else (none)) = some r := hR hy216 H; have Ny216 := Az hy216; clear hy216
                         by_cases c97 : x20_6 < (x7_1.length : Int)
                         ·
                          rw [if_pos c97] at H; have c97b0 : decide (x20_6 < (x7_1.length : Int)) = true := decide_eq_true c97; clear c97
                          by_cases c98 : 0 ≤ (rd x7_1 x20_6)
                          ·
                           rw [if_pos c98] at H; have c98b0 : decide (0 ≤ (rd x7_1 x20_6)) = true := decide_eq_true c98; clear c98
                           by_cases c99 : (rd x7_1 x20_6) < (l0_0.length : Int)
                           ·
                            rw [if_pos c99] at H; have c99b0 : decide ((rd x7_1 x20_6) < (l0_0.length : Int)) = true := decide_eq_true c99; clear c99; have H' := Az H; clear H; obtain ⟨Ao100, co100, eo100⟩ := Kd.R_slice HO_18.out; subst eo100; have p215 : 0 ≤ (x20_6 : Int) := oA; have q215 : x20_6 < (x18_6.length : Int) := oA; obtain ⟨ad215, e215, hx215_0⟩ := Kd.at_bool (Kd.R_reads' HO_18.out).2.2 x20_6 p215 q215; (try rw [← Nbq93.out] at hx215_0)
                            cases e215
                            replace p215 := eq_true p215; replace q215 := eq_true q215; have p96 : 0 ≤ (x20_6 : Int) := oA; have q96 : (x20_6 : Int) < ((x18_6.length : Int) : Int) := oA; obtain ⟨go96, co96, eo96, gb96, gl96, cl96, HG96⟩ := Kd.R_form HO_18.out (by omega); (first | cases eo96 | (injection eo96 with ea_ en_ ec_; (first | subst ea_ | (injection ea_ with ea_; subst ea_)); subst ec_; clear en_)); have GB96 := Az gb96; have GG96 := Az HG96; clear gb96 gl96 HG96; (first | simp only [add_plain] at hx215_0 | skip); obtain ⟨hx96_0, hf96_0⟩ := Kd.R_celln false HO_18.out (x20_6 : Int) p96 q96; replace p96 := eq_true p96; replace q96 := eq_true q96; obtain ⟨hy101_, hz101_⟩ := Kd.R_celln false HO_18.out (x20_6 : Int) (oA) (oA); have HP101 := Kd.R_putg HO_18.out (x20_6 : Int) true
                            try go_wp2_with (first | ((with_reducible refine gate_store (t := 4) (p := 120) rfl ?_); refine store_event (t := 4) (p := 120) (v := ?vo_w102) (w1 := (wr.setCell ⟨go96, (x20_6 : Int).toNat, none⟩ (.bool true))) ?hg ?ho ?hn ?hr ?_; (case ho => rfl); (case hg => rfl); (case hn => rfl); (case hr => first | (go_simp; done) | (go_simp; rfl)); intro w102 hw; have hg : wr.grownBy w102 (some go96) := (by rw [hw]; exact HP101.2); have hp_ : Kd.R Kd.bool 4 w102 w.heap.size (fun k_ => (w.heap.size ≤ k_) ∧ some k_ ≠ (uZ2 : Value).ownBlock) (.slice (some ⟨go96, 0, none⟩) x18_6.length co100) y216 := (by rw [hw, Ny216.out]; exact HP101.1); clear HP101; have n0 := Az (Kd.R_over' (v := (.slice (some ⟨go96, 0, none⟩) x18_6.length co100)) (rU HO_7.out) (Kd.R_typed HO_18.out) (by decide) hg); have n1 := Az (hp_); have n2 := Az (Kd.V_afterv (v := (.slice (some ⟨go96, 0, none⟩) x18_6.length co100)) (v1 := (.slice (some ⟨go96, 0, none⟩) x18_6.length co100)) (ok := (fun k_ => (P0_0_ k_ ∨ w.heap.size ≤ k_) ∧ some k_ ≠ (.slice Ao48 x7_1.length co48 : Value).ownBlock ∧ some k_ ≠ (uZ2 : Value).ownBlock ∧ k_ ≠ gb174 ∧ k_ ≠ gb178)) (by (with_reducible repeat (first | apply Kd.V_alloc | apply Kd.V_drewN | apply Kd.V_drew)); exact Kd.V_mono HO_Z0.out (fun _ hk => ⟨⟨hk.1, ⟨hk.2.1, ⟨hk.2.2.2.1, ⟨hk.2.2.2.2.1, hk.2.2.2.2.2⟩⟩⟩⟩, hk.2.2.1⟩)) hg (.inl rfl)); have n3 := Az (Kd.R_after (v := (.slice (some ⟨go96, 0, none⟩) x18_6.length co100)) (v1 := (.slice (some ⟨go96, 0, none⟩) x18_6.length co100)) (ok := (fun k_ => (w.heap.size ≤ k_))) (rU HO_Z2.out) hg (.inl rfl)); have n4 := Az (blk_grown (g := gb174) (o := .cells #[.slice A0_0 l0_0.length c0_0, .slice A0_1 l0_1.length c0_1] 25 (0, 0)) (kU BK174.out) hg (Kd.R_ne HO_18.out BK174.out (by decide))); have n5 := Az (blk_grown (g := gb178) (o := .cells #[uZ2] 78 (0, 0)) (kU BK178.out) hg (Kd.R_ne HO_18.out BK178.out (by decide))); have n6 := Az ((by rw [hw]; exact below_set (HB.out) GB96.out : Below w.heap.size w w102)); clear HO_7 HO_18 HO_Z0 HO_Z2 BK174 BK178 HB; have HO_7 := n0; have HO_18 := n1; have HO_Z0 := n2; have HO_Z2 := n3; have BK174 := n4; have BK178 := n5; have HB := n6; clear n0 n1 n2 n3 n4 n5 n6; clear hg hw hp_))
                            have n0 := Az (Kd.R_drew HO_7.out); have n1 := Az (Kd.R_drew HO_18.out); have n2 := Az (Kd.V_drew HO_Z0.out); have n3 := Az (Kd.R_drew HO_Z2.out); have n4 := Az (blk_drew BK174.out); have n5 := Az (blk_drew BK178.out); have n6 := Az (below_drew1 HB.out); clear HO_7 HO_18 HO_Z0 HO_Z2 BK174 BK178 HB; have HO_7 := n0; have HO_18 := n1; have HO_Z0 := n2; have HO_Z2 := n3; have BK174 := n4; have BK178 := n5; have HB := n6; clear n0 n1 n2 n3 n4 n5 n6; have p217 : 0 ≤ (x20_6 : Int) := oA; have q217 : x20_6 < (x7_1.length : Int) := oA; obtain ⟨ad217, e217, hx217_0⟩ := Kd.at_int (Kd.R_reads' HO_7.out).2.2 x20_6 p217 q217
                            cases e217
                            replace p217 := eq_true p217; replace q217 := eq_true q217; have p218 : 0 ≤ ((rd x7_1 x20_6) : Int) := oA; have q218 : (rd x7_1 x20_6) < (l0_0.length : Int) := oA; obtain ⟨ad218, e218, hx218_0⟩ := Kd.at_int (Kd.V_reads' HO_Z0.out).2.2 (rd x7_1 x20_6) p218 q218
                            cases e218
                            replace p218 := eq_true p218; replace q218 := eq_true q218
                            refine start_ (n := 9) (S := fun w' => w'.cell? ⟨gb174, 0, none⟩ = some (.slice (some ad218) l0_0.length c0_0) ∧ w'.cell? ⟨gb174, 1, none⟩ = some (.slice A0_1 l0_1.length c0_1) ∧ w'.cell? (ad217.add (x20_6).toNat) = some (.int .i64 (rd x7_1 x20_6)) ∧ w'.cell? (ad218.add ((rd x7_1 x20_6)).toNat) = some (.int .i64 (rd l0_0 (rd x7_1 x20_6)))) (ds := []) #[false, false, false, false, false, false, false, false, false] (by kernel_rfl) rfl rfl ⟨(blk_cell BK174.out 0).trans rfl, (blk_cell BK174.out 1).trans rfl, hx217_0, hx218_0⟩ (fun hHeld => ?_); refine with_tabW impl_ribbon.tab35 impl_ribbon.bits35 (fun HT_ HW_ => ?_)
                            generalize w102.drew = w103 at HO_7 HO_18 HO_Z0 HO_Z2 BK174 BK178 HB hx217_0 hx218_0 hHeld ⊢
                            refine pure_ (i := 0) (N := some 121) (v := ?_) (a' := ?_) #[true, false, false, false, false, false, false, false, false] rfl rfl (any_of HT_.out (by kernel_rfl)) (fun _ _ _ h => h) (Or.inl ⟨by rfl, ?_⟩) ?_ ?_
                            rotate_left
                            ·
                             intro w'
                             go_simp
                             with_reducible rfl
                            rotate_left
                            ·
                             simp only [Act.put, List.setIfInBounds_toArray, List.set_cons_zero, List.set_cons_succ, i64_w, i32_w]
                             rfl
                            refine pure_ (i := 2) (N := some 123) (v := ?_) (a' := ?_) #[true, false, true, false, false, false, false, false, false] rfl rfl (any_of HT_.out (by kernel_rfl)) (fun _ _ _ h => h) (Or.inl ⟨by rfl, ?_⟩) ?_ ?_
                            rotate_left
                            ·
                             intro w'
                             go_simp
                             with_reducible rfl
                            rotate_left
                            ·
                             simp only [Act.put, List.setIfInBounds_toArray, List.set_cons_zero, List.set_cons_succ, i64_w, i32_w]
                             rfl
                            refine pure_ (i := 3) (N := some 124) (v := ?_) (a' := ?_) #[true, false, true, true, false, false, false, false, false] rfl rfl (any_of HT_.out (by kernel_rfl)) (fun _ _ _ h => h) (Or.inl ⟨by rfl, ?_⟩) ?_ ?_
                            rotate_left
                            ·
                             intro w'
                             go_simp
                             with_reducible rfl
                            rotate_left
                            ·
                             simp only [Act.put, List.setIfInBounds_toArray, List.set_cons_zero, List.set_cons_succ, i64_w, i32_w]
                             rfl
                            refine pure_ (i := 4) (N := some 125) (v := ?_) (a' := ?_) #[true, false, true, true, true, false, false, false, false] rfl rfl (any_of HT_.out (by kernel_rfl)) (fun _ _ _ h => h) (Or.inl ⟨by rfl, ?_⟩) ?_ ?_
                            rotate_left
                            ·
                             intro w'
                             go_simp
                             with_reducible rfl
                            rotate_left
                            ·
                             simp only [Act.put, List.setIfInBounds_toArray, List.set_cons_zero, List.set_cons_succ, i64_w, i32_w]
                             rfl
                            refine take_ (i := 1) (N := some 122) (v := ?_) (a' := ?_) #[true, true, true, true, true, false, false, false, false] rfl rfl (take_ofW HT_.out HW_.out (by kernel_rfl)) (fun _ _ _ h => h) (Or.inl ⟨by rfl, ?_⟩) hHeld ?_ ?_
                            rotate_left
                            ·
                             rintro w' ⟨s0, s1, s2, s3⟩
                             go_simp
                             with_reducible rfl
                            rotate_left
                            ·
                             simp only [Act.put, List.setIfInBounds_toArray, List.set_cons_zero, List.set_cons_succ, i64_w, i32_w]
                             rfl
                            refine take_ (i := 5) (N := some 126) (v := ?_) (a' := ?_) #[true, true, true, true, true, true, false, false, false] rfl rfl (take_ofW HT_.out HW_.out (by kernel_rfl)) (fun _ _ _ h => h) (Or.inl ⟨by rfl, ?_⟩) hHeld ?_ ?_
                            rotate_left
                            ·
                             rintro w' ⟨s0, s1, s2, s3⟩
                             go_simp
                             with_reducible rfl
                            rotate_left
                            ·
                             simp only [Act.put, List.setIfInBounds_toArray, List.set_cons_zero, List.set_cons_succ, i64_w, i32_w]
                             rfl
                            refine pure_ (i := 6) (N := some 127) (v := ?_) (a' := ?_) #[true, true, true, true, true, true, true, false, false] rfl rfl (any_of HT_.out (by kernel_rfl)) (fun _ _ _ h => h) (Or.inl ⟨by rfl, ?_⟩) ?_ ?_
                            rotate_left
                            ·
                             intro w'
                             go_simp
                             with_reducible rfl
                            rotate_left
                            ·
                             simp only [Act.put, List.setIfInBounds_toArray, List.set_cons_zero, List.set_cons_succ, i64_w, i32_w]
                             rfl
                            refine take_ (i := 7) (N := some 128) (v := ?_) (a' := ?_) #[true, true, true, true, true, true, true, true, false] rfl rfl (take_ofW HT_.out HW_.out (by kernel_rfl)) (fun _ _ _ h => h) (Or.inl ⟨by rfl, ?_⟩) hHeld ?_ ?_
                            rotate_left
                            ·
                             rintro w' ⟨s0, s1, s2, s3⟩
                             go_simp
                             with_reducible rfl
                            rotate_left
                            ·
                             simp only [Act.put, List.setIfInBounds_toArray, List.set_cons_zero, List.set_cons_succ, i64_w, i32_w]
                             rfl
                            refine pure_ (i := 8) (N := some 20) (v := ?_) (a' := ?_) #[true, true, true, true, true, true, true, true, true] rfl rfl (any_of HT_.out (by kernel_rfl)) (fun _ _ _ h => h) (Or.inl ⟨by rfl, ?_⟩) ?_ ?_
                            rotate_left
                            ·
                             intro w'
                             go_simp
                             with_reducible rfl
                            rotate_left
                            ·
                             simp only [Act.put, List.setIfInBounds_toArray, List.set_cons_zero, List.set_cons_succ, i64_w, i32_w]
                             rfl
                            refine done_ (done_of HT_.out (by kernel_rfl)) ?_
                            try go_wp2
                            go_loopg [20] k6 (fun kq v20 w' => ∃ (x20_7 : Int), v20 = .int .i64 x20_7 ∧ Aside0 (impl_ribbon.l5 kq l1 x7_1 x12_2 (wrap64 (x15_4 + 1)) y216 x20_7 (l0_0.length : Int) x96_4 l0_0 l0_1 xZ2_1 = some r) ∧ Aside0 (kq ≤ k6) ∧ Aside0 (Kd.R (Kd.int .i64) 3 w' w.heap.size (fun k_ => (w.heap.size ≤ k_)) (.slice (some ad217) x7_1.length co48) x7_1) ∧ Aside0 (Kd.R Kd.bool 4 w' w.heap.size (fun k_ => (w.heap.size ≤ k_) ∧ some k_ ≠ (uZ2 : Value).ownBlock) (.slice (some ⟨go96, 0, none⟩) x18_6.length co100) y216) ∧ Aside0 (Kd.V (Kd.int .i64) 3 w' w.heap.size (fun k_ => (P0_0_ k_ ∨ w.heap.size ≤ k_) ∧ some k_ ≠ ((.slice (some ad217) x7_1.length co48) : Value).ownBlock ∧ some k_ ≠ ((.slice (some ⟨go96, 0, none⟩) x18_6.length co100) : Value).ownBlock ∧ some k_ ≠ (uZ2 : Value).ownBlock ∧ k_ ≠ gb174 ∧ k_ ≠ gb178) (.slice (some ad218) l0_0.length c0_0) l0_0) ∧ Aside0 (Kd.R Kd.bool 4 w' w.heap.size (fun k_ => (w.heap.size ≤ k_) ∧ some k_ ≠ ((.slice (some ⟨go96, 0, none⟩) x18_6.length co100) : Value).ownBlock) uZ2 xZ2_1) ∧ Aside0 (w'.heap[gb174]? = some (.cells #[(.slice (some ad218) l0_0.length c0_0), (.slice A0_1 l0_1.length c0_1)] 25 (0, 0))) ∧ Aside0 (w'.heap[gb178]? = some (.cells #[uZ2] 78 (0, 0))) ∧ Aside0 (Below w.heap.size w w'))
                            case atStart => exact ⟨(rd l0_0 (rd x7_1 x20_6)), rS, H', ⟨Nat.le_refl _⟩, ⟨rU HO_7.out⟩, ⟨rU HO_18.out⟩, ⟨by (with_reducible repeat (first | apply Kd.V_alloc | apply Kd.V_drewN | apply Kd.V_drew)); exact Kd.V_mono HO_Z0.out (fun _ hk => ⟨hk.1.1, ⟨hk.1.2.1, ⟨hk.2, ⟨hk.1.2.2.1, ⟨hk.1.2.2.2.1, hk.1.2.2.2.2⟩⟩⟩⟩⟩)⟩, ⟨rU HO_Z2.out⟩, ⟨kU BK174.out⟩, ⟨kU BK178.out⟩, ⟨bU2 HB.out GE174.out GE178.out⟩⟩
                            case round =>
                             clear H'; (try clear c1); (try clear p1); (try clear q1); (try clear hx1); (try clear c2); (try clear p2); (try clear q2); (try clear hx2); (try clear hf2); (try clear c3); (try clear c3b0); (try clear c3b1); (try clear p3); (try clear q3); (try clear hx3); (try clear hf3); (try clear c4); (try clear c4b0); (try clear c4b1); (try clear c5); (try clear c6); (try clear p6); (try clear c7); (try clear c8); (try clear q8); (try clear c9); (try clear p9); (try clear q9); (try clear hx9); (try clear hf9); (try clear c10); (try clear c12); (try clear c15); (try clear c15b0); (try clear c16); (try clear c16b0); (try clear c17); (try clear c17b0); (try clear p18); (try clear q18); (try clear hx18); (try clear c19); (try clear c19b0); (try clear p19); (try clear q19); (try clear hx19); (try clear c20); (try clear c20b0); (try clear p20); (try clear q20); (try clear hx20); (try clear c21); (try clear c21b0); (try clear p21); (try clear q21); (try clear hx21); (try clear c22); (try clear c22b0); (try clear c23); (try clear c23b0); (try clear p24); (try clear q24); (try clear hx24); (try clear hf24); (try clear c25); (try clear c25b0); (try clear c26); (try clear c26b0); (try clear p27); (try clear q27); (try clear hx27); (try clear hf27); (try clear c28); (try clear c28b0); (try clear p29); (try clear q29); (try clear hx29); (try clear hf29); (try clear c30); (try clear c30b0); (try clear p31); (try clear q31); (try clear hx31); (try clear hf31); (try clear c32); (try clear c46); (try clear c54); (try clear c54b0); (try clear c55); (try clear c55b0); (try clear c56); (try clear c56b0); (try clear c57); (try clear c57b0); (try clear c57b1); (try clear c59); (try clear c63); (try clear c63b0); (try clear c64); (try clear c64b0); (try clear p64); (try clear c65); (try clear c65b0); (try clear c67); (try clear c72); (try clear c72b0); (try clear c72b1); (try clear c73); (try clear c73b0); (try clear c73b1); (try clear c76); (try clear c76b0); (try clear c78); (try clear c78b0); (try clear c79); (try clear c79b0); (try clear c80); (try clear q80); (try clear c81); (try clear c82); (try clear c82b0); (try clear c83); (try clear c87); (try clear c90); (try clear c91); (try clear c91b0); (try clear c92); (try clear c92b0); (try clear q93); (try clear c94); (try clear p96); (try clear q96); (try clear hx96); (try clear hf96); (try clear c97); (try clear c97b0); (try clear c98); (try clear c98b0); (try clear c99); (try clear c99b0); (try clear hcz13_0); (try clear hcz33_0); (try clear hcz33_1); (try clear hcz36_0); (try clear hcz36_1); (try clear hcz47_0); (try clear hcz47_1); (try clear hcz60_0); (try clear hcz60_1); (try clear hcz7_0); (try clear hcz7_1); (try clear hcz84_0); (try clear hcz88_0); (try clear hfz13_0); (try clear hfz33_0); (try clear hfz33_1); (try clear hfz36_0); (try clear hfz36_1); (try clear hfz47_0); (try clear hfz47_1); (try clear hfz60_0); (try clear hfz60_1); (try clear hfz7_0); (try clear hfz7_1); (try clear hfz84_0); (try clear hfz88_0); (try clear hx182_0); (try clear hx186_0); (try clear hx187_0); (try clear hx198_0); (try clear hx202_0); (try clear hx213_0); (try clear hx214_0); (try clear hx215_0); (try clear hx217_0); (try clear hx218_0); (try clear hx24_0); (try clear hx27_0); (try clear hx29_0); (try clear hx31_0); (try clear hx96_0); (try clear p1); (try clear p18); (try clear p182); (try clear p186); (try clear p187); (try clear p19); (try clear p198); (try clear p2); (try clear p20); (try clear p202); (try clear p21); (try clear p213); (try clear p214); (try clear p215); (try clear p217); (try clear p218); (try clear p24); (try clear p27); (try clear p29); (try clear p3); (try clear p31); (try clear p6); (try clear p64); (try clear p96); (try clear q1); (try clear q18); (try clear q182); (try clear q186); (try clear q187); (try clear q19); (try clear q198); (try clear q2); (try clear q20); (try clear q202); (try clear q21); (try clear q213); (try clear q214); (try clear q215); (try clear q217); (try clear q218); (try clear q24); (try clear q27); (try clear q29); (try clear q3); (try clear q31); (try clear q8); (try clear q80); (try clear q96); obtain ⟨x20_7, rfl, HA, HK7, HO_7, HO_18, HO_Z0, HO_Z2, BK174, BK178, HB⟩ := hrel; have hl18_7 := (Kd.R_reads' HO_18.out).1; rw [hl18_7] at HO_18; (try simp only [hl18_7]); (try simp only [hl18_7] at BK174); (try simp only [hl18_7] at BK178); (try simp only [hl18_7] at HO_7); (try simp only [hl18_7] at HO_Z0); (try simp only [hl18_7] at HO_Z2)
                             cases gk with
                             | zero => exact absurd HA.out (by simp [impl_ribbon.l5])
                             | succ k7 =>
                              have H := HA.out; clear HA; simp only [impl_ribbon.l5] at H
                              by_cases c104 : 0 ≤ x20_7
                              ·
                               rw [if_pos c104] at H; have c104b0 : decide (0 ≤ x20_7) = true := decide_eq_true c104; clear c104
                               by_cases c105 : x20_7 < (xZ2_1.length : Int)
                               ·
                                rw [if_pos c105] at H; have c105b0 : decide (x20_7 < (xZ2_1.length : Int)) = true := decide_eq_true c105; (try (have c105b0hl18_7 := c105b0; rw [hl18_7] at c105b0hl18_7)); clear c105; obtain ⟨bq106, hbq106⟩ : ∃ b_ : Bool, b_ = (rdOf false xZ2_1 x20_7) := ⟨_, rfl⟩
                                replace H : (if bq106 = true then (impl_ribbon.l4 k7 l1 x7_1 x12_2 (wrap64 (x15_4 + 1)) y216 x20_7 (l0_0.length : Int) x96_4 l0_0 l0_1 xZ2_1) else (if x20_7 < (l0_0.length : Int) then (impl_ribbon.l5 k7 l1 x7_1 x12_2 (wrap64 (x15_4 + 1)) y216 (rd l0_0 x20_7) (l0_0.length : Int) x96_4 l0_0 l0_1 xZ2_1) else (none))) = some r := by rw [← hbq106] at H; exact H
                                have Nbq106 := Az hbq106; clear hbq106
                                by_cases c107 : bq106 = true
                                ·
                                 subst c107
                                 have H1 : (impl_ribbon.l4 k7 l1 x7_1 x12_2 (wrap64 (x15_4 + 1)) y216 x20_7 (l0_0.length : Int) x96_4 l0_0 l0_1 xZ2_1) = some r := by rw [if_pos rfl] at H; exact H
                                 clear H; have H := H1; clear H1; have H' := Az H; clear H; have hnb108 := NB178_174.out; have hnc108 := NB174_178.out; have hcz109_0 : wr.cell? ⟨gb178, 0, none⟩ = some (uZ2) := (blk_cell BK178.out 0).trans rfl; have hfz109_0 := blk_frozen BK178.out 0; obtain ⟨Ao110, co110, eo110⟩ := Kd.R_slice HO_Z2.out; subst eo110; have p219 : 0 ≤ (x20_7 : Int) := oA; have q219 : x20_7 < (xZ2_1.length : Int) := oA; obtain ⟨ad219, e219, hx219_0⟩ := Kd.at_bool (Kd.R_reads' HO_Z2.out).2.2 x20_7 p219 q219; (try rw [← Nbq93.out] at hx219_0); (try rw [← Nbq106.out] at hx219_0)
                                 cases e219
                                 replace p219 := eq_true p219; replace q219 := eq_true q219
                                 go_wp2
                                 (try simp only [← hl18_7]); (first | go_roundg k7 | (refine Handed.intro k7 ?measure ?_; rotate_left; go_step; (try simp only [add_plain]); (repeat apply Exists.intro); refine ⟨?rel, rfl⟩))
                                 case measure => have := HK1.out; have := HK2.out; have := HK3.out; have := HK4.out; have := HJ76.out; have := HK6.out; have := HK7.out; omega
                                 case rel => exact ⟨(y216), (x20_7), rS, H', ⟨by have := HK1.out; have := HK2.out; have := HK3.out; have := HK4.out; have := HJ76.out; have := HK6.out; have := HK7.out; omega⟩, ⟨by (try simp only [hl18_7]); (with_reducible repeat (first | apply Kd.R_alloc | apply Kd.R_drewN | apply Kd.R_drew)); exact HO_7.out⟩, ⟨by (try simp only [hl18_7]); (with_reducible repeat (first | apply Kd.R_alloc | apply Kd.R_drewN | apply Kd.R_drew)); exact HO_18.out⟩, ⟨by (try simp only [hl18_7]); (with_reducible repeat (first | apply Kd.V_alloc | apply Kd.V_drewN | apply Kd.V_drew)); exact HO_Z0.out⟩, ⟨by (try simp only [hl18_7]); (with_reducible repeat (first | apply Kd.R_alloc | apply Kd.R_drewN | apply Kd.R_drew)); exact HO_Z2.out⟩, ⟨by (try simp only [hl18_7]); (with_reducible repeat (first | refine blk_drewN ?_ _ | refine blk_drew ?_ | refine blk_alloc ?_ _)); exact BK174.out⟩, ⟨by (try simp only [hl18_7]); (with_reducible repeat (first | refine blk_drewN ?_ _ | refine blk_drew ?_ | refine blk_alloc ?_ _)); exact BK178.out⟩, ⟨bU2 HB.out GE174.out GE178.out⟩⟩
                                ·
                                 replace c107 := Bool.eq_false_iff.mpr c107; subst c107
                                 have H1 : (if x20_7 < (l0_0.length : Int) then (impl_ribbon.l5 k7 l1 x7_1 x12_2 (wrap64 (x15_4 + 1)) y216 (rd l0_0 x20_7) (l0_0.length : Int) x96_4 l0_0 l0_1 xZ2_1) else (none)) = some r := by rw [if_neg (show ¬ (false = true) by decide)] at H; exact H
                                 clear H; have H := H1; clear H1
                                 by_cases c111 : x20_7 < (l0_0.length : Int)
                                 ·
                                  rw [if_pos c111] at H; have c111b0 : decide (x20_7 < (l0_0.length : Int)) = true := decide_eq_true c111; (try (have c111b0hl18_7 := c111b0; rw [hl18_7] at c111b0hl18_7)); clear c111; have H' := Az H; clear H; have hnb112 := NB178_174.out; have hnc112 := NB174_178.out; have hcz113_0 : wr.cell? ⟨gb178, 0, none⟩ = some (uZ2) := (blk_cell BK178.out 0).trans rfl; have hfz113_0 := blk_frozen BK178.out 0; obtain ⟨Ao114, co114, eo114⟩ := Kd.R_slice HO_Z2.out; subst eo114; have p219 : 0 ≤ (x20_7 : Int) := oA; have q219 : x20_7 < (xZ2_1.length : Int) := oA; obtain ⟨ad219, e219, hx219_0⟩ := Kd.at_bool (Kd.R_reads' HO_Z2.out).2.2 x20_7 p219 q219; (try rw [← Nbq93.out] at hx219_0); (try rw [← Nbq106.out] at hx219_0)
                                  cases e219
                                  replace p219 := eq_true p219; replace q219 := eq_true q219; have hcz115_0 : wr.cell? ⟨gb174, 0, none⟩ = some (.slice (some ad218) l0_0.length c0_0) := (blk_cell BK174.out 0).trans rfl; have hcz115_1 : wr.cell? ⟨gb174, 1, none⟩ = some (.slice A0_1 l0_1.length c0_1) := (blk_cell BK174.out 1).trans rfl; have hfz115_0 := blk_frozen BK174.out 0; have hfz115_1 := blk_frozen BK174.out 1; have p220 : 0 ≤ (x20_7 : Int) := oA; have q220 : x20_7 < (l0_0.length : Int) := oA; obtain ⟨ad220, e220, hx220_0⟩ := Kd.at_int (Kd.V_reads' HO_Z0.out).2.2 x20_7 p220 q220; obtain rfl : ad218 = ad220 := (by injection e220); replace p220 := eq_true p220; replace q220 := eq_true q220
                                  go_wp2
                                  (try simp only [← hl18_7]); (first | go_roundg k7 | (refine Handed.intro k7 ?measure ?_; rotate_left; go_step; (try simp only [add_plain]); (repeat apply Exists.intro); refine ⟨?rel, rfl⟩))
                                  case measure => have := HK1.out; have := HK2.out; have := HK3.out; have := HK4.out; have := HJ76.out; have := HK6.out; have := HK7.out; omega
                                  case rel => exact ⟨(rd l0_0 x20_7), rS, H', ⟨by have := HK1.out; have := HK2.out; have := HK3.out; have := HK4.out; have := HJ76.out; have := HK6.out; have := HK7.out; omega⟩, ⟨by (try simp only [hl18_7]); (with_reducible repeat (first | apply Kd.R_alloc | apply Kd.R_drewN | apply Kd.R_drew)); exact HO_7.out⟩, ⟨by (try simp only [hl18_7]); (with_reducible repeat (first | apply Kd.R_alloc | apply Kd.R_drewN | apply Kd.R_drew)); exact HO_18.out⟩, ⟨by (try simp only [hl18_7]); (with_reducible repeat (first | apply Kd.V_alloc | apply Kd.V_drewN | apply Kd.V_drew)); exact HO_Z0.out⟩, ⟨by (try simp only [hl18_7]); (with_reducible repeat (first | apply Kd.R_alloc | apply Kd.R_drewN | apply Kd.R_drew)); exact HO_Z2.out⟩, ⟨by (try simp only [hl18_7]); (with_reducible repeat (first | refine blk_drewN ?_ _ | refine blk_drew ?_ | refine blk_alloc ?_ _)); exact BK174.out⟩, ⟨by (try simp only [hl18_7]); (with_reducible repeat (first | refine blk_drewN ?_ _ | refine blk_drew ?_ | refine blk_alloc ?_ _)); exact BK178.out⟩, ⟨bU2 HB.out GE174.out GE178.out⟩⟩
                                 ·
                                  rw [if_neg c111] at H
                                  exact absurd H (by simp)
                               ·
                                rw [if_neg c105] at H
                                exact absurd H (by simp)
                              ·
                               rw [if_neg c104] at H
                               exact absurd H (by simp)
                           ·
                            rw [if_neg c99] at H
                            exact absurd H (by simp)
                          ·
                           rw [if_neg c98] at H
                           exact absurd H (by simp)
                         ·
                          rw [if_neg c97] at H
                          exact absurd H (by simp)
                       ·
                        rw [if_neg c92] at H
                        exact absurd H (by simp)
                      ·
                       rw [if_neg c91] at H
                       exact absurd H (by simp)
                ·
                 rw [if_neg c76] at H; have c76b0 : decide (x96_4 < (l0_0.length : Int)) = false := decide_eq_false c76; clear c76; replace H := Option.bind_eq_some_iff.mp H; obtain ⟨t207, A1160, H⟩ := H; replace H : (some (([x12_2, x15_4, wrap64 ((t207.length : Int) - x12_2), wrap64 ((l1.length : Int) - (wrap64 ((t207.length : Int) - x12_2))), wrap64 (Int.tdiv (wrap64 ((wrap64 ((wrap64 ((wrap64 (2 * x12_2)) - (t207.length : Int))) + (l1.length : Int))) - x15_4)) 2)] : List Int))) = some r := H; have A116 := Az A1160; clear A1160; obtain ⟨y210, hy210⟩ : ∃ y_ : List Int, y_ = (([x12_2, x15_4, wrap64 ((t207.length : Int) - x12_2), wrap64 ((l1.length : Int) - (wrap64 ((t207.length : Int) - x12_2))), wrap64 (Int.tdiv (wrap64 ((wrap64 ((wrap64 ((wrap64 (2 * x12_2)) - (t207.length : Int))) + (l1.length : Int))) - x15_4)) 2)] : List Int)) := ⟨_, rfl⟩; replace H : (some y210) = some r := hR hy210 H; have Ny210 := Az hy210; clear hy210; obtain rfl := Option.some.inj H; have hnb117 := NB174_178.out; have hnc117 := NB178_174.out; have hcz118_0 : wr.cell? ⟨gb174, 0, none⟩ = some (.slice A0_0 l0_0.length c0_0) := (blk_cell BK174.out 0).trans rfl; have hcz118_1 : wr.cell? ⟨gb174, 1, none⟩ = some (.slice A0_1 l0_1.length c0_1) := (blk_cell BK174.out 1).trans rfl; have hfz118_0 := blk_frozen BK174.out 0; have hfz118_1 := blk_frozen BK174.out 1
                 go_wp2_with (first | ((with_reducible refine gate_callee (f := 63) rfl ?_); refine goesL_ (some 142) rfl rfl Try.func63 (by kernel_rfl) rfl #[.slice A0_0 l0_0.length c0_0] rfl (by (try simp only [List.map_toArray, List.map_cons, List.map_nil]); first | done | rfl | (simp only [List.length_drop, List.length_take]; rfl)) ?_; (with_reducible refine (impl_cyclesOf.calls k4 _ _ l0_0 t207 _ ?side1 ?side2 A116.out).mono ?_); (case side1 => exact cU ((Kd.V_reads' HO_Z0.out).2.2)); (case side2 => exact (Kd.V_reads' HO_Z0.out).2.1); rintro e w119 ⟨v208, rfl, ho0, hb⟩; refine ⟨_, rfl, ?_⟩; have n0 := Az (Kd.R_below (rU HO_7.out) hb); have n1 := Az (Kd.R_below (rU HO_18.out) hb); have n2 := Az (Kd.V_elder' (vU HO_Z0.out) (by first | exact Kd.N_base ho0 | exact Kd.S_base ho0 | exact Kd.R_base ho0) hb); have n3 := Az (Kd.R_below (rU HO_Z2.out) hb); have n4 := Az (Kd.N_lower (Kd.N_mono (ok' := fun k_ => (P0_0_ k_ ∨ w.heap.size ≤ k_) ∧ some k_ ≠ (.slice Ao48 x7_1.length co48 : Value).ownBlock ∧ some k_ ≠ (v205 : Value).ownBlock ∧ some k_ ≠ (uZ2 : Value).ownBlock ∧ k_ ≠ gb174 ∧ k_ ≠ gb178) (Kd.S_N (Kd.S_bound ho0)) (fun k_ hk_ => ⟨(.inr (Nat.le_trans (below_size (bU2 HB.out GE174.out GE178.out)) hk_.2.1)), (Kd.fresh' (Kd.R_lt (rU HO_7.out)) k_ hk_.2.1), (Kd.fresh' (Kd.R_lt (rU HO_18.out)) k_ hk_.2.1), (Kd.fresh' (Kd.R_lt (rU HO_Z2.out)) k_ hk_.2.1), (Kd.freshB (g := gb174) (o := .cells #[.slice A0_0 l0_0.length c0_0, .slice A0_1 l0_1.length c0_1] 25 (0, 0)) (kU BK174.out) k_ hk_.2.1), (Kd.freshB (g := gb178) (o := .cells #[uZ2] 78 (0, 0)) (kU BK178.out) k_ hk_.2.1)⟩)) (below_size (bU2 HB.out GE174.out GE178.out))); have n5 := Az (blk_below (g := gb174) (o := .cells #[.slice A0_0 l0_0.length c0_0, .slice A0_1 l0_1.length c0_1] 25 (0, 0)) (kU BK174.out) hb); have n6 := Az (blk_below (g := gb178) (o := .cells #[uZ2] 78 (0, 0)) (kU BK178.out) hb); have n7 := Az (below_step (bU2 HB.out GE174.out GE178.out) hb); clear HO_7 HO_18 HO_Z0 HO_Z2 BK174 BK178 HB; have HO_7 := n0; have HO_18 := n1; have HO_Z0 := n2; have HO_Z2 := n3; have HO209 := n4; have BK174 := n5; have BK178 := n6; have HB := n7; clear n0 n1 n2 n3 n4 n5 n6 n7; (try clear hb); (try clear hb2); (try clear hk); (try clear hi); (try clear ho0); obtain ⟨Ao120, co120, eo120⟩ := Kd.N_slice HO209.out; subst eo120) | ((with_reducible refine gate_dst (N := 164) rfl ?_); refine Kd.R_lit (Kd.int .i64) _ 3 ?hg (N := 164) ?hd (xs := ([x12_2, x15_4, wrap64 ((t207.length : Int) - x12_2), wrap64 ((l1.length : Int) - (wrap64 ((t207.length : Int) - x12_2))), wrap64 (Int.tdiv (wrap64 ((wrap64 ((wrap64 ((wrap64 (2 * x12_2)) - (t207.length : Int))) + (l1.length : Int))) - x15_4)) 2)] : List Int)) (inner := [.int .i64 x12_2, .int .i64 x15_4, .int .i64 (wrap64 ((t207.length : Int) - x12_2)), .int .i64 (wrap64 ((l1.length : Int) - (wrap64 ((t207.length : Int) - x12_2)))), .int .i64 (wrap64 (Int.tdiv (wrap64 ((wrap64 ((wrap64 ((wrap64 (2 * x12_2)) - (t207.length : Int))) + (l1.length : Int))) - x15_4)) 2))]) (ok := fun _ => True) (okp := fun _ => True) ?hr ?hp (fun _ hk => hk) trivial (Below.refl _ _) (Nat.le_refl _) (by simp) ?_; (case hd => rfl); (case hg => rfl); (case hr => first | (go_simp; done) | (go_simp; rfl)); (case hp => exact (Reps.one (show Kd.M (Kd.int .i64) _ _ _ x12_2 [.int .i64 x12_2] from rfl) (Reps.one (show Kd.M (Kd.int .i64) _ _ _ x15_4 [.int .i64 x15_4] from rfl) (Reps.one (show Kd.M (Kd.int .i64) _ _ _ (wrap64 ((t207.length : Int) - x12_2)) [.int .i64 (wrap64 ((t207.length : Int) - x12_2))] from rfl) (Reps.one (show Kd.M (Kd.int .i64) _ _ _ (wrap64 ((l1.length : Int) - (wrap64 ((t207.length : Int) - x12_2)))) [.int .i64 (wrap64 ((l1.length : Int) - (wrap64 ((t207.length : Int) - x12_2))))] from rfl) (Reps.one (show Kd.M (Kd.int .i64) _ _ _ (wrap64 (Int.tdiv (wrap64 ((wrap64 ((wrap64 ((wrap64 (2 * x12_2)) - (t207.length : Int))) + (l1.length : Int))) - x15_4)) 2)) [.int .i64 (wrap64 (Int.tdiv (wrap64 ((wrap64 ((wrap64 ((wrap64 (2 * x12_2)) - (t207.length : Int))) + (l1.length : Int))) - x15_4)) 2))] from rfl) (Reps.none _ _))))))); intro v211 w121 ho122 hb hg_ hnew_; clear hg_ hnew_; (first | rw [← Ny210.out] at ho122 | (simp only [Int.reduceToNat] at ho122; rw [← Ny210.out] at ho122)); have n0 := Az (Kd.R_elder' (rU HO_7.out) (Kd.R_base ho122) hb); have n1 := Az (Kd.R_below (rU HO_18.out) hb); have n2 := Az (Kd.V_elder' (vU HO_Z0.out) (Kd.R_base ho122) hb); have n3 := Az (Kd.R_below (rU HO_Z2.out) hb); have n4 := Az (Kd.N_elder' (nU HO209.out) (Kd.R_base ho122) hb); have n5 := Az (Kd.R_lower (Kd.R_new' (Kd.R_newM (M := fun k_ => (w.heap.size ≤ k_)) ho122 (below_size (bU2 HB.out GE174.out GE178.out)) (fun k_ h_ => h_)) (Kd.R_lt (rU HO_7.out))) (below_size (bU2 HB.out GE174.out GE178.out))); have n6 := Az (blk_below (g := gb174) (o := .cells #[.slice A0_0 l0_0.length c0_0, .slice A0_1 l0_1.length c0_1] 25 (0, 0)) (kU BK174.out) hb); have n7 := Az (blk_below (g := gb178) (o := .cells #[uZ2] 78 (0, 0)) (kU BK178.out) hb); have n8 := Az (below_step (bU2 HB.out GE174.out GE178.out) hb); clear HO_7 HO_18 HO_Z0 HO_Z2 HO209 BK174 BK178 HB; have HO_7 := n0; have HO_18 := n1; have HO_Z0 := n2; have HO_Z2 := n3; have HO209 := n4; have HO212 := n5; have BK174 := n6; have BK178 := n7; have HB := n8; clear n0 n1 n2 n3 n4 n5 n6 n7 n8; clear hb ho122))
                 go_ret
                 exact ⟨_, rE, by (with_reducible repeat (first | apply Kd.R_alloc | apply Kd.R_drewN | apply Kd.R_drew)); exact Kd.R_mono HO212.out (fun _ hk => hk.1.1), bU2 HB.out GE174.out GE178.out⟩
             ·
              rw [if_neg c73] at H
              exact absurd H (by simp)
            ·
             rw [if_neg c72] at H
             exact absurd H (by simp)
  ·
   rw [if_neg c4] at H
   exact absurd H (by simp)
 ·
  rw [if_neg c3] at H
  exact absurd H (by simp)
def impl_ChoiceCounts.f (k : Nat) (l0_0 : List Int) (l0_1 : List Int) (l1 : List Int) : Option (List Int × Bool) := (impl_ChoiceValid.f k l0_0 l0_1 l1).bind fun t222 => (if t222 = true then ((impl_ribbon.f k l0_0 l0_1 l1).bind fun t223 => (some (t223, true))) else (some (([] : List Int), false)))
set_option maxHeartbeats 8000000 in
set_option maxRecDepth 100000 in
theorem impl_ChoiceCounts.calls (k : Nat) (A0_0 : Option Addr) (c0_0 : Nat) (l0_0 : List Int) (A0_1 : Option Addr) (c0_1 : Nat) (l0_1 : List Int) (A1 : Option Addr) (c1 : Nat) (l1 : List Int) (r1 : List Int) (r2 : Bool) (w : World) (hr0_0 : Kd.C (Kd.int .i64) w A0_0 l0_0.length l0_0) (hc0_0 : l0_0.length ≤ c0_0) (hr0_1 : Kd.C (Kd.int .i64) w A0_1 l0_1.length l0_1) (hc0_1 : l0_1.length ≤ c0_1) (hr1 : Kd.C (Kd.int .i64) w A1 l1.length l1) (hc1 : l1.length ≤ c1) (h : impl_ChoiceCounts.f k l0_0 l0_1 l1 = some (r1, r2)) :
  Calls Try.prog 20 #[.agg #[.slice A0_0 l0_0.length c0_0, .slice A0_1 l0_1.length c0_1], .slice A1 l1.length c1] w fun e w' => ∃ v0_ : Value, e = .returned (.tuple #[v0_, .bool r2]) ∧ Kd.R (Kd.int .i64) 3 w' w.heap.size (fun _ => True) v0_ r1 ∧ Below w.heap.size w w' := by
 have hu25 := Try.underlying25; have HR0_0 := Az hr0_0; have HC0_0 := Az hc0_0; clear hr0_0 hc0_0; have HR0_1 := Az hr0_1; have HC0_1 := Az hc0_1; clear hr0_1 hc0_1; have HR1 := Az hr1; have HC1 := Az hc1; clear hr1 hc1; have HB := Az (Below.refl w.heap.size w); have H : ((impl_ChoiceValid.f k l0_0 l0_1 l1).bind fun t222 => (if t222 = true then ((impl_ribbon.f k l0_0 l0_1 l1).bind fun t223 => (some (t223, true))) else (some (([] : List Int), false)))) = some (r1, r2) := h; clear h; replace H := Option.bind_eq_some_iff.mp H; obtain ⟨t222, A30, H⟩ := H; replace H : (if t222 = true then ((impl_ribbon.f k l0_0 l0_1 l1).bind fun t223 => (some (t223, true))) else (some (([] : List Int), false))) = some (r1, r2) := H; have A3 := Az A30; clear A30
 by_cases c4 : t222 = true
 ·
  subst c4
  have H1 : ((impl_ribbon.f k l0_0 l0_1 l1).bind fun t223 => (some (t223, true))) = some (r1, r2) := by rw [if_pos rfl] at H; exact H
  clear H; have H := H1; clear H1; replace H := Option.bind_eq_some_iff.mp H; obtain ⟨t223, A50, H⟩ := H; replace H : (some (t223, true)) = some (r1, r2) := H; have A5 := Az A50; clear A50; simp only [Option.some.injEq, Prod.mk.injEq] at H; obtain ⟨rfl, rfl⟩ := H
  go_enter Try.func20, Try.ntmps20
  go_wp2_with (first | ((with_reducible refine gate_dst (N := 2) rfl ?_); refine box_event ?hg (N := 2) ?hd (cs := #[.slice A0_0 l0_0.length c0_0, .slice A0_1 l0_1.length c0_1]) (t := 25) ?hr ?_; (case hd => rfl); (case hg => rfl); (case hr => first | (go_simp; done) | (go_simp; rfl)); intro gb221 hg w6 hbox hb; have n0 := Az (below_step (bU0 HB.out) hb); have n1 := Az (hbox); have n2 := Az ((by rw [hg]; exact (below_size (bU0 HB.out)) : w.heap.size ≤ gb221)); have n3 := n2; clear HB; have HB := n0; have BK221 := n1; have GW221 := n2; have GE221 := n3; clear n0 n1 n2 n3 hb hbox hg; have hcz7_0 : w6.cell? ⟨gb221, 0, none⟩ = some (.slice A0_0 l0_0.length c0_0) := (blk_cell BK221.out 0).trans rfl; have hcz7_1 : w6.cell? ⟨gb221, 1, none⟩ = some (.slice A0_1 l0_1.length c0_1) := (blk_cell BK221.out 1).trans rfl; have hfz7_0 := blk_frozen BK221.out 0; have hfz7_1 := blk_frozen BK221.out 1) | ((with_reducible refine gate_callee (f := 16) rfl ?_); refine goesL_ (some 8) rfl rfl Try.func16 (by kernel_rfl) rfl #[.agg #[.slice A0_0 l0_0.length c0_0, .slice A0_1 l0_1.length c0_1], .slice A1 l1.length c1] rfl (by (try simp only [List.map_toArray, List.map_cons, List.map_nil]); first | done | rfl | (simp only [List.length_drop, List.length_take]; rfl)) ?_; (with_reducible refine (impl_ChoiceValid.calls k _ _ l0_0 _ _ l0_1 _ _ l1 true _ ?side1 ?side2 ?side3 ?side4 ?side5 ?side6 A3.out).mono ?_); (case side1 => exact cU (Kd.C_below HR0_0.out HB.out)); (case side2 => exact HC0_0.out); (case side3 => exact cU (Kd.C_below HR0_1.out HB.out)); (case side4 => exact HC0_1.out); (case side5 => exact cU (Kd.C_below HR1.out HB.out)); (case side6 => exact HC1.out); rintro e w8 ⟨rfl, hb⟩; refine ⟨_, rfl, ?_⟩; have n0 := Az (blk_below (g := gb221) (o := .cells #[.slice A0_0 l0_0.length c0_0, .slice A0_1 l0_1.length c0_1] 25 (0, 0)) (kU BK221.out) hb); have n1 := Az (below_step (bU1 HB.out GE221.out) hb); clear BK221 HB; have BK221 := n0; have HB := n1; clear n0 n1; (try clear hb); (try clear hb2); (try clear hk); (try clear hi); have hcz9_0 : w8.cell? ⟨gb221, 0, none⟩ = some (.slice A0_0 l0_0.length c0_0) := (blk_cell BK221.out 0).trans rfl; have hcz9_1 : w8.cell? ⟨gb221, 1, none⟩ = some (.slice A0_1 l0_1.length c0_1) := (blk_cell BK221.out 1).trans rfl; have hfz9_0 := blk_frozen BK221.out 0; have hfz9_1 := blk_frozen BK221.out 1) | ((with_reducible refine gate_callee (f := 65) rfl ?_); refine goesL_ (some 12) rfl rfl Try.func65 (by kernel_rfl) rfl #[.agg #[.slice A0_0 l0_0.length c0_0, .slice A0_1 l0_1.length c0_1], .slice A1 l1.length c1] rfl (by (try simp only [List.map_toArray, List.map_cons, List.map_nil]); first | done | rfl | (simp only [List.length_drop, List.length_take]; rfl)) ?_; (with_reducible refine (impl_ribbon.calls k (fun k_ => k_ < w.heap.size) _ _ l0_0 _ _ l0_1 _ _ l1 t223 _ ?side1 ?side2 ?side3 ?side4 ?side5 A5.out).mono ?_); (case side1 => exact Kd.V_mk HC0_0.out (Kd.F_below (Kd.C_F (Kd.heap_int .i64) HR0_0.out) (bU1 HB.out GE221.out))); (case side2 => exact cU (Kd.C_below HR0_1.out HB.out)); (case side3 => exact HC0_1.out); (case side4 => exact cU (Kd.C_below HR1.out HB.out)); (case side5 => exact HC1.out); rintro e w10 ⟨v224, rfl, ho0, hb⟩; refine ⟨_, rfl, ?_⟩; have n0 := Az (Kd.R_lower (Kd.R_mono (ok' := fun k_ => True) ho0 (fun _ hk_ => trivial)) (below_size (bU1 HB.out GE221.out))); have n1 := Az (blk_below (g := gb221) (o := .cells #[.slice A0_0 l0_0.length c0_0, .slice A0_1 l0_1.length c0_1] 25 (0, 0)) (kU BK221.out) hb); have n2 := Az (below_step (bU1 HB.out GE221.out) hb); clear BK221 HB; have HO225 := n0; have BK221 := n1; have HB := n2; clear n0 n1 n2; (try clear hb); (try clear hb2); (try clear hk); (try clear hi); (try clear ho0)))
  go_ret2
  exact ⟨_, rE, rU HO225.out, bU1 HB.out GE221.out⟩
 ·
  replace c4 := Bool.eq_false_iff.mpr c4; subst c4
  have H1 : (some (([] : List Int), false)) = some (r1, r2) := by rw [if_neg (show ¬ (false = true) by decide)] at H; exact H
  clear H; have H := H1; clear H1; simp only [Option.some.injEq, Prod.mk.injEq] at H; obtain ⟨rfl, rfl⟩ := H
  go_enter Try.func20, Try.ntmps20
  go_wp2_with (first | ((with_reducible refine gate_dst (N := 2) rfl ?_); refine box_event ?hg (N := 2) ?hd (cs := #[.slice A0_0 l0_0.length c0_0, .slice A0_1 l0_1.length c0_1]) (t := 25) ?hr ?_; (case hd => rfl); (case hg => rfl); (case hr => first | (go_simp; done) | (go_simp; rfl)); intro gb221 hg w11 hbox hb; have n0 := Az (below_step (bU0 HB.out) hb); have n1 := Az (hbox); have n2 := Az ((by rw [hg]; exact (below_size (bU0 HB.out)) : w.heap.size ≤ gb221)); have n3 := n2; clear HB; have HB := n0; have BK221 := n1; have GW221 := n2; have GE221 := n3; clear n0 n1 n2 n3 hb hbox hg; have hcz12_0 : w11.cell? ⟨gb221, 0, none⟩ = some (.slice A0_0 l0_0.length c0_0) := (blk_cell BK221.out 0).trans rfl; have hcz12_1 : w11.cell? ⟨gb221, 1, none⟩ = some (.slice A0_1 l0_1.length c0_1) := (blk_cell BK221.out 1).trans rfl; have hfz12_0 := blk_frozen BK221.out 0; have hfz12_1 := blk_frozen BK221.out 1) | ((with_reducible refine gate_callee (f := 16) rfl ?_); refine goesL_ (some 8) rfl rfl Try.func16 (by kernel_rfl) rfl #[.agg #[.slice A0_0 l0_0.length c0_0, .slice A0_1 l0_1.length c0_1], .slice A1 l1.length c1] rfl (by (try simp only [List.map_toArray, List.map_cons, List.map_nil]); first | done | rfl | (simp only [List.length_drop, List.length_take]; rfl)) ?_; (with_reducible refine (impl_ChoiceValid.calls k _ _ l0_0 _ _ l0_1 _ _ l1 false _ ?side1 ?side2 ?side3 ?side4 ?side5 ?side6 A3.out).mono ?_); (case side1 => exact cU (Kd.C_below HR0_0.out HB.out)); (case side2 => exact HC0_0.out); (case side3 => exact cU (Kd.C_below HR0_1.out HB.out)); (case side4 => exact HC0_1.out); (case side5 => exact cU (Kd.C_below HR1.out HB.out)); (case side6 => exact HC1.out); rintro e w13 ⟨rfl, hb⟩; refine ⟨_, rfl, ?_⟩; have n0 := Az (blk_below (g := gb221) (o := .cells #[.slice A0_0 l0_0.length c0_0, .slice A0_1 l0_1.length c0_1] 25 (0, 0)) (kU BK221.out) hb); have n1 := Az (below_step (bU1 HB.out GE221.out) hb); clear BK221 HB; have BK221 := n0; have HB := n1; clear n0 n1; (try clear hb); (try clear hb2); (try clear hk); (try clear hi)))
  go_ret2
  exact ⟨_, rE, by first | exact Kd.R_nil _ _ _ _ _ | exact Kd.N_nil _ _ _ _ _ | exact Kd.V_nil _ _ _ _ _ | exact Kd.Q_nil _ _ _ _ _ | exact Kd.S_nil _ _ _ _ _, bU1 HB.out GE221.out⟩
def spec_l6In.f (a0 : Int) (a1 : Int) (a2 : Int) : Option (Bool) := if a0 ≥ a1 then (some (decide (a0 ≤ a2))) else (some false)
set_option maxHeartbeats 8000000 in
set_option maxRecDepth 100000 in
theorem spec_l6In.calls (a0 : Int) (a1 : Int) (a2 : Int) (r : Bool) (w : World) (h : spec_l6In.f a0 a1 a2 = some r) :
  Calls Try.prog 60 #[.int .i64 a0, .int .i64 a1, .int .i64 a2] w fun e w' => e = .returned (.bool r) ∧ Drawn0 w w' := by
 have H : (if a0 ≥ a1 then (some (decide (a0 ≤ a2))) else (some false)) = some r := h; clear h
 by_cases c4 : a0 ≥ a1
 ·
  rw [if_pos c4] at H; have c4b0 : decide (a1 ≤ a0) = true := decide_eq_true c4; clear c4; obtain rfl := Option.some.inj H
  go_enter Try.func60, Try.ntmps60
  go_wp2
  go_ret
  exact ⟨by first | rfl | (simp; done) | (simp [*]; done), by repeat (first | exact Drawn0.refl _ | apply Drawn0.step)⟩
 ·
  rw [if_neg c4] at H; have c4b0 : decide (a1 ≤ a0) = false := decide_eq_false c4; clear c4; obtain rfl := Option.some.inj H
  go_enter Try.func60, Try.ntmps60
  go_wp2
  go_ret
  exact ⟨by first | rfl | (simp; done) | (simp [*]; done), by repeat (first | exact Drawn0.refl _ | apply Drawn0.step)⟩
mutual
def spec_PermValid.l0 : Nat → List Int → Int → Option (Bool)
 | 0, _, _ => none
 | k + 1, x0, x3 => if x3 < (x0.length : Int) then (if 0 ≤ x3 then ((spec_l6In.f (rd x0 x3) 0 (wrap64 ((x0.length : Int) - 1))).bind fun t228 => (if t228 = true then (spec_PermValid.l1 k x0 x3 0) else (some false))) else (none)) else ((spec_l6In.f (x0.length : Int) 1 12).bind fun t226 => (some t226))
def spec_PermValid.l1 : Nat → List Int → Int → Int → Option (Bool)
 | 0, _, _, _ => none
 | k + 1, x0, x3, x4 => if x4 < x3 then (if 0 ≤ x4 then (if x4 < (x0.length : Int) then (if 0 ≤ x3 then (if x3 < (x0.length : Int) then (if (rd x0 x4) = (rd x0 x3) then (some false) else (spec_PermValid.l1 k x0 x3 (wrap64 (x4 + 1)))) else (none)) else (none)) else (none)) else (none)) else (spec_PermValid.l0 k x0 (wrap64 (x3 + 1)))
end
def spec_PermValid.f (k : Nat) (l0 : List Int) : Option (Bool) := spec_PermValid.l0 k l0 0
set_option maxHeartbeats 8000000 in
set_option maxRecDepth 100000 in
theorem spec_PermValid.calls (k : Nat) (A0 : Option Addr) (c0 : Nat) (l0 : List Int) (r : Bool) (w : World) (hr0 : Kd.C (Kd.int .i64) w A0 l0.length l0) (hc0 : l0.length ≤ c0) (h : spec_PermValid.f k l0 = some r) :
  Calls Try.prog 109 #[.slice A0 l0.length c0] w fun e w' => e = .returned (.bool r) ∧ Drawn0 w w' := by
 have HR0 := Az hr0; have HC0 := Az hc0; clear hr0 hc0; have H : (spec_PermValid.l0 k l0 0) = some r := h; clear h; have H' := Az H; clear H
 go_enter Try.func109, Try.ntmps109
 go_wp2
 repeat (go_quiet (fail); try go_wp2)
 go_loopg [3] k (fun kq v3 w' => ∃ (x3_1 : Int), v3 = .int .i64 x3_1 ∧ Aside0 (spec_PermValid.l0 kq l0 x3_1 = some r) ∧ Aside0 (kq ≤ k) ∧ Drawn0 w w')
 case atStart => exact ⟨(0), rS, H', ⟨Nat.le_refl _⟩, by repeat (first | exact Drawn0.refl _ | apply Drawn0.step)⟩
 case round =>
  clear H'; (try clear c1); obtain ⟨x3_1, rfl, HA, HK1, ⟨m1, rfl⟩⟩ := hrel
  cases gk with
  | zero => exact absurd HA.out (by simp [spec_PermValid.l0])
  | succ k1 =>
   have H := HA.out; clear HA; simp only [spec_PermValid.l0] at H
   by_cases c2 : x3_1 < (l0.length : Int)
   ·
    rw [if_pos c2] at H; have c2b0 : decide (x3_1 < (l0.length : Int)) = true := decide_eq_true c2; clear c2
    by_cases c3 : 0 ≤ x3_1
    ·
     rw [if_pos c3] at H; have c3b0 : decide (0 ≤ x3_1) = true := decide_eq_true c3; clear c3; replace H := Option.bind_eq_some_iff.mp H; obtain ⟨t228, A40, H⟩ := H; replace H : (if t228 = true then (spec_PermValid.l1 k1 l0 x3_1 0) else (some false)) = some r := H; have A4 := Az A40; clear A40
     by_cases c5 : t228 = true
     ·
      subst c5
      have H1 : (spec_PermValid.l1 k1 l0 x3_1 0) = some r := by rw [if_pos rfl] at H; exact H
      clear H; have H := H1; clear H1; have H' := Az H; clear H; have p227 : 0 ≤ (x3_1 : Int) := oA; have q227 : x3_1 < (l0.length : Int) := oA; obtain ⟨ad227, e227, hx227_0⟩ := Kd.at_int HR0.out x3_1 p227 q227
      cases e227
      replace p227 := eq_true p227; replace q227 := eq_true q227
      go_wp2_with (first | (go_at_call 60; (with_reducible refine (spec_l6In.calls (rd l0 x3_1) 0 (wrap64 ((l0.length : Int) - 1)) true _ A4.out).mono ?_); rintro e w' ⟨rfl, ⟨nd, rfl⟩⟩; (try first | exact ⟨rfl, _, World.drewN_drewN _ _ _⟩ | exact ⟨rfl, _, Eq.trans (World.drewN_drewN _ _ _) (congrArg (World.drewN _) (Nat.add_assoc _ _ _))⟩)))
      repeat (go_quiet (first | (go_at_call 60; (try simp only [Go.IntWalk.i64_left]); (with_reducible refine (spec_l6In.calls (rd l0 x3_1) 0 (wrap64 ((l0.length : Int) - 1)) true _ A4.out).mono ?_); rintro e w' ⟨rfl, ⟨nd, rfl⟩⟩; (try first | exact ⟨rfl, _, World.drewN_drewN _ _ _⟩ | exact ⟨rfl, _, Eq.trans (World.drewN_drewN _ _ _) (congrArg (World.drewN _) (Nat.add_assoc _ _ _))⟩))); try go_wp2_with (first | (go_at_call 60; (try simp only [Go.IntWalk.i64_left]); (with_reducible refine (spec_l6In.calls (rd l0 x3_1) 0 (wrap64 ((l0.length : Int) - 1)) true _ A4.out).mono ?_); rintro e w' ⟨rfl, ⟨nd, rfl⟩⟩; (try first | exact ⟨rfl, _, World.drewN_drewN _ _ _⟩ | exact ⟨rfl, _, Eq.trans (World.drewN_drewN _ _ _) (congrArg (World.drewN _) (Nat.add_assoc _ _ _))⟩))))
      go_loopg [4] k1 (fun kq v4 w' => ∃ (x4_2 : Int), v4 = .int .i64 x4_2 ∧ Aside0 (spec_PermValid.l1 kq l0 x3_1 x4_2 = some r) ∧ Aside0 (kq ≤ k1) ∧ Drawn0 w w')
      case atStart => exact ⟨(0), rS, H', ⟨Nat.le_refl _⟩, by repeat (first | exact Drawn0.refl _ | apply Drawn0.step)⟩
      case round =>
       clear H'; (try clear c1); (try clear c2); (try clear c2b0); (try clear p2); (try clear q2); (try clear hx2); (try clear c3); (try clear c3b0); (try clear c5); (try clear hx227_0); (try clear p227); (try clear q227); obtain ⟨x4_2, rfl, HA, HK2, ⟨m2, rfl⟩⟩ := hrel
       cases gk with
       | zero => exact absurd HA.out (by simp [spec_PermValid.l1])
       | succ k2 =>
        have H := HA.out; clear HA; simp only [spec_PermValid.l1] at H
        by_cases c6 : x4_2 < x3_1
        ·
         rw [if_pos c6] at H; have c6b0 : decide (x4_2 < x3_1) = true := decide_eq_true c6; clear c6
         by_cases c7 : 0 ≤ x4_2
         ·
          rw [if_pos c7] at H; have c7b0 : decide (0 ≤ x4_2) = true := decide_eq_true c7; clear c7
          by_cases c8 : x4_2 < (l0.length : Int)
          ·
           rw [if_pos c8] at H; have c8b0 : decide (x4_2 < (l0.length : Int)) = true := decide_eq_true c8; clear c8
           by_cases c9 : 0 ≤ x3_1
           ·
            rw [if_pos c9] at H; have c9b0 : decide (0 ≤ x3_1) = true := decide_eq_true c9; clear c9
            by_cases c10 : x3_1 < (l0.length : Int)
            ·
             rw [if_pos c10] at H; have c10b0 : decide (x3_1 < (l0.length : Int)) = true := decide_eq_true c10; clear c10
             by_cases c11 : (rd l0 x4_2) = (rd l0 x3_1)
             ·
              rw [if_pos c11] at H; have c11b0 : ((rd l0 x4_2) == (rd l0 x3_1)) = true := beq_iff_eq.mpr c11; have c11b1 : ((rd l0 x4_2) != (rd l0 x3_1)) = false := bne_eq_false_iff_eq.mpr c11; clear c11; obtain rfl := Option.some.inj H; have p229 : 0 ≤ (x4_2 : Int) := oA; have q229 : x4_2 < (l0.length : Int) := oA; obtain ⟨ad229, e229, hx229_0⟩ := Kd.at_int HR0.out x4_2 p229 q229; obtain rfl : ad227 = ad229 := (by injection e229); replace p229 := eq_true p229; replace q229 := eq_true q229; have p230 : 0 ≤ (x3_1 : Int) := oA; have q230 : x3_1 < (l0.length : Int) := oA; obtain ⟨ad230, e230, hx230_0⟩ := Kd.at_int HR0.out x3_1 p230 q230; obtain rfl : ad227 = ad230 := (by injection e230); replace p230 := eq_true p230; replace q230 := eq_true q230
              go_wp2
              repeat (go_quiet (fail); try go_wp2)
              go_ret
              exact ⟨by first | rfl | (simp; done) | (simp [*]; done), by repeat (first | exact Drawn0.refl _ | apply Drawn0.step)⟩
             ·
              rw [if_neg c11] at H; have c11b0 : ((rd l0 x4_2) == (rd l0 x3_1)) = false := beq_eq_false_iff_ne.mpr c11; have c11b1 : ((rd l0 x4_2) != (rd l0 x3_1)) = true := bne_iff_ne.mpr c11; have H' := Az H; clear H; have p229 : 0 ≤ (x4_2 : Int) := oA; have q229 : x4_2 < (l0.length : Int) := oA; obtain ⟨ad229, e229, hx229_0⟩ := Kd.at_int HR0.out x4_2 p229 q229; obtain rfl : ad227 = ad229 := (by injection e229); replace p229 := eq_true p229; replace q229 := eq_true q229; have p230 : 0 ≤ (x3_1 : Int) := oA; have q230 : x3_1 < (l0.length : Int) := oA; obtain ⟨ad230, e230, hx230_0⟩ := Kd.at_int HR0.out x3_1 p230 q230; obtain rfl : ad227 = ad230 := (by injection e230); replace p230 := eq_true p230; replace q230 := eq_true q230
              go_wp2
              repeat (go_quiet (fail); try go_wp2)
              (first | go_roundg k2 | (refine Handed.intro k2 ?measure ?_; rotate_left; go_step; (try simp only [add_plain]); (repeat apply Exists.intro); refine ⟨?rel, rfl⟩))
              case measure => have := HK1.out; have := HK2.out; omega
              case rel => exact ⟨(wrap64 (x4_2 + 1)), rS, H', ⟨by have := HK1.out; have := HK2.out; omega⟩, by repeat (first | exact Drawn0.refl _ | apply Drawn0.step)⟩
            ·
             rw [if_neg c10] at H
             exact absurd H (by simp)
           ·
            rw [if_neg c9] at H
            exact absurd H (by simp)
          ·
           rw [if_neg c8] at H
           exact absurd H (by simp)
         ·
          rw [if_neg c7] at H
          exact absurd H (by simp)
        ·
         rw [if_neg c6] at H; have c6b0 : decide (x4_2 < x3_1) = false := decide_eq_false c6; clear c6; have H' := Az H; clear H
         go_wp2
         repeat (go_quiet (fail); try go_wp2)
         (first | go_roundg k2 | (refine Handed.intro k2 ?measure ?_; rotate_left; go_step; (try simp only [add_plain]); (repeat apply Exists.intro); refine ⟨?rel, rfl⟩))
         case measure => have := HK1.out; have := HK2.out; omega
         case rel => exact ⟨(wrap64 (x3_1 + 1)), rS, H', ⟨by have := HK1.out; have := HK2.out; omega⟩, by repeat (first | exact Drawn0.refl _ | apply Drawn0.step)⟩
     ·
      replace c5 := Bool.eq_false_iff.mpr c5; subst c5
      have H1 : (some false) = some r := by rw [if_neg (show ¬ (false = true) by decide)] at H; exact H
      clear H; have H := H1; clear H1; obtain rfl := Option.some.inj H; have p227 : 0 ≤ (x3_1 : Int) := oA; have q227 : x3_1 < (l0.length : Int) := oA; obtain ⟨ad227, e227, hx227_0⟩ := Kd.at_int HR0.out x3_1 p227 q227
      cases e227
      replace p227 := eq_true p227; replace q227 := eq_true q227
      go_wp2_with (first | (go_at_call 60; (with_reducible refine (spec_l6In.calls (rd l0 x3_1) 0 (wrap64 ((l0.length : Int) - 1)) false _ A4.out).mono ?_); rintro e w' ⟨rfl, ⟨nd, rfl⟩⟩; (try first | exact ⟨rfl, _, World.drewN_drewN _ _ _⟩ | exact ⟨rfl, _, Eq.trans (World.drewN_drewN _ _ _) (congrArg (World.drewN _) (Nat.add_assoc _ _ _))⟩)))
      repeat (go_quiet (first | (go_at_call 60; (try simp only [Go.IntWalk.i64_left]); (with_reducible refine (spec_l6In.calls (rd l0 x3_1) 0 (wrap64 ((l0.length : Int) - 1)) false _ A4.out).mono ?_); rintro e w' ⟨rfl, ⟨nd, rfl⟩⟩; (try first | exact ⟨rfl, _, World.drewN_drewN _ _ _⟩ | exact ⟨rfl, _, Eq.trans (World.drewN_drewN _ _ _) (congrArg (World.drewN _) (Nat.add_assoc _ _ _))⟩))); try go_wp2_with (first | (go_at_call 60; (try simp only [Go.IntWalk.i64_left]); (with_reducible refine (spec_l6In.calls (rd l0 x3_1) 0 (wrap64 ((l0.length : Int) - 1)) false _ A4.out).mono ?_); rintro e w' ⟨rfl, ⟨nd, rfl⟩⟩; (try first | exact ⟨rfl, _, World.drewN_drewN _ _ _⟩ | exact ⟨rfl, _, Eq.trans (World.drewN_drewN _ _ _) (congrArg (World.drewN _) (Nat.add_assoc _ _ _))⟩))))
      go_ret
      exact ⟨by first | rfl | (simp; done) | (simp [*]; done), by repeat (first | exact Drawn0.refl _ | apply Drawn0.step)⟩
    ·
     rw [if_neg c3] at H
     exact absurd H (by simp)
   ·
    rw [if_neg c2] at H; have c2b0 : decide (x3_1 < (l0.length : Int)) = false := decide_eq_false c2; clear c2; replace H := Option.bind_eq_some_iff.mp H; obtain ⟨t226, A120, H⟩ := H; replace H : (some t226) = some r := H; have A12 := Az A120; clear A120; obtain rfl := Option.some.inj H
    go_wp2_with (first | (go_at_call 60; (with_reducible refine (spec_l6In.calls (l0.length : Int) 1 12 t226 _ A12.out).mono ?_); rintro e w' ⟨rfl, ⟨nd, rfl⟩⟩; (try first | exact ⟨rfl, _, World.drewN_drewN _ _ _⟩ | exact ⟨rfl, _, Eq.trans (World.drewN_drewN _ _ _) (congrArg (World.drewN _) (Nat.add_assoc _ _ _))⟩)))
    repeat (go_quiet (first | (go_at_call 60; (try simp only [Go.IntWalk.i64_left]); (with_reducible refine (spec_l6In.calls (l0.length : Int) 1 12 t226 _ A12.out).mono ?_); rintro e w' ⟨rfl, ⟨nd, rfl⟩⟩; (try first | exact ⟨rfl, _, World.drewN_drewN _ _ _⟩ | exact ⟨rfl, _, Eq.trans (World.drewN_drewN _ _ _) (congrArg (World.drewN _) (Nat.add_assoc _ _ _))⟩))); try go_wp2_with (first | (go_at_call 60; (try simp only [Go.IntWalk.i64_left]); (with_reducible refine (spec_l6In.calls (l0.length : Int) 1 12 t226 _ A12.out).mono ?_); rintro e w' ⟨rfl, ⟨nd, rfl⟩⟩; (try first | exact ⟨rfl, _, World.drewN_drewN _ _ _⟩ | exact ⟨rfl, _, Eq.trans (World.drewN_drewN _ _ _) (congrArg (World.drewN _) (Nat.add_assoc _ _ _))⟩))))
    go_ret
    exact ⟨by first | rfl | (simp; done) | (simp [*]; done), by repeat (first | exact Drawn0.refl _ | apply Drawn0.step)⟩
def spec_l1Both.f (k : Nat) (l0 : List Int) (l1 : List Int) : Option (Bool) := (spec_PermValid.f k l0).bind fun t231 => (if t231 = true then ((spec_PermValid.f k l1).bind fun t232 => (if t232 = true then (some ((l0.length : Int) == (l1.length : Int))) else (some false))) else (some false))
set_option maxHeartbeats 8000000 in
set_option maxRecDepth 100000 in
theorem spec_l1Both.calls (k : Nat) (A0 : Option Addr) (c0 : Nat) (l0 : List Int) (A1 : Option Addr) (c1 : Nat) (l1 : List Int) (r : Bool) (w : World) (hr0 : Kd.C (Kd.int .i64) w A0 l0.length l0) (hc0 : l0.length ≤ c0) (hr1 : Kd.C (Kd.int .i64) w A1 l1.length l1) (hc1 : l1.length ≤ c1) (h : spec_l1Both.f k l0 l1 = some r) :
  Calls Try.prog 98 #[.slice A0 l0.length c0, .slice A1 l1.length c1] w fun e w' => e = .returned (.bool r) ∧ Drawn0 w w' := by
 have HR0 := Az hr0; have HC0 := Az hc0; clear hr0 hc0; have HR1 := Az hr1; have HC1 := Az hc1; clear hr1 hc1; have H : ((spec_PermValid.f k l0).bind fun t231 => (if t231 = true then ((spec_PermValid.f k l1).bind fun t232 => (if t232 = true then (some ((l0.length : Int) == (l1.length : Int))) else (some false))) else (some false))) = some r := h; clear h; replace H := Option.bind_eq_some_iff.mp H; obtain ⟨t231, A30, H⟩ := H; replace H : (if t231 = true then ((spec_PermValid.f k l1).bind fun t232 => (if t232 = true then (some ((l0.length : Int) == (l1.length : Int))) else (some false))) else (some false)) = some r := H; have A3 := Az A30; clear A30
 by_cases c4 : t231 = true
 ·
  subst c4
  have H1 : ((spec_PermValid.f k l1).bind fun t232 => (if t232 = true then (some ((l0.length : Int) == (l1.length : Int))) else (some false))) = some r := by rw [if_pos rfl] at H; exact H
  clear H; have H := H1; clear H1; replace H := Option.bind_eq_some_iff.mp H; obtain ⟨t232, A50, H⟩ := H; replace H : (if t232 = true then (some ((l0.length : Int) == (l1.length : Int))) else (some false)) = some r := H; have A5 := Az A50; clear A50
  by_cases c6 : t232 = true
  ·
   subst c6
   have H1 : (some ((l0.length : Int) == (l1.length : Int))) = some r := by rw [if_pos rfl] at H; exact H
   clear H; have H := H1; clear H1; obtain rfl := Option.some.inj H
   go_enter Try.func98, Try.ntmps98
   go_wp2_with (first | ((with_reducible refine gate_callee (f := 109) rfl ?_); refine goesL_ (some 6) rfl rfl Try.func109 (by kernel_rfl) rfl #[.slice A0 l0.length c0] rfl (by (try simp only [List.map_toArray, List.map_cons, List.map_nil]); first | done | rfl | (simp only [List.length_drop, List.length_take]; rfl)) ?_; (with_reducible refine (spec_PermValid.calls k _ _ l0 true _ ?side1 ?side2 A3.out).mono ?_); (case side1 => exact cU (HR0.out)); (case side2 => exact HC0.out); rintro e w' ⟨rfl, ⟨nd, rfl⟩⟩; refine ⟨_, rfl, ?_⟩) | (go_at_call 109; (with_reducible refine (spec_PermValid.calls k _ _ l1 true _ ?side1 ?side2 A5.out).mono ?_); (case side1 => exact cU (HR1.out)); (case side2 => exact HC1.out); rintro e w' ⟨rfl, ⟨nd, rfl⟩⟩))
   go_ret
   exact ⟨by first | rfl | (simp; done) | (simp [*]; done), by repeat (first | exact Drawn0.refl _ | apply Drawn0.step)⟩
  ·
   replace c6 := Bool.eq_false_iff.mpr c6; subst c6
   have H1 : (some false) = some r := by rw [if_neg (show ¬ (false = true) by decide)] at H; exact H
   clear H; have H := H1; clear H1; obtain rfl := Option.some.inj H
   go_enter Try.func98, Try.ntmps98
   go_wp2_with (first | ((with_reducible refine gate_callee (f := 109) rfl ?_); refine goesL_ (some 6) rfl rfl Try.func109 (by kernel_rfl) rfl #[.slice A0 l0.length c0] rfl (by (try simp only [List.map_toArray, List.map_cons, List.map_nil]); first | done | rfl | (simp only [List.length_drop, List.length_take]; rfl)) ?_; (with_reducible refine (spec_PermValid.calls k _ _ l0 true _ ?side1 ?side2 A3.out).mono ?_); (case side1 => exact cU (HR0.out)); (case side2 => exact HC0.out); rintro e w' ⟨rfl, ⟨nd, rfl⟩⟩; refine ⟨_, rfl, ?_⟩) | (go_at_call 109; (with_reducible refine (spec_PermValid.calls k _ _ l1 false _ ?side1 ?side2 A5.out).mono ?_); (case side1 => exact cU (HR1.out)); (case side2 => exact HC1.out); rintro e w' ⟨rfl, ⟨nd, rfl⟩⟩))
   go_ret
   exact ⟨by first | rfl | (simp; done) | (simp [*]; done), by repeat (first | exact Drawn0.refl _ | apply Drawn0.step)⟩
 ·
  replace c4 := Bool.eq_false_iff.mpr c4; subst c4
  have H1 : (some false) = some r := by rw [if_neg (show ¬ (false = true) by decide)] at H; exact H
  clear H; have H := H1; clear H1; obtain rfl := Option.some.inj H
  go_enter Try.func98, Try.ntmps98
  go_wp2_with (first | ((with_reducible refine gate_callee (f := 109) rfl ?_); refine goesL_ (some 6) rfl rfl Try.func109 (by kernel_rfl) rfl #[.slice A0 l0.length c0] rfl (by (try simp only [List.map_toArray, List.map_cons, List.map_nil]); first | done | rfl | (simp only [List.length_drop, List.length_take]; rfl)) ?_; (with_reducible refine (spec_PermValid.calls k _ _ l0 false _ ?side1 ?side2 A3.out).mono ?_); (case side1 => exact cU (HR0.out)); (case side2 => exact HC0.out); rintro e w' ⟨rfl, ⟨nd, rfl⟩⟩; refine ⟨_, rfl, ?_⟩))
  go_ret
  exact ⟨by first | rfl | (simp; done) | (simp [*]; done), by repeat (first | exact Drawn0.refl _ | apply Drawn0.step)⟩
def spec_l1Same.l0 : Nat → Int → List Int → Int → Option (List Int)
 | 0, _, _, _ => none
 | k + 1, x0, x3, x4 => if x4 < x0 then (if x3.length < 17592186044416 then (spec_l1Same.l0 k x0 (x3 ++ [x4]) (wrap64 (x4 + 1))) else (none)) else (some x3)
def spec_l1Same.f (k : Nat) (a0 : Int) : Option (List Int) := spec_l1Same.l0 k a0 (([] : List Int)) 0
set_option maxHeartbeats 8000000 in
set_option maxRecDepth 100000 in
theorem spec_l1Same.calls (k : Nat) (a0 : Int) (r : List Int) (w : World) (h : spec_l1Same.f k a0 = some r) :
  Calls Try.prog 108 #[.int .i64 a0] w fun e w' => ∃ v0_ : Value, e = .returned (v0_) ∧ Kd.R (Kd.int .i64) 3 w' w.heap.size (fun _ => True) v0_ r ∧ Below w.heap.size w w' := by
 have HB := Az (Below.refl w.heap.size w); have H : (spec_l1Same.l0 k a0 (([] : List Int)) 0) = some r := h; clear h; obtain ⟨y233, hy233⟩ : ∃ y_ : List Int, y_ = (([] : List Int)) := ⟨_, rfl⟩; replace H : (spec_l1Same.l0 k a0 y233 0) = some r := hR hy233 H; have Ny233 := Az hy233; clear hy233; have H' := Az H; clear H
 go_enter Try.func108, Try.ntmps108
 go_wp2_with (first | ((with_reducible refine gate_dst (N := 5) rfl ?_); refine Kd.R_lit (Kd.int .i64) _ 3 ?hg (N := 5) ?hd (xs := ([] : List Int)) (inner := []) (ok := fun _ => True) (okp := fun _ => True) ?hr ?hp (fun _ hk => hk) trivial (Below.refl _ _) (Nat.le_refl _) (by simp) ?_; (case hd => rfl); (case hg => rfl); (case hr => first | (go_simp; done) | (go_simp; rfl)); (case hp => exact (Reps.none _ _)); intro v234 w2 ho3 hb hg_ hnew_; clear hg_ hnew_; (first | rw [← Ny233.out] at ho3 | (simp only [Int.reduceToNat] at ho3; rw [← Ny233.out] at ho3)); have n0 := Az (Kd.R_lower ho3 (below_size (bU0 HB.out))); have n1 := Az (below_step (bU0 HB.out) hb); clear HB; have HO235 := n0; have HB := n1; clear n0 n1; clear hb ho3))
 go_loopg [3, 4] k (fun kq v3 v4 w' => ∃ (x3_1 : List Int) (x4_1 : Int), v4 = .int .i64 x4_1 ∧ Aside0 (spec_l1Same.l0 kq a0 x3_1 x4_1 = some r) ∧ Aside0 (kq ≤ k) ∧ Aside0 (Kd.R (Kd.int .i64) 3 w' w.heap.size (fun _ => True) v3 x3_1) ∧ Aside0 (Below w.heap.size w w'))
 case atStart => exact ⟨(y233), (0), rS, H', ⟨Nat.le_refl _⟩, ⟨rU HO235.out⟩, ⟨bU0 HB.out⟩⟩
 case round =>
  clear H'; (try clear c1); (try clear p2); obtain ⟨x3_1, x4_1, rfl, HA, HK1, HO_3, HB⟩ := hrel
  cases gk with
  | zero => exact absurd HA.out (by simp [spec_l1Same.l0])
  | succ k1 =>
   have H := HA.out; clear HA; simp only [spec_l1Same.l0] at H
   by_cases c4 : x4_1 < a0
   ·
    rw [if_pos c4] at H; have c4b0 : decide (x4_1 < a0) = true := decide_eq_true c4; clear c4
    by_cases c5 : x3_1.length < 17592186044416
    ·
     rw [if_pos c5] at H; have LMc5 := Az c5; clear c5; obtain ⟨y236, hy236⟩ : ∃ y_ : List Int, y_ = (x3_1 ++ [x4_1]) := ⟨_, rfl⟩; replace H : (spec_l1Same.l0 k1 a0 y236 (wrap64 (x4_1 + 1))) = some r := hR hy236 H; have Ny236 := Az hy236; clear hy236; have H' := Az H; clear H
     go_wp2_with (first | ((with_reducible refine gate_builtin (b := .append) (xs := #[.tmp 11, .tmp 13]) rfl ?_); at_builtin; refine Kd.R_append (Kd.int .i64) (w0 := w) w.heap.size rfl (.tmp 11) (.tmp 13) 23 3 (.int .i64 0) 8 rfl Try.underlying23 info3 rfl (by decide) (by omega) u3 x3_1 x4_1 [.int .i64 x4_1] (fun _ => True) (fun _ => False) rfl rfl ?aP (fun _ hk => hk.elim) ?aF ?aO ?aB ?aS ?aL ?_; (case aP => exact rfl); (case aB => exact (bU0 HB.out)); (case aF => exact (fun _ _ => trivial)); (case aO => exact (rU HO_3.out)); (case aS => exact (below_size (bU0 HB.out))); (case aL => have := LMc5.out; omega); intro v237 w6 ho hb hg hat; rw [← Ny236.out] at ho; have n0 := Az (hb); have n1 := Az (ho); clear HB HO_3; have HB := n0; have HO238 := n1; clear n0 n1; clear ho hb hg hat))
     (first | go_roundg k1 | (refine Handed.intro k1 ?measure ?_; rotate_left; go_step; (try simp only [add_plain]); (repeat apply Exists.intro); refine ⟨?rel, rfl⟩))
     case measure => have := HK1.out; omega
     case rel => exact ⟨(y236), (wrap64 (x4_1 + 1)), rS, H', ⟨by have := HK1.out; omega⟩, ⟨rU HO238.out⟩, ⟨bU0 HB.out⟩⟩
    ·
     rw [if_neg c5] at H
     exact absurd H (by simp)
   ·
    rw [if_neg c4] at H; have c4b0 : decide (x4_1 < a0) = false := decide_eq_false c4; clear c4; obtain rfl := Option.some.inj H
    go_wp2
    go_ret
    exact ⟨_, rE, rU HO_3.out, bU0 HB.out⟩
mutual
def spec_l1Orbits.l0 : Nat → List Int → List Int → List Int → Int → Option (List Int)
 | 0, _, _, _, _ => none
 | k + 1, x0, x1, x5, x6 => if x6 < (x0.length : Int) then (spec_l1Orbits.l1 k x0 x1 x5 x6 0) else (some x5)
def spec_l1Orbits.l1 : Nat → List Int → List Int → List Int → Int → Int → Option (List Int)
 | 0, _, _, _, _, _ => none
 | k + 1, x0, x1, x5, x6, x7 => if x7 < (x0.length : Int) then (if 0 ≤ x7 then (if x7 < (x5.length : Int) then (if 0 ≤ (rd x0 x7) then (if (rd x0 x7) < (x5.length : Int) then (if x7 < (x1.length : Int) then (if 0 ≤ (rd x1 x7) then (if (rd x1 x7) < (x5.length : Int) then (spec_l1Orbits.l1 k x0 x1 (((x5.set (x7 : Int).toNat (mn (rd x5 x7) (mn (rd x5 (rd x0 x7)) (rd x5 (rd x1 x7))))).set ((rd x0 x7) : Int).toNat (mn (rd x5 x7) (mn (rd x5 (rd x0 x7)) (rd x5 (rd x1 x7))))).set ((rd x1 x7) : Int).toNat (mn (rd x5 x7) (mn (rd x5 (rd x0 x7)) (rd x5 (rd x1 x7))))) x6 (wrap64 (x7 + 1))) else (none)) else (none)) else (none)) else (none)) else (none)) else (none)) else (none)) else (spec_l1Orbits.l0 k x0 x1 x5 (wrap64 (x6 + 1)))
end
def spec_l1Orbits.f (k : Nat) (l0 : List Int) (l1 : List Int) : Option (List Int) := (spec_l1Same.f k (l0.length : Int)).bind fun t239 => (spec_l1Orbits.l0 k l0 l1 t239 0)
set_option maxHeartbeats 8000000 in
set_option maxRecDepth 100000 in
theorem spec_l1Orbits.calls (k : Nat) (A0 : Option Addr) (c0 : Nat) (l0 : List Int) (A1 : Option Addr) (c1 : Nat) (l1 : List Int) (r : List Int) (w : World) (hr0 : Kd.C (Kd.int .i64) w A0 l0.length l0) (hc0 : l0.length ≤ c0) (hr1 : Kd.C (Kd.int .i64) w A1 l1.length l1) (hc1 : l1.length ≤ c1) (h : spec_l1Orbits.f k l0 l1 = some r) :
  Calls Try.prog 99 #[.slice A0 l0.length c0, .slice A1 l1.length c1] w fun e w' => ∃ v0_ : Value, e = .returned (v0_) ∧ Kd.R (Kd.int .i64) 3 w' w.heap.size (fun _ => True) v0_ r ∧ Below w.heap.size w w' := by
 have HR0 := Az hr0; have HC0 := Az hc0; clear hr0 hc0; have HR1 := Az hr1; have HC1 := Az hc1; clear hr1 hc1; have HB := Az (Below.refl w.heap.size w); have H : ((spec_l1Same.f k (l0.length : Int)).bind fun t239 => (spec_l1Orbits.l0 k l0 l1 t239 0)) = some r := h; clear h; replace H := Option.bind_eq_some_iff.mp H; obtain ⟨t239, A30, H⟩ := H; replace H : (spec_l1Orbits.l0 k l0 l1 t239 0) = some r := H; have A3 := Az A30; clear A30; have H' := Az H; clear H
 go_enter Try.func99, Try.ntmps99
 go_wp2_with (first | (go_at_call 108; (with_reducible refine (spec_l1Same.calls k (l0.length : Int) t239 _ A3.out).mono ?_); rintro e w4 ⟨v240, rfl, ho0, hb⟩; have n0 := Az (Kd.R_lower ho0 (below_size (bU0 HB.out))); have n1 := Az (below_step (bU0 HB.out) hb); clear HB; have HO241 := n0; have HB := n1; clear n0 n1; (try clear hb); (try clear hb2); (try clear hk); (try clear hi); (try clear ho0)))
 repeat (go_quiet (first | (go_at_call 108; (try simp only [Go.IntWalk.i64_left]); (with_reducible refine (spec_l1Same.calls k (l0.length : Int) t239 _ A3.out).mono ?_); rintro e w4 ⟨v240, rfl, ho0, hb⟩; have n0 := Az (Kd.R_lower ho0 (below_size (bU0 HB.out))); have n1 := Az (below_step (bU0 HB.out) hb); clear HB; have HO241 := n0; have HB := n1; clear n0 n1; (try clear hb); (try clear hb2); (try clear hk); (try clear hi); (try clear ho0))); try go_wp2_with (first | (go_at_call 108; (try simp only [Go.IntWalk.i64_left]); (with_reducible refine (spec_l1Same.calls k (l0.length : Int) t239 _ A3.out).mono ?_); rintro e w4 ⟨v240, rfl, ho0, hb⟩; have n0 := Az (Kd.R_lower ho0 (below_size (bU0 HB.out))); have n1 := Az (below_step (bU0 HB.out) hb); clear HB; have HO241 := n0; have HB := n1; clear n0 n1; (try clear hb); (try clear hb2); (try clear hk); (try clear hi); (try clear ho0))))
 go_loopg [6] k (fun kq v6 w' => ∃ (x5_1 : List Int) (x6_1 : Int), v6 = .int .i64 x6_1 ∧ Aside0 (spec_l1Orbits.l0 kq l0 l1 x5_1 x6_1 = some r) ∧ Aside0 (kq ≤ k) ∧ Aside0 (Kd.R (Kd.int .i64) 3 w' w.heap.size (fun _ => True) v240 x5_1) ∧ Aside0 (Below w.heap.size w w'))
 case atStart => exact ⟨(t239), (0), rS, H', ⟨Nat.le_refl _⟩, ⟨rU HO241.out⟩, ⟨bU0 HB.out⟩⟩
 case round =>
  clear H'; (try clear c1); (try clear p2); obtain ⟨x5_1, x6_1, rfl, HA, HK1, HO_5, HB⟩ := hrel
  cases gk with
  | zero => exact absurd HA.out (by simp [spec_l1Orbits.l0])
  | succ k1 =>
   have H := HA.out; clear HA; simp only [spec_l1Orbits.l0] at H
   by_cases c5 : x6_1 < (l0.length : Int)
   ·
    rw [if_pos c5] at H; have c5b0 : decide (x6_1 < (l0.length : Int)) = true := decide_eq_true c5; clear c5; have H' := Az H; clear H
    go_wp2
    repeat (go_quiet (fail); try go_wp2)
    go_loopg [7] k1 (fun kq v7 w' => ∃ (x5_2 : List Int) (x7_2 : Int), v7 = .int .i64 x7_2 ∧ Aside0 (spec_l1Orbits.l1 kq l0 l1 x5_2 x6_1 x7_2 = some r) ∧ Aside0 (kq ≤ k1) ∧ Aside0 (Kd.R (Kd.int .i64) 3 w' w.heap.size (fun _ => True) v240 x5_2) ∧ Aside0 (Below w.heap.size w w'))
    case atStart => exact ⟨(x5_1), (0), rS, H', ⟨Nat.le_refl _⟩, ⟨rU HO_5.out⟩, ⟨bU0 HB.out⟩⟩
    case round =>
     clear H'; (try clear c1); (try clear p2); (try clear c5); (try clear c5b0); (try clear p2); obtain ⟨x5_2, x7_2, rfl, HA, HK2, HO_5, HB⟩ := hrel
     cases gk with
     | zero => exact absurd HA.out (by simp [spec_l1Orbits.l1])
     | succ k2 =>
      have H := HA.out; clear HA; simp only [spec_l1Orbits.l1] at H
      by_cases c6 : x7_2 < (l0.length : Int)
      ·
       rw [if_pos c6] at H; have c6b0 : decide (x7_2 < (l0.length : Int)) = true := decide_eq_true c6; clear c6
       by_cases c7 : 0 ≤ x7_2
       ·
        rw [if_pos c7] at H; have c7b0 : decide (0 ≤ x7_2) = true := decide_eq_true c7; clear c7
        by_cases c8 : x7_2 < (x5_2.length : Int)
        ·
         rw [if_pos c8] at H; have c8b0 : decide (x7_2 < (x5_2.length : Int)) = true := decide_eq_true c8; clear c8
         by_cases c9 : 0 ≤ (rd l0 x7_2)
         ·
          rw [if_pos c9] at H; have c9b0 : decide (0 ≤ (rd l0 x7_2)) = true := decide_eq_true c9; clear c9
          by_cases c10 : (rd l0 x7_2) < (x5_2.length : Int)
          ·
           rw [if_pos c10] at H; have c10b0 : decide ((rd l0 x7_2) < (x5_2.length : Int)) = true := decide_eq_true c10; clear c10
           by_cases c11 : x7_2 < (l1.length : Int)
           ·
            rw [if_pos c11] at H; have c11b0 : decide (x7_2 < (l1.length : Int)) = true := decide_eq_true c11; clear c11
            by_cases c12 : 0 ≤ (rd l1 x7_2)
            ·
             rw [if_pos c12] at H; have c12b0 : decide (0 ≤ (rd l1 x7_2)) = true := decide_eq_true c12; clear c12
             by_cases c13 : (rd l1 x7_2) < (x5_2.length : Int)
             ·
              rw [if_pos c13] at H; have c13b0 : decide ((rd l1 x7_2) < (x5_2.length : Int)) = true := decide_eq_true c13; clear c13; obtain ⟨ji14, hji14⟩ : ∃ j_ : Int, (mn (rd x5_2 (rd l0 x7_2)) (rd x5_2 (rd l1 x7_2))) = j_ := ⟨_, rfl⟩
              replace H : (spec_l1Orbits.l1 k2 l0 l1 (((x5_2.set (x7_2 : Int).toNat (mn (rd x5_2 x7_2) (ji14))).set ((rd l0 x7_2) : Int).toNat (mn (rd x5_2 x7_2) (ji14))).set ((rd l1 x7_2) : Int).toNat (mn (rd x5_2 x7_2) (ji14))) x6_1 (wrap64 (x7_2 + 1))) = some r := by first | (rw [hji14] at H; exact H) | (simp only [hji14] at H ⊢; exact H)
              have hji14_ : (if (rd x5_2 (rd l1 x7_2)) < (rd x5_2 (rd l0 x7_2)) then (rd x5_2 (rd l1 x7_2)) else (rd x5_2 (rd l0 x7_2))) = ji14 := hji14; obtain ⟨ji15, hji15⟩ : ∃ j_ : Int, (mn (rd x5_2 x7_2) (ji14)) = j_ := ⟨_, rfl⟩
              replace H : (spec_l1Orbits.l1 k2 l0 l1 (((x5_2.set (x7_2 : Int).toNat (ji15)).set ((rd l0 x7_2) : Int).toNat (ji15)).set ((rd l1 x7_2) : Int).toNat (ji15)) x6_1 (wrap64 (x7_2 + 1))) = some r := by first | (rw [hji15] at H; exact H) | (simp only [hji15] at H ⊢; exact H)
              have hji15_ : (if (ji14) < (rd x5_2 x7_2) then (ji14) else (rd x5_2 x7_2)) = ji15 := hji15; obtain ⟨y247, hy247⟩ : ∃ y_ : List Int, y_ = (x5_2.set (x7_2 : Int).toNat (ji15)) := ⟨_, rfl⟩; replace H : (spec_l1Orbits.l1 k2 l0 l1 ((y247.set ((rd l0 x7_2) : Int).toNat (ji15)).set ((rd l1 x7_2) : Int).toNat (ji15)) x6_1 (wrap64 (x7_2 + 1))) = some r := hR hy247 H; have Ny247 := Az hy247; clear hy247; obtain ⟨y249, hy249⟩ : ∃ y_ : List Int, y_ = (y247.set ((rd l0 x7_2) : Int).toNat (ji15)) := ⟨_, rfl⟩; replace H : (spec_l1Orbits.l1 k2 l0 l1 (y249.set ((rd l1 x7_2) : Int).toNat (ji15)) x6_1 (wrap64 (x7_2 + 1))) = some r := hR hy249 H; have Ny249 := Az hy249; clear hy249; obtain ⟨y251, hy251⟩ : ∃ y_ : List Int, y_ = (y249.set ((rd l1 x7_2) : Int).toNat (ji15)) := ⟨_, rfl⟩; replace H : (spec_l1Orbits.l1 k2 l0 l1 y251 x6_1 (wrap64 (x7_2 + 1))) = some r := hR hy251 H; have Ny251 := Az hy251; clear hy251; have H' := Az H; clear H; obtain ⟨Ao19, co19, eo19⟩ := Kd.R_slice HO_5.out; subst eo19; have p242 : 0 ≤ (x7_2 : Int) := oA; have q242 : x7_2 < (x5_2.length : Int) := oA; obtain ⟨ad242, e242, hx242_0⟩ := Kd.at_int (Kd.R_reads' HO_5.out).2.2 x7_2 p242 q242
              cases e242
              replace p242 := eq_true p242; replace q242 := eq_true q242; have p243 : 0 ≤ (x7_2 : Int) := oA; have q243 : x7_2 < (l0.length : Int) := oA; obtain ⟨ad243, e243, hx243_0⟩ := Kd.at_int HR0.out x7_2 p243 q243
              cases e243
              (try replace hx243_0 := (HB.out.cell (World.block_lt_of_cell? w _ hx243_0)).trans hx243_0); replace p243 := eq_true p243; replace q243 := eq_true q243; have p244 : 0 ≤ ((rd l0 x7_2) : Int) := oA; have q244 : (rd l0 x7_2) < (x5_2.length : Int) := oA; obtain ⟨ad244, e244, hx244_0⟩ := Kd.at_int (Kd.R_reads' HO_5.out).2.2 (rd l0 x7_2) p244 q244; obtain rfl : ad242 = ad244 := (by injection e244); replace p244 := eq_true p244; replace q244 := eq_true q244; have p245 : 0 ≤ (x7_2 : Int) := oA; have q245 : x7_2 < (l1.length : Int) := oA; obtain ⟨ad245, e245, hx245_0⟩ := Kd.at_int HR1.out x7_2 p245 q245
              cases e245
              (try replace hx245_0 := (HB.out.cell (World.block_lt_of_cell? w _ hx245_0)).trans hx245_0); replace p245 := eq_true p245; replace q245 := eq_true q245; have p246 : 0 ≤ ((rd l1 x7_2) : Int) := oA; have q246 : (rd l1 x7_2) < (x5_2.length : Int) := oA; obtain ⟨ad246, e246, hx246_0⟩ := Kd.at_int (Kd.R_reads' HO_5.out).2.2 (rd l1 x7_2) p246 q246; obtain rfl : ad242 = ad246 := (by injection e246); replace p246 := eq_true p246; replace q246 := eq_true q246; have p16 : 0 ≤ (x7_2 : Int) := oA; have q16 : (x7_2 : Int) < ((x5_2.length : Int) : Int) := oA; obtain ⟨go16, co16, eo16, gb16, gl16, cl16, HG16⟩ := Kd.R_form HO_5.out (by omega); (first | cases eo16 | (injection eo16 with ea_ en_ ec_; (first | subst ea_ | (injection ea_ with ea_; subst ea_)); subst ec_; clear en_)); have GB16 := Az gb16; have GG16 := Az HG16; clear gb16 gl16 HG16; (first | simp only [add_plain] at hx242_0 | skip); (first | simp only [add_plain] at hx244_0 | skip); (first | simp only [add_plain] at hx246_0 | skip); obtain ⟨hx16_0, hf16_0⟩ := Kd.R_celln 0 HO_5.out (x7_2 : Int) p16 q16; replace p16 := eq_true p16; replace q16 := eq_true q16; obtain ⟨hy20_, hz20_⟩ := Kd.R_celln 0 HO_5.out (x7_2 : Int) (oA) (oA); have HP20 := Kd.R_putg HO_5.out (x7_2 : Int) ji15
              go_wp2_with (first | ((with_reducible refine gate_store (t := 3) (p := 47) rfl ?_); (try (rw [drewN_self wr]; generalize hq_ : World.drewN wr _ = wr; have n0 := Az (Kd.R_at hq_ HO_5.out); have n1 := Az (below_at hq_ HB.out); clear hq_ HO_5 HB; have HO_5 := n0; have HB := n1; clear n0 n1; (try (obtain ⟨hy20_, hz20_⟩ := Kd.R_celln 0 HO_5.out (x7_2 : Int) (oA) (oA))); (try (have HP20 := Kd.R_putg HO_5.out (x7_2 : Int) ji15)))); refine store_event (t := 3) (p := 47) (v := ?vo_w21) (w1 := (wr.setCell ⟨go16, (x7_2 : Int).toNat, none⟩ (.int .i64 ji15))) ?hg ?ho ?hn ?hr ?_; (case ho => rfl); (case hg => rfl); (case hn => rfl); (case hr => first | (go_simp; done) | (go_simp; rfl)); intro w21 hw; have hg : wr.grownBy w21 (some go16) := (by rw [hw]; exact HP20.2); have hp_ : Kd.R (Kd.int .i64) 3 w21 w.heap.size (fun _ => True) (.slice (some ⟨go16, 0, none⟩) x5_2.length co19) y247 := (by rw [hw, Ny247.out]; exact HP20.1); clear HP20; have n0 := Az (hp_); have n1 := Az ((by rw [hw]; exact below_set (HB.out) GB16.out : Below w.heap.size w w21)); clear HO_5 HB; have HO_5 := n0; have HB := n1; clear n0 n1 hg hw hp_; have p248 : 0 ≤ (x7_2 : Int) := oA; have q248 : x7_2 < (l0.length : Int) := oA; obtain ⟨ad248, e248, hx248_0⟩ := Kd.at_int HR0.out x7_2 p248 q248; obtain rfl : ad243 = ad248 := (by injection e248); replace hx248_0 := (HB.out.cell (World.block_lt_of_cell? w _ hx248_0)).trans hx248_0; replace p248 := eq_true p248; replace q248 := eq_true q248; have p17 : 0 ≤ ((rd l0 x7_2) : Int) := oA; have q17 : ((rd l0 x7_2) : Int) < ((x5_2.length : Int) : Int) := oA; obtain ⟨hx17_0, hf17_0⟩ := Kd.R_celln 0 HO_5.out ((rd l0 x7_2) : Int) p17 q17; replace p17 := eq_true p17; replace q17 := eq_true q17; obtain ⟨hy22_, hz22_⟩ := Kd.R_celln 0 HO_5.out ((rd l0 x7_2) : Int) (oA) (oA); have HP22 := Kd.R_putg HO_5.out ((rd l0 x7_2) : Int) ji15) | ((with_reducible refine gate_store (t := 3) (p := 54) rfl ?_); (try (rw [drewN_self w21]; generalize hq_ : World.drewN w21 _ = w21; have n0 := Az (Kd.R_at hq_ HO_5.out); have n1 := Az (below_at hq_ HB.out); clear hq_ HO_5 HB; have HO_5 := n0; have HB := n1; clear n0 n1; (try (obtain ⟨hy22_, hz22_⟩ := Kd.R_celln 0 HO_5.out ((rd l0 x7_2) : Int) (oA) (oA))); (try (have HP22 := Kd.R_putg HO_5.out ((rd l0 x7_2) : Int) ji15)))); refine store_event (t := 3) (p := 54) (v := ?vo_w23) (w1 := (w21.setCell ⟨go16, ((rd l0 x7_2) : Int).toNat, none⟩ (.int .i64 ji15))) ?hg ?ho ?hn ?hr ?_; (case ho => rfl); (case hg => rfl); (case hn => rfl); (case hr => first | (go_simp; done) | (go_simp; rfl)); intro w23 hw; have hg : w21.grownBy w23 (some go16) := (by rw [hw]; exact HP22.2); have hp_ : Kd.R (Kd.int .i64) 3 w23 w.heap.size (fun _ => True) (.slice (some ⟨go16, 0, none⟩) x5_2.length co19) y249 := (by rw [hw, Ny249.out]; exact HP22.1); clear HP22; have n0 := Az (hp_); have n1 := Az ((by rw [hw]; exact below_set (HB.out) GB16.out : Below w.heap.size w w23)); clear HO_5 HB; have HO_5 := n0; have HB := n1; clear n0 n1 hg hw hp_; have p250 : 0 ≤ (x7_2 : Int) := oA; have q250 : x7_2 < (l1.length : Int) := oA; obtain ⟨ad250, e250, hx250_0⟩ := Kd.at_int HR1.out x7_2 p250 q250; obtain rfl : ad245 = ad250 := (by injection e250); replace hx250_0 := (HB.out.cell (World.block_lt_of_cell? w _ hx250_0)).trans hx250_0; replace p250 := eq_true p250; replace q250 := eq_true q250; have p18 : 0 ≤ ((rd l1 x7_2) : Int) := oA; have q18 : ((rd l1 x7_2) : Int) < ((x5_2.length : Int) : Int) := oA; obtain ⟨hx18_0, hf18_0⟩ := Kd.R_celln 0 HO_5.out ((rd l1 x7_2) : Int) p18 q18; replace p18 := eq_true p18; replace q18 := eq_true q18; obtain ⟨hy24_, hz24_⟩ := Kd.R_celln 0 HO_5.out ((rd l1 x7_2) : Int) (oA) (oA); have HP24 := Kd.R_putg HO_5.out ((rd l1 x7_2) : Int) ji15) | ((with_reducible refine gate_store (t := 3) (p := 61) rfl ?_); (try (rw [drewN_self w23]; generalize hq_ : World.drewN w23 _ = w23; have n0 := Az (Kd.R_at hq_ HO_5.out); have n1 := Az (below_at hq_ HB.out); clear hq_ HO_5 HB; have HO_5 := n0; have HB := n1; clear n0 n1; (try (obtain ⟨hy24_, hz24_⟩ := Kd.R_celln 0 HO_5.out ((rd l1 x7_2) : Int) (oA) (oA))); (try (have HP24 := Kd.R_putg HO_5.out ((rd l1 x7_2) : Int) ji15)))); refine store_event (t := 3) (p := 61) (v := ?vo_w25) (w1 := (w23.setCell ⟨go16, ((rd l1 x7_2) : Int).toNat, none⟩ (.int .i64 ji15))) ?hg ?ho ?hn ?hr ?_; (case ho => rfl); (case hg => rfl); (case hn => rfl); (case hr => first | (go_simp; done) | (go_simp; rfl)); intro w25 hw; have hg : w23.grownBy w25 (some go16) := (by rw [hw]; exact HP24.2); have hp_ : Kd.R (Kd.int .i64) 3 w25 w.heap.size (fun _ => True) (.slice (some ⟨go16, 0, none⟩) x5_2.length co19) y251 := (by rw [hw, Ny251.out]; exact HP24.1); clear HP24; have n0 := Az (hp_); have n1 := Az ((by rw [hw]; exact below_set (HB.out) GB16.out : Below w.heap.size w w25)); clear HO_5 HB; have HO_5 := n0; have HB := n1; clear n0 n1; clear hg hw hp_))
              repeat (go_quiet (first | ((with_reducible refine gate_store (t := 3) (p := 47) rfl ?_); (try (rw [drewN_self wr]; generalize hq_ : World.drewN wr _ = wr; have n0 := Az (Kd.R_at hq_ HO_5.out); have n1 := Az (below_at hq_ HB.out); clear hq_ HO_5 HB; have HO_5 := n0; have HB := n1; clear n0 n1; (try (obtain ⟨hy20_, hz20_⟩ := Kd.R_celln 0 HO_5.out (x7_2 : Int) (oA) (oA))); (try (have HP20 := Kd.R_putg HO_5.out (x7_2 : Int) ji15)))); refine store_event (t := 3) (p := 47) (v := ?vo_w21) (w1 := (wr.setCell ⟨go16, (x7_2 : Int).toNat, none⟩ (.int .i64 ji15))) ?hg ?ho ?hn ?hr ?_; (case ho => rfl); (case hg => rfl); (case hn => rfl); (case hr => first | (go_simp; done) | (go_simp; rfl)); intro w21 hw; have hg : wr.grownBy w21 (some go16) := (by rw [hw]; exact HP20.2); have hp_ : Kd.R (Kd.int .i64) 3 w21 w.heap.size (fun _ => True) (.slice (some ⟨go16, 0, none⟩) x5_2.length co19) y247 := (by rw [hw, Ny247.out]; exact HP20.1); clear HP20; have n0 := Az (hp_); have n1 := Az ((by rw [hw]; exact below_set (HB.out) GB16.out : Below w.heap.size w w21)); clear HO_5 HB; have HO_5 := n0; have HB := n1; clear n0 n1 hg hw hp_; have p248 : 0 ≤ (x7_2 : Int) := oA; have q248 : x7_2 < (l0.length : Int) := oA; obtain ⟨ad248, e248, hx248_0⟩ := Kd.at_int HR0.out x7_2 p248 q248; obtain rfl : ad243 = ad248 := (by injection e248); replace hx248_0 := (HB.out.cell (World.block_lt_of_cell? w _ hx248_0)).trans hx248_0; replace p248 := eq_true p248; replace q248 := eq_true q248; have p17 : 0 ≤ ((rd l0 x7_2) : Int) := oA; have q17 : ((rd l0 x7_2) : Int) < ((x5_2.length : Int) : Int) := oA; obtain ⟨hx17_0, hf17_0⟩ := Kd.R_celln 0 HO_5.out ((rd l0 x7_2) : Int) p17 q17; replace p17 := eq_true p17; replace q17 := eq_true q17; obtain ⟨hy22_, hz22_⟩ := Kd.R_celln 0 HO_5.out ((rd l0 x7_2) : Int) (oA) (oA); have HP22 := Kd.R_putg HO_5.out ((rd l0 x7_2) : Int) ji15) | ((with_reducible refine gate_store (t := 3) (p := 54) rfl ?_); (try (rw [drewN_self w21]; generalize hq_ : World.drewN w21 _ = w21; have n0 := Az (Kd.R_at hq_ HO_5.out); have n1 := Az (below_at hq_ HB.out); clear hq_ HO_5 HB; have HO_5 := n0; have HB := n1; clear n0 n1; (try (obtain ⟨hy22_, hz22_⟩ := Kd.R_celln 0 HO_5.out ((rd l0 x7_2) : Int) (oA) (oA))); (try (have HP22 := Kd.R_putg HO_5.out ((rd l0 x7_2) : Int) ji15)))); refine store_event (t := 3) (p := 54) (v := ?vo_w23) (w1 := (w21.setCell ⟨go16, ((rd l0 x7_2) : Int).toNat, none⟩ (.int .i64 ji15))) ?hg ?ho ?hn ?hr ?_; (case ho => rfl); (case hg => rfl); (case hn => rfl); (case hr => first | (go_simp; done) | (go_simp; rfl)); intro w23 hw; have hg : w21.grownBy w23 (some go16) := (by rw [hw]; exact HP22.2); have hp_ : Kd.R (Kd.int .i64) 3 w23 w.heap.size (fun _ => True) (.slice (some ⟨go16, 0, none⟩) x5_2.length co19) y249 := (by rw [hw, Ny249.out]; exact HP22.1); clear HP22; have n0 := Az (hp_); have n1 := Az ((by rw [hw]; exact below_set (HB.out) GB16.out : Below w.heap.size w w23)); clear HO_5 HB; have HO_5 := n0; have HB := n1; clear n0 n1 hg hw hp_; have p250 : 0 ≤ (x7_2 : Int) := oA; have q250 : x7_2 < (l1.length : Int) := oA; obtain ⟨ad250, e250, hx250_0⟩ := Kd.at_int HR1.out x7_2 p250 q250; obtain rfl : ad245 = ad250 := (by injection e250); replace hx250_0 := (HB.out.cell (World.block_lt_of_cell? w _ hx250_0)).trans hx250_0; replace p250 := eq_true p250; replace q250 := eq_true q250; have p18 : 0 ≤ ((rd l1 x7_2) : Int) := oA; have q18 : ((rd l1 x7_2) : Int) < ((x5_2.length : Int) : Int) := oA; obtain ⟨hx18_0, hf18_0⟩ := Kd.R_celln 0 HO_5.out ((rd l1 x7_2) : Int) p18 q18; replace p18 := eq_true p18; replace q18 := eq_true q18; obtain ⟨hy24_, hz24_⟩ := Kd.R_celln 0 HO_5.out ((rd l1 x7_2) : Int) (oA) (oA); have HP24 := Kd.R_putg HO_5.out ((rd l1 x7_2) : Int) ji15) | ((with_reducible refine gate_store (t := 3) (p := 61) rfl ?_); (try (rw [drewN_self w23]; generalize hq_ : World.drewN w23 _ = w23; have n0 := Az (Kd.R_at hq_ HO_5.out); have n1 := Az (below_at hq_ HB.out); clear hq_ HO_5 HB; have HO_5 := n0; have HB := n1; clear n0 n1; (try (obtain ⟨hy24_, hz24_⟩ := Kd.R_celln 0 HO_5.out ((rd l1 x7_2) : Int) (oA) (oA))); (try (have HP24 := Kd.R_putg HO_5.out ((rd l1 x7_2) : Int) ji15)))); refine store_event (t := 3) (p := 61) (v := ?vo_w25) (w1 := (w23.setCell ⟨go16, ((rd l1 x7_2) : Int).toNat, none⟩ (.int .i64 ji15))) ?hg ?ho ?hn ?hr ?_; (case ho => rfl); (case hg => rfl); (case hn => rfl); (case hr => first | (go_simp; done) | (go_simp; rfl)); intro w25 hw; have hg : w23.grownBy w25 (some go16) := (by rw [hw]; exact HP24.2); have hp_ : Kd.R (Kd.int .i64) 3 w25 w.heap.size (fun _ => True) (.slice (some ⟨go16, 0, none⟩) x5_2.length co19) y251 := (by rw [hw, Ny251.out]; exact HP24.1); clear HP24; have n0 := Az (hp_); have n1 := Az ((by rw [hw]; exact below_set (HB.out) GB16.out : Below w.heap.size w w25)); clear HO_5 HB; have HO_5 := n0; have HB := n1; clear n0 n1; clear hg hw hp_)); try go_wp2_with (first | ((with_reducible refine gate_store (t := 3) (p := 47) rfl ?_); (try (rw [drewN_self wr]; generalize hq_ : World.drewN wr _ = wr; have n0 := Az (Kd.R_at hq_ HO_5.out); have n1 := Az (below_at hq_ HB.out); clear hq_ HO_5 HB; have HO_5 := n0; have HB := n1; clear n0 n1; (try (obtain ⟨hy20_, hz20_⟩ := Kd.R_celln 0 HO_5.out (x7_2 : Int) (oA) (oA))); (try (have HP20 := Kd.R_putg HO_5.out (x7_2 : Int) ji15)))); refine store_event (t := 3) (p := 47) (v := ?vo_w21) (w1 := (wr.setCell ⟨go16, (x7_2 : Int).toNat, none⟩ (.int .i64 ji15))) ?hg ?ho ?hn ?hr ?_; (case ho => rfl); (case hg => rfl); (case hn => rfl); (case hr => first | (go_simp; done) | (go_simp; rfl)); intro w21 hw; have hg : wr.grownBy w21 (some go16) := (by rw [hw]; exact HP20.2); have hp_ : Kd.R (Kd.int .i64) 3 w21 w.heap.size (fun _ => True) (.slice (some ⟨go16, 0, none⟩) x5_2.length co19) y247 := (by rw [hw, Ny247.out]; exact HP20.1); clear HP20; have n0 := Az (hp_); have n1 := Az ((by rw [hw]; exact below_set (HB.out) GB16.out : Below w.heap.size w w21)); clear HO_5 HB; have HO_5 := n0; have HB := n1; clear n0 n1 hg hw hp_; have p248 : 0 ≤ (x7_2 : Int) := oA; have q248 : x7_2 < (l0.length : Int) := oA; obtain ⟨ad248, e248, hx248_0⟩ := Kd.at_int HR0.out x7_2 p248 q248; obtain rfl : ad243 = ad248 := (by injection e248); replace hx248_0 := (HB.out.cell (World.block_lt_of_cell? w _ hx248_0)).trans hx248_0; replace p248 := eq_true p248; replace q248 := eq_true q248; have p17 : 0 ≤ ((rd l0 x7_2) : Int) := oA; have q17 : ((rd l0 x7_2) : Int) < ((x5_2.length : Int) : Int) := oA; obtain ⟨hx17_0, hf17_0⟩ := Kd.R_celln 0 HO_5.out ((rd l0 x7_2) : Int) p17 q17; replace p17 := eq_true p17; replace q17 := eq_true q17; obtain ⟨hy22_, hz22_⟩ := Kd.R_celln 0 HO_5.out ((rd l0 x7_2) : Int) (oA) (oA); have HP22 := Kd.R_putg HO_5.out ((rd l0 x7_2) : Int) ji15) | ((with_reducible refine gate_store (t := 3) (p := 54) rfl ?_); (try (rw [drewN_self w21]; generalize hq_ : World.drewN w21 _ = w21; have n0 := Az (Kd.R_at hq_ HO_5.out); have n1 := Az (below_at hq_ HB.out); clear hq_ HO_5 HB; have HO_5 := n0; have HB := n1; clear n0 n1; (try (obtain ⟨hy22_, hz22_⟩ := Kd.R_celln 0 HO_5.out ((rd l0 x7_2) : Int) (oA) (oA))); (try (have HP22 := Kd.R_putg HO_5.out ((rd l0 x7_2) : Int) ji15)))); refine store_event (t := 3) (p := 54) (v := ?vo_w23) (w1 := (w21.setCell ⟨go16, ((rd l0 x7_2) : Int).toNat, none⟩ (.int .i64 ji15))) ?hg ?ho ?hn ?hr ?_; (case ho => rfl); (case hg => rfl); (case hn => rfl); (case hr => first | (go_simp; done) | (go_simp; rfl)); intro w23 hw; have hg : w21.grownBy w23 (some go16) := (by rw [hw]; exact HP22.2); have hp_ : Kd.R (Kd.int .i64) 3 w23 w.heap.size (fun _ => True) (.slice (some ⟨go16, 0, none⟩) x5_2.length co19) y249 := (by rw [hw, Ny249.out]; exact HP22.1); clear HP22; have n0 := Az (hp_); have n1 := Az ((by rw [hw]; exact below_set (HB.out) GB16.out : Below w.heap.size w w23)); clear HO_5 HB; have HO_5 := n0; have HB := n1; clear n0 n1 hg hw hp_; have p250 : 0 ≤ (x7_2 : Int) := oA; have q250 : x7_2 < (l1.length : Int) := oA; obtain ⟨ad250, e250, hx250_0⟩ := Kd.at_int HR1.out x7_2 p250 q250; obtain rfl : ad245 = ad250 := (by injection e250); replace hx250_0 := (HB.out.cell (World.block_lt_of_cell? w _ hx250_0)).trans hx250_0; replace p250 := eq_true p250; replace q250 := eq_true q250; have p18 : 0 ≤ ((rd l1 x7_2) : Int) := oA; have q18 : ((rd l1 x7_2) : Int) < ((x5_2.length : Int) : Int) := oA; obtain ⟨hx18_0, hf18_0⟩ := Kd.R_celln 0 HO_5.out ((rd l1 x7_2) : Int) p18 q18; replace p18 := eq_true p18; replace q18 := eq_true q18; obtain ⟨hy24_, hz24_⟩ := Kd.R_celln 0 HO_5.out ((rd l1 x7_2) : Int) (oA) (oA); have HP24 := Kd.R_putg HO_5.out ((rd l1 x7_2) : Int) ji15) | ((with_reducible refine gate_store (t := 3) (p := 61) rfl ?_); (try (rw [drewN_self w23]; generalize hq_ : World.drewN w23 _ = w23; have n0 := Az (Kd.R_at hq_ HO_5.out); have n1 := Az (below_at hq_ HB.out); clear hq_ HO_5 HB; have HO_5 := n0; have HB := n1; clear n0 n1; (try (obtain ⟨hy24_, hz24_⟩ := Kd.R_celln 0 HO_5.out ((rd l1 x7_2) : Int) (oA) (oA))); (try (have HP24 := Kd.R_putg HO_5.out ((rd l1 x7_2) : Int) ji15)))); refine store_event (t := 3) (p := 61) (v := ?vo_w25) (w1 := (w23.setCell ⟨go16, ((rd l1 x7_2) : Int).toNat, none⟩ (.int .i64 ji15))) ?hg ?ho ?hn ?hr ?_; (case ho => rfl); (case hg => rfl); (case hn => rfl); (case hr => first | (go_simp; done) | (go_simp; rfl)); intro w25 hw; have hg : w23.grownBy w25 (some go16) := (by rw [hw]; exact HP24.2); have hp_ : Kd.R (Kd.int .i64) 3 w25 w.heap.size (fun _ => True) (.slice (some ⟨go16, 0, none⟩) x5_2.length co19) y251 := (by rw [hw, Ny251.out]; exact HP24.1); clear HP24; have n0 := Az (hp_); have n1 := Az ((by rw [hw]; exact below_set (HB.out) GB16.out : Below w.heap.size w w25)); clear HO_5 HB; have HO_5 := n0; have HB := n1; clear n0 n1; clear hg hw hp_)))
              (first | go_roundg k2 | (refine Handed.intro k2 ?measure ?_; rotate_left; go_step; (try simp only [add_plain]); (repeat apply Exists.intro); refine ⟨?rel, rfl⟩))
              case measure => have := HK1.out; have := HK2.out; omega
              case rel => exact ⟨(y251), (wrap64 (x7_2 + 1)), rS, H', ⟨by have := HK1.out; have := HK2.out; omega⟩, ⟨rU HO_5.out⟩, ⟨bU0 HB.out⟩⟩
             ·
              rw [if_neg c13] at H
              exact absurd H (by simp)
            ·
             rw [if_neg c12] at H
             exact absurd H (by simp)
           ·
            rw [if_neg c11] at H
            exact absurd H (by simp)
          ·
           rw [if_neg c10] at H
           exact absurd H (by simp)
         ·
          rw [if_neg c9] at H
          exact absurd H (by simp)
        ·
         rw [if_neg c8] at H
         exact absurd H (by simp)
       ·
        rw [if_neg c7] at H
        exact absurd H (by simp)
      ·
       rw [if_neg c6] at H; have c6b0 : decide (x7_2 < (l0.length : Int)) = false := decide_eq_false c6; clear c6; have H' := Az H; clear H
       go_wp2
       repeat (go_quiet (fail); try go_wp2)
       (first | go_roundg k2 | (refine Handed.intro k2 ?measure ?_; rotate_left; go_step; (try simp only [add_plain]); (repeat apply Exists.intro); refine ⟨?rel, rfl⟩))
       case measure => have := HK1.out; have := HK2.out; omega
       case rel => exact ⟨(x5_2), (wrap64 (x6_1 + 1)), rS, H', ⟨by have := HK1.out; have := HK2.out; omega⟩, ⟨rU HO_5.out⟩, ⟨bU0 HB.out⟩⟩
   ·
    rw [if_neg c5] at H; have c5b0 : decide (x6_1 < (l0.length : Int)) = false := decide_eq_false c5; clear c5; obtain rfl := Option.some.inj H
    go_wp2
    repeat (go_quiet (fail); try go_wp2)
    go_ret
    exact ⟨_, rE, rU HO_5.out, bU0 HB.out⟩
mutual
def spec_MapValid.l0 : Nat → Int → List Int → List Int → Option (Bool)
 | 0, _, _, _ => none
 | k + 1, x3, xZ0, xZ1 => if x3 < (xZ1.length : Int) then (if 0 ≤ x3 then (if (rd xZ1 x3) = x3 then (some false) else (if 0 ≤ (rd xZ1 x3) then (if (rd xZ1 x3) < (xZ1.length : Int) then (if (rd xZ1 (rd xZ1 x3)) = x3 then (spec_MapValid.l0 k (wrap64 (x3 + 1)) xZ0 xZ1) else (some false)) else (none)) else (none))) else (none)) else ((spec_l1Orbits.f k xZ0 xZ1).bind fun t257 => (spec_MapValid.l1 k t257 0))
def spec_MapValid.l1 : Nat → List Int → Int → Option (Bool)
 | 0, _, _ => none
 | k + 1, x4, x5 => if x5 < (x4.length : Int) then (if 0 ≤ x5 then (if (rd x4 x5) = 0 then (spec_MapValid.l1 k x4 (wrap64 (x5 + 1))) else (some false)) else (none)) else (some true)
end
def spec_MapValid.f (k : Nat) (l0_0 : List Int) (l0_1 : List Int) : Option (Bool) := (spec_l1Both.f k l0_0 l0_1).bind fun t253 => (if t253 = true then (spec_MapValid.l0 k 0 l0_0 l0_1) else (some false))
set_option maxHeartbeats 8000000 in
set_option maxRecDepth 100000 in
theorem spec_MapValid.calls (k : Nat) (A0_0 : Option Addr) (c0_0 : Nat) (l0_0 : List Int) (A0_1 : Option Addr) (c0_1 : Nat) (l0_1 : List Int) (r : Bool) (w : World) (hr0_0 : Kd.C (Kd.int .i64) w A0_0 l0_0.length l0_0) (hc0_0 : l0_0.length ≤ c0_0) (hr0_1 : Kd.C (Kd.int .i64) w A0_1 l0_1.length l0_1) (hc0_1 : l0_1.length ≤ c0_1) (h : spec_MapValid.f k l0_0 l0_1 = some r) :
  Calls Try.prog 61 #[.agg #[.slice A0_0 l0_0.length c0_0, .slice A0_1 l0_1.length c0_1]] w fun e w' => e = .returned (.bool r) ∧ Below w.heap.size w w' := by
 have hu25 := Try.underlying25; have HR0_0 := Az hr0_0; have HC0_0 := Az hc0_0; clear hr0_0 hc0_0; have HR0_1 := Az hr0_1; have HC0_1 := Az hc0_1; clear hr0_1 hc0_1; have HB := Az (Below.refl w.heap.size w); have H : ((spec_l1Both.f k l0_0 l0_1).bind fun t253 => (if t253 = true then (spec_MapValid.l0 k 0 l0_0 l0_1) else (some false))) = some r := h; clear h; replace H := Option.bind_eq_some_iff.mp H; obtain ⟨t253, A20, H⟩ := H; replace H : (if t253 = true then (spec_MapValid.l0 k 0 l0_0 l0_1) else (some false)) = some r := H; have A2 := Az A20; clear A20
 by_cases c3 : t253 = true
 ·
  subst c3
  have H1 : (spec_MapValid.l0 k 0 l0_0 l0_1) = some r := by rw [if_pos rfl] at H; exact H
  clear H; have H := H1; clear H1; have H' := Az H; clear H
  go_enter Try.func61, Try.ntmps61
  go_wp2_with (first | ((with_reducible refine gate_dst (N := 1) rfl ?_); refine box_event ?hg (N := 1) ?hd (cs := #[.slice A0_0 l0_0.length c0_0, .slice A0_1 l0_1.length c0_1]) (t := 25) ?hr ?_; (case hd => rfl); (case hg => rfl); (case hr => first | (go_simp; done) | (go_simp; rfl)); intro gb252 hg w4 hbox hb; have n0 := Az (below_step (bU0 HB.out) hb); have n1 := Az (hbox); have n2 := Az ((by rw [hg]; exact (below_size (bU0 HB.out)) : w.heap.size ≤ gb252)); have n3 := n2; clear HB; have HB := n0; have BK252 := n1; have GW252 := n2; have GE252 := n3; clear n0 n1 n2 n3 hb hbox hg; have hcz5_0 : w4.cell? ⟨gb252, 0, none⟩ = some (.slice A0_0 l0_0.length c0_0) := (blk_cell BK252.out 0).trans rfl; have hcz5_1 : w4.cell? ⟨gb252, 1, none⟩ = some (.slice A0_1 l0_1.length c0_1) := (blk_cell BK252.out 1).trans rfl; have hfz5_0 := blk_frozen BK252.out 0; have hfz5_1 := blk_frozen BK252.out 1) | (go_at_call 98; (with_reducible refine (spec_l1Both.calls k _ _ l0_0 _ _ l0_1 true _ ?side1 ?side2 ?side3 ?side4 A2.out).mono ?_); (case side1 => exact cU (Kd.C_below HR0_0.out HB.out)); (case side2 => exact HC0_0.out); (case side3 => exact cU (Kd.C_below HR0_1.out HB.out)); (case side4 => exact HC0_1.out); rintro e w' ⟨rfl, ⟨nd, rfl⟩⟩; (try first | exact ⟨rfl, _, World.drewN_drewN _ _ _⟩ | exact ⟨rfl, _, Eq.trans (World.drewN_drewN _ _ _) (congrArg (World.drewN _) (Nat.add_assoc _ _ _))⟩)))
  repeat (go_quiet (first | ((with_reducible refine gate_dst (N := 1) rfl ?_); refine box_event ?hg (N := 1) ?hd (cs := #[.slice A0_0 l0_0.length c0_0, .slice A0_1 l0_1.length c0_1]) (t := 25) ?hr ?_; (case hd => rfl); (case hg => rfl); (case hr => first | (go_simp; done) | (go_simp; rfl)); intro gb252 hg w4 hbox hb; have n0 := Az (below_step (bU0 HB.out) hb); have n1 := Az (hbox); have n2 := Az ((by rw [hg]; exact (below_size (bU0 HB.out)) : w.heap.size ≤ gb252)); have n3 := n2; clear HB; have HB := n0; have BK252 := n1; have GW252 := n2; have GE252 := n3; clear n0 n1 n2 n3 hb hbox hg; have hcz5_0 : w4.cell? ⟨gb252, 0, none⟩ = some (.slice A0_0 l0_0.length c0_0) := (blk_cell BK252.out 0).trans rfl; have hcz5_1 : w4.cell? ⟨gb252, 1, none⟩ = some (.slice A0_1 l0_1.length c0_1) := (blk_cell BK252.out 1).trans rfl; have hfz5_0 := blk_frozen BK252.out 0; have hfz5_1 := blk_frozen BK252.out 1) | (go_at_call 98; (try simp only [Go.IntWalk.i64_left]); (with_reducible refine (spec_l1Both.calls k _ _ l0_0 _ _ l0_1 true _ ?side1 ?side2 ?side3 ?side4 A2.out).mono ?_); (case side1 => exact cU (Kd.C_below HR0_0.out HB.out)); (case side2 => exact HC0_0.out); (case side3 => exact cU (Kd.C_below HR0_1.out HB.out)); (case side4 => exact HC0_1.out); rintro e w' ⟨rfl, ⟨nd, rfl⟩⟩; (try first | exact ⟨rfl, _, World.drewN_drewN _ _ _⟩ | exact ⟨rfl, _, Eq.trans (World.drewN_drewN _ _ _) (congrArg (World.drewN _) (Nat.add_assoc _ _ _))⟩))); try go_wp2_with (first | ((with_reducible refine gate_dst (N := 1) rfl ?_); refine box_event ?hg (N := 1) ?hd (cs := #[.slice A0_0 l0_0.length c0_0, .slice A0_1 l0_1.length c0_1]) (t := 25) ?hr ?_; (case hd => rfl); (case hg => rfl); (case hr => first | (go_simp; done) | (go_simp; rfl)); intro gb252 hg w4 hbox hb; have n0 := Az (below_step (bU0 HB.out) hb); have n1 := Az (hbox); have n2 := Az ((by rw [hg]; exact (below_size (bU0 HB.out)) : w.heap.size ≤ gb252)); have n3 := n2; clear HB; have HB := n0; have BK252 := n1; have GW252 := n2; have GE252 := n3; clear n0 n1 n2 n3 hb hbox hg; have hcz5_0 : w4.cell? ⟨gb252, 0, none⟩ = some (.slice A0_0 l0_0.length c0_0) := (blk_cell BK252.out 0).trans rfl; have hcz5_1 : w4.cell? ⟨gb252, 1, none⟩ = some (.slice A0_1 l0_1.length c0_1) := (blk_cell BK252.out 1).trans rfl; have hfz5_0 := blk_frozen BK252.out 0; have hfz5_1 := blk_frozen BK252.out 1) | (go_at_call 98; (try simp only [Go.IntWalk.i64_left]); (with_reducible refine (spec_l1Both.calls k _ _ l0_0 _ _ l0_1 true _ ?side1 ?side2 ?side3 ?side4 A2.out).mono ?_); (case side1 => exact cU (Kd.C_below HR0_0.out HB.out)); (case side2 => exact HC0_0.out); (case side3 => exact cU (Kd.C_below HR0_1.out HB.out)); (case side4 => exact HC0_1.out); rintro e w' ⟨rfl, ⟨nd, rfl⟩⟩; (try first | exact ⟨rfl, _, World.drewN_drewN _ _ _⟩ | exact ⟨rfl, _, Eq.trans (World.drewN_drewN _ _ _) (congrArg (World.drewN _) (Nat.add_assoc _ _ _))⟩))))
  go_loopg [3] k (fun kq v3 w' => ∃ (x3_1 : Int), v3 = .int .i64 x3_1 ∧ Aside0 (spec_MapValid.l0 kq x3_1 l0_0 l0_1 = some r) ∧ Aside0 (kq ≤ k) ∧ Aside0 (w'.heap[gb252]? = some (.cells #[(.slice A0_0 l0_0.length c0_0), (.slice A0_1 l0_1.length c0_1)] 25 (0, 0))) ∧ Aside0 (Below w.heap.size w w'))
  case atStart => exact ⟨(0), rS, H', ⟨Nat.le_refl _⟩, ⟨kU BK252.out⟩, ⟨bU1 HB.out GE252.out⟩⟩
  case round =>
   clear H'; (try clear p2); (try clear c3); (try clear hcz5_0); (try clear hcz5_1); (try clear hfz5_0); (try clear hfz5_1); obtain ⟨x3_1, rfl, HA, HK1, BK252, HB⟩ := hrel
   cases gk with
   | zero => exact absurd HA.out (by simp [spec_MapValid.l0])
   | succ k1 =>
    have H := HA.out; clear HA; simp only [spec_MapValid.l0] at H
    by_cases c6 : x3_1 < (l0_1.length : Int)
    ·
     rw [if_pos c6] at H; have c6b0 : decide (x3_1 < (l0_1.length : Int)) = true := decide_eq_true c6; clear c6
     by_cases c7 : 0 ≤ x3_1
     ·
      rw [if_pos c7] at H; have c7b0 : decide (0 ≤ x3_1) = true := decide_eq_true c7; clear c7
      by_cases c8 : (rd l0_1 x3_1) = x3_1
      ·
       rw [if_pos c8] at H; have c8b0 : ((rd l0_1 x3_1) == x3_1) = true := beq_iff_eq.mpr c8; have c8b1 : ((rd l0_1 x3_1) != x3_1) = false := bne_eq_false_iff_eq.mpr c8; clear c8; obtain rfl := Option.some.inj H; have hcz9_0 : wr.cell? ⟨gb252, 0, none⟩ = some (.slice A0_0 l0_0.length c0_0) := (blk_cell BK252.out 0).trans rfl; have hcz9_1 : wr.cell? ⟨gb252, 1, none⟩ = some (.slice A0_1 l0_1.length c0_1) := (blk_cell BK252.out 1).trans rfl; have hfz9_0 := blk_frozen BK252.out 0; have hfz9_1 := blk_frozen BK252.out 1; have p254 : 0 ≤ (x3_1 : Int) := oA; have q254 : x3_1 < (l0_1.length : Int) := oA; obtain ⟨ad254, e254, hx254_0⟩ := Kd.at_int HR0_1.out x3_1 p254 q254
       cases e254
       (try replace hx254_0 := (HB.out.cell (World.block_lt_of_cell? w _ hx254_0)).trans hx254_0); replace p254 := eq_true p254; replace q254 := eq_true q254
       go_wp2
       repeat (go_quiet (fail); try go_wp2)
       go_ret
       exact ⟨rE, bU1 HB.out GE252.out⟩
      ·
       rw [if_neg c8] at H; have c8b0 : ((rd l0_1 x3_1) == x3_1) = false := beq_eq_false_iff_ne.mpr c8; have c8b1 : ((rd l0_1 x3_1) != x3_1) = true := bne_iff_ne.mpr c8
       by_cases c10 : 0 ≤ (rd l0_1 x3_1)
       ·
        rw [if_pos c10] at H; have c10b0 : decide (0 ≤ (rd l0_1 x3_1)) = true := decide_eq_true c10; clear c10
        by_cases c11 : (rd l0_1 x3_1) < (l0_1.length : Int)
        ·
         rw [if_pos c11] at H; have c11b0 : decide ((rd l0_1 x3_1) < (l0_1.length : Int)) = true := decide_eq_true c11; clear c11
         by_cases c12 : (rd l0_1 (rd l0_1 x3_1)) = x3_1
         ·
          rw [if_pos c12] at H; have c12b0 : ((rd l0_1 (rd l0_1 x3_1)) == x3_1) = true := beq_iff_eq.mpr c12; have c12b1 : ((rd l0_1 (rd l0_1 x3_1)) != x3_1) = false := bne_eq_false_iff_eq.mpr c12; clear c12; have H' := Az H; clear H; have hcz13_0 : wr.cell? ⟨gb252, 0, none⟩ = some (.slice A0_0 l0_0.length c0_0) := (blk_cell BK252.out 0).trans rfl; have hcz13_1 : wr.cell? ⟨gb252, 1, none⟩ = some (.slice A0_1 l0_1.length c0_1) := (blk_cell BK252.out 1).trans rfl; have hfz13_0 := blk_frozen BK252.out 0; have hfz13_1 := blk_frozen BK252.out 1; have p254 : 0 ≤ (x3_1 : Int) := oA; have q254 : x3_1 < (l0_1.length : Int) := oA; obtain ⟨ad254, e254, hx254_0⟩ := Kd.at_int HR0_1.out x3_1 p254 q254
          cases e254
          (try replace hx254_0 := (HB.out.cell (World.block_lt_of_cell? w _ hx254_0)).trans hx254_0); replace p254 := eq_true p254; replace q254 := eq_true q254; have p255 : 0 ≤ (x3_1 : Int) := oA; have q255 : x3_1 < (l0_1.length : Int) := oA; obtain ⟨ad255, e255, hx255_0⟩ := Kd.at_int HR0_1.out x3_1 p255 q255; obtain rfl : ad254 = ad255 := (by injection e255); (try replace hx255_0 := (HB.out.cell (World.block_lt_of_cell? w _ hx255_0)).trans hx255_0); replace p255 := eq_true p255; replace q255 := eq_true q255; have p256 : 0 ≤ ((rd l0_1 x3_1) : Int) := oA; have q256 : (rd l0_1 x3_1) < (l0_1.length : Int) := oA; obtain ⟨ad256, e256, hx256_0⟩ := Kd.at_int HR0_1.out (rd l0_1 x3_1) p256 q256; obtain rfl : ad254 = ad256 := (by injection e256); (try replace hx256_0 := (HB.out.cell (World.block_lt_of_cell? w _ hx256_0)).trans hx256_0); replace p256 := eq_true p256; replace q256 := eq_true q256
          go_wp2
          repeat (go_quiet (fail); try go_wp2)
          (first | go_roundg k1 | (refine Handed.intro k1 ?measure ?_; rotate_left; go_step; (try simp only [add_plain]); (repeat apply Exists.intro); refine ⟨?rel, rfl⟩))
          case measure => have := HK1.out; omega
          case rel => exact ⟨(wrap64 (x3_1 + 1)), rS, H', ⟨by have := HK1.out; omega⟩, ⟨kU BK252.out⟩, ⟨bU1 HB.out GE252.out⟩⟩
         ·
          rw [if_neg c12] at H; have c12b0 : ((rd l0_1 (rd l0_1 x3_1)) == x3_1) = false := beq_eq_false_iff_ne.mpr c12; have c12b1 : ((rd l0_1 (rd l0_1 x3_1)) != x3_1) = true := bne_iff_ne.mpr c12; obtain rfl := Option.some.inj H; have hcz14_0 : wr.cell? ⟨gb252, 0, none⟩ = some (.slice A0_0 l0_0.length c0_0) := (blk_cell BK252.out 0).trans rfl; have hcz14_1 : wr.cell? ⟨gb252, 1, none⟩ = some (.slice A0_1 l0_1.length c0_1) := (blk_cell BK252.out 1).trans rfl; have hfz14_0 := blk_frozen BK252.out 0; have hfz14_1 := blk_frozen BK252.out 1; have p254 : 0 ≤ (x3_1 : Int) := oA; have q254 : x3_1 < (l0_1.length : Int) := oA; obtain ⟨ad254, e254, hx254_0⟩ := Kd.at_int HR0_1.out x3_1 p254 q254
          cases e254
          (try replace hx254_0 := (HB.out.cell (World.block_lt_of_cell? w _ hx254_0)).trans hx254_0); replace p254 := eq_true p254; replace q254 := eq_true q254; have p255 : 0 ≤ (x3_1 : Int) := oA; have q255 : x3_1 < (l0_1.length : Int) := oA; obtain ⟨ad255, e255, hx255_0⟩ := Kd.at_int HR0_1.out x3_1 p255 q255; obtain rfl : ad254 = ad255 := (by injection e255); (try replace hx255_0 := (HB.out.cell (World.block_lt_of_cell? w _ hx255_0)).trans hx255_0); replace p255 := eq_true p255; replace q255 := eq_true q255; have p256 : 0 ≤ ((rd l0_1 x3_1) : Int) := oA; have q256 : (rd l0_1 x3_1) < (l0_1.length : Int) := oA; obtain ⟨ad256, e256, hx256_0⟩ := Kd.at_int HR0_1.out (rd l0_1 x3_1) p256 q256; obtain rfl : ad254 = ad256 := (by injection e256); (try replace hx256_0 := (HB.out.cell (World.block_lt_of_cell? w _ hx256_0)).trans hx256_0); replace p256 := eq_true p256; replace q256 := eq_true q256
          go_wp2
          repeat (go_quiet (fail); try go_wp2)
          go_ret
          exact ⟨rE, bU1 HB.out GE252.out⟩
        ·
         rw [if_neg c11] at H
         exact absurd H (by simp)
       ·
        rw [if_neg c10] at H
        exact absurd H (by simp)
     ·
      rw [if_neg c7] at H
      exact absurd H (by simp)
    ·
     rw [if_neg c6] at H; have c6b0 : decide (x3_1 < (l0_1.length : Int)) = false := decide_eq_false c6; clear c6; replace H := Option.bind_eq_some_iff.mp H; obtain ⟨t257, A150, H⟩ := H; replace H : (spec_MapValid.l1 k1 t257 0) = some r := H; have A15 := Az A150; clear A150; have H' := Az H; clear H; have hcz16_0 : wr.cell? ⟨gb252, 0, none⟩ = some (.slice A0_0 l0_0.length c0_0) := (blk_cell BK252.out 0).trans rfl; have hcz16_1 : wr.cell? ⟨gb252, 1, none⟩ = some (.slice A0_1 l0_1.length c0_1) := (blk_cell BK252.out 1).trans rfl; have hfz16_0 := blk_frozen BK252.out 0; have hfz16_1 := blk_frozen BK252.out 1
     go_wp2_with (first | (go_at_call 99; (with_reducible refine (spec_l1Orbits.calls k1 _ _ l0_0 _ _ l0_1 t257 _ ?side1 ?side2 ?side3 ?side4 A15.out).mono ?_); (case side1 => exact cU (Kd.C_below HR0_0.out HB.out)); (case side2 => exact HC0_0.out); (case side3 => exact cU (Kd.C_below HR0_1.out HB.out)); (case side4 => exact HC0_1.out); rintro e w17 ⟨v258, rfl, ho0, hb⟩; have n0 := Az (Kd.R_lower ho0 (below_size (bU1 HB.out GE252.out))); have n1 := Az (blk_below (g := gb252) (o := .cells #[.slice A0_0 l0_0.length c0_0, .slice A0_1 l0_1.length c0_1] 25 (0, 0)) (kU BK252.out) hb); have n2 := Az (below_step (bU1 HB.out GE252.out) hb); clear BK252 HB; have HO259 := n0; have BK252 := n1; have HB := n2; clear n0 n1 n2; (try clear hb); (try clear hb2); (try clear hk); (try clear hi); (try clear ho0)))
     repeat (go_quiet (first | (go_at_call 99; (try simp only [Go.IntWalk.i64_left]); (with_reducible refine (spec_l1Orbits.calls k1 _ _ l0_0 _ _ l0_1 t257 _ ?side1 ?side2 ?side3 ?side4 A15.out).mono ?_); (case side1 => exact cU (Kd.C_below HR0_0.out HB.out)); (case side2 => exact HC0_0.out); (case side3 => exact cU (Kd.C_below HR0_1.out HB.out)); (case side4 => exact HC0_1.out); rintro e w17 ⟨v258, rfl, ho0, hb⟩; have n0 := Az (Kd.R_lower ho0 (below_size (bU1 HB.out GE252.out))); have n1 := Az (blk_below (g := gb252) (o := .cells #[.slice A0_0 l0_0.length c0_0, .slice A0_1 l0_1.length c0_1] 25 (0, 0)) (kU BK252.out) hb); have n2 := Az (below_step (bU1 HB.out GE252.out) hb); clear BK252 HB; have HO259 := n0; have BK252 := n1; have HB := n2; clear n0 n1 n2; (try clear hb); (try clear hb2); (try clear hk); (try clear hi); (try clear ho0))); try go_wp2_with (first | (go_at_call 99; (try simp only [Go.IntWalk.i64_left]); (with_reducible refine (spec_l1Orbits.calls k1 _ _ l0_0 _ _ l0_1 t257 _ ?side1 ?side2 ?side3 ?side4 A15.out).mono ?_); (case side1 => exact cU (Kd.C_below HR0_0.out HB.out)); (case side2 => exact HC0_0.out); (case side3 => exact cU (Kd.C_below HR0_1.out HB.out)); (case side4 => exact HC0_1.out); rintro e w17 ⟨v258, rfl, ho0, hb⟩; have n0 := Az (Kd.R_lower ho0 (below_size (bU1 HB.out GE252.out))); have n1 := Az (blk_below (g := gb252) (o := .cells #[.slice A0_0 l0_0.length c0_0, .slice A0_1 l0_1.length c0_1] 25 (0, 0)) (kU BK252.out) hb); have n2 := Az (below_step (bU1 HB.out GE252.out) hb); clear BK252 HB; have HO259 := n0; have BK252 := n1; have HB := n2; clear n0 n1 n2; (try clear hb); (try clear hb2); (try clear hk); (try clear hi); (try clear ho0))))
     go_loopg [5] k1 (fun kq v5 w' => ∃ (x5_2 : Int), v5 = .int .i64 x5_2 ∧ Aside0 (spec_MapValid.l1 kq t257 x5_2 = some r) ∧ Aside0 (kq ≤ k1) ∧ Aside0 (Kd.R (Kd.int .i64) 3 w' w.heap.size (fun _ => True) v258 t257) ∧ Aside0 (w'.heap[gb252]? = some (.cells #[(.slice A0_0 l0_0.length c0_0), (.slice A0_1 l0_1.length c0_1)] 25 (0, 0))) ∧ Aside0 (Below w.heap.size w w'))
     case atStart => exact ⟨(0), rS, H', ⟨Nat.le_refl _⟩, ⟨rU HO259.out⟩, ⟨kU BK252.out⟩, ⟨bU1 HB.out GE252.out⟩⟩
     case round =>
      clear H'; (try clear c1); (try clear p2); (try clear q2); (try clear hx2); (try clear c3); (try clear c6); (try clear c6b0); (try clear p6); (try clear c7); (try clear c7b0); (try clear c8); (try clear c8b0); (try clear c8b1); (try clear c10); (try clear c10b0); (try clear c11); (try clear c11b0); (try clear c12); (try clear c12b0); (try clear c12b1); (try clear hcz13_0); (try clear hcz13_1); (try clear hcz14_0); (try clear hcz14_1); (try clear hcz16_0); (try clear hcz16_1); (try clear hcz5_0); (try clear hcz5_1); (try clear hcz9_0); (try clear hcz9_1); (try clear hfz13_0); (try clear hfz13_1); (try clear hfz14_0); (try clear hfz14_1); (try clear hfz16_0); (try clear hfz16_1); (try clear hfz5_0); (try clear hfz5_1); (try clear hfz9_0); (try clear hfz9_1); (try clear hx254_0); (try clear hx255_0); (try clear hx256_0); (try clear p2); (try clear p254); (try clear p255); (try clear p256); (try clear q254); (try clear q255); (try clear q256); obtain ⟨x5_2, rfl, HA, HK2, HO_4, BK252, HB⟩ := hrel
      cases gk with
      | zero => exact absurd HA.out (by simp [spec_MapValid.l1])
      | succ k2 =>
       have H := HA.out; clear HA; simp only [spec_MapValid.l1] at H
       by_cases c18 : x5_2 < (t257.length : Int)
       ·
        rw [if_pos c18] at H; have c18b0 : decide (x5_2 < (t257.length : Int)) = true := decide_eq_true c18; clear c18
        by_cases c19 : 0 ≤ x5_2
        ·
         rw [if_pos c19] at H; have c19b0 : decide (0 ≤ x5_2) = true := decide_eq_true c19; clear c19
         by_cases c20 : (rd t257 x5_2) = 0
         ·
          rw [if_pos c20] at H; have c20b0 : ((rd t257 x5_2) == 0) = true := beq_iff_eq.mpr c20; have c20b1 : ((rd t257 x5_2) != 0) = false := bne_eq_false_iff_eq.mpr c20; clear c20; have H' := Az H; clear H; obtain ⟨Ao21, co21, eo21⟩ := Kd.R_slice HO_4.out; subst eo21; have p260 : 0 ≤ (x5_2 : Int) := oA; have q260 : x5_2 < (t257.length : Int) := oA; obtain ⟨ad260, e260, hx260_0⟩ := Kd.at_int (Kd.R_reads' HO_4.out).2.2 x5_2 p260 q260
          cases e260
          replace p260 := eq_true p260; replace q260 := eq_true q260
          go_wp2
          repeat (go_quiet (fail); try go_wp2)
          (first | go_roundg k2 | (refine Handed.intro k2 ?measure ?_; rotate_left; go_step; (try simp only [add_plain]); (repeat apply Exists.intro); refine ⟨?rel, rfl⟩))
          case measure => have := HK1.out; have := HK2.out; omega
          case rel => exact ⟨(wrap64 (x5_2 + 1)), rS, H', ⟨by have := HK1.out; have := HK2.out; omega⟩, ⟨rU HO_4.out⟩, ⟨kU BK252.out⟩, ⟨bU1 HB.out GE252.out⟩⟩
         ·
          rw [if_neg c20] at H; have c20b0 : ((rd t257 x5_2) == 0) = false := beq_eq_false_iff_ne.mpr c20; have c20b1 : ((rd t257 x5_2) != 0) = true := bne_iff_ne.mpr c20; obtain rfl := Option.some.inj H; obtain ⟨Ao22, co22, eo22⟩ := Kd.R_slice HO_4.out; subst eo22; have p260 : 0 ≤ (x5_2 : Int) := oA; have q260 : x5_2 < (t257.length : Int) := oA; obtain ⟨ad260, e260, hx260_0⟩ := Kd.at_int (Kd.R_reads' HO_4.out).2.2 x5_2 p260 q260
          cases e260
          replace p260 := eq_true p260; replace q260 := eq_true q260
          go_wp2
          repeat (go_quiet (fail); try go_wp2)
          go_ret
          exact ⟨rE, bU1 HB.out GE252.out⟩
        ·
         rw [if_neg c19] at H
         exact absurd H (by simp)
       ·
        rw [if_neg c18] at H; have c18b0 : decide (x5_2 < (t257.length : Int)) = false := decide_eq_false c18; clear c18; obtain rfl := Option.some.inj H; obtain ⟨Ao23, co23, eo23⟩ := Kd.R_slice HO_4.out; subst eo23
        go_wp2
        repeat (go_quiet (fail); try go_wp2)
        go_ret
        exact ⟨rE, bU1 HB.out GE252.out⟩
 ·
  replace c3 := Bool.eq_false_iff.mpr c3; subst c3
  have H1 : (some false) = some r := by rw [if_neg (show ¬ (false = true) by decide)] at H; exact H
  clear H; have H := H1; clear H1; obtain rfl := Option.some.inj H
  go_enter Try.func61, Try.ntmps61
  go_wp2_with (first | ((with_reducible refine gate_dst (N := 1) rfl ?_); refine box_event ?hg (N := 1) ?hd (cs := #[.slice A0_0 l0_0.length c0_0, .slice A0_1 l0_1.length c0_1]) (t := 25) ?hr ?_; (case hd => rfl); (case hg => rfl); (case hr => first | (go_simp; done) | (go_simp; rfl)); intro gb252 hg w24 hbox hb; have n0 := Az (below_step (bU0 HB.out) hb); have n1 := Az (hbox); have n2 := Az ((by rw [hg]; exact (below_size (bU0 HB.out)) : w.heap.size ≤ gb252)); have n3 := n2; clear HB; have HB := n0; have BK252 := n1; have GW252 := n2; have GE252 := n3; clear n0 n1 n2 n3 hb hbox hg; have hcz25_0 : w24.cell? ⟨gb252, 0, none⟩ = some (.slice A0_0 l0_0.length c0_0) := (blk_cell BK252.out 0).trans rfl; have hcz25_1 : w24.cell? ⟨gb252, 1, none⟩ = some (.slice A0_1 l0_1.length c0_1) := (blk_cell BK252.out 1).trans rfl; have hfz25_0 := blk_frozen BK252.out 0; have hfz25_1 := blk_frozen BK252.out 1) | (go_at_call 98; (with_reducible refine (spec_l1Both.calls k _ _ l0_0 _ _ l0_1 false _ ?side1 ?side2 ?side3 ?side4 A2.out).mono ?_); (case side1 => exact cU (Kd.C_below HR0_0.out HB.out)); (case side2 => exact HC0_0.out); (case side3 => exact cU (Kd.C_below HR0_1.out HB.out)); (case side4 => exact HC0_1.out); rintro e w' ⟨rfl, ⟨nd, rfl⟩⟩; (try first | exact ⟨rfl, _, World.drewN_drewN _ _ _⟩ | exact ⟨rfl, _, Eq.trans (World.drewN_drewN _ _ _) (congrArg (World.drewN _) (Nat.add_assoc _ _ _))⟩)))
  repeat (go_quiet (first | ((with_reducible refine gate_dst (N := 1) rfl ?_); refine box_event ?hg (N := 1) ?hd (cs := #[.slice A0_0 l0_0.length c0_0, .slice A0_1 l0_1.length c0_1]) (t := 25) ?hr ?_; (case hd => rfl); (case hg => rfl); (case hr => first | (go_simp; done) | (go_simp; rfl)); intro gb252 hg w24 hbox hb; have n0 := Az (below_step (bU0 HB.out) hb); have n1 := Az (hbox); have n2 := Az ((by rw [hg]; exact (below_size (bU0 HB.out)) : w.heap.size ≤ gb252)); have n3 := n2; clear HB; have HB := n0; have BK252 := n1; have GW252 := n2; have GE252 := n3; clear n0 n1 n2 n3 hb hbox hg; have hcz25_0 : w24.cell? ⟨gb252, 0, none⟩ = some (.slice A0_0 l0_0.length c0_0) := (blk_cell BK252.out 0).trans rfl; have hcz25_1 : w24.cell? ⟨gb252, 1, none⟩ = some (.slice A0_1 l0_1.length c0_1) := (blk_cell BK252.out 1).trans rfl; have hfz25_0 := blk_frozen BK252.out 0; have hfz25_1 := blk_frozen BK252.out 1) | (go_at_call 98; (try simp only [Go.IntWalk.i64_left]); (with_reducible refine (spec_l1Both.calls k _ _ l0_0 _ _ l0_1 false _ ?side1 ?side2 ?side3 ?side4 A2.out).mono ?_); (case side1 => exact cU (Kd.C_below HR0_0.out HB.out)); (case side2 => exact HC0_0.out); (case side3 => exact cU (Kd.C_below HR0_1.out HB.out)); (case side4 => exact HC0_1.out); rintro e w' ⟨rfl, ⟨nd, rfl⟩⟩; (try first | exact ⟨rfl, _, World.drewN_drewN _ _ _⟩ | exact ⟨rfl, _, Eq.trans (World.drewN_drewN _ _ _) (congrArg (World.drewN _) (Nat.add_assoc _ _ _))⟩))); try go_wp2_with (first | ((with_reducible refine gate_dst (N := 1) rfl ?_); refine box_event ?hg (N := 1) ?hd (cs := #[.slice A0_0 l0_0.length c0_0, .slice A0_1 l0_1.length c0_1]) (t := 25) ?hr ?_; (case hd => rfl); (case hg => rfl); (case hr => first | (go_simp; done) | (go_simp; rfl)); intro gb252 hg w24 hbox hb; have n0 := Az (below_step (bU0 HB.out) hb); have n1 := Az (hbox); have n2 := Az ((by rw [hg]; exact (below_size (bU0 HB.out)) : w.heap.size ≤ gb252)); have n3 := n2; clear HB; have HB := n0; have BK252 := n1; have GW252 := n2; have GE252 := n3; clear n0 n1 n2 n3 hb hbox hg; have hcz25_0 : w24.cell? ⟨gb252, 0, none⟩ = some (.slice A0_0 l0_0.length c0_0) := (blk_cell BK252.out 0).trans rfl; have hcz25_1 : w24.cell? ⟨gb252, 1, none⟩ = some (.slice A0_1 l0_1.length c0_1) := (blk_cell BK252.out 1).trans rfl; have hfz25_0 := blk_frozen BK252.out 0; have hfz25_1 := blk_frozen BK252.out 1) | (go_at_call 98; (try simp only [Go.IntWalk.i64_left]); (with_reducible refine (spec_l1Both.calls k _ _ l0_0 _ _ l0_1 false _ ?side1 ?side2 ?side3 ?side4 A2.out).mono ?_); (case side1 => exact cU (Kd.C_below HR0_0.out HB.out)); (case side2 => exact HC0_0.out); (case side3 => exact cU (Kd.C_below HR0_1.out HB.out)); (case side4 => exact HC0_1.out); rintro e w' ⟨rfl, ⟨nd, rfl⟩⟩; (try first | exact ⟨rfl, _, World.drewN_drewN _ _ _⟩ | exact ⟨rfl, _, Eq.trans (World.drewN_drewN _ _ _) (congrArg (World.drewN _) (Nat.add_assoc _ _ _))⟩))))
  go_ret
  exact ⟨rE, bU1 HB.out GE252.out⟩
def IsS73 (w0 W : World) (g : Nat) (f0 : List Int) (f1 : Int) : Prop := ∃ A0 c0, W.heap[g]? = some (.cells #[.slice A0 f0.length c0, .int .i64 f1] 73 (0, 0)) ∧ w0.heap.size ≤ g ∧ Kd.C (Kd.int .u8) w0 A0 f0.length f0
theorem IsS73.grown {w0 W : World} {g : Nat} {f0 : List Int} {f1 : Int} {W1 : World} {row : Option Nat} (h : IsS73 w0 W g f0 f1) (hw : W.grownBy W1 row) (hne : some g ≠ row) : IsS73 w0 W1 g f0 f1 := by
 obtain ⟨A0, c0, hb, hg, hr0⟩ := h
 exact ⟨A0, c0, blk_grown hb hw hne, hg, hr0⟩
theorem IsS73.fresh {w0 W : World} {g : Nat} {f0 : List Int} {f1 : Int} (h : IsS73 w0 W g f0 f1) : ∀ k, W.heap.size ≤ k → k ≠ g := by
 obtain ⟨A0, c0, hb, hg, hr0⟩ := h
 exact Kd.freshB hb
theorem IsS73.kept {w0 W : World} {g : Nat} {f0 : List Int} {f1 : Int} {W1 : World} {S : Nat → Prop} (h : IsS73 w0 W g f0 f1) (hk : Kept W W1 S) (hne : ¬ S g) : IsS73 w0 W1 g f0 f1 := by
 obtain ⟨A0, c0, hb, hg, hr0⟩ := h
 exact ⟨A0, c0, blk_kept hb hk hne, hg, hr0⟩
theorem IsS73.below {w0 W : World} {g : Nat} {f0 : List Int} {f1 : Int} {W1 : World} (h : IsS73 w0 W g f0 f1) (hw : Below W.heap.size W W1) : IsS73 w0 W1 g f0 f1 := h.grown (grown_of_below hw none) (by simp)
theorem IsS73.alloc {w0 W : World} {g : Nat} {f0 : List Int} {f1 : Int} (h : IsS73 w0 W g f0 f1) (o : Obj) : IsS73 w0 (W.alloc o) g f0 f1 := h.below (below_alloc (Below.refl _ _) o)
theorem IsS73.drewN {w0 W : World} {g : Nat} {f0 : List Int} {f1 : Int} (h : IsS73 w0 W g f0 f1) (m : Nat) : IsS73 w0 (W.drewN m) g f0 f1 := h
theorem IsS73.drew {w0 W : World} {g : Nat} {f0 : List Int} {f1 : Int} (h : IsS73 w0 W g f0 f1) : IsS73 w0 W.drew g f0 f1 := h
theorem IsS73.at_ {w0 W : World} {g : Nat} {f0 : List Int} {f1 : Int} {w' : World} {m : Nat} (hq : W.drewN m = w') (h : IsS73 w0 W g f0 f1) : IsS73 w0 w' g f0 f1 := by subst hq; exact IsS73.drewN h m
theorem IsS73.apart {w0 W : World} {g : Nat} {f0 : List Int} {f1 : Int} {α : Type} {d : Kd α} {e : Nat} {base : Nat} {ok : Nat → Prop} {v : Value} {xs : List α} (h : IsS73 w0 W g f0 f1) (ho : d.R e W base ok v xs) (ht : ∀ q, q ∈ e :: d.E → q ≠ 73) : d.R e W base (fun k => ok k ∧ k ≠ g) v xs := by
 obtain ⟨A0, c0, hb, hg, hr0⟩ := h
 exact Kd.R_types ho hb ht
theorem IsS73.own_ne {w0 W : World} {g : Nat} {f0 : List Int} {f1 : Int} {α : Type} {d : Kd α} {e : Nat} {base : Nat} {ok : Nat → Prop} {v : Value} {xs : List α} (h : IsS73 w0 W g f0 f1) (ho : d.R e W base ok v xs) (ht : e ≠ 73) : some g ≠ v.ownBlock := by
 obtain ⟨A0, c0, hb, hg, hr0⟩ := h
 exact Kd.R_ne ho hb ht
theorem IsS73.apartQ {w0 W : World} {g : Nat} {f0 : List Int} {f1 : Int} {α : Type} {d : Kd α} {e : Nat} {base : Nat} {ok : Nat → Prop} {v : Value} {xs : List α} (h : IsS73 w0 W g f0 f1) (ho : d.Q e W base ok v xs) (ht : ∀ q, q ∈ e :: d.E → q ≠ 73) : d.Q e W base (fun k => ok k ∧ k ≠ g) v xs := by
 obtain ⟨A0, c0, hb, hg, hr0⟩ := h
 exact Kd.Q_types ho hb ht
theorem IsS73.own_neQ {w0 W : World} {g : Nat} {f0 : List Int} {f1 : Int} {α : Type} {d : Kd α} {e : Nat} {base : Nat} {ok : Nat → Prop} {v : Value} {xs : List α} (h : IsS73 w0 W g f0 f1) (ho : d.Q e W base ok v xs) (ht : e ≠ 73) : some g ≠ v.ownBlock := by
 obtain ⟨A0, c0, hb, hg, hr0⟩ := h
 exact Kd.Q_ne ho hb ht
theorem IsS73.lt {w0 W : World} {g : Nat} {f0 : List Int} {f1 : Int} (h : IsS73 w0 W g f0 f1) : g < W.heap.size := by
 obtain ⟨A0, c0, hb, hg, hr0⟩ := h
 exact blk_lt hb
theorem IsS73.ge {w0 W : World} {g : Nat} {f0 : List Int} {f1 : Int} (h : IsS73 w0 W g f0 f1) : w0.heap.size ≤ g := by
 obtain ⟨A0, c0, hb, hg, hr0⟩ := h
 exact hg
theorem IsS73.ne_blk {w0 W : World} {g : Nat} {f0 : List Int} {f1 : Int} {a : Nat} {cs : Array Value} {t : TypeId} {fr : Nat × Nat} (h : IsS73 w0 W g f0 f1) (hb2 : W.heap[a]? = some (.cells cs t fr)) (ht : t ≠ 73) : g ≠ a := by
 obtain ⟨A0, c0, hb, hg, hr0⟩ := h
 rintro rfl
 rw [hb] at hb2; injection hb2 with hb2; injection hb2 with _ ht2
 exact ht ht2.symm
theorem IsS73.far {w0 W : World} {g : Nat} {f0 : List Int} {f1 : Int} {p : Addr} (h : IsS73 w0 W g f0 f1) (hne : g ≠ p.block) (u : Value) : IsS73 w0 (W.setCell p u) g f0 f1 := by
 obtain ⟨A0, c0, hb, hg, hr0⟩ := h
 exact ⟨A0, c0, blk_far hb hne u, hg, hr0⟩
theorem cellS73_0 {W : World} {g : Nat} {A0 : Option Addr} {c0 : Nat} {f0 : List Int} {f1 : Int} (h : W.heap[g]? = some (.cells #[.slice A0 f0.length c0, .int .i64 f1] 73 (0, 0))) : W.cell? ⟨g, 0, none⟩ = some (.slice A0 f0.length c0) := (blk_cell h 0).trans rfl
theorem cellS73_1 {W : World} {g : Nat} {A0 : Option Addr} {c0 : Nat} {f0 : List Int} {f1 : Int} (h : W.heap[g]? = some (.cells #[.slice A0 f0.length c0, .int .i64 f1] 73 (0, 0))) : W.cell? ⟨g, 1, none⟩ = some (.int .i64 f1) := (blk_cell h 1).trans rfl
theorem IsS73.set_1 {w0 W : World} {g : Nat} {f0 : List Int} {f1 : Int} (h : IsS73 w0 W g f0 f1) (x : Int) : IsS73 w0 (W.setCell ⟨g, 1, none⟩ (.int .i64 x)) g f0 x := by
 obtain ⟨A0, c0, hb, hg, hr0⟩ := h
 exact ⟨A0, c0, by simpa using blk_set hb 1 (.int .i64 x), hg, hr0⟩
def spec_l6Rd_pick.j0 : Nat → Int → Bool → List Int → Int → Option (Int × Int)
 | 0, _, _, _, _ => none
 | k + 1, x1, x24, x1000, x1001 => if x24 = true then (some (0, x1001)) else (if (wrap64 (x1001 - 1)) < (x1000.length : Int) then (if 0 ≤ (wrap64 (x1001 - 1)) then (if x1 = 0 then (none) else (some (Int.tmod (wrap64 (rd x1000 (wrap64 (x1001 - 1)))) x1, x1001))) else (none)) else (if (x1000.length : Int) = 0 then (none) else (if 0 ≤ (Int.tmod (wrap64 (x1001 - 1)) (x1000.length : Int)) then (if (Int.tmod (wrap64 (x1001 - 1)) (x1000.length : Int)) < (x1000.length : Int) then (if 0 ≤ (Int.tmod (wrap64 ((wrap64 ((wrap64 (x1001 - 1)) * 7)) + 3)) (x1000.length : Int)) then (if (Int.tmod (wrap64 ((wrap64 ((wrap64 (x1001 - 1)) * 7)) + 3)) (x1000.length : Int)) < (x1000.length : Int) then (if x1 = 0 then (none) else (some (Int.tmod (Go.bits .xor .i64 (wrap64 ((wrap64 ((wrap64 ((wrap64 ((wrap64 (rd x1000 (Int.tmod (wrap64 (x1001 - 1)) (x1000.length : Int)))) * 131)) + (wrap64 ((wrap64 (rd x1000 (Int.tmod (wrap64 ((wrap64 ((wrap64 (x1001 - 1)) * 7)) + 3)) (x1000.length : Int)))) * 1117)))) + (wrap64 ((wrap64 (x1001 - 1)) * 29)))) + (wrap64 ((wrap64 (Int.tdiv (wrap64 (x1001 - 1)) (x1000.length : Int))) * 53)))) (wrap64 (Int.tdiv (wrap64 ((wrap64 ((wrap64 ((wrap64 ((wrap64 (rd x1000 (Int.tmod (wrap64 (x1001 - 1)) (x1000.length : Int)))) * 131)) + (wrap64 ((wrap64 (rd x1000 (Int.tmod (wrap64 ((wrap64 ((wrap64 (x1001 - 1)) * 7)) + 3)) (x1000.length : Int)))) * 1117)))) + (wrap64 ((wrap64 (x1001 - 1)) * 29)))) + (wrap64 ((wrap64 (Int.tdiv (wrap64 (x1001 - 1)) (x1000.length : Int))) * 53)))) 64))) x1, x1001))) else (none)) else (none)) else (none)) else (none))))
def spec_l6Rd_pick.f (k : Nat) (s0_0 : List Int) (s0_1 : Int) (a1 : Int) : Option (Int × Int) := if a1 < 1 then (spec_l6Rd_pick.j0 k a1 true s0_0 (wrap64 (s0_1 + 1))) else (spec_l6Rd_pick.j0 k a1 ((s0_0.length : Int) == 0) s0_0 (wrap64 (s0_1 + 1)))
set_option maxHeartbeats 8000000 in
set_option maxRecDepth 100000 in
theorem spec_l6Rd_pick.calls (k : Nat) (g : Nat) (s0_0 : List Int) (s0_1 : Int) (a1 : Int) (r1 : Int) (r2 : Int) (w0 w : World) (hI : IsS73 w0 w g s0_0 s0_1) (hB : Below w0.heap.size w0 w) (h : spec_l6Rd_pick.f k s0_0 s0_1 a1 = some (r1, r2)) :
  Calls Try.prog 71 #[.pointer (some ⟨g, 0, none⟩), .int .i64 a1] w fun e w' => e = .returned (.int .i64 r1) ∧ IsS73 w0 w' g s0_0 r2 ∧ Below w0.heap.size w0 w' ∧ KeepBut w w' g none := by
 have HI0 := Az hI; have HK := Az (KeepBut.refl w g none); have HL := Az hB.size; clear hI; have HW0 := Az hB.size; have HB := Az hB; clear hB; have H : (if a1 < 1 then (spec_l6Rd_pick.j0 k a1 true s0_0 (wrap64 (s0_1 + 1))) else (spec_l6Rd_pick.j0 k a1 ((s0_0.length : Int) == 0) s0_0 (wrap64 (s0_1 + 1)))) = some (r1, r2) := h; clear h; have HC3 := Az H; clear H; obtain ⟨ASz4_0, cSz4_0, HGz4, hgz4, HSz4_0⟩ := HI0.out; have hcz4_0 := cellS73_0 HGz4; have hcz4_1 := cellS73_1 HGz4; have hfz4_1 := blk_frozen HGz4 1; clear HGz4 hgz4
 go_enter Try.func71, Try.ntmps71
 go_upto_region 2 with (fail)
 repeat (go_quiet (fail); go_upto_region 2 with (fail))
 go_cut [24] (fun v24 wc => ∃ (kq : Nat) (x24_2 : Bool), v24 = .bool x24_2 ∧ Aside0 (spec_l6Rd_pick.j0 kq a1 x24_2 s0_0 (wrap64 (s0_1 + 1)) = some (r1, r2)) ∧ Aside0 (kq ≤ k) ∧ Aside0 (IsS73 w0 wc g s0_0 (wrap64 (s0_1 + 1))) ∧ Aside0 (KeepBut w wc g none) ∧ Aside0 (Below w0.heap.size w0 wc))
 case first =>
  have H := HC3.out; clear HC3
  by_cases c5 : a1 < 1
  ·
   rw [if_pos c5] at H; have c5b0 : decide (a1 < 1) = true := decide_eq_true c5; clear c5; (first | rw [c5b0] | (simp only [i64_w, i32_w]; rw [c5b0]) | skip); have H' := Az H; clear H
   go_wp2
   repeat (go_quiet (fail); try go_wp2)
   go_meet
   case rel => exact ⟨_, (true), rS, H', ⟨by first | omega | exact Nat.le_refl _⟩, ⟨by repeat (first | (with_reducible first | exact HI0.out | apply IsS73.alloc | apply IsS73.drewN | apply IsS73.drew | apply IsS73.set_1) | exact HI0.out)⟩, ⟨by repeat (first | (with_reducible first | exact HK.out | apply KeepBut.set_ | apply keep_drewN | apply keep_drew | apply keep_alloc) | exact HK.out)⟩, ⟨by repeat (first | (with_reducible first | exact HB.out | apply below_alloc | apply pw_below_drewN | apply below_drew1 | refine below_set ?_ (IsS73.ge HI0.out)) | exact HB.out)⟩⟩
  ·
   rw [if_neg c5] at H; have c5b0 : decide (a1 < 1) = false := decide_eq_false c5; clear c5; (first | rw [c5b0] | (simp only [i64_w, i32_w]; rw [c5b0]) | skip); have H' := Az H; clear H; obtain ⟨ASz6_0, cSz6_0, HGz6, hgz6, HSz6_0⟩ := HI0.out; have hcz6_0 := cellS73_0 HGz6; have hcz6_1 := cellS73_1 HGz6; have hfz6_1 := blk_frozen HGz6 1; clear HGz6 hgz6
   go_wp2
   repeat (go_quiet (fail); try go_wp2)
   go_meet
   case rel => exact ⟨_, (((s0_0.length : Int) == 0)), rS, H', ⟨by first | omega | exact Nat.le_refl _⟩, ⟨by repeat (first | (with_reducible first | exact HI0.out | apply IsS73.alloc | apply IsS73.drewN | apply IsS73.drew | apply IsS73.set_1) | exact HI0.out)⟩, ⟨by repeat (first | (with_reducible first | exact HK.out | apply KeepBut.set_ | apply keep_drewN | apply keep_drew | apply keep_alloc) | exact HK.out)⟩, ⟨by repeat (first | (with_reducible first | exact HB.out | apply below_alloc | apply pw_below_drewN | apply below_drew1 | refine below_set ?_ (IsS73.ge HI0.out)) | exact HB.out)⟩⟩
 case rest =>
  clear HC3; (try clear p2); (try clear c5); (try clear c5b0); (try clear p6); (try clear hcz4_0); (try clear hcz4_1); (try clear hcz6_0); (try clear hcz6_1); (try clear hfz4_1); (try clear hfz6_1); obtain ⟨kq, x24_2, rfl, HA, HJ2, HI0, HK, HB⟩ := hcut
  cases kq with
  | zero => exact absurd HA.out (by simp [spec_l6Rd_pick.j0])
  | succ kj2 =>
   have H := HA.out; clear HA; simp only [spec_l6Rd_pick.j0] at H
   by_cases c7 : x24_2 = true
   ·
    subst c7
    have H1 : (some (0, (wrap64 (s0_1 + 1)))) = some (r1, r2) := by rw [if_pos rfl] at H; exact H
    clear H; have H := H1; clear H1; simp only [Option.some.injEq, Prod.mk.injEq] at H; obtain ⟨rfl, rfl⟩ := H
    go_wp2
    repeat (go_quiet (fail); try go_wp2)
    go_ret
    exact ⟨rE, by repeat (first | (with_reducible first | exact HI0.out | apply IsS73.alloc | apply IsS73.drewN | apply IsS73.drew | apply IsS73.set_1) | exact HI0.out), by repeat (first | (with_reducible first | exact HB.out | apply below_alloc | apply pw_below_drewN | apply below_drew1 | refine below_set ?_ (IsS73.ge HI0.out)) | exact HB.out), by repeat (first | (with_reducible first | exact HK.out | apply KeepBut.set_ | apply keep_drewN | apply keep_drew | apply keep_alloc) | exact HK.out)⟩
   ·
    replace c7 := Bool.eq_false_iff.mpr c7; subst c7
    have H1 : (if (wrap64 ((wrap64 (s0_1 + 1)) - 1)) < (s0_0.length : Int) then (if 0 ≤ (wrap64 ((wrap64 (s0_1 + 1)) - 1)) then (if a1 = 0 then (none) else (some (Int.tmod (wrap64 (rd s0_0 (wrap64 ((wrap64 (s0_1 + 1)) - 1)))) a1, (wrap64 (s0_1 + 1))))) else (none)) else (if (s0_0.length : Int) = 0 then (none) else (if 0 ≤ (Int.tmod (wrap64 ((wrap64 (s0_1 + 1)) - 1)) (s0_0.length : Int)) then (if (Int.tmod (wrap64 ((wrap64 (s0_1 + 1)) - 1)) (s0_0.length : Int)) < (s0_0.length : Int) then (if 0 ≤ (Int.tmod (wrap64 ((wrap64 ((wrap64 ((wrap64 (s0_1 + 1)) - 1)) * 7)) + 3)) (s0_0.length : Int)) then (if (Int.tmod (wrap64 ((wrap64 ((wrap64 ((wrap64 (s0_1 + 1)) - 1)) * 7)) + 3)) (s0_0.length : Int)) < (s0_0.length : Int) then (if a1 = 0 then (none) else (some (Int.tmod (Go.bits .xor .i64 (wrap64 ((wrap64 ((wrap64 ((wrap64 ((wrap64 (rd s0_0 (Int.tmod (wrap64 ((wrap64 (s0_1 + 1)) - 1)) (s0_0.length : Int)))) * 131)) + (wrap64 ((wrap64 (rd s0_0 (Int.tmod (wrap64 ((wrap64 ((wrap64 ((wrap64 (s0_1 + 1)) - 1)) * 7)) + 3)) (s0_0.length : Int)))) * 1117)))) + (wrap64 ((wrap64 ((wrap64 (s0_1 + 1)) - 1)) * 29)))) + (wrap64 ((wrap64 (Int.tdiv (wrap64 ((wrap64 (s0_1 + 1)) - 1)) (s0_0.length : Int))) * 53)))) (wrap64 (Int.tdiv (wrap64 ((wrap64 ((wrap64 ((wrap64 ((wrap64 (rd s0_0 (Int.tmod (wrap64 ((wrap64 (s0_1 + 1)) - 1)) (s0_0.length : Int)))) * 131)) + (wrap64 ((wrap64 (rd s0_0 (Int.tmod (wrap64 ((wrap64 ((wrap64 ((wrap64 (s0_1 + 1)) - 1)) * 7)) + 3)) (s0_0.length : Int)))) * 1117)))) + (wrap64 ((wrap64 ((wrap64 (s0_1 + 1)) - 1)) * 29)))) + (wrap64 ((wrap64 (Int.tdiv (wrap64 ((wrap64 (s0_1 + 1)) - 1)) (s0_0.length : Int))) * 53)))) 64))) a1, (wrap64 (s0_1 + 1))))) else (none)) else (none)) else (none)) else (none)))) = some (r1, r2) := by rw [if_neg (show ¬ (false = true) by decide)] at H; exact H
    clear H; have H := H1; clear H1
    by_cases c8 : (wrap64 ((wrap64 (s0_1 + 1)) - 1)) < (s0_0.length : Int)
    ·
     rw [if_pos c8] at H; have c8b0 : decide ((wrap64 ((wrap64 (s0_1 + 1)) - 1)) < (s0_0.length : Int)) = true := decide_eq_true c8; clear c8; obtain ⟨ji9, hji9⟩ : ∃ j_ : Int, (wrap64 ((wrap64 (s0_1 + 1)) - 1)) = j_ := ⟨_, rfl⟩
     replace H : (if 0 ≤ (ji9) then (if a1 = 0 then (none) else (some (Int.tmod (wrap64 (rd s0_0 (ji9))) a1, (wrap64 (s0_1 + 1))))) else (none)) = some (r1, r2) := by first | (rw [hji9] at H; exact H) | (simp only [hji9] at H ⊢; exact H)
     (try rw [hji9] at c8b0); have hji9w : (IntKind.i64.wrap ((wrap64 (s0_1 + 1)) - 1)) = ji9 := (i64_w _).trans hji9
     by_cases c10 : 0 ≤ (ji9)
     ·
      rw [if_pos c10] at H; have c10b0 : decide (0 ≤ (ji9)) = true := decide_eq_true c10; clear c10
      by_cases c11 : a1 = 0
      ·
       rw [if_pos c11] at H
       exact absurd H (by simp)
      ·
       rw [if_neg c11] at H; have c11b0 : (a1 == 0) = false := beq_eq_false_iff_ne.mpr c11; have c11b1 : (a1 != 0) = true := bne_iff_ne.mpr c11; simp only [Option.some.injEq, Prod.mk.injEq] at H; obtain ⟨rfl, rfl⟩ := H; obtain ⟨ASz12_0, cSz12_0, HGz12, hgz12, HSz12_0⟩ := HI0.out; have hcz12_0 := cellS73_0 HGz12; have hcz12_1 := cellS73_1 HGz12; have hfz12_1 := blk_frozen HGz12 1; clear HGz12 hgz12; have p261 : 0 ≤ ((ji9) : Int) := oA; have q261 : (ji9) < (s0_0.length : Int) := oA; obtain ⟨ad261, e261, hx261_0⟩ := Kd.at_int HSz12_0 (ji9) p261 q261
       cases e261
       replace hx261_0 := pw_cell_below HB.out hx261_0; replace p261 := eq_true p261; replace q261 := eq_true q261
       go_wp2
       repeat (go_quiet (fail); try go_wp2)
       go_ret
       exact ⟨by first | rfl | (simp [errW_none, errW_some] <;> rfl) | (simp only [← hji9]; first | rfl | (simp [errW_none, errW_some] <;> rfl)) | (simp [*, errW_none, errW_some] <;> rfl), by repeat (first | (with_reducible first | exact HI0.out | apply IsS73.alloc | apply IsS73.drewN | apply IsS73.drew | apply IsS73.set_1) | exact HI0.out), by repeat (first | (with_reducible first | exact HB.out | apply below_alloc | apply pw_below_drewN | apply below_drew1 | refine below_set ?_ (IsS73.ge HI0.out)) | exact HB.out), by repeat (first | (with_reducible first | exact HK.out | apply KeepBut.set_ | apply keep_drewN | apply keep_drew | apply keep_alloc) | exact HK.out)⟩
     ·
      rw [if_neg c10] at H
      exact absurd H (by simp)
    ·
     rw [if_neg c8] at H; have c8b0 : decide ((wrap64 ((wrap64 (s0_1 + 1)) - 1)) < (s0_0.length : Int)) = false := decide_eq_false c8; clear c8
     by_cases c13 : (s0_0.length : Int) = 0
     ·
      rw [if_pos c13] at H
      exact absurd H (by simp)
     ·
      rw [if_neg c13] at H; have c13b0 : ((s0_0.length : Int) == 0) = false := beq_eq_false_iff_ne.mpr c13; have c13b1 : ((s0_0.length : Int) != 0) = true := bne_iff_ne.mpr c13
      have c13b2 : ¬ (s0_0 = []) := fun h_ => c13 (by rw [h_]; rfl)
      obtain ⟨ji14, hji14⟩ : ∃ j_ : Int, (Int.tmod (wrap64 ((wrap64 (s0_1 + 1)) - 1)) (s0_0.length : Int)) = j_ := ⟨_, rfl⟩
      replace H : (if 0 ≤ (ji14) then (if (ji14) < (s0_0.length : Int) then (if 0 ≤ (Int.tmod (wrap64 ((wrap64 ((wrap64 ((wrap64 (s0_1 + 1)) - 1)) * 7)) + 3)) (s0_0.length : Int)) then (if (Int.tmod (wrap64 ((wrap64 ((wrap64 ((wrap64 (s0_1 + 1)) - 1)) * 7)) + 3)) (s0_0.length : Int)) < (s0_0.length : Int) then (if a1 = 0 then (none) else (some (Int.tmod (Go.bits .xor .i64 (wrap64 ((wrap64 ((wrap64 ((wrap64 ((wrap64 (rd s0_0 (ji14))) * 131)) + (wrap64 ((wrap64 (rd s0_0 (Int.tmod (wrap64 ((wrap64 ((wrap64 ((wrap64 (s0_1 + 1)) - 1)) * 7)) + 3)) (s0_0.length : Int)))) * 1117)))) + (wrap64 ((wrap64 ((wrap64 (s0_1 + 1)) - 1)) * 29)))) + (wrap64 ((wrap64 (Int.tdiv (wrap64 ((wrap64 (s0_1 + 1)) - 1)) (s0_0.length : Int))) * 53)))) (wrap64 (Int.tdiv (wrap64 ((wrap64 ((wrap64 ((wrap64 ((wrap64 (rd s0_0 (ji14))) * 131)) + (wrap64 ((wrap64 (rd s0_0 (Int.tmod (wrap64 ((wrap64 ((wrap64 ((wrap64 (s0_1 + 1)) - 1)) * 7)) + 3)) (s0_0.length : Int)))) * 1117)))) + (wrap64 ((wrap64 ((wrap64 (s0_1 + 1)) - 1)) * 29)))) + (wrap64 ((wrap64 (Int.tdiv (wrap64 ((wrap64 (s0_1 + 1)) - 1)) (s0_0.length : Int))) * 53)))) 64))) a1, (wrap64 (s0_1 + 1))))) else (none)) else (none)) else (none)) else (none)) = some (r1, r2) := by first | (rw [hji14] at H; exact H) | (simp only [hji14] at H ⊢; exact H)
      by_cases c15 : 0 ≤ (ji14)
      ·
       rw [if_pos c15] at H; have c15b0 : decide (0 ≤ (ji14)) = true := decide_eq_true c15; clear c15
       by_cases c16 : (ji14) < (s0_0.length : Int)
       ·
        rw [if_pos c16] at H; have c16b0 : decide ((ji14) < (s0_0.length : Int)) = true := decide_eq_true c16; clear c16; obtain ⟨ji17, hji17⟩ : ∃ j_ : Int, (Int.tmod (wrap64 ((wrap64 ((wrap64 ((wrap64 (s0_1 + 1)) - 1)) * 7)) + 3)) (s0_0.length : Int)) = j_ := ⟨_, rfl⟩
        replace H : (if 0 ≤ (ji17) then (if (ji17) < (s0_0.length : Int) then (if a1 = 0 then (none) else (some (Int.tmod (Go.bits .xor .i64 (wrap64 ((wrap64 ((wrap64 ((wrap64 ((wrap64 (rd s0_0 (ji14))) * 131)) + (wrap64 ((wrap64 (rd s0_0 (ji17))) * 1117)))) + (wrap64 ((wrap64 ((wrap64 (s0_1 + 1)) - 1)) * 29)))) + (wrap64 ((wrap64 (Int.tdiv (wrap64 ((wrap64 (s0_1 + 1)) - 1)) (s0_0.length : Int))) * 53)))) (wrap64 (Int.tdiv (wrap64 ((wrap64 ((wrap64 ((wrap64 ((wrap64 (rd s0_0 (ji14))) * 131)) + (wrap64 ((wrap64 (rd s0_0 (ji17))) * 1117)))) + (wrap64 ((wrap64 ((wrap64 (s0_1 + 1)) - 1)) * 29)))) + (wrap64 ((wrap64 (Int.tdiv (wrap64 ((wrap64 (s0_1 + 1)) - 1)) (s0_0.length : Int))) * 53)))) 64))) a1, (wrap64 (s0_1 + 1))))) else (none)) else (none)) = some (r1, r2) := by first | (rw [hji17] at H; exact H) | (simp only [hji17] at H ⊢; exact H)
        by_cases c18 : 0 ≤ (ji17)
        ·
         rw [if_pos c18] at H; have c18b0 : decide (0 ≤ (ji17)) = true := decide_eq_true c18; clear c18
         by_cases c19 : (ji17) < (s0_0.length : Int)
         ·
          rw [if_pos c19] at H; have c19b0 : decide ((ji17) < (s0_0.length : Int)) = true := decide_eq_true c19; clear c19
          by_cases c20 : a1 = 0
          ·
           rw [if_pos c20] at H
           exact absurd H (by simp)
          ·
           rw [if_neg c20] at H; have c20b0 : (a1 == 0) = false := beq_eq_false_iff_ne.mpr c20; have c20b1 : (a1 != 0) = true := bne_iff_ne.mpr c20; simp only [Option.some.injEq, Prod.mk.injEq] at H; obtain ⟨rfl, rfl⟩ := H; obtain ⟨ASz21_0, cSz21_0, HGz21, hgz21, HSz21_0⟩ := HI0.out; have hcz21_0 := cellS73_0 HGz21; have hcz21_1 := cellS73_1 HGz21; have hfz21_1 := blk_frozen HGz21 1; clear HGz21 hgz21; have p262 : 0 ≤ ((ji14) : Int) := oA; have q262 : (ji14) < (s0_0.length : Int) := oA; obtain ⟨ad262, e262, hx262_0⟩ := Kd.at_int HSz21_0 (ji14) p262 q262
           cases e262
           replace hx262_0 := pw_cell_below HB.out hx262_0; replace p262 := eq_true p262; replace q262 := eq_true q262; have p263 : 0 ≤ ((ji17) : Int) := oA; have q263 : (ji17) < (s0_0.length : Int) := oA; obtain ⟨ad263, e263, hx263_0⟩ := Kd.at_int HSz21_0 (ji17) p263 q263; obtain rfl : ad262 = ad263 := (by injection e263); replace hx263_0 := pw_cell_below HB.out hx263_0; replace p263 := eq_true p263; replace q263 := eq_true q263
           go_wp2
           repeat (go_quiet (fail); try go_wp2)
           go_ret
           exact ⟨by first | rfl | (simp [errW_none, errW_some] <;> rfl) | (simp only [← hji14, ← hji17]; first | rfl | (simp [errW_none, errW_some] <;> rfl)) | (simp [*, errW_none, errW_some] <;> rfl), by repeat (first | (with_reducible first | exact HI0.out | apply IsS73.alloc | apply IsS73.drewN | apply IsS73.drew | apply IsS73.set_1) | exact HI0.out), by repeat (first | (with_reducible first | exact HB.out | apply below_alloc | apply pw_below_drewN | apply below_drew1 | refine below_set ?_ (IsS73.ge HI0.out)) | exact HB.out), by repeat (first | (with_reducible first | exact HK.out | apply KeepBut.set_ | apply keep_drewN | apply keep_drew | apply keep_alloc) | exact HK.out)⟩
         ·
          rw [if_neg c19] at H
          exact absurd H (by simp)
        ·
         rw [if_neg c18] at H
         exact absurd H (by simp)
       ·
        rw [if_neg c16] at H
        exact absurd H (by simp)
      ·
       rw [if_neg c15] at H
       exact absurd H (by simp)
def spec_l91Perm.l0 : Nat → Int → List Int → Int → List Int → Int → Option (List Int × Int)
 | 0, _, _, _, _, _ => none
 | k + 1, x1, x5, x6, x1000, x1001 => if x6 < x1 then ((spec_l6Rd_pick.f k x1000 x1001 (wrap64 (x6 + 1))).bind fun bt267 => (if bt267.1 = x6 then (if x5.length < 17592186044416 then (spec_l91Perm.l0 k x1 (x5 ++ [x6]) (wrap64 (x6 + 1)) x1000 bt267.2) else (none)) else (if 0 ≤ bt267.1 then (if bt267.1 < (x5.length : Int) then (if x5.length < 17592186044416 then ((some (x5 ++ [rd x5 bt267.1] : List Int)).bind fun y273 => (if bt267.1 < (y273.length : Int) then (spec_l91Perm.l0 k x1 (y273.set (bt267.1 : Int).toNat x6) (wrap64 (x6 + 1)) x1000 bt267.2) else (none))) else (none)) else (none)) else (none)))) else (some (x5, x1001))
def spec_l91Perm.f (k : Nat) (s0_0 : List Int) (s0_1 : Int) (a1 : Int) : Option (List Int × Int) := spec_l91Perm.l0 k a1 (([] : List Int)) 0 s0_0 s0_1
set_option maxHeartbeats 8000000 in
set_option maxRecDepth 100000 in
theorem spec_l91Perm.calls (k : Nat) (g : Nat) (s0_0 : List Int) (s0_1 : Int) (a1 : Int) (r1 : List Int) (r2 : Int) (w0 w : World) (hI : IsS73 w0 w g s0_0 s0_1) (hB : Below w0.heap.size w0 w) (h : spec_l91Perm.f k s0_0 s0_1 a1 = some (r1, r2)) :
  Calls Try.prog 105 #[.pointer (some ⟨g, 0, none⟩), .int .i64 a1] w fun e w' => ∃ v0_ : Value, e = .returned (v0_) ∧ Kd.R (Kd.int .i64) 3 w' w.heap.size (fun _ => True) v0_ r1 ∧ IsS73 w0 w' g s0_0 r2 ∧ Below w0.heap.size w0 w' ∧ KeepBut w w' g none := by
 have HI0 := Az hI; have HK := Az (KeepBut.refl w g none); have HL := Az hB.size; clear hI; have HW0 := Az hB.size; have HB := Az hB; clear hB; have H : (spec_l91Perm.l0 k a1 (([] : List Int)) 0 s0_0 s0_1) = some (r1, r2) := h; clear h; obtain ⟨y264, hy264⟩ : ∃ y_ : List Int, y_ = (([] : List Int)) := ⟨_, rfl⟩; replace H : (spec_l91Perm.l0 k a1 y264 0 s0_0 s0_1) = some (r1, r2) := hR hy264 H; have Ny264 := Az hy264; clear hy264; have H' := Az H; clear H
 go_enter Try.func105, Try.ntmps105
 go_wp2_with (first | ((with_reducible refine gate_dst (N := 8) rfl ?_); refine Kd.R_lit (Kd.int .i64) _ 3 ?hg (N := 8) ?hd (xs := ([] : List Int)) (inner := []) (ok := fun _ => True) (okp := fun _ => True) ?hr ?hp (fun _ hk => hk) trivial (Below.refl _ _) (Nat.le_refl _) (by simp) ?_; (case hd => rfl); (case hg => rfl); (case hr => first | (go_simp; done) | (go_simp; rfl)); (case hp => exact (Reps.none _ _)); intro v265 w3 ho4 hb hg_ hnew_; clear hg_ hnew_; (first | rw [← Ny264.out] at ho4 | (simp only [Int.reduceToNat] at ho4; rw [← Ny264.out] at ho4)); have n0 := Az (Kd.R_lower ho4 (keep_size (w := w) (g := g) (row := none) (by repeat (first | (with_reducible first | exact HK.out | apply KeepBut.set_ | apply keep_drewN | apply keep_drew | apply keep_alloc) | exact HK.out)))); have n1 := Az (IsS73.below (by repeat (first | (with_reducible first | exact HI0.out | apply IsS73.alloc | apply IsS73.drewN | apply IsS73.drew | apply IsS73.set_1) | exact HI0.out)) hb); have n2 := Az (KeepBut.trans (by repeat (first | (with_reducible first | exact HK.out | apply KeepBut.set_ | apply keep_drewN | apply keep_drew | apply keep_alloc) | exact HK.out)) (KeepBut.of_below hb g none) (.inl rfl)); have n3 := Az (below_step (by repeat (first | (with_reducible first | exact HB.out | apply below_alloc | apply pw_below_drewN | apply below_drew1 | refine below_set ?_ (IsS73.ge HI0.out)) | exact HB.out)) hb); clear HI0 HK HB; have HO266 := n0; have HI0 := n1; have HK := n2; have HB := n3; clear n0 n1 n2 n3; clear hb ho4))
 go_loopg [5, 6] k (fun kq v5 v6 w' => ∃ (x5_1 : List Int) (x6_1 : Int) (x1001_1 : Int), v6 = .int .i64 x6_1 ∧ Aside0 (spec_l91Perm.l0 kq a1 x5_1 x6_1 s0_0 x1001_1 = some (r1, r2)) ∧ Aside0 (kq ≤ k) ∧ Aside0 (Kd.R (Kd.int .i64) 3 w' w.heap.size (fun _ => True) v5 x5_1) ∧ Aside0 (IsS73 w0 w' g s0_0 x1001_1) ∧ Aside0 (KeepBut w w' g none) ∧ Aside0 (Below w0.heap.size w0 w'))
 case atStart => exact ⟨(y264), (0), (s0_1), rS, H', ⟨Nat.le_refl _⟩, ⟨rU HO266.out⟩, ⟨by repeat (first | (with_reducible first | exact HI0.out | apply IsS73.alloc | apply IsS73.drewN | apply IsS73.drew | apply IsS73.set_1) | exact HI0.out)⟩, ⟨by repeat (first | (with_reducible first | exact HK.out | apply KeepBut.set_ | apply keep_drewN | apply keep_drew | apply keep_alloc) | exact HK.out)⟩, ⟨by repeat (first | (with_reducible first | exact HB.out | apply below_alloc | apply pw_below_drewN | apply below_drew1 | refine below_set ?_ (IsS73.ge HI0.out)) | exact HB.out)⟩⟩
 case round =>
  clear H'; (try clear c1); (try clear p2); obtain ⟨x5_1, x6_1, x1001_1, rfl, HA, HK1, HO_5, HI0, HK, HB⟩ := hrel
  cases gk with
  | zero => exact absurd HA.out (by simp [spec_l91Perm.l0])
  | succ k1 =>
   have H := HA.out; clear HA; simp only [spec_l91Perm.l0] at H
   by_cases c5 : x6_1 < a1
   ·
    rw [if_pos c5] at H; have c5b0 : decide (x6_1 < a1) = true := decide_eq_true c5; clear c5; replace H := Option.bind_eq_some_iff.mp H; obtain ⟨⟨t267, t268⟩, A60, H⟩ := H; replace H : (if t267 = x6_1 then (if x5_1.length < 17592186044416 then (spec_l91Perm.l0 k1 a1 (x5_1 ++ [x6_1]) (wrap64 (x6_1 + 1)) s0_0 t268) else (none)) else (if 0 ≤ t267 then (if t267 < (x5_1.length : Int) then (if x5_1.length < 17592186044416 then ((some (x5_1 ++ [rd x5_1 t267] : List Int)).bind fun y273 => (if t267 < (y273.length : Int) then (spec_l91Perm.l0 k1 a1 (y273.set (t267 : Int).toNat x6_1) (wrap64 (x6_1 + 1)) s0_0 t268) else (none))) else (none)) else (none)) else (none))) = some (r1, r2) := H; have A6 := Az A60; clear A60
    by_cases c7 : t267 = x6_1
    ·
     rw [if_pos c7] at H; have c7b0 : (t267 == x6_1) = true := beq_iff_eq.mpr c7; have c7b1 : (t267 != x6_1) = false := bne_eq_false_iff_eq.mpr c7; clear c7
     by_cases c8 : x5_1.length < 17592186044416
     ·
      rw [if_pos c8] at H; have LMc8 := Az c8; clear c8; obtain ⟨y269, hy269⟩ : ∃ y_ : List Int, y_ = (x5_1 ++ [x6_1]) := ⟨_, rfl⟩; replace H : (spec_l91Perm.l0 k1 a1 y269 (wrap64 (x6_1 + 1)) s0_0 t268) = some (r1, r2) := hR hy269 H; have Ny269 := Az hy269; clear hy269; have H' := Az H; clear H
      go_wp2_with (first | ((with_reducible refine gate_callee (f := 71) rfl ?_); refine goesL_ (some 17) rfl rfl Try.func71 (by kernel_rfl) rfl #[.pointer (some ⟨g, 0, none⟩), .int .i64 (wrap64 (x6_1 + 1))] rfl (by (try simp only [List.map_toArray, List.map_cons, List.map_nil]); first | done | rfl | (simp only [List.length_drop, List.length_take]; rfl)) ?_; (with_reducible refine (spec_l6Rd_pick.calls k1 g s0_0 x1001_1 (wrap64 (x6_1 + 1)) t267 t268 w0 _ ?side1 ?side2 A6.out).mono ?_); (case side1 => repeat (first | (with_reducible first | exact HI0.out | apply IsS73.alloc | apply IsS73.drewN | apply IsS73.drew | apply IsS73.set_1) | exact HI0.out)); (case side2 => repeat (first | (with_reducible first | exact HB.out | apply below_alloc | apply pw_below_drewN | apply below_drew1 | refine below_set ?_ (IsS73.ge HI0.out)) | exact HB.out)); rintro e w9 ⟨rfl, hi, hb, hk⟩; refine ⟨_, rfl, ?_⟩; have n0 := Az (Kd.R_mono (Kd.R_keep (IsS73.apart (show IsS73 w0 _ g s0_0 x1001_1 from by repeat (first | (with_reducible first | exact HI0.out | apply IsS73.alloc | apply IsS73.drewN | apply IsS73.drew | apply IsS73.set_1) | exact HI0.out)) (rU HO_5.out) (by decide)) hk (fun _ h => h.2)) (fun _ h => h.1)); have n1 := Az (KeepBut.trans (by repeat (first | (with_reducible first | exact HK.out | apply KeepBut.set_ | apply keep_drewN | apply keep_drew | apply keep_alloc) | exact HK.out)) hk (.inl rfl)); have n2 := Az (hb); have n3 := Az (hi); clear HO_5 HK HB HI0; have HO_5 := n0; have HK := n1; have HB := n2; have HI0 := n3; clear n0 n1 n2 n3; (try clear hb); (try clear hb2); (try clear hk); (try clear hi)) | ((with_reducible refine gate_builtin (b := .append) (xs := #[.tmp 21, .tmp 23]) rfl ?_); at_builtin; refine Kd.R_append (Kd.int .i64) w.heap.size rfl (.tmp 21) (.tmp 23) 23 3 (.int .i64 0) 8 rfl Try.underlying23 info3 rfl (by decide) (by omega) u5 x5_1 x6_1 [.int .i64 x6_1] (fun _ => True) (fun _ => False) rfl rfl ?aP (fun _ hk => hk.elim) ?aF ?aO (Below.refl _ _) ?aS ?aL ?_; (case aP => exact rfl); (case aF => exact (fun _ _ => trivial)); (case aO => exact (rU HO_5.out)); (case aS => exact (keep_size (w := w) (g := g) (row := none) (by repeat (first | (with_reducible first | exact HK.out | apply KeepBut.set_ | apply keep_drewN | apply keep_drew | apply keep_alloc) | exact HK.out)))); (case aL => have := LMc8.out; omega); intro v270 w10 ho hb hg hat; rw [← Ny269.out] at ho; have n0 := Az (IsS73.grown (by repeat (first | (with_reducible first | exact HI0.out | apply IsS73.alloc | apply IsS73.drewN | apply IsS73.drew | apply IsS73.set_1) | exact HI0.out)) hg (IsS73.own_ne HI0.out HO_5.out (by decide))); have n1 := Az (below_weaken (by repeat (first | (with_reducible first | exact HB.out | apply below_alloc | apply pw_below_drewN | apply below_drew1 | refine below_set ?_ (IsS73.ge HI0.out)) | exact HB.out)) HL.out hb); have n2 := Az (KeepBut.trans (by repeat (first | (with_reducible first | exact HK.out | apply KeepBut.set_ | apply keep_drewN | apply keep_drew | apply keep_alloc) | exact HK.out)) (KeepBut.of_grown hg g) (Kd.R_base2 HO_5.out)); have n3 := Az (ho); clear HI0 HB HK HO_5; have HI0 := n0; have HB := n1; have HK := n2; have HO271 := n3; clear n0 n1 n2 n3; clear ho hb hg hat))
      (first | go_roundg k1 | (refine Handed.intro k1 ?measure ?_; rotate_left; go_step; (try simp only [add_plain]); (repeat apply Exists.intro); refine ⟨?rel, rfl⟩))
      case measure => have := HK1.out; omega
      case rel => exact ⟨(y269), (wrap64 (x6_1 + 1)), (t268), rS, H', ⟨by have := HK1.out; omega⟩, ⟨rU HO271.out⟩, ⟨by repeat (first | (with_reducible first | exact HI0.out | apply IsS73.alloc | apply IsS73.drewN | apply IsS73.drew | apply IsS73.set_1) | exact HI0.out)⟩, ⟨by repeat (first | (with_reducible first | exact HK.out | apply KeepBut.set_ | apply keep_drewN | apply keep_drew | apply keep_alloc) | exact HK.out)⟩, ⟨by repeat (first | (with_reducible first | exact HB.out | apply below_alloc | apply pw_below_drewN | apply below_drew1 | refine below_set ?_ (IsS73.ge HI0.out)) | exact HB.out)⟩⟩
     ·
      rw [if_neg c8] at H
      exact absurd H (by simp)
    ·
     rw [if_neg c7] at H; have c7b0 : (t267 == x6_1) = false := beq_eq_false_iff_ne.mpr c7; have c7b1 : (t267 != x6_1) = true := bne_iff_ne.mpr c7
     by_cases c11 : 0 ≤ t267
     ·
      rw [if_pos c11] at H; have c11b0 : decide (0 ≤ t267) = true := decide_eq_true c11; clear c11
      by_cases c12 : t267 < (x5_1.length : Int)
      ·
       rw [if_pos c12] at H; have c12b0 : decide (t267 < (x5_1.length : Int)) = true := decide_eq_true c12; clear c12
       by_cases c13 : x5_1.length < 17592186044416
       ·
        rw [if_pos c13] at H; have LMc13 := Az c13; clear c13; obtain ⟨y273, hy273⟩ : ∃ y_ : List Int, y_ = (x5_1 ++ [rd x5_1 t267]) := ⟨_, rfl⟩; replace H : (if t267 < (y273.length : Int) then (spec_l91Perm.l0 k1 a1 (y273.set (t267 : Int).toNat x6_1) (wrap64 (x6_1 + 1)) s0_0 t268) else (none)) = some (r1, r2) := hR hy273 H; have Ny273 := Az hy273; clear hy273
        by_cases c14 : t267 < (y273.length : Int)
        ·
         rw [if_pos c14] at H; have c14b0 : decide (t267 < (y273.length : Int)) = true := decide_eq_true c14; clear c14; obtain ⟨y276, hy276⟩ : ∃ y_ : List Int, y_ = (y273.set (t267 : Int).toNat x6_1) := ⟨_, rfl⟩; replace H : (spec_l91Perm.l0 k1 a1 y276 (wrap64 (x6_1 + 1)) s0_0 t268) = some (r1, r2) := hR hy276 H; have Ny276 := Az hy276; clear hy276; have H' := Az H; clear H
         go_wp2_with (first | ((with_reducible refine gate_callee (f := 71) rfl ?_); refine goesL_ (some 17) rfl rfl Try.func71 (by kernel_rfl) rfl #[.pointer (some ⟨g, 0, none⟩), .int .i64 (wrap64 (x6_1 + 1))] rfl (by (try simp only [List.map_toArray, List.map_cons, List.map_nil]); first | done | rfl | (simp only [List.length_drop, List.length_take]; rfl)) ?_; (with_reducible refine (spec_l6Rd_pick.calls k1 g s0_0 x1001_1 (wrap64 (x6_1 + 1)) t267 t268 w0 _ ?side1 ?side2 A6.out).mono ?_); (case side1 => repeat (first | (with_reducible first | exact HI0.out | apply IsS73.alloc | apply IsS73.drewN | apply IsS73.drew | apply IsS73.set_1) | exact HI0.out)); (case side2 => repeat (first | (with_reducible first | exact HB.out | apply below_alloc | apply pw_below_drewN | apply below_drew1 | refine below_set ?_ (IsS73.ge HI0.out)) | exact HB.out)); rintro e w16 ⟨rfl, hi, hb, hk⟩; refine ⟨_, rfl, ?_⟩; have n0 := Az (Kd.R_mono (Kd.R_keep (IsS73.apart (show IsS73 w0 _ g s0_0 x1001_1 from by repeat (first | (with_reducible first | exact HI0.out | apply IsS73.alloc | apply IsS73.drewN | apply IsS73.drew | apply IsS73.set_1) | exact HI0.out)) (rU HO_5.out) (by decide)) hk (fun _ h => h.2)) (fun _ h => h.1)); have n1 := Az (KeepBut.trans (by repeat (first | (with_reducible first | exact HK.out | apply KeepBut.set_ | apply keep_drewN | apply keep_drew | apply keep_alloc) | exact HK.out)) hk (.inl rfl)); have n2 := Az (hb); have n3 := Az (hi); clear HO_5 HK HB HI0; have HO_5 := n0; have HK := n1; have HB := n2; have HI0 := n3; clear n0 n1 n2 n3; (try clear hb); (try clear hb2); (try clear hk); (try clear hi); obtain ⟨Ao17, co17, eo17⟩ := Kd.R_slice HO_5.out; subst eo17; have p272 : 0 ≤ (t267 : Int) := oA; have q272 : t267 < (x5_1.length : Int) := oA; obtain ⟨ad272, e272, hx272_0⟩ := Kd.at_int (Kd.R_reads' HO_5.out).2.2 t267 p272 q272; cases e272; replace p272 := eq_true p272; replace q272 := eq_true q272) | ((with_reducible refine gate_builtin (b := .append) (xs := #[.tmp 25, .tmp 30]) rfl ?_); at_builtin; refine Kd.R_append (Kd.int .i64) w.heap.size rfl (.tmp 25) (.tmp 30) 23 3 (.int .i64 0) 8 rfl Try.underlying23 info3 rfl (by decide) (by omega) (.slice (some ad272) x5_1.length co17) x5_1 (rd x5_1 t267) [.int .i64 (rd x5_1 t267)] (fun _ => True) (fun _ => False) rfl rfl ?aP (fun _ hk => hk.elim) ?aF ?aO (Below.refl _ _) ?aS ?aL ?_; (case aP => exact rfl); (case aF => exact (fun _ _ => trivial)); (case aO => exact (rU HO_5.out)); (case aS => exact (keep_size (w := w) (g := g) (row := none) (by repeat (first | (with_reducible first | exact HK.out | apply KeepBut.set_ | apply keep_drewN | apply keep_drew | apply keep_alloc) | exact HK.out)))); (case aL => have := LMc13.out; omega); intro v274 w18 ho hb hg hat; rw [← Ny273.out] at ho; have n0 := Az (IsS73.grown (by repeat (first | (with_reducible first | exact HI0.out | apply IsS73.alloc | apply IsS73.drewN | apply IsS73.drew | apply IsS73.set_1) | exact HI0.out)) hg (IsS73.own_ne HI0.out HO_5.out (by decide))); have n1 := Az (below_weaken (by repeat (first | (with_reducible first | exact HB.out | apply below_alloc | apply pw_below_drewN | apply below_drew1 | refine below_set ?_ (IsS73.ge HI0.out)) | exact HB.out)) HL.out hb); have n2 := Az (KeepBut.trans (by repeat (first | (with_reducible first | exact HK.out | apply KeepBut.set_ | apply keep_drewN | apply keep_drew | apply keep_alloc) | exact HK.out)) (KeepBut.of_grown hg g) (Kd.R_base2 HO_5.out)); have n3 := Az (ho); clear HI0 HB HK HO_5; have HI0 := n0; have HB := n1; have HK := n2; have HO275 := n3; clear n0 n1 n2 n3 ho hb hg hat; have p15 : 0 ≤ (t267 : Int) := oA; have q15 : (t267 : Int) < ((y273.length : Int) : Int) := oA; obtain ⟨go15, co15, eo15, gb15, gl15, cl15, HG15⟩ := Kd.R_form HO275.out (by omega); (first | cases eo15 | (injection eo15 with ea_ en_ ec_; (first | subst ea_ | (injection ea_ with ea_; subst ea_)); subst ec_; clear en_)); have GB15 := Az gb15; have GG15 := Az HG15; clear gb15 gl15 HG15; obtain ⟨hx15_0, hf15_0⟩ := Kd.R_celln 0 HO275.out (t267 : Int) p15 q15; replace p15 := eq_true p15; replace q15 := eq_true q15; obtain ⟨hy19_, hz19_⟩ := Kd.R_celln 0 HO275.out (t267 : Int) (oA) (oA); have HP19 := Kd.R_putg HO275.out (t267 : Int) x6_1) | ((with_reducible refine gate_store (t := 3) (p := 35) rfl ?_); refine store_event (t := 3) (p := 35) (v := ?vo_w20) (w1 := (w18.setCell ⟨go15, (t267 : Int).toNat, none⟩ (.int .i64 x6_1))) ?hg ?ho ?hn ?hr ?_; (case ho => rfl); (case hg => rfl); (case hn => rfl); (case hr => first | (go_simp; done) | (go_simp; rfl)); intro w20 hw; have hg : w18.grownBy w20 (some go15) := (by rw [hw]; exact HP19.2); have hp_ : Kd.R (Kd.int .i64) 3 w20 w.heap.size (fun _ => True) (.slice (some ⟨go15, 0, none⟩) y273.length co15) y276 := (by rw [hw, Ny276.out]; exact HP19.1); clear HP19; have n0 := Az (IsS73.grown (by repeat (first | (with_reducible first | exact HI0.out | apply IsS73.alloc | apply IsS73.drewN | apply IsS73.drew | apply IsS73.set_1) | exact HI0.out)) hg (IsS73.own_ne HI0.out HO275.out (by decide))); have n1 := Az (hp_); have n2 := Az ((by rw [hw]; exact below_set (HB.out) (Nat.le_trans HL.out GB15.out) : Below w0.heap.size w0 w20)); have n3 := Az (KeepBut.trans (by repeat (first | (with_reducible first | exact HK.out | apply KeepBut.set_ | apply keep_drewN | apply keep_drew | apply keep_alloc) | exact HK.out)) (KeepBut.of_grown hg g) (Kd.R_base2 HO275.out)); clear HI0 HO275 HB HK; have HI0 := n0; have HO275 := n1; have HB := n2; have HK := n3; clear n0 n1 n2 n3; clear hg hw hp_))
         (first | go_roundg k1 | (refine Handed.intro k1 ?measure ?_; rotate_left; go_step; (try simp only [add_plain]); (repeat apply Exists.intro); refine ⟨?rel, rfl⟩))
         case measure => have := HK1.out; omega
         case rel => exact ⟨(y276), (wrap64 (x6_1 + 1)), (t268), rS, H', ⟨by have := HK1.out; omega⟩, ⟨rU HO275.out⟩, ⟨by repeat (first | (with_reducible first | exact HI0.out | apply IsS73.alloc | apply IsS73.drewN | apply IsS73.drew | apply IsS73.set_1) | exact HI0.out)⟩, ⟨by repeat (first | (with_reducible first | exact HK.out | apply KeepBut.set_ | apply keep_drewN | apply keep_drew | apply keep_alloc) | exact HK.out)⟩, ⟨by repeat (first | (with_reducible first | exact HB.out | apply below_alloc | apply pw_below_drewN | apply below_drew1 | refine below_set ?_ (IsS73.ge HI0.out)) | exact HB.out)⟩⟩
        ·
         rw [if_neg c14] at H
         exact absurd H (by simp)
       ·
        rw [if_neg c13] at H
        exact absurd H (by simp)
      ·
       rw [if_neg c12] at H
       exact absurd H (by simp)
     ·
      rw [if_neg c11] at H
      exact absurd H (by simp)
   ·
    rw [if_neg c5] at H; have c5b0 : decide (x6_1 < a1) = false := decide_eq_false c5; clear c5; simp only [Option.some.injEq, Prod.mk.injEq] at H; obtain ⟨rfl, rfl⟩ := H
    go_wp2
    go_ret
    exact ⟨_, rE, rU HO_5.out, by repeat (first | (with_reducible first | exact HI0.out | apply IsS73.alloc | apply IsS73.drewN | apply IsS73.drew | apply IsS73.set_1) | exact HI0.out), by repeat (first | (with_reducible first | exact HB.out | apply below_alloc | apply pw_below_drewN | apply below_drew1 | refine below_set ?_ (IsS73.ge HI0.out)) | exact HB.out), by repeat (first | (with_reducible first | exact HK.out | apply KeepBut.set_ | apply keep_drewN | apply keep_drew | apply keep_alloc) | exact HK.out)⟩
end Go.Proofs.Ytjgknblneokhlaa.PB
