/- For every code: of the map and the edge that the statement draws, EdgeKind of the program answers what the reference answers; the mirror's edge is of the same kind; an edge is a bridge just where two parts are left without it; and on the sphere bridges are the dual's loops, loops the dual's bridges. There are no conditions. -/
import Derived.Test.YtjgknblneokhlaaKFnKindOwnx1
namespace Go.Proofs.Ytjgknblneokhlaa.PF
open Go.RowKit Go.Proofs.YtjgknblneokhlaaW.PrintWords Go.Proofs.YtjgknblneokhlaaW.PrintLast Go.Proofs.YtjgknblneokhlaaW.PrintMore
attribute [local go_sem] max2_int min2_int max_two min_two max_three min_three max_four min_four   -- for this text's walks alone
set_option linter.unusedVariables false
set_option linter.unusedSimpArgs false
mutual
def impl_ribbon.l0 : Nat → List Int → Int → List Int → List Int → Int → Int → List Int → List Int → List Bool → Option (List Int)
 | 0, _, _, _, _, _, _, _, _, _ => none
 | k + 1, x1, x5, x7, x30, x31, x32, xZ0, xZ1, xZ2 => if x32 < x31 then (if 0 ≤ x32 then (if x32 < (x30.length : Int) then ((impl_edgesOf.f k xZ0 xZ1).bind fun t203 => (if 0 ≤ (rd x30 x32) then (if (rd x30 x32) < (t203.length : Int) then (if 0 ≤ (rd t203 (rd x30 x32)) then (if (rd t203 (rd x30 x32)) < (xZ1.length : Int) then (if (rd t203 (rd x30 x32)) < (xZ2.length : Int) then (if 0 ≤ (rd xZ1 (rd t203 (rd x30 x32))) then (if (rd xZ1 (rd t203 (rd x30 x32))) < (xZ2.length : Int) then (if (rd t203 (rd x30 x32)) < (x7.length : Int) then (if (rd xZ1 (rd t203 (rd x30 x32))) < (x7.length : Int) then (impl_ribbon.l0 k x1 x5 ((x7.set ((rd t203 (rd x30 x32)) : Int).toNat (rd xZ1 (rd t203 (rd x30 x32)))).set ((rd xZ1 (rd t203 (rd x30 x32))) : Int).toNat (rd t203 (rd x30 x32))) x30 x31 (wrap64 (x32 + 1)) xZ0 xZ1 ((xZ2.set ((rd t203 (rd x30 x32)) : Int).toNat true).set ((rd xZ1 (rd t203 (rd x30 x32))) : Int).toNat true)) else (none)) else (none)) else (none)) else (none)) else (none)) else (none)) else (none)) else (none)) else (none))) else (none)) else (none)) else ((impl_orbits.f k (([xZ0, x7] : List (List Int)))).bind fun t215 => (impl_ribbon.l1 k x1 x5 x7 0 t215 (t215.length : Int) 0 xZ0 xZ1 xZ2))
def impl_ribbon.l1 : Nat → List Int → Int → List Int → Int → List Int → Int → Int → List Int → List Int → List Bool → Option (List Int)
 | 0, _, _, _, _, _, _, _, _, _, _ => none
 | k + 1, x1, x5, x7, x12, x65, x66, x67, xZ0, xZ1, xZ2 => if x67 < x66 then (if 0 ≤ x67 then (if x67 < (x65.length : Int) then (if x67 = (rd x65 x67) then (impl_ribbon.l1 k x1 x5 x7 (wrap64 (x12 + 1)) x65 x66 (wrap64 (x67 + 1)) xZ0 xZ1 xZ2) else (impl_ribbon.l1 k x1 x5 x7 x12 x65 x66 (wrap64 (x67 + 1)) xZ0 xZ1 xZ2)) else (none)) else (none)) else ((impl_cyclesOf.f k xZ0).bind fun t219 => (impl_ribbon.l2 k x1 x5 x7 x12 0 t219 (t219.length : Int) 0 xZ0 xZ1 xZ2))
def impl_ribbon.l2 : Nat → List Int → Int → List Int → Int → Int → List (List Int) → Int → Int → List Int → List Int → List Bool → Option (List Int)
 | 0, _, _, _, _, _, _, _, _, _, _, _ => none
 | k + 1, x1, x5, x7, x12, x15, x80, x81, x82, xZ0, xZ1, xZ2 => if x82 < x81 then (if 0 ≤ x82 then (if x82 < (x80.length : Int) then ((containsF.f k (rd_L1 x80 x82) xZ2).bind fun t223 => (if t223 = true then (impl_ribbon.l2 k x1 x5 x7 x12 x15 x80 x81 (wrap64 (x82 + 1)) xZ0 xZ1 xZ2) else (impl_ribbon.l2 k x1 x5 x7 x12 (wrap64 (x15 + 1)) x80 x81 (wrap64 (x82 + 1)) xZ0 xZ1 xZ2))) else (none)) else (none)) else (if 0 ≤ x5 then (if (x5 : Int).toNat ≤ 281474976710656 then (impl_ribbon.l3 k x1 x7 x12 x15 (List.replicate (x5 : Int).toNat false) x5 0 xZ0 xZ1 xZ2) else (none)) else (none))
def impl_ribbon.l3 : Nat → List Int → List Int → Int → Int → List Bool → Int → Int → List Int → List Int → List Bool → Option (List Int)
 | 0, _, _, _, _, _, _, _, _, _, _ => none
 | k + 1, x1, x7, x12, x15, x18, x95, x96, xZ0, xZ1, xZ2 => if x96 < x95 then (if 0 ≤ x96 then (if x96 < (xZ2.length : Int) then (if rdOf false xZ2 x96 = true then (if x96 < (x18.length : Int) then (impl_ribbon.j4 k x1 x7 x12 x15 x18 x96 x95 x96 (rdOf false x18 x96) xZ0 xZ1 xZ2) else (none)) else (impl_ribbon.j4 k x1 x7 x12 x15 x18 x96 x95 x96 true xZ0 xZ1 xZ2)) else (none)) else (none)) else ((impl_cyclesOf.f k xZ0).bind fun t227 => (some (([x12, x15, wrap64 ((t227.length : Int) - x12), wrap64 ((x1.length : Int) - (wrap64 ((t227.length : Int) - x12))), wrap64 (Int.tdiv (wrap64 ((wrap64 ((wrap64 ((wrap64 (2 * x12)) - (t227.length : Int))) + (x1.length : Int))) - x15)) 2)] : List Int))))
def impl_ribbon.j4 : Nat → List Int → List Int → Int → Int → List Bool → Int → Int → Int → Bool → List Int → List Int → List Bool → Option (List Int)
 | 0, _, _, _, _, _, _, _, _, _, _, _, _ => none
 | k + 1, x1, x7, x12, x15, x18, x19, x95, x96, x109, xZ0, xZ1, xZ2 => if x109 = true then (impl_ribbon.l3 k x1 x7 x12 x15 x18 x95 (wrap64 (x96 + 1)) xZ0 xZ1 xZ2) else (impl_ribbon.l4 k x1 x7 x12 (wrap64 (x15 + 1)) x18 x19 x95 x96 xZ0 xZ1 xZ2)
def impl_ribbon.l4 : Nat → List Int → List Int → Int → Int → List Bool → Int → Int → Int → List Int → List Int → List Bool → Option (List Int)
 | 0, _, _, _, _, _, _, _, _, _, _, _ => none
 | k + 1, x1, x7, x12, x15, x18, x20, x95, x96, xZ0, xZ1, xZ2 => if 0 ≤ x20 then (if x20 < (x18.length : Int) then (if rdOf false x18 x20 = true then (impl_ribbon.l3 k x1 x7 x12 x15 x18 x95 (wrap64 (x96 + 1)) xZ0 xZ1 xZ2) else (if x20 < (x7.length : Int) then (if 0 ≤ (rd x7 x20) then (if (rd x7 x20) < (xZ0.length : Int) then (impl_ribbon.l5 k x1 x7 x12 x15 (x18.set (x20 : Int).toNat true) (rd xZ0 (rd x7 x20)) x95 x96 xZ0 xZ1 xZ2) else (none)) else (none)) else (none))) else (none)) else (none)
def impl_ribbon.l5 : Nat → List Int → List Int → Int → Int → List Bool → Int → Int → Int → List Int → List Int → List Bool → Option (List Int)
 | 0, _, _, _, _, _, _, _, _, _, _, _ => none
 | k + 1, x1, x7, x12, x15, x18, x20, x95, x96, xZ0, xZ1, xZ2 => if 0 ≤ x20 then (if x20 < (xZ2.length : Int) then (if rdOf false xZ2 x20 = true then (impl_ribbon.l4 k x1 x7 x12 x15 x18 x20 x95 x96 xZ0 xZ1 xZ2) else (if x20 < (xZ0.length : Int) then (impl_ribbon.l5 k x1 x7 x12 x15 x18 (rd xZ0 x20) x95 x96 xZ0 xZ1 xZ2) else (none))) else (none)) else (none)
end
def impl_ribbon.f (k : Nat) (l0_0 : List Int) (l0_1 : List Int) (l1 : List Int) : Option (List Int) := if 0 ≤ (l0_0.length : Int) then (if ((l0_0.length : Int) : Int).toNat ≤ 281474976710656 then ((impl_still.f k (l0_0.length : Int)).bind fun t199 => (impl_ribbon.l0 k l1 (l0_0.length : Int) t199 l1 (l1.length : Int) 0 l0_0 l0_1 (List.replicate ((l0_0.length : Int) : Int).toNat false))) else (none)) else (none)
def impl_ribbon.T9 : Bool × List (List Nat × List Nat) := (true, [([], []), ([], []), ([], []), ([], []), ([0, 1, 0, 1], [0, 1]), ([4, 0, 1], [4]), ([2, 3, 0, 1, 2, 3, 4, 5], [2, 3]), ([6, 5, 0, 1, 2, 3, 4, 5], [6])])
def impl_ribbon.B9 : List Nat := [0, 0, 0, 0, 3, 19, 63, 127]
theorem impl_ribbon.tab9 : rtab .any (opsOf Try.f65 9) = impl_ribbon.T9 := by kernel_rfl
theorem impl_ribbon.bits9 : waitsOk impl_ribbon.T9.2 impl_ribbon.B9 = true := by kernel_rfl
def impl_ribbon.T35 : Bool × List (List Nat × List Nat) := (true, [([], []), ([0], [0]), ([], []), ([], []), ([2, 3], [2, 3]), ([4], [4]), ([1, 5], [1, 5]), ([6], [6]), ([7, 0, 1, 2, 3, 4, 5, 6, 7], [3, 7])])
def impl_ribbon.B35 : List Nat := [0, 1, 0, 0, 12, 28, 63, 127, 255]
theorem impl_ribbon.tab35 : rtab .any (opsOf Try.f65 35) = impl_ribbon.T35 := by kernel_rfl
theorem impl_ribbon.bits35 : waitsOk impl_ribbon.T35.2 impl_ribbon.B35 = true := by kernel_rfl
set_option maxHeartbeats 8000000 in
set_option maxRecDepth 100000 in
theorem impl_ribbon.calls (k : Nat) (P0_0_ : Nat → Prop) (A0_0 : Option Addr) (c0_0 : Nat) (l0_0 : List Int) (A0_1 : Option Addr) (c0_1 : Nat) (l0_1 : List Int) (A1 : Option Addr) (c1 : Nat) (l1 : List Int) (r : List Int) (w : World) (hs0_0 : Kd.V (Kd.int .i64) 3 w w.heap.size (fun k_ => P0_0_ k_) (.slice A0_0 l0_0.length c0_0) l0_0) (hr0_1 : Kd.C (Kd.int .i64) w A0_1 l0_1.length l0_1) (hc0_1 : l0_1.length ≤ c0_1) (hr1 : Kd.C (Kd.int .i64) w A1 l1.length l1) (hc1 : l1.length ≤ c1) (h : impl_ribbon.f k l0_0 l0_1 l1 = some r) :
  Calls Try.prog 65 #[.agg #[.slice A0_0 l0_0.length c0_0, .slice A0_1 l0_1.length c0_1], .slice A1 l1.length c1] w fun e w' => ∃ v0_ : Value, e = .returned (v0_) ∧ Kd.R (Kd.int .i64) 3 w' w.heap.size (fun k_ => (w.heap.size ≤ k_)) v0_ r ∧ Below w.heap.size w w' := by
 have hu25 := Try.underlying25; have HO0_0 := Az (show Kd.V (Kd.int .i64) 3 w w.heap.size (fun k_ => (P0_0_ k_ ∨ w.heap.size ≤ k_)) (.slice A0_0 l0_0.length c0_0) l0_0 from Kd.V_mono hs0_0 (fun k_ hk => .inl hk)); have HR0_1 := Az hr0_1; have HC0_1 := Az hc0_1; clear hr0_1 hc0_1; have HR1 := Az hr1; have HC1 := Az hc1; clear hr1 hc1; have HB := Az (Below.refl w.heap.size w); have H : (if 0 ≤ (l0_0.length : Int) then (if ((l0_0.length : Int) : Int).toNat ≤ 281474976710656 then ((impl_still.f k (l0_0.length : Int)).bind fun t199 => (impl_ribbon.l0 k l1 (l0_0.length : Int) t199 l1 (l1.length : Int) 0 l0_0 l0_1 (List.replicate ((l0_0.length : Int) : Int).toNat false))) else (none)) else (none)) = some r := h; clear h
 by_cases c3 : 0 ≤ (l0_0.length : Int)
 ·
  rw [if_pos c3] at H; have c3b0 := eq_true c3; have c3b1 := decide_eq_true c3; clear c3
  by_cases c4 : ((l0_0.length : Int) : Int).toNat ≤ 281474976710656
  ·
   rw [if_pos c4] at H; have c4b0 := eq_true c4; have c4b1 := decide_eq_true c4; clear c4; obtain ⟨y195, hy195⟩ : ∃ y_ : List Bool, y_ = (List.replicate ((l0_0.length : Int) : Int).toNat false) := ⟨_, rfl⟩; replace H : ((impl_still.f k (l0_0.length : Int)).bind fun t199 => (impl_ribbon.l0 k l1 (l0_0.length : Int) t199 l1 (l1.length : Int) 0 l0_0 l0_1 y195)) = some r := hR hy195 H; have Ny195 := Az hy195; clear hy195; replace H := Option.bind_eq_some_iff.mp H; obtain ⟨t199, A50, H⟩ := H; replace H : (impl_ribbon.l0 k l1 (l0_0.length : Int) t199 l1 (l1.length : Int) 0 l0_0 l0_1 y195) = some r := H; have A5 := Az A50; clear A50; have H' := Az H; clear H
   go_enter Try.func65, Try.ntmps65
   go_wp2_with (first | ((with_reducible refine gate_dst (N := 2) rfl ?_); refine box_event ?hg (N := 2) ?hd (cs := #[.slice A0_0 l0_0.length c0_0, .slice A0_1 l0_1.length c0_1]) (t := 25) ?hr ?_; (case hd => rfl); (case hg => rfl); (case hr => first | (go_simp; done) | (go_simp; rfl)); intro gb194 hg w6 hbox hb; have n0 := Az (Kd.V_below (Kd.V_elderB (vU HO0_0.out) gb194 (Nat.le_of_eq hg.symm)) hb); have n1 := Az (below_step (bU0 HB.out) hb); have n2 := Az (hbox); have n3 := Az ((by rw [hg]; exact (below_size (bU0 HB.out)) : w.heap.size ≤ gb194)); have n4 := n3; clear HO0_0 HB; have HO0_0 := n0; have HB := n1; have BK194 := n2; have GW194 := n3; have GE194 := n4; clear n0 n1 n2 n3 n4 hb hbox hg; have hcz7_0 : w6.cell? ⟨gb194, 0, none⟩ = some (.slice A0_0 l0_0.length c0_0) := (blk_cell BK194.out 0).trans rfl; have hcz7_1 : w6.cell? ⟨gb194, 1, none⟩ = some (.slice A0_1 l0_1.length c0_1) := (blk_cell BK194.out 1).trans rfl; have hfz7_0 := blk_frozen BK194.out 0; have hfz7_1 := blk_frozen BK194.out 1) | ((with_reducible refine gate_dst (N := 27) rfl ?_); refine Kd.R_make Kd.bool _ 4 rfl (N := 27) rfl 78 _ _ rfl (l0_0.length : Int) rfl rfl Try.underlying78 (.bool false) 1 info4 rfl (by decide) (by omega) false (ok := fun _ => True) (okp := fun _ => True) rfl (fun _ hk => hk) trivial (oA) (Nat.le_trans (Nat.mul_le_mul_right _ (oA : (l0_0.length : Int).toNat ≤ 281474976710656)) (by omega)) (Below.refl _ _) (Nat.le_refl _) ?_; intro v196 w8 ho9 hb hg_ hnew_; clear hg_ hnew_; (first | rw [← Ny195.out] at ho9 | (simp only [Int.reduceToNat] at ho9; rw [← Ny195.out] at ho9)); have n0 := Az (Kd.V_elder' (vU HO0_0.out) (Kd.R_base ho9) hb); have n1 := Az (Kd.R_lower (Kd.R_newM (M := fun k_ => (w.heap.size ≤ k_)) ho9 (below_size (bU1 HB.out GE194.out)) (fun k_ h_ => h_)) (below_size (bU1 HB.out GE194.out))); have n2 := Az (blk_below (g := gb194) (o := .cells #[.slice A0_0 l0_0.length c0_0, .slice A0_1 l0_1.length c0_1] 25 (0, 0)) (kU BK194.out) hb); have n3 := Az (below_step (bU1 HB.out GE194.out) hb); clear HO0_0 BK194 HB; have HO0_0 := n0; have HO197 := n1; have BK194 := n2; have HB := n3; clear n0 n1 n2 n3; clear hb ho9) | ((with_reducible refine gate_dst (N := 6) rfl ?_); refine box_event ?hg (N := 6) ?hd (cs := #[.slice none 0 0]) (t := 78) ?hr ?_; (case hd => rfl); (case hg => rfl); (case hr => first | (go_simp; done) | (go_simp; rfl)); intro gb198 hg w10 hbox hb; have n0 := Az (Kd.V_below (Kd.V_elderB (vU HO0_0.out) gb198 (Nat.le_of_eq hg.symm)) hb); have n1 := Az (Kd.R_below (rU HO197.out) hb); have n2 := Az (blk_below (g := gb194) (o := .cells #[.slice A0_0 l0_0.length c0_0, .slice A0_1 l0_1.length c0_1] 25 (0, 0)) (kU BK194.out) hb); have n3 := Az (below_step (bU1 HB.out GE194.out) hb); have n4 := Az (hbox); have n5 := Az ((by rw [hg]; exact (below_size (bU1 HB.out GE194.out)) : w.heap.size ≤ gb198)); have n6 := n5; have n7 := Az ((by rw [hg]; exact Nat.ne_of_lt (blk_lt (g := gb194) (o := .cells #[.slice A0_0 l0_0.length c0_0, .slice A0_1 l0_1.length c0_1] 25 (0, 0)) (kU BK194.out)) : gb194 ≠ gb198)); have n8 := Az ((by rw [hg]; exact Nat.ne_of_gt (blk_lt (g := gb194) (o := .cells #[.slice A0_0 l0_0.length c0_0, .slice A0_1 l0_1.length c0_1] 25 (0, 0)) (kU BK194.out)) : gb198 ≠ gb194)); clear HO0_0 HO197 BK194 HB; have HO0_0 := n0; have HO197 := n1; have BK194 := n2; have HB := n3; have BK198 := n4; have GW198 := n5; have GE198 := n6; have NB194_198 := n7; have NB198_194 := n8; clear n0 n1 n2 n3 n4 n5 n6 n7 n8 hb hbox hg; obtain ⟨Ao11, co11, eo11⟩ := Kd.R_slice HO197.out; subst eo11; have hnb12 := NB198_194.out; have hnc12 := NB194_198.out; have hcz13_0 : w10.cell? ⟨gb198, 0, none⟩ = some (.slice none 0 0) := (blk_cell BK198.out 0).trans rfl; have hfz13_0 := blk_frozen BK198.out 0) | ((with_reducible refine gate_callee (f := 101) rfl ?_); refine goesL_ (some 29) rfl rfl Try.func101 (by kernel_rfl) rfl #[.int .i64 (l0_0.length : Int)] rfl (by (try simp only [List.map_toArray, List.map_cons, List.map_nil]); first | done | rfl | (simp only [List.length_drop, List.length_take]; rfl)) ?_; (with_reducible refine (impl_still.calls k (l0_0.length : Int) t199 _ A5.out).mono ?_); rintro e w14 ⟨v200, rfl, ho0, hb⟩; refine ⟨_, rfl, ?_⟩; have n0 := Az (Kd.V_elder' (by (with_reducible repeat (first | apply Kd.V_alloc | apply Kd.V_drewN | apply Kd.V_drew)); exact (Kd.V_mono (Kd.V_far (p := ⟨gb198, 0, none⟩) (Kd.V_mono HO0_0.out (fun k_ hk => (⟨hk, hk.2⟩ : _ ∧ k_ ≠ gb198))) (fun _ hk => hk.2) (.slice Ao11 y195.length co11)) (fun _ h_ => h_.1))) (Kd.R_base ho0) hb); have n1 := Az (Kd.R_below (by (with_reducible repeat (first | apply Kd.R_alloc | apply Kd.R_drewN | apply Kd.R_drew)); exact (Kd.R_mono (Kd.R_far (p := ⟨gb198, 0, none⟩) (Kd.R_types HO197.out BK198.out (by decide)) (fun _ hk => hk.2) (.slice Ao11 y195.length co11)) (fun _ h_ => h_.1))) hb); have n2 := Az (Kd.R_lower (Kd.R_newM (M := fun k_ => (w.heap.size ≤ k_)) ho0 (below_size (bU2 HB.out GE194.out GE198.out)) (fun k_ h_ => h_)) (below_size (bU2 HB.out GE194.out GE198.out))); have n3 := Az (blk_below (g := gb194) (o := .cells #[.slice A0_0 l0_0.length c0_0, .slice A0_1 l0_1.length c0_1] 25 (0, 0)) (by (with_reducible repeat (first | refine blk_drewN ?_ _ | refine blk_drew ?_ | refine blk_alloc ?_ _)); refine blk_far ?_ NB194_198.out _; (with_reducible repeat (first | refine blk_drewN ?_ _ | refine blk_drew ?_ | refine blk_alloc ?_ _)); exact BK194.out) hb); have n4 := Az (blk_below (g := gb198) (o := .cells #[.slice Ao11 y195.length co11] 78 (0, 0)) (by (with_reducible repeat (first | refine blk_drewN ?_ _ | refine blk_drew ?_ | refine blk_alloc ?_ _)); refine blk_put (cs := #[.slice none 0 0]) ?_ 0 _ rfl; (with_reducible repeat (first | refine blk_drewN ?_ _ | refine blk_drew ?_ | refine blk_alloc ?_ _)); exact BK198.out) hb); have n5 := Az (below_step (bU2 HB.out GE194.out GE198.out) hb); clear HO0_0 HO197 BK194 BK198 HB; have HO0_0 := n0; have HO197 := n1; have HO201 := n2; have BK194 := n3; have BK198 := n4; have HB := n5; clear n0 n1 n2 n3 n4 n5; (try clear hb); (try clear hb2); (try clear hk); (try clear hi); (try clear ho0)))
   go_loopg [32] k (fun kq v32 w' => ∃ (x7_1 : List Int) (x32_1 : Int) (xZ2_1 : List Bool) (uZ2 : Value), v32 = .int .i64 x32_1 ∧ Aside0 (impl_ribbon.l0 kq l1 (l0_0.length : Int) x7_1 l1 (l1.length : Int) x32_1 l0_0 l0_1 xZ2_1 = some r) ∧ Aside0 (kq ≤ k) ∧ Aside0 (Kd.R (Kd.int .i64) 3 w' w.heap.size (fun k_ => (w.heap.size ≤ k_)) v200 x7_1) ∧ Aside0 (Kd.V (Kd.int .i64) 3 w' w.heap.size (fun k_ => (P0_0_ k_ ∨ w.heap.size ≤ k_) ∧ some k_ ≠ (v200 : Value).ownBlock ∧ some k_ ≠ (uZ2 : Value).ownBlock ∧ k_ ≠ gb194 ∧ k_ ≠ gb198) (.slice A0_0 l0_0.length c0_0) l0_0) ∧ Aside0 (Kd.R Kd.bool 4 w' w.heap.size (fun k_ => (w.heap.size ≤ k_)) uZ2 xZ2_1) ∧ Aside0 (w'.heap[gb194]? = some (.cells #[(.slice A0_0 l0_0.length c0_0), (.slice A0_1 l0_1.length c0_1)] 25 (0, 0))) ∧ Aside0 (w'.heap[gb198]? = some (.cells #[uZ2] 78 (0, 0))) ∧ Aside0 (Below w.heap.size w w'))
   case atStart => exact ⟨(t199), (0), (y195), (.slice Ao11 y195.length co11), rS, H', ⟨Nat.le_refl _⟩, ⟨by (with_reducible repeat (first | apply Kd.R_alloc | apply Kd.R_drewN | apply Kd.R_drew)); exact Kd.R_mono HO201.out (fun _ hk => hk.1)⟩, ⟨by (with_reducible repeat (first | apply Kd.V_alloc | apply Kd.V_drewN | apply Kd.V_drew)); exact Kd.V_mono HO0_0.out (fun _ hk => ⟨hk.1.1.1.1, ⟨hk.2, ⟨hk.1.1.2, ⟨hk.1.1.1.2, hk.1.2⟩⟩⟩⟩)⟩, ⟨by (with_reducible repeat (first | apply Kd.R_alloc | apply Kd.R_drewN | apply Kd.R_drew)); exact Kd.R_mono HO197.out (fun _ hk => hk.1)⟩, ⟨kU BK194.out⟩, ⟨kU BK198.out⟩, ⟨bU2 HB.out GE194.out GE198.out⟩⟩
   case round =>
    clear H'; (try clear c1); (try clear p2); (try clear c3); (try clear c3b0); (try clear c3b1); (try clear c4); (try clear c4b0); (try clear c4b1); (try clear c6); (try clear c10); (try clear c12); (try clear hcz13_0); (try clear hcz7_0); (try clear hcz7_1); (try clear hfz13_0); (try clear hfz7_0); (try clear hfz7_1); obtain ⟨x7_1, x32_1, xZ2_1, uZ2, rfl, HA, HK1, HO_7, HO_Z0, HO_Z2, BK194, BK198, HB⟩ := hrel
    cases gk with
    | zero => exact absurd HA.out (by simp [impl_ribbon.l0])
    | succ k1 =>
     have H := HA.out; clear HA; simp only [impl_ribbon.l0] at H
     by_cases c15 : x32_1 < (l1.length : Int)
     ·
      rw [if_pos c15] at H; have c15b0 := decide_eq_true c15; clear c15
      by_cases c16 : 0 ≤ x32_1
      ·
       rw [if_pos c16] at H; have c16b0 := decide_eq_true c16; clear c16
       by_cases c17 : x32_1 < (l1.length : Int)
       ·
        rw [if_pos c17] at H; have c17b0 := decide_eq_true c17; clear c17; replace H := Option.bind_eq_some_iff.mp H; obtain ⟨t203, A180, H⟩ := H; replace H : (if 0 ≤ (rd l1 x32_1) then (if (rd l1 x32_1) < (t203.length : Int) then (if 0 ≤ (rd t203 (rd l1 x32_1)) then (if (rd t203 (rd l1 x32_1)) < (l0_1.length : Int) then (if (rd t203 (rd l1 x32_1)) < (xZ2_1.length : Int) then (if 0 ≤ (rd l0_1 (rd t203 (rd l1 x32_1))) then (if (rd l0_1 (rd t203 (rd l1 x32_1))) < (xZ2_1.length : Int) then (if (rd t203 (rd l1 x32_1)) < (x7_1.length : Int) then (if (rd l0_1 (rd t203 (rd l1 x32_1))) < (x7_1.length : Int) then (impl_ribbon.l0 k1 l1 (l0_0.length : Int) ((x7_1.set ((rd t203 (rd l1 x32_1)) : Int).toNat (rd l0_1 (rd t203 (rd l1 x32_1)))).set ((rd l0_1 (rd t203 (rd l1 x32_1))) : Int).toNat (rd t203 (rd l1 x32_1))) l1 (l1.length : Int) (wrap64 (x32_1 + 1)) l0_0 l0_1 ((xZ2_1.set ((rd t203 (rd l1 x32_1)) : Int).toNat true).set ((rd l0_1 (rd t203 (rd l1 x32_1))) : Int).toNat true)) else (none)) else (none)) else (none)) else (none)) else (none)) else (none)) else (none)) else (none)) else (none)) = some r := H; have A18 := Az A180; clear A180
        by_cases c19 : 0 ≤ (rd l1 x32_1)
        ·
         rw [if_pos c19] at H; have c19b0 := decide_eq_true c19; clear c19
         by_cases c20 : (rd l1 x32_1) < (t203.length : Int)
         ·
          rw [if_pos c20] at H; have c20b0 := decide_eq_true c20; clear c20
          by_cases c21 : 0 ≤ (rd t203 (rd l1 x32_1))
          ·
           rw [if_pos c21] at H; have c21b0 := decide_eq_true c21; clear c21
           by_cases c22 : (rd t203 (rd l1 x32_1)) < (l0_1.length : Int)
           ·
            rw [if_pos c22] at H; have c22b0 := decide_eq_true c22; clear c22
            by_cases c23 : (rd t203 (rd l1 x32_1)) < (xZ2_1.length : Int)
            ·
             rw [if_pos c23] at H; have c23b0 := decide_eq_true c23; clear c23; obtain ⟨y208, hy208⟩ : ∃ y_ : List Bool, y_ = (xZ2_1.set ((rd t203 (rd l1 x32_1)) : Int).toNat true) := ⟨_, rfl⟩; replace H : (if 0 ≤ (rd l0_1 (rd t203 (rd l1 x32_1))) then (if (rd l0_1 (rd t203 (rd l1 x32_1))) < (xZ2_1.length : Int) then (if (rd t203 (rd l1 x32_1)) < (x7_1.length : Int) then (if (rd l0_1 (rd t203 (rd l1 x32_1))) < (x7_1.length : Int) then (impl_ribbon.l0 k1 l1 (l0_0.length : Int) ((x7_1.set ((rd t203 (rd l1 x32_1)) : Int).toNat (rd l0_1 (rd t203 (rd l1 x32_1)))).set ((rd l0_1 (rd t203 (rd l1 x32_1))) : Int).toNat (rd t203 (rd l1 x32_1))) l1 (l1.length : Int) (wrap64 (x32_1 + 1)) l0_0 l0_1 (y208.set ((rd l0_1 (rd t203 (rd l1 x32_1))) : Int).toNat true)) else (none)) else (none)) else (none)) else (none)) = some r := hR hy208 H; have Ny208 := Az hy208; clear hy208
             by_cases c25 : 0 ≤ (rd l0_1 (rd t203 (rd l1 x32_1)))
             ·
              rw [if_pos c25] at H; have c25b0 := decide_eq_true c25; clear c25
              by_cases c26 : (rd l0_1 (rd t203 (rd l1 x32_1))) < (xZ2_1.length : Int)
              ·
               rw [if_pos c26] at H; have c26b0 := decide_eq_true c26; clear c26; obtain ⟨y209, hy209⟩ : ∃ y_ : List Bool, y_ = (y208.set ((rd l0_1 (rd t203 (rd l1 x32_1))) : Int).toNat true) := ⟨_, rfl⟩; replace H : (if (rd t203 (rd l1 x32_1)) < (x7_1.length : Int) then (if (rd l0_1 (rd t203 (rd l1 x32_1))) < (x7_1.length : Int) then (impl_ribbon.l0 k1 l1 (l0_0.length : Int) ((x7_1.set ((rd t203 (rd l1 x32_1)) : Int).toNat (rd l0_1 (rd t203 (rd l1 x32_1)))).set ((rd l0_1 (rd t203 (rd l1 x32_1))) : Int).toNat (rd t203 (rd l1 x32_1))) l1 (l1.length : Int) (wrap64 (x32_1 + 1)) l0_0 l0_1 y209) else (none)) else (none)) = some r := hR hy209 H; have Ny209 := Az hy209; clear hy209
               by_cases c28 : (rd t203 (rd l1 x32_1)) < (x7_1.length : Int)
               ·
                rw [if_pos c28] at H; have c28b0 := decide_eq_true c28; clear c28; obtain ⟨y210, hy210⟩ : ∃ y_ : List Int, y_ = (x7_1.set ((rd t203 (rd l1 x32_1)) : Int).toNat (rd l0_1 (rd t203 (rd l1 x32_1)))) := ⟨_, rfl⟩; replace H : (if (rd l0_1 (rd t203 (rd l1 x32_1))) < (x7_1.length : Int) then (impl_ribbon.l0 k1 l1 (l0_0.length : Int) (y210.set ((rd l0_1 (rd t203 (rd l1 x32_1))) : Int).toNat (rd t203 (rd l1 x32_1))) l1 (l1.length : Int) (wrap64 (x32_1 + 1)) l0_0 l0_1 y209) else (none)) = some r := hR hy210 H; have Ny210 := Az hy210; clear hy210
                by_cases c30 : (rd l0_1 (rd t203 (rd l1 x32_1))) < (x7_1.length : Int)
                ·
                 rw [if_pos c30] at H; have c30b0 := decide_eq_true c30; clear c30; obtain ⟨y211, hy211⟩ : ∃ y_ : List Int, y_ = (y210.set ((rd l0_1 (rd t203 (rd l1 x32_1))) : Int).toNat (rd t203 (rd l1 x32_1))) := ⟨_, rfl⟩; replace H : (impl_ribbon.l0 k1 l1 (l0_0.length : Int) y211 l1 (l1.length : Int) (wrap64 (x32_1 + 1)) l0_0 l0_1 y209) = some r := hR hy211 H; have Ny211 := Az hy211; clear hy211; have H' := Az H; clear H; have p202 : 0 ≤ (x32_1 : Int) := oA; have q202 : x32_1 < (l1.length : Int) := oA; obtain ⟨ad202, e202, hx202_0⟩ := Kd.at_int HR1.out x32_1 p202 q202
                 cases e202
                 (try replace hx202_0 := (HB.out.cell (World.block_lt_of_cell? w _ hx202_0)).trans hx202_0); replace p202 := eq_true p202; replace q202 := eq_true q202; have hnb32 := NB194_198.out; have hnc32 := NB198_194.out; have hcz33_0 : wr.cell? ⟨gb194, 0, none⟩ = some (.slice A0_0 l0_0.length c0_0) := (blk_cell BK194.out 0).trans rfl; have hcz33_1 : wr.cell? ⟨gb194, 1, none⟩ = some (.slice A0_1 l0_1.length c0_1) := (blk_cell BK194.out 1).trans rfl; have hfz33_0 := blk_frozen BK194.out 0; have hfz33_1 := blk_frozen BK194.out 1
                 try go_wp2_with (first | ((with_reducible refine gate_callee (f := 83) rfl ?_); refine goesL_ (some 37) rfl rfl Try.func83 (by kernel_rfl) rfl #[.agg #[.slice A0_0 l0_0.length c0_0, .slice A0_1 l0_1.length c0_1]] rfl (by (try simp only [List.map_toArray, List.map_cons, List.map_nil]); first | done | rfl | (simp only [List.length_drop, List.length_take]; rfl)) ?_; (with_reducible refine (impl_edgesOf.calls k1 _ _ l0_0 _ _ l0_1 t203 _ ?side1 ?side2 ?side3 ?side4 A18.out).mono ?_); (case side1 => exact cU ((Kd.V_reads' HO_Z0.out).2.2)); (case side2 => exact (Kd.V_reads' HO_Z0.out).2.1); (case side3 => exact cU (Kd.C_below HR0_1.out HB.out)); (case side4 => exact HC0_1.out); rintro e w34 ⟨v204, rfl, ho0, hb⟩; refine ⟨_, rfl, ?_⟩; have n0 := Az (Kd.R_elder' (rU HO_7.out) (Kd.R_base ho0) hb); have n1 := Az (Kd.V_elder' (vU HO_Z0.out) (Kd.R_base ho0) hb); have n2 := Az (Kd.R_below (rU HO_Z2.out) hb); have n3 := Az (Kd.R_lower (Kd.R_new' (Kd.R_newM (M := fun k_ => (w.heap.size ≤ k_)) ho0 (below_size (bU2 HB.out GE194.out GE198.out)) (fun k_ h_ => h_)) (Kd.R_lt (rU HO_7.out))) (below_size (bU2 HB.out GE194.out GE198.out))); have n4 := Az (blk_below (g := gb194) (o := .cells #[.slice A0_0 l0_0.length c0_0, .slice A0_1 l0_1.length c0_1] 25 (0, 0)) (kU BK194.out) hb); have n5 := Az (blk_below (g := gb198) (o := .cells #[uZ2] 78 (0, 0)) (kU BK198.out) hb); have n6 := Az (below_step (bU2 HB.out GE194.out GE198.out) hb); clear HO_7 HO_Z0 HO_Z2 BK194 BK198 HB; have HO_7 := n0; have HO_Z0 := n1; have HO_Z2 := n2; have HO205 := n3; have BK194 := n4; have BK198 := n5; have HB := n6; clear n0 n1 n2 n3 n4 n5 n6; (try clear hb); (try clear hb2); (try clear hk); (try clear hi); (try clear ho0); obtain ⟨Ao35, co35, eo35⟩ := Kd.R_slice HO205.out; subst eo35; have p206 : 0 ≤ ((rd l1 x32_1) : Int) := oA; have q206 : (rd l1 x32_1) < (t203.length : Int) := oA; obtain ⟨ad206, e206, hx206_0⟩ := Kd.at_int (Kd.R_reads' HO205.out).2.2 (rd l1 x32_1) p206 q206; cases e206; replace p206 := eq_true p206; replace q206 := eq_true q206; have hcz36_0 : w34.cell? ⟨gb194, 0, none⟩ = some (.slice A0_0 l0_0.length c0_0) := (blk_cell BK194.out 0).trans rfl; have hcz36_1 : w34.cell? ⟨gb194, 1, none⟩ = some (.slice A0_1 l0_1.length c0_1) := (blk_cell BK194.out 1).trans rfl; have hfz36_0 := blk_frozen BK194.out 0; have hfz36_1 := blk_frozen BK194.out 1; have p207 : 0 ≤ ((rd t203 (rd l1 x32_1)) : Int) := oA; have q207 : (rd t203 (rd l1 x32_1)) < (l0_1.length : Int) := oA; obtain ⟨ad207, e207, hx207_0⟩ := Kd.at_int HR0_1.out (rd t203 (rd l1 x32_1)) p207 q207; cases e207; replace hx207_0 := (HB.out.cell (World.block_lt_of_cell? w _ hx207_0)).trans hx207_0; replace p207 := eq_true p207; replace q207 := eq_true q207))
                 have n0 := Az (Kd.R_drew HO_7.out); have n1 := Az (Kd.V_drew HO_Z0.out); have n2 := Az (Kd.R_drew HO_Z2.out); have n3 := Az (Kd.R_drew HO205.out); have n4 := Az (blk_drew BK194.out); have n5 := Az (blk_drew BK198.out); have n6 := Az (below_drew1 HB.out); clear HO_7 HO_Z0 HO_Z2 HO205 BK194 BK198 HB; have HO_7 := n0; have HO_Z0 := n1; have HO_Z2 := n2; have HO205 := n3; have BK194 := n4; have BK198 := n5; have HB := n6; clear n0 n1 n2 n3 n4 n5 n6; have p24 : 0 ≤ ((rd t203 (rd l1 x32_1)) : Int) := oA; have q24 : ((rd t203 (rd l1 x32_1)) : Int) < ((xZ2_1.length : Int) : Int) := oA; obtain ⟨go24, co24, eo24, gb24, gl24, cl24, HG24⟩ := Kd.R_form HO_Z2.out (by omega); (first | cases eo24 | (injection eo24 with ea_ en_ ec_; (first | subst ea_ | (injection ea_ with ea_; subst ea_)); subst ec_; clear en_)); have GB24 := Az gb24; have GG24 := Az HG24; clear gb24 gl24 HG24; obtain ⟨hx24_0, hf24_0⟩ := Kd.R_celln false HO_Z2.out ((rd t203 (rd l1 x32_1)) : Int) p24 q24; replace p24 := eq_true p24; replace q24 := eq_true q24; have HP38 := Kd.R_putn HO_Z2.out ((rd t203 (rd l1 x32_1)) : Int) true; rw [← Ny208.out] at HP38; have HQ38 := Az HP38; clear HP38; have p27 : 0 ≤ ((rd l0_1 (rd t203 (rd l1 x32_1))) : Int) := oA; have q27 : ((rd l0_1 (rd t203 (rd l1 x32_1))) : Int) < ((xZ2_1.length : Int) : Int) := oA; obtain ⟨hx27_0, hf27_0⟩ := Kd.R_celln false HQ38.out ((rd l0_1 (rd t203 (rd l1 x32_1))) : Int) p27 q27; replace p27 := eq_true p27; replace q27 := eq_true q27; have HP39 := Kd.R_putn HQ38.out ((rd l0_1 (rd t203 (rd l1 x32_1))) : Int) true; rw [← Ny209.out] at HP39; have HQ39 := Az HP39; clear HP39
                 refine start_ (n := 8) (S := fun w' => w'.cell? ⟨gb198, 0, none⟩ = some (.slice (some ⟨go24, 0, none⟩) xZ2_1.length co24)) (ds := [7]) #[false, false, false, false, false, false, false, false] (by kernel_rfl) rfl rfl ((blk_cell BK198.out 0).trans rfl) (fun hHeld => ?_); refine with_tabW impl_ribbon.tab9 impl_ribbon.bits9 (fun HT_ HW_ => ?_)
                 generalize w34.drew = w37 at HO_7 HO_Z0 HO_Z2 HO205 BK194 BK198 HB GG24 HQ38 HQ39 hf24_0 hf27_0 hx24_0 hx27_0 hHeld ⊢
                 refine pure_ (i := 1) (N := some 47) (v := ?_) (a' := ?_) #[false, true, false, false, false, false, false, false] rfl rfl (any_of HT_.out (by kernel_rfl)) (fun _ _ _ h => h) (Or.inl ⟨by rfl, ?_⟩) ?_ ?_
                 rotate_left
                 ·
                  intro w'
                  go_simp
                  with_reducible rfl
                 rotate_left
                 ·
                  simp only [Act.put, List.setIfInBounds_toArray, List.set_cons_zero, List.set_cons_succ, i64_w, i32_w]
                  rfl
                 refine pure_ (i := 3) (N := some 49) (v := ?_) (a' := ?_) #[false, true, false, true, false, false, false, false] rfl rfl (any_of HT_.out (by kernel_rfl)) (fun _ _ _ h => h) (Or.inl ⟨by rfl, ?_⟩) ?_ ?_
                 rotate_left
                 ·
                  intro w'
                  go_simp
                  with_reducible rfl
                 rotate_left
                 ·
                  simp only [Act.put, List.setIfInBounds_toArray, List.set_cons_zero, List.set_cons_succ, i64_w, i32_w]
                  rfl
                 refine take_ (i := 0) (N := some 46) (v := ?_) (a' := ?_) #[true, true, false, true, false, false, false, false] rfl rfl (take_ofW HT_.out HW_.out (by kernel_rfl)) (fun _ _ _ h => h) (Or.inl ⟨by rfl, ?_⟩) hHeld ?_ ?_
                 rotate_left
                 ·
                  intro w' s0
                  go_simp
                  with_reducible rfl
                 rotate_left
                 ·
                  simp only [Act.put, List.setIfInBounds_toArray, List.set_cons_zero, List.set_cons_succ, i64_w, i32_w]
                  rfl
                 refine pure_ (i := 4) (N := some 50) (v := ?_) (a' := ?_) #[true, true, false, true, true, false, false, false] rfl rfl (any_of HT_.out (by kernel_rfl)) (fun _ _ _ h => h) (Or.inl ⟨by rfl, ?_⟩) ?_ ?_
                 rotate_left
                 ·
                  intro w'
                  go_simp
                  with_reducible rfl
                 rotate_left
                 ·
                  simp only [Act.put, List.setIfInBounds_toArray, List.set_cons_zero, List.set_cons_succ, i64_w, i32_w]
                  rfl
                 refine take_ (i := 2) (N := some 48) (v := ?_) (a' := ?_) #[true, true, true, true, true, false, false, false] rfl rfl (take_ofW HT_.out HW_.out (by kernel_rfl)) (fun _ _ _ h => h) (Or.inl ⟨by rfl, ?_⟩) hHeld ?_ ?_
                 rotate_left
                 ·
                  intro w' s0
                  go_simp
                  with_reducible rfl
                 rotate_left
                 ·
                  simp only [Act.put, List.setIfInBounds_toArray, List.set_cons_zero, List.set_cons_succ, i64_w, i32_w]
                  rfl
                 refine one_ (i := 5) (N := none) #[true, true, true, true, true, true, false, false] rfl rfl (one_of HT_.out (by kernel_rfl)) (by decide) (fun K hK => ?_)
                 refine skip_ (w1 := ?_) (by rfl) rfl ?_ ?_
                 rotate_left
                 ·
                  go_simp
                  rfl
                 refine hK.out _ _ (((cell_far (p := ⟨go24, _, none⟩) (by have h_ := Kd.R_ne HO_Z2.out BK198.out (by decide); intro e_; exact h_ (by first | exact congrArg some e_ | (rw [e_]; rfl))) _).trans (hHeld))) (fun hHeld => ?_)
                 clear hK K
                 refine pure_ (i := 6) (N := some 51) (v := ?_) (a' := ?_) #[true, true, true, true, true, true, true, false] rfl rfl (any_of HT_.out (by kernel_rfl)) (fun _ _ _ h => h) (Or.inl ⟨by rfl, ?_⟩) ?_ ?_
                 rotate_left
                 ·
                  intro w'
                  go_simp
                  with_reducible rfl
                 rotate_left
                 ·
                  simp only [Act.put, List.setIfInBounds_toArray, List.set_cons_zero, List.set_cons_succ, i64_w, i32_w]
                  rfl
                 refine last_ (i := 7) (N := none) #[true, true, true, true, true, true, true, true] rfl rfl (one_of HT_.out (by kernel_rfl)) (by decide) (fun K hK => ?_)
                 refine skip_ (w1 := ?_) (by rfl) rfl ?_ ?_
                 rotate_left
                 ·
                  go_simp
                  rfl
                 refine hK.out _ _ ?_
                 clear hK K
                 refine done_ (done_of HT_.out (by kernel_rfl)) ?_
                 have n0 : Aside0 (Kd.R (Kd.int .i64) 3 ((w37.setCell ⟨go24, ((rd t203 (rd l1 x32_1)) : Int).toNat, none⟩ (.bool true)).setCell ⟨go24, ((rd l0_1 (rd t203 (rd l1 x32_1))) : Int).toNat, none⟩ (.bool true)) w.heap.size (fun k_ => (w.heap.size ≤ k_) ∧ some k_ ≠ (.slice (some ad206) t203.length co35 : Value).ownBlock) v200 x7_1) := ⟨by (with_reducible repeat (first | apply Kd.R_alloc | apply Kd.R_drewN | apply Kd.R_drew)); exact Kd.R_mono (Kd.R_far (p := ⟨go24, ((rd l0_1 (rd t203 (rd l1 x32_1))) : Int).toNat, none⟩) (Kd.R_far (p := ⟨go24, ((rd t203 (rd l1 x32_1)) : Int).toNat, none⟩) (Kd.R_types HO_7.out GG24.out (by decide)) (fun _ hk => hk.2) (.bool true)) (fun _ hk => hk.2) (.bool true)) (fun _ hk => ⟨hk.1.1, hk.1.2⟩)⟩; have n1 : Aside0 (Kd.V (Kd.int .i64) 3 ((w37.setCell ⟨go24, ((rd t203 (rd l1 x32_1)) : Int).toNat, none⟩ (.bool true)).setCell ⟨go24, ((rd l0_1 (rd t203 (rd l1 x32_1))) : Int).toNat, none⟩ (.bool true)) w.heap.size (fun k_ => (P0_0_ k_ ∨ w.heap.size ≤ k_) ∧ some k_ ≠ (v200 : Value).ownBlock ∧ some k_ ≠ (.slice (some ⟨go24, 0, none⟩) xZ2_1.length co24 : Value).ownBlock ∧ some k_ ≠ (.slice (some ad206) t203.length co35 : Value).ownBlock ∧ k_ ≠ gb194 ∧ k_ ≠ gb198) (.slice A0_0 l0_0.length c0_0) l0_0) := ⟨by (with_reducible repeat (first | apply Kd.V_alloc | apply Kd.V_drewN | apply Kd.V_drew)); exact Kd.V_mono (Kd.V_far (p := ⟨go24, ((rd l0_1 (rd t203 (rd l1 x32_1))) : Int).toNat, none⟩) (Kd.V_far (p := ⟨go24, ((rd t203 (rd l1 x32_1)) : Int).toNat, none⟩) (Kd.V_mono HO_Z0.out (fun k_ hk => (⟨hk, fun e_ => hk.1.2.2.1 (by rw [e_]; rfl)⟩ : _ ∧ k_ ≠ go24))) (fun _ hk => hk.2) (.bool true)) (fun _ hk => hk.2) (.bool true)) (fun _ hk => ⟨hk.1.1.1, ⟨hk.1.1.2.1, ⟨hk.1.1.2.2.1, ⟨hk.1.2, ⟨hk.1.1.2.2.2.1, hk.1.1.2.2.2.2⟩⟩⟩⟩⟩)⟩; have n2 : Aside0 (Kd.R Kd.bool 4 ((w37.setCell ⟨go24, ((rd t203 (rd l1 x32_1)) : Int).toNat, none⟩ (.bool true)).setCell ⟨go24, ((rd l0_1 (rd t203 (rd l1 x32_1))) : Int).toNat, none⟩ (.bool true)) w.heap.size (fun k_ => (w.heap.size ≤ k_)) (.slice (some ⟨go24, 0, none⟩) xZ2_1.length co24) y209) := ⟨rU HQ39.out⟩; have n3 : Aside0 (Kd.R (Kd.int .i64) 3 ((w37.setCell ⟨go24, ((rd t203 (rd l1 x32_1)) : Int).toNat, none⟩ (.bool true)).setCell ⟨go24, ((rd l0_1 (rd t203 (rd l1 x32_1))) : Int).toNat, none⟩ (.bool true)) w.heap.size (fun k_ => (w.heap.size ≤ k_) ∧ some k_ ≠ (v200 : Value).ownBlock) (.slice (some ad206) t203.length co35) t203) := ⟨by (with_reducible repeat (first | apply Kd.R_alloc | apply Kd.R_drewN | apply Kd.R_drew)); exact Kd.R_mono (Kd.R_far (p := ⟨go24, ((rd l0_1 (rd t203 (rd l1 x32_1))) : Int).toNat, none⟩) (Kd.R_far (p := ⟨go24, ((rd t203 (rd l1 x32_1)) : Int).toNat, none⟩) (Kd.R_types HO205.out GG24.out (by decide)) (fun _ hk => hk.2) (.bool true)) (fun _ hk => hk.2) (.bool true)) (fun _ hk => ⟨hk.1.1.1, hk.1.2⟩)⟩; have n4 : Aside0 (((w37.setCell ⟨go24, ((rd t203 (rd l1 x32_1)) : Int).toNat, none⟩ (.bool true)).setCell ⟨go24, ((rd l0_1 (rd t203 (rd l1 x32_1))) : Int).toNat, none⟩ (.bool true)).heap[gb194]? = some (.cells #[.slice A0_0 l0_0.length c0_0, .slice (some ad207) l0_1.length c0_1] 25 (0, 0))) := ⟨by (with_reducible repeat (first | refine blk_drewN ?_ _ | refine blk_drew ?_ | refine blk_alloc ?_ _)); refine blk_far ?_ (by have h_ := Kd.R_ne HO_Z2.out BK194.out (by decide); intro e_; exact h_ (by rw [e_]; rfl)) _; (with_reducible repeat (first | refine blk_drewN ?_ _ | refine blk_drew ?_ | refine blk_alloc ?_ _)); refine blk_far ?_ (by have h_ := Kd.R_ne HO_Z2.out BK194.out (by decide); intro e_; exact h_ (by rw [e_]; rfl)) _; (with_reducible repeat (first | refine blk_drewN ?_ _ | refine blk_drew ?_ | refine blk_alloc ?_ _)); exact BK194.out⟩; have n5 : Aside0 (((w37.setCell ⟨go24, ((rd t203 (rd l1 x32_1)) : Int).toNat, none⟩ (.bool true)).setCell ⟨go24, ((rd l0_1 (rd t203 (rd l1 x32_1))) : Int).toNat, none⟩ (.bool true)).heap[gb198]? = some (.cells #[.slice (some ⟨go24, 0, none⟩) xZ2_1.length co24] 78 (0, 0))) := ⟨by (with_reducible repeat (first | refine blk_drewN ?_ _ | refine blk_drew ?_ | refine blk_alloc ?_ _)); refine blk_far ?_ (by have h_ := Kd.R_ne HO_Z2.out BK198.out (by decide); intro e_; exact h_ (by rw [e_]; rfl)) _; (with_reducible repeat (first | refine blk_drewN ?_ _ | refine blk_drew ?_ | refine blk_alloc ?_ _)); refine blk_far ?_ (by have h_ := Kd.R_ne HO_Z2.out BK198.out (by decide); intro e_; exact h_ (by rw [e_]; rfl)) _; (with_reducible repeat (first | refine blk_drewN ?_ _ | refine blk_drew ?_ | refine blk_alloc ?_ _)); exact BK198.out⟩; have n6 : Aside0 (Below w.heap.size w ((w37.setCell ⟨go24, ((rd t203 (rd l1 x32_1)) : Int).toNat, none⟩ (.bool true)).setCell ⟨go24, ((rd l0_1 (rd t203 (rd l1 x32_1))) : Int).toNat, none⟩ (.bool true))) := ⟨bU4 HB.out GB24.out GB24.out GE194.out GE198.out⟩; (try clear HO_7); (try clear HO_Z0); (try clear HO_Z2); (try clear HO205); (try clear BK194); (try clear BK198); (try clear HB)
                 generalize ((w37.setCell ⟨go24, ((rd t203 (rd l1 x32_1)) : Int).toNat, none⟩ (.bool true)).setCell ⟨go24, ((rd l0_1 (rd t203 (rd l1 x32_1))) : Int).toNat, none⟩ (.bool true)) = w40 at n0 n1 n2 n3 n4 n5 n6 ⊢
                 have HO_7 := n0; have HO_Z0 := n1; have HO_Z2 := n2; have HO205 := n3; have BK194 := n4; have BK198 := n5; have HB := n6; clear n0 n1 n2 n3 n4 n5 n6; have p29 : 0 ≤ ((rd t203 (rd l1 x32_1)) : Int) := oA; have q29 : ((rd t203 (rd l1 x32_1)) : Int) < ((x7_1.length : Int) : Int) := oA; obtain ⟨go29, co29, eo29, gb29, gl29, cl29, HG29⟩ := Kd.R_form HO_7.out (by omega); (first | cases eo29 | (injection eo29 with ea_ en_ ec_; (first | subst ea_ | (injection ea_ with ea_; subst ea_)); subst ec_; clear en_)); have GB29 := Az gb29; have GG29 := Az HG29; clear gb29 gl29 HG29; obtain ⟨hx29_0, hf29_0⟩ := Kd.R_celln 0 HO_7.out ((rd t203 (rd l1 x32_1)) : Int) p29 q29; replace p29 := eq_true p29; replace q29 := eq_true q29; obtain ⟨hy41_, hz41_⟩ := Kd.R_celln 0 HO_7.out ((rd t203 (rd l1 x32_1)) : Int) (oA) (oA); have HP41 := Kd.R_putg HO_7.out ((rd t203 (rd l1 x32_1)) : Int) (rd l0_1 (rd t203 (rd l1 x32_1)))
                 try go_wp2_with (first | ((with_reducible refine gate_store (t := 3) (p := 58) rfl ?_); refine store_event (t := 3) (p := 58) (v := ?vo_w42) (w1 := (w40.setCell ⟨go29, ((rd t203 (rd l1 x32_1)) : Int).toNat, none⟩ (.int .i64 (rd l0_1 (rd t203 (rd l1 x32_1)))))) ?hg ?ho ?hn ?hr ?_; (case ho => rfl); (case hg => rfl); (case hn => rfl); (case hr => first | (go_simp; done) | (go_simp; rfl)); intro w42 hw; have hg : w40.grownBy w42 (some go29) := (by rw [hw]; exact HP41.2); have hp_ : Kd.R (Kd.int .i64) 3 w42 w.heap.size (fun k_ => (w.heap.size ≤ k_) ∧ some k_ ≠ (.slice (some ad206) t203.length co35 : Value).ownBlock) (.slice (some ⟨go29, 0, none⟩) x7_1.length co29) y210 := (by rw [hw, Ny210.out]; exact HP41.1); clear HP41; have n0 := Az (hp_); have n1 := Az (Kd.V_afterv (v := (.slice (some ⟨go29, 0, none⟩) x7_1.length co29)) (v1 := (.slice (some ⟨go29, 0, none⟩) x7_1.length co29)) (ok := (fun k_ => (P0_0_ k_ ∨ w.heap.size ≤ k_) ∧ some k_ ≠ (.slice (some ⟨go24, 0, none⟩) xZ2_1.length co24 : Value).ownBlock ∧ some k_ ≠ (.slice (some ad206) t203.length co35 : Value).ownBlock ∧ k_ ≠ gb194 ∧ k_ ≠ gb198)) (by (with_reducible repeat (first | apply Kd.V_alloc | apply Kd.V_drewN | apply Kd.V_drew)); exact Kd.V_mono HO_Z0.out (fun _ hk => ⟨⟨hk.1, ⟨hk.2.2.1, ⟨hk.2.2.2.1, ⟨hk.2.2.2.2.1, hk.2.2.2.2.2⟩⟩⟩⟩, hk.2.1⟩)) hg (.inl rfl)); have n2 := Az (Kd.R_over' (v := (.slice (some ⟨go29, 0, none⟩) x7_1.length co29)) (rU HO_Z2.out) (Kd.R_typed HO_7.out) (by decide) hg); have n3 := Az (blk_grown (g := gb194) (o := .cells #[.slice A0_0 l0_0.length c0_0, .slice (some ad207) l0_1.length c0_1] 25 (0, 0)) (kU BK194.out) hg (Kd.R_ne HO_7.out BK194.out (by decide))); have n4 := Az (blk_grown (g := gb198) (o := .cells #[.slice (some ⟨go24, 0, none⟩) xZ2_1.length co24] 78 (0, 0)) (kU BK198.out) hg (Kd.R_ne HO_7.out BK198.out (by decide))); have n5 := Az (Kd.R_after (v := (.slice (some ⟨go29, 0, none⟩) x7_1.length co29)) (v1 := (.slice (some ⟨go29, 0, none⟩) x7_1.length co29)) (ok := (fun k_ => (w.heap.size ≤ k_))) (rU HO205.out) hg (.inl rfl)); have n6 := Az ((by rw [hw]; exact below_set (HB.out) GB29.out : Below w.heap.size w w42)); clear HO_7 HO_Z0 HO_Z2 BK194 BK198 HO205 HB; have HO_7 := n0; have HO_Z0 := n1; have HO_Z2 := n2; have BK194 := n3; have BK198 := n4; have HO205 := n5; have HB := n6; clear n0 n1 n2 n3 n4 n5 n6 hg hw hp_; have p31 : 0 ≤ ((rd l0_1 (rd t203 (rd l1 x32_1))) : Int) := oA; have q31 : ((rd l0_1 (rd t203 (rd l1 x32_1))) : Int) < ((x7_1.length : Int) : Int) := oA; obtain ⟨hx31_0, hf31_0⟩ := Kd.R_celln 0 HO_7.out ((rd l0_1 (rd t203 (rd l1 x32_1))) : Int) p31 q31; replace p31 := eq_true p31; replace q31 := eq_true q31; obtain ⟨hy43_, hz43_⟩ := Kd.R_celln 0 HO_7.out ((rd l0_1 (rd t203 (rd l1 x32_1))) : Int) (oA) (oA); have HP43 := Kd.R_putg HO_7.out ((rd l0_1 (rd t203 (rd l1 x32_1))) : Int) (rd t203 (rd l1 x32_1))) | ((with_reducible refine gate_store (t := 3) (p := 59) rfl ?_); refine store_event (t := 3) (p := 59) (v := ?vo_w44) (w1 := (w42.setCell ⟨go29, ((rd l0_1 (rd t203 (rd l1 x32_1))) : Int).toNat, none⟩ (.int .i64 (rd t203 (rd l1 x32_1))))) ?hg ?ho ?hn ?hr ?_; (case ho => rfl); (case hg => rfl); (case hn => rfl); (case hr => first | (go_simp; done) | (go_simp; rfl)); intro w44 hw; have hg : w42.grownBy w44 (some go29) := (by rw [hw]; exact HP43.2); have hp_ : Kd.R (Kd.int .i64) 3 w44 w.heap.size (fun k_ => (w.heap.size ≤ k_) ∧ some k_ ≠ (.slice (some ad206) t203.length co35 : Value).ownBlock) (.slice (some ⟨go29, 0, none⟩) x7_1.length co29) y211 := (by rw [hw, Ny211.out]; exact HP43.1); clear HP43; have n0 := Az (hp_); have n1 := Az (Kd.V_afterv (v := (.slice (some ⟨go29, 0, none⟩) x7_1.length co29)) (v1 := (.slice (some ⟨go29, 0, none⟩) x7_1.length co29)) (ok := (fun k_ => (P0_0_ k_ ∨ w.heap.size ≤ k_) ∧ some k_ ≠ (.slice (some ⟨go24, 0, none⟩) xZ2_1.length co24 : Value).ownBlock ∧ some k_ ≠ (.slice (some ad206) t203.length co35 : Value).ownBlock ∧ k_ ≠ gb194 ∧ k_ ≠ gb198)) (vU HO_Z0.out) hg (.inl rfl)); have n2 := Az (Kd.R_over' (v := (.slice (some ⟨go29, 0, none⟩) x7_1.length co29)) (rU HO_Z2.out) (Kd.R_typed HO_7.out) (by decide) hg); have n3 := Az (blk_grown (g := gb194) (o := .cells #[.slice A0_0 l0_0.length c0_0, .slice (some ad207) l0_1.length c0_1] 25 (0, 0)) (kU BK194.out) hg (Kd.R_ne HO_7.out BK194.out (by decide))); have n4 := Az (blk_grown (g := gb198) (o := .cells #[.slice (some ⟨go24, 0, none⟩) xZ2_1.length co24] 78 (0, 0)) (kU BK198.out) hg (Kd.R_ne HO_7.out BK198.out (by decide))); have n5 := Az (Kd.R_after (v := (.slice (some ⟨go29, 0, none⟩) x7_1.length co29)) (v1 := (.slice (some ⟨go29, 0, none⟩) x7_1.length co29)) (ok := (fun k_ => (w.heap.size ≤ k_))) (rU HO205.out) hg (.inl rfl)); have n6 := Az ((by rw [hw]; exact below_set (HB.out) GB29.out : Below w.heap.size w w44)); clear HO_7 HO_Z0 HO_Z2 BK194 BK198 HO205 HB; have HO_7 := n0; have HO_Z0 := n1; have HO_Z2 := n2; have BK194 := n3; have BK198 := n4; have HO205 := n5; have HB := n6; clear n0 n1 n2 n3 n4 n5 n6; clear hg hw hp_))
                 (first | go_roundg k1 | (refine Handed.intro k1 ?measure ?_; rotate_left; go_step; (try simp only [add_plain]); (repeat apply Exists.intro); refine ⟨?rel, rfl⟩))
                 case measure => have := HK1.out; omega
                 case rel => exact ⟨(y211), (wrap64 (x32_1 + 1)), (y209), (.slice (some ⟨go24, 0, none⟩) xZ2_1.length co24), rS, H', ⟨by have := HK1.out; omega⟩, ⟨by (with_reducible repeat (first | apply Kd.R_alloc | apply Kd.R_drewN | apply Kd.R_drew)); exact Kd.R_mono HO_7.out (fun _ hk => hk.1)⟩, ⟨by (with_reducible repeat (first | apply Kd.V_alloc | apply Kd.V_drewN | apply Kd.V_drew)); exact Kd.V_mono HO_Z0.out (fun _ hk => ⟨hk.1.1, ⟨hk.2, ⟨hk.1.2.1, ⟨hk.1.2.2.2.1, hk.1.2.2.2.2⟩⟩⟩⟩)⟩, ⟨rU HO_Z2.out⟩, ⟨kU BK194.out⟩, ⟨kU BK198.out⟩, ⟨bU2 HB.out GE194.out GE198.out⟩⟩
                ·
                 rw [if_neg c30] at H
                 exact absurd H (by simp)
               ·
                rw [if_neg c28] at H
                exact absurd H (by simp)
              ·
               rw [if_neg c26] at H
               exact absurd H (by simp)
             ·
              rw [if_neg c25] at H
              exact absurd H (by simp)
            ·
             rw [if_neg c23] at H
             exact absurd H (by simp)
           ·
            rw [if_neg c22] at H
            exact absurd H (by simp)
          ·
           rw [if_neg c21] at H
           exact absurd H (by simp)
         ·
          rw [if_neg c20] at H
          exact absurd H (by simp)
        ·
         rw [if_neg c19] at H
         exact absurd H (by simp)
       ·
        rw [if_neg c17] at H
        exact absurd H (by simp)
      ·
       rw [if_neg c16] at H
       exact absurd H (by simp)
     ·
      rw [if_neg c15] at H; have c15b0 := decide_eq_false c15; clear c15; obtain ⟨y212, hy212⟩ : ∃ y_ : List (List Int), y_ = (([l0_0, x7_1] : List (List Int))) := ⟨_, rfl⟩; replace H : ((impl_orbits.f k1 y212).bind fun t215 => (impl_ribbon.l1 k1 l1 (l0_0.length : Int) x7_1 0 t215 (t215.length : Int) 0 l0_0 l0_1 xZ2_1)) = some r := hR hy212 H; have Ny212 := Az hy212; clear hy212; replace H := Option.bind_eq_some_iff.mp H; obtain ⟨t215, A450, H⟩ := H; replace H : (impl_ribbon.l1 k1 l1 (l0_0.length : Int) x7_1 0 t215 (t215.length : Int) 0 l0_0 l0_1 xZ2_1) = some r := H; have A45 := Az A450; clear A450; have H' := Az H; clear H; have hnb46 := NB194_198.out; have hnc46 := NB198_194.out; have hcz47_0 : wr.cell? ⟨gb194, 0, none⟩ = some (.slice A0_0 l0_0.length c0_0) := (blk_cell BK194.out 0).trans rfl; have hcz47_1 : wr.cell? ⟨gb194, 1, none⟩ = some (.slice A0_1 l0_1.length c0_1) := (blk_cell BK194.out 1).trans rfl; have hfz47_0 := blk_frozen BK194.out 0; have hfz47_1 := blk_frozen BK194.out 1; obtain ⟨Ao48, co48, eo48⟩ := Kd.R_slice HO_7.out; subst eo48
      go_wp2_with (first | ((with_reducible refine gate_dst (N := 64) rfl ?_); refine Kd.N_lit (Kd.slice 3 (Kd.int .i64)) _ 23 ?hg (N' := 64) ?hd (xs := ([l0_0, x7_1] : List (List Int))) (inner := [.slice A0_0 l0_0.length c0_0, .slice Ao48 x7_1.length co48]) (ok := (fun k_ => (P0_0_ k_ ∨ w.heap.size ≤ k_) ∧ some k_ ≠ (uZ2 : Value).ownBlock ∧ k_ ≠ gb194 ∧ k_ ≠ gb198)) (okp := (fun k_ => (P0_0_ k_ ∨ w.heap.size ≤ k_) ∧ some k_ ≠ (uZ2 : Value).ownBlock ∧ k_ ≠ gb194 ∧ k_ ≠ gb198)) ?hr ?hp (fun _ hk => hk) ((show ∀ k_, wr.heap.size ≤ k_ → (fun k_ => (P0_0_ k_ ∨ w.heap.size ≤ k_) ∧ some k_ ≠ (uZ2 : Value).ownBlock ∧ k_ ≠ gb194 ∧ k_ ≠ gb198) k_ from fun k_ hk => ⟨(.inr (Nat.le_trans (below_size (bU2 HB.out GE194.out GE198.out)) hk)), Kd.fresh' (Kd.R_lt (rU HO_Z2.out)) k_ hk, Kd.freshB (g := gb194) (o := .cells #[.slice A0_0 l0_0.length c0_0, .slice A0_1 l0_1.length c0_1] 25 (0, 0)) (kU BK194.out) k_ hk, Kd.freshB (g := gb198) (o := .cells #[uZ2] 78 (0, 0)) (kU BK198.out) k_ hk⟩) _ (Nat.le_refl _)) (Below.refl _ _) (Nat.le_refl _) (by simp) ?_; (case hd => rfl); (case hg => rfl); (case hr => first | (go_simp; done) | (go_simp; rfl)); (case hp => exact (Reps.one (show Kd.FK (Kd.slice 3 (Kd.int .i64)) _ _ l0_0 [.slice A0_0 l0_0.length c0_0] from (Kd.FK_slice_mk (Kd.V_reads' (Kd.V_mono (ok' := (fun k_ => (P0_0_ k_ ∨ w.heap.size ≤ k_) ∧ some k_ ≠ (uZ2 : Value).ownBlock ∧ k_ ≠ gb194 ∧ k_ ≠ gb198)) (HO_Z0.out) (fun k_ hk => ⟨hk.1, ⟨hk.2.2.1, ⟨hk.2.2.2.1, hk.2.2.2.2⟩⟩⟩))).2.1 (Kd.V_F (Kd.V_mono (ok' := (fun k_ => (P0_0_ k_ ∨ w.heap.size ≤ k_) ∧ some k_ ≠ (uZ2 : Value).ownBlock ∧ k_ ≠ gb194 ∧ k_ ≠ gb198)) (HO_Z0.out) (fun k_ hk => ⟨hk.1, ⟨hk.2.2.1, ⟨hk.2.2.2.1, hk.2.2.2.2⟩⟩⟩))))) (Reps.one (show Kd.FK (Kd.slice 3 (Kd.int .i64)) _ _ x7_1 [.slice Ao48 x7_1.length co48] from (Kd.FK_slice_mk (Kd.R_reads' (Kd.R_mono (ok' := (fun k_ => (P0_0_ k_ ∨ w.heap.size ≤ k_) ∧ some k_ ≠ (uZ2 : Value).ownBlock ∧ k_ ≠ gb194 ∧ k_ ≠ gb198)) (Kd.R_types (Kd.R_types (Kd.R_apart' (HO_7.out) (Kd.R_typed HO_Z2.out) (by decide)) BK194.out (by decide)) BK198.out (by decide)) (fun k_ hk => ⟨(.inr (hk.1.1.1)), ⟨hk.1.1.2, ⟨hk.1.2, hk.2⟩⟩⟩))).2.1 (Kd.R_F (Kd.R_mono (ok' := (fun k_ => (P0_0_ k_ ∨ w.heap.size ≤ k_) ∧ some k_ ≠ (uZ2 : Value).ownBlock ∧ k_ ≠ gb194 ∧ k_ ≠ gb198)) (Kd.R_types (Kd.R_types (Kd.R_apart' (HO_7.out) (Kd.R_typed HO_Z2.out) (by decide)) BK194.out (by decide)) BK198.out (by decide)) (fun k_ hk => ⟨(.inr (hk.1.1.1)), ⟨hk.1.1.2, ⟨hk.1.2, hk.2⟩⟩⟩))))) (Reps.none _ _)))); intro v213 w49 ho50 hb hg_ hnew_; clear hg_ hnew_; (first | rw [← Ny212.out] at ho50 | (simp only [Int.reduceToNat] at ho50; rw [← Ny212.out] at ho50)); have n0 := Az (Kd.R_below (rU HO_7.out) hb); have n1 := Az (Kd.V_elder' (vU HO_Z0.out) (by first | exact Kd.N_base ho50 | exact Kd.S_base ho50 | exact Kd.R_base ho50) hb); have n2 := Az (Kd.R_below (rU HO_Z2.out) hb); have n3 := Az (Kd.N_lower ho50 (below_size (bU2 HB.out GE194.out GE198.out))); have n4 := Az (blk_below (g := gb194) (o := .cells #[.slice A0_0 l0_0.length c0_0, .slice A0_1 l0_1.length c0_1] 25 (0, 0)) (kU BK194.out) hb); have n5 := Az (blk_below (g := gb198) (o := .cells #[uZ2] 78 (0, 0)) (kU BK198.out) hb); have n6 := Az (below_step (bU2 HB.out GE194.out GE198.out) hb); clear HO_7 HO_Z0 HO_Z2 BK194 BK198 HB; have HO_7 := n0; have HO_Z0 := n1; have HO_Z2 := n2; have HO214 := n3; have BK194 := n4; have BK198 := n5; have HB := n6; clear n0 n1 n2 n3 n4 n5 n6 hb ho50; obtain ⟨Ao51, co51, eo51⟩ := Kd.N_slice HO214.out; subst eo51) | ((with_reducible refine gate_callee (f := 97) rfl ?_); refine goesL_ (some 65) rfl rfl Try.func97 (by kernel_rfl) rfl #[.slice Ao51 y212.length co51] rfl (by (try simp only [List.map_toArray, List.map_cons, List.map_nil]); first | done | rfl | (simp only [List.length_drop, List.length_take]; rfl)) ?_; (with_reducible refine (impl_orbits.calls k1 _ _ y212 t215 _ ?side1 ?side2 A45.out).mono ?_); (case side1 => exact cU ((Kd.N_reads' HO214.out).2.2)); (case side2 => exact (Kd.N_reads' HO214.out).2.1); rintro e w52 ⟨v216, rfl, ho0, hb⟩; refine ⟨_, rfl, ?_⟩; have n0 := Az (Kd.R_elder' (rU HO_7.out) (Kd.R_base ho0) hb); have n1 := Az (Kd.V_elder' (vU HO_Z0.out) (Kd.R_base ho0) hb); have n2 := Az (Kd.R_below (rU HO_Z2.out) hb); have n3 := Az (Kd.N_elder' (nU HO214.out) (Kd.R_base ho0) hb); have n4 := Az (Kd.R_lower (Kd.R_new' (Kd.R_newM (M := fun k_ => (w.heap.size ≤ k_)) ho0 (below_size (bU2 HB.out GE194.out GE198.out)) (fun k_ h_ => h_)) (Kd.R_lt (rU HO_7.out))) (below_size (bU2 HB.out GE194.out GE198.out))); have n5 := Az (blk_below (g := gb194) (o := .cells #[.slice A0_0 l0_0.length c0_0, .slice A0_1 l0_1.length c0_1] 25 (0, 0)) (kU BK194.out) hb); have n6 := Az (blk_below (g := gb198) (o := .cells #[uZ2] 78 (0, 0)) (kU BK198.out) hb); have n7 := Az (below_step (bU2 HB.out GE194.out GE198.out) hb); clear HO_7 HO_Z0 HO_Z2 HO214 BK194 BK198 HB; have HO_7 := n0; have HO_Z0 := n1; have HO_Z2 := n2; have HO214 := n3; have HO217 := n4; have BK194 := n5; have BK198 := n6; have HB := n7; clear n0 n1 n2 n3 n4 n5 n6 n7; (try clear hb); (try clear hb2); (try clear hk); (try clear hi); (try clear ho0); obtain ⟨Ao53, co53, eo53⟩ := Kd.R_slice HO217.out; subst eo53))
      go_loopg [12, 67] k1 (fun kq v12 v67 w' => ∃ (x12_2 : Int) (x67_2 : Int), v12 = .int .i64 x12_2 ∧ v67 = .int .i64 x67_2 ∧ Aside0 (impl_ribbon.l1 kq l1 (l0_0.length : Int) x7_1 x12_2 t215 (t215.length : Int) x67_2 l0_0 l0_1 xZ2_1 = some r) ∧ Aside0 (kq ≤ k1) ∧ Aside0 (Kd.R (Kd.int .i64) 3 w' w.heap.size (fun k_ => (w.heap.size ≤ k_) ∧ some k_ ≠ ((.slice Ao53 t215.length co53) : Value).ownBlock) (.slice Ao48 x7_1.length co48) x7_1) ∧ Aside0 (Kd.R (Kd.int .i64) 3 w' w.heap.size (fun k_ => (w.heap.size ≤ k_) ∧ some k_ ≠ ((.slice Ao48 x7_1.length co48) : Value).ownBlock) (.slice Ao53 t215.length co53) t215) ∧ Aside0 (Kd.V (Kd.int .i64) 3 w' w.heap.size (fun k_ => (P0_0_ k_ ∨ w.heap.size ≤ k_) ∧ some k_ ≠ ((.slice Ao48 x7_1.length co48) : Value).ownBlock ∧ some k_ ≠ ((.slice Ao53 t215.length co53) : Value).ownBlock ∧ some k_ ≠ (uZ2 : Value).ownBlock ∧ k_ ≠ gb194 ∧ k_ ≠ gb198) (.slice A0_0 l0_0.length c0_0) l0_0) ∧ Aside0 (Kd.R Kd.bool 4 w' w.heap.size (fun k_ => (w.heap.size ≤ k_)) uZ2 xZ2_1) ∧ Aside0 (w'.heap[gb194]? = some (.cells #[(.slice A0_0 l0_0.length c0_0), (.slice A0_1 l0_1.length c0_1)] 25 (0, 0))) ∧ Aside0 (w'.heap[gb198]? = some (.cells #[uZ2] 78 (0, 0))) ∧ Aside0 (Below w.heap.size w w'))
      case atStart => exact ⟨(0), (0), rS, rS, H', ⟨Nat.le_refl _⟩, ⟨rU HO_7.out⟩, ⟨by (with_reducible repeat (first | apply Kd.R_alloc | apply Kd.R_drewN | apply Kd.R_drew)); exact Kd.R_mono HO217.out (fun _ hk => ⟨hk.1.1, hk.2⟩)⟩, ⟨by (with_reducible repeat (first | apply Kd.V_alloc | apply Kd.V_drewN | apply Kd.V_drew)); exact Kd.V_mono HO_Z0.out (fun _ hk => ⟨hk.1.1.1, ⟨hk.1.1.2.1, ⟨hk.2, ⟨hk.1.1.2.2.1, ⟨hk.1.1.2.2.2.1, hk.1.1.2.2.2.2⟩⟩⟩⟩⟩)⟩, ⟨rU HO_Z2.out⟩, ⟨kU BK194.out⟩, ⟨kU BK198.out⟩, ⟨bU2 HB.out GE194.out GE198.out⟩⟩
      case round =>
       clear H'; (try clear c1); (try clear c2); (try clear p2); (try clear q2); (try clear hx2); (try clear hf2); (try clear c3); (try clear c3b0); (try clear c3b1); (try clear p3); (try clear q3); (try clear hx3); (try clear hf3); (try clear c4); (try clear c4b0); (try clear c4b1); (try clear c6); (try clear p6); (try clear c8); (try clear c9); (try clear c10); (try clear c12); (try clear c15); (try clear c15b0); (try clear c16); (try clear c16b0); (try clear c17); (try clear c17b0); (try clear c19); (try clear c19b0); (try clear c20); (try clear c20b0); (try clear p20); (try clear q20); (try clear hx20); (try clear c21); (try clear c21b0); (try clear c22); (try clear c22b0); (try clear c23); (try clear c23b0); (try clear p24); (try clear q24); (try clear hx24); (try clear hf24); (try clear c25); (try clear c25b0); (try clear c26); (try clear c26b0); (try clear p27); (try clear q27); (try clear hx27); (try clear hf27); (try clear c28); (try clear c28b0); (try clear p29); (try clear q29); (try clear hx29); (try clear hf29); (try clear c30); (try clear c30b0); (try clear p31); (try clear q31); (try clear hx31); (try clear hf31); (try clear c32); (try clear c46); (try clear hcz13_0); (try clear hcz33_0); (try clear hcz33_1); (try clear hcz36_0); (try clear hcz36_1); (try clear hcz47_0); (try clear hcz47_1); (try clear hcz7_0); (try clear hcz7_1); (try clear hfz13_0); (try clear hfz33_0); (try clear hfz33_1); (try clear hfz36_0); (try clear hfz36_1); (try clear hfz47_0); (try clear hfz47_1); (try clear hfz7_0); (try clear hfz7_1); (try clear hx202_0); (try clear hx206_0); (try clear hx207_0); (try clear hx24_0); (try clear hx27_0); (try clear hx29_0); (try clear hx31_0); (try clear p2); (try clear p202); (try clear p206); (try clear p207); (try clear p24); (try clear p27); (try clear p29); (try clear p31); (try clear q202); (try clear q206); (try clear q207); (try clear q24); (try clear q27); (try clear q29); (try clear q31); obtain ⟨x12_2, x67_2, rfl, rfl, HA, HK2, HO_7, HO_65, HO_Z0, HO_Z2, BK194, BK198, HB⟩ := hrel
       cases gk with
       | zero => exact absurd HA.out (by simp [impl_ribbon.l1])
       | succ k2 =>
        have H := HA.out; clear HA; simp only [impl_ribbon.l1] at H
        by_cases c54 : x67_2 < (t215.length : Int)
        ·
         rw [if_pos c54] at H; have c54b0 := decide_eq_true c54; clear c54
         by_cases c55 : 0 ≤ x67_2
         ·
          rw [if_pos c55] at H; have c55b0 := decide_eq_true c55; clear c55
          by_cases c56 : x67_2 < (t215.length : Int)
          ·
           rw [if_pos c56] at H; have c56b0 := decide_eq_true c56; clear c56
           by_cases c57 : x67_2 = (rd t215 x67_2)
           ·
            rw [if_pos c57] at H; have c57b0 := beq_iff_eq.mpr c57; have c57b1 := bne_eq_false_iff_eq.mpr c57; clear c57; have H' := Az H; clear H; have p218 : 0 ≤ (x67_2 : Int) := oA; have q218 : x67_2 < (t215.length : Int) := oA; obtain ⟨ad218, e218, hx218_0⟩ := Kd.at_int (Kd.R_reads' HO_65.out).2.2 x67_2 p218 q218
            cases e218
            replace p218 := eq_true p218; replace q218 := eq_true q218
            go_wp2
            (first | go_roundg k2 | (refine Handed.intro k2 ?measure ?_; rotate_left; go_step; (try simp only [add_plain]); (repeat apply Exists.intro); refine ⟨?rel, rfl⟩))
            case measure => have := HK1.out; have := HK2.out; omega
            case rel => exact ⟨(wrap64 (x12_2 + 1)), (wrap64 (x67_2 + 1)), rS, rS, H', ⟨by have := HK1.out; have := HK2.out; omega⟩, ⟨rU HO_7.out⟩, ⟨rU HO_65.out⟩, ⟨vU HO_Z0.out⟩, ⟨rU HO_Z2.out⟩, ⟨kU BK194.out⟩, ⟨kU BK198.out⟩, ⟨bU2 HB.out GE194.out GE198.out⟩⟩
           ·
            rw [if_neg c57] at H; have c57b0 := beq_eq_false_iff_ne.mpr c57; have c57b1 := bne_iff_ne.mpr c57; have H' := Az H; clear H; have p218 : 0 ≤ (x67_2 : Int) := oA; have q218 : x67_2 < (t215.length : Int) := oA; obtain ⟨ad218, e218, hx218_0⟩ := Kd.at_int (Kd.R_reads' HO_65.out).2.2 x67_2 p218 q218
            cases e218
            replace p218 := eq_true p218; replace q218 := eq_true q218
            go_wp2
            (first | go_roundg k2 | (refine Handed.intro k2 ?measure ?_; rotate_left; go_step; (try simp only [add_plain]); (repeat apply Exists.intro); refine ⟨?rel, rfl⟩))
            case measure => have := HK1.out; have := HK2.out; omega
            case rel => exact ⟨(x12_2), (wrap64 (x67_2 + 1)), rS, rS, H', ⟨by have := HK1.out; have := HK2.out; omega⟩, ⟨rU HO_7.out⟩, ⟨rU HO_65.out⟩, ⟨vU HO_Z0.out⟩, ⟨rU HO_Z2.out⟩, ⟨kU BK194.out⟩, ⟨kU BK198.out⟩, ⟨bU2 HB.out GE194.out GE198.out⟩⟩
          ·
           rw [if_neg c56] at H
           exact absurd H (by simp)
         ·
          rw [if_neg c55] at H
          exact absurd H (by simp)
        ·
         rw [if_neg c54] at H; have c54b0 := decide_eq_false c54; clear c54; replace H := Option.bind_eq_some_iff.mp H; obtain ⟨t219, A580, H⟩ := H; replace H : (impl_ribbon.l2 k2 l1 (l0_0.length : Int) x7_1 x12_2 0 t219 (t219.length : Int) 0 l0_0 l0_1 xZ2_1) = some r := H; have A58 := Az A580; clear A580; have H' := Az H; clear H; have hnb59 := NB194_198.out; have hnc59 := NB198_194.out; have hcz60_0 : wr.cell? ⟨gb194, 0, none⟩ = some (.slice A0_0 l0_0.length c0_0) := (blk_cell BK194.out 0).trans rfl; have hcz60_1 : wr.cell? ⟨gb194, 1, none⟩ = some (.slice A0_1 l0_1.length c0_1) := (blk_cell BK194.out 1).trans rfl; have hfz60_0 := blk_frozen BK194.out 0; have hfz60_1 := blk_frozen BK194.out 1
         go_wp2_with (first | ((with_reducible refine gate_callee (f := 63) rfl ?_); refine goesL_ (some 80) rfl rfl Try.func63 (by kernel_rfl) rfl #[.slice A0_0 l0_0.length c0_0] rfl (by (try simp only [List.map_toArray, List.map_cons, List.map_nil]); first | done | rfl | (simp only [List.length_drop, List.length_take]; rfl)) ?_; (with_reducible refine (impl_cyclesOf.calls k2 _ _ l0_0 t219 _ ?side1 ?side2 A58.out).mono ?_); (case side1 => exact cU ((Kd.V_reads' HO_Z0.out).2.2)); (case side2 => exact (Kd.V_reads' HO_Z0.out).2.1); rintro e w61 ⟨v220, rfl, ho0, hb⟩; refine ⟨_, rfl, ?_⟩; have n0 := Az (Kd.R_below (rU HO_7.out) hb); have n1 := Az (Kd.R_below (rU HO_65.out) hb); have n2 := Az (Kd.V_elder' (vU HO_Z0.out) (by first | exact Kd.N_base ho0 | exact Kd.S_base ho0 | exact Kd.R_base ho0) hb); have n3 := Az (Kd.R_below (rU HO_Z2.out) hb); have n4 := Az (Kd.N_lower (Kd.N_mono (ok' := fun k_ => (P0_0_ k_ ∨ w.heap.size ≤ k_) ∧ some k_ ≠ (.slice Ao48 x7_1.length co48 : Value).ownBlock ∧ some k_ ≠ (.slice Ao53 t215.length co53 : Value).ownBlock ∧ some k_ ≠ (uZ2 : Value).ownBlock ∧ k_ ≠ gb194 ∧ k_ ≠ gb198) (Kd.S_N (Kd.S_bound ho0)) (fun k_ hk_ => ⟨(.inr (Nat.le_trans (below_size (bU2 HB.out GE194.out GE198.out)) hk_.2.1)), (Kd.fresh' (Kd.R_lt (rU HO_7.out)) k_ hk_.2.1), (Kd.fresh' (Kd.R_lt (rU HO_65.out)) k_ hk_.2.1), (Kd.fresh' (Kd.R_lt (rU HO_Z2.out)) k_ hk_.2.1), (Kd.freshB (g := gb194) (o := .cells #[.slice A0_0 l0_0.length c0_0, .slice A0_1 l0_1.length c0_1] 25 (0, 0)) (kU BK194.out) k_ hk_.2.1), (Kd.freshB (g := gb198) (o := .cells #[uZ2] 78 (0, 0)) (kU BK198.out) k_ hk_.2.1)⟩)) (below_size (bU2 HB.out GE194.out GE198.out))); have n5 := Az (blk_below (g := gb194) (o := .cells #[.slice A0_0 l0_0.length c0_0, .slice A0_1 l0_1.length c0_1] 25 (0, 0)) (kU BK194.out) hb); have n6 := Az (blk_below (g := gb198) (o := .cells #[uZ2] 78 (0, 0)) (kU BK198.out) hb); have n7 := Az (below_step (bU2 HB.out GE194.out GE198.out) hb); clear HO_7 HO_65 HO_Z0 HO_Z2 BK194 BK198 HB; have HO_7 := n0; have HO_65 := n1; have HO_Z0 := n2; have HO_Z2 := n3; have HO221 := n4; have BK194 := n5; have BK198 := n6; have HB := n7; clear n0 n1 n2 n3 n4 n5 n6 n7; (try clear hb); (try clear hb2); (try clear hk); (try clear hi); (try clear ho0); obtain ⟨Ao62, co62, eo62⟩ := Kd.N_slice HO221.out; subst eo62))
         go_loopg [15, 82] k2 (fun kq v15 v82 w' => ∃ (x15_3 : Int) (x82_3 : Int), v15 = .int .i64 x15_3 ∧ v82 = .int .i64 x82_3 ∧ Aside0 (impl_ribbon.l2 kq l1 (l0_0.length : Int) x7_1 x12_2 x15_3 t219 (t219.length : Int) x82_3 l0_0 l0_1 xZ2_1 = some r) ∧ Aside0 (kq ≤ k2) ∧ Aside0 (Kd.R (Kd.int .i64) 3 w' w.heap.size (fun k_ => (w.heap.size ≤ k_)) (.slice Ao48 x7_1.length co48) x7_1) ∧ Aside0 (Kd.N (Kd.slice 3 (Kd.int .i64)) 23 w' w.heap.size (fun k_ => (P0_0_ k_ ∨ w.heap.size ≤ k_) ∧ some k_ ≠ ((.slice Ao48 x7_1.length co48) : Value).ownBlock ∧ some k_ ≠ (uZ2 : Value).ownBlock ∧ k_ ≠ gb194 ∧ k_ ≠ gb198) (.slice Ao62 t219.length co62) t219) ∧ Aside0 (Kd.V (Kd.int .i64) 3 w' w.heap.size (fun k_ => (P0_0_ k_ ∨ w.heap.size ≤ k_) ∧ some k_ ≠ ((.slice Ao48 x7_1.length co48) : Value).ownBlock ∧ some k_ ≠ ((.slice Ao62 t219.length co62) : Value).ownBlock ∧ some k_ ≠ (uZ2 : Value).ownBlock ∧ k_ ≠ gb194 ∧ k_ ≠ gb198) (.slice A0_0 l0_0.length c0_0) l0_0) ∧ Aside0 (Kd.R Kd.bool 4 w' w.heap.size (fun k_ => (w.heap.size ≤ k_)) uZ2 xZ2_1) ∧ Aside0 (w'.heap[gb194]? = some (.cells #[(.slice A0_0 l0_0.length c0_0), (.slice A0_1 l0_1.length c0_1)] 25 (0, 0))) ∧ Aside0 (w'.heap[gb198]? = some (.cells #[uZ2] 78 (0, 0))) ∧ Aside0 (Below w.heap.size w w'))
         case atStart => exact ⟨(0), (0), rS, rS, H', ⟨Nat.le_refl _⟩, ⟨by (with_reducible repeat (first | apply Kd.R_alloc | apply Kd.R_drewN | apply Kd.R_drew)); exact Kd.R_mono HO_7.out (fun _ hk => hk.1)⟩, ⟨by (with_reducible repeat (first | apply Kd.N_alloc | apply Kd.N_drewN | apply Kd.N_drew)); exact Kd.N_mono HO221.out (fun _ hk => ⟨hk.1, ⟨hk.2.1, ⟨hk.2.2.2.1, ⟨hk.2.2.2.2.1, hk.2.2.2.2.2⟩⟩⟩⟩)⟩, ⟨by (with_reducible repeat (first | apply Kd.V_alloc | apply Kd.V_drewN | apply Kd.V_drew)); exact Kd.V_mono HO_Z0.out (fun _ hk => ⟨hk.1.1, ⟨hk.1.2.1, ⟨hk.2, ⟨hk.1.2.2.2.1, ⟨hk.1.2.2.2.2.1, hk.1.2.2.2.2.2⟩⟩⟩⟩⟩)⟩, ⟨rU HO_Z2.out⟩, ⟨kU BK194.out⟩, ⟨kU BK198.out⟩, ⟨bU2 HB.out GE194.out GE198.out⟩⟩
         case round =>
          clear H'; (try clear c1); (try clear c2); (try clear p2); (try clear q2); (try clear hx2); (try clear hf2); (try clear c3); (try clear c3b0); (try clear c3b1); (try clear p3); (try clear q3); (try clear hx3); (try clear hf3); (try clear c4); (try clear c4b0); (try clear c4b1); (try clear c5); (try clear c6); (try clear p6); (try clear c8); (try clear c9); (try clear c10); (try clear c12); (try clear c15); (try clear c15b0); (try clear c16); (try clear c16b0); (try clear c17); (try clear c17b0); (try clear c19); (try clear c19b0); (try clear c20); (try clear c20b0); (try clear p20); (try clear q20); (try clear hx20); (try clear c21); (try clear c21b0); (try clear p21); (try clear q21); (try clear hx21); (try clear c22); (try clear c22b0); (try clear c23); (try clear c23b0); (try clear p24); (try clear q24); (try clear hx24); (try clear hf24); (try clear c25); (try clear c25b0); (try clear c26); (try clear c26b0); (try clear p27); (try clear q27); (try clear hx27); (try clear hf27); (try clear c28); (try clear c28b0); (try clear p29); (try clear q29); (try clear hx29); (try clear hf29); (try clear c30); (try clear c30b0); (try clear p31); (try clear q31); (try clear hx31); (try clear hf31); (try clear c32); (try clear c46); (try clear c54); (try clear c54b0); (try clear c55); (try clear c55b0); (try clear c56); (try clear c56b0); (try clear c57); (try clear c57b0); (try clear c57b1); (try clear c59); (try clear hcz13_0); (try clear hcz33_0); (try clear hcz33_1); (try clear hcz36_0); (try clear hcz36_1); (try clear hcz47_0); (try clear hcz47_1); (try clear hcz60_0); (try clear hcz60_1); (try clear hcz7_0); (try clear hcz7_1); (try clear hfz13_0); (try clear hfz33_0); (try clear hfz33_1); (try clear hfz36_0); (try clear hfz36_1); (try clear hfz47_0); (try clear hfz47_1); (try clear hfz60_0); (try clear hfz60_1); (try clear hfz7_0); (try clear hfz7_1); (try clear hx202_0); (try clear hx206_0); (try clear hx207_0); (try clear hx218_0); (try clear hx24_0); (try clear hx27_0); (try clear hx29_0); (try clear hx31_0); (try clear p2); (try clear p20); (try clear p202); (try clear p206); (try clear p207); (try clear p218); (try clear p24); (try clear p27); (try clear p29); (try clear p3); (try clear p31); (try clear p6); (try clear q2); (try clear q20); (try clear q202); (try clear q206); (try clear q207); (try clear q218); (try clear q24); (try clear q27); (try clear q29); (try clear q3); (try clear q31); obtain ⟨x15_3, x82_3, rfl, rfl, HA, HK3, HO_7, HO_80, HO_Z0, HO_Z2, BK194, BK198, HB⟩ := hrel
          cases gk with
          | zero => exact absurd HA.out (by simp [impl_ribbon.l2])
          | succ k3 =>
           have H := HA.out; clear HA; simp only [impl_ribbon.l2] at H
           by_cases c63 : x82_3 < (t219.length : Int)
           ·
            rw [if_pos c63] at H; have c63b0 := decide_eq_true c63; clear c63
            by_cases c64 : 0 ≤ x82_3
            ·
             rw [if_pos c64] at H; have c64b0 := decide_eq_true c64; clear c64
             by_cases c65 : x82_3 < (t219.length : Int)
             ·
              rw [if_pos c65] at H; have c65b0 := decide_eq_true c65; clear c65; replace H := Option.bind_eq_some_iff.mp H; obtain ⟨t223, A660, H⟩ := H; replace H : (if t223 = true then (impl_ribbon.l2 k3 l1 (l0_0.length : Int) x7_1 x12_2 x15_3 t219 (t219.length : Int) (wrap64 (x82_3 + 1)) l0_0 l0_1 xZ2_1) else (impl_ribbon.l2 k3 l1 (l0_0.length : Int) x7_1 x12_2 (wrap64 (x15_3 + 1)) t219 (t219.length : Int) (wrap64 (x82_3 + 1)) l0_0 l0_1 xZ2_1)) = some r := H; have A66 := Az A660; clear A660
              by_cases c67 : t223 = true
              ·
               subst c67
               have H1 : (impl_ribbon.l2 k3 l1 (l0_0.length : Int) x7_1 x12_2 x15_3 t219 (t219.length : Int) (wrap64 (x82_3 + 1)) l0_0 l0_1 xZ2_1) = some r := by rw [if_pos rfl] at H; exact H
               clear H; have H := H1; clear H1; have H' := Az H; clear H; have p222 : 0 ≤ (x82_3 : Int) := oA; have q222 : x82_3 < (t219.length : Int) := oA; obtain ⟨ad222, A222_0, c222_0, e222, hx222_0, hl222_0, hi222_0⟩ := at_L1 (Kd.N_reads' HO_80.out).2.2 x82_3 p222 q222
               cases e222
               obtain ⟨ce222, hce222, hMe222, hcc222⟩ := Kd.N_get HO_80.out [] x82_3 p222 (by first | exact q222 | exact oA | (have e_ := (Kd.N_reads' HO_80.out).1; omega)); obtain ⟨ua222_0, uc222_0, rfl, ul222_0, ge222_0⟩ := Kd.FK_slice_open hMe222; have hv222_0 := hcc222 0 _ rfl; rw [Nat.add_zero, show ((Kd.slice 3 (Kd.int .i64))).sz = 1 from rfl, Nat.mul_one] at hv222_0; replace hv222_0 := Option.some.inj (hv222_0.symm.trans hx222_0); injection hv222_0 with hva_ hvn_ hvc_; rw [hva_] at ge222_0; rw [hvc_] at ul222_0; have HL222_0 := Az (show Kd.V (Kd.int .i64) 3 _ w.heap.size _ _ (rd_L1 t219 x82_3) from Kd.V_mk ul222_0 ge222_0); clear hva_ hvn_ hvc_ ge222_0 ul222_0 hcc222 hce222; have HR222_0 := Az hi222_0; have HC222_0 := Az hl222_0; clear hi222_0 hl222_0; replace p222 := eq_true p222; replace q222 := eq_true q222; obtain ⟨Ao68, co68, eo68⟩ := Kd.R_slice HO_Z2.out; subst eo68
               go_wp2_with (first | ((with_reducible refine gate_callee (f := 102) rfl ?_); refine goesL_ (some 88) rfl rfl Try.func102 (by kernel_rfl) rfl #[.slice A222_0 (rd_L1 t219 x82_3).length c222_0, .func (.func 103) #[] #[.pointer (some ⟨gb198, 0, none⟩)]] rfl (by (try simp only [List.map_toArray, List.map_cons, List.map_nil]); first | done | rfl | (simp only [List.length_drop, List.length_take]; rfl)) ?_; (with_reducible refine (containsF.calls k3 _ _ (rd_L1 t219 x82_3) gb198 Ao68 co68 xZ2_1 true _ ?side1 ?side2 ?side3 ?side4 ?side5 A66.out).mono ?_); (case side1 => (with_reducible repeat (first | refine blk_drewN ?_ _ | refine blk_drew ?_ | refine blk_alloc ?_ _)); exact BK198.out); (case side2 => exact cU (by repeat (first | (with_reducible exact HR222_0.out) | (with_reducible refine Kd.C_alloc ?_ _) | (with_reducible refine Kd.C_drewN ?_ _) | (with_reducible refine Kd.C_drew ?_) | exact HR222_0.out))); (case side3 => exact HC222_0.out); (case side4 => exact cU ((Kd.R_reads' HO_Z2.out).2.2)); (case side5 => exact (Kd.R_reads' HO_Z2.out).2.1); rintro e w69 ⟨rfl, hb⟩; refine ⟨_, rfl, ?_⟩; have n0 := Az (Kd.R_below (rU HO_7.out) hb); have n1 := Az (Kd.N_below (nU HO_80.out) hb); have n2 := Az (Kd.V_below (vU HO_Z0.out) hb); have n3 := Az (Kd.R_below (rU HO_Z2.out) hb); have n4 := Az (Kd.V_below (vU HL222_0.out) hb); have n5 := Az (blk_below (g := gb194) (o := .cells #[.slice A0_0 l0_0.length c0_0, .slice A0_1 l0_1.length c0_1] 25 (0, 0)) (kU BK194.out) hb); have n6 := Az (blk_below (g := gb198) (o := .cells #[.slice Ao68 xZ2_1.length co68] 78 (0, 0)) (kU BK198.out) hb); have n7 := Az (Kd.C_below (by repeat (first | (with_reducible exact HR222_0.out) | (with_reducible refine Kd.C_alloc ?_ _) | (with_reducible refine Kd.C_drewN ?_ _) | (with_reducible refine Kd.C_drew ?_) | exact HR222_0.out)) hb); have n8 := Az (below_step (bU2 HB.out GE194.out GE198.out) hb); clear HO_7 HO_80 HO_Z0 HO_Z2 HL222_0 BK194 BK198 HR222_0 HB; have HO_7 := n0; have HO_80 := n1; have HO_Z0 := n2; have HO_Z2 := n3; have HL222_0 := n4; have BK194 := n5; have BK198 := n6; have HR222_0 := n7; have HB := n8; clear n0 n1 n2 n3 n4 n5 n6 n7 n8; (try clear hb); (try clear hb2); (try clear hk); (try clear hi)))
               (first | go_roundg k3 | (refine Handed.intro k3 ?measure ?_; rotate_left; go_step; (try simp only [add_plain]); (repeat apply Exists.intro); refine ⟨?rel, rfl⟩))
               case measure => have := HK1.out; have := HK2.out; have := HK3.out; omega
               case rel => exact ⟨(x15_3), (wrap64 (x82_3 + 1)), rS, rS, H', ⟨by have := HK1.out; have := HK2.out; have := HK3.out; omega⟩, ⟨rU HO_7.out⟩, ⟨nU HO_80.out⟩, ⟨vU HO_Z0.out⟩, ⟨rU HO_Z2.out⟩, ⟨kU BK194.out⟩, ⟨kU BK198.out⟩, ⟨bU2 HB.out GE194.out GE198.out⟩⟩
              ·
               replace c67 := Bool.eq_false_iff.mpr c67; subst c67
               have H1 : (impl_ribbon.l2 k3 l1 (l0_0.length : Int) x7_1 x12_2 (wrap64 (x15_3 + 1)) t219 (t219.length : Int) (wrap64 (x82_3 + 1)) l0_0 l0_1 xZ2_1) = some r := by rw [if_neg (show ¬ (false = true) by decide)] at H; exact H
               clear H; have H := H1; clear H1; have H' := Az H; clear H; have p222 : 0 ≤ (x82_3 : Int) := oA; have q222 : x82_3 < (t219.length : Int) := oA; obtain ⟨ad222, A222_0, c222_0, e222, hx222_0, hl222_0, hi222_0⟩ := at_L1 (Kd.N_reads' HO_80.out).2.2 x82_3 p222 q222
               cases e222
               obtain ⟨ce222, hce222, hMe222, hcc222⟩ := Kd.N_get HO_80.out [] x82_3 p222 (by first | exact q222 | exact oA | (have e_ := (Kd.N_reads' HO_80.out).1; omega)); obtain ⟨ua222_0, uc222_0, rfl, ul222_0, ge222_0⟩ := Kd.FK_slice_open hMe222; have hv222_0 := hcc222 0 _ rfl; rw [Nat.add_zero, show ((Kd.slice 3 (Kd.int .i64))).sz = 1 from rfl, Nat.mul_one] at hv222_0; replace hv222_0 := Option.some.inj (hv222_0.symm.trans hx222_0); injection hv222_0 with hva_ hvn_ hvc_; rw [hva_] at ge222_0; rw [hvc_] at ul222_0; have HL222_0 := Az (show Kd.V (Kd.int .i64) 3 _ w.heap.size _ _ (rd_L1 t219 x82_3) from Kd.V_mk ul222_0 ge222_0); clear hva_ hvn_ hvc_ ge222_0 ul222_0 hcc222 hce222; have HR222_0 := Az hi222_0; have HC222_0 := Az hl222_0; clear hi222_0 hl222_0; replace p222 := eq_true p222; replace q222 := eq_true q222; obtain ⟨Ao70, co70, eo70⟩ := Kd.R_slice HO_Z2.out; subst eo70
               go_wp2_with (first | ((with_reducible refine gate_callee (f := 102) rfl ?_); refine goesL_ (some 88) rfl rfl Try.func102 (by kernel_rfl) rfl #[.slice A222_0 (rd_L1 t219 x82_3).length c222_0, .func (.func 103) #[] #[.pointer (some ⟨gb198, 0, none⟩)]] rfl (by (try simp only [List.map_toArray, List.map_cons, List.map_nil]); first | done | rfl | (simp only [List.length_drop, List.length_take]; rfl)) ?_; (with_reducible refine (containsF.calls k3 _ _ (rd_L1 t219 x82_3) gb198 Ao70 co70 xZ2_1 false _ ?side1 ?side2 ?side3 ?side4 ?side5 A66.out).mono ?_); (case side1 => (with_reducible repeat (first | refine blk_drewN ?_ _ | refine blk_drew ?_ | refine blk_alloc ?_ _)); exact BK198.out); (case side2 => exact cU (by repeat (first | (with_reducible exact HR222_0.out) | (with_reducible refine Kd.C_alloc ?_ _) | (with_reducible refine Kd.C_drewN ?_ _) | (with_reducible refine Kd.C_drew ?_) | exact HR222_0.out))); (case side3 => exact HC222_0.out); (case side4 => exact cU ((Kd.R_reads' HO_Z2.out).2.2)); (case side5 => exact (Kd.R_reads' HO_Z2.out).2.1); rintro e w71 ⟨rfl, hb⟩; refine ⟨_, rfl, ?_⟩; have n0 := Az (Kd.R_below (rU HO_7.out) hb); have n1 := Az (Kd.N_below (nU HO_80.out) hb); have n2 := Az (Kd.V_below (vU HO_Z0.out) hb); have n3 := Az (Kd.R_below (rU HO_Z2.out) hb); have n4 := Az (Kd.V_below (vU HL222_0.out) hb); have n5 := Az (blk_below (g := gb194) (o := .cells #[.slice A0_0 l0_0.length c0_0, .slice A0_1 l0_1.length c0_1] 25 (0, 0)) (kU BK194.out) hb); have n6 := Az (blk_below (g := gb198) (o := .cells #[.slice Ao70 xZ2_1.length co70] 78 (0, 0)) (kU BK198.out) hb); have n7 := Az (Kd.C_below (by repeat (first | (with_reducible exact HR222_0.out) | (with_reducible refine Kd.C_alloc ?_ _) | (with_reducible refine Kd.C_drewN ?_ _) | (with_reducible refine Kd.C_drew ?_) | exact HR222_0.out)) hb); have n8 := Az (below_step (bU2 HB.out GE194.out GE198.out) hb); clear HO_7 HO_80 HO_Z0 HO_Z2 HL222_0 BK194 BK198 HR222_0 HB; have HO_7 := n0; have HO_80 := n1; have HO_Z0 := n2; have HO_Z2 := n3; have HL222_0 := n4; have BK194 := n5; have BK198 := n6; have HR222_0 := n7; have HB := n8; clear n0 n1 n2 n3 n4 n5 n6 n7 n8; (try clear hb); (try clear hb2); (try clear hk); (try clear hi)))
               (first | go_roundg k3 | (refine Handed.intro k3 ?measure ?_; rotate_left; go_step; (try simp only [add_plain]); (repeat apply Exists.intro); refine ⟨?rel, rfl⟩))
               case measure => have := HK1.out; have := HK2.out; have := HK3.out; omega
               case rel => exact ⟨(wrap64 (x15_3 + 1)), (wrap64 (x82_3 + 1)), rS, rS, H', ⟨by have := HK1.out; have := HK2.out; have := HK3.out; omega⟩, ⟨rU HO_7.out⟩, ⟨nU HO_80.out⟩, ⟨vU HO_Z0.out⟩, ⟨rU HO_Z2.out⟩, ⟨kU BK194.out⟩, ⟨kU BK198.out⟩, ⟨bU2 HB.out GE194.out GE198.out⟩⟩
             ·
              rw [if_neg c65] at H
              exact absurd H (by simp)
            ·
             rw [if_neg c64] at H
             exact absurd H (by simp)
           ·
            rw [if_neg c63] at H; have c63b0 := decide_eq_false c63; clear c63
            by_cases c72 : 0 ≤ (l0_0.length : Int)
            ·
             rw [if_pos c72] at H; have c72b0 := eq_true c72; have c72b1 := decide_eq_true c72; clear c72
             by_cases c73 : ((l0_0.length : Int) : Int).toNat ≤ 281474976710656
             ·
              rw [if_pos c73] at H; have c73b0 := eq_true c73; have c73b1 := decide_eq_true c73; clear c73; obtain ⟨y224, hy224⟩ : ∃ y_ : List Bool, y_ = (List.replicate ((l0_0.length : Int) : Int).toNat false) := ⟨_, rfl⟩; replace H : (impl_ribbon.l3 k3 l1 x7_1 x12_2 x15_3 y224 (l0_0.length : Int) 0 l0_0 l0_1 xZ2_1) = some r := hR hy224 H; have Ny224 := Az hy224; clear hy224; have H' := Az H; clear H
              go_wp2_with (first | ((with_reducible refine gate_dst (N := 94) rfl ?_); refine Kd.R_make Kd.bool _ 4 rfl (N := 94) rfl 78 _ _ rfl (l0_0.length : Int) rfl rfl Try.underlying78 (.bool false) 1 info4 rfl (by decide) (by omega) false (ok := fun _ => True) (okp := fun _ => True) rfl (fun _ hk => hk) trivial (oA) (Nat.le_trans (Nat.mul_le_mul_right _ (oA : (l0_0.length : Int).toNat ≤ 281474976710656)) (by omega)) (Below.refl _ _) (Nat.le_refl _) ?_; intro v225 w74 ho75 hb hg_ hnew_; clear hg_ hnew_; (first | rw [← Ny224.out] at ho75 | (simp only [Int.reduceToNat] at ho75; rw [← Ny224.out] at ho75)); have n0 := Az (Kd.R_below (rU HO_7.out) hb); have n1 := Az (Kd.N_elder' (nU HO_80.out) (Kd.R_base ho75) hb); have n2 := Az (Kd.V_elder' (vU HO_Z0.out) (Kd.R_base ho75) hb); have n3 := Az (Kd.R_elder' (rU HO_Z2.out) (Kd.R_base ho75) hb); have n4 := Az (Kd.R_lower (Kd.R_new' (Kd.R_newM (M := fun k_ => (w.heap.size ≤ k_)) ho75 (below_size (bU2 HB.out GE194.out GE198.out)) (fun k_ h_ => h_)) (Kd.R_lt (rU HO_Z2.out))) (below_size (bU2 HB.out GE194.out GE198.out))); have n5 := Az (blk_below (g := gb194) (o := .cells #[.slice A0_0 l0_0.length c0_0, .slice A0_1 l0_1.length c0_1] 25 (0, 0)) (kU BK194.out) hb); have n6 := Az (blk_below (g := gb198) (o := .cells #[uZ2] 78 (0, 0)) (kU BK198.out) hb); have n7 := Az (below_step (bU2 HB.out GE194.out GE198.out) hb); clear HO_7 HO_80 HO_Z0 HO_Z2 BK194 BK198 HB; have HO_7 := n0; have HO_80 := n1; have HO_Z0 := n2; have HO_Z2 := n3; have HO226 := n4; have BK194 := n5; have BK198 := n6; have HB := n7; clear n0 n1 n2 n3 n4 n5 n6 n7; clear hb ho75))
              go_loopg [15, 96] k3 (fun kq v15 v96 w' => ∃ (x15_4 : Int) (x18_4 : List Bool) (x96_4 : Int), v15 = .int .i64 x15_4 ∧ v96 = .int .i64 x96_4 ∧ Aside0 (impl_ribbon.l3 kq l1 x7_1 x12_2 x15_4 x18_4 (l0_0.length : Int) x96_4 l0_0 l0_1 xZ2_1 = some r) ∧ Aside0 (kq ≤ k3) ∧ Aside0 (Kd.R (Kd.int .i64) 3 w' w.heap.size (fun k_ => (w.heap.size ≤ k_)) (.slice Ao48 x7_1.length co48) x7_1) ∧ Aside0 (Kd.R Kd.bool 4 w' w.heap.size (fun k_ => (w.heap.size ≤ k_) ∧ some k_ ≠ (uZ2 : Value).ownBlock) v225 x18_4) ∧ Aside0 (Kd.V (Kd.int .i64) 3 w' w.heap.size (fun k_ => (P0_0_ k_ ∨ w.heap.size ≤ k_) ∧ some k_ ≠ ((.slice Ao48 x7_1.length co48) : Value).ownBlock ∧ some k_ ≠ (v225 : Value).ownBlock ∧ some k_ ≠ (uZ2 : Value).ownBlock ∧ k_ ≠ gb194 ∧ k_ ≠ gb198) (.slice A0_0 l0_0.length c0_0) l0_0) ∧ Aside0 (Kd.R Kd.bool 4 w' w.heap.size (fun k_ => (w.heap.size ≤ k_) ∧ some k_ ≠ (v225 : Value).ownBlock) uZ2 xZ2_1) ∧ Aside0 (w'.heap[gb194]? = some (.cells #[(.slice A0_0 l0_0.length c0_0), (.slice A0_1 l0_1.length c0_1)] 25 (0, 0))) ∧ Aside0 (w'.heap[gb198]? = some (.cells #[uZ2] 78 (0, 0))) ∧ Aside0 (Below w.heap.size w w'))
              case atStart => exact ⟨(x15_3), (y224), (0), rS, rS, H', ⟨Nat.le_refl _⟩, ⟨rU HO_7.out⟩, ⟨by (with_reducible repeat (first | apply Kd.R_alloc | apply Kd.R_drewN | apply Kd.R_drew)); exact Kd.R_mono HO226.out (fun _ hk => ⟨hk.1.1, hk.2⟩)⟩, ⟨by (with_reducible repeat (first | apply Kd.V_alloc | apply Kd.V_drewN | apply Kd.V_drew)); exact Kd.V_mono HO_Z0.out (fun _ hk => ⟨hk.1.1, ⟨hk.1.2.1, ⟨hk.2, ⟨hk.1.2.2.2.1, ⟨hk.1.2.2.2.2.1, hk.1.2.2.2.2.2⟩⟩⟩⟩⟩)⟩, ⟨rU HO_Z2.out⟩, ⟨kU BK194.out⟩, ⟨kU BK198.out⟩, ⟨bU2 HB.out GE194.out GE198.out⟩⟩
              case round =>
               clear H'; (try clear c1); (try clear c2); (try clear p2); (try clear q2); (try clear hx2); (try clear hf2); (try clear c3); (try clear c3b0); (try clear c3b1); (try clear p3); (try clear q3); (try clear hx3); (try clear hf3); (try clear c4); (try clear c4b0); (try clear c4b1); (try clear c5); (try clear c6); (try clear p6); (try clear c7); (try clear c8); (try clear c9); (try clear c10); (try clear c12); (try clear c15); (try clear c15b0); (try clear c16); (try clear c16b0); (try clear c17); (try clear c17b0); (try clear c19); (try clear c19b0); (try clear c20); (try clear c20b0); (try clear p20); (try clear q20); (try clear hx20); (try clear c21); (try clear c21b0); (try clear p21); (try clear q21); (try clear hx21); (try clear c22); (try clear c22b0); (try clear p22); (try clear q22); (try clear hx22); (try clear c23); (try clear c23b0); (try clear p24); (try clear q24); (try clear hx24); (try clear hf24); (try clear c25); (try clear c25b0); (try clear c26); (try clear c26b0); (try clear p27); (try clear q27); (try clear hx27); (try clear hf27); (try clear c28); (try clear c28b0); (try clear p29); (try clear q29); (try clear hx29); (try clear hf29); (try clear c30); (try clear c30b0); (try clear p31); (try clear q31); (try clear hx31); (try clear hf31); (try clear c32); (try clear c46); (try clear c54); (try clear c54b0); (try clear c55); (try clear c55b0); (try clear c56); (try clear c56b0); (try clear c57); (try clear c57b0); (try clear c57b1); (try clear c59); (try clear c63); (try clear c63b0); (try clear c64); (try clear c64b0); (try clear p64); (try clear c65); (try clear c65b0); (try clear c67); (try clear c72); (try clear c72b0); (try clear c72b1); (try clear c73); (try clear c73b0); (try clear c73b1); (try clear hcz13_0); (try clear hcz33_0); (try clear hcz33_1); (try clear hcz36_0); (try clear hcz36_1); (try clear hcz47_0); (try clear hcz47_1); (try clear hcz60_0); (try clear hcz60_1); (try clear hcz7_0); (try clear hcz7_1); (try clear hfz13_0); (try clear hfz33_0); (try clear hfz33_1); (try clear hfz36_0); (try clear hfz36_1); (try clear hfz47_0); (try clear hfz47_1); (try clear hfz60_0); (try clear hfz60_1); (try clear hfz7_0); (try clear hfz7_1); (try clear hx202_0); (try clear hx206_0); (try clear hx207_0); (try clear hx218_0); (try clear hx222_0); (try clear hx24_0); (try clear hx27_0); (try clear hx29_0); (try clear hx31_0); (try clear p2); (try clear p20); (try clear p202); (try clear p206); (try clear p207); (try clear p21); (try clear p218); (try clear p222); (try clear p24); (try clear p27); (try clear p29); (try clear p3); (try clear p31); (try clear p6); (try clear q2); (try clear q20); (try clear q202); (try clear q206); (try clear q207); (try clear q21); (try clear q218); (try clear q222); (try clear q24); (try clear q27); (try clear q29); (try clear q3); (try clear q31); obtain ⟨x15_4, x18_4, x96_4, rfl, rfl, HA, HK4, HO_7, HO_18, HO_Z0, HO_Z2, BK194, BK198, HB⟩ := hrel
               cases gk with
               | zero => exact absurd HA.out (by simp [impl_ribbon.l3])
               | succ k4 =>
                have H := HA.out; clear HA; simp only [impl_ribbon.l3] at H
                by_cases c76 : x96_4 < (l0_0.length : Int)
                ·
                 rw [if_pos c76] at H; have c76b0 := decide_eq_true c76; clear c76; have HC77 := Az H; clear H
                 go_upto_region 30 with (fail)
                 go_cut [109] (fun v109 wc => ∃ (kq : Nat) (x109_76 : Bool), v109 = .bool x109_76 ∧ Aside0 (impl_ribbon.j4 kq l1 x7_1 x12_2 x15_4 x18_4 x96_4 (l0_0.length : Int) x96_4 x109_76 l0_0 l0_1 xZ2_1 = some r) ∧ Aside0 (kq ≤ k4) ∧ Aside0 (Kd.R (Kd.int .i64) 3 wc w.heap.size (fun k_ => (w.heap.size ≤ k_)) (.slice Ao48 x7_1.length co48) x7_1) ∧ Aside0 (Kd.R Kd.bool 4 wc w.heap.size (fun k_ => (w.heap.size ≤ k_) ∧ some k_ ≠ (uZ2 : Value).ownBlock) v225 x18_4) ∧ Aside0 (Kd.V (Kd.int .i64) 3 wc w.heap.size (fun k_ => (P0_0_ k_ ∨ w.heap.size ≤ k_) ∧ some k_ ≠ ((.slice Ao48 x7_1.length co48) : Value).ownBlock ∧ some k_ ≠ (v225 : Value).ownBlock ∧ some k_ ≠ (uZ2 : Value).ownBlock ∧ k_ ≠ gb194 ∧ k_ ≠ gb198) (.slice A0_0 l0_0.length c0_0) l0_0) ∧ Aside0 (Kd.R Kd.bool 4 wc w.heap.size (fun k_ => (w.heap.size ≤ k_) ∧ some k_ ≠ (v225 : Value).ownBlock) uZ2 xZ2_1) ∧ Aside0 (wc.heap[gb194]? = some (.cells #[(.slice A0_0 l0_0.length c0_0), (.slice A0_1 l0_1.length c0_1)] 25 (0, 0))) ∧ Aside0 (wc.heap[gb198]? = some (.cells #[uZ2] 78 (0, 0))) ∧ Aside0 (Below w.heap.size w wc))
                 case first =>
                  have H := HC77.out; clear HC77
                  by_cases c78 : 0 ≤ x96_4
                  ·
                   rw [if_pos c78] at H; have c78b0 := decide_eq_true c78; clear c78; (first | rw [c78b0] | (simp only [i64_w, i32_w]; rw [c78b0]) | skip)
                   by_cases c79 : x96_4 < (xZ2_1.length : Int)
                   ·
                    rw [if_pos c79] at H; have c79b0 := decide_eq_true c79; clear c79; obtain ⟨bq80, hbq80⟩ : ∃ b_ : Bool, b_ = (rdOf false xZ2_1 x96_4) := ⟨_, rfl⟩
                    replace H : (if bq80 = true then (if x96_4 < (x18_4.length : Int) then (impl_ribbon.j4 k4 l1 x7_1 x12_2 x15_4 x18_4 x96_4 (l0_0.length : Int) x96_4 (rdOf false x18_4 x96_4) l0_0 l0_1 xZ2_1) else (none)) else (impl_ribbon.j4 k4 l1 x7_1 x12_2 x15_4 x18_4 x96_4 (l0_0.length : Int) x96_4 true l0_0 l0_1 xZ2_1)) = some r := by rw [← hbq80] at H; exact H
                    have Nbq80 := Az hbq80; clear hbq80
                    by_cases c81 : bq80 = true
                    ·
                     subst c81
                     have H1 : (if x96_4 < (x18_4.length : Int) then (impl_ribbon.j4 k4 l1 x7_1 x12_2 x15_4 x18_4 x96_4 (l0_0.length : Int) x96_4 (rdOf false x18_4 x96_4) l0_0 l0_1 xZ2_1) else (none)) = some r := by rw [if_pos rfl] at H; exact H
                     clear H; have H := H1; clear H1
                     by_cases c82 : x96_4 < (x18_4.length : Int)
                     ·
                      rw [if_pos c82] at H; have c82b0 := decide_eq_true c82; clear c82; have H' := Az H; clear H; have hnb83 := NB198_194.out; have hnc83 := NB194_198.out; have hcz84_0 : wr.cell? ⟨gb198, 0, none⟩ = some (uZ2) := (blk_cell BK198.out 0).trans rfl; have hfz84_0 := blk_frozen BK198.out 0; obtain ⟨Ao85, co85, eo85⟩ := Kd.R_slice HO_Z2.out; subst eo85; have p233 : 0 ≤ (x96_4 : Int) := oA; have q233 : x96_4 < (xZ2_1.length : Int) := oA; obtain ⟨ad233, e233, hx233_0⟩ := Kd.at_bool (Kd.R_reads' HO_Z2.out).2.2 x96_4 p233 q233; (try rw [← Nbq80.out] at hx233_0)
                      cases e233
                      replace p233 := eq_true p233; replace q233 := eq_true q233; obtain ⟨Ao86, co86, eo86⟩ := Kd.R_slice HO_18.out; subst eo86; have p234 : 0 ≤ (x96_4 : Int) := oA; have q234 : x96_4 < (x18_4.length : Int) := oA; obtain ⟨ad234, e234, hx234_0⟩ := Kd.at_bool (Kd.R_reads' HO_18.out).2.2 x96_4 p234 q234; (try rw [← Nbq80.out] at hx234_0)
                      cases e234
                      replace p234 := eq_true p234; replace q234 := eq_true q234
                      go_wp2
                      go_meet
                      case rel => exact ⟨_, (rdOf false x18_4 x96_4), rS, H', ⟨by have := HK1.out; have := HK2.out; have := HK3.out; have := HK4.out; first | omega | exact Nat.le_refl _⟩, ⟨rU HO_7.out⟩, ⟨rU HO_18.out⟩, ⟨vU HO_Z0.out⟩, ⟨rU HO_Z2.out⟩, ⟨kU BK194.out⟩, ⟨kU BK198.out⟩, ⟨bU2 HB.out GE194.out GE198.out⟩⟩
                     ·
                      rw [if_neg c82] at H
                      exact absurd H (by simp)
                    ·
                     replace c81 := Bool.eq_false_iff.mpr c81; subst c81
                     have H1 : (impl_ribbon.j4 k4 l1 x7_1 x12_2 x15_4 x18_4 x96_4 (l0_0.length : Int) x96_4 true l0_0 l0_1 xZ2_1) = some r := by rw [if_neg (show ¬ (false = true) by decide)] at H; exact H
                     clear H; have H := H1; clear H1; have H' := Az H; clear H; have hnb87 := NB198_194.out; have hnc87 := NB194_198.out; have hcz88_0 : wr.cell? ⟨gb198, 0, none⟩ = some (uZ2) := (blk_cell BK198.out 0).trans rfl; have hfz88_0 := blk_frozen BK198.out 0; obtain ⟨Ao89, co89, eo89⟩ := Kd.R_slice HO_Z2.out; subst eo89; have p233 : 0 ≤ (x96_4 : Int) := oA; have q233 : x96_4 < (xZ2_1.length : Int) := oA; obtain ⟨ad233, e233, hx233_0⟩ := Kd.at_bool (Kd.R_reads' HO_Z2.out).2.2 x96_4 p233 q233; (try rw [← Nbq80.out] at hx233_0)
                     cases e233
                     replace p233 := eq_true p233; replace q233 := eq_true q233
                     go_wp2
                     go_meet
                     case rel => exact ⟨_, (true), rS, H', ⟨by have := HK1.out; have := HK2.out; have := HK3.out; have := HK4.out; first | omega | exact Nat.le_refl _⟩, ⟨rU HO_7.out⟩, ⟨rU HO_18.out⟩, ⟨vU HO_Z0.out⟩, ⟨rU HO_Z2.out⟩, ⟨kU BK194.out⟩, ⟨kU BK198.out⟩, ⟨bU2 HB.out GE194.out GE198.out⟩⟩
                   ·
                    rw [if_neg c79] at H
                    exact absurd H (by simp)
                  ·
                   rw [if_neg c78] at H
                   exact absurd H (by simp)
                 case rest =>
                  clear HC77; (try clear c1); (try clear c2); (try clear p2); (try clear q2); (try clear hx2); (try clear hf2); (try clear c3); (try clear c3b0); (try clear c3b1); (try clear p3); (try clear q3); (try clear hx3); (try clear hf3); (try clear c4); (try clear c4b0); (try clear c4b1); (try clear c5); (try clear c6); (try clear p6); (try clear c7); (try clear c8); (try clear q8); (try clear c9); (try clear c10); (try clear c12); (try clear c15); (try clear c15b0); (try clear c16); (try clear c16b0); (try clear c17); (try clear c17b0); (try clear c19); (try clear c19b0); (try clear c20); (try clear c20b0); (try clear p20); (try clear q20); (try clear hx20); (try clear c21); (try clear c21b0); (try clear p21); (try clear q21); (try clear hx21); (try clear c22); (try clear c22b0); (try clear p22); (try clear q22); (try clear hx22); (try clear c23); (try clear c23b0); (try clear p23); (try clear q23); (try clear hx23); (try clear p24); (try clear q24); (try clear hx24); (try clear hf24); (try clear c25); (try clear c25b0); (try clear c26); (try clear c26b0); (try clear p27); (try clear q27); (try clear hx27); (try clear hf27); (try clear c28); (try clear c28b0); (try clear p29); (try clear q29); (try clear hx29); (try clear hf29); (try clear c30); (try clear c30b0); (try clear p31); (try clear q31); (try clear hx31); (try clear hf31); (try clear c32); (try clear c46); (try clear c54); (try clear c54b0); (try clear c55); (try clear c55b0); (try clear c56); (try clear c56b0); (try clear c57); (try clear c57b0); (try clear c57b1); (try clear c59); (try clear c63); (try clear c63b0); (try clear c64); (try clear c64b0); (try clear p64); (try clear c65); (try clear c65b0); (try clear c67); (try clear c72); (try clear c72b0); (try clear c72b1); (try clear c73); (try clear c73b0); (try clear c73b1); (try clear c76); (try clear c76b0); (try clear c78); (try clear c78b0); (try clear c79); (try clear c79b0); (try clear c80); (try clear q80); (try clear c81); (try clear c82); (try clear c82b0); (try clear c83); (try clear c87); (try clear hcz13_0); (try clear hcz33_0); (try clear hcz33_1); (try clear hcz36_0); (try clear hcz36_1); (try clear hcz47_0); (try clear hcz47_1); (try clear hcz60_0); (try clear hcz60_1); (try clear hcz7_0); (try clear hcz7_1); (try clear hcz84_0); (try clear hcz88_0); (try clear hfz13_0); (try clear hfz33_0); (try clear hfz33_1); (try clear hfz36_0); (try clear hfz36_1); (try clear hfz47_0); (try clear hfz47_1); (try clear hfz60_0); (try clear hfz60_1); (try clear hfz7_0); (try clear hfz7_1); (try clear hfz84_0); (try clear hfz88_0); (try clear hx202_0); (try clear hx206_0); (try clear hx207_0); (try clear hx218_0); (try clear hx222_0); (try clear hx233_0); (try clear hx234_0); (try clear hx24_0); (try clear hx27_0); (try clear hx29_0); (try clear hx31_0); (try clear p2); (try clear p20); (try clear p202); (try clear p206); (try clear p207); (try clear p21); (try clear p218); (try clear p22); (try clear p222); (try clear p233); (try clear p234); (try clear p24); (try clear p27); (try clear p29); (try clear p3); (try clear p31); (try clear p6); (try clear p64); (try clear q2); (try clear q20); (try clear q202); (try clear q206); (try clear q207); (try clear q21); (try clear q218); (try clear q22); (try clear q222); (try clear q233); (try clear q234); (try clear q24); (try clear q27); (try clear q29); (try clear q3); (try clear q31); obtain ⟨kq, x109_76, rfl, HA, HJ76, HO_7, HO_18, HO_Z0, HO_Z2, BK194, BK198, HB⟩ := hcut
                  cases kq with
                  | zero => exact absurd HA.out (by simp [impl_ribbon.j4])
                  | succ kj76 =>
                   have H := HA.out; clear HA; simp only [impl_ribbon.j4] at H
                   by_cases c90 : x109_76 = true
                   ·
                    subst c90
                    have H1 : (impl_ribbon.l3 kj76 l1 x7_1 x12_2 x15_4 x18_4 (l0_0.length : Int) (wrap64 (x96_4 + 1)) l0_0 l0_1 xZ2_1) = some r := by rw [if_pos rfl] at H; exact H
                    clear H; have H := H1; clear H1; have H' := Az H; clear H
                    go_wp2
                    (first | go_roundg kj76 | (refine Handed.intro kj76 ?measure ?_; rotate_left; go_step; (try simp only [add_plain]); (repeat apply Exists.intro); refine ⟨?rel, rfl⟩))
                    case measure => have := HK1.out; have := HK2.out; have := HK3.out; have := HK4.out; have := HJ76.out; omega
                    case rel => exact ⟨(x15_4), (x18_4), (wrap64 (x96_4 + 1)), rS, rS, H', ⟨by have := HK1.out; have := HK2.out; have := HK3.out; have := HK4.out; have := HJ76.out; omega⟩, ⟨rU HO_7.out⟩, ⟨rU HO_18.out⟩, ⟨vU HO_Z0.out⟩, ⟨rU HO_Z2.out⟩, ⟨kU BK194.out⟩, ⟨kU BK198.out⟩, ⟨bU2 HB.out GE194.out GE198.out⟩⟩
                   ·
                    replace c90 := Bool.eq_false_iff.mpr c90; subst c90
                    have H1 : (impl_ribbon.l4 kj76 l1 x7_1 x12_2 (wrap64 (x15_4 + 1)) x18_4 x96_4 (l0_0.length : Int) x96_4 l0_0 l0_1 xZ2_1) = some r := by rw [if_neg (show ¬ (false = true) by decide)] at H; exact H
                    clear H; have H := H1; clear H1; have H' := Az H; clear H
                    go_wp2
                    go_loopg [20] kj76 (fun kq v20 w' => ∃ (x18_6 : List Bool) (x20_6 : Int), v20 = .int .i64 x20_6 ∧ Aside0 (impl_ribbon.l4 kq l1 x7_1 x12_2 (wrap64 (x15_4 + 1)) x18_6 x20_6 (l0_0.length : Int) x96_4 l0_0 l0_1 xZ2_1 = some r) ∧ Aside0 (kq ≤ kj76) ∧ Aside0 (Kd.R (Kd.int .i64) 3 w' w.heap.size (fun k_ => (w.heap.size ≤ k_)) (.slice Ao48 x7_1.length co48) x7_1) ∧ Aside0 (Kd.R Kd.bool 4 w' w.heap.size (fun k_ => (w.heap.size ≤ k_) ∧ some k_ ≠ (uZ2 : Value).ownBlock) v225 x18_6) ∧ Aside0 (Kd.V (Kd.int .i64) 3 w' w.heap.size (fun k_ => (P0_0_ k_ ∨ w.heap.size ≤ k_) ∧ some k_ ≠ ((.slice Ao48 x7_1.length co48) : Value).ownBlock ∧ some k_ ≠ (v225 : Value).ownBlock ∧ some k_ ≠ (uZ2 : Value).ownBlock ∧ k_ ≠ gb194 ∧ k_ ≠ gb198) (.slice A0_0 l0_0.length c0_0) l0_0) ∧ Aside0 (Kd.R Kd.bool 4 w' w.heap.size (fun k_ => (w.heap.size ≤ k_) ∧ some k_ ≠ (v225 : Value).ownBlock) uZ2 xZ2_1) ∧ Aside0 (w'.heap[gb194]? = some (.cells #[(.slice A0_0 l0_0.length c0_0), (.slice A0_1 l0_1.length c0_1)] 25 (0, 0))) ∧ Aside0 (w'.heap[gb198]? = some (.cells #[uZ2] 78 (0, 0))) ∧ Aside0 (Below w.heap.size w w'))
                    case atStart => exact ⟨(x18_4), (x96_4), rS, H', ⟨Nat.le_refl _⟩, ⟨rU HO_7.out⟩, ⟨rU HO_18.out⟩, ⟨vU HO_Z0.out⟩, ⟨rU HO_Z2.out⟩, ⟨kU BK194.out⟩, ⟨kU BK198.out⟩, ⟨bU2 HB.out GE194.out GE198.out⟩⟩
                    case round =>
                     clear H'; (try clear c1); (try clear c2); (try clear p2); (try clear q2); (try clear hx2); (try clear hf2); (try clear c3); (try clear c3b0); (try clear c3b1); (try clear p3); (try clear q3); (try clear hx3); (try clear hf3); (try clear c4); (try clear c4b0); (try clear c4b1); (try clear c5); (try clear c6); (try clear p6); (try clear c7); (try clear c8); (try clear q8); (try clear c9); (try clear c10); (try clear c12); (try clear c15); (try clear c15b0); (try clear c16); (try clear c16b0); (try clear c17); (try clear c17b0); (try clear c19); (try clear c19b0); (try clear c20); (try clear c20b0); (try clear p20); (try clear q20); (try clear hx20); (try clear c21); (try clear c21b0); (try clear p21); (try clear q21); (try clear hx21); (try clear c22); (try clear c22b0); (try clear p22); (try clear q22); (try clear hx22); (try clear c23); (try clear c23b0); (try clear p23); (try clear q23); (try clear hx23); (try clear p24); (try clear q24); (try clear hx24); (try clear hf24); (try clear c25); (try clear c25b0); (try clear c26); (try clear c26b0); (try clear p27); (try clear q27); (try clear hx27); (try clear hf27); (try clear c28); (try clear c28b0); (try clear p29); (try clear q29); (try clear hx29); (try clear hf29); (try clear c30); (try clear c30b0); (try clear p31); (try clear q31); (try clear hx31); (try clear hf31); (try clear c32); (try clear c46); (try clear c54); (try clear c54b0); (try clear c55); (try clear c55b0); (try clear c56); (try clear c56b0); (try clear c57); (try clear c57b0); (try clear c57b1); (try clear c59); (try clear c63); (try clear c63b0); (try clear c64); (try clear c64b0); (try clear p64); (try clear c65); (try clear c65b0); (try clear c67); (try clear c72); (try clear c72b0); (try clear c72b1); (try clear c73); (try clear c73b0); (try clear c73b1); (try clear c76); (try clear c76b0); (try clear c78); (try clear c78b0); (try clear c79); (try clear c79b0); (try clear c80); (try clear q80); (try clear c81); (try clear c82); (try clear c82b0); (try clear c83); (try clear c87); (try clear c90); (try clear hcz13_0); (try clear hcz33_0); (try clear hcz33_1); (try clear hcz36_0); (try clear hcz36_1); (try clear hcz47_0); (try clear hcz47_1); (try clear hcz60_0); (try clear hcz60_1); (try clear hcz7_0); (try clear hcz7_1); (try clear hcz84_0); (try clear hcz88_0); (try clear hfz13_0); (try clear hfz33_0); (try clear hfz33_1); (try clear hfz36_0); (try clear hfz36_1); (try clear hfz47_0); (try clear hfz47_1); (try clear hfz60_0); (try clear hfz60_1); (try clear hfz7_0); (try clear hfz7_1); (try clear hfz84_0); (try clear hfz88_0); (try clear hx202_0); (try clear hx206_0); (try clear hx207_0); (try clear hx218_0); (try clear hx222_0); (try clear hx233_0); (try clear hx234_0); (try clear hx24_0); (try clear hx27_0); (try clear hx29_0); (try clear hx31_0); (try clear p2); (try clear p20); (try clear p202); (try clear p206); (try clear p207); (try clear p21); (try clear p218); (try clear p22); (try clear p222); (try clear p23); (try clear p233); (try clear p234); (try clear p24); (try clear p27); (try clear p29); (try clear p3); (try clear p31); (try clear p6); (try clear p64); (try clear q2); (try clear q20); (try clear q202); (try clear q206); (try clear q207); (try clear q21); (try clear q218); (try clear q22); (try clear q222); (try clear q23); (try clear q233); (try clear q234); (try clear q24); (try clear q27); (try clear q29); (try clear q3); (try clear q31); (try clear q8); (try clear q80); obtain ⟨x18_6, x20_6, rfl, HA, HK6, HO_7, HO_18, HO_Z0, HO_Z2, BK194, BK198, HB⟩ := hrel
                     cases gk with
                     | zero => exact absurd HA.out (by simp [impl_ribbon.l4])
                     | succ k6 =>
                      have H := HA.out; clear HA; simp only [impl_ribbon.l4] at H
                      by_cases c91 : 0 ≤ x20_6
                      ·
                       rw [if_pos c91] at H; have c91b0 := decide_eq_true c91; clear c91
                       by_cases c92 : x20_6 < (x18_6.length : Int)
                       ·
                        rw [if_pos c92] at H; have c92b0 := decide_eq_true c92; clear c92; obtain ⟨bq93, hbq93⟩ : ∃ b_ : Bool, b_ = (rdOf false x18_6 x20_6) := ⟨_, rfl⟩
                        replace H : (if bq93 = true then (impl_ribbon.l3 k6 l1 x7_1 x12_2 (wrap64 (x15_4 + 1)) x18_6 (l0_0.length : Int) (wrap64 (x96_4 + 1)) l0_0 l0_1 xZ2_1) else (if x20_6 < (x7_1.length : Int) then (if 0 ≤ (rd x7_1 x20_6) then (if (rd x7_1 x20_6) < (l0_0.length : Int) then (impl_ribbon.l5 k6 l1 x7_1 x12_2 (wrap64 (x15_4 + 1)) (x18_6.set (x20_6 : Int).toNat true) (rd l0_0 (rd x7_1 x20_6)) (l0_0.length : Int) x96_4 l0_0 l0_1 xZ2_1) else (none)) else (none)) else (none))) = some r := by rw [← hbq93] at H; exact H
                        have Nbq93 := Az hbq93; clear hbq93
                        by_cases c94 : bq93 = true
                        ·
                         subst c94
                         have H1 : (impl_ribbon.l3 k6 l1 x7_1 x12_2 (wrap64 (x15_4 + 1)) x18_6 (l0_0.length : Int) (wrap64 (x96_4 + 1)) l0_0 l0_1 xZ2_1) = some r := by rw [if_pos rfl] at H; exact H
                         clear H; have H := H1; clear H1; have H' := Az H; clear H; obtain ⟨Ao95, co95, eo95⟩ := Kd.R_slice HO_18.out; subst eo95; have p235 : 0 ≤ (x20_6 : Int) := oA; have q235 : x20_6 < (x18_6.length : Int) := oA; obtain ⟨ad235, e235, hx235_0⟩ := Kd.at_bool (Kd.R_reads' HO_18.out).2.2 x20_6 p235 q235; (try rw [← Nbq93.out] at hx235_0)
                         cases e235
                         replace p235 := eq_true p235; replace q235 := eq_true q235
                         go_wp2
                         (first | go_roundg k6 | (refine Handed.intro k6 ?measure ?_; rotate_left; go_step; (try simp only [add_plain]); (repeat apply Exists.intro); refine ⟨?rel, rfl⟩))
                         case measure => have := HK1.out; have := HK2.out; have := HK3.out; have := HK4.out; have := HJ76.out; have := HK6.out; omega
                         case rel => exact ⟨((wrap64 (x15_4 + 1))), (x18_6), (wrap64 (x96_4 + 1)), rS, rS, H', ⟨by have := HK1.out; have := HK2.out; have := HK3.out; have := HK4.out; have := HJ76.out; have := HK6.out; omega⟩, ⟨rU HO_7.out⟩, ⟨rU HO_18.out⟩, ⟨vU HO_Z0.out⟩, ⟨rU HO_Z2.out⟩, ⟨kU BK194.out⟩, ⟨kU BK198.out⟩, ⟨bU2 HB.out GE194.out GE198.out⟩⟩
                        ·
                         replace c94 := Bool.eq_false_iff.mpr c94; subst c94
                         have H1 : (if x20_6 < (x7_1.length : Int) then (if 0 ≤ (rd x7_1 x20_6) then (if (rd x7_1 x20_6) < (l0_0.length : Int) then (impl_ribbon.l5 k6 l1 x7_1 x12_2 (wrap64 (x15_4 + 1)) (x18_6.set (x20_6 : Int).toNat true) (rd l0_0 (rd x7_1 x20_6)) (l0_0.length : Int) x96_4 l0_0 l0_1 xZ2_1) else (none)) else (none)) else (none)) = some r := by rw [if_neg (show ¬ (false = true) by decide)] at H; exact H
                         clear H; have H := H1; clear H1; obtain ⟨y236, hy236⟩ : ∃ y_ : List Bool, y_ = (x18_6.set (x20_6 : Int).toNat true) := ⟨_, rfl⟩; replace H : (if x20_6 < (x7_1.length : Int) then (if 0 ≤ (rd x7_1 x20_6) then (if (rd x7_1 x20_6) < (l0_0.length : Int) then (impl_ribbon.l5 k6 l1 x7_1 x12_2 (wrap64 (x15_4 + 1)) y236 (rd l0_0 (rd x7_1 x20_6)) (l0_0.length : Int) x96_4 l0_0 l0_1 xZ2_1) else (none)) else (none)) else (none)) = some r := hR hy236 H; have Ny236 := Az hy236; clear hy236
                         by_cases c97 : x20_6 < (x7_1.length : Int)
                         ·
                          rw [if_pos c97] at H; have c97b0 := decide_eq_true c97; clear c97
                          by_cases c98 : 0 ≤ (rd x7_1 x20_6)
                          ·
                           rw [if_pos c98] at H; have c98b0 := decide_eq_true c98; clear c98
                           by_cases c99 : (rd x7_1 x20_6) < (l0_0.length : Int)
                           ·
                            rw [if_pos c99] at H; have c99b0 := decide_eq_true c99; clear c99; have H' := Az H; clear H; obtain ⟨Ao100, co100, eo100⟩ := Kd.R_slice HO_18.out; subst eo100; have p235 : 0 ≤ (x20_6 : Int) := oA; have q235 : x20_6 < (x18_6.length : Int) := oA; obtain ⟨ad235, e235, hx235_0⟩ := Kd.at_bool (Kd.R_reads' HO_18.out).2.2 x20_6 p235 q235; (try rw [← Nbq93.out] at hx235_0)
                            cases e235
                            replace p235 := eq_true p235; replace q235 := eq_true q235; have p96 : 0 ≤ (x20_6 : Int) := oA; have q96 : (x20_6 : Int) < ((x18_6.length : Int) : Int) := oA; obtain ⟨go96, co96, eo96, gb96, gl96, cl96, HG96⟩ := Kd.R_form HO_18.out (by omega); (first | cases eo96 | (injection eo96 with ea_ en_ ec_; (first | subst ea_ | (injection ea_ with ea_; subst ea_)); subst ec_; clear en_)); have GB96 := Az gb96; have GG96 := Az HG96; clear gb96 gl96 HG96; (first | simp only [add_plain] at hx235_0 | skip); obtain ⟨hx96_0, hf96_0⟩ := Kd.R_celln false HO_18.out (x20_6 : Int) p96 q96; replace p96 := eq_true p96; replace q96 := eq_true q96; obtain ⟨hy101_, hz101_⟩ := Kd.R_celln false HO_18.out (x20_6 : Int) (oA) (oA); have HP101 := Kd.R_putg HO_18.out (x20_6 : Int) true
                            try go_wp2_with (first | ((with_reducible refine gate_store (t := 4) (p := 120) rfl ?_); refine store_event (t := 4) (p := 120) (v := ?vo_w102) (w1 := (wr.setCell ⟨go96, (x20_6 : Int).toNat, none⟩ (.bool true))) ?hg ?ho ?hn ?hr ?_; (case ho => rfl); (case hg => rfl); (case hn => rfl); (case hr => first | (go_simp; done) | (go_simp; rfl)); intro w102 hw; have hg : wr.grownBy w102 (some go96) := (by rw [hw]; exact HP101.2); have hp_ : Kd.R Kd.bool 4 w102 w.heap.size (fun k_ => (w.heap.size ≤ k_) ∧ some k_ ≠ (uZ2 : Value).ownBlock) (.slice (some ⟨go96, 0, none⟩) x18_6.length co100) y236 := (by rw [hw, Ny236.out]; exact HP101.1); clear HP101; have n0 := Az (Kd.R_over' (v := (.slice (some ⟨go96, 0, none⟩) x18_6.length co100)) (rU HO_7.out) (Kd.R_typed HO_18.out) (by decide) hg); have n1 := Az (hp_); have n2 := Az (Kd.V_afterv (v := (.slice (some ⟨go96, 0, none⟩) x18_6.length co100)) (v1 := (.slice (some ⟨go96, 0, none⟩) x18_6.length co100)) (ok := (fun k_ => (P0_0_ k_ ∨ w.heap.size ≤ k_) ∧ some k_ ≠ (.slice Ao48 x7_1.length co48 : Value).ownBlock ∧ some k_ ≠ (uZ2 : Value).ownBlock ∧ k_ ≠ gb194 ∧ k_ ≠ gb198)) (by (with_reducible repeat (first | apply Kd.V_alloc | apply Kd.V_drewN | apply Kd.V_drew)); exact Kd.V_mono HO_Z0.out (fun _ hk => ⟨⟨hk.1, ⟨hk.2.1, ⟨hk.2.2.2.1, ⟨hk.2.2.2.2.1, hk.2.2.2.2.2⟩⟩⟩⟩, hk.2.2.1⟩)) hg (.inl rfl)); have n3 := Az (Kd.R_after (v := (.slice (some ⟨go96, 0, none⟩) x18_6.length co100)) (v1 := (.slice (some ⟨go96, 0, none⟩) x18_6.length co100)) (ok := (fun k_ => (w.heap.size ≤ k_))) (rU HO_Z2.out) hg (.inl rfl)); have n4 := Az (blk_grown (g := gb194) (o := .cells #[.slice A0_0 l0_0.length c0_0, .slice A0_1 l0_1.length c0_1] 25 (0, 0)) (kU BK194.out) hg (Kd.R_ne HO_18.out BK194.out (by decide))); have n5 := Az (blk_grown (g := gb198) (o := .cells #[uZ2] 78 (0, 0)) (kU BK198.out) hg (Kd.R_ne HO_18.out BK198.out (by decide))); have n6 := Az ((by rw [hw]; exact below_set (HB.out) GB96.out : Below w.heap.size w w102)); clear HO_7 HO_18 HO_Z0 HO_Z2 BK194 BK198 HB; have HO_7 := n0; have HO_18 := n1; have HO_Z0 := n2; have HO_Z2 := n3; have BK194 := n4; have BK198 := n5; have HB := n6; clear n0 n1 n2 n3 n4 n5 n6; clear hg hw hp_))
                            have n0 := Az (Kd.R_drew HO_7.out); have n1 := Az (Kd.R_drew HO_18.out); have n2 := Az (Kd.V_drew HO_Z0.out); have n3 := Az (Kd.R_drew HO_Z2.out); have n4 := Az (blk_drew BK194.out); have n5 := Az (blk_drew BK198.out); have n6 := Az (below_drew1 HB.out); clear HO_7 HO_18 HO_Z0 HO_Z2 BK194 BK198 HB; have HO_7 := n0; have HO_18 := n1; have HO_Z0 := n2; have HO_Z2 := n3; have BK194 := n4; have BK198 := n5; have HB := n6; clear n0 n1 n2 n3 n4 n5 n6; have p237 : 0 ≤ (x20_6 : Int) := oA; have q237 : x20_6 < (x7_1.length : Int) := oA; obtain ⟨ad237, e237, hx237_0⟩ := Kd.at_int (Kd.R_reads' HO_7.out).2.2 x20_6 p237 q237
                            cases e237
                            replace p237 := eq_true p237; replace q237 := eq_true q237; have p238 : 0 ≤ ((rd x7_1 x20_6) : Int) := oA; have q238 : (rd x7_1 x20_6) < (l0_0.length : Int) := oA; obtain ⟨ad238, e238, hx238_0⟩ := Kd.at_int (Kd.V_reads' HO_Z0.out).2.2 (rd x7_1 x20_6) p238 q238
                            cases e238
                            replace p238 := eq_true p238; replace q238 := eq_true q238
                            refine start_ (n := 9) (S := fun w' => w'.cell? ⟨gb194, 0, none⟩ = some (.slice (some ad238) l0_0.length c0_0) ∧ w'.cell? ⟨gb194, 1, none⟩ = some (.slice A0_1 l0_1.length c0_1) ∧ w'.cell? (ad237.add (x20_6).toNat) = some (.int .i64 (rd x7_1 x20_6)) ∧ w'.cell? (ad238.add ((rd x7_1 x20_6)).toNat) = some (.int .i64 (rd l0_0 (rd x7_1 x20_6)))) (ds := []) #[false, false, false, false, false, false, false, false, false] (by kernel_rfl) rfl rfl ⟨(blk_cell BK194.out 0).trans rfl, (blk_cell BK194.out 1).trans rfl, hx237_0, hx238_0⟩ (fun hHeld => ?_); refine with_tabW impl_ribbon.tab35 impl_ribbon.bits35 (fun HT_ HW_ => ?_)
                            generalize w102.drew = w103 at HO_7 HO_18 HO_Z0 HO_Z2 BK194 BK198 HB hx237_0 hx238_0 hHeld ⊢
                            refine pure_ (i := 0) (N := some 121) (v := ?_) (a' := ?_) #[true, false, false, false, false, false, false, false, false] rfl rfl (any_of HT_.out (by kernel_rfl)) (fun _ _ _ h => h) (Or.inl ⟨by rfl, ?_⟩) ?_ ?_
                            rotate_left
                            ·
                             intro w'
                             go_simp
                             with_reducible rfl
                            rotate_left
                            ·
                             simp only [Act.put, List.setIfInBounds_toArray, List.set_cons_zero, List.set_cons_succ, i64_w, i32_w]
                             rfl
                            refine pure_ (i := 2) (N := some 123) (v := ?_) (a' := ?_) #[true, false, true, false, false, false, false, false, false] rfl rfl (any_of HT_.out (by kernel_rfl)) (fun _ _ _ h => h) (Or.inl ⟨by rfl, ?_⟩) ?_ ?_
                            rotate_left
                            ·
                             intro w'
                             go_simp
                             with_reducible rfl
                            rotate_left
                            ·
                             simp only [Act.put, List.setIfInBounds_toArray, List.set_cons_zero, List.set_cons_succ, i64_w, i32_w]
                             rfl
                            refine pure_ (i := 3) (N := some 124) (v := ?_) (a' := ?_) #[true, false, true, true, false, false, false, false, false] rfl rfl (any_of HT_.out (by kernel_rfl)) (fun _ _ _ h => h) (Or.inl ⟨by rfl, ?_⟩) ?_ ?_
                            rotate_left
                            ·
                             intro w'
                             go_simp
                             with_reducible rfl
                            rotate_left
                            ·
                             simp only [Act.put, List.setIfInBounds_toArray, List.set_cons_zero, List.set_cons_succ, i64_w, i32_w]
                             rfl
                            refine pure_ (i := 4) (N := some 125) (v := ?_) (a' := ?_) #[true, false, true, true, true, false, false, false, false] rfl rfl (any_of HT_.out (by kernel_rfl)) (fun _ _ _ h => h) (Or.inl ⟨by rfl, ?_⟩) ?_ ?_
                            rotate_left
                            ·
                             intro w'
                             go_simp
                             with_reducible rfl
                            rotate_left
                            ·
                             simp only [Act.put, List.setIfInBounds_toArray, List.set_cons_zero, List.set_cons_succ, i64_w, i32_w]
                             rfl
                            refine take_ (i := 1) (N := some 122) (v := ?_) (a' := ?_) #[true, true, true, true, true, false, false, false, false] rfl rfl (take_ofW HT_.out HW_.out (by kernel_rfl)) (fun _ _ _ h => h) (Or.inl ⟨by rfl, ?_⟩) hHeld ?_ ?_
                            rotate_left
                            ·
                             rintro w' ⟨s0, s1, s2, s3⟩
                             go_simp
                             with_reducible rfl
                            rotate_left
                            ·
                             simp only [Act.put, List.setIfInBounds_toArray, List.set_cons_zero, List.set_cons_succ, i64_w, i32_w]
                             rfl
                            refine take_ (i := 5) (N := some 126) (v := ?_) (a' := ?_) #[true, true, true, true, true, true, false, false, false] rfl rfl (take_ofW HT_.out HW_.out (by kernel_rfl)) (fun _ _ _ h => h) (Or.inl ⟨by rfl, ?_⟩) hHeld ?_ ?_
                            rotate_left
                            ·
                             rintro w' ⟨s0, s1, s2, s3⟩
                             go_simp
                             with_reducible rfl
                            rotate_left
                            ·
                             simp only [Act.put, List.setIfInBounds_toArray, List.set_cons_zero, List.set_cons_succ, i64_w, i32_w]
                             rfl
                            refine pure_ (i := 6) (N := some 127) (v := ?_) (a' := ?_) #[true, true, true, true, true, true, true, false, false] rfl rfl (any_of HT_.out (by kernel_rfl)) (fun _ _ _ h => h) (Or.inl ⟨by rfl, ?_⟩) ?_ ?_
                            rotate_left
                            ·
                             intro w'
                             go_simp
                             with_reducible rfl
                            rotate_left
                            ·
                             simp only [Act.put, List.setIfInBounds_toArray, List.set_cons_zero, List.set_cons_succ, i64_w, i32_w]
                             rfl
                            refine take_ (i := 7) (N := some 128) (v := ?_) (a' := ?_) #[true, true, true, true, true, true, true, true, false] rfl rfl (take_ofW HT_.out HW_.out (by kernel_rfl)) (fun _ _ _ h => h) (Or.inl ⟨by rfl, ?_⟩) hHeld ?_ ?_
                            rotate_left
                            ·
                             rintro w' ⟨s0, s1, s2, s3⟩
                             go_simp
                             with_reducible rfl
                            rotate_left
                            ·
                             simp only [Act.put, List.setIfInBounds_toArray, List.set_cons_zero, List.set_cons_succ, i64_w, i32_w]
                             rfl
                            refine pure_ (i := 8) (N := some 20) (v := ?_) (a' := ?_) #[true, true, true, true, true, true, true, true, true] rfl rfl (any_of HT_.out (by kernel_rfl)) (fun _ _ _ h => h) (Or.inl ⟨by rfl, ?_⟩) ?_ ?_
                            rotate_left
                            ·
                             intro w'
                             go_simp
                             with_reducible rfl
                            rotate_left
                            ·
                             simp only [Act.put, List.setIfInBounds_toArray, List.set_cons_zero, List.set_cons_succ, i64_w, i32_w]
                             rfl
                            refine done_ (done_of HT_.out (by kernel_rfl)) ?_
                            try go_wp2
                            go_loopg [20] k6 (fun kq v20 w' => ∃ (x20_7 : Int), v20 = .int .i64 x20_7 ∧ Aside0 (impl_ribbon.l5 kq l1 x7_1 x12_2 (wrap64 (x15_4 + 1)) y236 x20_7 (l0_0.length : Int) x96_4 l0_0 l0_1 xZ2_1 = some r) ∧ Aside0 (kq ≤ k6) ∧ Aside0 (Kd.R (Kd.int .i64) 3 w' w.heap.size (fun k_ => (w.heap.size ≤ k_)) (.slice (some ad237) x7_1.length co48) x7_1) ∧ Aside0 (Kd.R Kd.bool 4 w' w.heap.size (fun k_ => (w.heap.size ≤ k_) ∧ some k_ ≠ (uZ2 : Value).ownBlock) (.slice (some ⟨go96, 0, none⟩) x18_6.length co100) y236) ∧ Aside0 (Kd.V (Kd.int .i64) 3 w' w.heap.size (fun k_ => (P0_0_ k_ ∨ w.heap.size ≤ k_) ∧ some k_ ≠ ((.slice (some ad237) x7_1.length co48) : Value).ownBlock ∧ some k_ ≠ ((.slice (some ⟨go96, 0, none⟩) x18_6.length co100) : Value).ownBlock ∧ some k_ ≠ (uZ2 : Value).ownBlock ∧ k_ ≠ gb194 ∧ k_ ≠ gb198) (.slice (some ad238) l0_0.length c0_0) l0_0) ∧ Aside0 (Kd.R Kd.bool 4 w' w.heap.size (fun k_ => (w.heap.size ≤ k_) ∧ some k_ ≠ ((.slice (some ⟨go96, 0, none⟩) x18_6.length co100) : Value).ownBlock) uZ2 xZ2_1) ∧ Aside0 (w'.heap[gb194]? = some (.cells #[(.slice (some ad238) l0_0.length c0_0), (.slice A0_1 l0_1.length c0_1)] 25 (0, 0))) ∧ Aside0 (w'.heap[gb198]? = some (.cells #[uZ2] 78 (0, 0))) ∧ Aside0 (Below w.heap.size w w'))
                            case atStart => exact ⟨(rd l0_0 (rd x7_1 x20_6)), rS, H', ⟨Nat.le_refl _⟩, ⟨rU HO_7.out⟩, ⟨rU HO_18.out⟩, ⟨by (with_reducible repeat (first | apply Kd.V_alloc | apply Kd.V_drewN | apply Kd.V_drew)); exact Kd.V_mono HO_Z0.out (fun _ hk => ⟨hk.1.1, ⟨hk.1.2.1, ⟨hk.2, ⟨hk.1.2.2.1, ⟨hk.1.2.2.2.1, hk.1.2.2.2.2⟩⟩⟩⟩⟩)⟩, ⟨rU HO_Z2.out⟩, ⟨kU BK194.out⟩, ⟨kU BK198.out⟩, ⟨bU2 HB.out GE194.out GE198.out⟩⟩
                            case round =>
                             clear H'; (try clear c1); (try clear c2); (try clear p2); (try clear q2); (try clear hx2); (try clear hf2); (try clear c3); (try clear c3b0); (try clear c3b1); (try clear p3); (try clear q3); (try clear hx3); (try clear hf3); (try clear c4); (try clear c4b0); (try clear c4b1); (try clear c5); (try clear c6); (try clear p6); (try clear c7); (try clear c8); (try clear q8); (try clear c9); (try clear p9); (try clear q9); (try clear hx9); (try clear hf9); (try clear c10); (try clear c12); (try clear c15); (try clear c15b0); (try clear c16); (try clear c16b0); (try clear c17); (try clear c17b0); (try clear c19); (try clear c19b0); (try clear c20); (try clear c20b0); (try clear p20); (try clear q20); (try clear hx20); (try clear c21); (try clear c21b0); (try clear p21); (try clear q21); (try clear hx21); (try clear c22); (try clear c22b0); (try clear p22); (try clear q22); (try clear hx22); (try clear c23); (try clear c23b0); (try clear p23); (try clear q23); (try clear hx23); (try clear p24); (try clear q24); (try clear hx24); (try clear hf24); (try clear c25); (try clear c25b0); (try clear c26); (try clear c26b0); (try clear p27); (try clear q27); (try clear hx27); (try clear hf27); (try clear c28); (try clear c28b0); (try clear p29); (try clear q29); (try clear hx29); (try clear hf29); (try clear c30); (try clear c30b0); (try clear p31); (try clear q31); (try clear hx31); (try clear hf31); (try clear c32); (try clear c46); (try clear c54); (try clear c54b0); (try clear c55); (try clear c55b0); (try clear c56); (try clear c56b0); (try clear c57); (try clear c57b0); (try clear c57b1); (try clear c59); (try clear c63); (try clear c63b0); (try clear c64); (try clear c64b0); (try clear p64); (try clear c65); (try clear c65b0); (try clear c67); (try clear c72); (try clear c72b0); (try clear c72b1); (try clear c73); (try clear c73b0); (try clear c73b1); (try clear c76); (try clear c76b0); (try clear c78); (try clear c78b0); (try clear c79); (try clear c79b0); (try clear c80); (try clear q80); (try clear c81); (try clear c82); (try clear c82b0); (try clear c83); (try clear c87); (try clear c90); (try clear c91); (try clear c91b0); (try clear c92); (try clear c92b0); (try clear q93); (try clear c94); (try clear p96); (try clear q96); (try clear hx96); (try clear hf96); (try clear c97); (try clear c97b0); (try clear c98); (try clear c98b0); (try clear c99); (try clear c99b0); (try clear hcz13_0); (try clear hcz33_0); (try clear hcz33_1); (try clear hcz36_0); (try clear hcz36_1); (try clear hcz47_0); (try clear hcz47_1); (try clear hcz60_0); (try clear hcz60_1); (try clear hcz7_0); (try clear hcz7_1); (try clear hcz84_0); (try clear hcz88_0); (try clear hfz13_0); (try clear hfz33_0); (try clear hfz33_1); (try clear hfz36_0); (try clear hfz36_1); (try clear hfz47_0); (try clear hfz47_1); (try clear hfz60_0); (try clear hfz60_1); (try clear hfz7_0); (try clear hfz7_1); (try clear hfz84_0); (try clear hfz88_0); (try clear hx202_0); (try clear hx206_0); (try clear hx207_0); (try clear hx218_0); (try clear hx222_0); (try clear hx233_0); (try clear hx234_0); (try clear hx235_0); (try clear hx237_0); (try clear hx238_0); (try clear hx24_0); (try clear hx27_0); (try clear hx29_0); (try clear hx31_0); (try clear hx96_0); (try clear p2); (try clear p20); (try clear p202); (try clear p206); (try clear p207); (try clear p21); (try clear p218); (try clear p22); (try clear p222); (try clear p23); (try clear p233); (try clear p234); (try clear p235); (try clear p237); (try clear p238); (try clear p24); (try clear p27); (try clear p29); (try clear p3); (try clear p31); (try clear p6); (try clear p64); (try clear p96); (try clear q2); (try clear q20); (try clear q202); (try clear q206); (try clear q207); (try clear q21); (try clear q218); (try clear q22); (try clear q222); (try clear q23); (try clear q233); (try clear q234); (try clear q235); (try clear q237); (try clear q238); (try clear q24); (try clear q27); (try clear q29); (try clear q3); (try clear q31); (try clear q8); (try clear q80); (try clear q96); obtain ⟨x20_7, rfl, HA, HK7, HO_7, HO_18, HO_Z0, HO_Z2, BK194, BK198, HB⟩ := hrel; have hl18_7 := (Kd.R_reads' HO_18.out).1; rw [hl18_7] at HO_18; (try simp only [hl18_7]); (try simp only [hl18_7] at BK194); (try simp only [hl18_7] at BK198); (try simp only [hl18_7] at HO_7); (try simp only [hl18_7] at HO_Z0); (try simp only [hl18_7] at HO_Z2)
                             cases gk with
                             | zero => exact absurd HA.out (by simp [impl_ribbon.l5])
                             | succ k7 =>
                              have H := HA.out; clear HA; simp only [impl_ribbon.l5] at H
                              by_cases c104 : 0 ≤ x20_7
                              ·
                               rw [if_pos c104] at H; have c104b0 := decide_eq_true c104; clear c104
                               by_cases c105 : x20_7 < (xZ2_1.length : Int)
                               ·
                                rw [if_pos c105] at H; have c105b0 := decide_eq_true c105; (try (have c105b0hl18_7 := c105b0; rw [hl18_7] at c105b0hl18_7)); clear c105; obtain ⟨bq106, hbq106⟩ : ∃ b_ : Bool, b_ = (rdOf false xZ2_1 x20_7) := ⟨_, rfl⟩
                                replace H : (if bq106 = true then (impl_ribbon.l4 k7 l1 x7_1 x12_2 (wrap64 (x15_4 + 1)) y236 x20_7 (l0_0.length : Int) x96_4 l0_0 l0_1 xZ2_1) else (if x20_7 < (l0_0.length : Int) then (impl_ribbon.l5 k7 l1 x7_1 x12_2 (wrap64 (x15_4 + 1)) y236 (rd l0_0 x20_7) (l0_0.length : Int) x96_4 l0_0 l0_1 xZ2_1) else (none))) = some r := by rw [← hbq106] at H; exact H
                                have Nbq106 := Az hbq106; clear hbq106
                                by_cases c107 : bq106 = true
                                ·
                                 subst c107
                                 have H1 : (impl_ribbon.l4 k7 l1 x7_1 x12_2 (wrap64 (x15_4 + 1)) y236 x20_7 (l0_0.length : Int) x96_4 l0_0 l0_1 xZ2_1) = some r := by rw [if_pos rfl] at H; exact H
                                 clear H; have H := H1; clear H1; have H' := Az H; clear H; have hnb108 := NB198_194.out; have hnc108 := NB194_198.out; have hcz109_0 : wr.cell? ⟨gb198, 0, none⟩ = some (uZ2) := (blk_cell BK198.out 0).trans rfl; have hfz109_0 := blk_frozen BK198.out 0; obtain ⟨Ao110, co110, eo110⟩ := Kd.R_slice HO_Z2.out; subst eo110; have p239 : 0 ≤ (x20_7 : Int) := oA; have q239 : x20_7 < (xZ2_1.length : Int) := oA; obtain ⟨ad239, e239, hx239_0⟩ := Kd.at_bool (Kd.R_reads' HO_Z2.out).2.2 x20_7 p239 q239; (try rw [← Nbq93.out] at hx239_0); (try rw [← Nbq106.out] at hx239_0)
                                 cases e239
                                 replace p239 := eq_true p239; replace q239 := eq_true q239
                                 go_wp2
                                 (try simp only [← hl18_7]); (first | go_roundg k7 | (refine Handed.intro k7 ?measure ?_; rotate_left; go_step; (try simp only [add_plain]); (repeat apply Exists.intro); refine ⟨?rel, rfl⟩))
                                 case measure => have := HK1.out; have := HK2.out; have := HK3.out; have := HK4.out; have := HJ76.out; have := HK6.out; have := HK7.out; omega
                                 case rel => exact ⟨(y236), (x20_7), rS, H', ⟨by have := HK1.out; have := HK2.out; have := HK3.out; have := HK4.out; have := HJ76.out; have := HK6.out; have := HK7.out; omega⟩, ⟨by (try simp only [hl18_7]); (with_reducible repeat (first | apply Kd.R_alloc | apply Kd.R_drewN | apply Kd.R_drew)); exact HO_7.out⟩, ⟨by (try simp only [hl18_7]); (with_reducible repeat (first | apply Kd.R_alloc | apply Kd.R_drewN | apply Kd.R_drew)); exact HO_18.out⟩, ⟨by (try simp only [hl18_7]); (with_reducible repeat (first | apply Kd.V_alloc | apply Kd.V_drewN | apply Kd.V_drew)); exact HO_Z0.out⟩, ⟨by (try simp only [hl18_7]); (with_reducible repeat (first | apply Kd.R_alloc | apply Kd.R_drewN | apply Kd.R_drew)); exact HO_Z2.out⟩, ⟨by (try simp only [hl18_7]); (with_reducible repeat (first | refine blk_drewN ?_ _ | refine blk_drew ?_ | refine blk_alloc ?_ _)); exact BK194.out⟩, ⟨by (try simp only [hl18_7]); (with_reducible repeat (first | refine blk_drewN ?_ _ | refine blk_drew ?_ | refine blk_alloc ?_ _)); exact BK198.out⟩, ⟨bU2 HB.out GE194.out GE198.out⟩⟩
                                ·
                                 replace c107 := Bool.eq_false_iff.mpr c107; subst c107
                                 have H1 : (if x20_7 < (l0_0.length : Int) then (impl_ribbon.l5 k7 l1 x7_1 x12_2 (wrap64 (x15_4 + 1)) y236 (rd l0_0 x20_7) (l0_0.length : Int) x96_4 l0_0 l0_1 xZ2_1) else (none)) = some r := by rw [if_neg (show ¬ (false = true) by decide)] at H; exact H
                                 clear H; have H := H1; clear H1
                                 by_cases c111 : x20_7 < (l0_0.length : Int)
                                 ·
                                  rw [if_pos c111] at H; have c111b0 := decide_eq_true c111; (try (have c111b0hl18_7 := c111b0; rw [hl18_7] at c111b0hl18_7)); clear c111; have H' := Az H; clear H; have hnb112 := NB198_194.out; have hnc112 := NB194_198.out; have hcz113_0 : wr.cell? ⟨gb198, 0, none⟩ = some (uZ2) := (blk_cell BK198.out 0).trans rfl; have hfz113_0 := blk_frozen BK198.out 0; obtain ⟨Ao114, co114, eo114⟩ := Kd.R_slice HO_Z2.out; subst eo114; have p239 : 0 ≤ (x20_7 : Int) := oA; have q239 : x20_7 < (xZ2_1.length : Int) := oA; obtain ⟨ad239, e239, hx239_0⟩ := Kd.at_bool (Kd.R_reads' HO_Z2.out).2.2 x20_7 p239 q239; (try rw [← Nbq93.out] at hx239_0); (try rw [← Nbq106.out] at hx239_0)
                                  cases e239
                                  replace p239 := eq_true p239; replace q239 := eq_true q239; have hcz115_0 : wr.cell? ⟨gb194, 0, none⟩ = some (.slice (some ad238) l0_0.length c0_0) := (blk_cell BK194.out 0).trans rfl; have hcz115_1 : wr.cell? ⟨gb194, 1, none⟩ = some (.slice A0_1 l0_1.length c0_1) := (blk_cell BK194.out 1).trans rfl; have hfz115_0 := blk_frozen BK194.out 0; have hfz115_1 := blk_frozen BK194.out 1; have p240 : 0 ≤ (x20_7 : Int) := oA; have q240 : x20_7 < (l0_0.length : Int) := oA; obtain ⟨ad240, e240, hx240_0⟩ := Kd.at_int (Kd.V_reads' HO_Z0.out).2.2 x20_7 p240 q240; obtain rfl : ad238 = ad240 := (by injection e240); replace p240 := eq_true p240; replace q240 := eq_true q240
                                  go_wp2
                                  (try simp only [← hl18_7]); (first | go_roundg k7 | (refine Handed.intro k7 ?measure ?_; rotate_left; go_step; (try simp only [add_plain]); (repeat apply Exists.intro); refine ⟨?rel, rfl⟩))
                                  case measure => have := HK1.out; have := HK2.out; have := HK3.out; have := HK4.out; have := HJ76.out; have := HK6.out; have := HK7.out; omega
                                  case rel => exact ⟨(rd l0_0 x20_7), rS, H', ⟨by have := HK1.out; have := HK2.out; have := HK3.out; have := HK4.out; have := HJ76.out; have := HK6.out; have := HK7.out; omega⟩, ⟨by (try simp only [hl18_7]); (with_reducible repeat (first | apply Kd.R_alloc | apply Kd.R_drewN | apply Kd.R_drew)); exact HO_7.out⟩, ⟨by (try simp only [hl18_7]); (with_reducible repeat (first | apply Kd.R_alloc | apply Kd.R_drewN | apply Kd.R_drew)); exact HO_18.out⟩, ⟨by (try simp only [hl18_7]); (with_reducible repeat (first | apply Kd.V_alloc | apply Kd.V_drewN | apply Kd.V_drew)); exact HO_Z0.out⟩, ⟨by (try simp only [hl18_7]); (with_reducible repeat (first | apply Kd.R_alloc | apply Kd.R_drewN | apply Kd.R_drew)); exact HO_Z2.out⟩, ⟨by (try simp only [hl18_7]); (with_reducible repeat (first | refine blk_drewN ?_ _ | refine blk_drew ?_ | refine blk_alloc ?_ _)); exact BK194.out⟩, ⟨by (try simp only [hl18_7]); (with_reducible repeat (first | refine blk_drewN ?_ _ | refine blk_drew ?_ | refine blk_alloc ?_ _)); exact BK198.out⟩, ⟨bU2 HB.out GE194.out GE198.out⟩⟩
                                 ·
                                  rw [if_neg c111] at H
                                  exact absurd H (by simp)
                               ·
                                rw [if_neg c105] at H
                                exact absurd H (by simp)
                              ·
                               rw [if_neg c104] at H
                               exact absurd H (by simp)
                           ·
                            rw [if_neg c99] at H
                            exact absurd H (by simp)
                          ·
                           rw [if_neg c98] at H
                           exact absurd H (by simp)
                         ·
                          rw [if_neg c97] at H
                          exact absurd H (by simp)
                       ·
                        rw [if_neg c92] at H
                        exact absurd H (by simp)
                      ·
                       rw [if_neg c91] at H
                       exact absurd H (by simp)
                ·
                 rw [if_neg c76] at H; have c76b0 := decide_eq_false c76; clear c76; replace H := Option.bind_eq_some_iff.mp H; obtain ⟨t227, A1160, H⟩ := H; replace H : (some (([x12_2, x15_4, wrap64 ((t227.length : Int) - x12_2), wrap64 ((l1.length : Int) - (wrap64 ((t227.length : Int) - x12_2))), wrap64 (Int.tdiv (wrap64 ((wrap64 ((wrap64 ((wrap64 (2 * x12_2)) - (t227.length : Int))) + (l1.length : Int))) - x15_4)) 2)] : List Int))) = some r := H; have A116 := Az A1160; clear A1160; obtain ⟨y230, hy230⟩ : ∃ y_ : List Int, y_ = (([x12_2, x15_4, wrap64 ((t227.length : Int) - x12_2), wrap64 ((l1.length : Int) - (wrap64 ((t227.length : Int) - x12_2))), wrap64 (Int.tdiv (wrap64 ((wrap64 ((wrap64 ((wrap64 (2 * x12_2)) - (t227.length : Int))) + (l1.length : Int))) - x15_4)) 2)] : List Int)) := ⟨_, rfl⟩; replace H : (some y230) = some r := hR hy230 H; have Ny230 := Az hy230; clear hy230; obtain rfl := Option.some.inj H; have hnb117 := NB194_198.out; have hnc117 := NB198_194.out; have hcz118_0 : wr.cell? ⟨gb194, 0, none⟩ = some (.slice A0_0 l0_0.length c0_0) := (blk_cell BK194.out 0).trans rfl; have hcz118_1 : wr.cell? ⟨gb194, 1, none⟩ = some (.slice A0_1 l0_1.length c0_1) := (blk_cell BK194.out 1).trans rfl; have hfz118_0 := blk_frozen BK194.out 0; have hfz118_1 := blk_frozen BK194.out 1
                 go_wp2_with (first | ((with_reducible refine gate_callee (f := 63) rfl ?_); refine goesL_ (some 142) rfl rfl Try.func63 (by kernel_rfl) rfl #[.slice A0_0 l0_0.length c0_0] rfl (by (try simp only [List.map_toArray, List.map_cons, List.map_nil]); first | done | rfl | (simp only [List.length_drop, List.length_take]; rfl)) ?_; (with_reducible refine (impl_cyclesOf.calls k4 _ _ l0_0 t227 _ ?side1 ?side2 A116.out).mono ?_); (case side1 => exact cU ((Kd.V_reads' HO_Z0.out).2.2)); (case side2 => exact (Kd.V_reads' HO_Z0.out).2.1); rintro e w119 ⟨v228, rfl, ho0, hb⟩; refine ⟨_, rfl, ?_⟩; have n0 := Az (Kd.R_below (rU HO_7.out) hb); have n1 := Az (Kd.R_below (rU HO_18.out) hb); have n2 := Az (Kd.V_elder' (vU HO_Z0.out) (by first | exact Kd.N_base ho0 | exact Kd.S_base ho0 | exact Kd.R_base ho0) hb); have n3 := Az (Kd.R_below (rU HO_Z2.out) hb); have n4 := Az (Kd.N_lower (Kd.N_mono (ok' := fun k_ => (P0_0_ k_ ∨ w.heap.size ≤ k_) ∧ some k_ ≠ (.slice Ao48 x7_1.length co48 : Value).ownBlock ∧ some k_ ≠ (v225 : Value).ownBlock ∧ some k_ ≠ (uZ2 : Value).ownBlock ∧ k_ ≠ gb194 ∧ k_ ≠ gb198) (Kd.S_N (Kd.S_bound ho0)) (fun k_ hk_ => ⟨(.inr (Nat.le_trans (below_size (bU2 HB.out GE194.out GE198.out)) hk_.2.1)), (Kd.fresh' (Kd.R_lt (rU HO_7.out)) k_ hk_.2.1), (Kd.fresh' (Kd.R_lt (rU HO_18.out)) k_ hk_.2.1), (Kd.fresh' (Kd.R_lt (rU HO_Z2.out)) k_ hk_.2.1), (Kd.freshB (g := gb194) (o := .cells #[.slice A0_0 l0_0.length c0_0, .slice A0_1 l0_1.length c0_1] 25 (0, 0)) (kU BK194.out) k_ hk_.2.1), (Kd.freshB (g := gb198) (o := .cells #[uZ2] 78 (0, 0)) (kU BK198.out) k_ hk_.2.1)⟩)) (below_size (bU2 HB.out GE194.out GE198.out))); have n5 := Az (blk_below (g := gb194) (o := .cells #[.slice A0_0 l0_0.length c0_0, .slice A0_1 l0_1.length c0_1] 25 (0, 0)) (kU BK194.out) hb); have n6 := Az (blk_below (g := gb198) (o := .cells #[uZ2] 78 (0, 0)) (kU BK198.out) hb); have n7 := Az (below_step (bU2 HB.out GE194.out GE198.out) hb); clear HO_7 HO_18 HO_Z0 HO_Z2 BK194 BK198 HB; have HO_7 := n0; have HO_18 := n1; have HO_Z0 := n2; have HO_Z2 := n3; have HO229 := n4; have BK194 := n5; have BK198 := n6; have HB := n7; clear n0 n1 n2 n3 n4 n5 n6 n7; (try clear hb); (try clear hb2); (try clear hk); (try clear hi); (try clear ho0); obtain ⟨Ao120, co120, eo120⟩ := Kd.N_slice HO229.out; subst eo120) | ((with_reducible refine gate_dst (N := 164) rfl ?_); refine Kd.R_lit (Kd.int .i64) _ 3 ?hg (N := 164) ?hd (xs := ([x12_2, x15_4, wrap64 ((t227.length : Int) - x12_2), wrap64 ((l1.length : Int) - (wrap64 ((t227.length : Int) - x12_2))), wrap64 (Int.tdiv (wrap64 ((wrap64 ((wrap64 ((wrap64 (2 * x12_2)) - (t227.length : Int))) + (l1.length : Int))) - x15_4)) 2)] : List Int)) (inner := [.int .i64 x12_2, .int .i64 x15_4, .int .i64 (wrap64 ((t227.length : Int) - x12_2)), .int .i64 (wrap64 ((l1.length : Int) - (wrap64 ((t227.length : Int) - x12_2)))), .int .i64 (wrap64 (Int.tdiv (wrap64 ((wrap64 ((wrap64 ((wrap64 (2 * x12_2)) - (t227.length : Int))) + (l1.length : Int))) - x15_4)) 2))]) (ok := fun _ => True) (okp := fun _ => True) ?hr ?hp (fun _ hk => hk) trivial (Below.refl _ _) (Nat.le_refl _) (by simp) ?_; (case hd => rfl); (case hg => rfl); (case hr => first | (go_simp; done) | (go_simp; rfl)); (case hp => exact (Reps.one (show Kd.M (Kd.int .i64) _ _ _ x12_2 [.int .i64 x12_2] from rfl) (Reps.one (show Kd.M (Kd.int .i64) _ _ _ x15_4 [.int .i64 x15_4] from rfl) (Reps.one (show Kd.M (Kd.int .i64) _ _ _ (wrap64 ((t227.length : Int) - x12_2)) [.int .i64 (wrap64 ((t227.length : Int) - x12_2))] from rfl) (Reps.one (show Kd.M (Kd.int .i64) _ _ _ (wrap64 ((l1.length : Int) - (wrap64 ((t227.length : Int) - x12_2)))) [.int .i64 (wrap64 ((l1.length : Int) - (wrap64 ((t227.length : Int) - x12_2))))] from rfl) (Reps.one (show Kd.M (Kd.int .i64) _ _ _ (wrap64 (Int.tdiv (wrap64 ((wrap64 ((wrap64 ((wrap64 (2 * x12_2)) - (t227.length : Int))) + (l1.length : Int))) - x15_4)) 2)) [.int .i64 (wrap64 (Int.tdiv (wrap64 ((wrap64 ((wrap64 ((wrap64 (2 * x12_2)) - (t227.length : Int))) + (l1.length : Int))) - x15_4)) 2))] from rfl) (Reps.none _ _))))))); intro v231 w121 ho122 hb hg_ hnew_; clear hg_ hnew_; (first | rw [← Ny230.out] at ho122 | (simp only [Int.reduceToNat] at ho122; rw [← Ny230.out] at ho122)); have n0 := Az (Kd.R_elder' (rU HO_7.out) (Kd.R_base ho122) hb); have n1 := Az (Kd.R_below (rU HO_18.out) hb); have n2 := Az (Kd.V_elder' (vU HO_Z0.out) (Kd.R_base ho122) hb); have n3 := Az (Kd.R_below (rU HO_Z2.out) hb); have n4 := Az (Kd.N_elder' (nU HO229.out) (Kd.R_base ho122) hb); have n5 := Az (Kd.R_lower (Kd.R_new' (Kd.R_newM (M := fun k_ => (w.heap.size ≤ k_)) ho122 (below_size (bU2 HB.out GE194.out GE198.out)) (fun k_ h_ => h_)) (Kd.R_lt (rU HO_7.out))) (below_size (bU2 HB.out GE194.out GE198.out))); have n6 := Az (blk_below (g := gb194) (o := .cells #[.slice A0_0 l0_0.length c0_0, .slice A0_1 l0_1.length c0_1] 25 (0, 0)) (kU BK194.out) hb); have n7 := Az (blk_below (g := gb198) (o := .cells #[uZ2] 78 (0, 0)) (kU BK198.out) hb); have n8 := Az (below_step (bU2 HB.out GE194.out GE198.out) hb); clear HO_7 HO_18 HO_Z0 HO_Z2 HO229 BK194 BK198 HB; have HO_7 := n0; have HO_18 := n1; have HO_Z0 := n2; have HO_Z2 := n3; have HO229 := n4; have HO232 := n5; have BK194 := n6; have BK198 := n7; have HB := n8; clear n0 n1 n2 n3 n4 n5 n6 n7 n8; clear hb ho122))
                 go_ret
                 exact ⟨_, rE, by (with_reducible repeat (first | apply Kd.R_alloc | apply Kd.R_drewN | apply Kd.R_drew)); exact Kd.R_mono HO232.out (fun _ hk => hk.1.1), bU2 HB.out GE194.out GE198.out⟩
             ·
              rw [if_neg c73] at H
              exact absurd H (by simp)
            ·
             rw [if_neg c72] at H
             exact absurd H (by simp)
  ·
   rw [if_neg c4] at H
   exact absurd H (by simp)
 ·
  rw [if_neg c3] at H
  exact absurd H (by simp)
def impl_ChoiceCounts.f (k : Nat) (l0_0 : List Int) (l0_1 : List Int) (l1 : List Int) : Option (List Int × Bool) := (impl_ChoiceValid.f k l0_0 l0_1 l1).bind fun t242 => (if t242 = true then ((impl_ribbon.f k l0_0 l0_1 l1).bind fun t243 => (some (t243, true))) else (some (([] : List Int), false)))
set_option maxHeartbeats 8000000 in
set_option maxRecDepth 100000 in
theorem impl_ChoiceCounts.calls (k : Nat) (A0_0 : Option Addr) (c0_0 : Nat) (l0_0 : List Int) (A0_1 : Option Addr) (c0_1 : Nat) (l0_1 : List Int) (A1 : Option Addr) (c1 : Nat) (l1 : List Int) (r1 : List Int) (r2 : Bool) (w : World) (hr0_0 : Kd.C (Kd.int .i64) w A0_0 l0_0.length l0_0) (hc0_0 : l0_0.length ≤ c0_0) (hr0_1 : Kd.C (Kd.int .i64) w A0_1 l0_1.length l0_1) (hc0_1 : l0_1.length ≤ c0_1) (hr1 : Kd.C (Kd.int .i64) w A1 l1.length l1) (hc1 : l1.length ≤ c1) (h : impl_ChoiceCounts.f k l0_0 l0_1 l1 = some (r1, r2)) :
  Calls Try.prog 20 #[.agg #[.slice A0_0 l0_0.length c0_0, .slice A0_1 l0_1.length c0_1], .slice A1 l1.length c1] w fun e w' => ∃ v0_ : Value, e = .returned (.tuple #[v0_, .bool r2]) ∧ Kd.R (Kd.int .i64) 3 w' w.heap.size (fun _ => True) v0_ r1 ∧ Below w.heap.size w w' := by
 have hu25 := Try.underlying25; have HR0_0 := Az hr0_0; have HC0_0 := Az hc0_0; clear hr0_0 hc0_0; have HR0_1 := Az hr0_1; have HC0_1 := Az hc0_1; clear hr0_1 hc0_1; have HR1 := Az hr1; have HC1 := Az hc1; clear hr1 hc1; have HB := Az (Below.refl w.heap.size w); have H : ((impl_ChoiceValid.f k l0_0 l0_1 l1).bind fun t242 => (if t242 = true then ((impl_ribbon.f k l0_0 l0_1 l1).bind fun t243 => (some (t243, true))) else (some (([] : List Int), false)))) = some (r1, r2) := h; clear h; replace H := Option.bind_eq_some_iff.mp H; obtain ⟨t242, A30, H⟩ := H; replace H : (if t242 = true then ((impl_ribbon.f k l0_0 l0_1 l1).bind fun t243 => (some (t243, true))) else (some (([] : List Int), false))) = some (r1, r2) := H; have A3 := Az A30; clear A30
 by_cases c4 : t242 = true
 ·
  subst c4
  have H1 : ((impl_ribbon.f k l0_0 l0_1 l1).bind fun t243 => (some (t243, true))) = some (r1, r2) := by rw [if_pos rfl] at H; exact H
  clear H; have H := H1; clear H1; replace H := Option.bind_eq_some_iff.mp H; obtain ⟨t243, A50, H⟩ := H; replace H : (some (t243, true)) = some (r1, r2) := H; have A5 := Az A50; clear A50; simp only [Option.some.injEq, Prod.mk.injEq] at H; obtain ⟨rfl, rfl⟩ := H
  go_enter Try.func20, Try.ntmps20
  go_wp2_with (first | ((with_reducible refine gate_dst (N := 2) rfl ?_); refine box_event ?hg (N := 2) ?hd (cs := #[.slice A0_0 l0_0.length c0_0, .slice A0_1 l0_1.length c0_1]) (t := 25) ?hr ?_; (case hd => rfl); (case hg => rfl); (case hr => first | (go_simp; done) | (go_simp; rfl)); intro gb241 hg w6 hbox hb; have n0 := Az (below_step (bU0 HB.out) hb); have n1 := Az (hbox); have n2 := Az ((by rw [hg]; exact (below_size (bU0 HB.out)) : w.heap.size ≤ gb241)); have n3 := n2; clear HB; have HB := n0; have BK241 := n1; have GW241 := n2; have GE241 := n3; clear n0 n1 n2 n3 hb hbox hg; have hcz7_0 : w6.cell? ⟨gb241, 0, none⟩ = some (.slice A0_0 l0_0.length c0_0) := (blk_cell BK241.out 0).trans rfl; have hcz7_1 : w6.cell? ⟨gb241, 1, none⟩ = some (.slice A0_1 l0_1.length c0_1) := (blk_cell BK241.out 1).trans rfl; have hfz7_0 := blk_frozen BK241.out 0; have hfz7_1 := blk_frozen BK241.out 1) | ((with_reducible refine gate_callee (f := 16) rfl ?_); refine goesL_ (some 8) rfl rfl Try.func16 (by kernel_rfl) rfl #[.agg #[.slice A0_0 l0_0.length c0_0, .slice A0_1 l0_1.length c0_1], .slice A1 l1.length c1] rfl (by (try simp only [List.map_toArray, List.map_cons, List.map_nil]); first | done | rfl | (simp only [List.length_drop, List.length_take]; rfl)) ?_; (with_reducible refine (impl_ChoiceValid.calls k _ _ l0_0 _ _ l0_1 _ _ l1 true _ ?side1 ?side2 ?side3 ?side4 ?side5 ?side6 A3.out).mono ?_); (case side1 => exact cU (Kd.C_below HR0_0.out HB.out)); (case side2 => exact HC0_0.out); (case side3 => exact cU (Kd.C_below HR0_1.out HB.out)); (case side4 => exact HC0_1.out); (case side5 => exact cU (Kd.C_below HR1.out HB.out)); (case side6 => exact HC1.out); rintro e w8 ⟨rfl, hb⟩; refine ⟨_, rfl, ?_⟩; have n0 := Az (blk_below (g := gb241) (o := .cells #[.slice A0_0 l0_0.length c0_0, .slice A0_1 l0_1.length c0_1] 25 (0, 0)) (kU BK241.out) hb); have n1 := Az (below_step (bU1 HB.out GE241.out) hb); clear BK241 HB; have BK241 := n0; have HB := n1; clear n0 n1; (try clear hb); (try clear hb2); (try clear hk); (try clear hi); have hcz9_0 : w8.cell? ⟨gb241, 0, none⟩ = some (.slice A0_0 l0_0.length c0_0) := (blk_cell BK241.out 0).trans rfl; have hcz9_1 : w8.cell? ⟨gb241, 1, none⟩ = some (.slice A0_1 l0_1.length c0_1) := (blk_cell BK241.out 1).trans rfl; have hfz9_0 := blk_frozen BK241.out 0; have hfz9_1 := blk_frozen BK241.out 1) | ((with_reducible refine gate_callee (f := 65) rfl ?_); refine goesL_ (some 12) rfl rfl Try.func65 (by kernel_rfl) rfl #[.agg #[.slice A0_0 l0_0.length c0_0, .slice A0_1 l0_1.length c0_1], .slice A1 l1.length c1] rfl (by (try simp only [List.map_toArray, List.map_cons, List.map_nil]); first | done | rfl | (simp only [List.length_drop, List.length_take]; rfl)) ?_; (with_reducible refine (impl_ribbon.calls k (fun k_ => k_ < w.heap.size) _ _ l0_0 _ _ l0_1 _ _ l1 t243 _ ?side1 ?side2 ?side3 ?side4 ?side5 A5.out).mono ?_); (case side1 => exact Kd.V_mk HC0_0.out (Kd.F_below (Kd.C_F (Kd.heap_int .i64) HR0_0.out) (bU1 HB.out GE241.out))); (case side2 => exact cU (Kd.C_below HR0_1.out HB.out)); (case side3 => exact HC0_1.out); (case side4 => exact cU (Kd.C_below HR1.out HB.out)); (case side5 => exact HC1.out); rintro e w10 ⟨v244, rfl, ho0, hb⟩; refine ⟨_, rfl, ?_⟩; have n0 := Az (Kd.R_lower (Kd.R_mono (ok' := fun k_ => True) ho0 (fun _ hk_ => trivial)) (below_size (bU1 HB.out GE241.out))); have n1 := Az (blk_below (g := gb241) (o := .cells #[.slice A0_0 l0_0.length c0_0, .slice A0_1 l0_1.length c0_1] 25 (0, 0)) (kU BK241.out) hb); have n2 := Az (below_step (bU1 HB.out GE241.out) hb); clear BK241 HB; have HO245 := n0; have BK241 := n1; have HB := n2; clear n0 n1 n2; (try clear hb); (try clear hb2); (try clear hk); (try clear hi); (try clear ho0)))
  go_ret2
  exact ⟨_, rE, rU HO245.out, bU1 HB.out GE241.out⟩
 ·
  replace c4 := Bool.eq_false_iff.mpr c4; subst c4
  have H1 : (some (([] : List Int), false)) = some (r1, r2) := by rw [if_neg (show ¬ (false = true) by decide)] at H; exact H
  clear H; have H := H1; clear H1; simp only [Option.some.injEq, Prod.mk.injEq] at H; obtain ⟨rfl, rfl⟩ := H
  go_enter Try.func20, Try.ntmps20
  go_wp2_with (first | ((with_reducible refine gate_dst (N := 2) rfl ?_); refine box_event ?hg (N := 2) ?hd (cs := #[.slice A0_0 l0_0.length c0_0, .slice A0_1 l0_1.length c0_1]) (t := 25) ?hr ?_; (case hd => rfl); (case hg => rfl); (case hr => first | (go_simp; done) | (go_simp; rfl)); intro gb241 hg w11 hbox hb; have n0 := Az (below_step (bU0 HB.out) hb); have n1 := Az (hbox); have n2 := Az ((by rw [hg]; exact (below_size (bU0 HB.out)) : w.heap.size ≤ gb241)); have n3 := n2; clear HB; have HB := n0; have BK241 := n1; have GW241 := n2; have GE241 := n3; clear n0 n1 n2 n3 hb hbox hg; have hcz12_0 : w11.cell? ⟨gb241, 0, none⟩ = some (.slice A0_0 l0_0.length c0_0) := (blk_cell BK241.out 0).trans rfl; have hcz12_1 : w11.cell? ⟨gb241, 1, none⟩ = some (.slice A0_1 l0_1.length c0_1) := (blk_cell BK241.out 1).trans rfl; have hfz12_0 := blk_frozen BK241.out 0; have hfz12_1 := blk_frozen BK241.out 1) | ((with_reducible refine gate_callee (f := 16) rfl ?_); refine goesL_ (some 8) rfl rfl Try.func16 (by kernel_rfl) rfl #[.agg #[.slice A0_0 l0_0.length c0_0, .slice A0_1 l0_1.length c0_1], .slice A1 l1.length c1] rfl (by (try simp only [List.map_toArray, List.map_cons, List.map_nil]); first | done | rfl | (simp only [List.length_drop, List.length_take]; rfl)) ?_; (with_reducible refine (impl_ChoiceValid.calls k _ _ l0_0 _ _ l0_1 _ _ l1 false _ ?side1 ?side2 ?side3 ?side4 ?side5 ?side6 A3.out).mono ?_); (case side1 => exact cU (Kd.C_below HR0_0.out HB.out)); (case side2 => exact HC0_0.out); (case side3 => exact cU (Kd.C_below HR0_1.out HB.out)); (case side4 => exact HC0_1.out); (case side5 => exact cU (Kd.C_below HR1.out HB.out)); (case side6 => exact HC1.out); rintro e w13 ⟨rfl, hb⟩; refine ⟨_, rfl, ?_⟩; have n0 := Az (blk_below (g := gb241) (o := .cells #[.slice A0_0 l0_0.length c0_0, .slice A0_1 l0_1.length c0_1] 25 (0, 0)) (kU BK241.out) hb); have n1 := Az (below_step (bU1 HB.out GE241.out) hb); clear BK241 HB; have BK241 := n0; have HB := n1; clear n0 n1; (try clear hb); (try clear hb2); (try clear hk); (try clear hi)))
  go_ret2
  exact ⟨_, rE, by first | exact Kd.R_nil _ _ _ _ _ | exact Kd.N_nil _ _ _ _ _ | exact Kd.V_nil _ _ _ _ _ | exact Kd.Q_nil _ _ _ _ _ | exact Kd.S_nil _ _ _ _ _, bU1 HB.out GE241.out⟩
def impl_genusOf.f (k : Nat) (l0_0 : List Int) (l0_1 : List Int) : Option (Int) := (impl_cyclesOf.f k l0_0).bind fun t247 => ((impl_mul.f k l0_1 l0_0).bind fun t250 => ((impl_cyclesOf.f k t250).bind fun t253 => (some (wrap64 (Int.tdiv (wrap64 ((wrap64 ((wrap64 (2 - (t247.length : Int))) + (wrap64 ((l0_1.length : Int) / 2)))) - (t253.length : Int))) 2)))))
def impl_genusOf.T1 : Bool × List (List Nat × List Nat) := (true, [([], []), ([0], [0]), ([1], [1]), ([2], [2]), ([3], [3]), ([], []), ([5], [5]), ([6], [6]), ([7], [7]), ([4, 8], [4, 8]), ([], []), ([10], [10]), ([], []), ([12], [12]), ([11, 13, 2], [11, 13]), ([14, 14], [14]), ([15], [15]), ([9, 16], [9, 16]), ([17], [17]), ([18, 15, 0, 1, 2, 3, 4, 5, 6, 7, 8, 9, 10, 11, 12, 13, 14, 15, 16, 17, 18], [18])])
def impl_genusOf.B1 : List Nat := [0, 1, 3, 7, 15, 0, 32, 96, 224, 511, 0, 1024, 0, 4096, 15367, 31751, 64519, 131071, 262143, 524287]
theorem impl_genusOf.tab1 : rtab .any (opsOf Try.f66 1) = impl_genusOf.T1 := by kernel_rfl
theorem impl_genusOf.bits1 : waitsOk impl_genusOf.T1.2 impl_genusOf.B1 = true := by kernel_rfl
set_option maxHeartbeats 8000000 in
set_option maxRecDepth 100000 in
theorem impl_genusOf.calls (k : Nat) (A0_0 : Option Addr) (c0_0 : Nat) (l0_0 : List Int) (A0_1 : Option Addr) (c0_1 : Nat) (l0_1 : List Int) (r : Int) (w : World) (hr0_0 : Kd.C (Kd.int .i64) w A0_0 l0_0.length l0_0) (hc0_0 : l0_0.length ≤ c0_0) (hr0_1 : Kd.C (Kd.int .i64) w A0_1 l0_1.length l0_1) (hc0_1 : l0_1.length ≤ c0_1) (h : impl_genusOf.f k l0_0 l0_1 = some r) :
  Calls Try.prog 66 #[.agg #[.slice A0_0 l0_0.length c0_0, .slice A0_1 l0_1.length c0_1]] w fun e w' => e = .returned (.int .i64 r) ∧ Below w.heap.size w w' := by
 have hu25 := Try.underlying25; have HR0_0 := Az hr0_0; have HC0_0 := Az hc0_0; clear hr0_0 hc0_0; have HR0_1 := Az hr0_1; have HC0_1 := Az hc0_1; clear hr0_1 hc0_1; have HB := Az (Below.refl w.heap.size w); have H : ((impl_cyclesOf.f k l0_0).bind fun t247 => ((impl_mul.f k l0_1 l0_0).bind fun t250 => ((impl_cyclesOf.f k t250).bind fun t253 => (some (wrap64 (Int.tdiv (wrap64 ((wrap64 ((wrap64 (2 - (t247.length : Int))) + (wrap64 ((l0_1.length : Int) / 2)))) - (t253.length : Int))) 2)))))) = some r := h; clear h; replace H := Option.bind_eq_some_iff.mp H; obtain ⟨t247, A20, H⟩ := H; replace H : ((impl_mul.f k l0_1 l0_0).bind fun t250 => ((impl_cyclesOf.f k t250).bind fun t253 => (some (wrap64 (Int.tdiv (wrap64 ((wrap64 ((wrap64 (2 - (t247.length : Int))) + (wrap64 ((l0_1.length : Int) / 2)))) - (t253.length : Int))) 2))))) = some r := H; have A2 := Az A20; clear A20; replace H := Option.bind_eq_some_iff.mp H; obtain ⟨t250, A30, H⟩ := H; replace H : ((impl_cyclesOf.f k t250).bind fun t253 => (some (wrap64 (Int.tdiv (wrap64 ((wrap64 ((wrap64 (2 - (t247.length : Int))) + (wrap64 ((l0_1.length : Int) / 2)))) - (t253.length : Int))) 2)))) = some r := H; have A3 := Az A30; clear A30; replace H := Option.bind_eq_some_iff.mp H; obtain ⟨t253, A40, H⟩ := H; replace H : (some (wrap64 (Int.tdiv (wrap64 ((wrap64 ((wrap64 (2 - (t247.length : Int))) + (wrap64 ((l0_1.length : Int) / 2)))) - (t253.length : Int))) 2))) = some r := H; have A4 := Az A40; clear A40; obtain rfl := Option.some.inj H
 go_enter Try.func66, Try.ntmps66
 try go_wp2_with (first | ((with_reducible refine gate_dst (N := 1) rfl ?_); refine box_event ?hg (N := 1) ?hd (cs := #[.slice A0_0 l0_0.length c0_0, .slice A0_1 l0_1.length c0_1]) (t := 25) ?hr ?_; (case hd => rfl); (case hg => rfl); (case hr => first | (go_simp; done) | (go_simp; rfl)); intro gb246 hg w5 hbox hb; have n0 := Az (below_step (bU0 HB.out) hb); have n1 := Az (hbox); have n2 := Az ((by rw [hg]; exact (below_size (bU0 HB.out)) : w.heap.size ≤ gb246)); have n3 := n2; clear HB; have HB := n0; have BK246 := n1; have GW246 := n2; have GE246 := n3; clear n0 n1 n2 n3; clear hb hbox hg))
 have n0 := Az (blk_drew BK246.out); have n1 := Az (below_drew1 HB.out); clear BK246 HB; have BK246 := n0; have HB := n1; clear n0 n1
 refine start_ (n := 20) (S := fun w' => w'.cell? ⟨gb246, 0, none⟩ = some (.slice A0_0 l0_0.length c0_0) ∧ w'.cell? ⟨gb246, 1, none⟩ = some (.slice A0_1 l0_1.length c0_1)) (ds := []) #[false, false, false, false, false, false, false, false, false, false, false, false, false, false, false, false, false, false, false, false] (by kernel_rfl) rfl rfl ⟨(blk_cell BK246.out 0).trans rfl, (blk_cell BK246.out 1).trans rfl⟩ (fun hHeld => ?_); refine with_tabW impl_genusOf.tab1 impl_genusOf.bits1 (fun HT_ HW_ => ?_)
 generalize w5.drew = w6 at BK246 HB hHeld ⊢
 refine pure_ (i := 0) (N := some 3) (v := ?_) (a' := ?_) #[true, false, false, false, false, false, false, false, false, false, false, false, false, false, false, false, false, false, false, false] rfl rfl (any_of HT_.out (by kernel_rfl)) (fun _ _ _ h => h) (Or.inl ⟨by rfl, ?_⟩) ?_ ?_
 rotate_left
 ·
  intro w'
  go_simp
  with_reducible rfl
 rotate_left
 ·
  simp only [Act.put, List.setIfInBounds_toArray, List.set_cons_zero, List.set_cons_succ, i64_w, i32_w]
  rfl
 refine pure_ (i := 5) (N := some 8) (v := ?_) (a' := ?_) #[true, false, false, false, false, true, false, false, false, false, false, false, false, false, false, false, false, false, false, false] rfl rfl (any_of HT_.out (by kernel_rfl)) (fun _ _ _ h => h) (Or.inl ⟨by rfl, ?_⟩) ?_ ?_
 rotate_left
 ·
  intro w'
  go_simp
  with_reducible rfl
 rotate_left
 ·
  simp only [Act.put, List.setIfInBounds_toArray, List.set_cons_zero, List.set_cons_succ, i64_w, i32_w]
  rfl
 refine pure_ (i := 10) (N := some 13) (v := ?_) (a' := ?_) #[true, false, false, false, false, true, false, false, false, false, true, false, false, false, false, false, false, false, false, false] rfl rfl (any_of HT_.out (by kernel_rfl)) (fun _ _ _ h => h) (Or.inl ⟨by rfl, ?_⟩) ?_ ?_
 rotate_left
 ·
  intro w'
  go_simp
  with_reducible rfl
 rotate_left
 ·
  simp only [Act.put, List.setIfInBounds_toArray, List.set_cons_zero, List.set_cons_succ, i64_w, i32_w]
  rfl
 refine pure_ (i := 12) (N := some 15) (v := ?_) (a' := ?_) #[true, false, false, false, false, true, false, false, false, false, true, false, true, false, false, false, false, false, false, false] rfl rfl (any_of HT_.out (by kernel_rfl)) (fun _ _ _ h => h) (Or.inl ⟨by rfl, ?_⟩) ?_ ?_
 rotate_left
 ·
  intro w'
  go_simp
  with_reducible rfl
 rotate_left
 ·
  simp only [Act.put, List.setIfInBounds_toArray, List.set_cons_zero, List.set_cons_succ, i64_w, i32_w]
  rfl
 refine take_ (i := 1) (N := some 4) (v := ?_) (a' := ?_) #[true, true, false, false, false, true, false, false, false, false, true, false, true, false, false, false, false, false, false, false] rfl rfl (take_ofW HT_.out HW_.out (by kernel_rfl)) (fun _ _ _ h => h) (Or.inl ⟨by rfl, ?_⟩) hHeld ?_ ?_
 rotate_left
 ·
  rintro w' ⟨s0, s1⟩
  go_simp
  with_reducible rfl
 rotate_left
 ·
  simp only [Act.put, List.setIfInBounds_toArray, List.set_cons_zero, List.set_cons_succ, i64_w, i32_w]
  rfl
 refine take_ (i := 6) (N := some 9) (v := ?_) (a' := ?_) #[true, true, false, false, false, true, true, false, false, false, true, false, true, false, false, false, false, false, false, false] rfl rfl (take_ofW HT_.out HW_.out (by kernel_rfl)) (fun _ _ _ h => h) (Or.inl ⟨by rfl, ?_⟩) hHeld ?_ ?_
 rotate_left
 ·
  rintro w' ⟨s0, s1⟩
  go_simp
  with_reducible rfl
 rotate_left
 ·
  simp only [Act.put, List.setIfInBounds_toArray, List.set_cons_zero, List.set_cons_succ, i64_w, i32_w]
  rfl
 refine pure_ (i := 7) (N := some 10) (v := ?_) (a' := ?_) #[true, true, false, false, false, true, true, true, false, false, true, false, true, false, false, false, false, false, false, false] rfl rfl (any_of HT_.out (by kernel_rfl)) (fun _ _ _ h => h) (Or.inl ⟨by rfl, ?_⟩) ?_ ?_
 rotate_left
 ·
  intro w'
  go_simp
  with_reducible rfl
 rotate_left
 ·
  simp only [Act.put, List.setIfInBounds_toArray, List.set_cons_zero, List.set_cons_succ, i64_w, i32_w]
  rfl
 refine pure_ (i := 8) (N := some 11) (v := ?_) (a' := ?_) #[true, true, false, false, false, true, true, true, true, false, true, false, true, false, false, false, false, false, false, false] rfl rfl (any_of HT_.out (by kernel_rfl)) (fun _ _ _ h => h) (Or.inl ⟨by rfl, ?_⟩) ?_ ?_
 rotate_left
 ·
  intro w'
  go_simp
  with_reducible rfl
 rotate_left
 ·
  simp only [Act.put, List.setIfInBounds_toArray, List.set_cons_zero, List.set_cons_succ, i64_w, i32_w]
  rfl
 refine take_ (i := 11) (N := some 14) (v := ?_) (a' := ?_) #[true, true, false, false, false, true, true, true, true, false, true, true, true, false, false, false, false, false, false, false] rfl rfl (take_ofW HT_.out HW_.out (by kernel_rfl)) (fun _ _ _ h => h) (Or.inl ⟨by rfl, ?_⟩) hHeld ?_ ?_
 rotate_left
 ·
  rintro w' ⟨s0, s1⟩
  go_simp
  with_reducible rfl
 rotate_left
 ·
  simp only [Act.put, List.setIfInBounds_toArray, List.set_cons_zero, List.set_cons_succ, i64_w, i32_w]
  rfl
 refine take_ (i := 13) (N := some 16) (v := ?_) (a' := ?_) #[true, true, false, false, false, true, true, true, true, false, true, true, true, true, false, false, false, false, false, false] rfl rfl (take_ofW HT_.out HW_.out (by kernel_rfl)) (fun _ _ _ h => h) (Or.inl ⟨by rfl, ?_⟩) hHeld ?_ ?_
 rotate_left
 ·
  rintro w' ⟨s0, s1⟩
  go_simp
  with_reducible rfl
 rotate_left
 ·
  simp only [Act.put, List.setIfInBounds_toArray, List.set_cons_zero, List.set_cons_succ, i64_w, i32_w]
  rfl
 refine one_ (i := 2) (N := some 5) #[true, true, true, false, false, true, true, true, true, false, true, true, true, true, false, false, false, false, false, false] rfl rfl (one_of HT_.out (by kernel_rfl)) (by decide) (fun K hK => ?_)
 refine goes_ Try.func63 (by kernel_rfl) rfl #[.slice A0_0 l0_0.length c0_0] (by rfl) rfl rfl (by (try simp only [List.map_toArray, List.map_cons, List.map_nil]); first | done | rfl | (simp only [List.length_drop, List.length_take]; rfl)) ?_
 with_reducible refine (impl_cyclesOf.calls k _ _ l0_0 t247 _ ?side1 ?side2 A2.out).mono ?_
 (case side1 => exact cU (Kd.C_below HR0_0.out HB.out))
 (case side2 => exact HC0_0.out)
 rintro e w7 ⟨v248, rfl, ho0, hb⟩
 refine ⟨_, rfl, ?_⟩
 have n0 := Az (Kd.S_lower ho0 (below_size (bU1 HB.out GE246.out))); have n1 := Az (blk_below (g := gb246) (o := .cells #[.slice A0_0 l0_0.length c0_0, .slice A0_1 l0_1.length c0_1] 25 (0, 0)) (kU BK246.out) hb); have n2 := Az (below_step (bU1 HB.out GE246.out) hb); clear BK246 HB; have HO249 := n0; have BK246 := n1; have HB := n2; clear n0 n1 n2; (try clear hb); (try clear hb2); (try clear hk); (try clear hi); (try clear ho0); obtain ⟨Ao8, co8, eo8⟩ := Kd.S_slice HO249.out; (first | subst eo8 | (injection eo8 with f1_ f2_ f3_; have f4_ := f1_.symm; have f5_ := f3_.symm; clear f1_ f2_ f3_; subst f4_; subst f5_))
 refine hK.out _ _ ⟨(blk_cell BK246.out 0).trans rfl, (blk_cell BK246.out 1).trans rfl⟩ (fun hHeld => ?_)
 clear hK K
 refine norm_ (a' := ?_) ?_ ?_
 rotate_left
 ·
  show Act.put _ (some 5) _ = _
  simp only [Act.put, List.setIfInBounds_toArray, List.set_cons_zero, List.set_cons_succ, i64_w, i32_w]
  rfl
 refine pure_ (i := 3) (N := some 6) (v := ?_) (a' := ?_) #[true, true, true, true, false, true, true, true, true, false, true, true, true, true, false, false, false, false, false, false] rfl rfl (any_of HT_.out (by kernel_rfl)) (fun _ _ _ h => h) (Or.inl ⟨by rfl, ?_⟩) ?_ ?_
 rotate_left
 ·
  intro w'
  go_simp
  with_reducible rfl
 rotate_left
 ·
  simp only [Act.put, List.setIfInBounds_toArray, List.set_cons_zero, List.set_cons_succ, i64_w, i32_w]
  rfl
 refine pure_ (i := 4) (N := some 7) (v := ?_) (a' := ?_) #[true, true, true, true, true, true, true, true, true, false, true, true, true, true, false, false, false, false, false, false] rfl rfl (any_of HT_.out (by kernel_rfl)) (fun _ _ _ h => h) (Or.inl ⟨by rfl, ?_⟩) ?_ ?_
 rotate_left
 ·
  intro w'
  go_simp
  with_reducible rfl
 rotate_left
 ·
  simp only [Act.put, List.setIfInBounds_toArray, List.set_cons_zero, List.set_cons_succ, i64_w, i32_w]
  rfl
 refine pure_ (i := 9) (N := some 12) (v := ?_) (a' := ?_) #[true, true, true, true, true, true, true, true, true, true, true, true, true, true, false, false, false, false, false, false] rfl rfl (any_of HT_.out (by kernel_rfl)) (fun _ _ _ h => h) (Or.inl ⟨by rfl, ?_⟩) ?_ ?_
 rotate_left
 ·
  intro w'
  go_simp
  with_reducible rfl
 rotate_left
 ·
  simp only [Act.put, List.setIfInBounds_toArray, List.set_cons_zero, List.set_cons_succ, i64_w, i32_w]
  rfl
 refine one_ (i := 14) (N := some 17) #[true, true, true, true, true, true, true, true, true, true, true, true, true, true, true, false, false, false, false, false] rfl rfl (one_of HT_.out (by kernel_rfl)) (by decide) (fun K hK => ?_)
 refine goes_ Try.func64 (by kernel_rfl) rfl #[.slice A0_1 l0_1.length c0_1, .slice A0_0 l0_0.length c0_0] (by rfl) rfl rfl (by (try simp only [List.map_toArray, List.map_cons, List.map_nil]); first | done | rfl | (simp only [List.length_drop, List.length_take]; rfl)) ?_
 with_reducible refine (impl_mul.calls k _ _ l0_1 _ _ l0_0 t250 _ ?side1 ?side2 ?side3 ?side4 A3.out).mono ?_
 (case side1 => exact cU (Kd.C_below HR0_1.out HB.out))
 (case side2 => exact HC0_1.out)
 (case side3 => exact cU (Kd.C_below HR0_0.out HB.out))
 (case side4 => exact HC0_0.out)
 rintro e w9 ⟨v251, rfl, ho0, hb⟩
 refine ⟨_, rfl, ?_⟩
 have n0 := Az (Kd.S_elder' (sU HO249.out) (Kd.R_base ho0) hb); have n1 := Az (Kd.R_lower ho0 (below_size (bU1 HB.out GE246.out))); have n2 := Az (blk_below (g := gb246) (o := .cells #[.slice A0_0 l0_0.length c0_0, .slice A0_1 l0_1.length c0_1] 25 (0, 0)) (kU BK246.out) hb); have n3 := Az (below_step (bU1 HB.out GE246.out) hb); clear HO249 BK246 HB; have HO249 := n0; have HO252 := n1; have BK246 := n2; have HB := n3; clear n0 n1 n2 n3; (try clear hb); (try clear hb2); (try clear hk); (try clear hi); (try clear ho0); obtain ⟨Ao10, co10, eo10⟩ := Kd.R_slice HO252.out; (first | subst eo10 | (injection eo10 with f1_ f2_ f3_; have f4_ := f1_.symm; have f5_ := f3_.symm; clear f1_ f2_ f3_; subst f4_; subst f5_))
 refine hK.out _ _ ⟨(blk_cell BK246.out 0).trans rfl, (blk_cell BK246.out 1).trans rfl⟩ (fun hHeld => ?_)
 clear hK K
 refine norm_ (a' := ?_) ?_ ?_
 rotate_left
 ·
  show Act.put _ (some 17) _ = _
  simp only [Act.put, List.setIfInBounds_toArray, List.set_cons_zero, List.set_cons_succ, i64_w, i32_w]
  rfl
 refine one_ (i := 15) (N := some 18) #[true, true, true, true, true, true, true, true, true, true, true, true, true, true, true, true, false, false, false, false] rfl rfl (one_of HT_.out (by kernel_rfl)) (by decide) (fun K hK => ?_)
 refine goes_ Try.func63 (by kernel_rfl) rfl #[.slice Ao10 t250.length co10] (by rfl) rfl rfl (by (try simp only [List.map_toArray, List.map_cons, List.map_nil]); first | done | rfl | (simp only [List.length_drop, List.length_take]; rfl)) ?_
 with_reducible refine (impl_cyclesOf.calls k _ _ t250 t253 _ ?side1 ?side2 A4.out).mono ?_
 (case side1 => exact cU ((Kd.R_reads' HO252.out).2.2))
 (case side2 => exact (Kd.R_reads' HO252.out).2.1)
 rintro e w11 ⟨v254, rfl, ho0, hb⟩
 refine ⟨_, rfl, ?_⟩
 have n0 := Az (Kd.S_elder' (sU HO249.out) (Kd.S_base ho0) hb); have n1 := Az (Kd.R_below (rU HO252.out) hb); have n2 := Az (Kd.S_lower (Kd.S_new' (Kd.S_new' ho0 (Kd.S_lt (sU HO249.out))) (Kd.R_lt (rU HO252.out))) (below_size (bU1 HB.out GE246.out))); have n3 := Az (blk_below (g := gb246) (o := .cells #[.slice A0_0 l0_0.length c0_0, .slice A0_1 l0_1.length c0_1] 25 (0, 0)) (kU BK246.out) hb); have n4 := Az (below_step (bU1 HB.out GE246.out) hb); clear HO249 HO252 BK246 HB; have HO249 := n0; have HO252 := n1; have HO255 := n2; have BK246 := n3; have HB := n4; clear n0 n1 n2 n3 n4; (try clear hb); (try clear hb2); (try clear hk); (try clear hi); (try clear ho0); obtain ⟨Ao12, co12, eo12⟩ := Kd.S_slice HO255.out; (first | subst eo12 | (injection eo12 with f1_ f2_ f3_; have f4_ := f1_.symm; have f5_ := f3_.symm; clear f1_ f2_ f3_; subst f4_; subst f5_))
 refine hK.out _ _ ⟨(blk_cell BK246.out 0).trans rfl, (blk_cell BK246.out 1).trans rfl⟩ (fun hHeld => ?_)
 clear hK K
 refine norm_ (a' := ?_) ?_ ?_
 rotate_left
 ·
  show Act.put _ (some 18) _ = _
  simp only [Act.put, List.setIfInBounds_toArray, List.set_cons_zero, List.set_cons_succ, i64_w, i32_w]
  rfl
 refine pure_ (i := 16) (N := some 19) (v := ?_) (a' := ?_) #[true, true, true, true, true, true, true, true, true, true, true, true, true, true, true, true, true, false, false, false] rfl rfl (any_of HT_.out (by kernel_rfl)) (fun _ _ _ h => h) (Or.inl ⟨by rfl, ?_⟩) ?_ ?_
 rotate_left
 ·
  intro w'
  go_simp
  with_reducible rfl
 rotate_left
 ·
  simp only [Act.put, List.setIfInBounds_toArray, List.set_cons_zero, List.set_cons_succ, i64_w, i32_w]
  rfl
 refine pure_ (i := 17) (N := some 20) (v := ?_) (a' := ?_) #[true, true, true, true, true, true, true, true, true, true, true, true, true, true, true, true, true, true, false, false] rfl rfl (any_of HT_.out (by kernel_rfl)) (fun _ _ _ h => h) (Or.inl ⟨by rfl, ?_⟩) ?_ ?_
 rotate_left
 ·
  intro w'
  go_simp
  with_reducible rfl
 rotate_left
 ·
  simp only [Act.put, List.setIfInBounds_toArray, List.set_cons_zero, List.set_cons_succ, i64_w, i32_w]
  rfl
 refine pure_ (i := 18) (N := some 21) (v := ?_) (a' := ?_) #[true, true, true, true, true, true, true, true, true, true, true, true, true, true, true, true, true, true, true, false] rfl rfl (any_of HT_.out (by kernel_rfl)) (fun _ _ _ h => h) (Or.inl ⟨by rfl, ?_⟩) ?_ ?_
 rotate_left
 ·
  intro w'
  go_simp
  with_reducible rfl
 rotate_left
 ·
  simp only [Act.put, List.setIfInBounds_toArray, List.set_cons_zero, List.set_cons_succ, i64_w, i32_w]
  rfl
 refine pure_ (i := 19) (N := some 2) (v := ?_) (a' := ?_) #[true, true, true, true, true, true, true, true, true, true, true, true, true, true, true, true, true, true, true, true] rfl rfl (any_of HT_.out (by kernel_rfl)) (fun _ _ _ h => h) (Or.inl ⟨by rfl, ?_⟩) ?_ ?_
 rotate_left
 ·
  intro w'
  go_simp
  with_reducible rfl
 rotate_left
 ·
  simp only [Act.put, List.setIfInBounds_toArray, List.set_cons_zero, List.set_cons_succ, i64_w, i32_w]
  rfl
 refine done_ (done_of HT_.out (by kernel_rfl)) ?_
 try go_wp2
 go_ret
 exact ⟨rE, bU1 HB.out GE246.out⟩
def impl_MapGenus.f (k : Nat) (l0_0 : List Int) (l0_1 : List Int) : Option (Int) := (impl_MapValid.f k l0_0 l0_1).bind fun t257 => (if t257 = true then ((impl_genusOf.f k l0_0 l0_1).bind fun t258 => (some t258)) else (some (-1)))
set_option maxHeartbeats 8000000 in
set_option maxRecDepth 100000 in
theorem impl_MapGenus.calls (k : Nat) (A0_0 : Option Addr) (c0_0 : Nat) (l0_0 : List Int) (A0_1 : Option Addr) (c0_1 : Nat) (l0_1 : List Int) (r : Int) (w : World) (hr0_0 : Kd.C (Kd.int .i64) w A0_0 l0_0.length l0_0) (hc0_0 : l0_0.length ≤ c0_0) (hr0_1 : Kd.C (Kd.int .i64) w A0_1 l0_1.length l0_1) (hc0_1 : l0_1.length ≤ c0_1) (h : impl_MapGenus.f k l0_0 l0_1 = some r) :
  Calls Try.prog 22 #[.agg #[.slice A0_0 l0_0.length c0_0, .slice A0_1 l0_1.length c0_1]] w fun e w' => e = .returned (.int .i64 r) ∧ Below w.heap.size w w' := by
 have hu25 := Try.underlying25; have HR0_0 := Az hr0_0; have HC0_0 := Az hc0_0; clear hr0_0 hc0_0; have HR0_1 := Az hr0_1; have HC0_1 := Az hc0_1; clear hr0_1 hc0_1; have HB := Az (Below.refl w.heap.size w); have H : ((impl_MapValid.f k l0_0 l0_1).bind fun t257 => (if t257 = true then ((impl_genusOf.f k l0_0 l0_1).bind fun t258 => (some t258)) else (some (-1)))) = some r := h; clear h; replace H := Option.bind_eq_some_iff.mp H; obtain ⟨t257, A20, H⟩ := H; replace H : (if t257 = true then ((impl_genusOf.f k l0_0 l0_1).bind fun t258 => (some t258)) else (some (-1))) = some r := H; have A2 := Az A20; clear A20
 by_cases c3 : t257 = true
 ·
  subst c3
  have H1 : ((impl_genusOf.f k l0_0 l0_1).bind fun t258 => (some t258)) = some r := by rw [if_pos rfl] at H; exact H
  clear H; have H := H1; clear H1; replace H := Option.bind_eq_some_iff.mp H; obtain ⟨t258, A40, H⟩ := H; replace H : (some t258) = some r := H; have A4 := Az A40; clear A40; obtain rfl := Option.some.inj H
  go_enter Try.func22, Try.ntmps22
  go_wp2_with (first | ((with_reducible refine gate_dst (N := 1) rfl ?_); refine box_event ?hg (N := 1) ?hd (cs := #[.slice A0_0 l0_0.length c0_0, .slice A0_1 l0_1.length c0_1]) (t := 25) ?hr ?_; (case hd => rfl); (case hg => rfl); (case hr => first | (go_simp; done) | (go_simp; rfl)); intro gb256 hg w5 hbox hb; have n0 := Az (below_step (bU0 HB.out) hb); have n1 := Az (hbox); have n2 := Az ((by rw [hg]; exact (below_size (bU0 HB.out)) : w.heap.size ≤ gb256)); have n3 := n2; clear HB; have HB := n0; have BK256 := n1; have GW256 := n2; have GE256 := n3; clear n0 n1 n2 n3 hb hbox hg; have hcz6_0 : w5.cell? ⟨gb256, 0, none⟩ = some (.slice A0_0 l0_0.length c0_0) := (blk_cell BK256.out 0).trans rfl; have hcz6_1 : w5.cell? ⟨gb256, 1, none⟩ = some (.slice A0_1 l0_1.length c0_1) := (blk_cell BK256.out 1).trans rfl; have hfz6_0 := blk_frozen BK256.out 0; have hfz6_1 := blk_frozen BK256.out 1) | ((with_reducible refine gate_callee (f := 59) rfl ?_); refine goesL_ (some 4) rfl rfl Try.func59 (by kernel_rfl) rfl #[.agg #[.slice A0_0 l0_0.length c0_0, .slice A0_1 l0_1.length c0_1]] rfl (by (try simp only [List.map_toArray, List.map_cons, List.map_nil]); first | done | rfl | (simp only [List.length_drop, List.length_take]; rfl)) ?_; (with_reducible refine (impl_MapValid.calls k (fun k_ => k_ < w.heap.size) _ _ l0_0 (fun k_ => k_ < w.heap.size) _ _ l0_1 true _ ?side1 ?side2 A2.out).mono ?_); (case side1 => exact Kd.V_mk HC0_0.out (Kd.F_below (Kd.C_F (Kd.heap_int .i64) HR0_0.out) (bU1 HB.out GE256.out))); (case side2 => exact Kd.V_mk HC0_1.out (Kd.F_below (Kd.C_F (Kd.heap_int .i64) HR0_1.out) (bU1 HB.out GE256.out))); rintro e w7 ⟨rfl, hb⟩; refine ⟨_, rfl, ?_⟩; have n0 := Az (blk_below (g := gb256) (o := .cells #[.slice A0_0 l0_0.length c0_0, .slice A0_1 l0_1.length c0_1] 25 (0, 0)) (kU BK256.out) hb); have n1 := Az (below_step (bU1 HB.out GE256.out) hb); clear BK256 HB; have BK256 := n0; have HB := n1; clear n0 n1; (try clear hb); (try clear hb2); (try clear hk); (try clear hi); have hcz8_0 : w7.cell? ⟨gb256, 0, none⟩ = some (.slice A0_0 l0_0.length c0_0) := (blk_cell BK256.out 0).trans rfl; have hcz8_1 : w7.cell? ⟨gb256, 1, none⟩ = some (.slice A0_1 l0_1.length c0_1) := (blk_cell BK256.out 1).trans rfl; have hfz8_0 := blk_frozen BK256.out 0; have hfz8_1 := blk_frozen BK256.out 1) | ((with_reducible refine gate_callee (f := 66) rfl ?_); refine goesL_ (some 7) rfl rfl Try.func66 (by kernel_rfl) rfl #[.agg #[.slice A0_0 l0_0.length c0_0, .slice A0_1 l0_1.length c0_1]] rfl (by (try simp only [List.map_toArray, List.map_cons, List.map_nil]); first | done | rfl | (simp only [List.length_drop, List.length_take]; rfl)) ?_; (with_reducible refine (impl_genusOf.calls k _ _ l0_0 _ _ l0_1 t258 _ ?side1 ?side2 ?side3 ?side4 A4.out).mono ?_); (case side1 => exact cU (Kd.C_below HR0_0.out HB.out)); (case side2 => exact HC0_0.out); (case side3 => exact cU (Kd.C_below HR0_1.out HB.out)); (case side4 => exact HC0_1.out); rintro e w9 ⟨rfl, hb⟩; refine ⟨_, rfl, ?_⟩; have n0 := Az (blk_below (g := gb256) (o := .cells #[.slice A0_0 l0_0.length c0_0, .slice A0_1 l0_1.length c0_1] 25 (0, 0)) (kU BK256.out) hb); have n1 := Az (below_step (bU1 HB.out GE256.out) hb); clear BK256 HB; have BK256 := n0; have HB := n1; clear n0 n1; (try clear hb); (try clear hb2); (try clear hk); (try clear hi)))
  go_ret
  exact ⟨rE, bU1 HB.out GE256.out⟩
 ·
  replace c3 := Bool.eq_false_iff.mpr c3; subst c3
  have H1 : (some (-1)) = some r := by rw [if_neg (show ¬ (false = true) by decide)] at H; exact H
  clear H; have H := H1; clear H1; obtain rfl := Option.some.inj H
  go_enter Try.func22, Try.ntmps22
  go_wp2_with (first | ((with_reducible refine gate_dst (N := 1) rfl ?_); refine box_event ?hg (N := 1) ?hd (cs := #[.slice A0_0 l0_0.length c0_0, .slice A0_1 l0_1.length c0_1]) (t := 25) ?hr ?_; (case hd => rfl); (case hg => rfl); (case hr => first | (go_simp; done) | (go_simp; rfl)); intro gb256 hg w10 hbox hb; have n0 := Az (below_step (bU0 HB.out) hb); have n1 := Az (hbox); have n2 := Az ((by rw [hg]; exact (below_size (bU0 HB.out)) : w.heap.size ≤ gb256)); have n3 := n2; clear HB; have HB := n0; have BK256 := n1; have GW256 := n2; have GE256 := n3; clear n0 n1 n2 n3 hb hbox hg; have hcz11_0 : w10.cell? ⟨gb256, 0, none⟩ = some (.slice A0_0 l0_0.length c0_0) := (blk_cell BK256.out 0).trans rfl; have hcz11_1 : w10.cell? ⟨gb256, 1, none⟩ = some (.slice A0_1 l0_1.length c0_1) := (blk_cell BK256.out 1).trans rfl; have hfz11_0 := blk_frozen BK256.out 0; have hfz11_1 := blk_frozen BK256.out 1) | ((with_reducible refine gate_callee (f := 59) rfl ?_); refine goesL_ (some 4) rfl rfl Try.func59 (by kernel_rfl) rfl #[.agg #[.slice A0_0 l0_0.length c0_0, .slice A0_1 l0_1.length c0_1]] rfl (by (try simp only [List.map_toArray, List.map_cons, List.map_nil]); first | done | rfl | (simp only [List.length_drop, List.length_take]; rfl)) ?_; (with_reducible refine (impl_MapValid.calls k (fun k_ => k_ < w.heap.size) _ _ l0_0 (fun k_ => k_ < w.heap.size) _ _ l0_1 false _ ?side1 ?side2 A2.out).mono ?_); (case side1 => exact Kd.V_mk HC0_0.out (Kd.F_below (Kd.C_F (Kd.heap_int .i64) HR0_0.out) (bU1 HB.out GE256.out))); (case side2 => exact Kd.V_mk HC0_1.out (Kd.F_below (Kd.C_F (Kd.heap_int .i64) HR0_1.out) (bU1 HB.out GE256.out))); rintro e w12 ⟨rfl, hb⟩; refine ⟨_, rfl, ?_⟩; have n0 := Az (blk_below (g := gb256) (o := .cells #[.slice A0_0 l0_0.length c0_0, .slice A0_1 l0_1.length c0_1] 25 (0, 0)) (kU BK256.out) hb); have n1 := Az (below_step (bU1 HB.out GE256.out) hb); clear BK256 HB; have BK256 := n0; have HB := n1; clear n0 n1; (try clear hb); (try clear hb2); (try clear hk); (try clear hi)))
  go_ret
  exact ⟨rE, bU1 HB.out GE256.out⟩
def slices_Clone_int_int.f (l0 : List Int) : Option (List Int) := if l0.length < 17592186044416 then some l0 else none
set_option maxHeartbeats 8000000 in
set_option maxRecDepth 100000 in
theorem slices_Clone_int_int.calls (A0 : Option Addr) (c0 : Nat) (l0 : List Int) (r : List Int) (w : World) (hr0 : Kd.C (Kd.int .i64) w A0 l0.length l0) (hc0 : l0.length ≤ c0) (h : slices_Clone_int_int.f l0 = some r) :
  Calls Try.prog 68 #[.slice A0 l0.length c0] w fun e w' => ∃ v0_ : Value, e = .returned (v0_) ∧ Kd.R (Kd.int .i64) 3 w' w.heap.size (fun _ => True) v0_ r ∧ Below w.heap.size w w' := by
 have HR0 := Az hr0; have HC0 := Az hc0
 have hnil : A0 = none → l0 = [] := by
  intro e
  have h' := Kd.reads_of_C (d := (0 : Int)) hr0
  by_cases hn : 0 < l0.length
  ·
   obtain ⟨ad, e2, _⟩ := h'.2.2 hn; rw [e] at e2
   cases e2
  ·
   exact List.eq_nil_of_length_eq_zero (by omega)
 clear hr0 hc0; have HB := Az (Below.refl w.heap.size w)
 unfold slices_Clone_int_int.f at h
 by_cases c2 : l0.length < 17592186044416
 ·
  rw [if_pos c2] at h; have LMc2 := Az c2; clear c2; obtain rfl := Option.some.inj h; clear h
  cases A0 with
  | none =>
   obtain rfl := hnil rfl
   have he : ∀ w : World, (binOp .eql 23 (.slice none 0 c0) (.slice none 0 0)).run Try.prog w = .ok (.bool true) w := fun _ => rfl
   go_enter Try.func68, Try.ntmps68
   go_wp2
   go_ret
   exact ⟨_, rfl, Kd.R_nil _ _ _ _ _, HB.out⟩
  | some ad =>
   clear hnil
   have he : ∀ w : World, (binOp .eql 23 (.slice (some ad) l0.length c0) (.slice none 0 0)).run Try.prog w = .ok (.bool false) w := fun _ => rfl
   obtain ⟨y1, hy1⟩ : ∃ y_ : List Int, y_ = (([] : List Int)) := ⟨_, rfl⟩; obtain ⟨y2, hy2⟩ : ∃ y_ : List Int, y_ = (y1 ++ l0) := ⟨_, rfl⟩
   have e2 : y2 = l0 := by rw [hy2, hy1]; rfl
   have Ny1 := Az hy1; have Ny2 := Az hy2
   have hl1 : y1.length + l0.length < 17592186044416 := by rw [hy1]; have := LMc2.out; simpa using this
   have LMc3 := Az hl1; clear hy1 hy2 hl1
   go_enter Try.func68, Try.ntmps68
   go_wp2_with (first | ((with_reducible refine gate_dst (N := 5) rfl ?_); refine Kd.R_lit (Kd.int .i64) _ 3 ?hg (N := 5) ?hd (xs := ([] : List Int)) (inner := []) (ok := fun _ => True) (okp := fun _ => True) ?hr ?hp (fun _ hk => hk) trivial (Below.refl _ _) (Nat.le_refl _) (by simp) ?_; (case hd => rfl); (case hg => rfl); (case hr => first | (go_simp; done) | (go_simp; rfl)); (case hp => exact (Reps.none _ _)); intro v189 w3 ho4 hb hg_ hnew_; clear hg_ hnew_; (first | rw [← Ny1.out] at ho4 | (simp only [Int.reduceToNat] at ho4; rw [← Ny1.out] at ho4)); have n0 := Az (Kd.R_lower ho4 (below_size (bU0 HB.out))); have n1 := Az (below_step (bU0 HB.out) hb); clear HB; have HO190 := n0; have HB := n1; clear n0 n1; clear hb ho4) | ((with_reducible refine gate_builtin (b := .append) (xs := #[.tmp 5, .tmp 6]) rfl ?_); at_builtin; refine Kd.R_append_rows (Kd.int .i64) (w0 := w) w.heap.size rfl (.tmp 5) (.tmp 6) 23 3 (.int .i64 0) 8 rfl Try.underlying23 info3 rfl (by decide) (by omega) v189 y1 l0 _ _ _ (fun _ => True) (fun _ => False) rfl rfl ?aO ?aR (fun _ _ h => h) (fun _ h => h.elim) ?aF ?aB ?aS ?aL ?_; (case aR => exact cU (Kd.C_below HR0.out HB.out)); (case aB => exact (bU0 HB.out)); (case aF => exact (fun _ _ => trivial)); (case aO => exact (rU HO190.out)); (case aS => exact (below_size (bU0 HB.out))); (case aL => have := LMc3.out; omega); intro v192 w5 ho hb hg hat; rw [← Ny2.out, e2] at ho; have n0 := Az (hb); have n1 := Az (ho); clear HB HO190; have HB := n0; have HO193 := n1; clear n0 n1; clear ho hb hg hat))
   go_ret
   exact ⟨_, rE, rU HO193.out, bU0 HB.out⟩
 ·
  rw [if_neg c2] at h
  cases h
def impl_MapDual.f (k : Nat) (l0_0 : List Int) (l0_1 : List Int) : Option (List Int × List Int × Bool) := (impl_MapValid.f k l0_0 l0_1).bind fun t261 => (if t261 = true then ((impl_mul.f k l0_1 l0_0).bind fun t262 => ((slices_Clone_int_int.f l0_1).bind fun t265 => (some (t262, t265, true)))) else (some (([] : List Int), ([] : List Int), false)))
def impl_MapDual.T3 : Bool × List (List Nat × List Nat) := (true, [([], []), ([0], [0]), ([], []), ([2], [2]), ([1, 3], [1, 3]), ([], []), ([5], [5]), ([6, 4], [6]), ([4, 7], [4, 7]), ([8, 7, 0, 1, 2, 3, 4, 5, 6, 7, 8], [8]), ([9, 0, 1, 2, 3, 4, 5, 6, 7, 8, 9], [])])
def impl_MapDual.B3 : List Nat := [0, 1, 0, 4, 15, 0, 32, 127, 255, 511, 1023]
theorem impl_MapDual.tab3 : rtab .any (opsOf Try.f26 3) = impl_MapDual.T3 := by kernel_rfl
theorem impl_MapDual.bits3 : waitsOk impl_MapDual.T3.2 impl_MapDual.B3 = true := by kernel_rfl
set_option maxHeartbeats 8000000 in
set_option maxRecDepth 100000 in
theorem impl_MapDual.calls (k : Nat) (A0_0 : Option Addr) (c0_0 : Nat) (l0_0 : List Int) (A0_1 : Option Addr) (c0_1 : Nat) (l0_1 : List Int) (r1 : List Int) (r2 : List Int) (r3 : Bool) (w : World) (hr0_0 : Kd.C (Kd.int .i64) w A0_0 l0_0.length l0_0) (hc0_0 : l0_0.length ≤ c0_0) (hr0_1 : Kd.C (Kd.int .i64) w A0_1 l0_1.length l0_1) (hc0_1 : l0_1.length ≤ c0_1) (h : impl_MapDual.f k l0_0 l0_1 = some (r1, r2, r3)) :
  Calls Try.prog 26 #[.agg #[.slice A0_0 l0_0.length c0_0, .slice A0_1 l0_1.length c0_1]] w fun e w' => ∃ v0_ v1_ : Value, e = .returned (.tuple #[.agg #[v0_, v1_], .bool r3]) ∧ Kd.R (Kd.int .i64) 3 w' w.heap.size (fun k_ => some k_ ≠ (v1_ : Value).ownBlock) v0_ r1 ∧ Kd.R (Kd.int .i64) 3 w' w.heap.size (fun k_ => some k_ ≠ (v0_ : Value).ownBlock) v1_ r2 ∧ Below w.heap.size w w' := by
 have hu25 := Try.underlying25; have HR0_0 := Az hr0_0; have HC0_0 := Az hc0_0; clear hr0_0 hc0_0; have HR0_1 := Az hr0_1; have HC0_1 := Az hc0_1; clear hr0_1 hc0_1; have HB := Az (Below.refl w.heap.size w); have H : ((impl_MapValid.f k l0_0 l0_1).bind fun t261 => (if t261 = true then ((impl_mul.f k l0_1 l0_0).bind fun t262 => ((slices_Clone_int_int.f l0_1).bind fun t265 => (some (t262, t265, true)))) else (some (([] : List Int), ([] : List Int), false)))) = some (r1, r2, r3) := h; clear h; replace H := Option.bind_eq_some_iff.mp H; obtain ⟨t261, A20, H⟩ := H; replace H : (if t261 = true then ((impl_mul.f k l0_1 l0_0).bind fun t262 => ((slices_Clone_int_int.f l0_1).bind fun t265 => (some (t262, t265, true)))) else (some (([] : List Int), ([] : List Int), false))) = some (r1, r2, r3) := H; have A2 := Az A20; clear A20
 by_cases c3 : t261 = true
 ·
  subst c3
  have H1 : ((impl_mul.f k l0_1 l0_0).bind fun t262 => ((slices_Clone_int_int.f l0_1).bind fun t265 => (some (t262, t265, true)))) = some (r1, r2, r3) := by rw [if_pos rfl] at H; exact H
  clear H; have H := H1; clear H1; replace H := Option.bind_eq_some_iff.mp H; obtain ⟨t262, A40, H⟩ := H; replace H : ((slices_Clone_int_int.f l0_1).bind fun t265 => (some (t262, t265, true))) = some (r1, r2, r3) := H; have A4 := Az A40; clear A40; replace H := Option.bind_eq_some_iff.mp H; obtain ⟨t265, A50, H⟩ := H; replace H : (some (t262, t265, true)) = some (r1, r2, r3) := H; have A5 := Az A50; clear A50; simp only [Option.some.injEq, Prod.mk.injEq] at H; obtain ⟨rfl, rfl, rfl⟩ := H
  go_enter Try.func26, Try.ntmps26
  try go_wp2_with (first | ((with_reducible refine gate_dst (N := 1) rfl ?_); refine box_event ?hg (N := 1) ?hd (cs := #[.slice A0_0 l0_0.length c0_0, .slice A0_1 l0_1.length c0_1]) (t := 25) ?hr ?_; (case hd => rfl); (case hg => rfl); (case hr => first | (go_simp; done) | (go_simp; rfl)); intro gb259 hg w6 hbox hb; have n0 := Az (below_step (bU0 HB.out) hb); have n1 := Az (hbox); have n2 := Az ((by rw [hg]; exact (below_size (bU0 HB.out)) : w.heap.size ≤ gb259)); have n3 := n2; clear HB; have HB := n0; have BK259 := n1; have GW259 := n2; have GE259 := n3; clear n0 n1 n2 n3; clear hb hbox hg) | ((with_reducible refine gate_dst (N := 2) rfl ?_); refine box_event ?hg (N := 2) ?hd (cs := #[.slice none 0 0, .slice none 0 0]) (t := 25) ?hr ?_; (case hd => rfl); (case hg => rfl); (case hr => first | (go_simp; done) | (go_simp; rfl)); intro gb260 hg w7 hbox hb; have n0 := Az (blk_below (g := gb259) (o := .cells #[.slice A0_0 l0_0.length c0_0, .slice A0_1 l0_1.length c0_1] 25 (0, 0)) (kU BK259.out) hb); have n1 := Az (below_step (bU1 HB.out GE259.out) hb); have n2 := Az (hbox); have n3 := Az ((by rw [hg]; exact (below_size (bU1 HB.out GE259.out)) : w.heap.size ≤ gb260)); have n4 := n3; have n5 := Az ((by rw [hg]; exact Nat.ne_of_lt (blk_lt (g := gb259) (o := .cells #[.slice A0_0 l0_0.length c0_0, .slice A0_1 l0_1.length c0_1] 25 (0, 0)) (kU BK259.out)) : gb259 ≠ gb260)); have n6 := Az ((by rw [hg]; exact Nat.ne_of_gt (blk_lt (g := gb259) (o := .cells #[.slice A0_0 l0_0.length c0_0, .slice A0_1 l0_1.length c0_1] 25 (0, 0)) (kU BK259.out)) : gb260 ≠ gb259)); clear BK259 HB; have BK259 := n0; have HB := n1; have BK260 := n2; have GW260 := n3; have GE260 := n4; have NB259_260 := n5; have NB260_259 := n6; clear n0 n1 n2 n3 n4 n5 n6 hb hbox hg; have hnb8 := NB259_260.out; have hnc8 := NB260_259.out; have hcz9_0 : w7.cell? ⟨gb259, 0, none⟩ = some (.slice A0_0 l0_0.length c0_0) := (blk_cell BK259.out 0).trans rfl; have hcz9_1 : w7.cell? ⟨gb259, 1, none⟩ = some (.slice A0_1 l0_1.length c0_1) := (blk_cell BK259.out 1).trans rfl; have hfz9_0 := blk_frozen BK259.out 0; have hfz9_1 := blk_frozen BK259.out 1) | ((with_reducible refine gate_callee (f := 59) rfl ?_); refine goesL_ (some 5) rfl rfl Try.func59 (by kernel_rfl) rfl #[.agg #[.slice A0_0 l0_0.length c0_0, .slice A0_1 l0_1.length c0_1]] rfl (by (try simp only [List.map_toArray, List.map_cons, List.map_nil]); first | done | rfl | (simp only [List.length_drop, List.length_take]; rfl)) ?_; (with_reducible refine (impl_MapValid.calls k (fun k_ => k_ < w.heap.size) _ _ l0_0 (fun k_ => k_ < w.heap.size) _ _ l0_1 true _ ?side1 ?side2 A2.out).mono ?_); (case side1 => exact Kd.V_mk HC0_0.out (Kd.F_below (Kd.C_F (Kd.heap_int .i64) HR0_0.out) (bU2 HB.out GE259.out GE260.out))); (case side2 => exact Kd.V_mk HC0_1.out (Kd.F_below (Kd.C_F (Kd.heap_int .i64) HR0_1.out) (bU2 HB.out GE259.out GE260.out))); rintro e w10 ⟨rfl, hb⟩; refine ⟨_, rfl, ?_⟩; have n0 := Az (blk_below (g := gb259) (o := .cells #[.slice A0_0 l0_0.length c0_0, .slice A0_1 l0_1.length c0_1] 25 (0, 0)) (kU BK259.out) hb); have n1 := Az (blk_below (g := gb260) (o := .cells #[.slice none 0 0, .slice none 0 0] 25 (0, 0)) (kU BK260.out) hb); have n2 := Az (below_step (bU2 HB.out GE259.out GE260.out) hb); clear BK259 BK260 HB; have BK259 := n0; have BK260 := n1; have HB := n2; clear n0 n1 n2; (try clear hb); (try clear hb2); (try clear hk); (try clear hi)))
  have n0 := Az (blk_drew BK259.out); have n1 := Az (blk_drew BK260.out); have n2 := Az (below_drew1 HB.out); clear BK259 BK260 HB; have BK259 := n0; have BK260 := n1; have HB := n2; clear n0 n1 n2
  refine start_ (n := 11) (S := fun w' => w'.cell? ⟨gb259, 0, none⟩ = some (.slice A0_0 l0_0.length c0_0) ∧ w'.cell? ⟨gb259, 1, none⟩ = some (.slice A0_1 l0_1.length c0_1)) (ds := []) #[false, false, false, false, false, false, false, false, false, false, false] (by kernel_rfl) rfl rfl ⟨(blk_cell BK259.out 0).trans rfl, (blk_cell BK259.out 1).trans rfl⟩ (fun hHeld => ?_); refine with_tabW impl_MapDual.tab3 impl_MapDual.bits3 (fun HT_ HW_ => ?_)
  generalize w10.drew = w11 at BK259 BK260 HB hHeld ⊢
  refine pure_ (i := 0) (N := some 8) (v := ?_) (a' := ?_) #[true, false, false, false, false, false, false, false, false, false, false] rfl rfl (any_of HT_.out (by kernel_rfl)) (fun _ _ _ h => h) (Or.inl ⟨by rfl, ?_⟩) ?_ ?_
  rotate_left
  ·
   intro w'
   go_simp
   with_reducible rfl
  rotate_left
  ·
   simp only [Act.put, List.setIfInBounds_toArray, List.set_cons_zero, List.set_cons_succ, i64_w, i32_w]
   rfl
  refine pure_ (i := 2) (N := some 10) (v := ?_) (a' := ?_) #[true, false, true, false, false, false, false, false, false, false, false] rfl rfl (any_of HT_.out (by kernel_rfl)) (fun _ _ _ h => h) (Or.inl ⟨by rfl, ?_⟩) ?_ ?_
  rotate_left
  ·
   intro w'
   go_simp
   with_reducible rfl
  rotate_left
  ·
   simp only [Act.put, List.setIfInBounds_toArray, List.set_cons_zero, List.set_cons_succ, i64_w, i32_w]
   rfl
  refine pure_ (i := 5) (N := some 13) (v := ?_) (a' := ?_) #[true, false, true, false, false, true, false, false, false, false, false] rfl rfl (any_of HT_.out (by kernel_rfl)) (fun _ _ _ h => h) (Or.inl ⟨by rfl, ?_⟩) ?_ ?_
  rotate_left
  ·
   intro w'
   go_simp
   with_reducible rfl
  rotate_left
  ·
   simp only [Act.put, List.setIfInBounds_toArray, List.set_cons_zero, List.set_cons_succ, i64_w, i32_w]
   rfl
  refine take_ (i := 1) (N := some 9) (v := ?_) (a' := ?_) #[true, true, true, false, false, true, false, false, false, false, false] rfl rfl (take_ofW HT_.out HW_.out (by kernel_rfl)) (fun _ _ _ h => h) (Or.inl ⟨by rfl, ?_⟩) hHeld ?_ ?_
  rotate_left
  ·
   rintro w' ⟨s0, s1⟩
   go_simp
   with_reducible rfl
  rotate_left
  ·
   simp only [Act.put, List.setIfInBounds_toArray, List.set_cons_zero, List.set_cons_succ, i64_w, i32_w]
   rfl
  refine take_ (i := 3) (N := some 11) (v := ?_) (a' := ?_) #[true, true, true, true, false, true, false, false, false, false, false] rfl rfl (take_ofW HT_.out HW_.out (by kernel_rfl)) (fun _ _ _ h => h) (Or.inl ⟨by rfl, ?_⟩) hHeld ?_ ?_
  rotate_left
  ·
   rintro w' ⟨s0, s1⟩
   go_simp
   with_reducible rfl
  rotate_left
  ·
   simp only [Act.put, List.setIfInBounds_toArray, List.set_cons_zero, List.set_cons_succ, i64_w, i32_w]
   rfl
  refine take_ (i := 6) (N := some 14) (v := ?_) (a' := ?_) #[true, true, true, true, false, true, true, false, false, false, false] rfl rfl (take_ofW HT_.out HW_.out (by kernel_rfl)) (fun _ _ _ h => h) (Or.inl ⟨by rfl, ?_⟩) hHeld ?_ ?_
  rotate_left
  ·
   rintro w' ⟨s0, s1⟩
   go_simp
   with_reducible rfl
  rotate_left
  ·
   simp only [Act.put, List.setIfInBounds_toArray, List.set_cons_zero, List.set_cons_succ, i64_w, i32_w]
   rfl
  refine one_ (i := 4) (N := some 12) #[true, true, true, true, true, true, true, false, false, false, false] rfl rfl (one_of HT_.out (by kernel_rfl)) (by decide) (fun K hK => ?_)
  refine goes_ Try.func64 (by kernel_rfl) rfl #[.slice A0_1 l0_1.length c0_1, .slice A0_0 l0_0.length c0_0] (by rfl) rfl rfl (by (try simp only [List.map_toArray, List.map_cons, List.map_nil]); first | done | rfl | (simp only [List.length_drop, List.length_take]; rfl)) ?_
  with_reducible refine (impl_mul.calls k _ _ l0_1 _ _ l0_0 t262 _ ?side1 ?side2 ?side3 ?side4 A4.out).mono ?_
  (case side1 => exact cU (Kd.C_below HR0_1.out HB.out))
  (case side2 => exact HC0_1.out)
  (case side3 => exact cU (Kd.C_below HR0_0.out HB.out))
  (case side4 => exact HC0_0.out)
  rintro e w12 ⟨v263, rfl, ho0, hb⟩
  refine ⟨_, rfl, ?_⟩
  have n0 := Az (Kd.R_lower ho0 (below_size (bU2 HB.out GE259.out GE260.out))); have n1 := Az (blk_below (g := gb259) (o := .cells #[.slice A0_0 l0_0.length c0_0, .slice A0_1 l0_1.length c0_1] 25 (0, 0)) (kU BK259.out) hb); have n2 := Az (blk_below (g := gb260) (o := .cells #[.slice none 0 0, .slice none 0 0] 25 (0, 0)) (kU BK260.out) hb); have n3 := Az (below_step (bU2 HB.out GE259.out GE260.out) hb); clear BK259 BK260 HB; have HO264 := n0; have BK259 := n1; have BK260 := n2; have HB := n3; clear n0 n1 n2 n3; (try clear hb); (try clear hb2); (try clear hk); (try clear hi); (try clear ho0)
  refine hK.out _ _ ⟨(blk_cell BK259.out 0).trans rfl, (blk_cell BK259.out 1).trans rfl⟩ (fun hHeld => ?_)
  clear hK K
  refine norm_ (a' := ?_) ?_ ?_
  rotate_left
  ·
   show Act.put _ (some 12) _ = _
   simp only [Act.put, List.setIfInBounds_toArray, List.set_cons_zero, List.set_cons_succ, i64_w, i32_w]
   rfl
  refine one_ (i := 7) (N := some 15) #[true, true, true, true, true, true, true, true, false, false, false] rfl rfl (one_of HT_.out (by kernel_rfl)) (by decide) (fun K hK => ?_)
  refine goes_ Try.func68 (by kernel_rfl) rfl #[.slice A0_1 l0_1.length c0_1] (by rfl) rfl rfl (by (try simp only [List.map_toArray, List.map_cons, List.map_nil]); first | done | rfl | (simp only [List.length_drop, List.length_take]; rfl)) ?_
  with_reducible refine (slices_Clone_int_int.calls _ _ l0_1 t265 _ ?side1 ?side2 A5.out).mono ?_
  (case side1 => exact cU (Kd.C_below HR0_1.out HB.out))
  (case side2 => exact HC0_1.out)
  rintro e w13 ⟨v266, rfl, ho0, hb⟩
  refine ⟨_, rfl, ?_⟩
  have n0 := Az (Kd.R_elder' (rU HO264.out) (Kd.R_base ho0) hb); have n1 := Az (Kd.R_lower (Kd.R_new' ho0 (Kd.R_lt (rU HO264.out))) (below_size (bU2 HB.out GE259.out GE260.out))); have n2 := Az (blk_below (g := gb259) (o := .cells #[.slice A0_0 l0_0.length c0_0, .slice A0_1 l0_1.length c0_1] 25 (0, 0)) (kU BK259.out) hb); have n3 := Az (blk_below (g := gb260) (o := .cells #[.slice none 0 0, .slice none 0 0] 25 (0, 0)) (kU BK260.out) hb); have n4 := Az (below_step (bU2 HB.out GE259.out GE260.out) hb); clear HO264 BK259 BK260 HB; have HO264 := n0; have HO267 := n1; have BK259 := n2; have BK260 := n3; have HB := n4; clear n0 n1 n2 n3 n4; (try clear hb); (try clear hb2); (try clear hk); (try clear hi); (try clear ho0); obtain ⟨Ao14, co14, eo14⟩ := Kd.R_slice HO267.out; (first | subst eo14 | (injection eo14 with f1_ f2_ f3_; have f4_ := f1_.symm; have f5_ := f3_.symm; clear f1_ f2_ f3_; subst f4_; subst f5_)); obtain ⟨Ao15, co15, eo15⟩ := Kd.R_slice HO264.out; (first | subst eo15 | (injection eo15 with f1_ f2_ f3_; have f4_ := f1_.symm; have f5_ := f3_.symm; clear f1_ f2_ f3_; subst f4_; subst f5_))
  refine hK.out _ _ ⟨(blk_cell BK259.out 0).trans rfl, (blk_cell BK259.out 1).trans rfl⟩ (fun hHeld => ?_)
  clear hK K
  refine norm_ (a' := ?_) ?_ ?_
  rotate_left
  ·
   show Act.put _ (some 15) _ = _
   simp only [Act.put, List.setIfInBounds_toArray, List.set_cons_zero, List.set_cons_succ, i64_w, i32_w]
   rfl
  refine pure_ (i := 8) (N := some 16) (v := ?_) (a' := ?_) #[true, true, true, true, true, true, true, true, true, false, false] rfl rfl (any_of HT_.out (by kernel_rfl)) (fun _ _ _ h => h) (Or.inl ⟨by rfl, ?_⟩) ?_ ?_
  rotate_left
  ·
   intro w'
   go_simp
   with_reducible rfl
  rotate_left
  ·
   simp only [Act.put, List.setIfInBounds_toArray, List.set_cons_zero, List.set_cons_succ, i64_w, i32_w]
   rfl
  refine one_ (i := 9) (N := none) #[true, true, true, true, true, true, true, true, true, true, false] rfl rfl (one_of HT_.out (by kernel_rfl)) (by decide) (fun K hK => ?_)
  have hs16 : w13.cell? ⟨gb260, 0, none⟩ = some (.slice none 0 0) := (blk_cell BK260.out 0).trans rfl; have hfs16 := blk_frozen BK260.out 0; have hns16_0 := NB259_260.out; have hms16_0 := NB260_259.out; have hs17 : w13.cell? ⟨gb260, 1, none⟩ = some (.slice none 0 0) := (blk_cell BK260.out 1).trans rfl; have hfs17 := blk_frozen BK260.out 1; have hns17_0 := NB259_260.out; have hms17_0 := NB260_259.out
  refine skip_ (w1 := ?_) (by rfl) rfl ?_ ?_
  rotate_left
  ·
   go_simp
   rfl
  refine hK.out _ _ ⟨((cell_far (p := ⟨gb260, _, none⟩) NB259_260.out _).trans (((cell_far (p := ⟨gb260, _, none⟩) NB259_260.out _).trans (hHeld.1)))), ((cell_far (p := ⟨gb260, _, none⟩) NB259_260.out _).trans (((cell_far (p := ⟨gb260, _, none⟩) NB259_260.out _).trans (hHeld.2))))⟩ (fun hHeld => ?_)
  clear hK K
  refine pure_ (i := 10) (N := some 3) (v := ?_) (a' := ?_) #[true, true, true, true, true, true, true, true, true, true, true] rfl rfl (any_of HT_.out (by kernel_rfl)) (fun _ _ _ h => h) (Or.inl ⟨by rfl, ?_⟩) ?_ ?_
  rotate_left
  ·
   intro w'
   go_simp
   with_reducible rfl
  rotate_left
  ·
   simp only [Act.put, List.setIfInBounds_toArray, List.set_cons_zero, List.set_cons_succ, i64_w, i32_w]
   rfl
  refine done_ (done_of HT_.out (by kernel_rfl)) ?_
  try go_wp2
  refine bodyPost_ret (results_ct rfl _ _ gb260 25 #[.slice Ao15 t262.length co15, .slice Ao14 t265.length co14] (0, 0) _ rfl (by (with_reducible repeat (first | refine blk_drewN ?_ _ | refine blk_drew ?_ | refine blk_alloc ?_ _)); refine blk_put (cs := #[.slice Ao15 t262.length co15, .slice none 0 0]) ?_ 1 _ rfl; (with_reducible repeat (first | refine blk_drewN ?_ _ | refine blk_drew ?_ | refine blk_alloc ?_ _)); refine blk_put (cs := #[.slice none 0 0, .slice none 0 0]) ?_ 0 _ rfl; (with_reducible repeat (first | refine blk_drewN ?_ _ | refine blk_drew ?_ | refine blk_alloc ?_ _)); exact BK260.out) Try.underlying25 rfl (by kernel_rfl)) rfl ?_
  exact ⟨_, _, rE, by (with_reducible repeat (first | apply Kd.R_alloc | apply Kd.R_drewN | apply Kd.R_drew)); exact Kd.R_mono (Kd.R_far (p := ⟨gb260, 1, none⟩) (Kd.R_far (p := ⟨gb260, 0, none⟩) (Kd.R_types HO264.out BK260.out (by decide)) (fun _ hk => hk.2) (.slice Ao15 t262.length co15)) (fun _ hk => hk.2) (.slice Ao14 t265.length co14)) (fun _ hk => hk.1.2), by (with_reducible repeat (first | apply Kd.R_alloc | apply Kd.R_drewN | apply Kd.R_drew)); exact Kd.R_mono (Kd.R_far (p := ⟨gb260, 1, none⟩) (Kd.R_far (p := ⟨gb260, 0, none⟩) (Kd.R_types HO267.out BK260.out (by decide)) (fun _ hk => hk.2) (.slice Ao15 t262.length co15)) (fun _ hk => hk.2) (.slice Ao14 t265.length co14)) (fun _ hk => hk.1.2), bU2 HB.out GE259.out GE260.out⟩
 ·
  replace c3 := Bool.eq_false_iff.mpr c3; subst c3
  have H1 : (some (([] : List Int), ([] : List Int), false)) = some (r1, r2, r3) := by rw [if_neg (show ¬ (false = true) by decide)] at H; exact H
  clear H; have H := H1; clear H1; simp only [Option.some.injEq, Prod.mk.injEq] at H; obtain ⟨rfl, rfl, rfl⟩ := H
  go_enter Try.func26, Try.ntmps26
  go_wp2_with (first | ((with_reducible refine gate_dst (N := 1) rfl ?_); refine box_event ?hg (N := 1) ?hd (cs := #[.slice A0_0 l0_0.length c0_0, .slice A0_1 l0_1.length c0_1]) (t := 25) ?hr ?_; (case hd => rfl); (case hg => rfl); (case hr => first | (go_simp; done) | (go_simp; rfl)); intro gb259 hg w18 hbox hb; have n0 := Az (below_step (bU0 HB.out) hb); have n1 := Az (hbox); have n2 := Az ((by rw [hg]; exact (below_size (bU0 HB.out)) : w.heap.size ≤ gb259)); have n3 := n2; clear HB; have HB := n0; have BK259 := n1; have GW259 := n2; have GE259 := n3; clear n0 n1 n2 n3; clear hb hbox hg) | ((with_reducible refine gate_dst (N := 2) rfl ?_); refine box_event ?hg (N := 2) ?hd (cs := #[.slice none 0 0, .slice none 0 0]) (t := 25) ?hr ?_; (case hd => rfl); (case hg => rfl); (case hr => first | (go_simp; done) | (go_simp; rfl)); intro gb260 hg w19 hbox hb; have n0 := Az (blk_below (g := gb259) (o := .cells #[.slice A0_0 l0_0.length c0_0, .slice A0_1 l0_1.length c0_1] 25 (0, 0)) (kU BK259.out) hb); have n1 := Az (below_step (bU1 HB.out GE259.out) hb); have n2 := Az (hbox); have n3 := Az ((by rw [hg]; exact (below_size (bU1 HB.out GE259.out)) : w.heap.size ≤ gb260)); have n4 := n3; have n5 := Az ((by rw [hg]; exact Nat.ne_of_lt (blk_lt (g := gb259) (o := .cells #[.slice A0_0 l0_0.length c0_0, .slice A0_1 l0_1.length c0_1] 25 (0, 0)) (kU BK259.out)) : gb259 ≠ gb260)); have n6 := Az ((by rw [hg]; exact Nat.ne_of_gt (blk_lt (g := gb259) (o := .cells #[.slice A0_0 l0_0.length c0_0, .slice A0_1 l0_1.length c0_1] 25 (0, 0)) (kU BK259.out)) : gb260 ≠ gb259)); clear BK259 HB; have BK259 := n0; have HB := n1; have BK260 := n2; have GW260 := n3; have GE260 := n4; have NB259_260 := n5; have NB260_259 := n6; clear n0 n1 n2 n3 n4 n5 n6 hb hbox hg; have hnb20 := NB259_260.out; have hnc20 := NB260_259.out; have hcz21_0 : w19.cell? ⟨gb259, 0, none⟩ = some (.slice A0_0 l0_0.length c0_0) := (blk_cell BK259.out 0).trans rfl; have hcz21_1 : w19.cell? ⟨gb259, 1, none⟩ = some (.slice A0_1 l0_1.length c0_1) := (blk_cell BK259.out 1).trans rfl; have hfz21_0 := blk_frozen BK259.out 0; have hfz21_1 := blk_frozen BK259.out 1) | ((with_reducible refine gate_callee (f := 59) rfl ?_); refine goesL_ (some 5) rfl rfl Try.func59 (by kernel_rfl) rfl #[.agg #[.slice A0_0 l0_0.length c0_0, .slice A0_1 l0_1.length c0_1]] rfl (by (try simp only [List.map_toArray, List.map_cons, List.map_nil]); first | done | rfl | (simp only [List.length_drop, List.length_take]; rfl)) ?_; (with_reducible refine (impl_MapValid.calls k (fun k_ => k_ < w.heap.size) _ _ l0_0 (fun k_ => k_ < w.heap.size) _ _ l0_1 false _ ?side1 ?side2 A2.out).mono ?_); (case side1 => exact Kd.V_mk HC0_0.out (Kd.F_below (Kd.C_F (Kd.heap_int .i64) HR0_0.out) (bU2 HB.out GE259.out GE260.out))); (case side2 => exact Kd.V_mk HC0_1.out (Kd.F_below (Kd.C_F (Kd.heap_int .i64) HR0_1.out) (bU2 HB.out GE259.out GE260.out))); rintro e w22 ⟨rfl, hb⟩; refine ⟨_, rfl, ?_⟩; have n0 := Az (blk_below (g := gb259) (o := .cells #[.slice A0_0 l0_0.length c0_0, .slice A0_1 l0_1.length c0_1] 25 (0, 0)) (kU BK259.out) hb); have n1 := Az (blk_below (g := gb260) (o := .cells #[.slice none 0 0, .slice none 0 0] 25 (0, 0)) (kU BK260.out) hb); have n2 := Az (below_step (bU2 HB.out GE259.out GE260.out) hb); clear BK259 BK260 HB; have BK259 := n0; have BK260 := n1; have HB := n2; clear n0 n1 n2; (try clear hb); (try clear hb2); (try clear hk); (try clear hi); have hcz23_0 : w22.cell? ⟨gb260, 0, none⟩ = some (.slice none 0 0) := (blk_cell BK260.out 0).trans rfl; have hcz23_1 : w22.cell? ⟨gb260, 1, none⟩ = some (.slice none 0 0) := (blk_cell BK260.out 1).trans rfl; have hfz23_0 := blk_frozen BK260.out 0; have hfz23_1 := blk_frozen BK260.out 1))
  refine bodyPost_ret (results_ct rfl _ _ gb260 25 #[.slice none 0 0, .slice none 0 0] (0, 0) _ rfl (by (with_reducible repeat (first | refine blk_drewN ?_ _ | refine blk_drew ?_ | refine blk_alloc ?_ _)); refine blk_put (cs := #[.slice none 0 0, .slice none 0 0]) ?_ 1 _ rfl; (with_reducible repeat (first | refine blk_drewN ?_ _ | refine blk_drew ?_ | refine blk_alloc ?_ _)); refine blk_put (cs := #[.slice none 0 0, .slice none 0 0]) ?_ 0 _ rfl; (with_reducible repeat (first | refine blk_drewN ?_ _ | refine blk_drew ?_ | refine blk_alloc ?_ _)); exact BK260.out) Try.underlying25 rfl (by kernel_rfl)) rfl ?_
  exact ⟨_, _, rE, by first | exact Kd.R_nil _ _ _ _ _ | exact Kd.N_nil _ _ _ _ _ | exact Kd.V_nil _ _ _ _ _ | exact Kd.Q_nil _ _ _ _ _ | exact Kd.S_nil _ _ _ _ _, by first | exact Kd.R_nil _ _ _ _ _ | exact Kd.N_nil _ _ _ _ _ | exact Kd.V_nil _ _ _ _ _ | exact Kd.Q_nil _ _ _ _ _ | exact Kd.S_nil _ _ _ _ _, bU2 HB.out GE259.out GE260.out⟩
mutual
def impl_vertexOf.l0 : Nat → List Int → List (List Int) → Int → Int → Option (List Int)
 | 0, _, _, _, _ => none
 | k + 1, x3, x14, x15, x16 => if x16 < x15 then (if 0 ≤ x16 then (if x16 < (x14.length : Int) then (impl_vertexOf.l1 k x3 x16 x14 x15 x16 (rd_L1 x14 x16) ((rd_L1 x14 x16).length : Int) 0) else (none)) else (none)) else (some x3)
def impl_vertexOf.l1 : Nat → List Int → Int → List (List Int) → Int → Int → List Int → Int → Int → Option (List Int)
 | 0, _, _, _, _, _, _, _, _ => none
 | k + 1, x3, x4, x14, x15, x16, x21, x22, x23 => if x23 < x22 then (if 0 ≤ x23 then (if x23 < (x21.length : Int) then (if 0 ≤ (rd x21 x23) then (if (rd x21 x23) < (x3.length : Int) then (impl_vertexOf.l1 k (x3.set ((rd x21 x23) : Int).toNat x4) x4 x14 x15 x16 x21 x22 (wrap64 (x23 + 1))) else (none)) else (none)) else (none)) else (none)) else (impl_vertexOf.l0 k x3 x14 x15 (wrap64 (x16 + 1)))
end
def impl_vertexOf.f (k : Nat) (l0_0 : List Int) (l0_1 : List Int) : Option (List Int) := if 0 ≤ (l0_0.length : Int) then (if ((l0_0.length : Int) : Int).toNat ≤ 35184372088832 then ((impl_cyclesOf.f k l0_0).bind fun t272 => (impl_vertexOf.l0 k (List.replicate ((l0_0.length : Int) : Int).toNat 0) t272 (t272.length : Int) 0)) else (none)) else (none)
set_option maxHeartbeats 8000000 in
set_option maxRecDepth 100000 in
theorem impl_vertexOf.calls (k : Nat) (A0_0 : Option Addr) (c0_0 : Nat) (l0_0 : List Int) (A0_1 : Option Addr) (c0_1 : Nat) (l0_1 : List Int) (r : List Int) (w : World) (hr0_0 : Kd.C (Kd.int .i64) w A0_0 l0_0.length l0_0) (hc0_0 : l0_0.length ≤ c0_0) (hr0_1 : Kd.C (Kd.int .i64) w A0_1 l0_1.length l0_1) (hc0_1 : l0_1.length ≤ c0_1) (h : impl_vertexOf.f k l0_0 l0_1 = some r) :
  Calls Try.prog 78 #[.agg #[.slice A0_0 l0_0.length c0_0, .slice A0_1 l0_1.length c0_1]] w fun e w' => ∃ v0_ : Value, e = .returned (v0_) ∧ Kd.R (Kd.int .i64) 3 w' w.heap.size (fun _ => True) v0_ r ∧ Below w.heap.size w w' := by
 have hu25 := Try.underlying25; have HR0_0 := Az hr0_0; have HC0_0 := Az hc0_0; clear hr0_0 hc0_0; have HR0_1 := Az hr0_1; have HC0_1 := Az hc0_1; clear hr0_1 hc0_1; have HB := Az (Below.refl w.heap.size w); have H : (if 0 ≤ (l0_0.length : Int) then (if ((l0_0.length : Int) : Int).toNat ≤ 35184372088832 then ((impl_cyclesOf.f k l0_0).bind fun t272 => (impl_vertexOf.l0 k (List.replicate ((l0_0.length : Int) : Int).toNat 0) t272 (t272.length : Int) 0)) else (none)) else (none)) = some r := h; clear h
 by_cases c2 : 0 ≤ (l0_0.length : Int)
 ·
  rw [if_pos c2] at H; have c2b0 := eq_true c2; have c2b1 := decide_eq_true c2; clear c2
  by_cases c3 : ((l0_0.length : Int) : Int).toNat ≤ 35184372088832
  ·
   rw [if_pos c3] at H; have c3b0 := eq_true c3; have c3b1 := decide_eq_true c3; clear c3; obtain ⟨y269, hy269⟩ : ∃ y_ : List Int, y_ = (List.replicate ((l0_0.length : Int) : Int).toNat 0) := ⟨_, rfl⟩; replace H : ((impl_cyclesOf.f k l0_0).bind fun t272 => (impl_vertexOf.l0 k y269 t272 (t272.length : Int) 0)) = some r := hR hy269 H; have Ny269 := Az hy269; clear hy269; replace H := Option.bind_eq_some_iff.mp H; obtain ⟨t272, A40, H⟩ := H; replace H : (impl_vertexOf.l0 k y269 t272 (t272.length : Int) 0) = some r := H; have A4 := Az A40; clear A40; have H' := Az H; clear H
   go_enter Try.func78, Try.ntmps78
   go_wp2_with (first | ((with_reducible refine gate_dst (N := 1) rfl ?_); refine box_event ?hg (N := 1) ?hd (cs := #[.slice A0_0 l0_0.length c0_0, .slice A0_1 l0_1.length c0_1]) (t := 25) ?hr ?_; (case hd => rfl); (case hg => rfl); (case hr => first | (go_simp; done) | (go_simp; rfl)); intro gb268 hg w5 hbox hb; have n0 := Az (below_step (bU0 HB.out) hb); have n1 := Az (hbox); have n2 := Az ((by rw [hg]; exact (below_size (bU0 HB.out)) : w.heap.size ≤ gb268)); have n3 := n2; clear HB; have HB := n0; have BK268 := n1; have GW268 := n2; have GE268 := n3; clear n0 n1 n2 n3 hb hbox hg; have hcz6_0 : w5.cell? ⟨gb268, 0, none⟩ = some (.slice A0_0 l0_0.length c0_0) := (blk_cell BK268.out 0).trans rfl; have hcz6_1 : w5.cell? ⟨gb268, 1, none⟩ = some (.slice A0_1 l0_1.length c0_1) := (blk_cell BK268.out 1).trans rfl; have hfz6_0 := blk_frozen BK268.out 0; have hfz6_1 := blk_frozen BK268.out 1) | ((with_reducible refine gate_dst (N := 11) rfl ?_); refine Kd.R_make (Kd.int .i64) _ 3 rfl (N := 11) rfl 23 _ _ rfl (l0_0.length : Int) rfl rfl Try.underlying23 (.int .i64 0) 8 info3 rfl (by decide) (by omega) 0 (ok := fun _ => True) (okp := fun _ => True) rfl (fun _ hk => hk) trivial (oA) (Nat.le_trans (Nat.mul_le_mul_right _ (oA : (l0_0.length : Int).toNat ≤ 35184372088832)) (by omega)) (Below.refl _ _) (Nat.le_refl _) ?_; intro v270 w7 ho8 hb hg_ hnew_; clear hg_ hnew_; (first | rw [← Ny269.out] at ho8 | (simp only [Int.reduceToNat] at ho8; rw [← Ny269.out] at ho8)); have n0 := Az (Kd.R_lower ho8 (below_size (bU1 HB.out GE268.out))); have n1 := Az (blk_below (g := gb268) (o := .cells #[.slice A0_0 l0_0.length c0_0, .slice A0_1 l0_1.length c0_1] 25 (0, 0)) (kU BK268.out) hb); have n2 := Az (below_step (bU1 HB.out GE268.out) hb); clear BK268 HB; have HO271 := n0; have BK268 := n1; have HB := n2; clear n0 n1 n2 hb ho8; have hcz9_0 : w7.cell? ⟨gb268, 0, none⟩ = some (.slice A0_0 l0_0.length c0_0) := (blk_cell BK268.out 0).trans rfl; have hcz9_1 : w7.cell? ⟨gb268, 1, none⟩ = some (.slice A0_1 l0_1.length c0_1) := (blk_cell BK268.out 1).trans rfl; have hfz9_0 := blk_frozen BK268.out 0; have hfz9_1 := blk_frozen BK268.out 1) | ((with_reducible refine gate_callee (f := 63) rfl ?_); refine goesL_ (some 14) rfl rfl Try.func63 (by kernel_rfl) rfl #[.slice A0_0 l0_0.length c0_0] rfl (by (try simp only [List.map_toArray, List.map_cons, List.map_nil]); first | done | rfl | (simp only [List.length_drop, List.length_take]; rfl)) ?_; (with_reducible refine (impl_cyclesOf.calls k _ _ l0_0 t272 _ ?side1 ?side2 A4.out).mono ?_); (case side1 => exact cU (Kd.C_below HR0_0.out HB.out)); (case side2 => exact HC0_0.out); rintro e w10 ⟨v273, rfl, ho0, hb⟩; refine ⟨_, rfl, ?_⟩; have n0 := Az (Kd.R_below (rU HO271.out) hb); have n1 := Az (Kd.S_lower (Kd.S_new' ho0 (Kd.R_lt (rU HO271.out))) (below_size (bU1 HB.out GE268.out))); have n2 := Az (blk_below (g := gb268) (o := .cells #[.slice A0_0 l0_0.length c0_0, .slice A0_1 l0_1.length c0_1] 25 (0, 0)) (kU BK268.out) hb); have n3 := Az (below_step (bU1 HB.out GE268.out) hb); clear HO271 BK268 HB; have HO271 := n0; have HO274 := n1; have BK268 := n2; have HB := n3; clear n0 n1 n2 n3; (try clear hb); (try clear hb2); (try clear hk); (try clear hi); (try clear ho0); obtain ⟨Ao11, co11, eo11⟩ := Kd.S_slice HO274.out; subst eo11))
   go_loopg [16] k (fun kq v16 w' => ∃ (x3_1 : List Int) (x16_1 : Int), v16 = .int .i64 x16_1 ∧ Aside0 (impl_vertexOf.l0 kq x3_1 t272 (t272.length : Int) x16_1 = some r) ∧ Aside0 (kq ≤ k) ∧ Aside0 (Kd.R (Kd.int .i64) 3 w' w.heap.size (fun _ => True) v270 x3_1) ∧ Aside0 (Kd.S (Kd.slice 3 (Kd.int .i64)) 23 w' w.heap.size (fun k_ => some k_ ≠ (v270 : Value).ownBlock) (.slice Ao11 t272.length co11) t272) ∧ Aside0 (w'.heap[gb268]? = some (.cells #[(.slice A0_0 l0_0.length c0_0), (.slice A0_1 l0_1.length c0_1)] 25 (0, 0))) ∧ Aside0 (Below w.heap.size w w'))
   case atStart => exact ⟨(y269), (0), rS, H', ⟨Nat.le_refl _⟩, ⟨rU HO271.out⟩, ⟨by (with_reducible repeat (first | apply Kd.S_alloc | apply Kd.S_drewN | apply Kd.S_drew)); exact Kd.S_mono HO274.out (fun _ hk => hk.2)⟩, ⟨kU BK268.out⟩, ⟨bU1 HB.out GE268.out⟩⟩
   case round =>
    clear H'; (try clear c2); (try clear c2b0); (try clear c2b1); (try clear p2); (try clear c3); (try clear c3b0); (try clear c3b1); (try clear c6); (try clear c7); (try clear hcz6_0); (try clear hcz6_1); (try clear hcz9_0); (try clear hcz9_1); (try clear hfz6_0); (try clear hfz6_1); (try clear hfz9_0); (try clear hfz9_1); obtain ⟨x3_1, x16_1, rfl, HA, HK1, HO_3, HO_14, BK268, HB⟩ := hrel
    cases gk with
    | zero => exact absurd HA.out (by simp [impl_vertexOf.l0])
    | succ k1 =>
     have H := HA.out; clear HA; simp only [impl_vertexOf.l0] at H
     by_cases c12 : x16_1 < (t272.length : Int)
     ·
      rw [if_pos c12] at H; have c12b0 := decide_eq_true c12; clear c12
      by_cases c13 : 0 ≤ x16_1
      ·
       rw [if_pos c13] at H; have c13b0 := decide_eq_true c13; clear c13
       by_cases c14 : x16_1 < (t272.length : Int)
       ·
        rw [if_pos c14] at H; have c14b0 := decide_eq_true c14; clear c14; have H' := Az H; clear H; have p275 : 0 ≤ (x16_1 : Int) := oA; have q275 : x16_1 < (t272.length : Int) := oA; obtain ⟨ad275, A275_0, c275_0, e275, hx275_0, hl275_0, hi275_0⟩ := at_L1 (Kd.S_reads' HO_14.out).2.2 x16_1 p275 q275
        cases e275
        obtain ⟨ce275, hce275, hMe275, hcc275⟩ := Kd.S_get HO_14.out [] x16_1 p275 (by first | exact q275 | exact oA | (have e_ := (Kd.S_reads' HO_14.out).1; omega)); obtain ⟨ve275_0, rfl, ge275_0⟩ := hMe275; have hv275_0 := hcc275 0 _ rfl; rw [Nat.add_zero, show ((Kd.slice 3 (Kd.int .i64))).sz = 1 from rfl, Nat.mul_one] at hv275_0; replace hv275_0 := Option.some.inj (hv275_0.symm.trans hx275_0); rw [hv275_0] at ge275_0; have HL275_0 := Az (show Kd.R (Kd.int .i64) 3 _ _ _ _ (rd_L1 t272 x16_1) from ge275_0); clear hv275_0 ge275_0 hcc275 hce275; have HR275_0 := Az hi275_0; have HC275_0 := Az hl275_0; clear hi275_0 hl275_0; replace p275 := eq_true p275; replace q275 := eq_true q275
        go_wp2
        go_loopg [23] k1 (fun kq v23 w' => ∃ (x3_2 : List Int) (x23_2 : Int), v23 = .int .i64 x23_2 ∧ Aside0 (impl_vertexOf.l1 kq x3_2 x16_1 t272 (t272.length : Int) x16_1 (rd_L1 t272 x16_1) ((rd_L1 t272 x16_1).length : Int) x23_2 = some r) ∧ Aside0 (kq ≤ k1) ∧ Aside0 (Kd.R (Kd.int .i64) 3 w' w.heap.size (fun _ => True) v270 x3_2) ∧ Aside0 (Kd.S (Kd.slice 3 (Kd.int .i64)) 23 w' w.heap.size (fun k_ => some k_ ≠ (v270 : Value).ownBlock) (.slice (some ad275) t272.length co11) t272) ∧ Aside0 (w'.heap[gb268]? = some (.cells #[(.slice A0_0 l0_0.length c0_0), (.slice A0_1 l0_1.length c0_1)] 25 (0, 0))) ∧ Aside0 (Kd.C (Kd.int .i64) w' A275_0 (rd_L1 t272 x16_1).length (rd_L1 t272 x16_1)) ∧ Aside0 (Below w.heap.size w w'))
        case atStart => exact ⟨(x3_1), (0), rS, H', ⟨Nat.le_refl _⟩, ⟨rU HO_3.out⟩, ⟨sU HO_14.out⟩, ⟨kU BK268.out⟩, ⟨by repeat (first | (with_reducible exact HR275_0.out) | (with_reducible refine Kd.C_alloc ?_ _) | (with_reducible refine Kd.C_drewN ?_ _) | (with_reducible refine Kd.C_drew ?_) | exact HR275_0.out)⟩, ⟨bU1 HB.out GE268.out⟩⟩
        case round =>
         clear H'; (try clear c1); (try clear c2); (try clear c2b0); (try clear c2b1); (try clear p2); (try clear q2); (try clear hx2); (try clear c3); (try clear c3b0); (try clear c3b1); (try clear c6); (try clear c7); (try clear c12); (try clear c12b0); (try clear c13); (try clear c13b0); (try clear c14); (try clear c14b0); (try clear hcz6_0); (try clear hcz6_1); (try clear hcz9_0); (try clear hcz9_1); (try clear hfz6_0); (try clear hfz6_1); (try clear hfz9_0); (try clear hfz9_1); (try clear hx275_0); (try clear p2); (try clear p275); (try clear q275); obtain ⟨x3_2, x23_2, rfl, HA, HK2, HO_3, HO_14, BK268, HR275_0, HB⟩ := hrel
         cases gk with
         | zero => exact absurd HA.out (by simp [impl_vertexOf.l1])
         | succ k2 =>
          have H := HA.out; clear HA; simp only [impl_vertexOf.l1] at H
          by_cases c15 : x23_2 < ((rd_L1 t272 x16_1).length : Int)
          ·
           rw [if_pos c15] at H; have c15b0 := decide_eq_true c15; clear c15
           by_cases c16 : 0 ≤ x23_2
           ·
            rw [if_pos c16] at H; have c16b0 := decide_eq_true c16; clear c16
            by_cases c17 : x23_2 < ((rd_L1 t272 x16_1).length : Int)
            ·
             rw [if_pos c17] at H; have c17b0 := decide_eq_true c17; clear c17
             by_cases c18 : 0 ≤ (rd (rd_L1 t272 x16_1) x23_2)
             ·
              rw [if_pos c18] at H; have c18b0 := decide_eq_true c18; clear c18
              by_cases c19 : (rd (rd_L1 t272 x16_1) x23_2) < (x3_2.length : Int)
              ·
               rw [if_pos c19] at H; have c19b0 := decide_eq_true c19; clear c19; obtain ⟨y277, hy277⟩ : ∃ y_ : List Int, y_ = (x3_2.set ((rd (rd_L1 t272 x16_1) x23_2) : Int).toNat x16_1) := ⟨_, rfl⟩; replace H : (impl_vertexOf.l1 k2 y277 x16_1 t272 (t272.length : Int) x16_1 (rd_L1 t272 x16_1) ((rd_L1 t272 x16_1).length : Int) (wrap64 (x23_2 + 1))) = some r := hR hy277 H; have Ny277 := Az hy277; clear hy277; have H' := Az H; clear H; have p276 : 0 ≤ (x23_2 : Int) := oA; have q276 : x23_2 < ((rd_L1 t272 x16_1).length : Int) := oA; obtain ⟨ad276, e276, hx276_0⟩ := Kd.at_int HR275_0.out x23_2 p276 q276
               cases e276
               (try replace hx276_0 := (HB.out.cell (World.block_lt_of_cell? w _ hx276_0)).trans hx276_0); replace p276 := eq_true p276; replace q276 := eq_true q276; have p20 : 0 ≤ ((rd (rd_L1 t272 x16_1) x23_2) : Int) := oA; have q20 : ((rd (rd_L1 t272 x16_1) x23_2) : Int) < ((x3_2.length : Int) : Int) := oA; obtain ⟨go20, co20, eo20, gb20, gl20, cl20, HG20⟩ := Kd.R_form HO_3.out (by omega); (first | cases eo20 | (injection eo20 with ea_ en_ ec_; (first | subst ea_ | (injection ea_ with ea_; subst ea_)); subst ec_; clear en_)); have GB20 := Az gb20; have GG20 := Az HG20; clear gb20 gl20 HG20; obtain ⟨hx20_0, hf20_0⟩ := Kd.R_celln 0 HO_3.out ((rd (rd_L1 t272 x16_1) x23_2) : Int) p20 q20; replace p20 := eq_true p20; replace q20 := eq_true q20; obtain ⟨hy21_, hz21_⟩ := Kd.R_celln 0 HO_3.out ((rd (rd_L1 t272 x16_1) x23_2) : Int) (oA) (oA); have HP21 := Kd.R_putg HO_3.out ((rd (rd_L1 t272 x16_1) x23_2) : Int) x16_1
               go_wp2_with (first | ((with_reducible refine gate_store (t := 3) (p := 30) rfl ?_); refine store_event (t := 3) (p := 30) (v := ?vo_w22) (w1 := (wr.setCell ⟨go20, ((rd (rd_L1 t272 x16_1) x23_2) : Int).toNat, none⟩ (.int .i64 x16_1))) ?hg ?ho ?hn ?hr ?_; (case ho => rfl); (case hg => rfl); (case hn => rfl); (case hr => first | (go_simp; done) | (go_simp; rfl)); intro w22 hw; have hg : wr.grownBy w22 (some go20) := (by rw [hw]; exact HP21.2); have hp_ : Kd.R (Kd.int .i64) 3 w22 w.heap.size (fun _ => True) (.slice (some ⟨go20, 0, none⟩) x3_2.length co20) y277 := (by rw [hw, Ny277.out]; exact HP21.1); clear HP21; have n0 := Az (hp_); have n1 := Az (Kd.S_after (v := (.slice (some ⟨go20, 0, none⟩) x3_2.length co20)) (v1 := (.slice (some ⟨go20, 0, none⟩) x3_2.length co20)) (ok := (fun _ => True)) (by (with_reducible repeat (first | apply Kd.S_alloc | apply Kd.S_drewN | apply Kd.S_drew)); exact Kd.S_mono HO_14.out (fun _ hk => ⟨trivial, hk⟩)) hg (.inl rfl)); have n2 := Az (blk_grown (g := gb268) (o := .cells #[.slice A0_0 l0_0.length c0_0, .slice A0_1 l0_1.length c0_1] 25 (0, 0)) (kU BK268.out) hg (Kd.R_ne HO_3.out BK268.out (by decide))); have n3 := Az (seen_put (d := 0) HR275_0.out hg (fun ad_ e_ _ eb_ => ((HL275_0.out.1 ad_.block (by rw [e_]; rfl)).1) (congrArg some eb_))); have n4 := Az ((by rw [hw]; exact below_set (HB.out) GB20.out : Below w.heap.size w w22)); clear HO_3 HO_14 BK268 HR275_0 HB; have HO_3 := n0; have HO_14 := n1; have BK268 := n2; have HR275_0 := n3; have HB := n4; clear n0 n1 n2 n3 n4; clear hg hw hp_))
               (first | go_roundg k2 | (refine Handed.intro k2 ?measure ?_; rotate_left; go_step; (try simp only [add_plain]); (repeat apply Exists.intro); refine ⟨?rel, rfl⟩))
               case measure => have := HK1.out; have := HK2.out; omega
               case rel => exact ⟨(y277), (wrap64 (x23_2 + 1)), rS, H', ⟨by have := HK1.out; have := HK2.out; omega⟩, ⟨rU HO_3.out⟩, ⟨by (with_reducible repeat (first | apply Kd.S_alloc | apply Kd.S_drewN | apply Kd.S_drew)); exact Kd.S_mono HO_14.out (fun _ hk => hk.2)⟩, ⟨kU BK268.out⟩, ⟨by repeat (first | (with_reducible exact HR275_0.out) | (with_reducible refine Kd.C_alloc ?_ _) | (with_reducible refine Kd.C_drewN ?_ _) | (with_reducible refine Kd.C_drew ?_) | exact HR275_0.out)⟩, ⟨bU1 HB.out GE268.out⟩⟩
              ·
               rw [if_neg c19] at H
               exact absurd H (by simp)
             ·
              rw [if_neg c18] at H
              exact absurd H (by simp)
            ·
             rw [if_neg c17] at H
             exact absurd H (by simp)
           ·
            rw [if_neg c16] at H
            exact absurd H (by simp)
          ·
           rw [if_neg c15] at H; have c15b0 := decide_eq_false c15; clear c15; have H' := Az H; clear H
           go_wp2
           (first | go_roundg k2 | (refine Handed.intro k2 ?measure ?_; rotate_left; go_step; (try simp only [add_plain]); (repeat apply Exists.intro); refine ⟨?rel, rfl⟩))
           case measure => have := HK1.out; have := HK2.out; omega
           case rel => exact ⟨(x3_2), (wrap64 (x16_1 + 1)), rS, H', ⟨by have := HK1.out; have := HK2.out; omega⟩, ⟨rU HO_3.out⟩, ⟨sU HO_14.out⟩, ⟨kU BK268.out⟩, ⟨bU1 HB.out GE268.out⟩⟩
       ·
        rw [if_neg c14] at H
        exact absurd H (by simp)
      ·
       rw [if_neg c13] at H
       exact absurd H (by simp)
     ·
      rw [if_neg c12] at H; have c12b0 := decide_eq_false c12; clear c12; obtain rfl := Option.some.inj H
      go_wp2
      go_ret
      exact ⟨_, rE, rU HO_3.out, bU1 HB.out GE268.out⟩
  ·
   rw [if_neg c3] at H
   exact absurd H (by simp)
 ·
  rw [if_neg c2] at H
  exact absurd H (by simp)
def impl_EdgeKind.j0 : Nat → Int → Bool → List Int → List Int → Option (Int)
 | 0, _, _, _, _ => none
 | k + 1, x1, x23, xZ0, xZ1 => if x23 = true then (some (-1)) else ((impl_edgesOf.f k xZ0 xZ1).bind fun t280 => (if 0 ≤ x1 then (if x1 < (t280.length : Int) then ((impl_vertexOf.f k xZ0 xZ1).bind fun t284 => (if 0 ≤ (rd t280 x1) then (if (rd t280 x1) < (t284.length : Int) then (if (rd t280 x1) < (xZ1.length : Int) then (if 0 ≤ (rd xZ1 (rd t280 x1)) then (if (rd xZ1 (rd t280 x1)) < (t284.length : Int) then (if (rd t284 (rd t280 x1)) = (rd t284 (rd xZ1 (rd t280 x1))) then (some 2) else ((impl_ChoiceRest.f k xZ0 xZ1 (([x1] : List Int))).bind fun bt293 => ((impl_ribbon.f k xZ0 xZ1 bt293.1).bind fun t297 => (if 0 < (t297.length : Int) then (if (rd t297 0) = 2 then (some 1) else (some 0)) else (none))))) else (none)) else (none)) else (none)) else (none)) else (none))) else (none)) else (none)))
def impl_EdgeKind.f (k : Nat) (l0_0 : List Int) (l0_1 : List Int) (a1 : Int) : Option (Int) := (impl_MapValid.f k l0_0 l0_1).bind fun t279 => (if t279 = true then (if a1 < 0 then (impl_EdgeKind.j0 k a1 true l0_0 l0_1) else (impl_EdgeKind.j0 k a1 (decide (a1 ≥ (wrap64 ((l0_1.length : Int) / 2)))) l0_0 l0_1)) else (impl_EdgeKind.j0 k a1 true l0_0 l0_1))
set_option maxHeartbeats 8000000 in
set_option maxRecDepth 100000 in
theorem impl_EdgeKind.calls (k : Nat) (A0_0 : Option Addr) (c0_0 : Nat) (l0_0 : List Int) (A0_1 : Option Addr) (c0_1 : Nat) (l0_1 : List Int) (a1 : Int) (r : Int) (w : World) (hr0_0 : Kd.C (Kd.int .i64) w A0_0 l0_0.length l0_0) (hc0_0 : l0_0.length ≤ c0_0) (hr0_1 : Kd.C (Kd.int .i64) w A0_1 l0_1.length l0_1) (hc0_1 : l0_1.length ≤ c0_1) (h : impl_EdgeKind.f k l0_0 l0_1 a1 = some r) :
  Calls Try.prog 45 #[.agg #[.slice A0_0 l0_0.length c0_0, .slice A0_1 l0_1.length c0_1], .int .i64 a1] w fun e w' => e = .returned (.int .i64 r) ∧ Below w.heap.size w w' := by
 have hu25 := Try.underlying25; have HR0_0 := Az hr0_0; have HC0_0 := Az hc0_0; clear hr0_0 hc0_0; have HR0_1 := Az hr0_1; have HC0_1 := Az hc0_1; clear hr0_1 hc0_1; have HB := Az (Below.refl w.heap.size w); have H : ((impl_MapValid.f k l0_0 l0_1).bind fun t279 => (if t279 = true then (if a1 < 0 then (impl_EdgeKind.j0 k a1 true l0_0 l0_1) else (impl_EdgeKind.j0 k a1 (decide (a1 ≥ (wrap64 ((l0_1.length : Int) / 2)))) l0_0 l0_1)) else (impl_EdgeKind.j0 k a1 true l0_0 l0_1))) = some r := h; clear h; have HC3 := Az H; clear H
 go_enter Try.func45, Try.ntmps45
 go_upto_region 1 with (first | ((with_reducible refine gate_dst (N := 2) rfl ?_); (try (refine gate_guard (by rfl) ?_; dsimp only)); refine box_event ?hg (N := 2) ?hd (cs := #[.slice A0_0 l0_0.length c0_0, .slice A0_1 l0_1.length c0_1]) (t := 25) ?hr ?_; (case hd => rfl); (case hg => rfl); (case hr => first | (go_simp; done) | (go_simp; rfl)); intro gb278 hg w4 hbox hb; have n0 := Az (below_step (bU0 HB.out) hb); have n1 := Az (hbox); have n2 := Az ((by rw [hg]; exact (below_size (bU0 HB.out)) : w.heap.size ≤ gb278)); have n3 := n2; clear HB; have HB := n0; have BK278 := n1; have GW278 := n2; have GE278 := n3; clear n0 n1 n2 n3; clear hb hbox hg))
 repeat (go_quiet (fail); go_upto_region 1 with (fail))
 (try simp only [Act.put, List.setIfInBounds_toArray, List.set_cons_zero, List.set_cons_succ])
 go_cut [23] (fun v23 wc => ∃ (kq : Nat) (x23_2 : Bool), v23 = .bool x23_2 ∧ Aside0 (impl_EdgeKind.j0 kq a1 x23_2 l0_0 l0_1 = some r) ∧ Aside0 (kq ≤ k) ∧ Aside0 (wc.heap[gb278]? = some (.cells #[(.slice A0_0 l0_0.length c0_0), (.slice A0_1 l0_1.length c0_1)] 25 (0, 0))) ∧ Aside0 (Below w.heap.size w wc))
 case first =>
  have H := HC3.out; clear HC3; replace H := Option.bind_eq_some_iff.mp H; obtain ⟨t279, A50, H⟩ := H; replace H : (if t279 = true then (if a1 < 0 then (impl_EdgeKind.j0 k a1 true l0_0 l0_1) else (impl_EdgeKind.j0 k a1 (decide (a1 ≥ (wrap64 ((l0_1.length : Int) / 2)))) l0_0 l0_1)) else (impl_EdgeKind.j0 k a1 true l0_0 l0_1)) = some r := H; have A5 := Az A50; clear A50
  by_cases c6 : t279 = true
  ·
   subst c6
   have H1 : (if a1 < 0 then (impl_EdgeKind.j0 k a1 true l0_0 l0_1) else (impl_EdgeKind.j0 k a1 (decide (a1 ≥ (wrap64 ((l0_1.length : Int) / 2)))) l0_0 l0_1)) = some r := by rw [if_pos rfl] at H; exact H
   clear H; have H := H1; clear H1
   by_cases c7 : a1 < 0
   ·
    rw [if_pos c7] at H; have c7b0 := decide_eq_true c7; clear c7; (first | rw [c7b0] | (simp only [i64_w, i32_w]; rw [c7b0]) | skip); have H' := Az H; clear H; have hcz8_0 : w4.cell? ⟨gb278, 0, none⟩ = some (.slice A0_0 l0_0.length c0_0) := (blk_cell BK278.out 0).trans rfl; have hcz8_1 : w4.cell? ⟨gb278, 1, none⟩ = some (.slice A0_1 l0_1.length c0_1) := (blk_cell BK278.out 1).trans rfl; have hfz8_0 := blk_frozen BK278.out 0; have hfz8_1 := blk_frozen BK278.out 1
    go_wp2_with (first | (go_at_call 59; (with_reducible refine (impl_MapValid.calls k (fun k_ => k_ < w.heap.size) _ _ l0_0 (fun k_ => k_ < w.heap.size) _ _ l0_1 true _ ?side1 ?side2 A5.out).mono ?_); (case side1 => exact Kd.V_mk HC0_0.out (Kd.F_below (Kd.C_F (Kd.heap_int .i64) HR0_0.out) (bU1 HB.out GE278.out))); (case side2 => exact Kd.V_mk HC0_1.out (Kd.F_below (Kd.C_F (Kd.heap_int .i64) HR0_1.out) (bU1 HB.out GE278.out))); rintro e w9 ⟨rfl, hb⟩; have n0 := Az (blk_below (g := gb278) (o := .cells #[.slice A0_0 l0_0.length c0_0, .slice A0_1 l0_1.length c0_1] 25 (0, 0)) (kU BK278.out) hb); have n1 := Az (below_step (bU1 HB.out GE278.out) hb); clear BK278 HB; have BK278 := n0; have HB := n1; clear n0 n1; (try clear hb); (try clear hb2); (try clear hk); (try clear hi)))
    repeat (go_quiet (fail); try go_wp2_with (fail))
    go_meet
    case rel => exact ⟨_, (true), rS, H', ⟨by first | omega | exact Nat.le_refl _⟩, ⟨kU BK278.out⟩, ⟨bU1 HB.out GE278.out⟩⟩
   ·
    rw [if_neg c7] at H; have c7b0 := decide_eq_false c7; clear c7; (first | rw [c7b0] | (simp only [i64_w, i32_w]; rw [c7b0]) | skip); have H' := Az H; clear H; have hcz10_0 : w4.cell? ⟨gb278, 0, none⟩ = some (.slice A0_0 l0_0.length c0_0) := (blk_cell BK278.out 0).trans rfl; have hcz10_1 : w4.cell? ⟨gb278, 1, none⟩ = some (.slice A0_1 l0_1.length c0_1) := (blk_cell BK278.out 1).trans rfl; have hfz10_0 := blk_frozen BK278.out 0; have hfz10_1 := blk_frozen BK278.out 1
    go_wp2_with (first | (go_at_call 59; (with_reducible refine (impl_MapValid.calls k (fun k_ => k_ < w.heap.size) _ _ l0_0 (fun k_ => k_ < w.heap.size) _ _ l0_1 true _ ?side1 ?side2 A5.out).mono ?_); (case side1 => exact Kd.V_mk HC0_0.out (Kd.F_below (Kd.C_F (Kd.heap_int .i64) HR0_0.out) (bU1 HB.out GE278.out))); (case side2 => exact Kd.V_mk HC0_1.out (Kd.F_below (Kd.C_F (Kd.heap_int .i64) HR0_1.out) (bU1 HB.out GE278.out))); rintro e w11 ⟨rfl, hb⟩; have n0 := Az (blk_below (g := gb278) (o := .cells #[.slice A0_0 l0_0.length c0_0, .slice A0_1 l0_1.length c0_1] 25 (0, 0)) (kU BK278.out) hb); have n1 := Az (below_step (bU1 HB.out GE278.out) hb); clear BK278 HB; have BK278 := n0; have HB := n1; clear n0 n1; (try clear hb); (try clear hb2); (try clear hk); (try clear hi); have hcz12_0 : w11.cell? ⟨gb278, 0, none⟩ = some (.slice A0_0 l0_0.length c0_0) := (blk_cell BK278.out 0).trans rfl; have hcz12_1 : w11.cell? ⟨gb278, 1, none⟩ = some (.slice A0_1 l0_1.length c0_1) := (blk_cell BK278.out 1).trans rfl; have hfz12_0 := blk_frozen BK278.out 0; have hfz12_1 := blk_frozen BK278.out 1))
    repeat (go_quiet (fail); try go_wp2_with (fail))
    go_meet
    case rel => exact ⟨_, (decide (a1 ≥ (wrap64 ((l0_1.length : Int) / 2)))), rS, H', ⟨by first | omega | exact Nat.le_refl _⟩, ⟨kU BK278.out⟩, ⟨bU1 HB.out GE278.out⟩⟩
  ·
   replace c6 := Bool.eq_false_iff.mpr c6; subst c6
   have H1 : (impl_EdgeKind.j0 k a1 true l0_0 l0_1) = some r := by rw [if_neg (show ¬ (false = true) by decide)] at H; exact H
   clear H; have H := H1; clear H1; have H' := Az H; clear H; have hcz13_0 : w4.cell? ⟨gb278, 0, none⟩ = some (.slice A0_0 l0_0.length c0_0) := (blk_cell BK278.out 0).trans rfl; have hcz13_1 : w4.cell? ⟨gb278, 1, none⟩ = some (.slice A0_1 l0_1.length c0_1) := (blk_cell BK278.out 1).trans rfl; have hfz13_0 := blk_frozen BK278.out 0; have hfz13_1 := blk_frozen BK278.out 1
   go_wp2_with (first | (go_at_call 59; (with_reducible refine (impl_MapValid.calls k (fun k_ => k_ < w.heap.size) _ _ l0_0 (fun k_ => k_ < w.heap.size) _ _ l0_1 false _ ?side1 ?side2 A5.out).mono ?_); (case side1 => exact Kd.V_mk HC0_0.out (Kd.F_below (Kd.C_F (Kd.heap_int .i64) HR0_0.out) (bU1 HB.out GE278.out))); (case side2 => exact Kd.V_mk HC0_1.out (Kd.F_below (Kd.C_F (Kd.heap_int .i64) HR0_1.out) (bU1 HB.out GE278.out))); rintro e w14 ⟨rfl, hb⟩; have n0 := Az (blk_below (g := gb278) (o := .cells #[.slice A0_0 l0_0.length c0_0, .slice A0_1 l0_1.length c0_1] 25 (0, 0)) (kU BK278.out) hb); have n1 := Az (below_step (bU1 HB.out GE278.out) hb); clear BK278 HB; have BK278 := n0; have HB := n1; clear n0 n1; (try clear hb); (try clear hb2); (try clear hk); (try clear hi)))
   repeat (go_quiet (fail); try go_wp2_with (fail))
   go_meet
   case rel => exact ⟨_, (true), rS, H', ⟨by first | omega | exact Nat.le_refl _⟩, ⟨kU BK278.out⟩, ⟨bU1 HB.out GE278.out⟩⟩
 case rest =>
  clear HC3; (try clear p2); (try clear c4); (try clear c6); (try clear p6); (try clear c7); (try clear c7b0); (try clear hcz10_0); (try clear hcz10_1); (try clear hcz12_0); (try clear hcz12_1); (try clear hcz13_0); (try clear hcz13_1); (try clear hcz8_0); (try clear hcz8_1); (try clear hfz10_0); (try clear hfz10_1); (try clear hfz12_0); (try clear hfz12_1); (try clear hfz13_0); (try clear hfz13_1); (try clear hfz8_0); (try clear hfz8_1); obtain ⟨kq, x23_2, rfl, HA, HJ2, BK278, HB⟩ := hcut
  cases kq with
  | zero => exact absurd HA.out (by simp [impl_EdgeKind.j0])
  | succ kj2 =>
   have H := HA.out; clear HA; simp only [impl_EdgeKind.j0] at H
   by_cases c15 : x23_2 = true
   ·
    subst c15
    have H1 : (some (-1)) = some r := by rw [if_pos rfl] at H; exact H
    clear H; have H := H1; clear H1; obtain rfl := Option.some.inj H
    go_wp2
    repeat (go_quiet (fail); try go_wp2)
    go_ret
    exact ⟨rE, bU1 HB.out GE278.out⟩
   ·
    replace c15 := Bool.eq_false_iff.mpr c15; subst c15
    have H1 : ((impl_edgesOf.f kj2 l0_0 l0_1).bind fun t280 => (if 0 ≤ a1 then (if a1 < (t280.length : Int) then ((impl_vertexOf.f kj2 l0_0 l0_1).bind fun t284 => (if 0 ≤ (rd t280 a1) then (if (rd t280 a1) < (t284.length : Int) then (if (rd t280 a1) < (l0_1.length : Int) then (if 0 ≤ (rd l0_1 (rd t280 a1)) then (if (rd l0_1 (rd t280 a1)) < (t284.length : Int) then (if (rd t284 (rd t280 a1)) = (rd t284 (rd l0_1 (rd t280 a1))) then (some 2) else ((impl_ChoiceRest.f kj2 l0_0 l0_1 (([a1] : List Int))).bind fun bt293 => ((impl_ribbon.f kj2 l0_0 l0_1 bt293.1).bind fun t297 => (if 0 < (t297.length : Int) then (if (rd t297 0) = 2 then (some 1) else (some 0)) else (none))))) else (none)) else (none)) else (none)) else (none)) else (none))) else (none)) else (none))) = some r := by rw [if_neg (show ¬ (false = true) by decide)] at H; exact H
    clear H; have H := H1; clear H1; replace H := Option.bind_eq_some_iff.mp H; obtain ⟨t280, A160, H⟩ := H; replace H : (if 0 ≤ a1 then (if a1 < (t280.length : Int) then ((impl_vertexOf.f kj2 l0_0 l0_1).bind fun t284 => (if 0 ≤ (rd t280 a1) then (if (rd t280 a1) < (t284.length : Int) then (if (rd t280 a1) < (l0_1.length : Int) then (if 0 ≤ (rd l0_1 (rd t280 a1)) then (if (rd l0_1 (rd t280 a1)) < (t284.length : Int) then (if (rd t284 (rd t280 a1)) = (rd t284 (rd l0_1 (rd t280 a1))) then (some 2) else ((impl_ChoiceRest.f kj2 l0_0 l0_1 (([a1] : List Int))).bind fun bt293 => ((impl_ribbon.f kj2 l0_0 l0_1 bt293.1).bind fun t297 => (if 0 < (t297.length : Int) then (if (rd t297 0) = 2 then (some 1) else (some 0)) else (none))))) else (none)) else (none)) else (none)) else (none)) else (none))) else (none)) else (none)) = some r := H; have A16 := Az A160; clear A160
    by_cases c17 : 0 ≤ a1
    ·
     rw [if_pos c17] at H; have c17b0 := decide_eq_true c17; clear c17
     by_cases c18 : a1 < (t280.length : Int)
     ·
      rw [if_pos c18] at H; have c18b0 := decide_eq_true c18; clear c18; replace H := Option.bind_eq_some_iff.mp H; obtain ⟨t284, A190, H⟩ := H; replace H : (if 0 ≤ (rd t280 a1) then (if (rd t280 a1) < (t284.length : Int) then (if (rd t280 a1) < (l0_1.length : Int) then (if 0 ≤ (rd l0_1 (rd t280 a1)) then (if (rd l0_1 (rd t280 a1)) < (t284.length : Int) then (if (rd t284 (rd t280 a1)) = (rd t284 (rd l0_1 (rd t280 a1))) then (some 2) else ((impl_ChoiceRest.f kj2 l0_0 l0_1 (([a1] : List Int))).bind fun bt293 => ((impl_ribbon.f kj2 l0_0 l0_1 bt293.1).bind fun t297 => (if 0 < (t297.length : Int) then (if (rd t297 0) = 2 then (some 1) else (some 0)) else (none))))) else (none)) else (none)) else (none)) else (none)) else (none)) = some r := H; have A19 := Az A190; clear A190
      by_cases c20 : 0 ≤ (rd t280 a1)
      ·
       rw [if_pos c20] at H; have c20b0 := decide_eq_true c20; clear c20
       by_cases c21 : (rd t280 a1) < (t284.length : Int)
       ·
        rw [if_pos c21] at H; have c21b0 := decide_eq_true c21; clear c21
        by_cases c22 : (rd t280 a1) < (l0_1.length : Int)
        ·
         rw [if_pos c22] at H; have c22b0 := decide_eq_true c22; clear c22
         by_cases c23 : 0 ≤ (rd l0_1 (rd t280 a1))
         ·
          rw [if_pos c23] at H; have c23b0 := decide_eq_true c23; clear c23
          by_cases c24 : (rd l0_1 (rd t280 a1)) < (t284.length : Int)
          ·
           rw [if_pos c24] at H; have c24b0 := decide_eq_true c24; clear c24
           by_cases c25 : (rd t284 (rd t280 a1)) = (rd t284 (rd l0_1 (rd t280 a1)))
           ·
            rw [if_pos c25] at H; have c25b0 := beq_iff_eq.mpr c25; have c25b1 := bne_eq_false_iff_eq.mpr c25; clear c25; obtain rfl := Option.some.inj H; have hcz26_0 : wc.cell? ⟨gb278, 0, none⟩ = some (.slice A0_0 l0_0.length c0_0) := (blk_cell BK278.out 0).trans rfl; have hcz26_1 : wc.cell? ⟨gb278, 1, none⟩ = some (.slice A0_1 l0_1.length c0_1) := (blk_cell BK278.out 1).trans rfl; have hfz26_0 := blk_frozen BK278.out 0; have hfz26_1 := blk_frozen BK278.out 1
            go_wp2_with (first | (go_at_call 83; (with_reducible refine (impl_edgesOf.calls kj2 _ _ l0_0 _ _ l0_1 t280 _ ?side1 ?side2 ?side3 ?side4 A16.out).mono ?_); (case side1 => exact cU (Kd.C_below HR0_0.out HB.out)); (case side2 => exact HC0_0.out); (case side3 => exact cU (Kd.C_below HR0_1.out HB.out)); (case side4 => exact HC0_1.out); rintro e w27 ⟨v281, rfl, ho0, hb⟩; have n0 := Az (Kd.R_lower ho0 (below_size (bU1 HB.out GE278.out))); have n1 := Az (blk_below (g := gb278) (o := .cells #[.slice A0_0 l0_0.length c0_0, .slice A0_1 l0_1.length c0_1] 25 (0, 0)) (kU BK278.out) hb); have n2 := Az (below_step (bU1 HB.out GE278.out) hb); clear BK278 HB; have HO282 := n0; have BK278 := n1; have HB := n2; clear n0 n1 n2; (try clear hb); (try clear hb2); (try clear hk); (try clear hi); (try clear ho0); obtain ⟨Ao28, co28, eo28⟩ := Kd.R_slice HO282.out; subst eo28; have p283 : 0 ≤ (a1 : Int) := oA; have q283 : a1 < (t280.length : Int) := oA; obtain ⟨ad283, e283, hx283_0⟩ := Kd.at_int (Kd.R_reads' HO282.out).2.2 a1 p283 q283; cases e283; replace p283 := eq_true p283; replace q283 := eq_true q283; have hcz29_0 : w27.cell? ⟨gb278, 0, none⟩ = some (.slice A0_0 l0_0.length c0_0) := (blk_cell BK278.out 0).trans rfl; have hcz29_1 : w27.cell? ⟨gb278, 1, none⟩ = some (.slice A0_1 l0_1.length c0_1) := (blk_cell BK278.out 1).trans rfl; have hfz29_0 := blk_frozen BK278.out 0; have hfz29_1 := blk_frozen BK278.out 1) | (go_at_call 78; (with_reducible refine (impl_vertexOf.calls kj2 _ _ l0_0 _ _ l0_1 t284 _ ?side1 ?side2 ?side3 ?side4 A19.out).mono ?_); (case side1 => exact cU (Kd.C_below HR0_0.out HB.out)); (case side2 => exact HC0_0.out); (case side3 => exact cU (Kd.C_below HR0_1.out HB.out)); (case side4 => exact HC0_1.out); rintro e w30 ⟨v285, rfl, ho0, hb⟩; have n0 := Az (Kd.R_elder' (rU HO282.out) (Kd.R_base ho0) hb); have n1 := Az (Kd.R_lower (Kd.R_new' ho0 (Kd.R_lt (rU HO282.out))) (below_size (bU1 HB.out GE278.out))); have n2 := Az (blk_below (g := gb278) (o := .cells #[.slice A0_0 l0_0.length c0_0, .slice A0_1 l0_1.length c0_1] 25 (0, 0)) (kU BK278.out) hb); have n3 := Az (below_step (bU1 HB.out GE278.out) hb); clear HO282 BK278 HB; have HO282 := n0; have HO286 := n1; have BK278 := n2; have HB := n3; clear n0 n1 n2 n3; (try clear hb); (try clear hb2); (try clear hk); (try clear hi); (try clear ho0); obtain ⟨Ao31, co31, eo31⟩ := Kd.R_slice HO286.out; subst eo31; have p287 : 0 ≤ ((rd t280 a1) : Int) := oA; have q287 : (rd t280 a1) < (t284.length : Int) := oA; obtain ⟨ad287, e287, hx287_0⟩ := Kd.at_int (Kd.R_reads' HO286.out).2.2 (rd t280 a1) p287 q287; cases e287; replace p287 := eq_true p287; replace q287 := eq_true q287; have hcz32_0 : w30.cell? ⟨gb278, 0, none⟩ = some (.slice A0_0 l0_0.length c0_0) := (blk_cell BK278.out 0).trans rfl; have hcz32_1 : w30.cell? ⟨gb278, 1, none⟩ = some (.slice A0_1 l0_1.length c0_1) := (blk_cell BK278.out 1).trans rfl; have hfz32_0 := blk_frozen BK278.out 0; have hfz32_1 := blk_frozen BK278.out 1; have p288 : 0 ≤ ((rd t280 a1) : Int) := oA; have q288 : (rd t280 a1) < (l0_1.length : Int) := oA; obtain ⟨ad288, e288, hx288_0⟩ := Kd.at_int HR0_1.out (rd t280 a1) p288 q288; cases e288; replace hx288_0 := (HB.out.cell (World.block_lt_of_cell? w _ hx288_0)).trans hx288_0; replace p288 := eq_true p288; replace q288 := eq_true q288; have p289 : 0 ≤ ((rd l0_1 (rd t280 a1)) : Int) := oA; have q289 : (rd l0_1 (rd t280 a1)) < (t284.length : Int) := oA; obtain ⟨ad289, e289, hx289_0⟩ := Kd.at_int (Kd.R_reads' HO286.out).2.2 (rd l0_1 (rd t280 a1)) p289 q289; obtain rfl : ad287 = ad289 := (by injection e289); replace p289 := eq_true p289; replace q289 := eq_true q289))
            repeat (go_quiet (fail); try go_wp2_with (fail))
            go_ret
            exact ⟨rE, bU1 HB.out GE278.out⟩
           ·
            rw [if_neg c25] at H; have c25b0 := beq_eq_false_iff_ne.mpr c25; have c25b1 := bne_iff_ne.mpr c25; obtain ⟨y290, hy290⟩ : ∃ y_ : List Int, y_ = (([a1] : List Int)) := ⟨_, rfl⟩; replace H : ((impl_ChoiceRest.f kj2 l0_0 l0_1 y290).bind fun bt293 => ((impl_ribbon.f kj2 l0_0 l0_1 bt293.1).bind fun t297 => (if 0 < (t297.length : Int) then (if (rd t297 0) = 2 then (some 1) else (some 0)) else (none)))) = some r := hR hy290 H; have Ny290 := Az hy290; clear hy290; replace H := Option.bind_eq_some_iff.mp H; obtain ⟨⟨t293, t296⟩, A330, H⟩ := H; replace H : ((impl_ribbon.f kj2 l0_0 l0_1 t293).bind fun t297 => (if 0 < (t297.length : Int) then (if (rd t297 0) = 2 then (some 1) else (some 0)) else (none))) = some r := H; have A33 := Az A330; clear A330; replace H := Option.bind_eq_some_iff.mp H; obtain ⟨t297, A340, H⟩ := H; replace H : (if 0 < (t297.length : Int) then (if (rd t297 0) = 2 then (some 1) else (some 0)) else (none)) = some r := H; have A34 := Az A340; clear A340
            by_cases c35 : 0 < (t297.length : Int)
            ·
             rw [if_pos c35] at H; have c35b0 := decide_eq_true c35; have c35b1 : decide (0 < t297.length) = true := decide_eq_true (by omega); clear c35
             by_cases c36 : (rd t297 0) = 2
             ·
              rw [if_pos c36] at H; have c36b0 := beq_iff_eq.mpr c36; have c36b1 := bne_eq_false_iff_eq.mpr c36; clear c36; obtain rfl := Option.some.inj H; have hcz37_0 : wc.cell? ⟨gb278, 0, none⟩ = some (.slice A0_0 l0_0.length c0_0) := (blk_cell BK278.out 0).trans rfl; have hcz37_1 : wc.cell? ⟨gb278, 1, none⟩ = some (.slice A0_1 l0_1.length c0_1) := (blk_cell BK278.out 1).trans rfl; have hfz37_0 := blk_frozen BK278.out 0; have hfz37_1 := blk_frozen BK278.out 1
              go_wp2_with (first | (go_at_call 83; (with_reducible refine (impl_edgesOf.calls kj2 _ _ l0_0 _ _ l0_1 t280 _ ?side1 ?side2 ?side3 ?side4 A16.out).mono ?_); (case side1 => exact cU (Kd.C_below HR0_0.out HB.out)); (case side2 => exact HC0_0.out); (case side3 => exact cU (Kd.C_below HR0_1.out HB.out)); (case side4 => exact HC0_1.out); rintro e w38 ⟨v281, rfl, ho0, hb⟩; have n0 := Az (Kd.R_lower ho0 (below_size (bU1 HB.out GE278.out))); have n1 := Az (blk_below (g := gb278) (o := .cells #[.slice A0_0 l0_0.length c0_0, .slice A0_1 l0_1.length c0_1] 25 (0, 0)) (kU BK278.out) hb); have n2 := Az (below_step (bU1 HB.out GE278.out) hb); clear BK278 HB; have HO282 := n0; have BK278 := n1; have HB := n2; clear n0 n1 n2; (try clear hb); (try clear hb2); (try clear hk); (try clear hi); (try clear ho0); obtain ⟨Ao39, co39, eo39⟩ := Kd.R_slice HO282.out; subst eo39; have p283 : 0 ≤ (a1 : Int) := oA; have q283 : a1 < (t280.length : Int) := oA; obtain ⟨ad283, e283, hx283_0⟩ := Kd.at_int (Kd.R_reads' HO282.out).2.2 a1 p283 q283; cases e283; replace p283 := eq_true p283; replace q283 := eq_true q283; have hcz40_0 : w38.cell? ⟨gb278, 0, none⟩ = some (.slice A0_0 l0_0.length c0_0) := (blk_cell BK278.out 0).trans rfl; have hcz40_1 : w38.cell? ⟨gb278, 1, none⟩ = some (.slice A0_1 l0_1.length c0_1) := (blk_cell BK278.out 1).trans rfl; have hfz40_0 := blk_frozen BK278.out 0; have hfz40_1 := blk_frozen BK278.out 1) | (go_at_call 78; (with_reducible refine (impl_vertexOf.calls kj2 _ _ l0_0 _ _ l0_1 t284 _ ?side1 ?side2 ?side3 ?side4 A19.out).mono ?_); (case side1 => exact cU (Kd.C_below HR0_0.out HB.out)); (case side2 => exact HC0_0.out); (case side3 => exact cU (Kd.C_below HR0_1.out HB.out)); (case side4 => exact HC0_1.out); rintro e w41 ⟨v285, rfl, ho0, hb⟩; have n0 := Az (Kd.R_elder' (rU HO282.out) (Kd.R_base ho0) hb); have n1 := Az (Kd.R_lower (Kd.R_new' ho0 (Kd.R_lt (rU HO282.out))) (below_size (bU1 HB.out GE278.out))); have n2 := Az (blk_below (g := gb278) (o := .cells #[.slice A0_0 l0_0.length c0_0, .slice A0_1 l0_1.length c0_1] 25 (0, 0)) (kU BK278.out) hb); have n3 := Az (below_step (bU1 HB.out GE278.out) hb); clear HO282 BK278 HB; have HO282 := n0; have HO286 := n1; have BK278 := n2; have HB := n3; clear n0 n1 n2 n3; (try clear hb); (try clear hb2); (try clear hk); (try clear hi); (try clear ho0); obtain ⟨Ao42, co42, eo42⟩ := Kd.R_slice HO286.out; subst eo42; have p287 : 0 ≤ ((rd t280 a1) : Int) := oA; have q287 : (rd t280 a1) < (t284.length : Int) := oA; obtain ⟨ad287, e287, hx287_0⟩ := Kd.at_int (Kd.R_reads' HO286.out).2.2 (rd t280 a1) p287 q287; cases e287; replace p287 := eq_true p287; replace q287 := eq_true q287; have hcz43_0 : w41.cell? ⟨gb278, 0, none⟩ = some (.slice A0_0 l0_0.length c0_0) := (blk_cell BK278.out 0).trans rfl; have hcz43_1 : w41.cell? ⟨gb278, 1, none⟩ = some (.slice A0_1 l0_1.length c0_1) := (blk_cell BK278.out 1).trans rfl; have hfz43_0 := blk_frozen BK278.out 0; have hfz43_1 := blk_frozen BK278.out 1; have p288 : 0 ≤ ((rd t280 a1) : Int) := oA; have q288 : (rd t280 a1) < (l0_1.length : Int) := oA; obtain ⟨ad288, e288, hx288_0⟩ := Kd.at_int HR0_1.out (rd t280 a1) p288 q288; cases e288; replace hx288_0 := (HB.out.cell (World.block_lt_of_cell? w _ hx288_0)).trans hx288_0; replace p288 := eq_true p288; replace q288 := eq_true q288; have p289 : 0 ≤ ((rd l0_1 (rd t280 a1)) : Int) := oA; have q289 : (rd l0_1 (rd t280 a1)) < (t284.length : Int) := oA; obtain ⟨ad289, e289, hx289_0⟩ := Kd.at_int (Kd.R_reads' HO286.out).2.2 (rd l0_1 (rd t280 a1)) p289 q289; obtain rfl : ad287 = ad289 := (by injection e289); replace p289 := eq_true p289; replace q289 := eq_true q289))
              repeat (go_quiet (fail); try go_wp2_with (first | ((with_reducible refine gate_dst (N := 47) rfl ?_); (try (refine gate_guard (by rfl) ?_; dsimp only)); refine Kd.R_lit (Kd.int .i64) _ 3 ?hg (N := 47) ?hd (xs := ([a1] : List Int)) (inner := [.int .i64 a1]) (ok := fun _ => True) (okp := fun _ => True) ?hr ?hp (fun _ hk => hk) trivial (Below.refl _ _) (Nat.le_refl _) (by simp) ?_; (case hd => rfl); (case hg => rfl); (case hr => first | (go_simp; done) | (go_simp; rfl)); (case hp => exact (Reps.one (show Kd.M (Kd.int .i64) _ _ _ a1 [.int .i64 a1] from rfl) (Reps.none _ _))); intro v291 w44 ho45 hb hg_ hnew_; clear hg_ hnew_; (first | rw [← Ny290.out] at ho45 | (simp only [Int.reduceToNat] at ho45; rw [← Ny290.out] at ho45)); have n0 := Az (Kd.R_elder' (rU HO282.out) (Kd.R_base ho45) hb); have n1 := Az (Kd.R_elder' (rU HO286.out) (Kd.R_base ho45) hb); have n2 := Az (Kd.R_lower (Kd.R_new' (Kd.R_new' ho45 (Kd.R_lt (rU HO282.out))) (Kd.R_lt (rU HO286.out))) (below_size (bU1 HB.out GE278.out))); have n3 := Az (blk_below (g := gb278) (o := .cells #[.slice A0_0 l0_0.length c0_0, .slice (some ad288) l0_1.length c0_1] 25 (0, 0)) (kU BK278.out) hb); have n4 := Az (below_step (bU1 HB.out GE278.out) hb); clear HO282 HO286 BK278 HB; have HO282 := n0; have HO286 := n1; have HO292 := n2; have BK278 := n3; have HB := n4; clear n0 n1 n2 n3 n4 hb ho45; obtain ⟨Ao46, co46, eo46⟩ := Kd.R_slice HO292.out; subst eo46) | (go_at_call 18; (try simp only [Go.IntWalk.i64_left]); (with_reducible refine (impl_ChoiceRest.calls kj2 _ _ l0_0 _ _ l0_1 _ _ y290 t293 t296 _ ?side1 ?side2 ?side3 ?side4 ?side5 ?side6 A33.out).mono ?_); (case side1 => exact cU (Kd.C_below HR0_0.out HB.out)); (case side2 => exact HC0_0.out); (case side3 => exact cU (Kd.C_below HR0_1.out HB.out)); (case side4 => exact HC0_1.out); (case side5 => exact cU ((Kd.R_reads' HO292.out).2.2)); (case side6 => exact (Kd.R_reads' HO292.out).2.1); rintro e w47 ⟨v294, rfl, ho0, hb⟩; have n0 := Az (Kd.R_elder' (rU HO282.out) (Kd.R_base ho0) hb); have n1 := Az (Kd.R_elder' (rU HO286.out) (Kd.R_base ho0) hb); have n2 := Az (Kd.R_elder' (rU HO292.out) (Kd.R_base ho0) hb); have n3 := Az (Kd.R_lower (Kd.R_new' (Kd.R_new' (Kd.R_new' ho0 (Kd.R_lt (rU HO282.out))) (Kd.R_lt (rU HO286.out))) (Kd.R_lt (rU HO292.out))) (below_size (bU1 HB.out GE278.out))); have n4 := Az (blk_below (g := gb278) (o := .cells #[.slice A0_0 l0_0.length c0_0, .slice (some ad288) l0_1.length c0_1] 25 (0, 0)) (kU BK278.out) hb); have n5 := Az (below_step (bU1 HB.out GE278.out) hb); clear HO282 HO286 HO292 BK278 HB; have HO282 := n0; have HO286 := n1; have HO292 := n2; have HO295 := n3; have BK278 := n4; have HB := n5; clear n0 n1 n2 n3 n4 n5; (try clear hb); (try clear hb2); (try clear hk); (try clear hi); (try clear ho0); have hcz48_0 : w47.cell? ⟨gb278, 0, none⟩ = some (.slice A0_0 l0_0.length c0_0) := (blk_cell BK278.out 0).trans rfl; have hcz48_1 : w47.cell? ⟨gb278, 1, none⟩ = some (.slice (some ad288) l0_1.length c0_1) := (blk_cell BK278.out 1).trans rfl; have hfz48_0 := blk_frozen BK278.out 0; have hfz48_1 := blk_frozen BK278.out 1; obtain ⟨Ao49, co49, eo49⟩ := Kd.R_slice HO295.out; subst eo49) | (go_at_call 65; (try simp only [Go.IntWalk.i64_left]); (with_reducible refine (impl_ribbon.calls kj2 (fun k_ => k_ < w.heap.size) _ _ l0_0 _ _ l0_1 _ _ t293 t297 _ ?side1 ?side2 ?side3 ?side4 ?side5 A34.out).mono ?_); (case side1 => exact Kd.V_mk HC0_0.out (Kd.F_below (Kd.C_F (Kd.heap_int .i64) HR0_0.out) (bU1 HB.out GE278.out))); (case side2 => exact cU (Kd.C_below HR0_1.out HB.out)); (case side3 => exact HC0_1.out); (case side4 => exact cU ((Kd.R_reads' HO295.out).2.2)); (case side5 => exact (Kd.R_reads' HO295.out).2.1); rintro e w50 ⟨v298, rfl, ho0, hb⟩; have n0 := Az (Kd.R_elder' (rU HO282.out) (Kd.R_base ho0) hb); have n1 := Az (Kd.R_elder' (rU HO286.out) (Kd.R_base ho0) hb); have n2 := Az (Kd.R_elder' (rU HO292.out) (Kd.R_base ho0) hb); have n3 := Az (Kd.R_elder' (rU HO295.out) (Kd.R_base ho0) hb); have n4 := Az (Kd.R_lower (Kd.R_new' (Kd.R_new' (Kd.R_new' (Kd.R_new' (Kd.R_mono (ok' := fun k_ => True) ho0 (fun _ hk_ => trivial)) (Kd.R_lt (rU HO282.out))) (Kd.R_lt (rU HO286.out))) (Kd.R_lt (rU HO292.out))) (Kd.R_lt (rU HO295.out))) (below_size (bU1 HB.out GE278.out))); have n5 := Az (blk_below (g := gb278) (o := .cells #[.slice A0_0 l0_0.length c0_0, .slice (some ad288) l0_1.length c0_1] 25 (0, 0)) (kU BK278.out) hb); have n6 := Az (below_step (bU1 HB.out GE278.out) hb); clear HO282 HO286 HO292 HO295 BK278 HB; have HO282 := n0; have HO286 := n1; have HO292 := n2; have HO295 := n3; have HO299 := n4; have BK278 := n5; have HB := n6; clear n0 n1 n2 n3 n4 n5 n6; (try clear hb); (try clear hb2); (try clear hk); (try clear hi); (try clear ho0); obtain ⟨Ao51, co51, eo51⟩ := Kd.R_slice HO299.out; subst eo51; have p300 : 0 ≤ (0 : Int) := (by omega); have q300 : 0 < (t297.length : Int) := oA; obtain ⟨ad300, e300, hx300_0⟩ := Kd.at_int (Kd.R_reads' HO299.out).2.2 0 p300 q300; cases e300; have qi300 : (0 < t297.length) = True := eq_true (by omega); (try rw [show ((0 : Int)).toNat = 0 from rfl] at hx300_0); (try rw [Addr.add_zero'] at hx300_0); replace p300 := eq_true p300; replace q300 := eq_true q300)))
              go_ret
              exact ⟨rE, bU1 HB.out GE278.out⟩
             ·
              rw [if_neg c36] at H; have c36b0 := beq_eq_false_iff_ne.mpr c36; have c36b1 := bne_iff_ne.mpr c36; obtain rfl := Option.some.inj H; have hcz52_0 : wc.cell? ⟨gb278, 0, none⟩ = some (.slice A0_0 l0_0.length c0_0) := (blk_cell BK278.out 0).trans rfl; have hcz52_1 : wc.cell? ⟨gb278, 1, none⟩ = some (.slice A0_1 l0_1.length c0_1) := (blk_cell BK278.out 1).trans rfl; have hfz52_0 := blk_frozen BK278.out 0; have hfz52_1 := blk_frozen BK278.out 1
              go_wp2_with (first | (go_at_call 83; (with_reducible refine (impl_edgesOf.calls kj2 _ _ l0_0 _ _ l0_1 t280 _ ?side1 ?side2 ?side3 ?side4 A16.out).mono ?_); (case side1 => exact cU (Kd.C_below HR0_0.out HB.out)); (case side2 => exact HC0_0.out); (case side3 => exact cU (Kd.C_below HR0_1.out HB.out)); (case side4 => exact HC0_1.out); rintro e w53 ⟨v281, rfl, ho0, hb⟩; have n0 := Az (Kd.R_lower ho0 (below_size (bU1 HB.out GE278.out))); have n1 := Az (blk_below (g := gb278) (o := .cells #[.slice A0_0 l0_0.length c0_0, .slice A0_1 l0_1.length c0_1] 25 (0, 0)) (kU BK278.out) hb); have n2 := Az (below_step (bU1 HB.out GE278.out) hb); clear BK278 HB; have HO282 := n0; have BK278 := n1; have HB := n2; clear n0 n1 n2; (try clear hb); (try clear hb2); (try clear hk); (try clear hi); (try clear ho0); obtain ⟨Ao54, co54, eo54⟩ := Kd.R_slice HO282.out; subst eo54; have p283 : 0 ≤ (a1 : Int) := oA; have q283 : a1 < (t280.length : Int) := oA; obtain ⟨ad283, e283, hx283_0⟩ := Kd.at_int (Kd.R_reads' HO282.out).2.2 a1 p283 q283; cases e283; replace p283 := eq_true p283; replace q283 := eq_true q283; have hcz55_0 : w53.cell? ⟨gb278, 0, none⟩ = some (.slice A0_0 l0_0.length c0_0) := (blk_cell BK278.out 0).trans rfl; have hcz55_1 : w53.cell? ⟨gb278, 1, none⟩ = some (.slice A0_1 l0_1.length c0_1) := (blk_cell BK278.out 1).trans rfl; have hfz55_0 := blk_frozen BK278.out 0; have hfz55_1 := blk_frozen BK278.out 1) | (go_at_call 78; (with_reducible refine (impl_vertexOf.calls kj2 _ _ l0_0 _ _ l0_1 t284 _ ?side1 ?side2 ?side3 ?side4 A19.out).mono ?_); (case side1 => exact cU (Kd.C_below HR0_0.out HB.out)); (case side2 => exact HC0_0.out); (case side3 => exact cU (Kd.C_below HR0_1.out HB.out)); (case side4 => exact HC0_1.out); rintro e w56 ⟨v285, rfl, ho0, hb⟩; have n0 := Az (Kd.R_elder' (rU HO282.out) (Kd.R_base ho0) hb); have n1 := Az (Kd.R_lower (Kd.R_new' ho0 (Kd.R_lt (rU HO282.out))) (below_size (bU1 HB.out GE278.out))); have n2 := Az (blk_below (g := gb278) (o := .cells #[.slice A0_0 l0_0.length c0_0, .slice A0_1 l0_1.length c0_1] 25 (0, 0)) (kU BK278.out) hb); have n3 := Az (below_step (bU1 HB.out GE278.out) hb); clear HO282 BK278 HB; have HO282 := n0; have HO286 := n1; have BK278 := n2; have HB := n3; clear n0 n1 n2 n3; (try clear hb); (try clear hb2); (try clear hk); (try clear hi); (try clear ho0); obtain ⟨Ao57, co57, eo57⟩ := Kd.R_slice HO286.out; subst eo57; have p287 : 0 ≤ ((rd t280 a1) : Int) := oA; have q287 : (rd t280 a1) < (t284.length : Int) := oA; obtain ⟨ad287, e287, hx287_0⟩ := Kd.at_int (Kd.R_reads' HO286.out).2.2 (rd t280 a1) p287 q287; cases e287; replace p287 := eq_true p287; replace q287 := eq_true q287; have hcz58_0 : w56.cell? ⟨gb278, 0, none⟩ = some (.slice A0_0 l0_0.length c0_0) := (blk_cell BK278.out 0).trans rfl; have hcz58_1 : w56.cell? ⟨gb278, 1, none⟩ = some (.slice A0_1 l0_1.length c0_1) := (blk_cell BK278.out 1).trans rfl; have hfz58_0 := blk_frozen BK278.out 0; have hfz58_1 := blk_frozen BK278.out 1; have p288 : 0 ≤ ((rd t280 a1) : Int) := oA; have q288 : (rd t280 a1) < (l0_1.length : Int) := oA; obtain ⟨ad288, e288, hx288_0⟩ := Kd.at_int HR0_1.out (rd t280 a1) p288 q288; cases e288; replace hx288_0 := (HB.out.cell (World.block_lt_of_cell? w _ hx288_0)).trans hx288_0; replace p288 := eq_true p288; replace q288 := eq_true q288; have p289 : 0 ≤ ((rd l0_1 (rd t280 a1)) : Int) := oA; have q289 : (rd l0_1 (rd t280 a1)) < (t284.length : Int) := oA; obtain ⟨ad289, e289, hx289_0⟩ := Kd.at_int (Kd.R_reads' HO286.out).2.2 (rd l0_1 (rd t280 a1)) p289 q289; obtain rfl : ad287 = ad289 := (by injection e289); replace p289 := eq_true p289; replace q289 := eq_true q289))
              repeat (go_quiet (fail); try go_wp2_with (first | ((with_reducible refine gate_dst (N := 47) rfl ?_); (try (refine gate_guard (by rfl) ?_; dsimp only)); refine Kd.R_lit (Kd.int .i64) _ 3 ?hg (N := 47) ?hd (xs := ([a1] : List Int)) (inner := [.int .i64 a1]) (ok := fun _ => True) (okp := fun _ => True) ?hr ?hp (fun _ hk => hk) trivial (Below.refl _ _) (Nat.le_refl _) (by simp) ?_; (case hd => rfl); (case hg => rfl); (case hr => first | (go_simp; done) | (go_simp; rfl)); (case hp => exact (Reps.one (show Kd.M (Kd.int .i64) _ _ _ a1 [.int .i64 a1] from rfl) (Reps.none _ _))); intro v291 w59 ho60 hb hg_ hnew_; clear hg_ hnew_; (first | rw [← Ny290.out] at ho60 | (simp only [Int.reduceToNat] at ho60; rw [← Ny290.out] at ho60)); have n0 := Az (Kd.R_elder' (rU HO282.out) (Kd.R_base ho60) hb); have n1 := Az (Kd.R_elder' (rU HO286.out) (Kd.R_base ho60) hb); have n2 := Az (Kd.R_lower (Kd.R_new' (Kd.R_new' ho60 (Kd.R_lt (rU HO282.out))) (Kd.R_lt (rU HO286.out))) (below_size (bU1 HB.out GE278.out))); have n3 := Az (blk_below (g := gb278) (o := .cells #[.slice A0_0 l0_0.length c0_0, .slice (some ad288) l0_1.length c0_1] 25 (0, 0)) (kU BK278.out) hb); have n4 := Az (below_step (bU1 HB.out GE278.out) hb); clear HO282 HO286 BK278 HB; have HO282 := n0; have HO286 := n1; have HO292 := n2; have BK278 := n3; have HB := n4; clear n0 n1 n2 n3 n4 hb ho60; obtain ⟨Ao61, co61, eo61⟩ := Kd.R_slice HO292.out; subst eo61) | (go_at_call 18; (try simp only [Go.IntWalk.i64_left]); (with_reducible refine (impl_ChoiceRest.calls kj2 _ _ l0_0 _ _ l0_1 _ _ y290 t293 t296 _ ?side1 ?side2 ?side3 ?side4 ?side5 ?side6 A33.out).mono ?_); (case side1 => exact cU (Kd.C_below HR0_0.out HB.out)); (case side2 => exact HC0_0.out); (case side3 => exact cU (Kd.C_below HR0_1.out HB.out)); (case side4 => exact HC0_1.out); (case side5 => exact cU ((Kd.R_reads' HO292.out).2.2)); (case side6 => exact (Kd.R_reads' HO292.out).2.1); rintro e w62 ⟨v294, rfl, ho0, hb⟩; have n0 := Az (Kd.R_elder' (rU HO282.out) (Kd.R_base ho0) hb); have n1 := Az (Kd.R_elder' (rU HO286.out) (Kd.R_base ho0) hb); have n2 := Az (Kd.R_elder' (rU HO292.out) (Kd.R_base ho0) hb); have n3 := Az (Kd.R_lower (Kd.R_new' (Kd.R_new' (Kd.R_new' ho0 (Kd.R_lt (rU HO282.out))) (Kd.R_lt (rU HO286.out))) (Kd.R_lt (rU HO292.out))) (below_size (bU1 HB.out GE278.out))); have n4 := Az (blk_below (g := gb278) (o := .cells #[.slice A0_0 l0_0.length c0_0, .slice (some ad288) l0_1.length c0_1] 25 (0, 0)) (kU BK278.out) hb); have n5 := Az (below_step (bU1 HB.out GE278.out) hb); clear HO282 HO286 HO292 BK278 HB; have HO282 := n0; have HO286 := n1; have HO292 := n2; have HO295 := n3; have BK278 := n4; have HB := n5; clear n0 n1 n2 n3 n4 n5; (try clear hb); (try clear hb2); (try clear hk); (try clear hi); (try clear ho0); have hcz63_0 : w62.cell? ⟨gb278, 0, none⟩ = some (.slice A0_0 l0_0.length c0_0) := (blk_cell BK278.out 0).trans rfl; have hcz63_1 : w62.cell? ⟨gb278, 1, none⟩ = some (.slice (some ad288) l0_1.length c0_1) := (blk_cell BK278.out 1).trans rfl; have hfz63_0 := blk_frozen BK278.out 0; have hfz63_1 := blk_frozen BK278.out 1; obtain ⟨Ao64, co64, eo64⟩ := Kd.R_slice HO295.out; subst eo64) | (go_at_call 65; (try simp only [Go.IntWalk.i64_left]); (with_reducible refine (impl_ribbon.calls kj2 (fun k_ => k_ < w.heap.size) _ _ l0_0 _ _ l0_1 _ _ t293 t297 _ ?side1 ?side2 ?side3 ?side4 ?side5 A34.out).mono ?_); (case side1 => exact Kd.V_mk HC0_0.out (Kd.F_below (Kd.C_F (Kd.heap_int .i64) HR0_0.out) (bU1 HB.out GE278.out))); (case side2 => exact cU (Kd.C_below HR0_1.out HB.out)); (case side3 => exact HC0_1.out); (case side4 => exact cU ((Kd.R_reads' HO295.out).2.2)); (case side5 => exact (Kd.R_reads' HO295.out).2.1); rintro e w65 ⟨v298, rfl, ho0, hb⟩; have n0 := Az (Kd.R_elder' (rU HO282.out) (Kd.R_base ho0) hb); have n1 := Az (Kd.R_elder' (rU HO286.out) (Kd.R_base ho0) hb); have n2 := Az (Kd.R_elder' (rU HO292.out) (Kd.R_base ho0) hb); have n3 := Az (Kd.R_elder' (rU HO295.out) (Kd.R_base ho0) hb); have n4 := Az (Kd.R_lower (Kd.R_new' (Kd.R_new' (Kd.R_new' (Kd.R_new' (Kd.R_mono (ok' := fun k_ => True) ho0 (fun _ hk_ => trivial)) (Kd.R_lt (rU HO282.out))) (Kd.R_lt (rU HO286.out))) (Kd.R_lt (rU HO292.out))) (Kd.R_lt (rU HO295.out))) (below_size (bU1 HB.out GE278.out))); have n5 := Az (blk_below (g := gb278) (o := .cells #[.slice A0_0 l0_0.length c0_0, .slice (some ad288) l0_1.length c0_1] 25 (0, 0)) (kU BK278.out) hb); have n6 := Az (below_step (bU1 HB.out GE278.out) hb); clear HO282 HO286 HO292 HO295 BK278 HB; have HO282 := n0; have HO286 := n1; have HO292 := n2; have HO295 := n3; have HO299 := n4; have BK278 := n5; have HB := n6; clear n0 n1 n2 n3 n4 n5 n6; (try clear hb); (try clear hb2); (try clear hk); (try clear hi); (try clear ho0); obtain ⟨Ao66, co66, eo66⟩ := Kd.R_slice HO299.out; subst eo66; have p300 : 0 ≤ (0 : Int) := (by omega); have q300 : 0 < (t297.length : Int) := oA; obtain ⟨ad300, e300, hx300_0⟩ := Kd.at_int (Kd.R_reads' HO299.out).2.2 0 p300 q300; cases e300; have qi300 : (0 < t297.length) = True := eq_true (by omega); (try rw [show ((0 : Int)).toNat = 0 from rfl] at hx300_0); (try rw [Addr.add_zero'] at hx300_0); replace p300 := eq_true p300; replace q300 := eq_true q300)))
              go_ret
              exact ⟨rE, bU1 HB.out GE278.out⟩
            ·
             rw [if_neg c35] at H
             exact absurd H (by simp)
          ·
           rw [if_neg c24] at H
           exact absurd H (by simp)
         ·
          rw [if_neg c23] at H
          exact absurd H (by simp)
        ·
         rw [if_neg c22] at H
         exact absurd H (by simp)
       ·
        rw [if_neg c21] at H
        exact absurd H (by simp)
      ·
       rw [if_neg c20] at H
       exact absurd H (by simp)
     ·
      rw [if_neg c18] at H
      exact absurd H (by simp)
    ·
     rw [if_neg c17] at H
     exact absurd H (by simp)
end Go.Proofs.Ytjgknblneokhlaa.PF
