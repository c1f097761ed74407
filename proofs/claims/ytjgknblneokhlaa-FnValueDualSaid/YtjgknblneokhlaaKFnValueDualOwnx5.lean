/- For every code: of the map and the three numbers that the statement draws, RibbonValue of the program answers what the reference answers; on the sphere the dual map's value is the value with x and y exchanged; with 1, 1, 1 the value is the number of choices; with 0, 0 that of the spanning trees. There are no conditions. -/
import Derived.Test.YtjgknblneokhlaaKFnValueDualOwnx4
namespace Go.Proofs.Ytjgknblneokhlaa.PK
open Go.RowKit Go.Proofs.YtjgknblneokhlaaW.PrintWords Go.Proofs.YtjgknblneokhlaaW.PrintLast Go.Proofs.YtjgknblneokhlaaW.PrintMore
theorem z5_0 {p : Prop} (h : p := by exact (below_step (bU2 HB.out GW804.out GW818.out) hb)) : p := h
theorem z5_1 {p : Prop} (h : p := by exact (below_step (bU1 HB.out GW804.out) hb)) : p := h
attribute [local go_sem] max2_int min2_int max_two min_two max_three min_three max_four min_four   -- for this text's walks alone
set_option linter.unusedVariables false
set_option linter.unusedSimpArgs false
def laws_FnValueDual_up (L : List (Nat × Option Tmp)) (n : Nat) : Array Bool := ((List.range n).map (fun i => !(L.map Prod.fst).contains i)).toArray
section
variable {P : Program} {ops : Array Oper} {Q : Exit → Act → World → Prop} {md : Region.Mode} {S : World → Prop} {ds : List Nat}
theorem laws_FnValueDual_uS {i n : Nat} {N : Option Tmp} {L : List (Nat × Option Tmp)} {oi : Oper} {fuel : Nat} {a : Act} {w : World} (hi : ops[i]? = some oi) (hN : oi.dst = N) (hc : anyB md ops (laws_FnValueDual_up ((i, N) :: L) n) (laws_FnValueDual_up L n) i = true)
  (hQ : ∀ c a w, Q (.panic c) (a.put oi.dst undef) w → Q (.panic c) a w) (hw : Region.wanted oi (yielded ops a.tmps) = false) {a' : Act} (ha : a.put N undef = a')
  (h : wpAnyLast P md ops Q S ds fuel (laws_FnValueDual_up L n) a' w) : wpAnyLast P md ops Q S ds (fuel + 1) (laws_FnValueDual_up ((i, N) :: L) n) a w := pure_ (laws_FnValueDual_up L n) hi hN hc hQ (Or.inr ⟨hw, rfl⟩) ha h
theorem laws_FnValueDual_uP {i n : Nat} {N : Option Tmp} {L : List (Nat × Option Tmp)} {oi : Oper} {v : Value} {fuel : Nat} {a : Act} {w : World} (hi : ops[i]? = some oi) (hN : oi.dst = N) (hc : anyB md ops (laws_FnValueDual_up ((i, N) :: L) n) (laws_FnValueDual_up L n) i = true)
  (hQ : ∀ c a w, Q (.panic c) (a.put oi.dst v) w → Q (.panic c) a w) (hw : Region.wanted oi (yielded ops a.tmps) = true) (hy : ∀ w, (execOp a.eval oi).run P w = .ok (.value v) w) {a' : Act} (ha : a.put N v = a')
  (h : wpAnyLast P md ops Q S ds fuel (laws_FnValueDual_up L n) a' w) : wpAnyLast P md ops Q S ds (fuel + 1) (laws_FnValueDual_up ((i, N) :: L) n) a w := pure_ (laws_FnValueDual_up L n) hi hN hc hQ (Or.inl ⟨hw, hy⟩) ha h
theorem laws_FnValueDual_uT {i n : Nat} {N : Option Tmp} {L : List (Nat × Option Tmp)} {oi : Oper} {v : Value} {fuel : Nat} {a : Act} {w : World} (hi : ops[i]? = some oi) (hN : oi.dst = N) (hc : takeB md ops ds (laws_FnValueDual_up ((i, N) :: L) n) (laws_FnValueDual_up L n) i = true)
  (hQ : ∀ c a w, Q (.panic c) (a.put oi.dst v) w → Q (.panic c) a w) (hw : Region.wanted oi (yielded ops a.tmps) = true) (hy : ∀ w, S w → (execOp a.eval oi).run P w = .ok (.value v) w) (hS : S w) {a' : Act} (ha : a.put N v = a')
  (h : wpAnyLast P md ops Q S ds fuel (laws_FnValueDual_up L n) a' w) : wpAnyLast P md ops Q S ds (fuel + 1) (laws_FnValueDual_up ((i, N) :: L) n) a w := take_ (laws_FnValueDual_up L n) hi hN hc hQ (Or.inl ⟨hw, hy⟩) hS ha h
theorem laws_FnValueDual_uO {i n : Nat} {N : Option Tmp} {L : List (Nat × Option Tmp)} {oi : Oper} {fuel : Nat} {a : Act} {w : World} (hi : ops[i]? = some oi) (hN : oi.dst = N) (hc : readyB md ops (laws_FnValueDual_up ((i, N) :: L) n) (laws_FnValueDual_up L n) i = true) (hd : i ∉ ds)
  (h : ∀ K : Act → World → Prop, Shut (∀ a' w', S w' → (S w' → wpAnyLast P md ops Q S ds fuel (laws_FnValueDual_up L n) a' w') → K a' w') → if Region.wanted oi (yielded ops a.tmps) = true then Oper.wp P oi a w K Q else K (a.put N undef) w) :
  wpAnyLast P md ops Q S ds (fuel + 1) (laws_FnValueDual_up ((i, N) :: L) n) a w := one_ (laws_FnValueDual_up L n) hi hN hc hd h
end
mutual
def laws_FnValueDual.j0 : Nat → Int → Int → Int → Int → Int → Bool → List Int → List Int → Option (Bool)
 | 0, _, _, _, _, _, _, _, _ => none
 | k + 1, x4, x5, x6, x7, x8, x41, xZ0, xZ1 => if x41 = true then (some (x7 == x8)) else ((impl_MapCounts.f k xZ0 xZ1).bind fun bt807 => ((impl_MapDual.f k xZ0 xZ1).bind fun bt811 => (laws_FnValueDual.l0 k x4 x5 x6 x7 bt807.1 bt807.2 bt811.2.2 1 0 xZ0 xZ1 bt811.1 bt811.2.1)))
def laws_FnValueDual.l0 : Nat → Int → Int → Int → Int → List Int → Bool → Bool → Int → Int → List Int → List Int → List Int → List Int → Option (Bool)
 | 0, _, _, _, _, _, _, _, _, _, _, _, _, _ => none
 | k + 1, x4, x5, x6, x7, x9, x10, x12, x13, x14, xZ0, xZ1, xZ2, xZ3 => if 1 < (x9.length : Int) then (if x14 < (rd x9 1) then (laws_FnValueDual.l0 k x4 x5 x6 x7 x9 x10 x12 (wrap64 (2 * x13)) (wrap64 (x14 + 1)) xZ0 xZ1 xZ2 xZ3) else (if x10 = true then (if x12 = true then ((impl_MapGenus.f k xZ0 xZ1).bind fun t820 => (if t820 > 0 then ((impl_RibbonValue.f k xZ0 xZ1 1 1 1).bind fun t821 => (if t821 = x13 then ((impl_RibbonValue.f k xZ0 xZ1 0 0 x6).bind fun t822 => ((impl_RibbonTrees.f k xZ0 xZ1).bind fun t823 => (some (t822 == t823)))) else (some false))) else ((impl_RibbonValue.f k xZ2 xZ3 x5 x4 x6).bind fun t824 => (if t824 = x7 then ((impl_RibbonValue.f k xZ0 xZ1 1 1 1).bind fun t825 => (if t825 = x13 then ((impl_RibbonValue.f k xZ0 xZ1 0 0 x6).bind fun t826 => ((impl_RibbonTrees.f k xZ0 xZ1).bind fun t827 => (some (t826 == t827)))) else (some false))) else (some false))))) else (some false)) else (some false))) else (none)
end
def laws_FnValueDual.f (k : Nat) (l0 : List Int) : Option (Bool) := if (l0.length : Int) > 1048576 then (some true) else ((spec_DrawRibbonValue.f k l0).bind fun bt795 => ((impl_RibbonValue.f k bt795.1 bt795.2.1 bt795.2.2.1 bt795.2.2.2.1 bt795.2.2.2.2).bind fun t805 => ((spec_RibbonValue.f k bt795.1 bt795.2.1 bt795.2.2.1 bt795.2.2.2.1 bt795.2.2.2.2).bind fun t806 => (if t805 = t806 then (laws_FnValueDual.j0 k bt795.2.2.1 bt795.2.2.2.1 bt795.2.2.2.2 t805 t806 (decide (t805 < 0)) bt795.1 bt795.2.1) else (laws_FnValueDual.j0 k bt795.2.2.1 bt795.2.2.2.1 bt795.2.2.2.2 t805 t806 true bt795.1 bt795.2.1)))))
def laws_FnValueDual.T15 : Bool × List (List Nat × List Nat) := (true, [([], []), ([0], [0]), ([1], [1]), ([1, 2], [1, 2]), ([3, 1], [3]), ([4], [4]), ([5, 4, 4], [4, 5]), ([6, 4], [4, 6]), ([7, 6, 4], [4, 7]), ([8], [8]), ([8], [8]), ([8], [8]), ([8], [8]), ([9, 10, 11, 12, 8, 8], [8, 9, 10, 11, 12]), ([8], [8]), ([13, 14, 8], [8, 13, 14]), ([8, 15, 4], [4, 8, 15]), ([4, 16], [4, 16]), ([17, 13], [17]), ([18], [18]), ([19, 18, 18], [18, 19]), ([18], [18]), ([20, 21, 18], [18, 20, 21]), ([18, 22], [18, 22]), ([23, 20], [23]), ([24], [24]), ([24], [24]), ([25, 26, 24, 24], [24, 25, 26]), ([24], [24]), ([28, 27, 24], [24, 28]), ([27, 29, 24], [24, 27, 29]), ([24, 30], [24, 30]), ([31, 29, 0, 1, 2, 3, 4, 5, 6, 7, 8, 9, 10, 11, 12, 13, 14, 15, 16, 17, 18, 19, 20, 21, 22, 23, 24, 25, 26, 27, 28, 29, 30, 31], [31])])
def laws_FnValueDual.B15 : List Nat := [0, 1, 3, 7, 15, 31, 63, 127, 255, 511, 511, 511, 511, 8191, 511, 32767, 65535, 131071, 262143, 524287, 1048575, 524287, 4194303, 8388607, 16777215, 33554431, 33554431, 134217727, 33554431, 536870911, 1073741823, 2147483647, 4294967295]
theorem laws_FnValueDual.tab15 : rtab .any (opsOf Try.f8 15) = laws_FnValueDual.T15 := by kernel_rfl
theorem laws_FnValueDual.bits15 : waitsOk laws_FnValueDual.T15.2 laws_FnValueDual.B15 = true := by kernel_rfl
set_option maxHeartbeats 8000000 in
set_option maxRecDepth 100000 in
theorem laws_FnValueDual.calls (k : Nat) (A0 : Option Addr) (c0 : Nat) (l0 : List Int) (r : Bool) (w : World) (hr0 : Kd.C (Kd.int .u8) w A0 l0.length l0) (hc0 : l0.length ≤ c0) (h : laws_FnValueDual.f k l0 = some r) :
  Calls Try.prog 8 #[.slice A0 l0.length c0] w fun e w' => e = .returned (.bool r) ∧ Below w.heap.size w w' := by
 have hu25 := Try.underlying25; have HR0 := Az hr0; have HC0 := Az hc0; clear hr0 hc0; have HB := bZ w; have H := h; clear h; unfold laws_FnValueDual.f at H
 by_cases c2 : (l0.length : Int) > 1048576
 · rw [if_pos c2] at H; have c2b0 := decide_eq_true c2; have c2b1 : decide (1048576 < l0.length) = true := decide_eq_true (by omega); clear c2; obtain rfl := Option.some.inj H; go_enter Try.func8, Try.ntmps8; go_wp2; go_ret; exact ⟨rE, bU0 HB.out⟩
 ·
  rw [if_neg c2] at H; have c2b0 := decide_eq_false c2; have c2b1 : decide (1048576 < l0.length) = false := decide_eq_false (by omega); clear c2; replace H := bd H; obtain ⟨⟨t795, t798, t801, t802, t803⟩, A3, H⟩ := H; dsimp only at H; replace H := bd H; obtain ⟨t805, A4, H⟩ := H; replace H := bd H; obtain ⟨t806, A5, H⟩ := H; have HC6 := Az H; clear H; go_enter Try.func8, Try.ntmps8
  go_upto_region 6 with (first | ((with_reducible refine gK 36 rfl ?_); refine gC (some 20) Try.func36 #[.slice A0 l0.length c0] ?_; (with_reducible refine (spec_DrawRibbonValue.calls k _ _ l0 t795 t798 t801 t802 t803 _ ?_ ?_ A3.out).mono ?_); exact cU (HR0.out); exact HC0.out; rintro e w7 ⟨v796, v799, rfl, ho0, ho1, hb⟩; refine ⟨_, rfl, ?_⟩; have HO797 := Az (Kd.Q_lower ho0 (below_size (bU0 HB.out))); have HO800 := Az (Kd.R_lower ho1 (below_size (bU0 HB.out))); replace HB := Az (below_step (bU0 HB.out) hb); clear hb ho0 ho1) | ((with_reducible refine gd 3 rfl ?_); refine bE 3 #[.slice none 0 0, .slice none 0 0] 25 ?_; intro gb804 hg w8 hbox hb; replace HO797 := qB HO797.out hb; replace HO800 := rB HO800.out hb; have BK804 := Az (hbox); have GW804 := gW hg (bU0 HB.out); replace HB := Az (below_step (bU0 HB.out) hb); clear hb hbox hg; obtain ⟨Ao9, co9, eo9, _⟩ := Kd.Q_slice HO797.out; subst eo9; have hz10 := bc2 BK804.out; obtain ⟨Ao11, co11, eo11⟩ := Kd.R_slice HO800.out; subst eo11) | ((with_reducible refine gK 37 rfl ?_); refine gC (some 29) Try.func37 #[.agg #[.slice Ao9 t795.length co9, .slice Ao11 t798.length co11], .int .i64 t801, .int .i64 t802, .int .i64 t803] ?_; (with_reducible refine (impl_RibbonValue.calls k _ _ t795 _ _ t798 t801 t802 t803 t805 _ ?side1 ?side2 ?side3 ?side4 A4.out).mono ?_); (case side1 => refine (Kd.Q_reads' (e := 3) (base := w.heap.size) (ok := fun k_ => oS k_ Ao11 t798.length co11) (n := t795.length) (c := co9) ?_).2.2; exact (qW2 HO797.out BK804.out)); (case side2 => exact (Kd.Q_reads' HO797.out).2.1); (case side3 => refine (Kd.R_reads' (e := 3) (base := w.heap.size) (ok := fun k_ => oS k_ Ao9 t795.length co9) (n := t798.length) (c := co11) ?_).2.2; exact (rW2 HO800.out BK804.out)); (case side4 => exact (Kd.R_reads' HO800.out).2.1); rintro e w12 ⟨rfl, hb⟩; refine ⟨_, rfl, ?_⟩; replace HO797 := Az (Kd.Q_below (qW2 HO797.out BK804.out) hb); replace HO800 := Az (Kd.R_below (rW2 HO800.out BK804.out) hb); replace BK804 := Az (blk_below (g := gb804) (o := .cells #[.slice Ao9 t795.length co9, .slice Ao11 t798.length co11] 25 (0, 0)) (by (with_reducible repeat (first | refine blk_drewN ?_ _ | refine blk_drew ?_ | refine blk_alloc ?_ _)); refine blk_put (cs := #[.slice Ao9 t795.length co9, .slice none 0 0]) ?_ 1 _ rfl; (with_reducible repeat (first | refine blk_drewN ?_ _ | refine blk_drew ?_ | refine blk_alloc ?_ _)); refine blk_put (cs := #[.slice none 0 0, .slice none 0 0]) ?_ 0 _ rfl; (with_reducible repeat (first | refine blk_drewN ?_ _ | refine blk_drew ?_ | refine blk_alloc ?_ _)); exact BK804.out) hb); replace HB := Az z5_1; clear hb; have hz13 := bc2 BK804.out) | ((with_reducible refine gK 38 rfl ?_); refine gC (some 34) Try.func38 #[.agg #[.slice Ao9 t795.length co9, .slice Ao11 t798.length co11], .int .i64 t801, .int .i64 t802, .int .i64 t803] ?_; (with_reducible refine (spec_RibbonValue.calls k _ _ t795 _ _ t798 t801 t802 t803 t806 _ ?_ ?_ ?_ ?_ A5.out).mono ?_); exact cU ((Kd.Q_reads' HO797.out).2.2); exact (Kd.Q_reads' HO797.out).2.1; exact cU ((Kd.R_reads' HO800.out).2.2); exact (Kd.R_reads' HO800.out).2.1; rintro e w14 ⟨rfl, hb⟩; refine ⟨_, rfl, ?_⟩; replace HO797 := qB HO797.out hb; replace HO800 := rB HO800.out hb; replace BK804 := kB BK804.out hb; replace HB := Az z5_1; clear hb))
  go_cut [41] (fun v41 wc => ∃ (kq : Nat) (x41_5 : Bool), v41 = .bool x41_5 ∧ Aside0 (laws_FnValueDual.j0 kq t801 t802 t803 t805 t806 x41_5 t795 t798 = some r) ∧ Aside0 (kq ≤ k) ∧ Aside0 (Kd.Q (Kd.int .i64) 3 wc w.heap.size (fun k_ => some k_ ≠ ((.slice Ao11 t798.length co11) : Value).ownBlock) (.slice Ao9 t795.length co9) t795) ∧ Aside0 (Kd.R (Kd.int .i64) 3 wc w.heap.size (fun k_ => some k_ ≠ ((.slice Ao9 t795.length co9) : Value).ownBlock) (.slice Ao11 t798.length co11) t798) ∧ Aside0 (wc.heap[gb804]? = some (.cells #[(.slice Ao9 t795.length co9), (.slice Ao11 t798.length co11)] 25 (0, 0))) ∧ Aside0 (Below w.heap.size w wc))
  case first =>
   have H := HC6.out; clear HC6
   replace H := gQ H; rcases H with ⟨c15b0, c15b1, H⟩ | ⟨c15b0, c15b1, H⟩
   ·
    have H' := Az H; clear H; go_wp2; go_meet
    case rel => exact ⟨_, (decide (t805 < 0)), rS, H', ⟨mO⟩, ⟨qU HO797.out⟩, ⟨rU HO800.out⟩, ⟨kU BK804.out⟩, ⟨bU1 HB.out GW804.out⟩⟩
   ·
    have H' := Az H; clear H; go_wp2; go_meet
    case rel => exact ⟨_, (true), rS, H', ⟨mO⟩, ⟨qU HO797.out⟩, ⟨rU HO800.out⟩, ⟨kU BK804.out⟩, ⟨bU1 HB.out GW804.out⟩⟩
  case rest =>
   clear HC6; obtain ⟨kq, x41_5, rfl, HA, HJ5, HO_Z0, HO_Z1, BK804, HB⟩ := hcut
   rcases kq with _ | kj5
   exact (nN HA.out).elim; have H := HA.out; clear HA; simp only [laws_FnValueDual.j0] at H
   by_cases c16 : x41_5 = true
   · subst c16; rw [if_pos rfl] at H; obtain rfl := Option.some.inj H; go_wp2; go_ret; exact ⟨rE, bU1 HB.out GW804.out⟩
   ·
    replace c16 := Bool.eq_false_iff.mpr c16; subst c16; rw [if_neg nT] at H; replace H := bd H; obtain ⟨⟨t807, t810⟩, A17, H⟩ := H; dsimp only at H; replace H := bd H; obtain ⟨⟨t811, t814, t817⟩, A18, H⟩ := H; dsimp only at H; have H' := Az H; clear H; have hz19 := bc2 BK804.out
    go_wp2_with (first | ((with_reducible refine gK 19 rfl ?_); refine gC (some 47) Try.func19 #[.agg #[.slice Ao9 t795.length co9, .slice Ao11 t798.length co11]] ?_; (with_reducible refine (impl_MapCounts.calls kj5 _ _ t795 _ _ t798 t807 t810 _ ?_ ?_ ?_ ?_ A17.out).mono ?_); exact cU ((Kd.Q_reads' HO_Z0.out).2.2); exact (Kd.Q_reads' HO_Z0.out).2.1; exact cU ((Kd.R_reads' HO_Z1.out).2.2); exact (Kd.R_reads' HO_Z1.out).2.1; rintro e w20 ⟨v808, rfl, ho0, hb⟩; refine ⟨_, rfl, ?_⟩; have HO809 := Az (Kd.R_lower (Kd.R_new' (Kd.R_new' ho0 (Kd.Q_lt (qU HO_Z0.out))) (Kd.R_lt (rU HO_Z1.out))) (below_size (bU1 HB.out GW804.out))); replace HO_Z0 := Az (Kd.Q_elder' (qU HO_Z0.out) (Kd.R_base ho0) hb); replace HO_Z1 := Az (Kd.R_elder' (rU HO_Z1.out) (Kd.R_base ho0) hb); replace BK804 := kB BK804.out hb; replace HB := Az z5_1; clear hb ho0; have hz21 := bc2 BK804.out) | ((with_reducible refine gK 26 rfl ?_); refine gC (some 52) Try.func26 #[.agg #[.slice Ao9 t795.length co9, .slice Ao11 t798.length co11]] ?_; (with_reducible refine (impl_MapDual.calls kj5 _ _ t795 _ _ t798 t811 t814 t817 _ ?_ ?_ ?_ ?_ A18.out).mono ?_); exact cU ((Kd.Q_reads' HO_Z0.out).2.2); exact (Kd.Q_reads' HO_Z0.out).2.1; exact cU ((Kd.R_reads' HO_Z1.out).2.2); exact (Kd.R_reads' HO_Z1.out).2.1; rintro e w22 ⟨v812, v815, rfl, ho0, ho1, hb⟩; refine ⟨_, rfl, ?_⟩; have HO813 := Az (Kd.R_lower (Kd.R_new' (Kd.R_new' (Kd.R_new' ho0 (Kd.Q_lt (qU HO_Z0.out))) (Kd.R_lt (rU HO_Z1.out))) (Kd.R_lt (rU HO809.out))) (below_size (bU1 HB.out GW804.out))); have HO816 := Az (Kd.R_lower (Kd.R_new' (Kd.R_new' (Kd.R_new' ho1 (Kd.Q_lt (qU HO_Z0.out))) (Kd.R_lt (rU HO_Z1.out))) (Kd.R_lt (rU HO809.out))) (below_size (bU1 HB.out GW804.out))); replace HO_Z0 := Az (Kd.Q_mono (Kd.Q_told (Kd.Q_told (Kd.Q_old (qU HO_Z0.out) hb) (Kd.R_base ho0)) (Kd.R_base ho1)) (fun _ h_ => h_.1)); replace HO_Z1 := Az (Kd.R_mono (Kd.R_told (Kd.R_told (Kd.R_old (rU HO_Z1.out) hb) (Kd.R_base ho0)) (Kd.R_base ho1)) (fun _ h_ => h_.1)); replace HO809 := Az (Kd.R_mono (Kd.R_told (Kd.R_told (Kd.R_old (rU HO809.out) hb) (Kd.R_base ho0)) (Kd.R_base ho1)) (fun _ h_ => h_.1)); replace BK804 := kB BK804.out hb; replace HB := Az z5_1; clear hb ho0 ho1) | ((with_reducible refine gd 11 rfl ?_); refine bE 11 #[.slice none 0 0, .slice none 0 0] 25 ?_; intro gb818 hg w23 hbox hb; replace HO_Z0 := qB HO_Z0.out hb; replace HO_Z1 := rB HO_Z1.out hb; replace HO809 := rB HO809.out hb; replace HO813 := rB HO813.out hb; replace HO816 := rB HO816.out hb; have BK818 := Az (hbox); have GW818 := gW hg (bU1 HB.out GW804.out); replace HB := Az z5_1; have NB804_818 := nL hg (kU BK804.out); replace BK804 := kB BK804.out hb; clear hb hbox hg; obtain ⟨Ao24, co24, eo24⟩ := Kd.R_slice HO813.out; subst eo24; have hnb25 := nP NB804_818; have hz26 := bc2 BK818.out; obtain ⟨Ao27, co27, eo27⟩ := Kd.R_slice HO816.out; subst eo27))
    go_loopg [13, 14] kj5 (fun kq v13 v14 w' => ∃ (x13_2 : Int) (x14_2 : Int), v13 = .int .i64 x13_2 ∧ v14 = .int .i64 x14_2 ∧ Aside0 (laws_FnValueDual.l0 kq t801 t802 t803 t805 t807 t810 t817 x13_2 x14_2 t795 t798 t811 t814 = some r) ∧ Aside0 (kq ≤ kj5) ∧ Aside0 (Kd.R (Kd.int .i64) 3 w' w.heap.size (fun k_ => some k_ ≠ ((.slice Ao9 t795.length co9) : Value).ownBlock ∧ some k_ ≠ ((.slice Ao11 t798.length co11) : Value).ownBlock ∧ some k_ ≠ ((.slice Ao24 t811.length co24) : Value).ownBlock ∧ some k_ ≠ ((.slice Ao27 t814.length co27) : Value).ownBlock) v808 t807) ∧ Aside0 (Kd.Q (Kd.int .i64) 3 w' w.heap.size (fun k_ => oV k_ v808 ∧ some k_ ≠ ((.slice Ao11 t798.length co11) : Value).ownBlock ∧ some k_ ≠ ((.slice Ao24 t811.length co24) : Value).ownBlock ∧ some k_ ≠ ((.slice Ao27 t814.length co27) : Value).ownBlock) (.slice Ao9 t795.length co9) t795) ∧ Aside0 (Kd.R (Kd.int .i64) 3 w' w.heap.size (fun k_ => oV k_ v808 ∧ some k_ ≠ ((.slice Ao9 t795.length co9) : Value).ownBlock ∧ some k_ ≠ ((.slice Ao24 t811.length co24) : Value).ownBlock ∧ some k_ ≠ ((.slice Ao27 t814.length co27) : Value).ownBlock) (.slice Ao11 t798.length co11) t798) ∧ Aside0 (Kd.Q (Kd.int .i64) 3 w' w.heap.size (fun k_ => oV k_ v808 ∧ some k_ ≠ ((.slice Ao9 t795.length co9) : Value).ownBlock ∧ some k_ ≠ ((.slice Ao11 t798.length co11) : Value).ownBlock ∧ some k_ ≠ ((.slice Ao27 t814.length co27) : Value).ownBlock) (.slice Ao24 t811.length co24) t811) ∧ Aside0 (Kd.R (Kd.int .i64) 3 w' w.heap.size (fun k_ => oV k_ v808 ∧ some k_ ≠ ((.slice Ao9 t795.length co9) : Value).ownBlock ∧ some k_ ≠ ((.slice Ao11 t798.length co11) : Value).ownBlock ∧ some k_ ≠ ((.slice Ao24 t811.length co24) : Value).ownBlock) (.slice Ao27 t814.length co27) t814) ∧ Aside0 (w'.heap[gb804]? = some (.cells #[(.slice Ao9 t795.length co9), (.slice Ao11 t798.length co11)] 25 (0, 0))) ∧ Aside0 (w'.heap[gb818]? = some (.cells #[(.slice Ao24 t811.length co24), (.slice Ao27 t814.length co27)] 25 (0, 0))) ∧ Aside0 (Below w.heap.size w w'))
    case atStart => exact ⟨(1), (0), rS, rS, H', ⟨Nat.le_refl _⟩, ⟨rM (Kd.R_far (p := ⟨gb818, 1, none⟩) (Kd.R_far (p := ⟨gb818, 0, none⟩) (Kd.R_types HO809.out BK818.out (by decide)) (fun _ hk => hk.2) (.slice Ao24 t811.length co24)) (fun _ hk => hk.2) (.slice Ao27 t814.length co27))⟩, ⟨qM (Kd.Q_far (p := ⟨gb818, 1, none⟩) (Kd.Q_far (p := ⟨gb818, 0, none⟩) (Kd.Q_types HO_Z0.out BK818.out (by decide)) (fun _ hk => hk.2) (.slice Ao24 t811.length co24)) (fun _ hk => hk.2) (.slice Ao27 t814.length co27))⟩, ⟨rM (Kd.R_far (p := ⟨gb818, 1, none⟩) (Kd.R_far (p := ⟨gb818, 0, none⟩) (Kd.R_types HO_Z1.out BK818.out (by decide)) (fun _ hk => hk.2) (.slice Ao24 t811.length co24)) (fun _ hk => hk.2) (.slice Ao27 t814.length co27))⟩, ⟨Kd.Q_of_R (rM (Kd.R_far (p := ⟨gb818, 1, none⟩) (Kd.R_far (p := ⟨gb818, 0, none⟩) (Kd.R_types HO813.out BK818.out (by decide)) (fun _ hk => hk.2) (.slice Ao24 t811.length co24)) (fun _ hk => hk.2) (.slice Ao27 t814.length co27)))⟩, ⟨rM (Kd.R_far (p := ⟨gb818, 1, none⟩) (Kd.R_far (p := ⟨gb818, 0, none⟩) (Kd.R_types HO816.out BK818.out (by decide)) (fun _ hk => hk.2) (.slice Ao24 t811.length co24)) (fun _ hk => hk.2) (.slice Ao27 t814.length co27))⟩, ⟨by (with_reducible repeat (first | refine blk_drewN ?_ _ | refine blk_drew ?_ | refine blk_alloc ?_ _)); refine blk_far ?_ NB804_818.out _; (with_reducible repeat (first | refine blk_drewN ?_ _ | refine blk_drew ?_ | refine blk_alloc ?_ _)); refine blk_far ?_ NB804_818.out _; (with_reducible repeat (first | refine blk_drewN ?_ _ | refine blk_drew ?_ | refine blk_alloc ?_ _)); exact BK804.out⟩, ⟨by (with_reducible repeat (first | refine blk_drewN ?_ _ | refine blk_drew ?_ | refine blk_alloc ?_ _)); refine blk_put (cs := #[.slice Ao24 t811.length co24, .slice none 0 0]) ?_ 1 _ rfl; (with_reducible repeat (first | refine blk_drewN ?_ _ | refine blk_drew ?_ | refine blk_alloc ?_ _)); refine blk_put (cs := #[.slice none 0 0, .slice none 0 0]) ?_ 0 _ rfl; (with_reducible repeat (first | refine blk_drewN ?_ _ | refine blk_drew ?_ | refine blk_alloc ?_ _)); exact BK818.out⟩, ⟨bU2 HB.out GW804.out GW818.out⟩⟩
    case round =>
     clear H'; obtain ⟨x13_2, x14_2, rfl, rfl, HA, HK2, HO_9, HO_Z0, HO_Z1, HO_Z2, HO_Z3, BK804, BK818, HB⟩ := hrel
     rcases gk with _ | k2
     exact (nN HA.out).elim; have H := HA.out; clear HA; simp only [laws_FnValueDual.l0] at H; replace H := gP H; obtain ⟨c28, H⟩ := H; have c28b0 := decide_eq_true c28; have c28b1 : decide (1 < t807.length) = true := decide_eq_true (by omega); clear c28
     replace H := gB H; rcases H with ⟨c29b0, H⟩ | ⟨c29b0, H⟩
     ·
      have H' := Az H; clear H; obtain ⟨Ao30, co30, eo30⟩ := Kd.R_slice HO_9.out; subst eo30; have p819 : 0 ≤ (1 : Int) := (by omega); have q819 : 1 < (t807.length : Int) := oA; obtain ⟨ad819, e819, hx819_0⟩ := Kd.at_int (Kd.R_reads' HO_9.out).2.2 1 p819 q819
      cases e819
      simp only [show (1 : Int).toNat = 1 from rfl, Nat.reduceMul, Nat.reduceEqDiff, Go.Addr.add, ↓reduceIte] at hx819_0; have qi819 : (1 < t807.length) = True := eq_true (by omega); replace p819 := eq_true p819; replace q819 := eq_true q819; go_wp2; go_roundg k2
      case measure => have := HJ5.out; have := HK2.out; omega
      case rel => exact ⟨(wrap64 (2 * x13_2)), (wrap64 (x14_2 + 1)), rS, rS, H', ⟨by have := HJ5.out; have := HK2.out; omega⟩, ⟨rU HO_9.out⟩, ⟨qU HO_Z0.out⟩, ⟨rU HO_Z1.out⟩, ⟨qU HO_Z2.out⟩, ⟨rU HO_Z3.out⟩, ⟨kU BK804.out⟩, ⟨kU BK818.out⟩, ⟨bU2 HB.out GW804.out GW818.out⟩⟩
     ·
      by_cases c31 : t810 = true
      ·
       subst c31; rw [if_pos rfl] at H
       by_cases c32 : t817 = true
       ·
        subst c32; rw [if_pos rfl] at H; replace H := bd H; obtain ⟨t820, A33, H⟩ := H
        replace H := gB H; rcases H with ⟨c34b0, H⟩ | ⟨c34b0, H⟩
        ·
         replace H := bd H; obtain ⟨t821, A35, H⟩ := H
         replace H := gQ H; rcases H with ⟨c36b0, c36b1, H⟩ | ⟨c36b0, c36b1, H⟩
         ·
          replace H := bd H; obtain ⟨t822, A37, H⟩ := H; replace H := bd H; obtain ⟨t823, A38, H⟩ := H; obtain rfl := Option.some.inj H; obtain ⟨Ao39, co39, eo39⟩ := Kd.R_slice HO_9.out; subst eo39; have p819 : 0 ≤ (1 : Int) := (by omega); have q819 : 1 < (t807.length : Int) := oA; obtain ⟨ad819, e819, hx819_0⟩ := Kd.at_int (Kd.R_reads' HO_9.out).2.2 1 p819 q819
          cases e819
          simp only [show (1 : Int).toNat = 1 from rfl, Nat.reduceMul, Nat.reduceEqDiff, Go.Addr.add, ↓reduceIte] at hx819_0; have qi819 : (1 < t807.length) = True := eq_true (by omega); replace p819 := eq_true p819; replace q819 := eq_true q819
          try go_wp2
          replace HO_9 := Az (Kd.R_drew HO_9.out); replace HO_Z0 := Az (Kd.Q_drew HO_Z0.out); replace HO_Z1 := Az (Kd.R_drew HO_Z1.out); replace HO_Z2 := Az (Kd.Q_drew HO_Z2.out); replace HO_Z3 := Az (Kd.R_drew HO_Z3.out); replace BK804 := Az (blk_drew BK804.out); replace BK818 := Az (blk_drew BK818.out); replace HB := Az (below_drew1 HB.out); refine start_ (n := 33) (S := fun w' => w'.cell? ⟨gb804, 0, none⟩ = some (.slice Ao9 t795.length co9) ∧ w'.cell? ⟨gb804, 1, none⟩ = some (.slice Ao11 t798.length co11)) (ds := []) (laws_FnValueDual_up [(0, some 64), (1, some 65), (2, some 66), (3, some 67), (4, some 68), (5, some 69), (6, some 70), (7, some 71), (8, some 72), (9, some 73), (10, some 74), (11, some 75), (12, some 76), (13, some 77), (14, some 78), (15, some 79), (16, some 80), (17, some 81), (18, some 82), (21, some 85), (19, some 83), (20, some 84), (22, some 86), (23, some 87), (24, some 88), (26, some 90), (25, some 89), (28, some 92), (27, some 91), (29, some 93), (30, some 94), (31, some 95), (32, some 2)] 33) (by kernel_rfl) rfl rfl ⟨(blk_cell BK804.out 0).trans rfl, (blk_cell BK804.out 1).trans rfl⟩ (fun hHeld => ?_); refine with_tabW laws_FnValueDual.tab15 laws_FnValueDual.bits15 (fun HT_ HW_ => ?_); generalize wr.drew = w40 at HO_9 HO_Z0 HO_Z1 HO_Z2 HO_Z3 BK804 BK818 HB hHeld ⊢
          repeat (first | (refine laws_FnValueDual_uP rfl rfl (any_of HT_.out (by kernel_rfl)) (fun _ _ _ h => h) (by rfl) (v := ?_) (a' := ?_) ?_ ?_ ?_; rotate_left; (· intro w'; go_simp; with_reducible rfl); rotate_left; (· exact aP)) | (refine laws_FnValueDual_uT rfl rfl (take_ofW HT_.out HW_.out (by kernel_rfl)) (fun _ _ _ h => h) (by rfl) (v := ?_) (a' := ?_) ?_ hHeld ?_ ?_; rotate_left; (· rintro w' ⟨s0, s1⟩; go_simp; with_reducible rfl); rotate_left; (· exact aP)))
          refine laws_FnValueDual_uO rfl rfl (one_of HT_.out (by kernel_rfl)) (by decide) (fun K hK => ?_); refine goes_ Try.func22 (by kernel_rfl) rfl #[.agg #[.slice Ao9 t795.length co9, .slice Ao11 t798.length co11]] (by rfl) rfl rfl lQ ?_
          with_reducible refine (impl_MapGenus.calls k2 _ _ t795 _ _ t798 t820 _ ?side1 ?side2 ?side3 ?side4 A33.out).mono ?_
          (case side1 => exact cU ((Kd.Q_reads' HO_Z0.out).2.2))
          (case side2 => exact (Kd.Q_reads' HO_Z0.out).2.1)
          (case side3 => exact cU ((Kd.R_reads' HO_Z1.out).2.2))
          (case side4 => exact (Kd.R_reads' HO_Z1.out).2.1)
          rintro e w41 ⟨rfl, hb⟩; refine ⟨_, rfl, ?_⟩; replace HO_9 := rB HO_9.out hb; replace HO_Z0 := qB HO_Z0.out hb; replace HO_Z1 := rB HO_Z1.out hb; replace HO_Z2 := qB HO_Z2.out hb; replace HO_Z3 := rB HO_Z3.out hb; replace BK804 := kB BK804.out hb; replace BK818 := kB BK818.out hb; replace HB := Az z5_0; clear hb; refine hK.out _ _ ⟨(blk_cell BK804.out 0).trans rfl, (blk_cell BK804.out 1).trans rfl⟩ (fun hHeld => ?_); clear hK K; refine norm_ (a' := ?_) ?_ ?_; rotate_left
          ·
           show Act.put _ (some 70) _ = _
           simp only [Act.put, List.setIfInBounds_toArray, List.set_cons_zero, List.set_cons_succ, i64_w, i32_w]; rfl
          repeat (first | (refine laws_FnValueDual_uS rfl rfl (any_of HT_.out (by kernel_rfl)) (fun _ _ _ h => h) (by rfl) (a' := ?_) ?_ ?_; rotate_left; (· exact aP)) | (refine laws_FnValueDual_uP rfl rfl (any_of HT_.out (by kernel_rfl)) (fun _ _ _ h => h) (by rfl) (v := ?_) (a' := ?_) ?_ ?_ ?_; rotate_left; (· intro w'; go_simp; with_reducible rfl); rotate_left; (· exact aP)) | (refine laws_FnValueDual_uT rfl rfl (take_ofW HT_.out HW_.out (by kernel_rfl)) (fun _ _ _ h => h) (by rfl) (v := ?_) (a' := ?_) ?_ hHeld ?_ ?_; rotate_left; (· rintro w' ⟨s0, s1⟩; go_simp; with_reducible rfl); rotate_left; (· exact aP)))
          refine laws_FnValueDual_uO rfl rfl (one_of HT_.out (by kernel_rfl)) (by decide) (fun K hK => ?_); refine goes_ Try.func37 (by kernel_rfl) rfl #[.agg #[.slice Ao9 t795.length co9, .slice Ao11 t798.length co11], .int .i64 1, .int .i64 1, .int .i64 1] (by rfl) rfl rfl lQ ?_
          with_reducible refine (impl_RibbonValue.calls k2 _ _ t795 _ _ t798 1 1 1 t821 _ ?side1 ?side2 ?side3 ?side4 A35.out).mono ?_
          (case side1 => exact cU ((Kd.Q_reads' HO_Z0.out).2.2))
          (case side2 => exact (Kd.Q_reads' HO_Z0.out).2.1)
          (case side3 => exact cU ((Kd.R_reads' HO_Z1.out).2.2))
          (case side4 => exact (Kd.R_reads' HO_Z1.out).2.1)
          rintro e w42 ⟨rfl, hb⟩; refine ⟨_, rfl, ?_⟩; replace HO_9 := rB HO_9.out hb; replace HO_Z0 := qB HO_Z0.out hb; replace HO_Z1 := rB HO_Z1.out hb; replace HO_Z2 := qB HO_Z2.out hb; replace HO_Z3 := rB HO_Z3.out hb; replace BK804 := kB BK804.out hb; replace BK818 := kB BK818.out hb; replace HB := Az z5_0; clear hb; refine hK.out _ _ ⟨(blk_cell BK804.out 0).trans rfl, (blk_cell BK804.out 1).trans rfl⟩ (fun hHeld => ?_); clear hK K; refine norm_ (a' := ?_) ?_ ?_; rotate_left
          ·
           show Act.put _ (some 84) _ = _
           simp only [Act.put, List.setIfInBounds_toArray, List.set_cons_zero, List.set_cons_succ, i64_w, i32_w]; rfl
          repeat (first | (refine laws_FnValueDual_uP rfl rfl (any_of HT_.out (by kernel_rfl)) (fun _ _ _ h => h) (by rfl) (v := ?_) (a' := ?_) ?_ ?_ ?_; rotate_left; (· intro w'; go_simp; with_reducible rfl); rotate_left; (· exact aP)) | (refine laws_FnValueDual_uT rfl rfl (take_ofW HT_.out HW_.out (by kernel_rfl)) (fun _ _ _ h => h) (by rfl) (v := ?_) (a' := ?_) ?_ hHeld ?_ ?_; rotate_left; (· rintro w' ⟨s0, s1⟩; go_simp; with_reducible rfl); rotate_left; (· exact aP)))
          refine laws_FnValueDual_uO rfl rfl (one_of HT_.out (by kernel_rfl)) (by decide) (fun K hK => ?_); refine goes_ Try.func37 (by kernel_rfl) rfl #[.agg #[.slice Ao9 t795.length co9, .slice Ao11 t798.length co11], .int .i64 0, .int .i64 0, .int .i64 t803] (by rfl) rfl rfl lQ ?_
          with_reducible refine (impl_RibbonValue.calls k2 _ _ t795 _ _ t798 0 0 t803 t822 _ ?side1 ?side2 ?side3 ?side4 A37.out).mono ?_
          (case side1 => exact cU ((Kd.Q_reads' HO_Z0.out).2.2))
          (case side2 => exact (Kd.Q_reads' HO_Z0.out).2.1)
          (case side3 => exact cU ((Kd.R_reads' HO_Z1.out).2.2))
          (case side4 => exact (Kd.R_reads' HO_Z1.out).2.1)
          rintro e w43 ⟨rfl, hb⟩; refine ⟨_, rfl, ?_⟩; replace HO_9 := rB HO_9.out hb; replace HO_Z0 := qB HO_Z0.out hb; replace HO_Z1 := rB HO_Z1.out hb; replace HO_Z2 := qB HO_Z2.out hb; replace HO_Z3 := rB HO_Z3.out hb; replace BK804 := kB BK804.out hb; replace BK818 := kB BK818.out hb; replace HB := Az z5_0; clear hb; refine hK.out _ _ ⟨(blk_cell BK804.out 0).trans rfl, (blk_cell BK804.out 1).trans rfl⟩ (fun hHeld => ?_); clear hK K; refine norm_ (a' := ?_) ?_ ?_; rotate_left
          ·
           show Act.put _ (some 91) _ = _
           simp only [Act.put, List.setIfInBounds_toArray, List.set_cons_zero, List.set_cons_succ, i64_w, i32_w]; rfl
          refine laws_FnValueDual_uO rfl rfl (one_of HT_.out (by kernel_rfl)) (by decide) (fun K hK => ?_); refine goes_ Try.func39 (by kernel_rfl) rfl #[.agg #[.slice Ao9 t795.length co9, .slice Ao11 t798.length co11]] (by rfl) rfl rfl lQ ?_
          with_reducible refine (impl_RibbonTrees.calls k2 _ _ t795 _ _ t798 t823 _ ?side1 ?side2 ?side3 ?side4 A38.out).mono ?_
          (case side1 => exact cU ((Kd.Q_reads' HO_Z0.out).2.2))
          (case side2 => exact (Kd.Q_reads' HO_Z0.out).2.1)
          (case side3 => exact cU ((Kd.R_reads' HO_Z1.out).2.2))
          (case side4 => exact (Kd.R_reads' HO_Z1.out).2.1)
          rintro e w44 ⟨rfl, hb⟩; refine ⟨_, rfl, ?_⟩; replace HO_9 := rB HO_9.out hb; replace HO_Z0 := qB HO_Z0.out hb; replace HO_Z1 := rB HO_Z1.out hb; replace HO_Z2 := qB HO_Z2.out hb; replace HO_Z3 := rB HO_Z3.out hb; replace BK804 := kB BK804.out hb; replace BK818 := kB BK818.out hb; replace HB := Az z5_0; clear hb; refine hK.out _ _ ⟨(blk_cell BK804.out 0).trans rfl, (blk_cell BK804.out 1).trans rfl⟩ (fun hHeld => ?_); clear hK K; refine norm_ (a' := ?_) ?_ ?_; rotate_left
          ·
           show Act.put _ (some 93) _ = _
           simp only [Act.put, List.setIfInBounds_toArray, List.set_cons_zero, List.set_cons_succ, i64_w, i32_w]; rfl
          repeat (first | (refine laws_FnValueDual_uP rfl rfl (any_of HT_.out (by kernel_rfl)) (fun _ _ _ h => h) (by rfl) (v := ?_) (a' := ?_) ?_ ?_ ?_; rotate_left; (· intro w'; go_simp; with_reducible rfl); rotate_left; (· exact aP)))
          refine done_ (done_of HT_.out (by kernel_rfl)) ?_
          try go_wp2
          go_ret; exact ⟨rE, bU2 HB.out GW804.out GW818.out⟩
         ·
          obtain rfl := Option.some.inj H; obtain ⟨Ao45, co45, eo45⟩ := Kd.R_slice HO_9.out; subst eo45; have p819 : 0 ≤ (1 : Int) := (by omega); have q819 : 1 < (t807.length : Int) := oA; obtain ⟨ad819, e819, hx819_0⟩ := Kd.at_int (Kd.R_reads' HO_9.out).2.2 1 p819 q819
          cases e819
          simp only [show (1 : Int).toNat = 1 from rfl, Nat.reduceMul, Nat.reduceEqDiff, Go.Addr.add, ↓reduceIte] at hx819_0; have qi819 : (1 < t807.length) = True := eq_true (by omega); replace p819 := eq_true p819; replace q819 := eq_true q819
          try go_wp2
          replace HO_9 := Az (Kd.R_drew HO_9.out); replace HO_Z0 := Az (Kd.Q_drew HO_Z0.out); replace HO_Z1 := Az (Kd.R_drew HO_Z1.out); replace HO_Z2 := Az (Kd.Q_drew HO_Z2.out); replace HO_Z3 := Az (Kd.R_drew HO_Z3.out); replace BK804 := Az (blk_drew BK804.out); replace BK818 := Az (blk_drew BK818.out); replace HB := Az (below_drew1 HB.out); refine start_ (n := 33) (S := fun w' => w'.cell? ⟨gb804, 0, none⟩ = some (.slice Ao9 t795.length co9) ∧ w'.cell? ⟨gb804, 1, none⟩ = some (.slice Ao11 t798.length co11)) (ds := []) (laws_FnValueDual_up [(0, some 64), (1, some 65), (2, some 66), (3, some 67), (4, some 68), (5, some 69), (6, some 70), (7, some 71), (8, some 72), (9, some 73), (10, some 74), (11, some 75), (12, some 76), (13, some 77), (14, some 78), (15, some 79), (16, some 80), (17, some 81), (18, some 82), (21, some 85), (19, some 83), (20, some 84), (22, some 86), (23, some 87), (24, some 88), (25, some 89), (26, some 90), (27, some 91), (28, some 92), (29, some 93), (30, some 94), (31, some 95), (32, some 2)] 33) (by kernel_rfl) rfl rfl ⟨(blk_cell BK804.out 0).trans rfl, (blk_cell BK804.out 1).trans rfl⟩ (fun hHeld => ?_); refine with_tabW laws_FnValueDual.tab15 laws_FnValueDual.bits15 (fun HT_ HW_ => ?_); generalize wr.drew = w46 at HO_9 HO_Z0 HO_Z1 HO_Z2 HO_Z3 BK804 BK818 HB hHeld ⊢
          repeat (first | (refine laws_FnValueDual_uP rfl rfl (any_of HT_.out (by kernel_rfl)) (fun _ _ _ h => h) (by rfl) (v := ?_) (a' := ?_) ?_ ?_ ?_; rotate_left; (· intro w'; go_simp; with_reducible rfl); rotate_left; (· exact aP)) | (refine laws_FnValueDual_uT rfl rfl (take_ofW HT_.out HW_.out (by kernel_rfl)) (fun _ _ _ h => h) (by rfl) (v := ?_) (a' := ?_) ?_ hHeld ?_ ?_; rotate_left; (· rintro w' ⟨s0, s1⟩; go_simp; with_reducible rfl); rotate_left; (· exact aP)))
          refine laws_FnValueDual_uO rfl rfl (one_of HT_.out (by kernel_rfl)) (by decide) (fun K hK => ?_); refine goes_ Try.func22 (by kernel_rfl) rfl #[.agg #[.slice Ao9 t795.length co9, .slice Ao11 t798.length co11]] (by rfl) rfl rfl lQ ?_
          with_reducible refine (impl_MapGenus.calls k2 _ _ t795 _ _ t798 t820 _ ?side1 ?side2 ?side3 ?side4 A33.out).mono ?_
          (case side1 => exact cU ((Kd.Q_reads' HO_Z0.out).2.2))
          (case side2 => exact (Kd.Q_reads' HO_Z0.out).2.1)
          (case side3 => exact cU ((Kd.R_reads' HO_Z1.out).2.2))
          (case side4 => exact (Kd.R_reads' HO_Z1.out).2.1)
          rintro e w47 ⟨rfl, hb⟩; refine ⟨_, rfl, ?_⟩; replace HO_9 := rB HO_9.out hb; replace HO_Z0 := qB HO_Z0.out hb; replace HO_Z1 := rB HO_Z1.out hb; replace HO_Z2 := qB HO_Z2.out hb; replace HO_Z3 := rB HO_Z3.out hb; replace BK804 := kB BK804.out hb; replace BK818 := kB BK818.out hb; replace HB := Az z5_0; clear hb; refine hK.out _ _ ⟨(blk_cell BK804.out 0).trans rfl, (blk_cell BK804.out 1).trans rfl⟩ (fun hHeld => ?_); clear hK K; refine norm_ (a' := ?_) ?_ ?_; rotate_left
          ·
           show Act.put _ (some 70) _ = _
           simp only [Act.put, List.setIfInBounds_toArray, List.set_cons_zero, List.set_cons_succ, i64_w, i32_w]; rfl
          repeat (first | (refine laws_FnValueDual_uS rfl rfl (any_of HT_.out (by kernel_rfl)) (fun _ _ _ h => h) (by rfl) (a' := ?_) ?_ ?_; rotate_left; (· exact aP)) | (refine laws_FnValueDual_uP rfl rfl (any_of HT_.out (by kernel_rfl)) (fun _ _ _ h => h) (by rfl) (v := ?_) (a' := ?_) ?_ ?_ ?_; rotate_left; (· intro w'; go_simp; with_reducible rfl); rotate_left; (· exact aP)) | (refine laws_FnValueDual_uT rfl rfl (take_ofW HT_.out HW_.out (by kernel_rfl)) (fun _ _ _ h => h) (by rfl) (v := ?_) (a' := ?_) ?_ hHeld ?_ ?_; rotate_left; (· rintro w' ⟨s0, s1⟩; go_simp; with_reducible rfl); rotate_left; (· exact aP)))
          refine laws_FnValueDual_uO rfl rfl (one_of HT_.out (by kernel_rfl)) (by decide) (fun K hK => ?_); refine goes_ Try.func37 (by kernel_rfl) rfl #[.agg #[.slice Ao9 t795.length co9, .slice Ao11 t798.length co11], .int .i64 1, .int .i64 1, .int .i64 1] (by rfl) rfl rfl lQ ?_
          with_reducible refine (impl_RibbonValue.calls k2 _ _ t795 _ _ t798 1 1 1 t821 _ ?side1 ?side2 ?side3 ?side4 A35.out).mono ?_
          (case side1 => exact cU ((Kd.Q_reads' HO_Z0.out).2.2))
          (case side2 => exact (Kd.Q_reads' HO_Z0.out).2.1)
          (case side3 => exact cU ((Kd.R_reads' HO_Z1.out).2.2))
          (case side4 => exact (Kd.R_reads' HO_Z1.out).2.1)
          rintro e w48 ⟨rfl, hb⟩; refine ⟨_, rfl, ?_⟩; replace HO_9 := rB HO_9.out hb; replace HO_Z0 := qB HO_Z0.out hb; replace HO_Z1 := rB HO_Z1.out hb; replace HO_Z2 := qB HO_Z2.out hb; replace HO_Z3 := rB HO_Z3.out hb; replace BK804 := kB BK804.out hb; replace BK818 := kB BK818.out hb; replace HB := Az z5_0; clear hb; refine hK.out _ _ ⟨(blk_cell BK804.out 0).trans rfl, (blk_cell BK804.out 1).trans rfl⟩ (fun hHeld => ?_); clear hK K; refine norm_ (a' := ?_) ?_ ?_; rotate_left
          ·
           show Act.put _ (some 84) _ = _
           simp only [Act.put, List.setIfInBounds_toArray, List.set_cons_zero, List.set_cons_succ, i64_w, i32_w]; rfl
          repeat (first | (refine laws_FnValueDual_uS rfl rfl (any_of HT_.out (by kernel_rfl)) (fun _ _ _ h => h) (by rfl) (a' := ?_) ?_ ?_; rotate_left; (· exact aP)) | (refine laws_FnValueDual_uP rfl rfl (any_of HT_.out (by kernel_rfl)) (fun _ _ _ h => h) (by rfl) (v := ?_) (a' := ?_) ?_ ?_ ?_; rotate_left; (· intro w'; go_simp; with_reducible rfl); rotate_left; (· exact aP)))
          refine done_ (done_of HT_.out (by kernel_rfl)) ?_
          try go_wp2
          go_ret; exact ⟨rE, bU2 HB.out GW804.out GW818.out⟩
        ·
         replace H := bd H; obtain ⟨t824, A49, H⟩ := H
         replace H := gQ H; rcases H with ⟨c50b0, c50b1, H⟩ | ⟨c50b0, c50b1, H⟩
         ·
          replace H := bd H; obtain ⟨t825, A51, H⟩ := H
          replace H := gQ H; rcases H with ⟨c52b0, c52b1, H⟩ | ⟨c52b0, c52b1, H⟩
          ·
           replace H := bd H; obtain ⟨t826, A53, H⟩ := H; replace H := bd H; obtain ⟨t827, A54, H⟩ := H; obtain rfl := Option.some.inj H; obtain ⟨Ao55, co55, eo55⟩ := Kd.R_slice HO_9.out; subst eo55; have p819 : 0 ≤ (1 : Int) := (by omega); have q819 : 1 < (t807.length : Int) := oA; obtain ⟨ad819, e819, hx819_0⟩ := Kd.at_int (Kd.R_reads' HO_9.out).2.2 1 p819 q819
           cases e819
           simp only [show (1 : Int).toNat = 1 from rfl, Nat.reduceMul, Nat.reduceEqDiff, Go.Addr.add, ↓reduceIte] at hx819_0; have qi819 : (1 < t807.length) = True := eq_true (by omega); replace p819 := eq_true p819; replace q819 := eq_true q819
           try go_wp2
           replace HO_9 := Az (Kd.R_drew HO_9.out); replace HO_Z0 := Az (Kd.Q_drew HO_Z0.out); replace HO_Z1 := Az (Kd.R_drew HO_Z1.out); replace HO_Z2 := Az (Kd.Q_drew HO_Z2.out); replace HO_Z3 := Az (Kd.R_drew HO_Z3.out); replace BK804 := Az (blk_drew BK804.out); replace BK818 := Az (blk_drew BK818.out); replace HB := Az (below_drew1 HB.out); refine start_ (n := 33) (S := fun w' => w'.cell? ⟨gb804, 0, none⟩ = some (.slice Ao9 t795.length co9) ∧ w'.cell? ⟨gb804, 1, none⟩ = some (.slice Ao11 t798.length co11) ∧ w'.cell? ⟨gb818, 0, none⟩ = some (.slice Ao24 t811.length co24) ∧ w'.cell? ⟨gb818, 1, none⟩ = some (.slice Ao27 t814.length co27)) (ds := []) (laws_FnValueDual_up [(0, some 64), (1, some 65), (2, some 66), (3, some 67), (4, some 68), (5, some 69), (6, some 70), (7, some 71), (8, some 72), (10, some 74), (11, some 75), (12, some 76), (14, some 78), (9, some 73), (13, some 77), (15, some 79), (16, some 80), (17, some 81), (18, some 82), (21, some 85), (19, some 83), (20, some 84), (22, some 86), (23, some 87), (24, some 88), (26, some 90), (25, some 89), (28, some 92), (27, some 91), (29, some 93), (30, some 94), (31, some 95), (32, some 2)] 33) (by kernel_rfl) rfl rfl ⟨(blk_cell BK804.out 0).trans rfl, (blk_cell BK804.out 1).trans rfl, (blk_cell BK818.out 0).trans rfl, (blk_cell BK818.out 1).trans rfl⟩ (fun hHeld => ?_); refine with_tabW laws_FnValueDual.tab15 laws_FnValueDual.bits15 (fun HT_ HW_ => ?_); generalize wr.drew = w56 at HO_9 HO_Z0 HO_Z1 HO_Z2 HO_Z3 BK804 BK818 HB hHeld ⊢
           repeat (first | (refine laws_FnValueDual_uP rfl rfl (any_of HT_.out (by kernel_rfl)) (fun _ _ _ h => h) (by rfl) (v := ?_) (a' := ?_) ?_ ?_ ?_; rotate_left; (· intro w'; go_simp; with_reducible rfl); rotate_left; (· exact aP)) | (refine laws_FnValueDual_uT rfl rfl (take_ofW HT_.out HW_.out (by kernel_rfl)) (fun _ _ _ h => h) (by rfl) (v := ?_) (a' := ?_) ?_ hHeld ?_ ?_; rotate_left; (· rintro w' ⟨s0, s1, s2, s3⟩; go_simp; with_reducible rfl); rotate_left; (· exact aP)))
           refine laws_FnValueDual_uO rfl rfl (one_of HT_.out (by kernel_rfl)) (by decide) (fun K hK => ?_); refine goes_ Try.func22 (by kernel_rfl) rfl #[.agg #[.slice Ao9 t795.length co9, .slice Ao11 t798.length co11]] (by rfl) rfl rfl lQ ?_
           with_reducible refine (impl_MapGenus.calls k2 _ _ t795 _ _ t798 t820 _ ?side1 ?side2 ?side3 ?side4 A33.out).mono ?_
           (case side1 => exact cU ((Kd.Q_reads' HO_Z0.out).2.2))
           (case side2 => exact (Kd.Q_reads' HO_Z0.out).2.1)
           (case side3 => exact cU ((Kd.R_reads' HO_Z1.out).2.2))
           (case side4 => exact (Kd.R_reads' HO_Z1.out).2.1)
           rintro e w57 ⟨rfl, hb⟩; refine ⟨_, rfl, ?_⟩; replace HO_9 := rB HO_9.out hb; replace HO_Z0 := qB HO_Z0.out hb; replace HO_Z1 := rB HO_Z1.out hb; replace HO_Z2 := qB HO_Z2.out hb; replace HO_Z3 := rB HO_Z3.out hb; replace BK804 := kB BK804.out hb; replace BK818 := kB BK818.out hb; replace HB := Az z5_0; clear hb; refine hK.out _ _ ⟨(blk_cell BK804.out 0).trans rfl, (blk_cell BK804.out 1).trans rfl, (blk_cell BK818.out 0).trans rfl, (blk_cell BK818.out 1).trans rfl⟩ (fun hHeld => ?_); clear hK K; refine norm_ (a' := ?_) ?_ ?_; rotate_left
           ·
            show Act.put _ (some 70) _ = _
            simp only [Act.put, List.setIfInBounds_toArray, List.set_cons_zero, List.set_cons_succ, i64_w, i32_w]; rfl
           repeat (first | (refine laws_FnValueDual_uP rfl rfl (any_of HT_.out (by kernel_rfl)) (fun _ _ _ h => h) (by rfl) (v := ?_) (a' := ?_) ?_ ?_ ?_; rotate_left; (· intro w'; go_simp; with_reducible rfl); rotate_left; (· exact aP)) | (refine laws_FnValueDual_uT rfl rfl (take_ofW HT_.out HW_.out (by kernel_rfl)) (fun _ _ _ h => h) (by rfl) (v := ?_) (a' := ?_) ?_ hHeld ?_ ?_; rotate_left; (· rintro w' ⟨s0, s1, s2, s3⟩; go_simp; with_reducible rfl); rotate_left; (· exact aP)))
           refine laws_FnValueDual_uO rfl rfl (one_of HT_.out (by kernel_rfl)) (by decide) (fun K hK => ?_); refine goes_ Try.func37 (by kernel_rfl) rfl #[.agg #[.slice Ao24 t811.length co24, .slice Ao27 t814.length co27], .int .i64 t802, .int .i64 t801, .int .i64 t803] (by rfl) rfl rfl lQ ?_
           with_reducible refine (impl_RibbonValue.calls k2 _ _ t811 _ _ t814 t802 t801 t803 t824 _ ?side1 ?side2 ?side3 ?side4 A49.out).mono ?_
           (case side1 => exact cU ((Kd.Q_reads' HO_Z2.out).2.2))
           (case side2 => exact (Kd.Q_reads' HO_Z2.out).2.1)
           (case side3 => exact cU ((Kd.R_reads' HO_Z3.out).2.2))
           (case side4 => exact (Kd.R_reads' HO_Z3.out).2.1)
           rintro e w58 ⟨rfl, hb⟩; refine ⟨_, rfl, ?_⟩; replace HO_9 := rB HO_9.out hb; replace HO_Z0 := qB HO_Z0.out hb; replace HO_Z1 := rB HO_Z1.out hb; replace HO_Z2 := qB HO_Z2.out hb; replace HO_Z3 := rB HO_Z3.out hb; replace BK804 := kB BK804.out hb; replace BK818 := kB BK818.out hb; replace HB := Az z5_0; clear hb; refine hK.out _ _ ⟨(blk_cell BK804.out 0).trans rfl, (blk_cell BK804.out 1).trans rfl, (blk_cell BK818.out 0).trans rfl, (blk_cell BK818.out 1).trans rfl⟩ (fun hHeld => ?_); clear hK K; refine norm_ (a' := ?_) ?_ ?_; rotate_left
           ·
            show Act.put _ (some 77) _ = _
            simp only [Act.put, List.setIfInBounds_toArray, List.set_cons_zero, List.set_cons_succ, i64_w, i32_w]; rfl
           repeat (first | (refine laws_FnValueDual_uP rfl rfl (any_of HT_.out (by kernel_rfl)) (fun _ _ _ h => h) (by rfl) (v := ?_) (a' := ?_) ?_ ?_ ?_; rotate_left; (· intro w'; go_simp; with_reducible rfl); rotate_left; (· exact aP)) | (refine laws_FnValueDual_uT rfl rfl (take_ofW HT_.out HW_.out (by kernel_rfl)) (fun _ _ _ h => h) (by rfl) (v := ?_) (a' := ?_) ?_ hHeld ?_ ?_; rotate_left; (· rintro w' ⟨s0, s1, s2, s3⟩; go_simp; with_reducible rfl); rotate_left; (· exact aP)))
           refine laws_FnValueDual_uO rfl rfl (one_of HT_.out (by kernel_rfl)) (by decide) (fun K hK => ?_); refine goes_ Try.func37 (by kernel_rfl) rfl #[.agg #[.slice Ao9 t795.length co9, .slice Ao11 t798.length co11], .int .i64 1, .int .i64 1, .int .i64 1] (by rfl) rfl rfl lQ ?_
           with_reducible refine (impl_RibbonValue.calls k2 _ _ t795 _ _ t798 1 1 1 t825 _ ?side1 ?side2 ?side3 ?side4 A51.out).mono ?_
           (case side1 => exact cU ((Kd.Q_reads' HO_Z0.out).2.2))
           (case side2 => exact (Kd.Q_reads' HO_Z0.out).2.1)
           (case side3 => exact cU ((Kd.R_reads' HO_Z1.out).2.2))
           (case side4 => exact (Kd.R_reads' HO_Z1.out).2.1)
           rintro e w59 ⟨rfl, hb⟩; refine ⟨_, rfl, ?_⟩; replace HO_9 := rB HO_9.out hb; replace HO_Z0 := qB HO_Z0.out hb; replace HO_Z1 := rB HO_Z1.out hb; replace HO_Z2 := qB HO_Z2.out hb; replace HO_Z3 := rB HO_Z3.out hb; replace BK804 := kB BK804.out hb; replace BK818 := kB BK818.out hb; replace HB := Az z5_0; clear hb; refine hK.out _ _ ⟨(blk_cell BK804.out 0).trans rfl, (blk_cell BK804.out 1).trans rfl, (blk_cell BK818.out 0).trans rfl, (blk_cell BK818.out 1).trans rfl⟩ (fun hHeld => ?_); clear hK K; refine norm_ (a' := ?_) ?_ ?_; rotate_left
           ·
            show Act.put _ (some 84) _ = _
            simp only [Act.put, List.setIfInBounds_toArray, List.set_cons_zero, List.set_cons_succ, i64_w, i32_w]; rfl
           repeat (first | (refine laws_FnValueDual_uP rfl rfl (any_of HT_.out (by kernel_rfl)) (fun _ _ _ h => h) (by rfl) (v := ?_) (a' := ?_) ?_ ?_ ?_; rotate_left; (· intro w'; go_simp; with_reducible rfl); rotate_left; (· exact aP)) | (refine laws_FnValueDual_uT rfl rfl (take_ofW HT_.out HW_.out (by kernel_rfl)) (fun _ _ _ h => h) (by rfl) (v := ?_) (a' := ?_) ?_ hHeld ?_ ?_; rotate_left; (· rintro w' ⟨s0, s1, s2, s3⟩; go_simp; with_reducible rfl); rotate_left; (· exact aP)))
           refine laws_FnValueDual_uO rfl rfl (one_of HT_.out (by kernel_rfl)) (by decide) (fun K hK => ?_); refine goes_ Try.func37 (by kernel_rfl) rfl #[.agg #[.slice Ao9 t795.length co9, .slice Ao11 t798.length co11], .int .i64 0, .int .i64 0, .int .i64 t803] (by rfl) rfl rfl lQ ?_
           with_reducible refine (impl_RibbonValue.calls k2 _ _ t795 _ _ t798 0 0 t803 t826 _ ?side1 ?side2 ?side3 ?side4 A53.out).mono ?_
           (case side1 => exact cU ((Kd.Q_reads' HO_Z0.out).2.2))
           (case side2 => exact (Kd.Q_reads' HO_Z0.out).2.1)
           (case side3 => exact cU ((Kd.R_reads' HO_Z1.out).2.2))
           (case side4 => exact (Kd.R_reads' HO_Z1.out).2.1)
           rintro e w60 ⟨rfl, hb⟩; refine ⟨_, rfl, ?_⟩; replace HO_9 := rB HO_9.out hb; replace HO_Z0 := qB HO_Z0.out hb; replace HO_Z1 := rB HO_Z1.out hb; replace HO_Z2 := qB HO_Z2.out hb; replace HO_Z3 := rB HO_Z3.out hb; replace BK804 := kB BK804.out hb; replace BK818 := kB BK818.out hb; replace HB := Az z5_0; clear hb; refine hK.out _ _ ⟨(blk_cell BK804.out 0).trans rfl, (blk_cell BK804.out 1).trans rfl, (blk_cell BK818.out 0).trans rfl, (blk_cell BK818.out 1).trans rfl⟩ (fun hHeld => ?_); clear hK K; refine norm_ (a' := ?_) ?_ ?_; rotate_left
           ·
            show Act.put _ (some 91) _ = _
            simp only [Act.put, List.setIfInBounds_toArray, List.set_cons_zero, List.set_cons_succ, i64_w, i32_w]; rfl
           refine laws_FnValueDual_uO rfl rfl (one_of HT_.out (by kernel_rfl)) (by decide) (fun K hK => ?_); refine goes_ Try.func39 (by kernel_rfl) rfl #[.agg #[.slice Ao9 t795.length co9, .slice Ao11 t798.length co11]] (by rfl) rfl rfl lQ ?_
           with_reducible refine (impl_RibbonTrees.calls k2 _ _ t795 _ _ t798 t827 _ ?side1 ?side2 ?side3 ?side4 A54.out).mono ?_
           (case side1 => exact cU ((Kd.Q_reads' HO_Z0.out).2.2))
           (case side2 => exact (Kd.Q_reads' HO_Z0.out).2.1)
           (case side3 => exact cU ((Kd.R_reads' HO_Z1.out).2.2))
           (case side4 => exact (Kd.R_reads' HO_Z1.out).2.1)
           rintro e w61 ⟨rfl, hb⟩; refine ⟨_, rfl, ?_⟩; replace HO_9 := rB HO_9.out hb; replace HO_Z0 := qB HO_Z0.out hb; replace HO_Z1 := rB HO_Z1.out hb; replace HO_Z2 := qB HO_Z2.out hb; replace HO_Z3 := rB HO_Z3.out hb; replace BK804 := kB BK804.out hb; replace BK818 := kB BK818.out hb; replace HB := Az z5_0; clear hb; refine hK.out _ _ ⟨(blk_cell BK804.out 0).trans rfl, (blk_cell BK804.out 1).trans rfl, (blk_cell BK818.out 0).trans rfl, (blk_cell BK818.out 1).trans rfl⟩ (fun hHeld => ?_); clear hK K; refine norm_ (a' := ?_) ?_ ?_; rotate_left
           ·
            show Act.put _ (some 93) _ = _
            simp only [Act.put, List.setIfInBounds_toArray, List.set_cons_zero, List.set_cons_succ, i64_w, i32_w]; rfl
           repeat (first | (refine laws_FnValueDual_uP rfl rfl (any_of HT_.out (by kernel_rfl)) (fun _ _ _ h => h) (by rfl) (v := ?_) (a' := ?_) ?_ ?_ ?_; rotate_left; (· intro w'; go_simp; with_reducible rfl); rotate_left; (· exact aP)))
           refine done_ (done_of HT_.out (by kernel_rfl)) ?_
           try go_wp2
           go_ret; exact ⟨rE, bU2 HB.out GW804.out GW818.out⟩
          ·
           obtain rfl := Option.some.inj H; obtain ⟨Ao62, co62, eo62⟩ := Kd.R_slice HO_9.out; subst eo62; have p819 : 0 ≤ (1 : Int) := (by omega); have q819 : 1 < (t807.length : Int) := oA; obtain ⟨ad819, e819, hx819_0⟩ := Kd.at_int (Kd.R_reads' HO_9.out).2.2 1 p819 q819
           cases e819
           simp only [show (1 : Int).toNat = 1 from rfl, Nat.reduceMul, Nat.reduceEqDiff, Go.Addr.add, ↓reduceIte] at hx819_0; have qi819 : (1 < t807.length) = True := eq_true (by omega); replace p819 := eq_true p819; replace q819 := eq_true q819
           try go_wp2
           replace HO_9 := Az (Kd.R_drew HO_9.out); replace HO_Z0 := Az (Kd.Q_drew HO_Z0.out); replace HO_Z1 := Az (Kd.R_drew HO_Z1.out); replace HO_Z2 := Az (Kd.Q_drew HO_Z2.out); replace HO_Z3 := Az (Kd.R_drew HO_Z3.out); replace BK804 := Az (blk_drew BK804.out); replace BK818 := Az (blk_drew BK818.out); replace HB := Az (below_drew1 HB.out); refine start_ (n := 33) (S := fun w' => w'.cell? ⟨gb804, 0, none⟩ = some (.slice Ao9 t795.length co9) ∧ w'.cell? ⟨gb804, 1, none⟩ = some (.slice Ao11 t798.length co11) ∧ w'.cell? ⟨gb818, 0, none⟩ = some (.slice Ao24 t811.length co24) ∧ w'.cell? ⟨gb818, 1, none⟩ = some (.slice Ao27 t814.length co27)) (ds := []) (laws_FnValueDual_up [(0, some 64), (1, some 65), (2, some 66), (3, some 67), (4, some 68), (5, some 69), (6, some 70), (7, some 71), (8, some 72), (10, some 74), (11, some 75), (12, some 76), (14, some 78), (9, some 73), (13, some 77), (15, some 79), (16, some 80), (17, some 81), (18, some 82), (21, some 85), (19, some 83), (20, some 84), (22, some 86), (23, some 87), (24, some 88), (25, some 89), (26, some 90), (27, some 91), (28, some 92), (29, some 93), (30, some 94), (31, some 95), (32, some 2)] 33) (by kernel_rfl) rfl rfl ⟨(blk_cell BK804.out 0).trans rfl, (blk_cell BK804.out 1).trans rfl, (blk_cell BK818.out 0).trans rfl, (blk_cell BK818.out 1).trans rfl⟩ (fun hHeld => ?_); refine with_tabW laws_FnValueDual.tab15 laws_FnValueDual.bits15 (fun HT_ HW_ => ?_); generalize wr.drew = w63 at HO_9 HO_Z0 HO_Z1 HO_Z2 HO_Z3 BK804 BK818 HB hHeld ⊢
           repeat (first | (refine laws_FnValueDual_uP rfl rfl (any_of HT_.out (by kernel_rfl)) (fun _ _ _ h => h) (by rfl) (v := ?_) (a' := ?_) ?_ ?_ ?_; rotate_left; (· intro w'; go_simp; with_reducible rfl); rotate_left; (· exact aP)) | (refine laws_FnValueDual_uT rfl rfl (take_ofW HT_.out HW_.out (by kernel_rfl)) (fun _ _ _ h => h) (by rfl) (v := ?_) (a' := ?_) ?_ hHeld ?_ ?_; rotate_left; (· rintro w' ⟨s0, s1, s2, s3⟩; go_simp; with_reducible rfl); rotate_left; (· exact aP)))
           refine laws_FnValueDual_uO rfl rfl (one_of HT_.out (by kernel_rfl)) (by decide) (fun K hK => ?_); refine goes_ Try.func22 (by kernel_rfl) rfl #[.agg #[.slice Ao9 t795.length co9, .slice Ao11 t798.length co11]] (by rfl) rfl rfl lQ ?_
           with_reducible refine (impl_MapGenus.calls k2 _ _ t795 _ _ t798 t820 _ ?side1 ?side2 ?side3 ?side4 A33.out).mono ?_
           (case side1 => exact cU ((Kd.Q_reads' HO_Z0.out).2.2))
           (case side2 => exact (Kd.Q_reads' HO_Z0.out).2.1)
           (case side3 => exact cU ((Kd.R_reads' HO_Z1.out).2.2))
           (case side4 => exact (Kd.R_reads' HO_Z1.out).2.1)
           rintro e w64 ⟨rfl, hb⟩; refine ⟨_, rfl, ?_⟩; replace HO_9 := rB HO_9.out hb; replace HO_Z0 := qB HO_Z0.out hb; replace HO_Z1 := rB HO_Z1.out hb; replace HO_Z2 := qB HO_Z2.out hb; replace HO_Z3 := rB HO_Z3.out hb; replace BK804 := kB BK804.out hb; replace BK818 := kB BK818.out hb; replace HB := Az z5_0; clear hb; refine hK.out _ _ ⟨(blk_cell BK804.out 0).trans rfl, (blk_cell BK804.out 1).trans rfl, (blk_cell BK818.out 0).trans rfl, (blk_cell BK818.out 1).trans rfl⟩ (fun hHeld => ?_); clear hK K; refine norm_ (a' := ?_) ?_ ?_; rotate_left
           ·
            show Act.put _ (some 70) _ = _
            simp only [Act.put, List.setIfInBounds_toArray, List.set_cons_zero, List.set_cons_succ, i64_w, i32_w]; rfl
           repeat (first | (refine laws_FnValueDual_uP rfl rfl (any_of HT_.out (by kernel_rfl)) (fun _ _ _ h => h) (by rfl) (v := ?_) (a' := ?_) ?_ ?_ ?_; rotate_left; (· intro w'; go_simp; with_reducible rfl); rotate_left; (· exact aP)) | (refine laws_FnValueDual_uT rfl rfl (take_ofW HT_.out HW_.out (by kernel_rfl)) (fun _ _ _ h => h) (by rfl) (v := ?_) (a' := ?_) ?_ hHeld ?_ ?_; rotate_left; (· rintro w' ⟨s0, s1, s2, s3⟩; go_simp; with_reducible rfl); rotate_left; (· exact aP)))
           refine laws_FnValueDual_uO rfl rfl (one_of HT_.out (by kernel_rfl)) (by decide) (fun K hK => ?_); refine goes_ Try.func37 (by kernel_rfl) rfl #[.agg #[.slice Ao24 t811.length co24, .slice Ao27 t814.length co27], .int .i64 t802, .int .i64 t801, .int .i64 t803] (by rfl) rfl rfl lQ ?_
           with_reducible refine (impl_RibbonValue.calls k2 _ _ t811 _ _ t814 t802 t801 t803 t824 _ ?side1 ?side2 ?side3 ?side4 A49.out).mono ?_
           (case side1 => exact cU ((Kd.Q_reads' HO_Z2.out).2.2))
           (case side2 => exact (Kd.Q_reads' HO_Z2.out).2.1)
           (case side3 => exact cU ((Kd.R_reads' HO_Z3.out).2.2))
           (case side4 => exact (Kd.R_reads' HO_Z3.out).2.1)
           rintro e w65 ⟨rfl, hb⟩; refine ⟨_, rfl, ?_⟩; replace HO_9 := rB HO_9.out hb; replace HO_Z0 := qB HO_Z0.out hb; replace HO_Z1 := rB HO_Z1.out hb; replace HO_Z2 := qB HO_Z2.out hb; replace HO_Z3 := rB HO_Z3.out hb; replace BK804 := kB BK804.out hb; replace BK818 := kB BK818.out hb; replace HB := Az z5_0; clear hb; refine hK.out _ _ ⟨(blk_cell BK804.out 0).trans rfl, (blk_cell BK804.out 1).trans rfl, (blk_cell BK818.out 0).trans rfl, (blk_cell BK818.out 1).trans rfl⟩ (fun hHeld => ?_); clear hK K; refine norm_ (a' := ?_) ?_ ?_; rotate_left
           ·
            show Act.put _ (some 77) _ = _
            simp only [Act.put, List.setIfInBounds_toArray, List.set_cons_zero, List.set_cons_succ, i64_w, i32_w]; rfl
           repeat (first | (refine laws_FnValueDual_uP rfl rfl (any_of HT_.out (by kernel_rfl)) (fun _ _ _ h => h) (by rfl) (v := ?_) (a' := ?_) ?_ ?_ ?_; rotate_left; (· intro w'; go_simp; with_reducible rfl); rotate_left; (· exact aP)) | (refine laws_FnValueDual_uT rfl rfl (take_ofW HT_.out HW_.out (by kernel_rfl)) (fun _ _ _ h => h) (by rfl) (v := ?_) (a' := ?_) ?_ hHeld ?_ ?_; rotate_left; (· rintro w' ⟨s0, s1, s2, s3⟩; go_simp; with_reducible rfl); rotate_left; (· exact aP)))
           refine laws_FnValueDual_uO rfl rfl (one_of HT_.out (by kernel_rfl)) (by decide) (fun K hK => ?_); refine goes_ Try.func37 (by kernel_rfl) rfl #[.agg #[.slice Ao9 t795.length co9, .slice Ao11 t798.length co11], .int .i64 1, .int .i64 1, .int .i64 1] (by rfl) rfl rfl lQ ?_
           with_reducible refine (impl_RibbonValue.calls k2 _ _ t795 _ _ t798 1 1 1 t825 _ ?side1 ?side2 ?side3 ?side4 A51.out).mono ?_
           (case side1 => exact cU ((Kd.Q_reads' HO_Z0.out).2.2))
           (case side2 => exact (Kd.Q_reads' HO_Z0.out).2.1)
           (case side3 => exact cU ((Kd.R_reads' HO_Z1.out).2.2))
           (case side4 => exact (Kd.R_reads' HO_Z1.out).2.1)
           rintro e w66 ⟨rfl, hb⟩; refine ⟨_, rfl, ?_⟩; replace HO_9 := rB HO_9.out hb; replace HO_Z0 := qB HO_Z0.out hb; replace HO_Z1 := rB HO_Z1.out hb; replace HO_Z2 := qB HO_Z2.out hb; replace HO_Z3 := rB HO_Z3.out hb; replace BK804 := kB BK804.out hb; replace BK818 := kB BK818.out hb; replace HB := Az z5_0; clear hb; refine hK.out _ _ ⟨(blk_cell BK804.out 0).trans rfl, (blk_cell BK804.out 1).trans rfl, (blk_cell BK818.out 0).trans rfl, (blk_cell BK818.out 1).trans rfl⟩ (fun hHeld => ?_); clear hK K; refine norm_ (a' := ?_) ?_ ?_; rotate_left
           ·
            show Act.put _ (some 84) _ = _
            simp only [Act.put, List.setIfInBounds_toArray, List.set_cons_zero, List.set_cons_succ, i64_w, i32_w]; rfl
           repeat (first | (refine laws_FnValueDual_uS rfl rfl (any_of HT_.out (by kernel_rfl)) (fun _ _ _ h => h) (by rfl) (a' := ?_) ?_ ?_; rotate_left; (· exact aP)) | (refine laws_FnValueDual_uP rfl rfl (any_of HT_.out (by kernel_rfl)) (fun _ _ _ h => h) (by rfl) (v := ?_) (a' := ?_) ?_ ?_ ?_; rotate_left; (· intro w'; go_simp; with_reducible rfl); rotate_left; (· exact aP)))
           refine done_ (done_of HT_.out (by kernel_rfl)) ?_
           try go_wp2
           go_ret; exact ⟨rE, bU2 HB.out GW804.out GW818.out⟩
         ·
          obtain rfl := Option.some.inj H; obtain ⟨Ao67, co67, eo67⟩ := Kd.R_slice HO_9.out; subst eo67; have p819 : 0 ≤ (1 : Int) := (by omega); have q819 : 1 < (t807.length : Int) := oA; obtain ⟨ad819, e819, hx819_0⟩ := Kd.at_int (Kd.R_reads' HO_9.out).2.2 1 p819 q819
          cases e819
          simp only [show (1 : Int).toNat = 1 from rfl, Nat.reduceMul, Nat.reduceEqDiff, Go.Addr.add, ↓reduceIte] at hx819_0; have qi819 : (1 < t807.length) = True := eq_true (by omega); replace p819 := eq_true p819; replace q819 := eq_true q819
          try go_wp2
          replace HO_9 := Az (Kd.R_drew HO_9.out); replace HO_Z0 := Az (Kd.Q_drew HO_Z0.out); replace HO_Z1 := Az (Kd.R_drew HO_Z1.out); replace HO_Z2 := Az (Kd.Q_drew HO_Z2.out); replace HO_Z3 := Az (Kd.R_drew HO_Z3.out); replace BK804 := Az (blk_drew BK804.out); replace BK818 := Az (blk_drew BK818.out); replace HB := Az (below_drew1 HB.out); refine start_ (n := 33) (S := fun w' => w'.cell? ⟨gb804, 0, none⟩ = some (.slice Ao9 t795.length co9) ∧ w'.cell? ⟨gb804, 1, none⟩ = some (.slice Ao11 t798.length co11) ∧ w'.cell? ⟨gb818, 0, none⟩ = some (.slice Ao24 t811.length co24) ∧ w'.cell? ⟨gb818, 1, none⟩ = some (.slice Ao27 t814.length co27)) (ds := []) (laws_FnValueDual_up [(0, some 64), (1, some 65), (2, some 66), (3, some 67), (4, some 68), (5, some 69), (6, some 70), (7, some 71), (8, some 72), (10, some 74), (11, some 75), (12, some 76), (14, some 78), (9, some 73), (13, some 77), (15, some 79), (16, some 80), (17, some 81), (18, some 82), (19, some 83), (20, some 84), (21, some 85), (22, some 86), (23, some 87), (24, some 88), (25, some 89), (26, some 90), (27, some 91), (28, some 92), (29, some 93), (30, some 94), (31, some 95), (32, some 2)] 33) (by kernel_rfl) rfl rfl ⟨(blk_cell BK804.out 0).trans rfl, (blk_cell BK804.out 1).trans rfl, (blk_cell BK818.out 0).trans rfl, (blk_cell BK818.out 1).trans rfl⟩ (fun hHeld => ?_); refine with_tabW laws_FnValueDual.tab15 laws_FnValueDual.bits15 (fun HT_ HW_ => ?_); generalize wr.drew = w68 at HO_9 HO_Z0 HO_Z1 HO_Z2 HO_Z3 BK804 BK818 HB hHeld ⊢
          repeat (first | (refine laws_FnValueDual_uP rfl rfl (any_of HT_.out (by kernel_rfl)) (fun _ _ _ h => h) (by rfl) (v := ?_) (a' := ?_) ?_ ?_ ?_; rotate_left; (· intro w'; go_simp; with_reducible rfl); rotate_left; (· exact aP)) | (refine laws_FnValueDual_uT rfl rfl (take_ofW HT_.out HW_.out (by kernel_rfl)) (fun _ _ _ h => h) (by rfl) (v := ?_) (a' := ?_) ?_ hHeld ?_ ?_; rotate_left; (· rintro w' ⟨s0, s1, s2, s3⟩; go_simp; with_reducible rfl); rotate_left; (· exact aP)))
          refine laws_FnValueDual_uO rfl rfl (one_of HT_.out (by kernel_rfl)) (by decide) (fun K hK => ?_); refine goes_ Try.func22 (by kernel_rfl) rfl #[.agg #[.slice Ao9 t795.length co9, .slice Ao11 t798.length co11]] (by rfl) rfl rfl lQ ?_
          with_reducible refine (impl_MapGenus.calls k2 _ _ t795 _ _ t798 t820 _ ?side1 ?side2 ?side3 ?side4 A33.out).mono ?_
          (case side1 => exact cU ((Kd.Q_reads' HO_Z0.out).2.2))
          (case side2 => exact (Kd.Q_reads' HO_Z0.out).2.1)
          (case side3 => exact cU ((Kd.R_reads' HO_Z1.out).2.2))
          (case side4 => exact (Kd.R_reads' HO_Z1.out).2.1)
          rintro e w69 ⟨rfl, hb⟩; refine ⟨_, rfl, ?_⟩; replace HO_9 := rB HO_9.out hb; replace HO_Z0 := qB HO_Z0.out hb; replace HO_Z1 := rB HO_Z1.out hb; replace HO_Z2 := qB HO_Z2.out hb; replace HO_Z3 := rB HO_Z3.out hb; replace BK804 := kB BK804.out hb; replace BK818 := kB BK818.out hb; replace HB := Az z5_0; clear hb; refine hK.out _ _ ⟨(blk_cell BK804.out 0).trans rfl, (blk_cell BK804.out 1).trans rfl, (blk_cell BK818.out 0).trans rfl, (blk_cell BK818.out 1).trans rfl⟩ (fun hHeld => ?_); clear hK K; refine norm_ (a' := ?_) ?_ ?_; rotate_left
          ·
           show Act.put _ (some 70) _ = _
           simp only [Act.put, List.setIfInBounds_toArray, List.set_cons_zero, List.set_cons_succ, i64_w, i32_w]; rfl
          repeat (first | (refine laws_FnValueDual_uP rfl rfl (any_of HT_.out (by kernel_rfl)) (fun _ _ _ h => h) (by rfl) (v := ?_) (a' := ?_) ?_ ?_ ?_; rotate_left; (· intro w'; go_simp; with_reducible rfl); rotate_left; (· exact aP)) | (refine laws_FnValueDual_uT rfl rfl (take_ofW HT_.out HW_.out (by kernel_rfl)) (fun _ _ _ h => h) (by rfl) (v := ?_) (a' := ?_) ?_ hHeld ?_ ?_; rotate_left; (· rintro w' ⟨s0, s1, s2, s3⟩; go_simp; with_reducible rfl); rotate_left; (· exact aP)))
          refine laws_FnValueDual_uO rfl rfl (one_of HT_.out (by kernel_rfl)) (by decide) (fun K hK => ?_); refine goes_ Try.func37 (by kernel_rfl) rfl #[.agg #[.slice Ao24 t811.length co24, .slice Ao27 t814.length co27], .int .i64 t802, .int .i64 t801, .int .i64 t803] (by rfl) rfl rfl lQ ?_
          with_reducible refine (impl_RibbonValue.calls k2 _ _ t811 _ _ t814 t802 t801 t803 t824 _ ?side1 ?side2 ?side3 ?side4 A49.out).mono ?_
          (case side1 => exact cU ((Kd.Q_reads' HO_Z2.out).2.2))
          (case side2 => exact (Kd.Q_reads' HO_Z2.out).2.1)
          (case side3 => exact cU ((Kd.R_reads' HO_Z3.out).2.2))
          (case side4 => exact (Kd.R_reads' HO_Z3.out).2.1)
          rintro e w70 ⟨rfl, hb⟩; refine ⟨_, rfl, ?_⟩; replace HO_9 := rB HO_9.out hb; replace HO_Z0 := qB HO_Z0.out hb; replace HO_Z1 := rB HO_Z1.out hb; replace HO_Z2 := qB HO_Z2.out hb; replace HO_Z3 := rB HO_Z3.out hb; replace BK804 := kB BK804.out hb; replace BK818 := kB BK818.out hb; replace HB := Az z5_0; clear hb; refine hK.out _ _ ⟨(blk_cell BK804.out 0).trans rfl, (blk_cell BK804.out 1).trans rfl, (blk_cell BK818.out 0).trans rfl, (blk_cell BK818.out 1).trans rfl⟩ (fun hHeld => ?_); clear hK K; refine norm_ (a' := ?_) ?_ ?_; rotate_left
          ·
           show Act.put _ (some 77) _ = _
           simp only [Act.put, List.setIfInBounds_toArray, List.set_cons_zero, List.set_cons_succ, i64_w, i32_w]; rfl
          repeat (first | (refine laws_FnValueDual_uS rfl rfl (any_of HT_.out (by kernel_rfl)) (fun _ _ _ h => h) (by rfl) (a' := ?_) ?_ ?_; rotate_left; (· exact aP)) | (refine laws_FnValueDual_uP rfl rfl (any_of HT_.out (by kernel_rfl)) (fun _ _ _ h => h) (by rfl) (v := ?_) (a' := ?_) ?_ ?_ ?_; rotate_left; (· intro w'; go_simp; with_reducible rfl); rotate_left; (· exact aP)))
          refine done_ (done_of HT_.out (by kernel_rfl)) ?_
          try go_wp2
          go_ret; exact ⟨rE, bU2 HB.out GW804.out GW818.out⟩
       ·
        replace c32 := Bool.eq_false_iff.mpr c32; subst c32; rw [if_neg nT] at H; obtain rfl := Option.some.inj H; obtain ⟨Ao71, co71, eo71⟩ := Kd.R_slice HO_9.out; subst eo71; have p819 : 0 ≤ (1 : Int) := (by omega); have q819 : 1 < (t807.length : Int) := oA; obtain ⟨ad819, e819, hx819_0⟩ := Kd.at_int (Kd.R_reads' HO_9.out).2.2 1 p819 q819
        cases e819
        simp only [show (1 : Int).toNat = 1 from rfl, Nat.reduceMul, Nat.reduceEqDiff, Go.Addr.add, ↓reduceIte] at hx819_0; have qi819 : (1 < t807.length) = True := eq_true (by omega); replace p819 := eq_true p819; replace q819 := eq_true q819
        try go_wp2
        replace HO_9 := Az (Kd.R_drew HO_9.out); replace HO_Z0 := Az (Kd.Q_drew HO_Z0.out); replace HO_Z1 := Az (Kd.R_drew HO_Z1.out); replace HO_Z2 := Az (Kd.Q_drew HO_Z2.out); replace HO_Z3 := Az (Kd.R_drew HO_Z3.out); replace BK804 := Az (blk_drew BK804.out); replace BK818 := Az (blk_drew BK818.out); replace HB := Az (below_drew1 HB.out); refine start_ (n := 33) (S := fun w' => True) (ds := []) (laws_FnValueDual_up [(0, some 64), (1, some 65), (2, some 66), (3, some 67), (4, some 68), (5, some 69), (6, some 70), (7, some 71), (8, some 72), (9, some 73), (10, some 74), (11, some 75), (12, some 76), (13, some 77), (14, some 78), (15, some 79), (16, some 80), (17, some 81), (18, some 82), (19, some 83), (20, some 84), (21, some 85), (22, some 86), (23, some 87), (24, some 88), (25, some 89), (26, some 90), (27, some 91), (28, some 92), (29, some 93), (30, some 94), (31, some 95), (32, some 2)] 33) (by kernel_rfl) rfl rfl trivial (fun hHeld => ?_); refine with_tabW laws_FnValueDual.tab15 laws_FnValueDual.bits15 (fun HT_ HW_ => ?_); generalize wr.drew = w72 at HO_9 HO_Z0 HO_Z1 HO_Z2 HO_Z3 BK804 BK818 HB hHeld ⊢
        repeat (first | (refine laws_FnValueDual_uS rfl rfl (any_of HT_.out (by kernel_rfl)) (fun _ _ _ h => h) (by rfl) (a' := ?_) ?_ ?_; rotate_left; (· exact aP)) | (refine laws_FnValueDual_uP rfl rfl (any_of HT_.out (by kernel_rfl)) (fun _ _ _ h => h) (by rfl) (v := ?_) (a' := ?_) ?_ ?_ ?_; rotate_left; (· intro w'; go_simp; with_reducible rfl); rotate_left; (· exact aP)))
        refine done_ (done_of HT_.out (by kernel_rfl)) ?_
        try go_wp2
        go_ret; exact ⟨rE, bU2 HB.out GW804.out GW818.out⟩
      ·
       replace c31 := Bool.eq_false_iff.mpr c31; subst c31; rw [if_neg nT] at H; obtain rfl := Option.some.inj H; obtain ⟨Ao73, co73, eo73⟩ := Kd.R_slice HO_9.out; subst eo73; have p819 : 0 ≤ (1 : Int) := (by omega); have q819 : 1 < (t807.length : Int) := oA; obtain ⟨ad819, e819, hx819_0⟩ := Kd.at_int (Kd.R_reads' HO_9.out).2.2 1 p819 q819
       cases e819
       simp only [show (1 : Int).toNat = 1 from rfl, Nat.reduceMul, Nat.reduceEqDiff, Go.Addr.add, ↓reduceIte] at hx819_0; have qi819 : (1 < t807.length) = True := eq_true (by omega); replace p819 := eq_true p819; replace q819 := eq_true q819
       try go_wp2
       replace HO_9 := Az (Kd.R_drew HO_9.out); replace HO_Z0 := Az (Kd.Q_drew HO_Z0.out); replace HO_Z1 := Az (Kd.R_drew HO_Z1.out); replace HO_Z2 := Az (Kd.Q_drew HO_Z2.out); replace HO_Z3 := Az (Kd.R_drew HO_Z3.out); replace BK804 := Az (blk_drew BK804.out); replace BK818 := Az (blk_drew BK818.out); replace HB := Az (below_drew1 HB.out); refine start_ (n := 33) (S := fun w' => True) (ds := []) (laws_FnValueDual_up [(0, some 64), (1, some 65), (2, some 66), (3, some 67), (4, some 68), (5, some 69), (6, some 70), (7, some 71), (8, some 72), (9, some 73), (10, some 74), (11, some 75), (12, some 76), (13, some 77), (14, some 78), (15, some 79), (16, some 80), (17, some 81), (18, some 82), (19, some 83), (20, some 84), (21, some 85), (22, some 86), (23, some 87), (24, some 88), (25, some 89), (26, some 90), (27, some 91), (28, some 92), (29, some 93), (30, some 94), (31, some 95), (32, some 2)] 33) (by kernel_rfl) rfl rfl trivial (fun hHeld => ?_); refine with_tabW laws_FnValueDual.tab15 laws_FnValueDual.bits15 (fun HT_ HW_ => ?_); generalize wr.drew = w74 at HO_9 HO_Z0 HO_Z1 HO_Z2 HO_Z3 BK804 BK818 HB hHeld ⊢
       repeat (first | (refine laws_FnValueDual_uS rfl rfl (any_of HT_.out (by kernel_rfl)) (fun _ _ _ h => h) (by rfl) (a' := ?_) ?_ ?_; rotate_left; (· exact aP)) | (refine laws_FnValueDual_uP rfl rfl (any_of HT_.out (by kernel_rfl)) (fun _ _ _ h => h) (by rfl) (v := ?_) (a' := ?_) ?_ ?_ ?_; rotate_left; (· intro w'; go_simp; with_reducible rfl); rotate_left; (· exact aP)))
       refine done_ (done_of HT_.out (by kernel_rfl)) ?_
       try go_wp2
       go_ret; exact ⟨rE, bU2 HB.out GW804.out GW818.out⟩
def laws_FnValueDual.Pure : Prop := ∀ (l0 : List Int), l0.length ≤ maxLen → l0.length * 1 ≤ 140737488351232 → (∀ x ∈ l0, (Lit.int .u8 x).wf = true) → ∃ k, laws_FnValueDual.f k l0 = some true
theorem laws_FnValueDual.walk (P : laws_FnValueDual.Pure) (a0 : Option Addr) (len0 cap0 : Nat) (z0 : List Int) (w : World) (w0 : (a0 = none ∧ len0 = 0 ∧ cap0 = 0 ∧ z0 = []) ∨ ∃ x, a0 = some x ∧ len0 ≤ cap0 ∧ cap0 ≤ maxLen ∧ z0.length = cap0 ∧ (∀ i, i < z0.length → w.cell? (x.add i) = some (.int .u8 (z0.getD i 0))) ∧ ∀ n ∈ z0, (Lit.int .u8 n).wf = true) (y0 : len0 * 1 ≤ 140737488351232) :
  Calls Try.prog 8 #[.slice a0 len0 cap0] w fun e w' => e = .returned (.bool true) ∧ Below w.heap.size w w' := by
 obtain ⟨l0, rfl, hr0, hm0, hw0, hc0⟩ := ReadsInt.ofRowC w0; obtain ⟨k, h⟩ := P l0 hm0 y0 hw0; refine (laws_FnValueDual.calls k _ _ l0 true w (Kd.C_of_reads (d := (0 : Int)) (h1 := fun _ => rfl) hr0) hc0 h).mono ?_; rintro e w' ⟨rfl, hd⟩; exact ⟨rfl, hd⟩
end Go.Proofs.Ytjgknblneokhlaa.PK

set_option linter.unusedVariables false
set_option linter.unusedSimpArgs false
namespace Go.Proofs.Ytjgknblneokhlaa.PK
open Go.RowKit Go.Proofs.YtjgknblneokhlaaW.PrintWords Go.Proofs.YtjgknblneokhlaaW.PrintLast Go.Proofs.YtjgknblneokhlaaW.PrintMore
theorem Ev.s {α : Type} {g : Nat → Option α} {r : α} (h : Ev (fun k => g (k + 1)) r) : Ev g r := Ev.step (fun _ => rfl) h
theorem Ev.const {α : Type} {o : Option α} {r : α} (h : o = some r) : Ev (fun _ => o) r := ⟨0, fun _ _ => h⟩
theorem Ev.uniq {α : Type} {g : Nat → Option α} {r r' : α} (h : Ev g r) (h' : Ev g r') : r = r' := by
  obtain ⟨K, h⟩ := h; obtain ⟨K', h'⟩ := h'; have h1 := h (max K K') (by omega); rw [h' (max K K') (by omega)] at h1; exact (Option.some.inj h1).symm
theorem w64 {x : Int} (h1 : -9223372036854775808 ≤ x) (h2 : x < 9223372036854775808) : wrap64 x = x := by unfold wrap64; omega
theorem w64r {x : Int} (h : -9223372036854775808 ≤ x ∧ x < 9223372036854775808) : wrap64 x = x := w64 h.1 h.2
theorem w64n {i : Nat} (h : i < 4611686018427387904) : wrap64 ((i : Int) + 1) = ((i + 1 : Nat) : Int) := by rw [w64 (by omega) (by omega)]; omega
theorem rd_lt (l : List Int) (i : Nat) (h : i < l.length) : rd l (i : Int) = l[i] := by
  unfold rd
  rw [Int.toNat_natCast, List.getD_eq_getElem?_getD, List.getElem?_eq_getElem h]; rfl
def okAt (l : List Int) (i : Nat) : Prop := 0 ≤ rd l i ∧ rd l i < l.length ∧ ∀ k : Nat, k < i → rd l k ≠ rd l i
def isPerm (l : List Int) : Prop := 1 ≤ l.length ∧ l.length ≤ 12 ∧ ∀ i : Nat, i < l.length → okAt l i
theorem l6In_eq (a b c : Int) : spec_l6In.f a b c = some (decide (b ≤ a ∧ a ≤ c)) := by
  unfold spec_l6In.f
  by_cases h1 : a ≥ b
  · by_cases h2 : a ≤ c <;> simp [h1, h2]
  · simp [h1]
theorem specPerm_in (l : List Int) (hl : l.length ≤ 1048576) (i : Nat) (hi : i < l.length) : ∀ (d k : Nat), i - k = d → k ≤ i →
    ((∀ q : Nat, k ≤ q → q < i → rd l q ≠ rd l i) → ∀ r, Ev (fun z => spec_PermValid.l0 z l ((i + 1 : Nat) : Int)) r → Ev (fun z => spec_PermValid.l1 z l i k) r) ∧
    (¬ (∀ q : Nat, k ≤ q → q < i → rd l q ≠ rd l i) → Ev (fun z => spec_PermValid.l1 z l i k) false)
  | 0, k, hd, hk => by
    refine ⟨fun _ r h => Ev.s ?_, fun h => absurd (fun q h1 h2 => by omega) h⟩; simp only [spec_PermValid.l1, show ¬ (k : Int) < (i : Int) by omega, if_false]; rw [w64 (x := (i : Int) + 1) (by omega) (by omega), show ((i : Int) + 1) = ((i + 1 : Nat) : Int) by omega]; exact h
  | d + 1, k, hd, hk => by
    have ih := specPerm_in l hl i hi d (k + 1) (by omega) (by omega)
    have hw : wrap64 ((k : Int) + 1) = ((k + 1 : Nat) : Int) := by rw [w64 (by omega) (by omega)]; omega
    by_cases e : rd l k = rd l i
    · refine ⟨fun h => absurd e (h k (Nat.le_refl _) (by omega)), fun h => Ev.s ?_⟩
      simp only [spec_PermValid.l1, show (k : Int) < (i : Int) by omega, show (0 : Int) ≤ k by omega, show (k : Int) < (l.length : Int) by omega, show (0 : Int) ≤ i by omega, show (i : Int) < (l.length : Int) by omega, e, if_true]; exact Ev.const rfl
    · refine ⟨fun h r hr => Ev.s ?_, fun h => Ev.s ?_⟩
      · simp only [spec_PermValid.l1, show (k : Int) < (i : Int) by omega, show (0 : Int) ≤ k by omega, show (k : Int) < (l.length : Int) by omega, show (0 : Int) ≤ i by omega, show (i : Int) < (l.length : Int) by omega, e, if_true, if_false, hw]
        exact ih.1 (fun q h1 h2 => h q (by omega) h2) r hr
      · simp only [spec_PermValid.l1, show (k : Int) < (i : Int) by omega, show (0 : Int) ≤ k by omega, show (k : Int) < (l.length : Int) by omega, show (0 : Int) ≤ i by omega, show (i : Int) < (l.length : Int) by omega, e, if_true, if_false, hw]
        refine ih.2 fun h' => h fun q h1 h2 => ?_
        by_cases eq : q = k
        · rw [eq]; exact e
        · exact h' q (by omega) h2
theorem specPerm_run (l : List Int) (hl : l.length ≤ 1048576) : ∀ (d i : Nat), l.length - i = d → i ≤ l.length →
    ((∀ q : Nat, i ≤ q → q < l.length → okAt l q) → Ev (fun z => spec_PermValid.l0 z l i) (decide (1 ≤ (l.length : Int) ∧ (l.length : Int) ≤ 12))) ∧
    (¬ (∀ q : Nat, i ≤ q → q < l.length → okAt l q) → Ev (fun z => spec_PermValid.l0 z l i) false)
  | 0, i, hd, hi => by
    refine ⟨fun _ => Ev.s ?_, fun h => absurd (fun q h1 h2 => by omega) h⟩; simp only [spec_PermValid.l0, show ¬ (i : Int) < (l.length : Int) by omega, if_false, l6In_eq, Option.bind_some]; exact Ev.const rfl
  | d + 1, i, hd, hi => by
    have hlt : i < l.length := by omega
    have ih := specPerm_run l hl d (i + 1) (by omega) (by omega); have hin := specPerm_in l hl i hlt i 0 (by omega) (by omega); have hwl : wrap64 ((l.length : Int) - 1) = (l.length : Int) - 1 := w64 (by omega) (by omega)
    by_cases hr : 0 ≤ rd l i ∧ rd l i ≤ (l.length : Int) - 1
    · by_cases hn : ∀ q : Nat, 0 ≤ q → q < i → rd l q ≠ rd l i
      · refine ⟨fun h => Ev.s ?_, fun h => Ev.s ?_⟩
        · simp only [spec_PermValid.l0, show (i : Int) < (l.length : Int) by omega, show (0 : Int) ≤ i by omega, if_true, l6In_eq, Option.bind_some, hwl, hr, decide_true, and_self]
          exact hin.1 hn _ (ih.1 fun q h1 h2 => h q (by omega) h2)
        · simp only [spec_PermValid.l0, show (i : Int) < (l.length : Int) by omega, show (0 : Int) ≤ i by omega, if_true, l6In_eq, Option.bind_some, hwl, hr, decide_true, and_self]
          refine hin.1 hn _ (ih.2 fun h' => h fun q h1 h2 => ?_)
          by_cases e : q = i
          · rw [e]; exact ⟨hr.1, by omega, fun k hk => hn k (by omega) hk⟩
          · exact h' q (by omega) h2
      · refine ⟨fun h => absurd (fun q _ h2 => (h i (Nat.le_refl _) hlt).2.2 q h2) hn, fun h => Ev.s ?_⟩
        simp only [spec_PermValid.l0, show (i : Int) < (l.length : Int) by omega, show (0 : Int) ≤ i by omega, if_true, l6In_eq, Option.bind_some, hwl, hr, decide_true, and_self]; exact hin.2 hn
    · refine ⟨fun h => absurd ⟨(h i (Nat.le_refl _) hlt).1, by have := (h i (Nat.le_refl _) hlt).2.1; omega⟩ hr, fun h => Ev.s ?_⟩
      simp only [spec_PermValid.l0, show (i : Int) < (l.length : Int) by omega, show (0 : Int) ≤ i by omega, if_true, l6In_eq, Option.bind_some, hwl, hr, decide_false, Bool.false_eq_true, if_false]; exact Ev.const rfl
theorem implPerm_run (l : List Int) (hl : l.length ≤ 12) : ∀ (d i : Nat) (s : List Bool), l.length - i = d → i ≤ l.length → s.length = 12 → (∀ v : Nat, v < 12 → (s.getD v false = true ↔ ∃ k : Nat, k < i ∧ rd l k = v)) →
    ((∀ q : Nat, i ≤ q → q < l.length → okAt l q) → Ev (fun z => impl_PermValid.l0 z l s i) true) ∧
    (¬ (∀ q : Nat, i ≤ q → q < l.length → okAt l q) → Ev (fun z => impl_PermValid.l0 z l s i) false)
  | 0, i, s, hd, hi, hs, hv => by
    refine ⟨fun _ => Ev.s ?_, fun h => absurd (fun q h1 h2 => by omega) h⟩; simp only [impl_PermValid.l0, show ¬ (i : Int) < (l.length : Int) by omega, if_false]; exact Ev.const rfl
  | d + 1, i, s, hd, hi, hs, hv => by
    have hlt : i < l.length := by omega
    have hd1 : l.length - (i + 1) = d := by omega
    have hw : wrap64 ((i : Int) + 1) = ((i + 1 : Nat) : Int) := by rw [w64 (by omega) (by omega)]; omega
    by_cases h0 : rd l i < 0
    · refine ⟨fun h => absurd (h i (Nat.le_refl _) hlt).1 (by omega), fun h => Ev.s ?_⟩
      simp only [impl_PermValid.l0, show (i : Int) < (l.length : Int) by omega, show (0 : Int) ≤ i by omega, h0, if_true]; exact Ev.const rfl
    · by_cases h1 : rd l i ≥ (l.length : Int)
      · refine ⟨fun h => absurd (h i (Nat.le_refl _) hlt).2.1 (by omega), fun h => Ev.s ?_⟩
        simp only [impl_PermValid.l0, show (i : Int) < (l.length : Int) by omega, show (0 : Int) ≤ i by omega, h0, h1, if_true, if_false]; exact Ev.const rfl
      · have hvi := hv (rd l i).toNat (by omega)
        have hcast : (((rd l i).toNat : Nat) : Int) = rd l i := by omega
        rw [hcast] at hvi
        by_cases h2 : s.getD (rd l i).toNat false = true
        · obtain ⟨k, hk, hke⟩ := hvi.1 h2
          refine ⟨fun h => absurd hke ((h i (Nat.le_refl _) hlt).2.2 k hk), fun h => Ev.s ?_⟩; simp only [impl_PermValid.l0, show (i : Int) < (l.length : Int) by omega, show (0 : Int) ≤ i by omega, h0, h1, h2, if_true, if_false]; exact Ev.const rfl
        · have hnew : ∀ k : Nat, k < i → rd l k ≠ rd l i := fun k hk e => h2 (hvi.2 ⟨k, hk, e⟩)
          have ih := implPerm_run l hl d (i + 1) (s.set (rd l i).toNat true) hd1 hlt (by simpa using hs) (fun v hv12 => by
            by_cases ev : v = (rd l i).toNat
            · subst ev
              rw [List.getD_eq_getElem?_getD, List.getElem?_set_self (by omega)]; simp only [Option.getD_some, true_iff]; exact ⟨i, Nat.lt_succ_self i, hcast.symm⟩
            · rw [List.getD_eq_getElem?_getD, List.getElem?_set_ne (Ne.symm ev), ← List.getD_eq_getElem?_getD, hv v hv12]
              constructor
              · rintro ⟨k, hk, hke⟩; exact ⟨k, by omega, hke⟩
              · rintro ⟨k, hk, hke⟩
                by_cases e : k = i
                · subst e; omega
                · exact ⟨k, by omega, hke⟩)
          refine ⟨fun h => Ev.s ?_, fun h => Ev.s ?_⟩
          · simp only [impl_PermValid.l0, show (i : Int) < (l.length : Int) by omega, show (0 : Int) ≤ i by omega, h0, h1, h2, if_true, if_false, hw]
            exact ih.1 fun q g1 g2 => h q (by omega) g2
          · simp only [impl_PermValid.l0, show (i : Int) < (l.length : Int) by omega, show (0 : Int) ≤ i by omega, h0, h1, h2, if_true, if_false, hw]
            refine ih.2 fun h' => h fun q g1 g2 => ?_
            by_cases e : q = i
            · rw [e]; exact ⟨by omega, by omega, hnew⟩
            · exact h' q (by omega) g2
theorem permValid_both (l : List Int) (hl : l.length ≤ 1048576) : ∃ b : Bool, Ev (fun k => spec_PermValid.f k l) b ∧ Ev (fun k => impl_PermValid.f k l) b ∧ (b = true ↔ isPerm l) := by
  unfold spec_PermValid.f impl_PermValid.f
  have hs := specPerm_run l hl l.length 0 (by omega) (by omega)
  by_cases hall : ∀ q : Nat, 0 ≤ q → q < l.length → okAt l q
  · refine ⟨decide (1 ≤ (l.length : Int) ∧ (l.length : Int) ≤ 12), hs.1 hall, ?_, ?_⟩
    · by_cases h1 : (l.length : Int) < 1
      · simp only [h1, if_true]
        exact Ev.const (by congr 1; symm; rw [decide_eq_false_iff_not]; omega)
      · by_cases h2 : (l.length : Int) > 12
        · simp only [h1, h2, if_true, if_false]
          exact Ev.const (by congr 1; symm; rw [decide_eq_false_iff_not]; omega)
        · simp only [h1, h2, if_false]
          rw [decide_eq_true (by omega)]; refine (implPerm_run l (by omega) l.length 0 _ (by omega) (by omega) (by simp) fun v hv => ?_).1 hall
          constructor
          · intro h
            rw [List.getD_eq_getElem?_getD, List.getElem?_replicate, if_pos hv] at h
            cases h
          · rintro ⟨k, hk, _⟩; omega
    · rw [decide_eq_true_eq]
      exact ⟨fun h => ⟨by omega, by omega, fun i hi => hall i (by omega) hi⟩, fun h => ⟨by have := h.1; omega, by have := h.2.1; omega⟩⟩
  · refine ⟨false, hs.2 hall, ?_, ?_⟩
    · by_cases h1 : (l.length : Int) < 1
      · simp only [h1, if_true]; exact Ev.const rfl
      · by_cases h2 : (l.length : Int) > 12
        · simp only [h1, h2, if_true, if_false]; exact Ev.const rfl
        · simp only [h1, h2, if_false]
          refine (implPerm_run l (by omega) l.length 0 _ (by omega) (by omega) (by simp) fun v hv => ?_).2 hall
          constructor
          · intro h
            rw [List.getD_eq_getElem?_getD, List.getElem?_replicate, if_pos hv] at h
            cases h
          · rintro ⟨k, hk, _⟩; omega
    · exact ⟨fun h => (by cases h), fun h => absurd (fun q _ hq => h.2.2 q hq) hall⟩
def stl (n : Nat) : List Int := (List.range n).map fun (i : Nat) => (i : Int)
theorem stl_length (n : Nat) : (stl n).length = n := by simp [stl]
theorem stl_rd (n i : Nat) (h : i < n) : rd (stl n) i = i := by
  rw [rd_lt _ _ (by rw [stl_length]; exact h)]
  simp [stl]
theorem stl_succ (n : Nat) : stl (n + 1) = stl n ++ [(n : Int)] := by simp [stl, List.range_succ]
theorem rd_set_self (l : List Int) (i : Nat) (v : Int) (h : i < l.length) : rd (l.set i v) i = v := by
  rw [rd_lt _ _ (by simpa using h)]; simp
theorem rd_set_ne (l : List Int) (i j : Nat) (v : Int) (h : i ≠ j) : rd (l.set i v) j = rd l j := by
  unfold rd
  rw [Int.toNat_natCast, List.getD_eq_getElem?_getD, List.getD_eq_getElem?_getD, List.getElem?_set_ne h]
theorem rd_app_lt (l m : List Int) (i : Nat) (h : i < l.length) : rd (l ++ m) i = rd l i := by
  unfold rd
  rw [Int.toNat_natCast, List.getD_eq_getElem?_getD, List.getD_eq_getElem?_getD, List.getElem?_append_left h]
theorem list_ext (a b : List Int) (h : a.length = b.length) (hr : ∀ i : Nat, i < a.length → rd a i = rd b i) : a = b := by
  refine List.ext_getElem h fun i h1 h2 => ?_
  have := hr i h1
  rwa [rd_lt a i h1, rd_lt b i h2] at this
theorem same_run (n : Nat) (hn : n ≤ 1048576) : ∀ (d i : Nat), n - i = d → i ≤ n → Ev (fun k => spec_l1Same.l0 k n (stl i) i) (stl n)
  | 0, i, hd, hi => by
    refine Ev.s ?_; simp only [spec_l1Same.l0, show ¬ (i : Int) < (n : Int) by omega, if_false]
    have : i = n := by omega
    subst this; exact Ev.const rfl
  | d + 1, i, hd, hi => by
    refine Ev.s ?_; simp only [spec_l1Same.l0, show (i : Int) < (n : Int) by omega, if_true, stl_length, show i < 17592186044416 by omega]; rw [w64 (x := (i : Int) + 1) (by omega) (by omega), show ((i : Int) + 1) = ((i + 1 : Nat) : Int) by omega, ← stl_succ]; exact same_run n hn d (i + 1) (by omega) (by omega)
theorem same_ev (n : Nat) (hn : n ≤ 1048576) : Ev (fun k => spec_l1Same.f k n) (stl n) := by
  unfold spec_l1Same.f
  exact same_run n hn n 0 (by omega) (by omega)
theorem still_run (n : Nat) (hn : n ≤ 1048576) : ∀ (d i : Nat) (l : List Int), n - i = d → i ≤ n → l.length = n → l.take i = (stl n).take i → Ev (fun k => impl_still.l0 k l n i) (stl n)
  | 0, i, l, hd, hi, hl, ht => by
    refine Ev.s ?_; simp only [impl_still.l0, show ¬ (i : Int) < (n : Int) by omega, if_false]
    have : i = n := by omega
    subst this
    have e : (stl i).take i = stl i := by rw [List.take_of_length_le]; rw [stl_length]; exact Nat.le_refl _
    rw [e, List.take_of_length_le (by omega)] at ht; exact Ev.const (by rw [ht])
  | d + 1, i, l, hd, hi, hl, ht => by
    have hlt : i < l.length := by omega
    refine Ev.s ?_; simp only [impl_still.l0, show (i : Int) < (n : Int) by omega, show (0 : Int) ≤ i by omega, show (i : Int) < (l.length : Int) by omega, if_true]; rw [w64 (x := (i : Int) + 1) (by omega) (by omega), show ((i : Int) + 1) = ((i + 1 : Nat) : Int) by omega, Int.toNat_natCast]; refine still_run n hn d (i + 1) _ (by omega) (by omega) (by simpa using hl) ?_
    have h2 : i < (stl n).length := by rw [stl_length]; omega
    rw [List.take_succ_eq_append_getElem (by simpa using hlt), List.take_succ_eq_append_getElem h2, List.take_set_of_le (Nat.le_refl _), ht]
    simp [stl]
theorem still_ev (n : Nat) (hn : n ≤ 1048576) : Ev (fun k => impl_still.f k n) (stl n) := by
  unfold impl_still.f
  have h1 : n ≤ 35184372088832 := by omega
  have h2 : (0 : Int) ≤ (n : Int) := by omega
  simp only [Int.toNat_natCast, h1, h2, if_true, Option.bind_some, List.length_replicate]; exact still_run n hn n 0 _ (by omega) (by omega) (by simp) (by simp)
def inR (n : Nat) (p : List Int) : Prop := p.length = n ∧ ∀ i : Nat, i < n → 0 ≤ rd p i ∧ rd p i < n
def closedL (ps : List (List Int)) (n : Nat) (S : Nat → Prop) : Prop := ∀ p ∈ ps, ∀ k, k < n → (S k ↔ S (rd p k).toNat)
def Reach (ps : List (List Int)) (n : Nat) (i j : Nat) : Prop := ∀ S, closedL ps n S → (S i ↔ S j)
theorem Reach.refl (ps : List (List Int)) (n i : Nat) : Reach ps n i i := fun S _ => Iff.rfl
theorem Reach.symm {ps : List (List Int)} {n i j : Nat} (h : Reach ps n i j) : Reach ps n j i := fun S c => (h S c).symm
theorem Reach.trans {ps : List (List Int)} {n i j k : Nat} (h : Reach ps n i j) (h' : Reach ps n j k) : Reach ps n i k := fun S c => (h S c).trans (h' S c)
theorem Reach.step {ps : List (List Int)} {n : Nat} {p : List Int} (hp : p ∈ ps) {k : Nat} (hk : k < n) : Reach ps n k (rd p k).toNat := fun S c => c p hp k hk
def orbI (ps : List (List Int)) (n : Nat) (o : List Int) : Prop := o.length = n ∧ ∀ i : Nat, i < n → 0 ≤ rd o i ∧ rd o i ≤ i ∧ Reach ps n (rd o i).toNat i
def orbOk (ps : List (List Int)) (n : Nat) (o : List Int) : Prop := orbI ps n o ∧ ∀ p ∈ ps, ∀ i : Nat, i < n → rd o (rd p i) = rd o i
theorem stl_orbI (ps : List (List Int)) (n : Nat) : orbI ps n (stl n) := by
  refine ⟨stl_length n, fun i hi => ?_⟩; rw [stl_rd n i hi]; exact ⟨by omega, by omega, by rw [Int.toNat_natCast]; exact Reach.refl _ _ _⟩
theorem orbOk_const {ps : List (List Int)} {n : Nat} {o : List Int} (h : orbOk ps n o) (hp : ∀ p ∈ ps, inR n p) {i j : Nat} (hr : Reach ps n i j) : rd o i = rd o j := by
  have := hr (fun k => rd o k = rd o i) (fun p hp' k hk => by
    have h1 := h.2 p hp' k hk; have h2 := (hp p hp').2 k hk
    have e : (((rd p k).toNat : Nat) : Int) = rd p k := by omega
    show (rd o k = rd o i) ↔ (rd o (((rd p k).toNat : Nat) : Int) = rd o i)
    rw [e, h1])
  exact (this.1 rfl).symm
theorem orbOk_le {ps : List (List Int)} {n : Nat} {o o' : List Int} (h : orbOk ps n o) (h' : orbI ps n o') (hp : ∀ p ∈ ps, inR n p) {i : Nat} (hi : i < n) : rd o i ≤ rd o' i := by
  obtain ⟨g0, g1, g2⟩ := h'.2 i hi; have e := orbOk_const h hp g2
  have hlt : (rd o' i).toNat < n := by omega
  have := (h.1.2 _ hlt).2.1
  have e2 : (((rd o' i).toNat : Nat) : Int) = rd o' i := by omega
  omega
theorem mn_le (a b : Int) : mn a b ≤ a ∧ mn a b ≤ b ∧ (mn a b = a ∨ mn a b = b) := by unfold mn; split <;> omega
theorem orbI_put {ps : List (List Int)} {n : Nat} {o : List Int} (h : orbI ps n o) {i : Nat} (hi : i < n) {v : Int} (h0 : 0 ≤ v) (h1 : v ≤ i) (hr : Reach ps n v.toNat i) : orbI ps n (o.set i v) := by
  refine ⟨by simpa using h.1, fun j hj => ?_⟩
  by_cases e : i = j
  · subst e
    rw [rd_set_self _ _ _ (by rw [h.1]; exact hi)]; exact ⟨h0, h1, hr⟩
  · rw [rd_set_ne _ _ _ _ e]
    exact h.2 j hj
def tot : List Int → Int
  | [] => 0
  | x :: xs => x + tot xs
theorem tot_set : ∀ (l : List Int) (i : Nat) (v : Int), i < l.length → tot (l.set i v) + rd l i = tot l + v
  | [], i, v, h => by simp at h
  | x :: xs, 0, v, h => by simp [tot, rd]; omega
  | x :: xs, i + 1, v, h => by
    have ih := tot_set xs i v (by simpa using h)
    have e : rd (x :: xs) ((i + 1 : Nat) : Int) = rd xs i := by unfold rd; rw [Int.toNat_natCast, Int.toNat_natCast]; rfl
    rw [e]; simp only [List.set_cons_succ, tot]; omega
theorem tot_nonneg : ∀ (l : List Int), (∀ i : Nat, i < l.length → 0 ≤ rd l i) → 0 ≤ tot l
  | [], _ => by simp [tot]
  | x :: xs, h => by
    have h0 := h 0 (by simp); have e0 : rd (x :: xs) ((0 : Nat) : Int) = x := rfl; rw [e0] at h0
    have := tot_nonneg xs fun i hi => by
      have := h (i + 1) (by simpa using hi)
      have e : rd (x :: xs) ((i + 1 : Nat) : Int) = rd xs i := by unfold rd; rw [Int.toNat_natCast, Int.toNat_natCast]; rfl
      rwa [e] at this
    simp only [tot]; omega
theorem rdL_nth (ps : List (List Int)) (q : Nat) (h : q < ps.length) : rd_L1 ps (q : Int) = ps[q] := by
  have e : (q : Int).toNat = q := Int.toNat_natCast q
  unfold rd_L1
  rw [e, List.getD_eq_getElem?_getD, List.getElem?_eq_getElem h]; rfl
theorem implOrb_in (ps : List (List Int)) (n : Nat) (hn : n ≤ 12) (q : Nat) (hq : q < ps.length) (hL : ps.length ≤ 1048576) (P : List Int) (hP : P ∈ ps) (pl : P.length = n) (pr : ∀ i : Nat, i < n → 0 ≤ rd P i ∧ rd P i < n) : ∀ (d i : Nat) (o : List Int) (g : Bool), n - i = d → i ≤ n → orbI ps n o →
    ∃ (o' : List Int) (g' : Bool), orbI ps n o' ∧ (∀ r, Ev (fun k => impl_orbits.l1 k ps o' g' ps ps.length ((q + 1 : Nat) : Int)) r → Ev (fun k => impl_orbits.l2 k ps o g ps ps.length q P n i) r) ∧ tot o' ≤ tot o ∧
      (g' = true → g = true ∨ tot o' < tot o) ∧ (g' = false → g = false ∧ o' = o ∧ ∀ j : Nat, i ≤ j → j < n → rd o (rd P j) = rd o j)
  | 0, i, o, g, hd, hi, ho => by
    refine ⟨o, g, ho, fun r h => Ev.s ?_, by omega, fun h => .inl h, fun h => ⟨h, rfl, fun j h1 h2 => by omega⟩⟩; simp only [impl_orbits.l2, show ¬ (i : Int) < (n : Int) by omega, if_false]; rw [w64 (x := (q : Int) + 1) (by omega) (by omega), show ((q : Int) + 1) = ((q + 1 : Nat) : Int) by omega]; exact h
  | d + 1, i, o, g, hd, hi, ho => by
    have hlt : i < n := by omega
    have hd1 : n - (i + 1) = d := by omega
    have hw : wrap64 ((i : Int) + 1) = ((i + 1 : Nat) : Int) := by rw [w64 (by omega) (by omega)]; omega
    have hr := pr i hlt; have hst := Reach.step hP hlt; have hlen := ho.1; obtain ⟨t, ht⟩ : ∃ t : Nat, rd P i = t := ⟨(rd P i).toNat, by omega⟩; rw [ht, Int.toNat_natCast] at hst
    have htn : t < n := by omega
    obtain ⟨i0, i1, i2⟩ := ho.2 i hlt; obtain ⟨t0, t1, t2⟩ := ho.2 t htn; obtain ⟨hm1, hm2, hm3⟩ := mn_le (rd o i) (rd o t)
    have g1 : (i : Int) < (n : Int) := by omega
    have g2 : (0 : Int) ≤ (i : Int) := by omega
    have g3 : (0 : Int) ≤ (t : Int) := by omega
    have g4 : (t : Int) < (n : Int) := by omega
    obtain ⟨v, hv⟩ : ∃ v, mn (rd o i) (rd o t) = v := ⟨_, rfl⟩; rw [hv] at hm1 hm2 hm3
    by_cases hc : rd o i = v ∧ rd o t = v
    · obtain ⟨c1, c2⟩ := hc
      obtain ⟨o', g', a1, a2, a3, a4, a5⟩ := implOrb_in ps n hn q hq hL P hP pl pr d (i + 1) o g hd1 hlt ho; refine ⟨o', g', a1, fun r h => Ev.s ?_, a3, a4, fun h => ?_⟩
      · simp only [impl_orbits.l2, g1, g2, g3, g4, pl, hlen, ht, hv, if_true, hw]
        simp only [c1, c2, if_true]; exact a2 r h
      · obtain ⟨b1, b2, b3⟩ := a5 h
        refine ⟨b1, b2, fun j h1 h2 => ?_⟩
        by_cases e : j = i
        · rw [e, ht]; omega
        · exact b3 j (by omega) h2
    · have hv0 : 0 ≤ v := by omega
      have hrv : Reach ps n v.toNat i := by
        rcases hm3 with e | e
        · rw [e]; exact i2
        · rw [e]; exact t2.trans hst.symm
      have ho1 := orbI_put ho hlt hv0 (by omega) hrv; have ho2 := orbI_put ho1 htn hv0 (by omega) (hrv.trans hst)
      have hd2 : tot ((o.set i v).set t v) < tot o := by
        have z1 := tot_set o i v (by omega); have z2 := tot_set (o.set i v) t v (by rw [List.length_set]; omega)
        by_cases e : i = t
        · subst e
          rw [rd_set_self _ _ _ (by omega)] at z2; omega
        · rw [rd_set_ne _ _ _ _ e] at z2
          omega
      obtain ⟨o', g', a1, a2, a3, a4, a5⟩ := implOrb_in ps n hn q hq hL P hP pl pr d (i + 1) ((o.set i v).set t v) true hd1 hlt ho2; refine ⟨o', g', a1, fun r h => Ev.s ?_, by omega, fun h => .inr (by omega), fun h => ?_⟩
      · have hgo := a2 r h
        by_cases c1 : rd o i = v
        · have c2 : ¬ rd o t = v := fun e => hc ⟨c1, e⟩
          simp only [impl_orbits.l2, g1, g2, g3, g4, pl, hlen, ht, hv, if_true, hw, Int.toNat_natCast]; simp only [c1, c2, if_true, if_false]; exact hgo
        · simp only [impl_orbits.l2, g1, g2, g3, g4, pl, hlen, ht, hv, if_true, hw, Int.toNat_natCast]
          simp only [c1, if_false]; exact hgo
      · have := (a5 h).1
        cases this
theorem implOrb_pass (ps : List (List Int)) (n : Nat) (hn : n ≤ 12) (hL : ps.length ≤ 1048576) (hp : ∀ p ∈ ps, inR n p) : ∀ (d q : Nat) (o : List Int) (g : Bool), ps.length - q = d → q ≤ ps.length → orbI ps n o →
    ∃ (o' : List Int) (g' : Bool), orbI ps n o' ∧ (∀ r, Ev (fun k => impl_orbits.l0 k ps o' g') r → Ev (fun k => impl_orbits.l1 k ps o g ps ps.length q) r) ∧ tot o' ≤ tot o ∧
      (g' = true → g = true ∨ tot o' < tot o) ∧ (g' = false → g = false ∧ o' = o ∧ ∀ z : Nat, q ≤ z → z < ps.length → ∀ j : Nat, j < n → rd o (rd (rd_L1 ps z) j) = rd o j)
  | 0, q, o, g, hd, hi, ho => by
    refine ⟨o, g, ho, fun r h => Ev.s ?_, by omega, fun h => .inl h, fun h => ⟨h, rfl, fun j h1 h2 => by omega⟩⟩; simp only [impl_orbits.l1, show ¬ (q : Int) < (ps.length : Int) by omega, if_false]; exact h
  | d + 1, q, o, g, hd, hi, ho => by
    have hlt : q < ps.length := by omega
    have hd1 : ps.length - (q + 1) = d := by omega
    have hP : rd_L1 ps q ∈ ps := by rw [rdL_nth ps q hlt]; exact List.getElem_mem hlt
    obtain ⟨pl, pr⟩ := hp _ hP; obtain ⟨o1, b1, c1, c2, c3, c4, c5⟩ := implOrb_in ps n hn q hlt hL _ hP pl pr n 0 o g (by omega) (by omega) ho; obtain ⟨o2, b2, e1, e2, e3, e4, e5⟩ := implOrb_pass ps n hn hL hp d (q + 1) o1 b1 hd1 hlt c1; refine ⟨o2, b2, e1, fun r h => Ev.s ?_, by omega, fun h => ?_, fun h => ?_⟩
    · simp only [impl_orbits.l1, show (q : Int) < (ps.length : Int) by omega, show (0 : Int) ≤ (q : Int) by omega, if_true, pl]
      exact c2 r (e2 r h)
    · rcases e4 h with z | z
      · rcases c4 z with y | y
        · exact .inl y
        · exact .inr (by omega)
      · exact .inr (by omega)
    · obtain ⟨f1, f2, f3⟩ := e5 h
      obtain ⟨g1, g2, g3⟩ := c5 f1; refine ⟨g1, f2.trans g2, fun z hz hz' j hj => ?_⟩
      by_cases e : z = q
      · rw [e]; exact g3 j (by omega) hj
      · have := f3 z (by omega) hz' j hj
        rwa [g2] at this
theorem implOrb_loop (ps : List (List Int)) (n : Nat) (hn : n ≤ 12) (hL : ps.length ≤ 1048576) (hp : ∀ p ∈ ps, inR n p) : ∀ (m : Nat) (o : List Int), tot o ≤ m → orbI ps n o → ∃ o', orbOk ps n o' ∧ Ev (fun k => impl_orbits.l0 k ps o true) o' := by
  intro m
  induction m using Nat.strongRecOn with
  | _ m ih =>
    intro o hm ho; obtain ⟨o1, g1, c1, c2, c3, c4, c5⟩ := implOrb_pass ps n hn hL hp ps.length 0 o false (by omega) (by omega) ho
    cases g1 with
    | false =>
      obtain ⟨_, e2, e3⟩ := c5 rfl; refine ⟨o, ⟨ho, fun p hp' i hi => ?_⟩, Ev.s ?_⟩
      · obtain ⟨z, hz, rfl⟩ := List.mem_iff_getElem.1 hp'
        have := e3 z (by omega) hz i hi
        rwa [rdL_nth ps z hz] at this
      · simp only [impl_orbits.l0, if_true]
        refine c2 o (Ev.s ?_); simp only [impl_orbits.l0, Bool.false_eq_true, if_false]; exact Ev.const (by rw [e2])
    | true =>
      have hlt : tot o1 < tot o := by
        rcases c4 rfl with z | z
        · cases z
        · exact z
      have h0 := tot_nonneg o1 fun i hi => (c1.2 i (by rw [← c1.1]; exact hi)).1
      obtain ⟨o', h1, h2⟩ := ih (tot o1).toNat (by omega) o1 (by omega) c1; refine ⟨o', h1, Ev.s ?_⟩; simp only [impl_orbits.l0, if_true]; exact c2 o' h2
theorem implOrb_ev (ps : List (List Int)) (n : Nat) (hn : n ≤ 12) (h0 : 0 < ps.length) (hL : ps.length ≤ 1048576) (hp : ∀ p ∈ ps, inR n p) : ∃ o, orbOk ps n o ∧ Ev (fun k => impl_orbits.f k ps) o := by
  obtain ⟨o, h1, h2⟩ := implOrb_loop ps n hn hL hp (tot (stl n)).toNat (stl n) (by have := tot_nonneg (stl n) (fun i hi => by rw [stl_rd n i (by rwa [stl_length] at hi)]; omega); omega) (stl_orbI ps n); refine ⟨o, h1, ?_⟩
  unfold impl_orbits.f
  have hz : (rd_L1 ps 0).length = n := by
    have := rdL_nth ps 0 h0; rw [show ((0 : Nat) : Int) = 0 from rfl] at this; rw [this]; exact (hp _ (List.getElem_mem h0)).1
  simp only [show (0 : Int) < (ps.length : Int) by omega, if_true, hz]; exact Ev.bind (still_ev n (by omega)) h2
def lag (o g : List Int) : Nat → Nat
  | 0 => 0
  | i + 1 => (if rd o i = rd g i then 0 else 1) + lag o g i
theorem lag_le (o g : List Int) : ∀ i, lag o g i ≤ i
  | 0 => Nat.le_refl _
  | i + 1 => by have := lag_le o g i; simp only [lag]; split <;> omega
theorem lag_zero (o g : List Int) : ∀ n, lag o g n = 0 → ∀ i, i < n → rd o i = rd g i
  | 0, _, i, h => by omega
  | n + 1, hz, i, h => by
    simp only [lag] at hz
    by_cases e : i = n
    · subst e
      by_cases c : rd o i = rd g i
      · exact c
      · rw [if_neg c] at hz; omega
    · exact lag_zero o g n (by omega) i (by omega)
theorem lag_mono (o o' g : List Int) (h : ∀ i : Nat, rd o i = rd g i → rd o' i = rd g i) : ∀ n, lag o' g n ≤ lag o g n
  | 0 => Nat.le_refl _
  | n + 1 => by
    have ih := lag_mono o o' g h n; simp only [lag]
    by_cases c : rd o n = rd g n
    · rw [if_pos c, if_pos (h n c)]; omega
    · rw [if_neg c]; split <;> omega
theorem lag_lt (o o' g : List Int) (h : ∀ i : Nat, rd o i = rd g i → rd o' i = rd g i) (z : Nat) (hz : rd o z ≠ rd g z) (hz' : rd o' z = rd g z) : ∀ n, z < n → lag o' g n < lag o g n
  | 0, hn => by omega
  | n + 1, hn => by
    simp only [lag]
    by_cases e : z = n
    · subst e
      have := lag_mono o o' g h z; rw [if_neg hz, if_pos hz']; omega
    · have ih := lag_lt o o' g h z hz hz' n (by omega)
      by_cases c : rd o n = rd g n
      · rw [if_pos c, if_pos (h n c)]; omega
      · rw [if_neg c]; split <;> omega
theorem mn_eq (a b : Int) : mn a b = if a ≤ b then a else b := by unfold mn; split <;> split <;> omega
theorem specOrb_sweep (t f : List Int) (n : Nat) (hn : n ≤ 12) (ht : inR n t) (hf : inR n f) (g : List Int) (hg : orbOk [t, f] n g) (round : Int) : ∀ (d i : Nat) (o : List Int), n - i = d → i ≤ n → orbI [t, f] n o →
    ∃ o', orbI [t, f] n o' ∧ (∀ r, Ev (fun k => spec_l1Orbits.l0 k t f o' (wrap64 (round + 1))) r → Ev (fun k => spec_l1Orbits.l1 k t f o round i) r) ∧ (∀ z : Nat, z < n → rd o z = rd g z → rd o' z = rd g z) ∧
      (∀ j : Nat, i ≤ j → j < n → (rd o j = rd g j ∨ rd o (rd t j) = rd g (rd t j) ∨ rd o (rd f j) = rd g (rd f j)) → rd o' j = rd g j ∧ rd o' (rd t j) = rd g (rd t j) ∧ rd o' (rd f j) = rd g (rd f j))
  | 0, i, o, hd, hi, ho => by
    refine ⟨o, ho, fun r h => Ev.s ?_, fun z _ h => h, fun j h1 h2 => by omega⟩; simp only [spec_l1Orbits.l1, ht.1, show ¬ (i : Int) < (n : Int) by omega, if_false]; exact h
  | d + 1, i, o, hd, hi, ho => by
    have hlt : i < n := by omega
    have hd1 : n - (i + 1) = d := by omega
    have hw : wrap64 ((i : Int) + 1) = ((i + 1 : Nat) : Int) := by rw [w64 (by omega) (by omega)]; omega
    have hps : ∀ p ∈ [t, f], inR n p := by intro p hp; simp at hp; rcases hp with rfl | rfl <;> assumption
    have hra := ht.2 i hlt; have hrb := hf.2 i hlt; have sta := Reach.step (ps := [t, f]) (p := t) (by simp) hlt; have stb := Reach.step (ps := [t, f]) (p := f) (by simp) hlt; have ca := hg.2 t (by simp) i hlt; have cb := hg.2 f (by simp) i hlt; obtain ⟨a, hta⟩ : ∃ a : Nat, rd t i = a := ⟨(rd t i).toNat, by omega⟩; obtain ⟨b, hfb⟩ : ∃ b : Nat, rd f i = b := ⟨(rd f i).toNat, by omega⟩; rw [hta, Int.toNat_natCast] at sta; rw [hfb, Int.toNat_natCast] at stb; rw [hta] at ca; rw [hfb] at cb
    have han : a < n := by omega
    have hbn : b < n := by omega
    have hlen := ho.1; obtain ⟨i0, i1, i2⟩ := ho.2 i hlt; obtain ⟨a0, a1, a2⟩ := ho.2 a han; obtain ⟨b0, b1, b2⟩ := ho.2 b hbn; have li := orbOk_le hg ho hps hlt; have la := orbOk_le hg ho hps han; have lb := orbOk_le hg ho hps hbn; obtain ⟨v, hv⟩ : ∃ v, mn (rd o i) (mn (rd o a) (rd o b)) = v := ⟨_, rfl⟩
    have hvm : v ≤ rd o i ∧ v ≤ rd o a ∧ v ≤ rd o b ∧ (v = rd o i ∨ v = rd o a ∨ v = rd o b) := by
      rw [← hv, mn_eq, mn_eq]
      split <;> split at * <;> omega
    have hv0 : 0 ≤ v := by omega
    have hrv : Reach [t, f] n v.toNat i := by
      rcases hvm.2.2.2 with e | e | e
      · rw [e]; exact i2
      · rw [e]; exact a2.trans sta.symm
      · rw [e]; exact b2.trans stb.symm
    have ho1 := orbI_put ho hlt hv0 (by omega) hrv; have ho2 := orbI_put ho1 han hv0 (by omega) (hrv.trans sta); have ho3 := orbI_put ho2 hbn hv0 (by omega) (hrv.trans stb); obtain ⟨o3, ho3e⟩ : ∃ o3, ((o.set i v).set a v).set b v = o3 := ⟨_, rfl⟩; rw [ho3e] at ho3
    have rdo3 : ∀ z : Nat, rd o3 z = if z = i ∨ z = a ∨ z = b then v else rd o z := by
      intro z; rw [← ho3e]
      by_cases z3 : b = z
      · subst z3; rw [rd_set_self _ _ _ (by simp; omega)]; simp
      · rw [rd_set_ne _ _ _ _ z3]
        by_cases z2 : a = z
        · subst z2; rw [rd_set_self _ _ _ (by simp; omega)]; simp
        · rw [rd_set_ne _ _ _ _ z2]
          by_cases z1 : i = z
          · subst z1; rw [rd_set_self _ _ _ (by omega)]; simp
          · rw [rd_set_ne _ _ _ _ z1, if_neg (by omega)]
    have keep3 : ∀ z : Nat, z < n → rd o z = rd g z → rd o3 z = rd g z := by
      intro z hz e; have l3 := orbOk_le hg ho3 hps hz; rw [rdo3 z] at l3 ⊢
      by_cases c : z = i ∨ z = a ∨ z = b
      · rw [if_pos c] at l3 ⊢
        have : v ≤ rd o z := by rcases c with rfl | rfl | rfl <;> omega
        omega
      · rw [if_neg c]; exact e
    obtain ⟨o', c1, c2, c3, c4⟩ := specOrb_sweep t f n hn ht hf g hg round d (i + 1) o3 hd1 hlt ho3; refine ⟨o', c1, fun r h => Ev.s ?_, fun z hz e => c3 z hz (keep3 z hz e), fun j h1 h2 hj => ?_⟩
    · have hgo := c2 r h
      have g1 : (i : Int) < (n : Int) := by omega
      have g2 : (0 : Int) ≤ (i : Int) := by omega
      have g3 : (0 : Int) ≤ (a : Int) := by omega
      have g4 : (a : Int) < (n : Int) := by omega
      have g5 : (0 : Int) ≤ (b : Int) := by omega
      have g6 : (b : Int) < (n : Int) := by omega
      simp only [spec_l1Orbits.l1, ht.1, hf.1, hlen, g1, g2, g3, g4, g5, g6, hta, hfb, hv, if_true, hw, Int.toNat_natCast, ho3e]; exact hgo
    · by_cases e : j = i
      · subst e
        have l3 := orbOk_le hg ho3 hps hlt
        have e3 : rd o3 j = v := by rw [rdo3 j, if_pos (.inl rfl)]
        have ea3 : rd o3 a = v := by rw [rdo3 a, if_pos (.inr (.inl rfl))]
        have eb3 : rd o3 b = v := by rw [rdo3 b, if_pos (.inr (.inr rfl))]
        rw [hta, hfb] at hj ⊢
        have hvg : v = rd g j := by
          rcases hj with z | z | z <;> omega
        exact ⟨c3 j hlt (by omega), c3 a han (by omega), c3 b hbn (by omega)⟩
      · refine c4 j (by omega) h2 ?_
        have hta' := ht.2 j h2; have hfb' := hf.2 j h2; obtain ⟨a', ha'⟩ : ∃ a' : Nat, rd t j = a' := ⟨(rd t j).toNat, by omega⟩; obtain ⟨b', hb'⟩ : ∃ b' : Nat, rd f j = b' := ⟨(rd f j).toNat, by omega⟩; rw [ha', hb'] at hj ⊢
        rcases hj with z | z | z
        · exact .inl (keep3 j h2 z)
        · exact .inr (.inl (keep3 a' (by omega) z))
        · exact .inr (.inr (keep3 b' (by omega) z))
theorem specOrb_loop (t f : List Int) (n : Nat) (hn : n ≤ 12) (ht : inR n t) (hf : inR n f) (g : List Int) (hg : orbOk [t, f] n g) : ∀ (d i : Nat) (o : List Int), n - i = d → i ≤ n → orbI [t, f] n o → lag o g n ≤ d → Ev (fun k => spec_l1Orbits.l0 k t f o i) g
  | 0, i, o, hd, hi, ho, hl => by
    refine Ev.s ?_; simp only [spec_l1Orbits.l0, ht.1, show ¬ (i : Int) < (n : Int) by omega, if_false]
    have : o = g := list_ext o g (ho.1.trans hg.1.1.symm) fun z hz => lag_zero o g n (by omega) z (by rw [← ho.1]; exact hz)
    exact Ev.const (by rw [this])
  | d + 1, i, o, hd, hi, ho, hl => by
    have hlt : i < n := by omega
    have hd1 : n - (i + 1) = d := by omega
    have hw : wrap64 ((i : Int) + 1) = ((i + 1 : Nat) : Int) := by rw [w64 (by omega) (by omega)]; omega
    have hps : ∀ p ∈ [t, f], inR n p := by intro p hp; simp at hp; rcases hp with rfl | rfl <;> assumption
    obtain ⟨o', c1, c2, c3, c4⟩ := specOrb_sweep t f n hn ht hf g hg i n 0 o (by omega) (by omega) ho; refine Ev.s ?_; simp only [spec_l1Orbits.l0, ht.1, show (i : Int) < (n : Int) by omega, if_true]; refine c2 g ?_; rw [hw]; refine specOrb_loop t f n hn ht hf g hg d (i + 1) o' hd1 hlt c1 ?_
    have hout : ∀ z : Nat, ¬ z < n → rd o z = rd o' z := by
      intro z hz
      unfold rd
      rw [Int.toNat_natCast, List.getD_eq_getElem?_getD, List.getD_eq_getElem?_getD, List.getElem?_eq_none (by rw [ho.1]; omega), List.getElem?_eq_none (by rw [c1.1]; omega)]
    have keep : ∀ z : Nat, rd o z = rd g z → rd o' z = rd g z := fun z e => by
      by_cases hz : z < n
      · exact c3 z hz e
      · rw [← hout z hz]; exact e
    by_cases hz : lag o g n = 0
    · have := lag_mono o o' g keep n
      omega
    · -- some point has not its label: some step leads from one that has it to one that has it not
      have hex : ∃ z : Nat, z < n ∧ rd o z ≠ rd g z ∧ rd o' z = rd g z := by
        refine Classical.byContradiction fun hno => ?_
        have hsame : ∀ z : Nat, z < n → (rd o z = rd g z ↔ rd o' z = rd g z) := fun z hz => ⟨keep z, fun e => Classical.byContradiction fun hne => hno ⟨z, hz, hne, e⟩⟩
        have hcl : closedL [t, f] n (fun z => rd o z = rd g z) := by
          intro p hp k hk; have hr := (hps p hp).2 k hk; obtain ⟨a, ha⟩ : ∃ a : Nat, rd p k = a := ⟨(rd p k).toNat, by omega⟩
          have han : a < n := by omega
          rw [ha, Int.toNat_natCast]
          show rd o k = rd g k ↔ rd o a = rd g a
          have h4 := c4 k (by omega) hk
          simp at hp
          rcases hp with rfl | rfl
          · rw [ha] at h4
            exact ⟨fun e => (hsame a han).2 (h4 (.inl e)).2.1, fun e => (hsame k hk).2 (h4 (.inr (.inl e))).1⟩
          · rw [ha] at h4
            exact ⟨fun e => (hsame a han).2 (h4 (.inl e)).2.2, fun e => (hsame k hk).2 (h4 (.inr (.inr e))).1⟩
        have hall : ∀ z : Nat, z < n → rd o z = rd g z := by
          intro z hz; obtain ⟨g0, g1, g2⟩ := hg.1.2 z hz
          have hm : (rd g z).toNat < n := by omega
          have e1 : ((rd g z).toNat : Int) = rd g z := by omega
          have hgm : rd g ((rd g z).toNat : Nat) = rd g z := orbOk_const hg hps g2
          have hom : rd o ((rd g z).toNat : Nat) = rd g ((rd g z).toNat : Nat) := by
            have h1 := orbOk_le hg ho hps hm; have h2 := (ho.2 _ hm).2.1; omega
          exact (g2 _ hcl).1 hom
        have : lag o g n = 0 := by
          have hz0 : ∀ m, m ≤ n → lag o g m = 0 := by
            intro m
            induction m with
            | zero => intro _; rfl
            | succ m ih => intro hm; simp only [lag]; rw [if_pos (hall m (by omega)), ih (by omega)]
          exact hz0 n (Nat.le_refl _)
        exact hz this
      obtain ⟨z, z1, z2, z3⟩ := hex; have := lag_lt o o' g keep z z2 z3 n z1; omega
theorem orb_both (t f : List Int) (n : Nat) (hn : n ≤ 12) (h1 : 1 ≤ n) (ht : inR n t) (hf : inR n f) : ∃ o, orbOk [t, f] n o ∧ Ev (fun k => spec_l1Orbits.f k t f) o ∧ Ev (fun k => impl_orbits.f k [t, f]) o := by
  have hps : ∀ p ∈ [t, f], inR n p := by intro p hp; simp at hp; rcases hp with rfl | rfl <;> assumption
  obtain ⟨o, ho, he⟩ := implOrb_ev [t, f] n hn (by simp) (by simp) hps; refine ⟨o, ho, ?_, he⟩
  unfold spec_l1Orbits.f
  rw [ht.1]; refine Ev.bind (same_ev n (by omega)) ?_; refine specOrb_loop t f n hn ht hf o ho n 0 (stl n) (by omega) (by omega) (stl_orbI _ n) ?_; exact lag_le _ _ n
theorem isPerm_inR (l : List Int) (h : isPerm l) : inR l.length l := ⟨rfl, fun i hi => ⟨(h.2.2 i hi).1, (h.2.2 i hi).2.1⟩⟩
def flipAt (f : List Int) (i : Nat) : Prop := rd f i ≠ i ∧ rd f (rd f i) = i
def isMap (t f : List Int) : Prop := isPerm t ∧ isPerm f ∧ t.length = f.length ∧ (∀ i : Nat, i < f.length → flipAt f i) ∧ ∀ i j : Nat, i < f.length → j < f.length → Reach [t, f] f.length i j
def maxF : List Int → Int → Int
  | [], m => m
  | x :: xs, m => maxF xs (mx m x)
theorem maxF_zero : ∀ (l : List Int) (m : Int), 0 ≤ m → (∀ x ∈ l, 0 ≤ x) → 0 ≤ maxF l m ∧ (maxF l m = 0 ↔ m = 0 ∧ ∀ x ∈ l, x = 0)
  | [], m, hm, _ => by simp [maxF, hm]
  | x :: xs, m, hm, hx => by
    have hx0 := hx x (by simp)
    have hmx : 0 ≤ mx m x ∧ (mx m x = 0 ↔ m = 0 ∧ x = 0) := by unfold mx; split <;> omega
    obtain ⟨h1, h2⟩ := maxF_zero xs (mx m x) hmx.1 fun y hy => hx y (by simp [hy])
    refine ⟨h1, ?_⟩; simp only [maxF, h2, hmx.2, List.mem_cons, forall_eq_or_imp, and_assoc]
theorem max_run (l : List Int) (hl : l.length ≤ 1048576) : ∀ (d i : Nat) (m : Int), l.length - i = d → i ≤ l.length → Ev (fun k => slices_Max_int_int.l0 k l m i) (maxF (l.drop i) m)
  | 0, i, m, hd, hi => by
    refine Ev.s ?_; simp only [slices_Max_int_int.l0, show ¬ (i : Int) < (l.length : Int) by omega, if_false]; rw [List.drop_eq_nil_of_le (by omega)]; exact Ev.const rfl
  | d + 1, i, m, hd, hi => by
    have hlt : i < l.length := by omega
    refine Ev.s ?_; simp only [slices_Max_int_int.l0, show (i : Int) < (l.length : Int) by omega, show (0 : Int) ≤ (i : Int) by omega, if_true]; rw [w64 (x := (i : Int) + 1) (by omega) (by omega), show ((i : Int) + 1) = ((i + 1 : Nat) : Int) by omega, List.drop_eq_getElem_cons hlt, rd_lt l i hlt]; exact max_run l hl d (i + 1) _ (by omega) (by omega)
theorem max_ev (l : List Int) (hl : l.length ≤ 1048576) (h1 : 1 ≤ l.length) (h0 : ∀ x ∈ l, 0 ≤ x) : ∃ m, Ev (fun k => slices_Max_int_int.f k l) m ∧ (m = 0 ↔ ∀ x ∈ l, x = 0) := by
  cases l with
  | nil => simp at h1
  | cons x xs =>
    refine ⟨maxF xs x, ?_, ?_⟩
    · unfold slices_Max_int_int.f
      simp only [show ¬ (((x :: xs).length : Nat) : Int) < 1 by omega, show (0 : Int) < (((x :: xs).length : Nat) : Int) by omega, if_true, if_false]; exact max_run (x :: xs) hl _ 1 x rfl h1
    · rw [(maxF_zero xs x (h0 x (by simp)) fun y hy => h0 y (by simp [hy])).2]
      simp
theorem specFlip_run (t f : List Int) (hf : isPerm f) : ∀ (d i : Nat), f.length - i = d → i ≤ f.length →
    ((∀ q : Nat, i ≤ q → q < f.length → flipAt f q) → ∀ r, Ev (fun k => (spec_l1Orbits.f k t f).bind fun o => spec_MapValid.l1 k o 0) r → Ev (fun k => spec_MapValid.l0 k i t f) r) ∧ (¬ (∀ q : Nat, i ≤ q → q < f.length → flipAt f q) → Ev (fun k => spec_MapValid.l0 k i t f) false)
  | 0, i, hd, hi => by
    refine ⟨fun _ r h => Ev.s ?_, fun h => absurd (fun q h1 h2 => by omega) h⟩; simp only [spec_MapValid.l0, show ¬ (i : Int) < (f.length : Int) by omega, if_false]; exact h
  | d + 1, i, hd, hi => by
    have hlt : i < f.length := by omega
    have hl12 := hf.2.1; have hr := (isPerm_inR f hf).2 i hlt; have ih := specFlip_run t f hf d (i + 1) (by omega) (by omega)
    have hw : wrap64 ((i : Int) + 1) = ((i + 1 : Nat) : Int) := by rw [w64 (by omega) (by omega)]; omega
    have g1 : (i : Int) < (f.length : Int) := by omega
    have g2 : (0 : Int) ≤ (i : Int) := by omega
    by_cases c1 : rd f i = i
    · refine ⟨fun h => absurd c1 (h i (Nat.le_refl _) hlt).1, fun h => Ev.s ?_⟩
      simp only [spec_MapValid.l0, g1, g2, c1, if_true]; exact Ev.const rfl
    · by_cases c2 : rd f (rd f i) = i
      · refine ⟨fun h r hr' => Ev.s ?_, fun h => Ev.s ?_⟩
        · simp only [spec_MapValid.l0, g1, g2, c1, c2, hr.1, hr.2, if_true, if_false, hw]
          exact ih.1 (fun q h1 h2 => h q (by omega) h2) r hr'
        · simp only [spec_MapValid.l0, g1, g2, c1, c2, hr.1, hr.2, if_true, if_false, hw]
          refine ih.2 fun h' => h fun q h1 h2 => ?_
          by_cases e : q = i
          · rw [e]; exact ⟨c1, c2⟩
          · exact h' q (by omega) h2
      · refine ⟨fun h => absurd (h i (Nat.le_refl _) hlt).2 c2, fun h => Ev.s ?_⟩
        simp only [spec_MapValid.l0, g1, g2, c1, c2, hr.1, hr.2, if_true, if_false]; exact Ev.const rfl
theorem implFlip_run (t f : List Int) (hf : isPerm f) : ∀ (d i : Nat), f.length - i = d → i ≤ f.length →
    ((∀ q : Nat, i ≤ q → q < f.length → flipAt f q) → ∀ r, Ev (fun k => (impl_orbits.f k [t, f]).bind fun o => (slices_Max_int_int.f k o).bind fun m => some (m == 0)) r → Ev (fun k => impl_MapValid.l0 k f f.length i t f) r) ∧ (¬ (∀ q : Nat, i ≤ q → q < f.length → flipAt f q) → Ev (fun k => impl_MapValid.l0 k f f.length i t f) false)
  | 0, i, hd, hi => by
    refine ⟨fun _ r h => Ev.s ?_, fun h => absurd (fun q h1 h2 => by omega) h⟩; simp only [impl_MapValid.l0, show ¬ (i : Int) < (f.length : Int) by omega, if_false]; exact h
  | d + 1, i, hd, hi => by
    have hlt : i < f.length := by omega
    have hl12 := hf.2.1; have hr := (isPerm_inR f hf).2 i hlt; have ih := implFlip_run t f hf d (i + 1) (by omega) (by omega)
    have hw : wrap64 ((i : Int) + 1) = ((i + 1 : Nat) : Int) := by rw [w64 (by omega) (by omega)]; omega
    have g1 : (i : Int) < (f.length : Int) := by omega
    have g2 : (0 : Int) ≤ (i : Int) := by omega
    by_cases c1 : rd f i = i
    · refine ⟨fun h => absurd c1 (h i (Nat.le_refl _) hlt).1, fun h => Ev.s ?_⟩
      simp only [impl_MapValid.l0, g1, g2, c1, if_true]; exact Ev.const rfl
    · by_cases c2 : rd f (rd f i) = i
      · refine ⟨fun h r hr' => Ev.s ?_, fun h => Ev.s ?_⟩
        · simp only [impl_MapValid.l0, g1, g2, c1, c2, hr.1, hr.2, if_true, if_false, hw]
          exact ih.1 (fun q h1 h2 => h q (by omega) h2) r hr'
        · simp only [impl_MapValid.l0, g1, g2, c1, c2, hr.1, hr.2, if_true, if_false, hw]
          refine ih.2 fun h' => h fun q h1 h2 => ?_
          by_cases e : q = i
          · rw [e]; exact ⟨c1, c2⟩
          · exact h' q (by omega) h2
      · refine ⟨fun h => absurd (h i (Nat.le_refl _) hlt).2 c2, fun h => Ev.s ?_⟩
        simp only [impl_MapValid.l0, g1, g2, c1, c2, hr.1, hr.2, if_true, if_false]; exact Ev.const rfl
theorem zero_run (o : List Int) (hl : o.length ≤ 1048576) : ∀ (d i : Nat), o.length - i = d → i ≤ o.length →
    ((∀ q : Nat, i ≤ q → q < o.length → rd o q = 0) → Ev (fun k => spec_MapValid.l1 k o i) true) ∧ (¬ (∀ q : Nat, i ≤ q → q < o.length → rd o q = 0) → Ev (fun k => spec_MapValid.l1 k o i) false)
  | 0, i, hd, hi => by
    refine ⟨fun _ => Ev.s ?_, fun h => absurd (fun q h1 h2 => by omega) h⟩; simp only [spec_MapValid.l1, show ¬ (i : Int) < (o.length : Int) by omega, if_false]; exact Ev.const rfl
  | d + 1, i, hd, hi => by
    have hlt : i < o.length := by omega
    have ih := zero_run o hl d (i + 1) (by omega) (by omega)
    have hw : wrap64 ((i : Int) + 1) = ((i + 1 : Nat) : Int) := by rw [w64 (by omega) (by omega)]; omega
    have g1 : (i : Int) < (o.length : Int) := by omega
    have g2 : (0 : Int) ≤ (i : Int) := by omega
    by_cases c : rd o i = 0
    · refine ⟨fun h => Ev.s ?_, fun h => Ev.s ?_⟩
      · simp only [spec_MapValid.l1, g1, g2, c, if_true, hw]
        exact ih.1 fun q h1 h2 => h q (by omega) h2
      · simp only [spec_MapValid.l1, g1, g2, c, if_true, hw]
        refine ih.2 fun h' => h fun q h1 h2 => ?_
        by_cases e : q = i
        · rw [e]; exact c
        · exact h' q (by omega) h2
    · refine ⟨fun h => absurd (h i (Nat.le_refl _) hlt) c, fun h => Ev.s ?_⟩
      simp only [spec_MapValid.l1, g1, g2, c, if_true, if_false]; exact Ev.const rfl
theorem orb_zero (t f : List Int) (n : Nat) (h1 : 1 ≤ n) (ht : inR n t) (hf : inR n f) (o : List Int) (ho : orbOk [t, f] n o) : (∀ q : Nat, q < n → rd o q = 0) ↔ ∀ i j : Nat, i < n → j < n → Reach [t, f] n i j := by
  have hps : ∀ p ∈ [t, f], inR n p := by intro p hp; simp at hp; rcases hp with rfl | rfl <;> assumption
  constructor
  · intro h i j hi hj
    have e1 := (ho.1.2 i hi).2.2; have e2 := (ho.1.2 j hj).2.2; rw [h i hi] at e1; rw [h j hj] at e2; exact e1.symm.trans e2
  · intro h q hq
    have := orbOk_const ho hps (h q 0 hq (by omega)); have h0 := ho.1.2 0 (by omega); omega
theorem mapValid_both (t f : List Int) (ht : t.length ≤ 1048576) (hf : f.length ≤ 1048576) : ∃ b : Bool, Ev (fun k => spec_MapValid.f k t f) b ∧ Ev (fun k => impl_MapValid.f k t f) b ∧ (b = true ↔ isMap t f) := by
  obtain ⟨bt, t1, t2, t3⟩ := permValid_both t ht; obtain ⟨bf, f1, f2, f3⟩ := permValid_both f hf
  have hb : ∀ b : Bool, (∃ c : Bool, Ev (fun k => spec_l1Both.f k t f) c ∧ (c = true ↔ isPerm t ∧ isPerm f ∧ t.length = f.length)) := fun _ => by
    unfold spec_l1Both.f
    cases bt with
    | false => exact ⟨false, Ev.bind t1 (Ev.const rfl), ⟨fun h => (by cases h), fun h => absurd (t3.2 h.1) (by decide)⟩⟩
    | true =>
      cases bf with
      | false => exact ⟨false, Ev.bind t1 (by simp only [if_true]; exact Ev.bind f1 (Ev.const rfl)), ⟨fun h => (by cases h), fun h => absurd (f3.2 h.2.1) (by decide)⟩⟩
      | true => exact ⟨((t.length : Int) == (f.length : Int)), Ev.bind t1 (by simp only [if_true]; exact Ev.bind f1 (Ev.const rfl)), ⟨fun h => ⟨t3.1 rfl, f3.1 rfl, by have := beq_iff_eq.1 h; omega⟩, fun h => by rw [beq_iff_eq]; omega⟩⟩
  obtain ⟨c, c1, c2⟩ := hb true
  by_cases hall : isPerm t ∧ isPerm f ∧ t.length = f.length
  · obtain ⟨pt, pf, hlen⟩ := hall
    have hc : c = true := c2.2 ⟨pt, pf, hlen⟩; subst hc; have hbt : bt = true := t3.2 pt; have hbf : bf = true := f3.2 pf; subst hbt; subst hbf
    have hne : (((t.length : Int)) != (f.length : Int)) = false := by rw [bne_eq_false_iff_eq]; omega
    have hrt : inR f.length t := by have := isPerm_inR t pt; rwa [hlen] at this
    have hrf := isPerm_inR f pf; obtain ⟨o, o1, o2, o3⟩ := orb_both t f f.length pf.2.1 pf.1 hrt hrf
    have hS : ∀ r, Ev (fun k => spec_MapValid.l0 k 0 t f) r → Ev (fun k => spec_MapValid.f k t f) r := fun r h => by
      unfold spec_MapValid.f
      refine Ev.bind c1 ?_; simp only [if_true]; exact h
    have hI : ∀ r, Ev (fun k => impl_MapValid.l0 k f f.length 0 t f) r → Ev (fun k => impl_MapValid.f k t f) r := fun r h => by
      unfold impl_MapValid.f
      refine Ev.bind t2 ?_; simp only [if_true]; refine Ev.bind f2 ?_; simp only [if_true, hne]; refine Ev.s ?_; simp only [impl_MapValid.j0, Bool.false_eq_true, if_false]; exact h
    have sF := specFlip_run t f pf f.length 0 (by omega) (by omega); have iF := implFlip_run t f pf f.length 0 (by omega) (by omega)
    by_cases hfl : ∀ q : Nat, 0 ≤ q → q < f.length → flipAt f q
    · have zr := zero_run o (by rw [o1.1.1]; omega) o.length 0 (by omega) (by omega)
      have oz := orb_zero t f f.length pf.1 hrt hrf o o1; obtain ⟨m, m1, m2⟩ := max_ev o (by rw [o1.1.1]; omega) (by rw [o1.1.1]; exact pf.1) (fun x hx => by
        obtain ⟨i, hi, rfl⟩ := List.mem_iff_getElem.1 hx; have := (o1.1.2 i (by rw [← o1.1.1]; exact hi)).1
        rwa [rd_lt o i hi] at this)
      have hmz : m = 0 ↔ ∀ q : Nat, 0 ≤ q → q < o.length → rd o q = 0 := by
        rw [m2]
        constructor
        · intro h q _ hq
          rw [rd_lt o q hq]; exact h _ (List.getElem_mem hq)
        · intro h x hx
          obtain ⟨i, hi, rfl⟩ := List.mem_iff_getElem.1 hx; have := h i (by omega) hi
          rwa [rd_lt o i hi] at this
      by_cases hz : ∀ q : Nat, 0 ≤ q → q < o.length → rd o q = 0
      · refine ⟨true, hS _ (sF.1 hfl _ (Ev.bind o2 (zr.1 hz))), hI _ (iF.1 hfl _ (Ev.bind o3 (Ev.bind m1 (Ev.const ?_)))), ?_⟩
        · rw [hmz.2 hz]; rfl
        · refine ⟨fun _ => ⟨pt, pf, hlen, fun i hi => hfl i (by omega) hi, oz.1 fun q hq => hz q (by omega) (by rw [o1.1.1]; exact hq)⟩, fun _ => rfl⟩
      · refine ⟨false, hS _ (sF.1 hfl _ (Ev.bind o2 (zr.2 hz))), hI _ (iF.1 hfl _ (Ev.bind o3 (Ev.bind m1 (Ev.const ?_)))), ?_⟩
        · have : ¬ m = 0 := fun e => hz (hmz.1 e)
          simp [this]
        · exact ⟨fun h => (by cases h), fun h => absurd (fun q _ hq => oz.2 h.2.2.2.2 q (by rw [← o1.1.1]; exact hq)) hz⟩
    · exact ⟨false, hS _ (sF.2 hfl), hI _ (iF.2 hfl), ⟨fun h => (by cases h), fun h => absurd (fun q _ hq => h.2.2.2.1 q hq) hfl⟩⟩
  · have hc : c = false := by
      cases c with
      | false => rfl
      | true => exact absurd (c2.1 rfl) hall
    subst hc; refine ⟨false, ?_, ?_, ⟨fun h => (by cases h), fun h => absurd ⟨h.1, h.2.1, h.2.2.1⟩ hall⟩⟩
    · unfold spec_MapValid.f
      exact Ev.bind c1 (Ev.const rfl)
    · have hj : Ev (fun k => impl_MapValid.j0 k true t f) false := by
        refine Ev.s ?_; simp only [impl_MapValid.j0, if_true]; exact Ev.const rfl
      unfold impl_MapValid.f
      refine Ev.bind t2 ?_
      cases bt with
      | false => simp only [Bool.false_eq_true, if_false]; exact hj
      | true =>
        simp only [if_true]; refine Ev.bind f2 ?_
        cases bf with
        | false => simp only [Bool.false_eq_true, if_false]; exact hj
        | true =>
          have hne : (((t.length : Int)) != (f.length : Int)) = true := by
            rw [bne_iff_ne]; intro e; exact hall ⟨t3.1 rfl, f3.1 rfl, by omega⟩
          simp only [if_true, hne]; exact hj
def edL (f : List Int) : Nat → List Int
  | 0 => []
  | i + 1 => if (i : Int) < rd f i then edL f i ++ [(i : Int)] else edL f i
def geL (f : List Int) (n : Nat) : Nat → List Int
  | 0 => List.replicate n 0
  | i + 1 => if (i : Int) < rd f i then ((geL f n i).set i ((edL f i).length : Int)).set (rd f i).toNat ((edL f i).length : Int) else geL f n i
theorem edL_le (f : List Int) : ∀ i, (edL f i).length ≤ i
  | 0 => Nat.le_refl _
  | i + 1 => by
    have ih := edL_le f i; simp only [edL]
    split
    · simp only [List.length_append, List.length_cons, List.length_nil]; omega
    · omega
theorem geL_len (f : List Int) (n : Nat) : ∀ i, (geL f n i).length = n
  | 0 => by simp [geL]
  | i + 1 => by
    simp only [geL]
    split
    · simp [geL_len f n i]
    · exact geL_len f n i
theorem implEdges_run (n : Nat) (hn : n ≤ 1048576) (f : List Int) (hf : inR n f) : ∀ (d i : Nat), n - i = d → i ≤ n → Ev (fun k => impl_edgesOf.l0 k (edL f i) f n i) (edL f n)
  | 0, i, hd, hi => by
    have : i = n := by omega
    subst this; refine Ev.s ?_; simp only [impl_edgesOf.l0, show ¬ (i : Int) < (i : Int) by omega, if_false]; exact Ev.const rfl
  | d + 1, i, hd, hi => by
    have ih := implEdges_run n hn f hf d (i + 1) (by omega) (by omega); have h1 := edL_le f i; refine Ev.s ?_; simp only [impl_edgesOf.l0, hf.1, show (i : Int) < (n : Int) by omega, show (0 : Int) ≤ (i : Int) by omega, show (edL f i).length < 17592186044416 by omega, if_true]; rw [w64n (by omega)]; simp only [edL] at ih
    by_cases e : (i : Int) < rd f i
    · simp only [e, if_true] at ih ⊢; exact ih
    · simp only [e, if_false] at ih ⊢; exact ih
theorem implEdges_ev (n : Nat) (hn : n ≤ 1048576) (t f : List Int) (hf : inR n f) : Ev (fun k => impl_edgesOf.f k t f) (edL f n) := by
  unfold impl_edgesOf.f
  rw [hf.1]; exact implEdges_run n hn f hf n 0 (by omega) (by omega)
theorem specEdges_run (n : Nat) (hn : n ≤ 1048576) (t f : List Int) (hf : inR n f) : ∀ (d i : Nat), n - i = d → i ≤ n → Ev (fun k => spec_l7Edges.l0 k (geL f n i) ((edL f i).length : Int) i t f) (geL f n n)
  | 0, i, hd, hi => by
    have : i = n := by omega
    subst this; refine Ev.s ?_; simp only [spec_l7Edges.l0, geL_len, show ¬ (i : Int) < (i : Int) by omega, if_false]; exact Ev.const rfl
  | d + 1, i, hd, hi => by
    have ih := specEdges_run n hn t f hf d (i + 1) (by omega) (by omega); have h1 := edL_le f i; have h2 := hf.2 i (by omega); refine Ev.s ?_; simp only [spec_l7Edges.l0, geL_len, hf.1, show (i : Int) < (n : Int) by omega, show (0 : Int) ≤ (i : Int) by omega, h2.1, h2.2, if_true, Int.toNat_natCast]; rw [w64n (by omega), w64n (i := i) (by omega)]; simp only [edL, geL] at ih
    by_cases e : (i : Int) < rd f i
    · simp only [e, if_true, List.length_append, List.length_cons, List.length_nil] at ih ⊢; exact ih
    · simp only [e, if_false] at ih ⊢; exact ih
theorem specEdges_ev (n : Nat) (hn : n ≤ 1048576) (t f : List Int) (hf : inR n f) : Ev (fun k => spec_l7Edges.f k t f) (geL f n n) := by
  unfold spec_l7Edges.f
  have h1 : n ≤ 35184372088832 := by omega
  have h2 : (0 : Int) ≤ (n : Int) := by omega
  simp only [hf.1, Int.toNat_natCast, h1, h2, if_true]; exact specEdges_run n hn t f hf n 0 (by omega) (by omega)
def least (f : List Int) (d : Nat) : Nat := if (d : Int) < rd f d then d else (rd f d).toNat
theorem edL_lt (f : List Int) (m : Nat) (hm : (m : Int) < rd f m) : ∀ n, m < n → (edL f m).length < (edL f n).length
  | n + 1, h => by
    simp only [edL]
    by_cases e : m = n
    · subst e
      simp only [hm, if_true, List.length_append, List.length_cons, List.length_nil]; omega
    · have ih := edL_lt f m hm n (by omega)
      split
      · simp only [List.length_append, List.length_cons, List.length_nil]; omega
      · exact ih
theorem edL_at (f : List Int) (m : Nat) (hm : (m : Int) < rd f m) : ∀ n, m < n → rd (edL f n) ((edL f m).length : Int) = m
  | n + 1, h => by
    simp only [edL]
    by_cases e : m = n
    · subst e
      simp only [hm, if_true]; rw [rd_lt _ _ (by simp), List.getElem_append_right (Nat.le_refl _)]
      simp
    · have ih := edL_at f m hm n (by omega)
      split
      · rw [rd_app_lt _ _ _ (edL_lt f m hm n (by omega))]; exact ih
      · exact ih
theorem least_lt (f : List Int) (n : Nat) (hf : inR n f) (hfl : ∀ i : Nat, i < n → flipAt f i) (d : Nat) (hd : d < n) : least f d < n ∧ (least f d : Int) < rd f (least f d) := by
  have h1 := hf.2 d hd; obtain ⟨h2, h3⟩ := hfl d hd
  unfold least
  split
  · exact ⟨hd, by assumption⟩
  · refine ⟨by omega, ?_⟩
    rw [show (((rd f d).toNat : Nat) : Int) = rd f d by omega, h3]; omega
theorem geL_at (f : List Int) (n : Nat) (hf : inR n f) (hfl : ∀ i : Nat, i < n → flipAt f i) : ∀ i, i ≤ n → ∀ d : Nat, d < n → least f d < i → rd (geL f n i) d = ((edL f (least f d)).length : Int)
  | i + 1, hi, d, hd, h => by
    have ih := geL_at f n hf hfl i (by omega) d hd; have hl := geL_len f n i; have h1 := hf.2 d hd; obtain ⟨h2, h3⟩ := hfl d hd; have g1 := hf.2 i (by omega); obtain ⟨g2, g3⟩ := hfl i (by omega); have hll := least_lt f n hf hfl d hd; simp only [geL]
    by_cases e : least f d = i
    · rw [e] at hll
      simp only [hll.2, if_true]; rw [e]
      by_cases e2 : d = (rd f i).toNat
      · subst e2
        rw [rd_set_self _ _ _ (by simp; omega)]
      · have e3 : d = i := by
          unfold least at e
          split at e
          · exact e
          · exfalso
            apply e2
            rw [show (i : Int) = rd f d by omega, h3]; omega
        rw [rd_set_ne _ _ _ _ (fun h => e2 h.symm)]; subst e3; rw [rd_set_self _ _ _ (by omega)]
    · have ih' := ih (by omega)
      by_cases c : (i : Int) < rd f i
      · simp only [c, if_true]
        have n1 : (rd f i).toNat ≠ d := by
          intro h
          apply e
          have hd' : rd f i = d := by omega
          have : rd f d = i := by rw [← hd', g3]
          unfold least
          rw [if_neg (by omega)]; omega
        have n2 : i ≠ d := by
          intro h
          apply e
          subst h
          unfold least
          rw [if_pos c]
        rw [rd_set_ne _ _ _ _ n1, rd_set_ne _ _ _ _ n2]; exact ih'
      · simp only [c, if_false]
        exact ih'
theorem len_le_of_sub : ∀ (a b : List Nat), a.Nodup → (∀ x ∈ a, x ∈ b) → a.length ≤ b.length
  | [], b, _, _ => Nat.zero_le _
  | x :: a, b, hn, h => by
    have hx := h x (by simp); obtain ⟨hxa, hna⟩ := List.nodup_cons.1 hn
    have ih := len_le_of_sub a (b.erase x) hna fun y hy => (List.mem_erase_of_ne (by rintro rfl; exact hxa hy)).2 (h y (by simp [hy]))
    rw [List.length_erase_of_mem hx] at ih; have := List.length_pos_of_mem hx; simp only [List.length_cons]; omega
theorem edL_filter (f : List Int) : ∀ n, (edL f n).length = ((List.range n).filter fun (i : Nat) => decide ((i : Int) < rd f i)).length
  | 0 => rfl
  | n + 1 => by
    rw [List.range_succ, List.filter_append, List.length_append, ← edL_filter f n]; simp only [edL]
    by_cases e : (n : Int) < rd f n <;> simp [e]
theorem edL_half (f : List Int) (n : Nat) (hf : inR n f) (hfl : ∀ i : Nat, i < n → flipAt f i) : 2 * (edL f n).length = n := by
  rw [edL_filter]; have hA := List.length_eq_countP_add_countP (fun (i : Nat) => decide ((i : Int) < rd f i)) (l := List.range n); rw [List.countP_eq_length_filter, List.countP_eq_length_filter, List.length_range] at hA
  have sub : ∀ (P Q : Nat → Bool), (∀ i, i < n → P i = true → Q (rd f i).toNat = true) → ((List.range n).filter P).length ≤ ((List.range n).filter Q).length := by
    intro P Q h; rw [← List.length_map (f := fun (i : Nat) => (rd f i).toNat)]; refine len_le_of_sub _ _ ?_ ?_
    · rw [List.Nodup, List.pairwise_map]
      refine List.Pairwise.imp_of_mem ?_ ((List.nodup_range (n := n)).filter P); intro a b ha hb hab e; have ha' := List.mem_range.1 (List.mem_filter.1 ha).1; have hb' := List.mem_range.1 (List.mem_filter.1 hb).1; have h1 := hf.2 a ha'; have h2 := hf.2 b hb'
      have e2 : rd f a = rd f b := by omega
      have h3 := (hfl a ha').2; rw [e2, (hfl b hb').2] at h3; omega
    · intro x hx
      obtain ⟨a, ha, rfl⟩ := List.mem_map.1 hx; obtain ⟨ha1, ha2⟩ := List.mem_filter.1 ha; have ha' := List.mem_range.1 ha1; have h1 := hf.2 a ha'; exact List.mem_filter.2 ⟨List.mem_range.2 (by omega), h a ha' ha2⟩
  have back : ∀ i : Nat, i < n → (((rd f i).toNat : Nat) : Int) = rd f i := fun i hi => by have := hf.2 i hi; omega
  have h1 := sub (fun (i : Nat) => decide ((i : Int) < rd f i)) (fun (i : Nat) => decide ¬ decide ((i : Int) < rd f i) = true) (fun i hi h => by
    have h3 := (hfl i hi).2; simp only [decide_eq_true_eq] at h; simp only [back i hi, h3, decide_eq_true_eq]
    omega)
  have h2 := sub (fun (i : Nat) => decide ¬ decide ((i : Int) < rd f i) = true) (fun (i : Nat) => decide ((i : Int) < rd f i)) (fun i hi h => by
    have h3 := hfl i hi; simp only [decide_eq_true_eq] at h; simp only [back i hi, h3.2, decide_eq_true_eq]; have := h3.1
    omega)
  omega
def cw (p : List Int) : Nat → List Bool → List Int → Int → List Bool × List Int
  | 0, s, c, a => (s, c)
  | f + 1, s, c, a => if rdOf false s a = true then (s, c) else cw p f (s.set a.toNat true) (c ++ [a]) (rd p a)
def fresh (s : List Bool) : Nat := s.countP (fun b => !b)
def cyS (p : List Int) (n : Nat) : Nat → List Bool × List (List Int)
  | 0 => (List.replicate n false, [])
  | i + 1 =>
    let q := cw p (n + 1) (cyS p n i).1 [] i
    (q.1, if q.2 = [] then (cyS p n i).2 else (cyS p n i).2 ++ [q.2])
theorem fresh_set : ∀ (s : List Bool) (i : Nat), i < s.length → s.getD i false = false → fresh (s.set i true) + 1 = fresh s
  | b :: s, 0, _, h => by
    simp only [List.getD_cons_zero] at h; subst h
    simp [fresh]
  | b :: s, i + 1, hi, h => by
    simp only [List.getD_cons_succ] at h; have ih := fresh_set s i (by simpa using hi) h; simp only [fresh, List.set_cons_succ, List.countP_cons] at ih ⊢; omega
theorem rdOf_nat (s : List Bool) (a : Int) (h0 : 0 ≤ a) : rdOf false s a = s.getD a.toNat false := by
  unfold rdOf
  rfl
theorem cw_len (p : List Int) : ∀ (f : Nat) (s : List Bool) (c : List Int) (a : Int), (cw p f s c a).1.length = s.length
  | 0, s, c, a => rfl
  | f + 1, s, c, a => by
    simp only [cw]
    split
    · rfl
    · rw [cw_len p f]; simp
theorem spec_cw (p : List Int) (n : Nat) (hn : n ≤ 1048576) (hp : inR n p) (L : List (List Int)) (hL : L.length ≤ 1048576) (i : Int) (r : List (List Int)) : ∀ (f : Nat) (s : List Bool) (c : List Int) (a : Int), s.length = n → 0 ≤ a → a < n → fresh s < f → c.length + fresh s ≤ 1048577 →
    Ev (fun k => spec_l1Cycles.l0 k p (L ++ [(cw p f s c a).2]) (cw p f s c a).1 (wrap64 (i + 1))) r → Ev (fun k => spec_l1Cycles.l1 k p L s i c a) r
  | 0, s, c, a, hs, h0, h1, hf, hc, h => absurd hf (Nat.not_lt_zero _)
  | f + 1, s, c, a, hs, h0, h1, hf, hc, h => by
    refine Ev.s ?_; simp only [cw] at h
    have hL' : L.length < 5864062014805 := by omega
    have hc' : c.length < 17592186044416 := by omega
    simp only [spec_l1Cycles.l1, h0, hs, h1, hp.1, hL', hc', if_true]
    by_cases e : rdOf false s a = true
    · simp only [e, if_true] at h ⊢
      exact h
    · simp only [e, if_false] at h ⊢
      have h3 : s.getD a.toNat false = false := by rw [← rdOf_nat s a h0]; simpa using e
      have h4 := fresh_set s a.toNat (by omega) h3; have h5 := hp.2 a.toNat (by omega); rw [show ((a.toNat : Nat) : Int) = a by omega] at h5; exact spec_cw p n hn hp L hL i r f _ _ _ (by simpa using hs) h5.1 h5.2 (by omega) (by simp only [List.length_append, List.length_cons, List.length_nil]; omega) h
theorem impl_cw (p : List Int) (n : Nat) (hn : n ≤ 1048576) (hp : inR n p) (L : List (List Int)) (hL : L.length ≤ 1048576) (m i : Int) (r : List (List Int)) : ∀ (f : Nat) (s : List Bool) (c : List Int) (a : Int), s.length = n → 0 ≤ a → a < n → fresh s < f → c.length + fresh s ≤ 1048577 →
    Ev (fun k => impl_cyclesOf.l0 k p (if (cw p f s c a).2 = [] then L else L ++ [(cw p f s c a).2]) (cw p f s c a).1 m (wrap64 (i + 1))) r → Ev (fun k => impl_cyclesOf.l1 k p L s c a m i) r
  | 0, s, c, a, hs, h0, h1, hf, hc, h => absurd hf (Nat.not_lt_zero _)
  | f + 1, s, c, a, hs, h0, h1, hf, hc, h => by
    refine Ev.s ?_; simp only [cw] at h
    have hL' : L.length < 5864062014805 := by omega
    have hc' : c.length < 17592186044416 := by omega
    simp only [impl_cyclesOf.l1, h0, hs, h1, hp.1, hL', hc', if_true]
    by_cases e : rdOf false s a = true
    · simp only [e, if_true] at h ⊢
      cases c with
      | nil => simpa using h
      | cons b c => simpa using h
    · simp only [e, if_false] at h ⊢
      have h3 : s.getD a.toNat false = false := by rw [← rdOf_nat s a h0]; simpa using e
      have h4 := fresh_set s a.toNat (by omega) h3; have h5 := hp.2 a.toNat (by omega); rw [show ((a.toNat : Nat) : Int) = a by omega] at h5; exact impl_cw p n hn hp L hL m i r f _ _ _ (by simpa using hs) h5.1 h5.2 (by omega) (by simp only [List.length_append, List.length_cons, List.length_nil]; omega) h
theorem fresh_le (s : List Bool) : fresh s ≤ s.length := List.countP_le_length
theorem cyS_len (p : List Int) (n : Nat) : ∀ i, (cyS p n i).1.length = n
  | 0 => by simp [cyS]
  | i + 1 => by simp only [cyS]; rw [cw_len, cyS_len p n i]
theorem cyS_many (p : List Int) (n : Nat) : ∀ i, (cyS p n i).2.length ≤ i
  | 0 => by simp [cyS]
  | i + 1 => by
    have ih := cyS_many p n i; simp only [cyS]
    split
    · omega
    · simp only [List.length_append, List.length_cons, List.length_nil]; omega
theorem cw_seen (p : List Int) (f : Nat) (s : List Bool) (c : List Int) (a : Int) (h : rdOf false s a = true) : cw p f s c a = (s, c) := by
  cases f with
  | zero => rfl
  | succ f => simp only [cw, h, if_true]
theorem cw_more (p : List Int) : ∀ (f : Nat) (s : List Bool) (c : List Int) (a : Int), c.length ≤ (cw p f s c a).2.length
  | 0, s, c, a => Nat.le_refl _
  | f + 1, s, c, a => by
    simp only [cw]
    split
    · exact Nat.le_refl _
    · have := cw_more p f (s.set a.toNat true) (c ++ [a]) (rd p a)
      simp only [List.length_append, List.length_cons, List.length_nil] at this; omega
theorem cw_new (p : List Int) (f : Nat) (s : List Bool) (a : Int) (h : ¬ rdOf false s a = true) : (cw p (f + 1) s [] a).2 ≠ [] := by
  simp only [cw, h, Bool.false_eq_true, if_false]; intro e; have := cw_more p f (s.set a.toNat true) ([] ++ [a]) (rd p a); rw [e] at this
  simp at this
theorem specCyc_run (p : List Int) (n : Nat) (hn : n ≤ 1048575) (hp : inR n p) : ∀ (d i : Nat), n - i = d → i ≤ n → Ev (fun k => spec_l1Cycles.l0 k p (cyS p n i).2 (cyS p n i).1 i) (cyS p n n).2
  | 0, i, hd, hi => by
    have : i = n := by omega
    subst this; refine Ev.s ?_; simp only [spec_l1Cycles.l0, hp.1, show ¬ (i : Int) < (i : Int) by omega, if_false]; exact Ev.const rfl
  | d + 1, i, hd, hi => by
    have ih := specCyc_run p n hn hp d (i + 1) (by omega) (by omega); have hl := cyS_len p n i; have hm := cyS_many p n i; have hf := fresh_le (cyS p n i).1
    have h1 : (i : Int) < (n : Int) := by omega
    have h0 : (0 : Int) ≤ (i : Int) := by omega
    refine Ev.s ?_; simp only [spec_l1Cycles.l0, hp.1, hl, h1, h0, if_true]
    by_cases e : rdOf false (cyS p n i).1 (i : Int) = true
    · simp only [e, if_true]
      rw [w64n (by omega)]; simp only [cyS, cw_seen p (n + 1) (cyS p n i).1 [] i e, if_true] at ih; exact ih
    · simp only [e, if_false]
      refine spec_cw p n (by omega) hp _ (by omega) i _ (n + 1) _ _ _ hl h0 h1 (by omega) (by simp only [List.length_nil]; omega) ?_; rw [w64n (by omega)]; simp only [cyS, cw_new p n (cyS p n i).1 i e, if_false] at ih; exact ih
theorem implCyc_run (p : List Int) (n : Nat) (hn : n ≤ 1048575) (hp : inR n p) : ∀ (d i : Nat), n - i = d → i ≤ n → Ev (fun k => impl_cyclesOf.l0 k p (cyS p n i).2 (cyS p n i).1 n i) (cyS p n n).2
  | 0, i, hd, hi => by
    have : i = n := by omega
    subst this; refine Ev.s ?_; simp only [impl_cyclesOf.l0, show ¬ (i : Int) < (i : Int) by omega, if_false]; exact Ev.const rfl
  | d + 1, i, hd, hi => by
    have ih := implCyc_run p n hn hp d (i + 1) (by omega) (by omega); have hl := cyS_len p n i; have hm := cyS_many p n i; have hf := fresh_le (cyS p n i).1
    have h1 : (i : Int) < (n : Int) := by omega
    have h0 : (0 : Int) ≤ (i : Int) := by omega
    refine Ev.s ?_; simp only [impl_cyclesOf.l0, h1, if_true]; refine impl_cw p n (by omega) hp _ (by omega) n i _ (n + 1) _ _ _ hl h0 h1 (by omega) (by simp only [List.length_nil]; omega) ?_; rw [w64n (by omega)]; simp only [cyS] at ih; exact ih
theorem specCyc_ev (p : List Int) (n : Nat) (hn : n ≤ 1048575) (hp : inR n p) : Ev (fun k => spec_l1Cycles.f k p) (cyS p n n).2 := by
  unfold spec_l1Cycles.f
  have h1 : n ≤ 281474976710656 := by omega
  have h2 : (0 : Int) ≤ (n : Int) := by omega
  simp only [hp.1, Int.toNat_natCast, h1, h2, if_true]; exact specCyc_run p n hn hp n 0 (by omega) (by omega)
theorem implCyc_ev (p : List Int) (n : Nat) (hn : n ≤ 1048575) (hp : inR n p) : Ev (fun k => impl_cyclesOf.f k p) (cyS p n n).2 := by
  unfold impl_cyclesOf.f
  have h1 : n ≤ 281474976710656 := by omega
  have h2 : (0 : Int) ≤ (n : Int) := by omega
  simp only [hp.1, Int.toNat_natCast, h1, h2, if_true]; exact implCyc_run p n hn hp n 0 (by omega) (by omega)
def ahead (c : List Int) (i : Nat) : Int := if i = 0 then -1 else rd c ((i - 1 : Nat) : Int)
def ascAt (c : List Int) (m : Int) (i : Nat) : Prop := ahead c i < rd c i ∧ rd c i < m
def isChoice (c : List Int) (m : Int) : Prop := ∀ i : Nat, i < c.length → ascAt c m i
theorem ahead_zero (c : List Int) : ahead c 0 = -1 := by unfold ahead; rw [if_pos rfl]
theorem ahead_succ (c : List Int) (i : Nat) : ahead c (i + 1) = rd c i := by unfold ahead; rw [if_neg (by omega), Nat.add_sub_cancel]
theorem asc_nonneg (c : List Int) (m : Int) : ∀ i : Nat, (∀ j : Nat, j < i → ascAt c m j) → -1 ≤ ahead c i ∧ (ahead c i = -1 ∨ ahead c i < m)
  | 0, _ => by rw [ahead_zero]; omega
  | i + 1, h => by
    have h1 := h i (Nat.lt_succ_self i); have h2 := (asc_nonneg c m i fun j hj => h j (by omega)).1
    unfold ascAt at h1
    rw [ahead_succ]; omega
theorem specChoice_run (t f c : List Int) (m : Int) (hm : (f.length : Int) / 2 = m) (m0 : 0 ≤ m) (m1 : m ≤ 1048576) (hc : c.length ≤ 1048576) : ∀ (d i : Nat), c.length - i = d → i ≤ c.length → (∀ j : Nat, j < i → ascAt c m j) →
    ((∀ q : Nat, i ≤ q → q < c.length → ascAt c m q) → ∀ r, Ev (fun k => spec_MapValid.f k t f) r → Ev (fun k => spec_ChoiceValid.l0 k c (ahead c i) i t f) r) ∧ (¬ (∀ q : Nat, i ≤ q → q < c.length → ascAt c m q) → Ev (fun k => spec_ChoiceValid.l0 k c (ahead c i) i t f) false)
  | 0, i, hd, hi, hp => by
    refine ⟨fun _ r h => Ev.s ?_, fun h => absurd (fun q h1 h2 => by omega) h⟩; simp only [spec_ChoiceValid.l0, show ¬ (i : Int) < (c.length : Int) by omega, if_false]; exact Ev.bind h (Ev.const rfl)
  | d + 1, i, hd, hi, hp => by
    have hlt : i < c.length := by omega
    have hd1 : c.length - (i + 1) = d := by omega
    obtain ⟨p1, p2⟩ := asc_nonneg c _ i hp
    have hA : ascAt c m i ↔ (ahead c i + 1 ≤ rd c i ∧ rd c i ≤ m - 1) := by unfold ascAt; omega
    have w1 : -9223372036854775808 ≤ ahead c i + 1 ∧ ahead c i + 1 < 9223372036854775808 := by omega
    have w2 : -9223372036854775808 ≤ m ∧ m < 9223372036854775808 := by omega
    have w3 : -9223372036854775808 ≤ m - 1 ∧ m - 1 < 9223372036854775808 := by omega
    have w4 : i < 4611686018427387904 := by omega
    have g1 : (i : Int) < (c.length : Int) := by omega
    have g2 : (0 : Int) ≤ (i : Int) := by omega
    by_cases h : ascAt c m i
    · have hin := hA.1 h
      have ih := specChoice_run t f c m hm m0 m1 hc d (i + 1) hd1 hlt (fun j hj => by
        by_cases e : j = i
        · rw [e]; exact h
        · exact hp j (by omega))
      rw [ahead_succ] at ih; refine ⟨fun ha r hr => Ev.s ?_, fun ha => Ev.s ?_⟩
      · simp only [spec_ChoiceValid.l0, g1, g2, if_true, hm, w64r w1, w64r w2, w64r w3, w64n w4, l6In_eq, Option.bind_some, hin, decide_true, and_self]
        exact ih.1 (fun q h1 h2 => ha q (by omega) h2) r hr
      · simp only [spec_ChoiceValid.l0, g1, g2, if_true, hm, w64r w1, w64r w2, w64r w3, w64n w4, l6In_eq, Option.bind_some, hin, decide_true, and_self]
        refine ih.2 fun h' => ha fun q h1 h2 => ?_
        by_cases e : q = i
        · rw [e]; exact h
        · exact h' q (by omega) h2
    · have hin : ¬ (ahead c i + 1 ≤ rd c i ∧ rd c i ≤ m - 1) := fun z => h (hA.2 z)
      refine ⟨fun ha => absurd (ha i (Nat.le_refl _) hlt) h, fun ha => Ev.s ?_⟩; simp only [spec_ChoiceValid.l0, g1, g2, if_true, hm, w64r w1, w64r w2, w64r w3, w64n w4, l6In_eq, Option.bind_some, hin, decide_false, Bool.false_eq_true, if_false]; exact Ev.const rfl
theorem implChoice_run (t f c : List Int) (m : Int) (hm : (f.length : Int) / 2 = m) (m0 : 0 ≤ m) (m1 : m ≤ 1048576) (hc : c.length ≤ 1048576) : ∀ (d i : Nat), c.length - i = d → i ≤ c.length → (∀ j : Nat, j < i → ascAt c m j) →
    ((∀ q : Nat, i ≤ q → q < c.length → ascAt c m q) → Ev (fun k => impl_ChoiceValid.l0 k c c c.length i t f) true) ∧ (¬ (∀ q : Nat, i ≤ q → q < c.length → ascAt c m q) → Ev (fun k => impl_ChoiceValid.l0 k c c c.length i t f) false)
  | 0, i, hd, hi, hp => by
    refine ⟨fun _ => Ev.s ?_, fun h => absurd (fun q h1 h2 => by omega) h⟩; simp only [impl_ChoiceValid.l0, show ¬ (i : Int) < (c.length : Int) by omega, if_false]; exact Ev.const rfl
  | d + 1, i, hd, hi, hp => by
    have hlt : i < c.length := by omega
    have hd1 : c.length - (i + 1) = d := by omega
    obtain ⟨p1, p2⟩ := asc_nonneg c _ i hp
    have w2 : -9223372036854775808 ≤ m ∧ m < 9223372036854775808 := by omega
    have w4 : i < 4611686018427387904 := by omega
    have g1 : (i : Int) < (c.length : Int) := by omega
    have g2 : (0 : Int) ≤ (i : Int) := by omega
    have hA1 : ascAt c m i → 0 ≤ rd c i ∧ rd c i < m := by unfold ascAt; omega
    by_cases k1 : rd c i < 0
    · refine ⟨fun ha => absurd (hA1 (ha i (Nat.le_refl _) hlt)) (by omega), fun ha => Ev.s ?_⟩
      simp only [impl_ChoiceValid.l0, g1, g2, k1, if_true]; exact Ev.const rfl
    · by_cases k2 : rd c i ≥ m
      · refine ⟨fun ha => absurd (hA1 (ha i (Nat.le_refl _) hlt)) (by omega), fun ha => Ev.s ?_⟩
        simp only [impl_ChoiceValid.l0, g1, g2, k1, k2, hm, w64r w2, if_true, if_false]; exact Ev.const rfl
      · have ih := fun h => implChoice_run t f c m hm m0 m1 hc d (i + 1) hd1 hlt (fun j hj => by
          by_cases e : j = i
          · rw [e]; exact h
          · exact hp j (by omega))
        cases i with
        | zero =>
          have h : ascAt c m 0 := by unfold ascAt; rw [ahead_zero]; omega
          have k3 : ¬ (((0 : Nat) : Int) > 0) := by omega
          refine ⟨fun ha => Ev.s ?_, fun ha => Ev.s ?_⟩
          · simp only [impl_ChoiceValid.l0, g1, g2, k1, k2, k3, hm, w64r w2, w64n w4, if_true, if_false]
            exact (ih h).1 fun q h1 h2 => ha q (by omega) h2
          · simp only [impl_ChoiceValid.l0, g1, g2, k1, k2, k3, hm, w64r w2, w64n w4, if_true, if_false]
            refine (ih h).2 fun h' => ha fun q h1 h2 => ?_
            by_cases e : q = 0
            · rw [e]; exact h
            · exact h' q (by omega) h2
        | succ i =>
          have k3 : (((i + 1 : Nat) : Int) > 0) := by omega
          have w5 : -9223372036854775808 ≤ (i : Int) ∧ (i : Int) < 9223372036854775808 := by omega
          have w6 : (((i + 1 : Nat) : Int) - 1) = (i : Int) := by omega
          have g3 : (0 : Int) ≤ (i : Int) := by omega
          have g4 : (i : Int) < (c.length : Int) := by omega
          by_cases k4 : rd c ((i + 1 : Nat) : Int) ≤ rd c (i : Int)
          · refine ⟨fun ha => absurd (ha (i + 1) (Nat.le_refl _) hlt) (by unfold ascAt; rw [ahead_succ]; omega), fun ha => Ev.s ?_⟩
            simp only [impl_ChoiceValid.l0, g1, g2, g3, g4, k1, k2, k3, k4, hm, w64r w2, w64r w5, w6, if_true, if_false]; exact Ev.const rfl
          · have h : ascAt c m (i + 1) := by unfold ascAt; rw [ahead_succ]; omega
            refine ⟨fun ha => Ev.s ?_, fun ha => Ev.s ?_⟩
            · simp only [impl_ChoiceValid.l0, g1, g2, g3, g4, k1, k2, k3, k4, hm, w64r w2, w64n w4, w64r w5, w6, if_true, if_false]
              exact (ih h).1 fun q h1 h2 => ha q (by omega) h2
            · simp only [impl_ChoiceValid.l0, g1, g2, g3, g4, k1, k2, k3, k4, hm, w64r w2, w64n w4, w64r w5, w6, if_true, if_false]
              refine (ih h).2 fun h' => ha fun q h1 h2 => ?_
              by_cases e : q = i + 1
              · rw [e]; exact h
              · exact h' q (by omega) h2
theorem choiceValid_both (t f c : List Int) (ht : t.length ≤ 1048576) (hf : f.length ≤ 1048576) (hc : c.length ≤ 1048576) : ∃ b : Bool, Ev (fun k => spec_ChoiceValid.f k t f c) b ∧ Ev (fun k => impl_ChoiceValid.f k t f c) b ∧ (b = true ↔ isMap t f ∧ isChoice c ((f.length : Int) / 2)) := by
  obtain ⟨b, b1, b2, b3⟩ := mapValid_both t f ht hf; have hs := specChoice_run t f c _ rfl (by omega) (by omega) hc c.length 0 (by omega) (by omega) (fun j hj => by omega); have hi := implChoice_run t f c _ rfl (by omega) (by omega) hc c.length 0 (by omega) (by omega) (fun j hj => by omega)
  have e1 : ∀ r, Ev (fun k => spec_ChoiceValid.l0 k c (ahead c 0) ((0 : Nat) : Int) t f) r → Ev (fun k => spec_ChoiceValid.f k t f c) r := fun r h => h
  by_cases ha : ∀ q : Nat, 0 ≤ q → q < c.length → ascAt c ((f.length : Int) / 2) q
  · refine ⟨b, e1 _ (hs.1 ha b b1), ?_, ?_⟩
    · unfold impl_ChoiceValid.f
      refine Ev.bind b2 ?_
      cases b with
      | false => simp only [Bool.false_eq_true, if_false]; exact Ev.const rfl
      | true => simp only [if_true]; exact hi.1 ha
    · rw [b3]
      exact ⟨fun h => ⟨h, fun i hi' => ha i (by omega) hi'⟩, fun h => h.1⟩
  · refine ⟨false, e1 _ (hs.2 ha), ?_, ⟨fun h => (by cases h), fun h => absurd (fun q _ hq => h.2 q hq) ha⟩⟩
    unfold impl_ChoiceValid.f
    refine Ev.bind b2 ?_
    cases b with
    | false => simp only [Bool.false_eq_true, if_false]; exact Ev.const rfl
    | true => simp only [if_true]; exact hi.2 ha
theorem has_run (c : List Int) (hc : c.length ≤ 1048576) (x : Int) : ∀ (d i : Nat), c.length - i = d → i ≤ c.length → Ev (fun k => spec_l7Has.l0 k c x i) (decide (x ∈ c.drop i))
  | 0, i, hd, hi => by
    refine Ev.s ?_; simp only [spec_l7Has.l0, show ¬ (i : Int) < (c.length : Int) by omega, if_false]; rw [List.drop_eq_nil_of_le (by omega)]; exact Ev.const (by simp)
  | d + 1, i, hd, hi => by
    have hlt : i < c.length := by omega
    refine Ev.s ?_; simp only [spec_l7Has.l0, show (i : Int) < (c.length : Int) by omega, show (0 : Int) ≤ (i : Int) by omega, if_true, w64n (show i < 4611686018427387904 by omega)]; rw [List.drop_eq_getElem_cons hlt]; have e := rd_lt c i hlt
    by_cases h : rd c i = x
    · simp only [h, if_true]
      exact Ev.const (by rw [decide_eq_true]; rw [← h, e]; exact List.mem_cons_self)
    · simp only [h, if_false]
      have := has_run c hc x d (i + 1) (by omega) (by omega)
      have e2 : decide (x ∈ c[i] :: c.drop (i + 1)) = decide (x ∈ c.drop (i + 1)) := by
        rw [Bool.eq_iff_iff, decide_eq_true_eq, decide_eq_true_eq, List.mem_cons]; exact ⟨fun z => z.elim (fun y => absurd (by rw [e, y]) h) id, .inr⟩
      rw [e2]; exact this
theorem has_ev (c : List Int) (hc : c.length ≤ 1048576) (x : Int) : Ev (fun k => spec_l7Has.f k c x) (decide (x ∈ c)) := has_run c hc x c.length 0 (by omega) (by omega)
def restL (c : List Int) (m : Nat) : List Int := ((List.range m).filter fun (i : Nat) => !decide ((i : Int) ∈ c)).map fun (i : Nat) => (i : Int)
theorem restL_succ (c : List Int) (m : Nat) : restL c (m + 1) = if (m : Int) ∈ c then restL c m else restL c m ++ [(m : Int)] := by
  unfold restL
  rw [List.range_succ, List.filter_append]
  by_cases h : (m : Int) ∈ c <;> simp [h]
def chB (f : List Int) (n : Nat) (c : List Int) (d : Int) : Bool := decide (rd (geL f n n) d ∈ c)
def flC (f : List Int) (n : Nat) (c : List Int) : List Int := (List.range n).map fun (d : Nat) => if chB f n c (d : Int) = true then rd f (d : Int) else (d : Int)
theorem flC_len (f : List Int) (n : Nat) (c : List Int) : (flC f n c).length = n := by simp [flC]
theorem flC_rd (f : List Int) (n : Nat) (c : List Int) (d : Nat) (h : d < n) : rd (flC f n c) (d : Int) = if chB f n c (d : Int) = true then rd f (d : Int) else (d : Int) := by
  rw [rd_lt _ _ (by simp [flC]; exact h)]
  simp [flC]
theorem flC_inR (f : List Int) (n : Nat) (hf : inR n f) (c : List Int) : inR n (flC f n c) := by
  refine ⟨flC_len f n c, fun i hi => ?_⟩; rw [flC_rd f n c i hi]; have := hf.2 i hi
  split <;> omega
theorem edL_get (f : List Int) : ∀ (n e : Nat), e < (edL f n).length → ∃ a : Nat, a < n ∧ (a : Int) < rd f a ∧ rd (edL f n) (e : Int) = a ∧ (edL f a).length = e
  | 0, e, h => by simp [edL] at h
  | n + 1, e, h => by
    simp only [edL] at h ⊢
    by_cases hc : (n : Int) < rd f n
    · simp only [hc, if_true, List.length_append, List.length_cons, List.length_nil] at h ⊢
      by_cases he : e < (edL f n).length
      · obtain ⟨a, h1, h2, h3, h4⟩ := edL_get f n e he
        exact ⟨a, by omega, h2, by rw [rd_app_lt _ _ _ he]; exact h3, h4⟩
      · have e1 : (edL f n).length = e := by omega
        refine ⟨n, by omega, hc, ?_, e1⟩; rw [rd_lt _ _ (by simp; omega), List.getElem_append_right (by omega)]
        simp [e1]
    · simp only [hc, if_false] at h ⊢
      obtain ⟨a, h1, h2, h3, h4⟩ := edL_get f n e h; exact ⟨a, by omega, h2, h3, h4⟩
theorem edge_at (f : List Int) (n : Nat) (hf : inR n f) (hfl : ∀ i : Nat, i < n → flipAt f i) (e : Nat) (he : e < (edL f n).length) : ∃ a b : Nat, a < n ∧ b < n ∧ a ≠ b ∧ rd (edL f n) (e : Int) = a ∧ rd f a = b ∧ rd f b = a ∧ ∀ d : Nat, d < n → (rd (geL f n n) (d : Int) = e ↔ d = a ∨ d = b) := by
  obtain ⟨a, h1, h2, h3, h4⟩ := edL_get f n e he; have g1 := hf.2 a h1; obtain ⟨g2, g3⟩ := hfl a h1
  have hb : (((rd f a).toNat : Nat) : Int) = rd f a := by omega
  refine ⟨a, (rd f a).toNat, h1, by omega, by omega, h3, hb.symm, by rw [hb]; exact g3, fun d hd => ?_⟩; have l1 := least_lt f n hf hfl d hd; rw [geL_at f n hf hfl n (Nat.le_refl _) d hd l1.1]; have d1 := hf.2 d hd; obtain ⟨d2, d3⟩ := hfl d hd
  constructor
  · intro h
    have i1 := edL_at f (least f d) l1.2 n l1.1; rw [h, h3] at i1
    have i2 : least f d = a := by omega
    unfold least at i2
    split at i2
    · exact .inl i2
    · right
      have : rd f d = a := by omega
      rw [this] at d3; omega
  · rintro (rfl | rfl)
    · rw [show least f d = d from if_pos h2, h4]
    · have : least f (rd f a).toNat = a := by
        unfold least
        rw [hb, g3, if_neg (by omega)]; omega
      rw [this, h4]
theorem take_get (c : List Int) (i : Nat) (h : i < c.length) : c.take (i + 1) = c.take i ++ [rd c i] := by
  rw [List.take_add_one, rd_lt c i h]
  simp [h]
theorem asc_mono (c : List Int) (m : Int) (hc : isChoice c m) : ∀ (i j : Nat), i < c.length → j < i → rd c j < rd c i
  | i + 1, j, hi, hj => by
    have h := (hc (i + 1) hi).1; rw [ahead_succ] at h
    by_cases e : j = i
    · rw [e]; exact h
    · have := asc_mono c m hc i j (by omega) (by omega)
      omega
theorem choice_range (c : List Int) (m : Int) (hc : isChoice c m) (i : Nat) (hi : i < c.length) : 0 ≤ rd c i ∧ rd c i < m := by
  have h := hc i hi; have h2 := asc_nonneg c m i (fun j hj => hc j (by omega))
  unfold ascAt at h
  omega
theorem not_ahead (c : List Int) (m : Int) (hc : isChoice c m) (i : Nat) (hi : i < c.length) : rd c i ∉ c.take i := by
  intro h; obtain ⟨j, hj, e⟩ := List.getElem_of_mem h; rw [List.length_take] at hj; have h1 := asc_mono c m hc i j hi (by omega); rw [List.getElem_take] at e; rw [rd_lt c j (by omega), e] at h1; omega
def itr (t : List Int) : Nat → Int → Int
  | 0, x => x
  | k + 1, x => itr t k (rd t x)
theorem itr_in (t : List Int) (n : Nat) (ht : inR n t) : ∀ (k : Nat) (x : Int), 0 ≤ x ∧ x < n → 0 ≤ itr t k x ∧ itr t k x < n
  | 0, x, h => h
  | k + 1, x, h => by
    have := ht.2 x.toNat (by omega); rw [show ((x.toNat : Nat) : Int) = x by omega] at this; exact itr_in t n ht k _ this
theorem itr_add (t : List Int) : ∀ (a b : Nat) (x : Int), itr t (a + b) x = itr t b (itr t a x)
  | 0, b, x => by rw [Nat.zero_add]; rfl
  | a + 1, b, x => by
    rw [show a + 1 + b = (a + b) + 1 by omega]; exact itr_add t a b _
def injR (n : Nat) (t : List Int) : Prop := ∀ i j : Nat, i < n → j < n → rd t i = rd t j → i = j
theorem itr_inj (t : List Int) (n : Nat) (ht : inR n t) (hi : injR n t) : ∀ (k : Nat) (x y : Int), 0 ≤ x ∧ x < n → 0 ≤ y ∧ y < n → itr t k x = itr t k y → x = y
  | 0, x, y, _, _, h => h
  | k + 1, x, y, hx, hy, h => by
    have a1 := ht.2 x.toNat (by omega); have a2 := ht.2 y.toNat (by omega)
    have ex : ((x.toNat : Nat) : Int) = x := by omega
    have ey : ((y.toNat : Nat) : Int) = y := by omega
    rw [ex] at a1; rw [ey] at a2; have h1 := itr_inj t n ht hi k _ _ a1 a2 h; have := hi x.toNat y.toNat (by omega) (by omega) (by rw [ex, ey]; exact h1); omega
theorem itr_back (t : List Int) (n : Nat) (ht : inR n t) (hi : injR n t) (x : Int) (hx : 0 ≤ x ∧ x < n) : ∃ k : Nat, k < n ∧ itr t (k + 1) x = x := by
  by_cases h : ∃ i j : Nat, i < j ∧ j ≤ n ∧ itr t i x = itr t j x
  · obtain ⟨i, j, h1, h2, h3⟩ := h
    refine ⟨j - i - 1, by omega, ?_⟩
    have e : itr t j x = itr t i (itr t (j - i - 1 + 1) x) := by rw [← itr_add, show j - i - 1 + 1 + i = j by omega]
    rw [e] at h3; exact (itr_inj t n ht hi i _ _ hx (itr_in t n ht _ x hx) h3).symm
  · exfalso
    have h1 := len_le_of_sub ((List.range (n + 1)).map fun i => (itr t i x).toNat) (List.range n) ?_ ?_
    · rw [List.length_map, List.length_range, List.length_range] at h1
      omega
    · rw [List.Nodup, List.pairwise_map]
      refine List.Pairwise.imp_of_mem ?_ (List.pairwise_lt_range (n := n + 1)); intro a b ha hb hab e; have ia := itr_in t n ht a x hx; have ib := itr_in t n ht b x hx; exact h ⟨a, b, hab, by have := List.mem_range.1 hb; omega, by omega⟩
    · intro y hy
      obtain ⟨a, ha, rfl⟩ := List.mem_map.1 hy; have ia := itr_in t n ht a x hx; exact List.mem_range.2 (by omega)
def fc (t : List Int) (ch : Int → Bool) : Nat → Int → Int
  | 0, x => x
  | m + 1, x => if ch x = true then x else fc t ch m (rd t x)
theorem fc_hit (t : List Int) (ch : Int → Bool) : ∀ (m : Nat) (x : Int), (∃ k : Nat, k ≤ m ∧ ch (itr t k x) = true) → ch (fc t ch m x) = true
  | 0, x, ⟨k, hk, h⟩ => by
    have : k = 0 := by omega
    subst this; exact h
  | m + 1, x, ⟨k, hk, h⟩ => by
    simp only [fc]
    split
    · assumption
    · cases k with
      | zero => exact absurd h (by assumption)
      | succ k => exact fc_hit t ch m _ ⟨k, by omega, h⟩
theorem fc_in (t : List Int) (n : Nat) (ht : inR n t) (ch : Int → Bool) : ∀ (m : Nat) (x : Int), 0 ≤ x ∧ x < n → 0 ≤ fc t ch m x ∧ fc t ch m x < n
  | 0, x, h => h
  | m + 1, x, h => by
    simp only [fc]
    split
    · exact h
    · have := ht.2 x.toNat (by omega)
      rw [show ((x.toNat : Nat) : Int) = x by omega] at this; exact fc_in t n ht ch m _ this
theorem meets (t : List Int) (n : Nat) (ht : inR n t) (hi : injR n t) (ch : Int → Bool) (x : Int) (hx : 0 ≤ x ∧ x < n) (hc : ch x = true) : ∃ k : Nat, k ≤ n ∧ ch (itr t k (rd t x)) = true := by
  obtain ⟨k, h1, h2⟩ := itr_back t n ht hi x hx; exact ⟨k, by omega, by rw [show itr t k (rd t x) = itr t (k + 1) x from rfl, h2]; exact hc⟩
def faL (t f : List Int) (n : Nat) (c : List Int) : List Int := (List.range n).map fun (d : Nat) => if chB f n c (d : Int) = true then fc t (chB f n c) n (rd t (rd f (d : Int))) else (d : Int)
theorem faL_len (t f : List Int) (n : Nat) (c : List Int) : (faL t f n c).length = n := by simp [faL]
theorem faL_rd (t f : List Int) (n : Nat) (c : List Int) (d : Nat) (h : d < n) : rd (faL t f n c) (d : Int) = if chB f n c (d : Int) = true then fc t (chB f n c) n (rd t (rd f (d : Int))) else (d : Int) := by
  rw [rd_lt _ _ (by simp [faL]; exact h)]
  simp [faL]
theorem geL_flip (f : List Int) (n : Nat) (hf : inR n f) (hfl : ∀ i : Nat, i < n → flipAt f i) (d : Nat) (hd : d < n) : rd (geL f n n) (rd f d) = rd (geL f n n) d := by
  have h1 := hf.2 d hd; obtain ⟨h2, h3⟩ := hfl d hd
  have hb : (((rd f d).toNat : Nat) : Int) = rd f d := by omega
  have l1 := least_lt f n hf hfl d hd; have l2 := least_lt f n hf hfl (rd f d).toNat (by omega); have e1 := geL_at f n hf hfl n (Nat.le_refl _) d hd l1.1; have e2 := geL_at f n hf hfl n (Nat.le_refl _) (rd f d).toNat (by omega) l2.1; rw [hb] at e2; rw [e1, e2]
  have : least f (rd f d).toNat = least f d := by
    unfold least
    rw [hb, h3]
    split <;> split <;> omega
  rw [this]
theorem chB_flip (f : List Int) (n : Nat) (hf : inR n f) (hfl : ∀ i : Nat, i < n → flipAt f i) (c : List Int) (d : Nat) (hd : d < n) : chB f n c (rd f d) = chB f n c d := by
  unfold chB
  rw [geL_flip f n hf hfl d hd]
theorem fa_ch (t f : List Int) (n : Nat) (ht : inR n t) (hi : injR n t) (hf : inR n f) (hfl : ∀ i : Nat, i < n → flipAt f i) (c : List Int) (d : Nat) (hd : d < n) (hc : chB f n c d = true) :
    chB f n c (rd (faL t f n c) d) = true ∧ 0 ≤ rd (faL t f n c) d ∧ rd (faL t f n c) d < n := by
  have h1 := hf.2 d hd; rw [faL_rd t f n c d hd, if_pos hc]; have h2 := ht.2 (rd f d).toNat (by omega); rw [show (((rd f d).toNat : Nat) : Int) = rd f d by omega] at h2; exact ⟨fc_hit t _ n _ (meets t n ht hi _ _ h1 (by rw [chB_flip f n hf hfl c d hd]; exact hc)), fc_in t n ht _ n _ h2⟩
theorem faL_inR (t f : List Int) (n : Nat) (ht : inR n t) (hf : inR n f) (c : List Int) : inR n (faL t f n c) := by
  refine ⟨faL_len t f n c, fun i hi => ?_⟩; rw [faL_rd t f n c i hi]; have h1 := hf.2 i hi; have h2 := ht.2 (rd f i).toNat (by omega); rw [show (((rd f i).toNat : Nat) : Int) = rd f i by omega] at h2
  split
  · exact fc_in t n ht _ n _ h2
  · omega
theorem getD_set (s : List Bool) (i j : Nat) (b : Bool) (hi : i < s.length) : (s.set i b).getD j false = if i = j then b else s.getD j false := by
  rw [List.getD_eq_getElem?_getD, List.getElem?_set]
  by_cases e : i = j
  · subst e
    simp [hi]
  · simp [e, List.getD_eq_getElem?_getD]
theorem cw_alike (F : List Int) (n : Nat) (ch : Int → Bool) (hF : ∀ d : Nat, d < n → ch d = true → ch (rd F d) = true ∧ 0 ≤ rd F d ∧ rd F d < n) : ∀ (m : Nat) (a : Nat) (s s' : List Bool) (c c' : List Int), a < n → ch a = true → s.length = n → s'.length = n →
    (∀ d : Nat, d < n → ch d = true → s.getD d false = s'.getD d false) →
    (∀ d : Nat, d < n → ch d = true → (cw F m s c a).1.getD d false = (cw F m s' c' a).1.getD d false) ∧ (∀ d : Nat, d < n → ch d = false → (cw F m s c a).1.getD d false = s.getD d false ∧ (cw F m s' c' a).1.getD d false = s'.getD d false)
  | 0, a, s, s', c, c', ha, hc, hs, hs', h => ⟨h, fun d _ _ => ⟨rfl, rfl⟩⟩
  | m + 1, a, s, s', c, c', ha, hc, hs, hs', h => by
    have e := h a ha hc; have f1 := hF a ha hc; simp only [cw]; rw [rdOf_nat s a (by omega), rdOf_nat s' a (by omega), Int.toNat_natCast, e]
    by_cases k : s'.getD a false = true
    · rw [if_pos k, if_pos k]
      exact ⟨h, fun d _ _ => ⟨rfl, rfl⟩⟩
    · rw [if_neg k, if_neg k]
      have ih := cw_alike F n ch hF m (rd F a).toNat (s.set a true) (s'.set a true) (c ++ [(a : Int)]) (c' ++ [(a : Int)]) (by omega) (by rw [show (((rd F a).toNat : Nat) : Int) = rd F a by omega]; exact f1.1) (by simpa using hs) (by simpa using hs') (fun d hd hcd => by
        rw [getD_set _ _ _ _ (by omega), getD_set _ _ _ _ (by omega)]
        split
        · rfl
        · exact h d hd hcd)
      rw [show (((rd F a).toNat : Nat) : Int) = rd F a by omega] at ih; refine ⟨ih.1, fun d hd hcd => ?_⟩; have := ih.2 d hd hcd
      have ne : a ≠ d := by rintro rfl; rw [hc] at hcd; cases hcd
      rw [getD_set _ _ _ _ (by omega), getD_set _ _ _ _ (by omega), if_neg ne, if_neg ne] at this; exact this
def ribS (F : List Int) (n : Nat) (ch : Int → Bool) : Nat → List Bool × Nat
  | 0 => (List.replicate n false, 0)
  | i + 1 => if ch i = true ∧ (ribS F n ch i).1.getD i false = false then ((cw F (n + 1) (ribS F n ch i).1 [] i).1, (ribS F n ch i).2 + 1) else ribS F n ch i
def uc (ch : Int → Bool) : Nat → Nat
  | 0 => 0
  | i + 1 => if ch i = true then uc ch i else uc ch i + 1
theorem ribS_len (F : List Int) (n : Nat) (ch : Int → Bool) : ∀ i, (ribS F n ch i).1.length = n
  | 0 => by simp [ribS]
  | i + 1 => by
    simp only [ribS]
    split
    · rw [cw_len, ribS_len F n ch i]
    · exact ribS_len F n ch i
theorem ribS_le (F : List Int) (n : Nat) (ch : Int → Bool) : ∀ i, (ribS F n ch i).2 ≤ i
  | 0 => by simp [ribS]
  | i + 1 => by
    have := ribS_le F n ch i; simp only [ribS]
    split
    · simp only; omega
    · omega
theorem cw_still (F : List Int) (m : Nat) (s : List Bool) (i : Nat) (hi : i < s.length) (hF : rd F i = i) (hs : s.getD i false = false) : cw F (m + 1) s [] i = (s.set i true, [(i : Int)]) := by
  simp only [cw]; rw [rdOf_nat s i (by omega), Int.toNat_natCast, hs]; simp only [Bool.false_eq_true, if_false, List.nil_append, hF]; rw [cw_seen]; rw [rdOf_nat _ i (by omega), Int.toNat_natCast, getD_set _ _ _ _ hi, if_pos rfl]
theorem ribS_cyS (F : List Int) (n : Nat) (ch : Int → Bool) (hF : ∀ d : Nat, d < n → ch d = true → ch (rd F d) = true ∧ 0 ≤ rd F d ∧ rd F d < n) (hG : ∀ d : Nat, d < n → ch d = false → rd F d = d) : ∀ i, i ≤ n →
    (cyS F n i).2.length = (ribS F n ch i).2 + uc ch i ∧ (∀ d : Nat, d < n → ch d = true → (cyS F n i).1.getD d false = (ribS F n ch i).1.getD d false) ∧ (∀ d : Nat, d < n → ch d = false → i ≤ d → (cyS F n i).1.getD d false = false)
  | 0, _ => by
    refine ⟨by simp [cyS, ribS, uc], fun d hd _ => rfl, fun d hd _ _ => ?_⟩
    simp [cyS, List.getD_eq_getElem?_getD, List.getElem?_replicate, hd]
  | i + 1, hi => by
    obtain ⟨h1, h2, h3⟩ := ribS_cyS F n ch hF hG i (by omega); have l1 := cyS_len F n i; have l2 := ribS_len F n ch i
    cases hc : ch i with
    | true =>
      have e := h2 i (by omega) hc; have al := cw_alike F n ch hF (n + 1) i (cyS F n i).1 (ribS F n ch i).1 [] [] (by omega) hc l1 l2 h2
      by_cases k : (ribS F n ch i).1.getD i false = false
      · have k' : ¬ rdOf false (cyS F n i).1 (i : Int) = true := by
          rw [rdOf_nat _ _ (by omega), Int.toNat_natCast, e, k]
          simp
        simp only [cyS, ribS, uc, hc, k, if_true, and_self]; rw [if_neg (cw_new F n _ i k')]; refine ⟨by simp only [List.length_append, List.length_cons, List.length_nil]; omega, al.1, fun d hd hcd hid => ?_⟩; rw [(al.2 d hd hcd).1]; exact h3 d hd hcd (by omega)
      · have k2 : rdOf false (cyS F n i).1 (i : Int) = true := by
          rw [rdOf_nat _ _ (by omega), Int.toNat_natCast, e]
          simpa using k
        simp only [cyS, ribS, uc, hc, k, if_true, if_false, and_false]; rw [cw_seen F (n + 1) _ _ _ k2]; exact ⟨h1, h2, fun d hd hcd hid => h3 d hd hcd (by omega)⟩
    | false =>
      have z := h3 i (by omega) hc (Nat.le_refl _); simp only [cyS, ribS, uc, hc, Bool.false_eq_true, false_and, if_false]; rw [cw_still F n _ i (by omega) (hG i (by omega) hc) z]; refine ⟨by simp only [List.length_append, List.length_cons, List.length_nil, reduceCtorEq, if_false]; omega, fun d hd hcd => ?_, fun d hd hcd hid => ?_⟩
      · have ne : i ≠ d := by rintro rfl; rw [hc] at hcd; cases hcd
        rw [getD_set _ _ _ _ (by omega), if_neg ne]; exact h2 d hd hcd
      · rw [getD_set _ _ _ _ (by omega), if_neg (by omega)]
        exact h3 d hd hcd (by omega)
theorem uc_eq (ch : Int → Bool) (s : List Bool) : (∀ d : Nat, d < s.length → s.getD d false = ch d) → ∀ i, i ≤ s.length → uc ch i = (s.take i).countP (fun b => !b)
  | h, 0, _ => by simp [uc]
  | h, i + 1, hi => by
    have ih := uc_eq ch s h i (by omega); rw [List.take_add_one, List.countP_append, ← ih]; have e := h i (by omega); rw [List.getD_eq_getElem?_getD, List.getElem?_eq_getElem (by omega)] at e; rw [List.getElem?_eq_getElem (by omega)]; simp only [Option.getD_some] at e; simp only [uc, e, Option.toList_some]
    cases ch i <;> simp
theorem uc_fresh (ch : Int → Bool) (s : List Bool) (h : ∀ d : Nat, d < s.length → s.getD d false = ch d) : uc ch s.length = fresh s := by
  rw [uc_eq ch s h s.length (Nat.le_refl _), List.take_length]; rfl
def chL (f : List Int) (n : Nat) (c : List Int) : List Bool := (List.range n).map fun (d : Nat) => chB f n c (d : Int)
theorem chL_len (f : List Int) (n : Nat) (c : List Int) : (chL f n c).length = n := by simp [chL]
theorem chL_getD (f : List Int) (n : Nat) (c : List Int) (d : Nat) (h : d < n) : (chL f n c).getD d false = chB f n c (d : Int) := by
  rw [List.getD_eq_getElem?_getD, List.getElem?_eq_getElem (by rw [chL_len]; exact h)]
  simp [chL]
theorem chL_rd (f : List Int) (n : Nat) (c : List Int) (x : Int) (h0 : 0 ≤ x) (h : x < n) : rdOf false (chL f n c) x = chB f n c x := by
  rw [rdOf_nat _ x h0, chL_getD f n c x.toNat (by omega), show ((x.toNat : Nat) : Int) = x by omega]
theorem bl_ext (a b : List Bool) (h : a.length = b.length) (hr : ∀ i : Nat, i < a.length → a.getD i false = b.getD i false) : a = b := by
  refine List.ext_getElem h fun i h1 h2 => ?_
  have := hr i h1; rw [List.getD_eq_getElem?_getD, List.getD_eq_getElem?_getD, List.getElem?_eq_getElem h1, List.getElem?_eq_getElem h2] at this
  simpa using this
theorem chB_take (f : List Int) (n : Nat) (c : List Int) (i : Nat) (hi : i < c.length) (d : Int) : chB f n (c.take (i + 1)) d = (chB f n (c.take i) d || decide (rd (geL f n n) d = rd c i)) := by
  unfold chB
  rw [take_get c i hi, Bool.eq_iff_iff, Bool.or_eq_true, decide_eq_true_eq, decide_eq_true_eq, decide_eq_true_eq, List.mem_append, List.mem_singleton]
theorem step_ch (f : List Int) (n : Nat) (c : List Int) (i : Nat) (hi : i < c.length) (a b : Nat) (ha : a < n) (hb : b < n) (h : ∀ d : Nat, d < n → (rd (geL f n n) (d : Int) = rd c i ↔ d = a ∨ d = b)) :
    ((chL f n (c.take i)).set a true).set b true = chL f n (c.take (i + 1)) := by
  refine bl_ext _ _ (by simp [chL_len]) fun d hd => ?_
  have hd' : d < n := by simpa [chL_len] using hd
  rw [getD_set _ _ _ _ (by rw [List.length_set, chL_len]; exact hb), getD_set _ _ _ _ (by rw [chL_len]; exact ha), chL_getD _ _ _ d hd', chL_getD _ _ _ d hd', chB_take f n c i hi]; have e := h d hd'
  by_cases e1 : b = d
  · rw [if_pos e1, decide_eq_true (e.2 (.inr e1.symm)), Bool.or_true]
  · by_cases e2 : a = d
    · rw [if_neg e1, if_pos e2, decide_eq_true (e.2 (.inl e2.symm)), Bool.or_true]
    · rw [if_neg e1, if_neg e2, decide_eq_false (fun z => (e.1 z).elim (fun z => e2 z.symm) (fun z => e1 z.symm)), Bool.or_false]
theorem step_fl (f : List Int) (n : Nat) (c : List Int) (i : Nat) (hi : i < c.length) (a b : Nat) (ha : a < n) (hb : b < n) (hab : rd f a = b) (hba : rd f b = a) (h : ∀ d : Nat, d < n → (rd (geL f n n) (d : Int) = rd c i ↔ d = a ∨ d = b)) :
    ((flC f n (c.take i)).set a (b : Int)).set b (a : Int) = flC f n (c.take (i + 1)) := by
  refine list_ext _ _ (by simp [flC_len]) fun d hd => ?_
  have hd' : d < n := by simpa [flC_len] using hd
  have e := h d hd'; rw [flC_rd f n _ d hd', chB_take f n c i hi]
  by_cases e1 : b = d
  · subst e1
    rw [rd_set_self _ _ _ (by simpa [flC_len] using hb), decide_eq_true (e.2 (.inr rfl)), Bool.or_true, if_pos rfl, hba]
  · rw [rd_set_ne _ _ _ _ e1]
    by_cases e2 : a = d
    · subst e2
      rw [rd_set_self _ _ _ (by simpa [flC_len] using ha), decide_eq_true (e.2 (.inl rfl)), Bool.or_true, if_pos rfl, hab]
    · rw [rd_set_ne _ _ _ _ e2, flC_rd f n _ d hd', decide_eq_false (fun z => (e.1 z).elim (fun z => e2 z.symm) (fun z => e1 z.symm)), Bool.or_false]
theorem ch_fresh (f : List Int) (n : Nat) (hf : inR n f) (hfl : ∀ i : Nat, i < n → flipAt f i) (c : List Int) (hc : isChoice c ((edL f n).length : Int)) : ∀ i, i ≤ c.length → fresh (chL f n (c.take i)) + 2 * i = n
  | 0, _ => by
    have e : chL f n (c.take 0) = List.replicate n false := by
      refine bl_ext _ _ (by simp [chL_len]) fun d hd => ?_
      rw [chL_getD f n _ d (by rwa [chL_len] at hd)]
      have hd' : d < n := by rwa [chL_len] at hd
      simp [chB, List.getD_eq_getElem?_getD, List.getElem?_replicate, hd']
    rw [e]
    simp [fresh, List.countP_replicate]
  | i + 1, hi => by
    have ih := ch_fresh f n hf hfl c hc i (by omega); have hr := choice_range c _ hc i (by omega); obtain ⟨a, b, ha, hb, hab, _, _, _, h⟩ := edge_at f n hf hfl (rd c i).toNat (by omega); rw [show (((rd c i).toNat : Nat) : Int) = rd c i by omega] at h; have hna := not_ahead c _ hc i (by omega)
    have fa : chB f n (c.take i) a = false := by
      unfold chB
      rw [(h a ha).2 (.inl rfl)]; exact decide_eq_false hna
    have fb : chB f n (c.take i) b = false := by
      unfold chB
      rw [(h b hb).2 (.inr rfl)]; exact decide_eq_false hna
    rw [← step_ch f n c i (by omega) a b ha hb h]; have l := chL_len f n (c.take i); have g1 := fresh_set (chL f n (c.take i)) a (by omega) (by rw [chL_getD f n _ a ha, fa]); have g2 := fresh_set ((chL f n (c.take i)).set a true) b (by simp; omega) (by rw [getD_set _ _ _ _ (by omega), if_neg hab, chL_getD f n _ b hb, fb]); omega
theorem flC_zero (f : List Int) (n : Nat) (c : List Int) : flC f n (c.take 0) = stl n := by
  refine list_ext _ _ (by simp [flC_len, stl_length]) fun d hd => ?_
  have hd' : d < n := by rwa [flC_len] at hd
  rw [flC_rd f n _ d hd', stl_rd n d hd']
  simp [chB]
theorem chL_zero (f : List Int) (n : Nat) (c : List Int) : chL f n (c.take 0) = List.replicate n false := by
  refine bl_ext _ _ (by simp [chL_len]) fun d hd => ?_
  have hd' : d < n := by rwa [chL_len] at hd
  rw [chL_getD f n _ d hd']
  simp [chB, List.getD_eq_getElem?_getD, List.getElem?_replicate, hd']
def pc (o : List Int) : Nat → Nat
  | 0 => 0
  | i + 1 => if (i : Int) = rd o i then pc o i + 1 else pc o i
theorem pc_le (o : List Int) : ∀ i, pc o i ≤ i
  | 0 => Nat.le_refl _
  | i + 1 => by
    have := pc_le o i; simp only [pc]
    split <;> omega
def bc (C : List (List Int)) (ch : Int → Bool) : Nat → Nat
  | 0 => 0
  | i + 1 => if (rd_L1 C i).any ch = true then bc C ch i else bc C ch i + 1
theorem bc_le (C : List (List Int)) (ch : Int → Bool) : ∀ i, bc C ch i ≤ i
  | 0 => Nat.le_refl _
  | i + 1 => by
    have := bc_le C ch i; simp only [bc]
    split <;> omega
def sidesN (t f : List Int) (n : Nat) (c : List Int) : Nat := bc (cyS t n n).2 (chB f n c) (cyS t n n).2.length + (ribS (faL t f n c) n (chB f n c) n).2
theorem contF_run (l : List Int) (hl : l.length ≤ 1048576) (f : List Int) (n : Nat) (c : List Int) (hr : ∀ x ∈ l, 0 ≤ x ∧ x < n) : ∀ (d i : Nat), l.length - i = d → i ≤ l.length → ∃ v : Int, Ev (fun k => containsF.l0 k l (chL f n c) i) v ∧ (v ≥ 0 ↔ (l.drop i).any (chB f n c) = true)
  | 0, i, hd, hi => by
    refine ⟨-1, Ev.s ?_, ?_⟩
    · simp only [containsF.l0, show ¬ (i : Int) < (l.length : Int) by omega, if_false]
      exact Ev.const rfl
    · rw [List.drop_eq_nil_of_le (by omega)]
      simp
  | d + 1, i, hd, hi => by
    have hlt : i < l.length := by omega
    have e := rd_lt l i hlt; have h1 := hr _ (List.getElem_mem hlt); rw [← e] at h1
    have g1 : (i : Int) < (l.length : Int) := by omega
    have g2 : (0 : Int) ≤ (i : Int) := by omega
    have g3 := chL_len f n c; obtain ⟨v, v1, v2⟩ := contF_run l hl f n c hr d (i + 1) (by omega) (by omega)
    cases h : chB f n c (rd l i) with
    | true =>
      refine ⟨i, Ev.s ?_, ?_⟩
      · simp only [containsF.l0, g1, g2, h1.1, g3, h1.2, chL_rd f n c _ h1.1 h1.2, h, if_true]
        exact Ev.const rfl
      · rw [List.drop_eq_getElem_cons hlt, ← e, List.any_cons, h, Bool.true_or]
        exact ⟨fun _ => rfl, fun _ => by omega⟩
    | false =>
      refine ⟨v, Ev.s ?_, ?_⟩
      · simp only [containsF.l0, g1, g2, h1.1, g3, h1.2, chL_rd f n c _ h1.1 h1.2, h, if_true, Bool.false_eq_true, if_false, w64n (show i < 4611686018427387904 by omega)]
        exact v1
      · rw [v2, List.drop_eq_getElem_cons hlt, ← e, List.any_cons, h, Bool.false_or]
theorem contF_ev (l : List Int) (hl : l.length ≤ 1048576) (f : List Int) (n : Nat) (c : List Int) (hr : ∀ x ∈ l, 0 ≤ x ∧ x < n) : Ev (fun k => containsF.f k l (chL f n c)) (l.any (chB f n c)) := by
  obtain ⟨v, v1, v2⟩ := contF_run l hl f n c hr l.length 0 (by omega) (by omega)
  unfold containsF.f
  refine Ev.bind v1 (Ev.const ?_); rw [List.drop_zero] at v2
  congr 1
  rw [Bool.eq_iff_iff, decide_eq_true_eq]; exact v2
theorem cw_ok (p : List Int) (n : Nat) (hp : inR n p) : ∀ (f : Nat) (s : List Bool) (c : List Int) (a : Int), s.length = n → 0 ≤ a → a < n → (∀ x ∈ c, 0 ≤ x ∧ x < n) → (∀ x ∈ (cw p f s c a).2, 0 ≤ x ∧ x < n) ∧ (cw p f s c a).2.length ≤ c.length + f
  | 0, s, c, a, hs, h0, h1, hc => ⟨hc, by simp [cw]⟩
  | f + 1, s, c, a, hs, h0, h1, hc => by
    simp only [cw]
    split
    · exact ⟨hc, by simp only; omega⟩
    · have h5 := hp.2 a.toNat (by omega)
      rw [show ((a.toNat : Nat) : Int) = a by omega] at h5; have ih := cw_ok p n hp f (s.set a.toNat true) (c ++ [a]) (rd p a) (by simpa using hs) h5.1 h5.2 (fun x hx => by
        rw [List.mem_append, List.mem_singleton] at hx; exact hx.elim (hc x) (fun e => by rw [e]; exact ⟨h0, h1⟩))
      refine ⟨ih.1, ?_⟩; have := ih.2; simp only [List.length_append, List.length_cons, List.length_nil] at this; omega
theorem cyS_ok (p : List Int) (n : Nat) (hp : inR n p) : ∀ i, i ≤ n → ∀ l ∈ (cyS p n i).2, (∀ x ∈ l, 0 ≤ x ∧ x < n) ∧ l.length ≤ n + 1
  | 0, _, l, hl => by simp [cyS] at hl
  | i + 1, hi, l, hl => by
    have ih := cyS_ok p n hp i (by omega); have ok := cw_ok p n hp (n + 1) (cyS p n i).1 [] i (cyS_len p n i) (by omega) (by omega) (by simp); simp only [cyS] at hl
    split at hl
    · exact ih l hl
    · rw [List.mem_append, List.mem_singleton] at hl
      rcases hl with hl | rfl
      · exact ih l hl
      · exact ⟨ok.1, by simpa using ok.2⟩
theorem rdL_ok (C : List (List Int)) (P : List Int → Prop) (h : ∀ l ∈ C, P l) (i : Nat) (hi : i < C.length) : P (rd_L1 C i) := by
  rw [rdL_nth C i hi]; exact h _ (List.getElem_mem hi)
def RibOk (t f c : List Int) (n : Nat) : Prop := n ≤ 12 ∧ 1 ≤ n ∧ inR n t ∧ injR n t ∧ inR n f ∧ (∀ i : Nat, i < n → flipAt f i) ∧ isChoice c ((edL f n).length : Int) ∧ c.length ≤ 1048576
theorem ir_l0 (t f c : List Int) (n : Nat) (H : RibOk t f c n) (m : Int) (r : List Int) (h : Ev (fun k => (impl_orbits.f k [t, flC f n c]).bind fun o => impl_ribbon.l1 k c m (flC f n c) 0 o (o.length : Int) 0 t f (chL f n c)) r) : ∀ (d i : Nat), c.length - i = d → i ≤ c.length → Ev (fun k => impl_ribbon.l0 k c m (flC f n (c.take i)) c c.length i t f (chL f n (c.take i))) r
  | 0, i, hd, hi => by
    obtain ⟨hn, h1, ht, hti, hf, hfl, hc, hcl⟩ := id H
    have : i = c.length := by omega
    subst this; refine Ev.s ?_; simp only [impl_ribbon.l0, show ¬ (c.length : Int) < (c.length : Int) by omega, if_false, List.take_length]; exact h
  | d + 1, i, hd, hi => by
    obtain ⟨hn, h1, ht, hti, hf, hfl, hc, hcl⟩ := id H; have ih := ir_l0 t f c n H m r h d (i + 1) (by omega) (by omega); have hr := choice_range c _ hc i (by omega); obtain ⟨a, b, ha, hb, hab, e1, e2, e3, e4⟩ := edge_at f n hf hfl (rd c i).toNat (by omega); rw [show (((rd c i).toNat : Nat) : Int) = rd c i by omega] at e1 e4; rw [← step_ch f n c i (by omega) a b ha hb e4, ← step_fl f n c i (by omega) a b ha hb e2 e3 e4] at ih; have l1 := chL_len f n (c.take i); have l2 := flC_len f n (c.take i); refine Ev.s ?_; simp only [impl_ribbon.l0, show (i : Int) < (c.length : Int) by omega, show (0 : Int) ≤ (i : Int) by omega, if_true]; refine Ev.bind (implEdges_ev n (by omega) t f hf) ?_; simp only [hr.1, hr.2, e1, e2, hf.1, l1, l2, show (0 : Int) ≤ (a : Int) by omega, show (a : Int) < (n : Int) by omega, show (0 : Int) ≤ (b : Int) by omega, show (b : Int) < (n : Int) by omega, if_true, w64n (show i < 4611686018427387904 by omega), Int.toNat_natCast]; exact ih
theorem ir_l1 (t f c : List Int) (n : Nat) (H : RibOk t f c n) (m : Int) (g : List Int) (s : List Bool) (o : List Int) (ho : o.length = n) (r : List Int) (h : Ev (fun k => (impl_cyclesOf.f k t).bind fun C => impl_ribbon.l2 k c m g (pc o n) 0 C (C.length : Int) 0 t f s) r) : ∀ (d i : Nat), n - i = d → i ≤ n → Ev (fun k => impl_ribbon.l1 k c m g (pc o i) o n i t f s) r
  | 0, i, hd, hi => by
    obtain ⟨hn, h1, ht, hti, hf, hfl, hc, hcl⟩ := id H
    have : i = n := by omega
    subst this; refine Ev.s ?_; simp only [impl_ribbon.l1, show ¬ (i : Int) < (i : Int) by omega, if_false]; exact h
  | d + 1, i, hd, hi => by
    obtain ⟨hn, h1, ht, hti, hf, hfl, hc, hcl⟩ := id H; have ih := ir_l1 t f c n H m g s o ho r h d (i + 1) (by omega) (by omega); have hp := pc_le o i; refine Ev.s ?_; simp only [impl_ribbon.l1, ho, show (i : Int) < (n : Int) by omega, show (0 : Int) ≤ (i : Int) by omega, if_true, w64n (show i < 4611686018427387904 by omega), w64n (show pc o i < 4611686018427387904 by omega)]; simp only [pc] at ih
    by_cases e : (i : Int) = rd o i
    · simp only [if_pos e] at ih ⊢; exact ih
    · simp only [if_neg e] at ih ⊢; exact ih
theorem ir_l2 (t f c : List Int) (n : Nat) (H : RibOk t f c n) (g : List Int) (P : Int) (C : List (List Int)) (hC : ∀ l ∈ C, (∀ x ∈ l, 0 ≤ x ∧ x < n) ∧ l.length ≤ n + 1) (hCl : C.length ≤ n) (r : List Int) (h : Ev (fun k => impl_ribbon.l3 k c g P (bc C (chB f n c) C.length) (List.replicate n false) n 0 t f (chL f n c)) r) : ∀ (d i : Nat), C.length - i = d → i ≤ C.length → Ev (fun k => impl_ribbon.l2 k c n g P (bc C (chB f n c) i) C C.length i t f (chL f n c)) r
  | 0, i, hd, hi => by
    obtain ⟨hn, h1, ht, hti, hf, hfl, hc, hcl⟩ := id H
    have : i = C.length := by omega
    subst this; refine Ev.s ?_; simp only [impl_ribbon.l2, show ¬ (C.length : Int) < (C.length : Int) by omega, if_false, show (0 : Int) ≤ (n : Int) by omega, if_true, Int.toNat_natCast, show n ≤ 281474976710656 by omega]; exact h
  | d + 1, i, hd, hi => by
    obtain ⟨hn, h1, ht, hti, hf, hfl, hc, hcl⟩ := id H; have ih := ir_l2 t f c n H g P C hC hCl r h d (i + 1) (by omega) (by omega); have hb := bc_le C (chB f n c) i; have ok := rdL_ok C _ hC i (by omega); refine Ev.s ?_; simp only [impl_ribbon.l2, show (i : Int) < (C.length : Int) by omega, show (0 : Int) ≤ (i : Int) by omega, if_true, w64n (show i < 4611686018427387904 by omega), w64n (show bc C (chB f n c) i < 4611686018427387904 by omega)]; refine Ev.bind (contF_ev (rd_L1 C i) (by omega) f n c ok.1) ?_; simp only [bc] at ih
    by_cases e : (rd_L1 C i).any (chB f n c) = true
    · simp only [if_pos e] at ih ⊢; exact ih
    · simp only [if_neg e] at ih ⊢; exact ih
theorem ir_l5 (t f c : List Int) (n : Nat) (H : RibOk t f c n) (g : List Int) (P S : Int) (s : List Bool) (i : Int) (r : List Int) : ∀ (m : Nat) (x : Int), 0 ≤ x ∧ x < n → (∃ k : Nat, k ≤ m ∧ chB f n c (itr t k x) = true) → Ev (fun k => impl_ribbon.l4 k c g P S s (fc t (chB f n c) m x) n i t f (chL f n c)) r → Ev (fun k => impl_ribbon.l5 k c g P S s x n i t f (chL f n c)) r
  | 0, x, hx, ⟨k, hk, hh⟩, h => by
    obtain ⟨hn, h1, ht, hti, hf, hfl, hc, hcl⟩ := id H
    have : k = 0 := by omega
    subst this; have hh' : chB f n c x = true := hh; refine Ev.s ?_; simp only [impl_ribbon.l5, hx.1, chL_len, hx.2, chL_rd f n c x hx.1 hx.2, hh', if_true]; exact h
  | m + 1, x, hx, ⟨k, hk, hh⟩, h => by
    obtain ⟨hn, h1, ht, hti, hf, hfl, hc, hcl⟩ := id H; refine Ev.s ?_; simp only [impl_ribbon.l5, hx.1, chL_len, hx.2, chL_rd f n c x hx.1 hx.2, ht.1, if_true]; simp only [fc] at h; have h5 := ht.2 x.toNat (by omega); rw [show ((x.toNat : Nat) : Int) = x by omega] at h5
    by_cases e : chB f n c x = true
    · simp only [if_pos e] at h ⊢; exact h
    · simp only [if_neg e] at h ⊢
      cases k with
      | zero => exact absurd hh e
      | succ k => exact ir_l5 t f c n H g P S s i r m _ h5 ⟨k, by omega, hh⟩ h
theorem ir_l4 (t f c : List Int) (n : Nat) (H : RibOk t f c n) (P S : Int) (i : Nat) (r : List Int) : ∀ (m : Nat) (s : List Bool) (l : List Int) (a : Nat), s.length = n → a < n → chB f n c a = true → fresh s < m → Ev (fun k => impl_ribbon.l3 k c (flC f n c) P S (cw (faL t f n c) m s l a).1 n (wrap64 ((i : Int) + 1)) t f (chL f n c)) r → Ev (fun k => impl_ribbon.l4 k c (flC f n c) P S s a n i t f (chL f n c)) r
  | 0, s, l, a, hs, ha, hca, hm, h => absurd hm (Nat.not_lt_zero _)
  | m + 1, s, l, a, hs, ha, hca, hm, h => by
    obtain ⟨hn, h1, ht, hti, hf, hfl, hc, hcl⟩ := id H; refine Ev.s ?_; simp only [cw] at h
    have g1 : (a : Int) < (n : Int) := by omega
    have g2 : (0 : Int) ≤ (a : Int) := by omega
    simp only [impl_ribbon.l4, g2, hs, g1, if_true]
    by_cases e : rdOf false s (a : Int) = true
    · simp only [e, if_true] at h ⊢
      exact h
    · simp only [e, if_false] at h ⊢
      have fl := flC_rd f n c a ha; rw [if_pos hca] at fl; have fr := hf.2 a ha; have tr := ht.2 (rd f a).toNat (by omega); rw [show (((rd f a).toNat : Nat) : Int) = rd f a by omega] at tr; have fx := fa_ch t f n ht hti hf hfl c a ha hca
      have h3 : s.getD a false = false := by
        rw [rdOf_nat s a g2, Int.toNat_natCast] at e
        simpa using e
      have h4 := fresh_set s a (by omega) h3; simp only [flC_len, g1, fl, fr.1, ht.1, fr.2, if_true, Int.toNat_natCast]; simp only [Int.toNat_natCast] at h; refine ir_l5 t f c n H (flC f n c) P S _ i r n _ tr (meets t n ht hti _ _ fr (by rw [chB_flip f n hf hfl c a ha]; exact hca)) ?_; have fe := faL_rd t f n c a ha; rw [if_pos hca] at fe; rw [← fe]; rw [show rd (faL t f n c) a = (((rd (faL t f n c) a).toNat : Nat) : Int) by omega] at h ⊢; exact ir_l4 t f c n H P S i r m (s.set a true) (l ++ [(a : Int)]) _ (by simpa using hs) (by omega) (by rw [show (((rd (faL t f n c) a).toNat : Nat) : Int) = rd (faL t f n c) a by omega]; exact fx.1) (by omega) h
def fiveN (P S V c : Int) : List Int := [P, S, wrap64 (V - P), wrap64 (c - wrap64 (V - P)), wrap64 (Int.tdiv (wrap64 (wrap64 (wrap64 (wrap64 (2 * P) - V) + c) - S)) 2)]
theorem ir_l3 (t f c : List Int) (n : Nat) (H : RibOk t f c n) (P : Int) (B : Nat) (hB : B ≤ n) : ∀ (d i : Nat), n - i = d → i ≤ n → Ev (fun k => impl_ribbon.l3 k c (flC f n c) P ((B + (ribS (faL t f n c) n (chB f n c) i).2 : Nat) : Int) (ribS (faL t f n c) n (chB f n c) i).1 n i t f (chL f n c)) (fiveN P ((B + (ribS (faL t f n c) n (chB f n c) n).2 : Nat) : Int) ((cyS t n n).2.length : Int) c.length)
  | 0, i, hd, hi => by
    obtain ⟨hn, h1, ht, hti, hf, hfl, hc, hcl⟩ := id H
    have : i = n := by omega
    subst this; refine Ev.s ?_; simp only [impl_ribbon.l3, show ¬ (i : Int) < (i : Int) by omega, if_false]; exact Ev.bind (implCyc_ev t i (by omega) ht) (Ev.const rfl)
  | d + 1, i, hd, hi => by
    obtain ⟨hn, h1, ht, hti, hf, hfl, hc, hcl⟩ := id H; have ih := ir_l3 t f c n H P B hB d (i + 1) (by omega) (by omega); have l1 := ribS_len (faL t f n c) n (chB f n c) i; have l2 := ribS_le (faL t f n c) n (chB f n c) i; have fr := fresh_le (ribS (faL t f n c) n (chB f n c) i).1
    have g1 : (i : Int) < (n : Int) := by omega
    have g2 : (0 : Int) ≤ (i : Int) := by omega
    refine Ev.s ?_; simp only [impl_ribbon.l3, g1, g2, chL_len, if_true, chL_rd f n c _ g2 g1, l1]; simp only [ribS] at ih; have wi : wrap64 ((i : Int) + 1) = ((i + 1 : Nat) : Int) := w64n (by omega)
    cases hci : chB f n c (i : Int) with
    | true =>
      simp only [hci, true_and, if_true] at ih ⊢; refine Ev.s ?_
      cases hs : (ribS (faL t f n c) n (chB f n c) i).1.getD i false with
      | true =>
        rw [hs] at ih; simp only [Bool.true_eq_false, if_false] at ih; simp only [impl_ribbon.j4, rdOf_nat _ _ g2, Int.toNat_natCast, hs, if_true, wi]; exact ih
      | false =>
        rw [hs] at ih; simp only [if_true] at ih; simp only [impl_ribbon.j4, rdOf_nat _ _ g2, Int.toNat_natCast, hs, Bool.false_eq_true, if_false, w64n (show B + (ribS (faL t f n c) n (chB f n c) i).2 < 4611686018427387904 by omega)]; refine ir_l4 t f c n H P _ i _ (n + 1) _ [] i l1 (by omega) hci (by omega) ?_; rw [wi]; exact ih
    | false =>
      simp only [hci, Bool.false_eq_true, false_and, if_false] at ih ⊢; refine Ev.s ?_; simp only [impl_ribbon.j4, if_true, wi]; exact ih
def mixL (A B : List Int) (n i : Nat) : List Int := (List.range n).map fun (d : Nat) => if d < i then rd A (d : Int) else rd B (d : Int)
theorem mixL_len (A B : List Int) (n i : Nat) : (mixL A B n i).length = n := by simp [mixL]
theorem mixL_rd (A B : List Int) (n i d : Nat) (h : d < n) : rd (mixL A B n i) (d : Int) = if d < i then rd A (d : Int) else rd B (d : Int) := by
  rw [rd_lt _ _ (by simp [mixL]; exact h)]
  simp [mixL]
theorem mixL_zero (A B : List Int) (n : Nat) (hB : B.length = n) : mixL A B n 0 = B := by
  refine list_ext _ _ (by rw [mixL_len, hB]) fun d hd => ?_
  rw [mixL_len] at hd; rw [mixL_rd A B n 0 d hd, if_neg (by omega)]
theorem mixL_all (A B : List Int) (n : Nat) (hA : A.length = n) : mixL A B n n = A := by
  refine list_ext _ _ (by rw [mixL_len, hA]) fun d hd => ?_
  rw [mixL_len] at hd; rw [mixL_rd A B n n d hd, if_pos hd]
theorem mixL_set (A B : List Int) (n i : Nat) (hi : i < n) : (mixL A B n i).set i (rd A i) = mixL A B n (i + 1) := by
  refine list_ext _ _ (by simp [mixL_len]) fun d hd => ?_
  have hd' : d < n := by simpa [mixL_len] using hd
  rw [mixL_rd A B n (i + 1) d hd']
  by_cases e : i = d
  · subst e
    rw [rd_set_self _ _ _ (by rw [mixL_len]; exact hi), if_pos (by omega)]
  · rw [rd_set_ne _ _ _ _ e, mixL_rd A B n i d hd']
    by_cases e2 : d < i
    · rw [if_pos e2, if_pos (by omega)]
    · rw [if_neg e2, if_neg (by omega)]
theorem mixL_skip (A B : List Int) (n i : Nat) (hi : i < n) (h : rd A i = rd B i) : mixL A B n i = mixL A B n (i + 1) := by
  refine list_ext _ _ (by simp [mixL_len]) fun d hd => ?_
  have hd' : d < n := by simpa [mixL_len] using hd
  rw [mixL_rd A B n (i + 1) d hd', mixL_rd A B n i d hd']
  by_cases e2 : d < i
  · rw [if_pos e2, if_pos (by omega)]
  · rw [if_neg e2]
    by_cases e : d < i + 1
    · have : d = i := by omega
      subst this; rw [if_pos e, h]
    · rw [if_neg e]
theorem sp_l1 (o : List Int) (n : Nat) (hn : n ≤ 12) (ho : o.length = n) : ∀ (d i : Nat), n - i = d → i ≤ n → Ev (fun k => spec_l7Parts.l1 k o (pc o i) i) (pc o n : Int)
  | 0, i, hd, hi => by
    have : i = n := by omega
    subst this; refine Ev.s ?_; simp only [spec_l7Parts.l1, ho, show ¬ (i : Int) < (i : Int) by omega, if_false]; exact Ev.const rfl
  | d + 1, i, hd, hi => by
    have ih := sp_l1 o n hn ho d (i + 1) (by omega) (by omega); have hp := pc_le o i; refine Ev.s ?_; simp only [spec_l7Parts.l1, ho, show (i : Int) < (n : Int) by omega, show (0 : Int) ≤ (i : Int) by omega, if_true, w64n (show i < 4611686018427387904 by omega), w64n (show pc o i < 4611686018427387904 by omega)]; simp only [pc] at ih
    by_cases e : (i : Int) = rd o i
    · simp only [if_pos e] at ih
      simp only [if_pos e.symm]; exact ih
    · simp only [if_neg e] at ih
      have e' : ¬ rd o i = (i : Int) := fun z => e z.symm
      simp only [if_neg e']; exact ih
theorem sp_l0 (t f c : List Int) (n : Nat) (H : RibOk t f c n) (r : Int) (h : Ev (fun k => (spec_l1Orbits.f k t (flC f n c)).bind fun o => spec_l7Parts.l1 k o 0 0) r) : ∀ (d i : Nat), n - i = d → i ≤ n → Ev (fun k => spec_l7Parts.l0 k c (mixL (flC f n c) (stl n) n i) (geL f n n) i t f) r
  | 0, i, hd, hi => by
    have : i = n := by omega
    subst this; refine Ev.s ?_; simp only [spec_l7Parts.l0, mixL_len, show ¬ (i : Int) < (i : Int) by omega, if_false]; rw [mixL_all _ _ _ (flC_len f i c)]; exact h
  | d + 1, i, hd, hi => by
    obtain ⟨hn, h1, ht, hti, hf, hfl, hc, hcl⟩ := id H; have ih := sp_l0 t f c n H r h d (i + 1) (by omega) (by omega)
    have g1 : (i : Int) < (n : Int) := by omega
    have g2 : (0 : Int) ≤ (i : Int) := by omega
    have fl := flC_rd f n c i (by omega); refine Ev.s ?_; simp only [spec_l7Parts.l0, mixL_len, g1, g2, geL_len, if_true]; refine Ev.bind (has_ev c hcl (rd (geL f n n) i)) ?_; rw [show decide (rd (geL f n n) (i : Int) ∈ c) = chB f n c i from rfl]; simp only [hf.1, g1, if_true, w64n (show i < 4611686018427387904 by omega), Int.toNat_natCast]
    by_cases e : chB f n c i = true
    · rw [if_pos e] at fl
      simp only [if_pos e]; rw [← mixL_set _ _ _ _ (by omega : i < n), fl] at ih; exact ih
    · rw [if_neg e] at fl
      simp only [if_neg e]; rw [← mixL_skip _ _ _ _ (by omega : i < n) (by rw [fl, stl_rd n i (by omega)])] at ih; exact ih
theorem ribbon_parts (t f c : List Int) (n : Nat) (H : RibOk t f c n) : ∃ o, orbOk [t, flC f n c] n o ∧ Ev (fun k => spec_l7Parts.f k t f c) (pc o n : Int) ∧
    Ev (fun k => impl_ribbon.f k t f c) (fiveN (pc o n) (sidesN t f n c) ((cyS t n n).2.length : Int) c.length) := by
  obtain ⟨hn, h1, ht, hti, hf, hfl, hc, hcl⟩ := id H; obtain ⟨o, o1, o2, o3⟩ := orb_both t (flC f n c) n hn h1 ht (flC_inR f n hf c)
  have hp : Ev (fun k => spec_l7Parts.f k t f c) (pc o n : Int) := by
    unfold spec_l7Parts.f
    rw [hf.1]; refine Ev.bind (same_ev n (by omega)) ?_; refine Ev.bind (specEdges_ev n (by omega) t f hf) ?_; have := sp_l0 t f c n H _ (Ev.bind o2 (sp_l1 o n hn o1.1.1 n 0 (by omega) (by omega))) n 0 (by omega) (by omega); rw [mixL_zero _ _ _ (stl_length n)] at this; exact this
  refine ⟨o, o1, hp, ?_⟩
  · unfold impl_ribbon.f
    rw [ht.1]; simp only [show (0 : Int) ≤ (n : Int) by omega, Int.toNat_natCast, show n ≤ 281474976710656 by omega, if_true]; refine Ev.bind (still_ev n (by omega)) ?_; have hCl := cyS_many t n n; have hb := bc_le (cyS t n n).2 (chB f n c) (cyS t n n).2.length; rw [← flC_zero f n c, ← chL_zero f n c]; refine ir_l0 t f c n H n _ (Ev.bind o3 ?_) c.length 0 (by omega) (by omega); rw [o1.1.1]; refine ir_l1 t f c n H n _ _ o o1.1.1 _ (Ev.bind (implCyc_ev t n (by omega) ht) ?_) n 0 (by omega) (by omega); refine ir_l2 t f c n H _ _ _ (cyS_ok t n ht n (Nat.le_refl _)) hCl _ ?_ _ 0 rfl (by omega); exact ir_l3 t f c n H (pc o n) _ (by omega) n 0 (by omega) (by omega)
theorem ss_l1 (t f c : List Int) (n : Nat) (H : RibOk t f c n) (F : List Int) (C : List (List Int)) (q : Nat) (hq : q < C.length) (hl : (∀ x ∈ rd_L1 C q, 0 ≤ x ∧ x < n) ∧ (rd_L1 C q).length ≤ n + 1) (B : Int) (r : Int) : ∀ (d i K : Nat), (rd_L1 C q).length - i = d → i ≤ (rd_L1 C q).length → K ≤ i →
    ((K = 0 ∧ ((rd_L1 C q).drop i).any (chB f n c) = false) → Ev (fun k => spec_l7Sides.l0 k c (geL f n n) F (wrap64 (B + 1)) C (wrap64 ((q : Int) + 1)) t f) r → Ev (fun k => spec_l7Sides.l1 k c (geL f n n) F B C q K i t f) r) ∧
    (¬ (K = 0 ∧ ((rd_L1 C q).drop i).any (chB f n c) = false) → Ev (fun k => spec_l7Sides.l0 k c (geL f n n) F B C (wrap64 ((q : Int) + 1)) t f) r → Ev (fun k => spec_l7Sides.l1 k c (geL f n n) F B C q K i t f) r)
  | 0, i, K, hd, hi, hK => by
    have : i = (rd_L1 C q).length := by omega
    rw [List.drop_eq_nil_of_le (by omega)]; refine ⟨fun ⟨h, _⟩ hr => Ev.s ?_, fun h hr => Ev.s ?_⟩
    · simp only [spec_l7Sides.l1, show (0 : Int) ≤ (q : Int) by omega, show (q : Int) < (C.length : Int) by omega, show ¬ (i : Int) < ((rd_L1 C q).length : Int) by omega, show (K : Int) = 0 by omega, if_true, if_false]
      exact hr
    · have hK0 : ¬ (K : Int) = 0 := fun z => h ⟨by omega, by simp⟩
      simp only [spec_l7Sides.l1, show (0 : Int) ≤ (q : Int) by omega, show (q : Int) < (C.length : Int) by omega, show ¬ (i : Int) < ((rd_L1 C q).length : Int) by omega, hK0, if_true, if_false]; exact hr
  | d + 1, i, K, hd, hi, hK => by
    obtain ⟨hn, h1, ht, hti, hf, hfl, hc, hcl⟩ := id H
    have hlt : i < (rd_L1 C q).length := by omega
    have e := rd_lt _ i hlt; have hr := hl.1 _ (List.getElem_mem hlt); rw [← e] at hr
    have g1 : (i : Int) < ((rd_L1 C q).length : Int) := by omega
    have g2 : (0 : Int) ≤ (i : Int) := by omega
    have g3 : (0 : Int) ≤ (q : Int) := by omega
    have g4 : (q : Int) < (C.length : Int) := by omega
    have wi : i < 4611686018427387904 := by omega
    have wK : K < 4611686018427387904 := by omega
    have ih0 := ss_l1 t f c n H F C q hq hl B r d (i + 1) K (by omega) (by omega) (by omega); have ih1 := ss_l1 t f c n H F C q hq hl B r d (i + 1) (K + 1) (by omega) (by omega) (by omega)
    have hd2 : ((rd_L1 C q).drop i).any (chB f n c) = (chB f n c (rd (rd_L1 C q) i) || ((rd_L1 C q).drop (i + 1)).any (chB f n c)) := by
      rw [List.drop_eq_getElem_cons hlt, List.any_cons, e]
    rw [hd2]
    cases hb : chB f n c (rd (rd_L1 C q) i) with
    | true =>
      have hd3 : decide (rd (geL f n n) (rd (rd_L1 C q) i) ∈ c) = true := hb; refine ⟨fun ⟨_, h⟩ => by simp at h, fun h hr' => Ev.s ?_⟩; simp only [spec_l7Sides.l1, g1, g2, g3, g4, hr.1, geL_len, hr.2, if_true]; refine Ev.bind (has_ev c hcl _) ?_; simp only [hd3, if_true, w64n wi, w64n wK]; exact ih1.2 (fun z => by omega) hr'
    | false =>
      have hd3 : decide (rd (geL f n n) (rd (rd_L1 C q) i) ∈ c) = false := hb; rw [Bool.false_or]; refine ⟨fun h hr' => Ev.s ?_, fun h hr' => Ev.s ?_⟩
      · simp only [spec_l7Sides.l1, g1, g2, g3, g4, hr.1, geL_len, hr.2, if_true]
        refine Ev.bind (has_ev c hcl _) ?_; simp only [hd3, Bool.false_eq_true, if_false, w64n wi]; exact ih0.1 h hr'
      · simp only [spec_l7Sides.l1, g1, g2, g3, g4, hr.1, geL_len, hr.2, if_true]
        refine Ev.bind (has_ev c hcl _) ?_; simp only [hd3, Bool.false_eq_true, if_false, w64n wi]; exact ih0.2 h hr'
theorem ss_l0 (t f c : List Int) (n : Nat) (H : RibOk t f c n) (F : List Int) (C : List (List Int)) (hC : ∀ l ∈ C, (∀ x ∈ l, 0 ≤ x ∧ x < n) ∧ l.length ≤ n + 1) (hCl : C.length ≤ n) (r : Int) (h : Ev (fun k => spec_l7Sides.l2 k c (geL f n n) F (bc C (chB f n c) C.length) 0 t f) r) : ∀ (d i : Nat), C.length - i = d → i ≤ C.length → Ev (fun k => spec_l7Sides.l0 k c (geL f n n) F (bc C (chB f n c) i) C i t f) r
  | 0, i, hd, hi => by
    have : i = C.length := by omega
    subst this; refine Ev.s ?_; simp only [spec_l7Sides.l0, show ¬ (C.length : Int) < (C.length : Int) by omega, if_false]; exact h
  | d + 1, i, hd, hi => by
    obtain ⟨hn, h1, ht, hti, hf, hfl, hc, hcl⟩ := id H; have ih := ss_l0 t f c n H F C hC hCl r h d (i + 1) (by omega) (by omega); have hb := bc_le C (chB f n c) i; have ok := rdL_ok C _ hC i (by omega); have in1 := ss_l1 t f c n H F C i (by omega) ok (bc C (chB f n c) i) r _ 0 0 rfl (by omega) (by omega); rw [w64n (show i < 4611686018427387904 by omega), w64n (show bc C (chB f n c) i < 4611686018427387904 by omega), List.drop_zero] at in1; refine Ev.s ?_; simp only [spec_l7Sides.l0, show (i : Int) < (C.length : Int) by omega, if_true]; simp only [bc] at ih
    by_cases e : (rd_L1 C i).any (chB f n c) = true
    · simp only [if_pos e] at ih
      exact in1.2 (fun z => by rw [e] at z; simp at z) ih
    · simp only [if_neg e] at ih
      exact in1.1 ⟨rfl, by simpa using e⟩ ih
theorem ss_l3 (t f c : List Int) (n : Nat) (H : RibOk t f c n) (F : List Int) (hF : F.length = n) (B : Int) (i : Nat) (hi : i < n) (r : Int) : ∀ (m : Nat) (x : Int), 0 ≤ x ∧ x < n → (∃ k : Nat, k ≤ m ∧ chB f n c (itr t k x) = true) → Ev (fun k => spec_l7Sides.l2 k c (geL f n n) (F.set i (fc t (chB f n c) m x)) B (wrap64 ((i : Int) + 1)) t f) r → Ev (fun k => spec_l7Sides.l3 k c (geL f n n) F B i x t f) r
  | 0, x, hx, ⟨k, hk, hh⟩, h => by
    obtain ⟨hn, h1, ht, hti, hf, hfl, hc, hcl⟩ := id H
    have : k = 0 := by omega
    subst this; have hh' : chB f n c x = true := hh; have hd3 : decide (rd (geL f n n) x ∈ c) = true := hh'; refine Ev.s ?_; simp only [spec_l7Sides.l3, hx.1, geL_len, hx.2, if_true]; refine Ev.bind (has_ev c hcl _) ?_; simp only [hd3, hF, show (0 : Int) ≤ (i : Int) by omega, show (i : Int) < (n : Int) by omega, if_true, Int.toNat_natCast]; exact h
  | m + 1, x, hx, ⟨k, hk, hh⟩, h => by
    obtain ⟨hn, h1, ht, hti, hf, hfl, hc, hcl⟩ := id H; refine Ev.s ?_; simp only [spec_l7Sides.l3, hx.1, geL_len, hx.2, if_true]; refine Ev.bind (has_ev c hcl _) ?_; rw [show decide (rd (geL f n n) x ∈ c) = chB f n c x from rfl]; simp only [fc] at h; have h5 := ht.2 x.toNat (by omega); rw [show ((x.toNat : Nat) : Int) = x by omega] at h5; simp only [hF, ht.1, hx.2, show (0 : Int) ≤ (i : Int) by omega, show (i : Int) < (n : Int) by omega, if_true, Int.toNat_natCast]
    by_cases e : chB f n c x = true
    · simp only [if_pos e] at h ⊢; exact h
    · simp only [if_neg e] at h ⊢
      cases k with
      | zero => exact absurd hh e
      | succ k => exact ss_l3 t f c n H F hF B i hi r m _ h5 ⟨k, by omega, hh⟩ h
theorem ss_l2 (t f c : List Int) (n : Nat) (H : RibOk t f c n) (B : Nat) (hB : B ≤ n) : ∀ (d i : Nat), n - i = d → i ≤ n → Ev (fun k => spec_l7Sides.l2 k c (geL f n n) (mixL (faL t f n c) (stl n) n i) B i t f) ((B + (ribS (faL t f n c) n (chB f n c) n).2 : Nat) : Int)
  | 0, i, hd, hi => by
    obtain ⟨hn, h1, ht, hti, hf, hfl, hc, hcl⟩ := id H
    have : i = n := by omega
    subst this; refine Ev.s ?_; simp only [spec_l7Sides.l2, mixL_len, show ¬ (i : Int) < (i : Int) by omega, if_false]; rw [mixL_all _ _ _ (faL_len t f i c)]; refine Ev.bind (specCyc_ev _ i (by omega) (faL_inR t f i ht hf c)) (Ev.const ?_); have e1 := (ribS_cyS (faL t f i c) i (chB f i c) (fun d hd hcd => fa_ch t f i ht hti hf hfl c d hd hcd) (fun d hd hcd => by rw [faL_rd t f i c d hd, hcd]; simp) i (Nat.le_refl _)).1; have e2 := ch_fresh f i hf hfl c hc c.length (Nat.le_refl _); rw [List.take_length] at e2; have e3 := uc_fresh (chB f i c) (chL f i c) (fun d hd => chL_getD f i c d (by rwa [chL_len] at hd)); rw [chL_len] at e3; have e4 := ribS_le (faL t f i c) i (chB f i c) i
    congr 1
    rw [e1, w64r (x := 2 * (c.length : Int)) (by omega), w64r (x := (i : Int) - 2 * (c.length : Int)) (by omega)]; rw [w64r (x := (((ribS (faL t f i c) i (chB f i c) i).2 + uc (chB f i c) i : Nat) : Int) - ((i : Int) - 2 * (c.length : Int))) (by omega)]; rw [w64r (by omega)]; omega
  | d + 1, i, hd, hi => by
    obtain ⟨hn, h1, ht, hti, hf, hfl, hc, hcl⟩ := id H; have ih := ss_l2 t f c n H B hB d (i + 1) (by omega) (by omega)
    have g1 : (i : Int) < (n : Int) := by omega
    have g2 : (0 : Int) ≤ (i : Int) := by omega
    have fl := faL_rd t f n c i (by omega); have fr := hf.2 i (by omega); have tr := ht.2 (rd f i).toNat (by omega); rw [show (((rd f i).toNat : Nat) : Int) = rd f i by omega] at tr; refine Ev.s ?_; simp only [spec_l7Sides.l2, mixL_len, g1, g2, geL_len, if_true]; refine Ev.bind (has_ev c hcl (rd (geL f n n) i)) ?_; rw [show decide (rd (geL f n n) (i : Int) ∈ c) = chB f n c i from rfl]; simp only [hf.1, g1, fr.1, ht.1, fr.2, if_true]
    by_cases e : chB f n c i = true
    · rw [if_pos e] at fl
      simp only [if_pos e]; refine ss_l3 t f c n H _ (mixL_len _ _ _ _) B i (by omega) _ n _ tr (meets t n ht hti _ _ fr (by rw [chB_flip f n hf hfl c i (by omega)]; exact e)) ?_; rw [← mixL_set _ _ _ _ (by omega : i < n), fl] at ih; rw [w64n (by omega)]; exact ih
    · rw [if_neg e] at fl
      simp only [if_neg e]; rw [← mixL_skip _ _ _ _ (by omega : i < n) (by rw [fl, stl_rd n i (by omega)])] at ih; rw [w64n (by omega)]; exact ih
theorem specSides_ev (t f c : List Int) (n : Nat) (H : RibOk t f c n) : Ev (fun k => spec_l7Sides.f k t f c) (sidesN t f n c : Int) := by
  obtain ⟨hn, h1, ht, hti, hf, hfl, hc, hcl⟩ := id H
  unfold spec_l7Sides.f
  refine Ev.bind (specEdges_ev n (by omega) t f hf) ?_; rw [hf.1]; refine Ev.bind (same_ev n (by omega)) ?_; refine Ev.bind (specCyc_ev t n (by omega) ht) ?_; have hCl := cyS_many t n n; have hb := bc_le (cyS t n n).2 (chB f n c) (cyS t n n).2.length; refine ss_l0 t f c n H (stl n) _ (cyS_ok t n ht n (Nat.le_refl _)) hCl _ ?_ _ 0 rfl (by omega); have := ss_l2 t f c n H _ (by omega : bc (cyS t n n).2 (chB f n c) (cyS t n n).2.length ≤ n) n 0 (by omega) (by omega); rw [mixL_zero _ _ _ (stl_length n)] at this; exact this
theorem ribbon_both (t f c : List Int) (n : Nat) (H : RibOk t f c n) : ∃ o, orbOk [t, flC f n c] n o ∧ Ev (fun k => spec_l7Parts.f k t f c) (pc o n : Int) ∧
    Ev (fun k => spec_l7Counts.f k t f c) (fiveN (pc o n) (sidesN t f n c) ((cyS t n n).2.length : Int) c.length) ∧ Ev (fun k => impl_ribbon.f k t f c) (fiveN (pc o n) (sidesN t f n c) ((cyS t n n).2.length : Int) c.length) := by
  obtain ⟨o, o1, hp, h3⟩ := ribbon_parts t f c n H; obtain ⟨hn, h1, ht, hti, hf, hfl, hc, hcl⟩ := id H; refine ⟨o, o1, hp, ?_, h3⟩
  unfold spec_l7Counts.f
  refine Ev.bind hp ?_; refine Ev.bind (specSides_ev t f c n H) ?_; exact Ev.bind (specCyc_ev t n (by omega) ht) (Ev.const rfl)
theorem perm_injR (l : List Int) (h : isPerm l) : injR l.length l := by
  intro i j hi hj e
  by_cases h1 : i < j
  · exact absurd e ((h.2.2 j hj).2.2 i h1)
  · by_cases h2 : j < i
    · exact absurd e.symm ((h.2.2 i hi).2.2 j h2)
    · omega
theorem ribOk_of (t f c : List Int) (h : isMap t f) (hc : isChoice c ((f.length : Int) / 2)) (hcl : c.length ≤ 1048576) : RibOk t f c t.length := by
  obtain ⟨pt, pf, e, fl, _⟩ := h
  have hf : inR t.length f := by rw [e]; exact isPerm_inR f pf
  have hfl : ∀ i : Nat, i < t.length → flipAt f i := fun i hi => fl i (by omega)
  refine ⟨pt.2.1, pt.1, isPerm_inR t pt, perm_injR t pt, hf, hfl, ?_, hcl⟩; have := edL_half f t.length hf hfl; rw [show (((edL f t.length).length : Nat) : Int) = (f.length : Int) / 2 by omega]; exact hc
end Go.Proofs.Ytjgknblneokhlaa.PK

namespace Go.Proofs.Ytjgknblneokhlaa.PK
open Go.RowKit Go.Proofs.YtjgknblneokhlaaW.PrintWords Go.Proofs.YtjgknblneokhlaaW.PrintLast Go.Proofs.YtjgknblneokhlaaW.PrintMore
attribute [local go_sem] max2_int min2_int max_two min_two max_three min_three max_four min_four   -- for this text's walks alone
set_option linter.unusedVariables false
set_option linter.unusedSimpArgs false
def impl_MapMirror.T3 : Bool × List (List Nat × List Nat) := (true, [([], []), ([0], [0]), ([1], [1]), ([], []), ([3], [3]), ([4, 2], [4]), ([2, 5], [2, 5]), ([6, 5, 0, 1, 2, 3, 4, 5, 6], [6]), ([7, 0, 1, 2, 3, 4, 5, 6, 7], [])])
def impl_MapMirror.B3 : List Nat := [0, 1, 3, 0, 8, 31, 63, 127, 255]
end Go.Proofs.Ytjgknblneokhlaa.PK

set_option linter.unusedVariables false
set_option linter.unusedSimpArgs false
namespace Go.Proofs.Ytjgknblneokhlaa.PK
open Go.RowKit Go.Proofs.YtjgknblneokhlaaW.PrintWords Go.Proofs.YtjgknblneokhlaaW.PrintLast Go.Proofs.YtjgknblneokhlaaW.PrintMore
theorem counts_both (t f c : List Int) (ht : t.length ≤ 1048576) (hf : f.length ≤ 1048576) (hc : c.length ≤ 1048576) : ∃ (P S V : Nat) (b : Bool), Ev (fun k => spec_ChoiceValid.f k t f c) b ∧ Ev (fun k => impl_ChoiceValid.f k t f c) b ∧ (b = true → Ev (fun k => spec_l7Counts.f k t f c) (fiveN P S V c.length) ∧ Ev (fun k => impl_ribbon.f k t f c) (fiveN P S V c.length)) := by
  obtain ⟨b, b1, b2, b3⟩ := choiceValid_both t f c ht hf hc
  cases b with
  | false => exact ⟨0, 0, 0, false, b1, b2, fun h => by cases h⟩
  | true =>
    have hv := b3.1 rfl; obtain ⟨o, _, _, h2, h3⟩ := ribbon_both t f c t.length (ribOk_of t f c hv.1 hv.2 hc); exact ⟨_, _, _, true, b1, b2, fun _ => ⟨h2, h3⟩⟩
def vallE : Nat → List (List Int)
  | 0 => [[]]
  | n + 1 => vallE n ++ (vallE n).map (fun c => c ++ [(n : Int)])
def vchk1 (c : List Int) (m : Int) : Bool := (List.range c.length).all fun (i : Nat) => decide (ahead c i < rd c i ∧ rd c i < m)
theorem vchk1_ok (c : List Int) (m : Int) (h : vchk1 c m = true) : isChoice c m := fun i hi => of_decide_eq_true (p := ahead c i < rd c i ∧ rd c i < m) (List.all_eq_true.1 h i (List.mem_range.2 hi))
theorem vchk_list : (List.range 7).all (fun (E : Nat) => decide (spec_l7All.f 300 (E : Int) = some (vallE E)) && decide ((vallE E).length = 2 ^ E)) = true := by decide +kernel
theorem vchk_bits : (List.range 7).all (fun (E : Nat) => (List.range (2 ^ E)).all fun (s : Nat) => decide (vch.l1 30 [] (s : Int) 0 (E : Int) = some ((vallE E).getD s [])) && (decide (((vallE E).getD s []).length ≤ 20) && vchk1 ((vallE E).getD s []) (E : Int))) = true := by decide +kernel
theorem vchk (E : Nat) (h : E ≤ 6) : spec_l7All.f 300 (E : Int) = some (vallE E) ∧ (vallE E).length = 2 ^ E ∧ ∀ s : Nat, s < 2 ^ E → vch.l1 30 [] (s : Int) 0 (E : Int) = some ((vallE E).getD s []) ∧ ((vallE E).getD s []).length ≤ 20 ∧ isChoice ((vallE E).getD s []) (E : Int) := by
  have h1 := List.all_eq_true.1 vchk_list E (List.mem_range.2 (by omega)); have h2 := List.all_eq_true.1 vchk_bits E (List.mem_range.2 (by omega)); simp only [Bool.and_eq_true, decide_eq_true_eq] at h1; refine ⟨h1.1, h1.2, fun s hs => ?_⟩; have h3 := List.all_eq_true.1 h2 s (List.mem_range.2 hs); simp only [Bool.and_eq_true, decide_eq_true_eq] at h3; exact ⟨h3.1, h3.2.1, vchk1_ok _ _ h3.2.2⟩
theorem vpow (E : Nat) (h : E ≤ 6) : wrap64 ((2 : Int) ^ E) = ((2 ^ E : Nat) : Int) ∧ 2 ^ E ≤ 64 := by
  have : E = 0 ∨ E = 1 ∨ E = 2 ∨ E = 3 ∨ E = 4 ∨ E = 5 ∨ E = 6 := by omega
  rcases this with rfl | rfl | rfl | rfl | rfl | rfl | rfl <;> exact ⟨by decide +kernel, by decide⟩
theorem wrap64_lt (x : Int) : wrap64 x ≤ 9223372036854775807 := by unfold wrap64; omega
theorem power_run (x n : Int) (hn : n ≤ 9223372036854775807) : ∀ (d : Nat) (i o : Int), 0 ≤ i → (n - i).toNat = d → ∃ r : Int, Ev (fun k => impl_power.l0 k x o n i) r ∧ Ev (fun k => spec_l7Power.l0 k x n o i) r
  | 0, i, o, h0, hd => by
    have : ¬ i < n := by omega
    refine ⟨o, Ev.s ?_, Ev.s ?_⟩
    · simp only [impl_power.l0, this, if_false]
      exact Ev.const rfl
    · simp only [spec_l7Power.l0, this, if_false]
      exact Ev.const rfl
  | d + 1, i, o, h0, hd => by
    have hi : i < n := by omega
    obtain ⟨r, r1, r2⟩ := power_run x n hn d (i + 1) (wrap64 (o * x)) (by omega) (by omega); have w : wrap64 (i + 1) = i + 1 := w64 (by omega) (by omega); refine ⟨r, Ev.s ?_, Ev.s ?_⟩
    · simp only [impl_power.l0, hi, if_true, w]
      exact r1
    · simp only [spec_l7Power.l0, hi, if_true, w, Int.mul_comm x o]
      exact r2
theorem power_both (x n : Int) (hn : n ≤ 9223372036854775807) : ∃ r : Int, Ev (fun k => impl_power.f k x n) r ∧ Ev (fun k => spec_l7Power.f k x n) r := by
  unfold impl_power.f spec_l7Power.f
  exact power_run x n hn _ 0 1 (by omega) rfl
theorem five_zero (P S V c : Int) : rd (fiveN P S V c) 0 = P := rfl
theorem five_le3 (P S V c : Int) : rd (fiveN P S V c) 3 ≤ 9223372036854775807 := wrap64_lt _
theorem five_le4 (P S V c : Int) : rd (fiveN P S V c) 4 ≤ 9223372036854775807 := wrap64_lt _
theorem one_value (t f c : List Int) (X Y Z : Int) (P S V C : Int) (x : Int) (g1 : Ev (fun k => spec_l7Counts.f k t f c) (fiveN P S V C)) (g2 : Ev (fun k => impl_ribbon.f k t f c) (fiveN P S V C)) :
    ∃ v : Int, Ev (fun k => vtell.f k c t f x X Y Z) v ∧ ∀ (F : Nat → Int → Option Int) (r : Int), Ev (fun k => F k v) r → Ev (fun k => (spec_l7Counts.f k t f c).bind fun t599 => (if 0 < (t599.length : Int) then ((spec_l7Power.f k X (wrap64 ((rd t599 0) - 1))).bind fun t603 => (if 3 < (t599.length : Int) then ((spec_l7Power.f k Y (rd t599 3)).bind fun t605 => (if 4 < (t599.length : Int) then ((spec_l7Power.f k Z (rd t599 4)).bind fun t607 => F k (wrap64 (x + (wrap64 ((wrap64 (t603 * t605)) * t607))))) else (none))) else (none))) else (none))) r := by
  obtain ⟨q1, q2, q3⟩ := power_both X (wrap64 (P - 1)) (wrap64_lt _); obtain ⟨q4, q5, q6⟩ := power_both Y (rd (fiveN P S V C) 3) (five_le3 P S V C); obtain ⟨q7, q8, q9⟩ := power_both Z (rd (fiveN P S V C) 4) (five_le4 P S V C); have l5 : (fiveN P S V C).length = 5 := rfl
  have h0 : (0 : Int) < ((5 : Nat) : Int) := by decide
  have h3 : (3 : Int) < ((5 : Nat) : Int) := by decide
  have h4 : (4 : Int) < ((5 : Nat) : Int) := by decide
  refine ⟨wrap64 (x + wrap64 (wrap64 (q1 * q4) * q7)), ?_, fun F r hF => ?_⟩
  · unfold vtell.f
    refine Ev.bind g2 ?_; simp only [l5, five_zero, h0, h3, h4, if_true]; refine Ev.bind q2 ?_; refine Ev.bind q5 ?_; exact Ev.bind q8 (Ev.const rfl)
  · refine Ev.bind g1 ?_
    simp only [l5, five_zero, h0, h3, h4, if_true]; refine Ev.bind q3 ?_; refine Ev.bind q6 ?_; exact Ev.bind q9 hF
theorem vrun (t f : List Int) (X Y Z : Int) (ht : t.length ≤ 1048576) (hf : f.length ≤ 1048576) (hm : isMap t f) (E : Nat) (hfE : (f.length : Int) / 2 = (E : Int)) (L : List (List Int)) (N : Nat) (hN : N ≤ 64) (hl : L.length = N) (hc : ∀ s : Nat, s < N → vch.l1 30 [] (s : Int) 0 (E : Int) = some (L.getD s []) ∧ (L.getD s []).length ≤ 20 ∧ isChoice (L.getD s []) (E : Int)) : ∀ (d s : Nat), N - s = d → s ≤ N → ∀ x : Int, ∃ r : Int, Ev (fun k => vch.l0 k t f X Y Z x s (N : Int)) r ∧ Ev (fun k => spec_RibbonValue.l0 k X Y Z x (L) s t f) r
  | 0, s, hd, hs, x => by
    have hsN : s = N := by omega
    rw [hsN]; refine ⟨x, Ev.s ?_, Ev.s ?_⟩
    · simp only [vch.l0, show ¬ (N : Int) < (N : Int) by omega, if_false]
      exact Ev.const rfl
    · simp only [spec_RibbonValue.l0, hl, show ¬ (N : Int) < (N : Int) by omega, if_false]
      exact Ev.const rfl
  | d + 1, s, hd, hs, x => by
    have hs1 : s + 1 ≤ N := by omega
    have hd1 : N - (s + 1) = d := by omega
    have hlt : (s : Int) < (N : Int) := by omega
    have h0s : (0 : Int) ≤ (s : Int) := by omega
    obtain ⟨h1, h2, h3⟩ := hc s (by omega); obtain ⟨P, S, V, b, b1, b2, b3⟩ := counts_both t f (L.getD s []) ht hf (by omega)
    have hb : b = true := by
      obtain ⟨b', c1, c2, c3⟩ := choiceValid_both t f (L.getD s []) ht hf (by omega); have := Ev.uniq b1 c1; rw [this]; exact c3.2 ⟨hm, by rw [hfE]; exact h3⟩
    obtain ⟨g1, g2⟩ := b3 hb; obtain ⟨v, v1, v2⟩ := one_value t f (L.getD s []) X Y Z P S V (L.getD s []).length x g1 g2
    have hrd : rd_L1 (L) (s : Int) = L.getD s [] := by unfold rd_L1; rw [Int.toNat_natCast]
    have e1 : Ev (fun k => vch.l1 k [] (s : Int) 0 (E : Int)) (L.getD s []) := Ev.of (fun k => vch.mono_l1 k _ _ _ _) h1; have hw : wrap64 ((s : Int) + 1) = ((s + 1 : Nat) : Int) := w64n (by omega); obtain ⟨r, r1, r2⟩ := vrun t f X Y Z ht hf hm E hfE L N hN hl hc d (s + 1) hd1 hs1 v; refine ⟨r, Ev.s ?_, Ev.s ?_⟩
    · simp only [vch.l0, hlt, hfE, if_true]
      refine Ev.bind e1 ?_; refine Ev.bind v1 ?_; simp only [hw]; exact r1
    · simp only [spec_RibbonValue.l0, hl, hlt, hrd, h0s, if_true]
      refine v2 (fun k z => spec_RibbonValue.l0 k X Y Z z L (wrap64 ((s : Int) + 1)) t f) r ?_; simp only [hw]; exact r2
theorem valueIn_ev (a : Int) : Ev (fun k => spec_l6In.f a 0 3) (decide (0 ≤ a ∧ a ≤ 3)) := Ev.const (l6In_eq a 0 3)
theorem ribbonValue_both (t f : List Int) (X Y Z : Int) (ht : t.length ≤ 1048576) (hf : f.length ≤ 1048576) : ∃ r : Int, Ev (fun k => spec_RibbonValue.f k t f X Y Z) r ∧ Ev (fun k => impl_RibbonValue.f k t f X Y Z) r := by
  obtain ⟨b, b1, b2, b3⟩ := mapValid_both t f ht hf
  have no : ∀ b' : Bool, b' = true → Ev (fun k => spec_RibbonValue.j0 k X Y Z b' t f) (-1) := fun b' h => by
    refine Ev.s ?_; simp only [spec_RibbonValue.j0, h, if_true]; exact Ev.const rfl
  cases b with
  | false =>
    refine ⟨-1, ?_, ?_⟩
    · unfold spec_RibbonValue.f
      refine Ev.bind b1 ?_; simp only [Bool.false_eq_true, if_false]; exact no true rfl
    · unfold impl_RibbonValue.f
      refine Ev.bind b2 ?_; simp only [Bool.false_eq_true, if_false]; exact Ev.const rfl
  | true =>
    by_cases cx : 0 ≤ X ∧ X ≤ 3
    · by_cases cy : 0 ≤ Y ∧ Y ≤ 3
      · by_cases cz : 0 ≤ Z ∧ Z ≤ 3
        · have hm := b3.1 rfl
          obtain ⟨hn, h1, ht', hti, hf', hfl, _, _⟩ := ribOk_of t f [] hm (fun i hi => by simp at hi) (by simp)
          have hfl12 : f.length ≤ 12 := by have := hf'.1; omega
          obtain ⟨E, hE⟩ : ∃ E : Nat, E = f.length / 2 := ⟨_, rfl⟩
          have hE6 : E ≤ 6 := by omega
          have hfE : (f.length : Int) / 2 = (E : Int) := by omega
          have hwE : wrap64 (E : Int) = (E : Int) := w64 (by omega) (by omega); obtain ⟨hp, hp2⟩ := vpow E hE6; obtain ⟨hall, hl, hc⟩ := vchk E hE6; obtain ⟨r, r1, r2⟩ := vrun t f X Y Z ht hf hm E hfE (vallE E) (2 ^ E) hp2 hl hc (2 ^ E) 0 (Nat.sub_zero _) (Nat.zero_le _) 0; refine ⟨r, ?_, ?_⟩
          · unfold spec_RibbonValue.f
            refine Ev.bind b1 ?_; simp only [if_true]; refine Ev.bind (valueIn_ev X) ?_; simp only [cx, and_self, decide_true, if_true]; refine Ev.bind (valueIn_ev Y) ?_; simp only [cy, and_self, decide_true, if_true]; refine Ev.bind (valueIn_ev Z) ?_; simp only [cz, and_self, decide_true, Bool.not_true]; refine Ev.s ?_; simp only [spec_RibbonValue.j0, Bool.false_eq_true, if_false, hfE, hwE]; refine Ev.bind (Ev.of (fun k => spec_l7All.mono _ k) hall) ?_; exact r2
          · unfold impl_RibbonValue.f
            refine Ev.bind b2 ?_; simp only [if_true, show ¬ X < 0 by omega, show ¬ X > 3 by omega, show ¬ Y < 0 by omega, show ¬ Y > 3 by omega, show ¬ Z < 0 by omega, show ¬ Z > 3 by omega, if_false, hfl12, ← hE, hp]; exact r1
        · refine ⟨-1, ?_, ?_⟩
          · unfold spec_RibbonValue.f
            refine Ev.bind b1 ?_; simp only [if_true]; refine Ev.bind (valueIn_ev X) ?_; simp only [cx, and_self, decide_true, if_true]; refine Ev.bind (valueIn_ev Y) ?_; simp only [cy, and_self, decide_true, if_true]; refine Ev.bind (valueIn_ev Z) ?_; exact no _ (by rw [decide_eq_false cz]; rfl)
          · unfold impl_RibbonValue.f
            refine Ev.bind b2 ?_; simp only [if_true, show ¬ X < 0 by omega, show ¬ X > 3 by omega, show ¬ Y < 0 by omega, show ¬ Y > 3 by omega, if_false]
            by_cases c1 : Z < 0
            · simp only [c1, if_true]
              exact Ev.const rfl
            · simp only [c1, show Z > 3 by omega, if_true, if_false]
              exact Ev.const rfl
      · refine ⟨-1, ?_, ?_⟩
        · unfold spec_RibbonValue.f
          refine Ev.bind b1 ?_; simp only [if_true]; refine Ev.bind (valueIn_ev X) ?_; simp only [cx, and_self, decide_true, if_true]; refine Ev.bind (valueIn_ev Y) ?_; simp only [decide_eq_false cy, Bool.false_eq_true, if_false]; exact no true rfl
        · unfold impl_RibbonValue.f
          refine Ev.bind b2 ?_; simp only [if_true, show ¬ X < 0 by omega, show ¬ X > 3 by omega, if_false]
          by_cases c1 : Y < 0
          · simp only [c1, if_true]
            exact Ev.const rfl
          · simp only [c1, show Y > 3 by omega, if_true, if_false]
            exact Ev.const rfl
    · refine ⟨-1, ?_, ?_⟩
      · unfold spec_RibbonValue.f
        refine Ev.bind b1 ?_; simp only [if_true]; refine Ev.bind (valueIn_ev X) ?_; simp only [decide_eq_false cx, Bool.false_eq_true, if_false]; exact no true rfl
      · unfold impl_RibbonValue.f
        refine Ev.bind b2 ?_; simp only [if_true]
        by_cases c1 : X < 0
        · simp only [c1, if_true]
          exact Ev.const rfl
        · simp only [c1, show X > 3 by omega, if_true, if_false]
          exact Ev.const rfl
def Cnt (n : Nat) (P : Nat → Prop) (k : Nat) : Prop := ∃ L : List Nat, L.Nodup ∧ (∀ x, x ∈ L ↔ x < n ∧ P x) ∧ L.length = k
theorem Cnt.ex (P : Nat → Prop) : ∀ n, ∃ k, Cnt n P k ∧ k ≤ n
  | 0 => ⟨0, ⟨[], List.nodup_nil, by simp, rfl⟩, Nat.le_refl _⟩
  | n + 1 => by
    obtain ⟨k, ⟨L, h1, h2, h3⟩, hk⟩ := Cnt.ex P n
    by_cases h : P n
    · refine ⟨k + 1, ⟨n :: L, List.nodup_cons.2 ⟨fun z => by have := ((h2 n).1 z).1; omega, h1⟩, fun x => ?_, by simp [h3]⟩, by omega⟩
      rw [List.mem_cons, h2]
      constructor
      · rintro (rfl | ⟨a, b⟩)
        · exact ⟨by omega, h⟩
        · exact ⟨by omega, b⟩
      · rintro ⟨a, b⟩
        by_cases e : x = n
        · exact .inl e
        · exact .inr ⟨by omega, b⟩
    · refine ⟨k, ⟨L, h1, fun x => ?_, h3⟩, by omega⟩
      rw [h2]
      constructor
      · rintro ⟨a, b⟩; exact ⟨by omega, b⟩
      · rintro ⟨a, b⟩
        by_cases e : x = n
        · exact absurd (e ▸ b) h
        · exact ⟨by omega, b⟩
theorem Cnt.le {n : Nat} {P Q : Nat → Prop} {k l : Nat} (hp : Cnt n P k) (hq : Cnt n Q l) (g : Nat → Nat) (hg : ∀ x, x < n → P x → g x < n ∧ Q (g x)) (hi : ∀ x y, x < n → P x → y < n → P y → g x = g y → x = y) : k ≤ l := by
  obtain ⟨L, h1, h2, rfl⟩ := hp; obtain ⟨M, m1, m2, rfl⟩ := hq; rw [← List.length_map (f := g)]; refine len_le_of_sub _ _ ?_ ?_
  · rw [List.Nodup, List.pairwise_map]
    refine List.Pairwise.imp_of_mem ?_ h1; intro a b ha hb hab e; exact hab (hi a b ((h2 a).1 ha).1 ((h2 a).1 ha).2 ((h2 b).1 hb).1 ((h2 b).1 hb).2 e)
  · intro y hy
    obtain ⟨a, ha, rfl⟩ := List.mem_map.1 hy; exact (m2 _).2 (hg a ((h2 a).1 ha).1 ((h2 a).1 ha).2)
theorem Cnt.sub {n : Nat} {P Q : Nat → Prop} {k l : Nat} (hp : Cnt n P k) (hq : Cnt n Q l) (h : ∀ x, x < n → P x → Q x) : k ≤ l :=
  hp.le hq (fun x => x) (fun x hx px => ⟨hx, h x hx px⟩) (fun _ _ _ _ _ _ e => e)
theorem Cnt.same {n : Nat} {P Q : Nat → Prop} {k l : Nat} (hp : Cnt n P k) (hq : Cnt n Q l) (h : ∀ x, x < n → (P x ↔ Q x)) : k = l :=
  Nat.le_antisymm (hp.sub hq fun x hx => (h x hx).1) (hq.sub hp fun x hx => (h x hx).2)
theorem Cnt.congr {n : Nat} {P Q : Nat → Prop} {k : Nat} (hp : Cnt n P k) (h : ∀ x, x < n → (P x ↔ Q x)) : Cnt n Q k := by
  obtain ⟨L, h1, h2, h3⟩ := hp; exact ⟨L, h1, fun x => by rw [h2]; exact ⟨fun z => ⟨z.1, (h x z.1).1 z.2⟩, fun z => ⟨z.1, (h x z.1).2 z.2⟩⟩, h3⟩
theorem Cnt.reps {n : Nat} {P Q : Nat → Prop} {k l : Nat} (R : Nat → Nat → Prop) (hs : ∀ x y, R x y → R y x) (ht : ∀ x y z, R x y → R y z → R x z) (hp : Cnt n P k) (hq : Cnt n Q l)
    (h : ∀ x, x < n → P x → ∃ y, y < n ∧ Q y ∧ R x y) (hu : ∀ x y, x < n → P x → y < n → P y → R x y → x = y) : k ≤ l := by
  classical
  refine hp.le hq (fun x => if hx : x < n ∧ P x then Classical.choose (h x hx.1 hx.2) else 0) (fun x hx px => ?_) (fun x y hx px hy py e => ?_)
  · rw [dif_pos ⟨hx, px⟩]
    have := Classical.choose_spec (h x hx px); exact ⟨this.1, this.2.1⟩
  · rw [dif_pos ⟨hx, px⟩, dif_pos ⟨hy, py⟩] at e
    have h1 := (Classical.choose_spec (h x hx px)).2.2; have h2 := (Classical.choose_spec (h y hy py)).2.2; rw [e] at h1; exact hu x y hx px hy py (ht _ _ _ h1 (hs _ _ h2))
theorem Cnt.drop {n : Nat} {P Q : Nat → Prop} {k : Nat} (hp : Cnt n P k) (z : Nat) (hz : z < n) (pz : P z) (h : ∀ x, x < n → (Q x ↔ P x ∧ x ≠ z)) : 1 ≤ k ∧ Cnt n Q (k - 1) := by
  obtain ⟨L, h1, h2, rfl⟩ := hp; have hm : z ∈ L := (h2 z).2 ⟨hz, pz⟩; have := List.length_pos_of_mem hm; refine ⟨this, L.erase z, h1.erase z, fun x => ?_, List.length_erase_of_mem hm⟩; rw [h1.mem_erase_iff, h2]
  constructor
  · rintro ⟨a, b, c⟩; exact ⟨b, (h x b).2 ⟨c, a⟩⟩
  · rintro ⟨a, b⟩; have := (h x a).1 b; exact ⟨this.2, a, this.1⟩
def lst (R : Nat → Nat → Prop) (j : Nat) : Prop := ∀ i, i < j → ¬ R i j
def Cl (n : Nat) (R : Nat → Nat → Prop) (k : Nat) : Prop := Cnt n (lst R) k
theorem lst_ex (R : Nat → Nat → Prop) (hr : ∀ x, R x x) (hs : ∀ x y, R x y → R y x) (ht : ∀ x y z, R x y → R y z → R x z) : ∀ x, ∃ y, y ≤ x ∧ lst R y ∧ R y x := by
  intro x
  induction x using Nat.strongRecOn with
  | ind x ih =>
    by_cases h : ∃ i, i < x ∧ R i x
    · obtain ⟨i, hi, hri⟩ := h
      obtain ⟨y, y1, y2, y3⟩ := ih i hi; exact ⟨y, by omega, y2, ht _ _ _ y3 hri⟩
    · exact ⟨x, Nat.le_refl _, fun i hi hri => h ⟨i, hi, hri⟩, hr x⟩
theorem lst_uniq (R : Nat → Nat → Prop) (hs : ∀ x y, R x y → R y x) (x y : Nat) (hx : lst R x) (hy : lst R y) (h : R x y) : x = y := by
  by_cases h1 : x < y
  · exact absurd h (hy x h1)
  · by_cases h2 : y < x
    · exact absurd (hs _ _ h) (hx y h2)
    · omega
theorem Cl.merge {n : Nat} {R S : Nat → Nat → Prop} {k : Nat} (hr : ∀ x, R x x) (hs : ∀ x y, R x y → R y x) (ht : ∀ x y z, R x y → R y z → R x z) (hk : Cl n R k) (a b : Nat) (ha : a < n) (hb : b < n) (hab : ¬ R a b)
    (hS : ∀ x y, S x y ↔ R x y ∨ (R x a ∧ R b y) ∨ (R x b ∧ R a y)) : 1 ≤ k ∧ Cl n S (k - 1) := by
  obtain ⟨p, p1, p2, p3⟩ := lst_ex R hr hs ht a; obtain ⟨q, q1, q2, q3⟩ := lst_ex R hr hs ht b
  have hpq : p ≠ q := by rintro rfl; exact hab (ht _ _ _ (hs _ _ p3) q3)
  have key : ∀ (p q a b : Nat), p < q → lst R p → lst R q → R p a → R q b → q < n → ¬ R a b → (∀ x y, S x y ↔ R x y ∨ (R x a ∧ R b y) ∨ (R x b ∧ R a y)) → 1 ≤ k ∧ Cl n S (k - 1) := by
    intro p q a b hlt p2 q2 p3 q3 hq hab hS
    refine Cnt.drop hk q hq q2 fun x hx => ⟨fun h => ⟨fun i hi z => h i hi ((hS _ _).2 (.inl z)), ?_⟩, fun ⟨h1, h2⟩ i hi z => ?_⟩
    · rintro rfl
      exact h p hlt ((hS _ _).2 (.inr (.inl ⟨p3, hs _ _ q3⟩)))
    · rcases (hS _ _).1 z with z | ⟨z1, z2⟩ | ⟨z1, z2⟩
      · exact h1 i hi z
      · exact h2 (lst_uniq R hs x q h1 q2 (ht _ _ _ (hs _ _ z2) (hs _ _ q3)))
      · have e := lst_uniq R hs x p h1 p2 (ht _ _ _ (hs _ _ z2) (hs _ _ p3))
        subst e; exact q2 i (by omega) (ht _ _ _ z1 (hs _ _ q3))
  rcases Nat.lt_or_gt_of_ne hpq with h | h
  · exact key p q a b h p2 q2 p3 q3 (by omega) hab hS
  · exact key q p b a h q2 p2 q3 p3 (by omega) (fun z => hab (hs _ _ z)) (fun x y => by rw [hS]; exact ⟨fun z => z.elim .inl (fun z => .inr (z.elim .inr .inl)), fun z => z.elim .inl (fun z => .inr (z.elim .inr .inl))⟩)
theorem closed_of_fwd (p : List Int) (n : Nat) (hp : inR n p) (hi : injR n p) (S : Nat → Prop) (h : ∀ k, k < n → S k → S (rd p k).toNat) : closedL [p] n S := by
  intro q hq k hk
  have e : q = p := by simpa using hq
  subst e; refine ⟨h k hk, fun hs => ?_⟩; obtain ⟨m, h1, h2⟩ := itr_back q n hp hi k (by omega)
  have g : ∀ (j : Nat) (x : Int), 0 ≤ x ∧ x < n → S x.toNat → S (itr q j x).toNat := by
    intro j
    induction j with
    | zero => intro x _ h; exact h
    | succ j ih =>
      intro x hx hsx; have := hp.2 x.toNat (by omega); have e := h x.toNat (by omega) hsx; rw [show ((x.toNat : Nat) : Int) = x by omega] at this e; exact ih _ this e
  have := g m (rd q k) (hp.2 k hk) hs; rw [show itr q m (rd q k) = itr q (m + 1) k from rfl, h2] at this
  simpa using this
theorem itr_reach (ps : List (List Int)) (p : List Int) (n : Nat) (hp : inR n p) (hm : p ∈ ps) : ∀ (k : Nat) (x : Int), 0 ≤ x ∧ x < n → Reach ps n x.toNat (itr p k x).toNat
  | 0, x, h => Reach.refl _ _ _
  | k + 1, x, h => by
    have h1 := hp.2 x.toNat (by omega); have h2 := Reach.step (ps := ps) (n := n) hm (k := x.toNat) (by omega); rw [show ((x.toNat : Nat) : Int) = x by omega] at h1 h2; exact h2.trans (itr_reach ps p n hp hm k _ h1)
theorem reach_itr (p : List Int) (n : Nat) (hp : inR n p) (hi : injR n p) (a b : Nat) (ha : a < n) (h : Reach [p] n a b) : ∃ k : Nat, itr p k (rd p a) = b := by
  have hc := closed_of_fwd p n hp hi (fun x => ∃ k : Nat, itr p k (rd p a) = x) (fun k hk ⟨m, hm⟩ => ⟨m + 1, by
    rw [itr_add p m 1, hm]; have := hp.2 k hk
    show rd p k = _
    omega⟩)
  obtain ⟨m, h1, h2⟩ := itr_back p n hp hi a (by omega); exact (h _ hc).1 ⟨m, h2⟩
theorem first_itr (p : List Int) (x : Int) (b : Int) (k : Nat) (h : itr p k x = b) : ∃ m, m ≤ k ∧ itr p m x = b ∧ ∀ j, j < m → itr p j x ≠ b := by
  induction k using Nat.strongRecOn with
  | ind k ih =>
    by_cases e : ∃ j, j < k ∧ itr p j x = b
    · obtain ⟨j, h1, h2⟩ := e
      obtain ⟨m, m1, m2, m3⟩ := ih j h1 h2; exact ⟨m, by omega, m2, m3⟩
    · exact ⟨k, Nat.le_refl _, h, fun j hj z => e ⟨j, hj, z⟩⟩
def Exch (n : Nat) (p q : List Int) (a b : Nat) : Prop := a < n ∧ b < n ∧ a ≠ b ∧ rd q a = rd p b ∧ rd q b = rd p a ∧ ∀ x : Nat, x < n → x ≠ a → x ≠ b → rd q x = rd p x
theorem Exch.symm {n : Nat} {p q : List Int} {a b : Nat} (h : Exch n p q a b) : Exch n q p a b := ⟨h.1, h.2.1, h.2.2.1, h.2.2.2.2.1.symm, h.2.2.2.1.symm, fun x hx h1 h2 => (h.2.2.2.2.2 x hx h1 h2).symm⟩
theorem exch_join {n : Nat} {p q : List Int} {a b : Nat} (hp : inR n p) (hq : inR n q) (ip : injR n p) (iq : injR n q) (h : Exch n p q a b) (hab : ¬ Reach [p] n a b) : Reach [q] n a b := by
  obtain ⟨ha, hb, hne, e1, e2, e3⟩ := h; obtain ⟨k, hk⟩ := reach_itr p n hp ip b b hb (Reach.refl _ _ _); obtain ⟨m, m1, m2, m3⟩ := first_itr p (rd p b) b k hk; have pb := hp.2 b hb
  have run : ∀ j, j ≤ m → Reach [q] n a (itr p j (rd p b)).toNat := by
    intro j
    induction j with
    | zero =>
      intro _; have := Reach.step (ps := [q]) (n := n) (p := q) (by simp) ha; rw [e1] at this; exact this
    | succ j ih =>
      intro hj; have h1 := ih (by omega); have h2 := itr_in p n hp j _ pb; have h3 := m3 j (by omega)
      have h4 : (itr p j (rd p b)).toNat ≠ a := by
        intro e
        apply hab
        have z := itr_reach [p] p n hp (by simp) (j + 1) (b : Int) (by omega); rw [show itr p (j + 1) (b : Int) = itr p j (rd p b) from rfl, e] at z; exact z.symm
      have s := Reach.step (ps := [q]) (n := n) (p := q) (by simp) (k := (itr p j (rd p b)).toNat) (by omega); rw [e3 _ (by omega) h4 (by omega), show (((itr p j (rd p b)).toNat : Nat) : Int) = itr p j (rd p b) by omega] at s; rw [itr_add p j 1]; exact h1.trans s
  have := run m (Nat.le_refl _); rw [m2] at this; exact this
theorem exch_split {n : Nat} {p q : List Int} {a b : Nat} (hp : inR n p) (hq : inR n q) (ip : injR n p) (iq : injR n q) (h : Exch n p q a b) (hab : Reach [p] n a b) : ¬ Reach [q] n a b := by
  obtain ⟨ha, hb, hne, e1, e2, e3⟩ := h; obtain ⟨k, hk⟩ := reach_itr p n hp ip b a hb hab.symm; obtain ⟨m, m1, m2, m3⟩ := first_itr p (rd p b) a k hk; have pb := hp.2 b hb
  have nb : ∀ j, j ≤ m → itr p j (rd p b) ≠ b := by
    intro j hj e
    by_cases ej : j = m
    · rw [ej, m2] at e
      omega
    · have : itr p (m - j - 1) (rd p b) = a := by
        have z : itr p m (rd p b) = itr p (m - j - 1) (rd p (itr p j (rd p b))) := by
          rw [show m = j + (1 + (m - j - 1)) by omega, itr_add, itr_add p 1]; rw [show j + (1 + (m - j - 1)) - j - 1 = m - j - 1 by omega]; rfl
        rw [e, m2] at z; exact z.symm
      exact m3 (m - j - 1) (by omega) this
  have hc := closed_of_fwd q n hq iq (fun x => ∃ j, j ≤ m ∧ itr p j (rd p b) = x) (fun x hx ⟨j, hj, hjx⟩ => by
    have qx := hq.2 x hx
    by_cases ex : x = a
    · subst ex
      exact ⟨0, by omega, by rw [e1]; show rd p b = _; omega⟩
    · have hxb : x ≠ b := by
        intro e; exact nb j hj (by rw [hjx, e])
      have jm : j ≠ m := by
        rintro rfl; rw [m2] at hjx; omega
      refine ⟨j + 1, by omega, ?_⟩; rw [itr_add p j 1, hjx, e3 x hx ex hxb]; have := hp.2 x hx
      show rd p x = _
      omega)
  intro hr; obtain ⟨j, hj, hjb⟩ := (hr _ hc).1 ⟨m, Nat.le_refl _, m2⟩; exact nb j hj hjb
theorem Cl.ex (n : Nat) (R : Nat → Nat → Prop) : ∃ k, Cl n R k ∧ k ≤ n := Cnt.ex _ n
theorem Cl.uniq {n : Nat} {R : Nat → Nat → Prop} {k l : Nat} (h : Cl n R k) (h' : Cl n R l) : k = l := Cnt.same h h' fun _ _ => Iff.rfl
theorem exch_rel {n : Nat} {p q : List Int} {a b : Nat} (hp : inR n p) (hq : inR n q) (ip : injR n p) (iq : injR n q) (h : Exch n p q a b) (hab : ¬ Reach [p] n a b) (x y : Nat) :
    Reach [q] n x y ↔ Reach [p] n x y ∨ (Reach [p] n x a ∧ Reach [p] n b y) ∨ (Reach [p] n x b ∧ Reach [p] n a y) := by
  have hj := exch_join hp hq ip iq h hab; obtain ⟨ha, hb, hne, e1, e2, e3⟩ := h
  have up : ∀ x y, Reach [p] n x y → Reach [q] n x y := by
    intro x y hr S hS
    refine hr S fun r hr' k hk => ?_
    have : r = p := by simpa using hr'
    subst this; have sq := hS q (by simp)
    by_cases ka : k = a
    · subst ka
      have z := sq b hb; rw [e2] at z; exact (hj S hS).trans z
    · by_cases kb : k = b
      · subst kb
        have z := sq a ha; rw [e1] at z; exact (hj S hS).symm.trans z
      · have z := sq k hk
        rw [e3 k hk ka kb] at z; exact z
  constructor
  · intro hr
    have hc : closedL [q] n (fun z => Reach [p] n x z ∨ (Reach [p] n x a ∧ Reach [p] n b z) ∨ (Reach [p] n x b ∧ Reach [p] n a z)) := by
      refine closed_of_fwd q n hq iq _ fun k hk hz => ?_
      have stp : ∀ z, z < n → Reach [p] n z (rd p z).toNat := fun z hz => Reach.step (by simp) hz
      by_cases ka : k = a
      · subst ka
        rw [e1]
        rcases hz with z | ⟨z1, z2⟩ | ⟨z1, z2⟩
        · exact .inr (.inl ⟨z, stp b hb⟩)
        · exact .inr (.inl ⟨z1, stp b hb⟩)
        · exact .inl (z1.trans (stp b hb))
      · by_cases kb : k = b
        · subst kb
          rw [e2]
          rcases hz with z | ⟨z1, z2⟩ | ⟨z1, z2⟩
          · exact .inr (.inr ⟨z, stp a ha⟩)
          · exact .inl (z1.trans (stp a ha))
          · exact .inr (.inr ⟨z1, stp a ha⟩)
        · rw [e3 k hk ka kb]
          have s := stp k hk
          rcases hz with z | ⟨z1, z2⟩ | ⟨z1, z2⟩
          · exact .inl (z.trans s)
          · exact .inr (.inl ⟨z1, z2.trans s⟩)
          · exact .inr (.inr ⟨z1, z2.trans s⟩)
    exact (hr _ hc).1 (.inl (Reach.refl _ _ _))
  · rintro (z | ⟨z1, z2⟩ | ⟨z1, z2⟩)
    · exact up _ _ z
    · exact (up _ _ z1).trans (hj.trans (up _ _ z2))
    · exact (up _ _ z1).trans (hj.symm.trans (up _ _ z2))
theorem exch_count {n : Nat} {p q : List Int} {a b k l : Nat} (hp : inR n p) (hq : inR n q) (ip : injR n p) (iq : injR n q) (h : Exch n p q a b) (hk : Cl n (Reach [p] n) k) (hl : Cl n (Reach [q] n) l) :
    (¬ Reach [p] n a b → l + 1 = k) ∧ (Reach [p] n a b → l = k + 1) := by
  have sy : ∀ p : List Int, ∀ x y, Reach [p] n x y → Reach [p] n y x := fun p x y h => h.symm
  have tr : ∀ p : List Int, ∀ x y z, Reach [p] n x y → Reach [p] n y z → Reach [p] n x z := fun p x y z h h' => h.trans h'
  constructor
  · intro hab
    have := Cl.merge (S := Reach [q] n) (fun x => Reach.refl _ _ x) (sy p) (tr p) hk a b h.1 h.2.1 hab (exch_rel hp hq ip iq h hab); have e := Cl.uniq hl this.2; omega
  · intro hab
    have hab' := exch_split hp hq ip iq h hab; have := Cl.merge (S := Reach [p] n) (fun x => Reach.refl _ _ x) (sy q) (tr q) hl a b h.1 h.2.1 hab' (exch_rel hq hp iq ip h.symm hab'); have e := Cl.uniq hk this.2; omega
end Go.Proofs.Ytjgknblneokhlaa.PK
