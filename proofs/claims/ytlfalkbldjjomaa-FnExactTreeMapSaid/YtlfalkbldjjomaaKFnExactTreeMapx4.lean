/- For every tree, TreeMap of the program answers what TreeMap of the reference answers, leaves the tree as it was, and hands back memory of its own. There are no conditions. -/
import Derived.Test.YtlfalkbldjjomaaKFnExactTreeMapx3
namespace Go.Proofs.Ytlfalkbldjjomaa.PB
open Go.RowKit Go.Proofs.YtlfalkbldjjomaaW.PrintWords Go.Proofs.YtlfalkbldjjomaaW.PrintLast Go.Proofs.YtlfalkbldjjomaaW.PrintMore
attribute [local go_sem] max2_int min2_int max_two min_two max_three min_three max_four min_four   -- for this text's walks alone
set_option linter.unusedVariables false
set_option linter.unusedSimpArgs false
mutual
def laws_FnExactTreeMap.j0 : Nat → Bool → Bool → Bool → ByteArray → List Int → List Int → List Int → ByteArray → List Int → List Int → List Int → Option (Bool)
 | 0, _, _, _, _, _, _, _, _, _, _, _ => none
 | k + 1, x5, x8, x40, x555000, x555001, x568000, x568001, x573000, x573001, x581000, x581001 => if x40 = true then (some false) else ((laws_toTree.f k x555000 x555001).bind fun bt582 => ((laws_eqTree.f k x573000 x573001 bt582.1 bt582.2).bind fun t586 => (if t586 = true then ((laws_markTree.f k x573000 x573001 1).bind fun bt587 => (if bt587.1 < 0 then (laws_FnExactTreeMap.j1 k x5 true x555000 x555001 x568000 x568001 x581000 x581001) else ((laws_eqMap.f k x581000 x581001 x568000 x568001).bind fun t589 => (if t589 = true then (laws_FnExactTreeMap.j1 k x5 (x8 != x5) x555000 x555001 x568000 x568001 x581000 x581001) else (laws_FnExactTreeMap.j1 k x5 true x555000 x555001 x568000 x568001 x581000 x581001))))) else (some false))))
def laws_FnExactTreeMap.j1 : Nat → Bool → Bool → ByteArray → List Int → List Int → List Int → List Int → List Int → Option (Bool)
 | 0, _, _, _, _, _, _, _, _ => none
 | k + 1, x5, x61, x555000, x555001, x568000, x568001, x581000, x581001 => if x61 = true then (some false) else ((laws_markMap.f k x581000 x581001 1).bind fun bt590 => ((laws_heldMap.f k bt590.2.1 bt590.2.2 1).bind fun t593 => (if t593 < 0 then (some false) else (if t593 = bt590.1 then ((laws_toTree.f k x555000 x555001).bind fun bt594 => ((impl_TreeMap.f k bt594.1 bt594.2).bind fun bt598 => ((laws_eqMap.f k bt598.1 bt598.2.1 x568000 x568001).bind fun t606 => (if t606 = true then (laws_FnExactTreeMap.j2 k bt590.1 (bt598.2.2 != x5) bt590.2.1 bt590.2.2) else (laws_FnExactTreeMap.j2 k bt590.1 true bt590.2.1 bt590.2.2))))) else (some false)))))
def laws_FnExactTreeMap.j2 : Nat → Int → Bool → List Int → List Int → Option (Bool)
 | 0, _, _, _, _ => none
 | k + 1, x10, x87, x581000, x581001 => if x87 = true then (some false) else ((laws_heldMap.f k x581000 x581001 1).bind fun t607 => (if t607 < 0 then (some false) else (if t607 = x10 then (some true) else (some false))))
end
def laws_FnExactTreeMap.f (k : Nat) (a0_0 : ByteArray) (l0_1 : List Int) : Option (Bool) := (laws_szTree.f a0_0 l0_1 1048576).bind fun t555 => (if t555 < 0 then (some true) else ((laws_toTree.f k a0_0 l0_1).bind fun bt556 => ((spec_TreeMap.f k bt556.1 bt556.2).bind fun bt560 => ((laws_toTree.f k a0_0 l0_1).bind fun bt568 => ((impl_TreeMap.f k bt568.1 bt568.2).bind fun bt573 => ((laws_eqMap.f k bt573.1 bt573.2.1 bt560.1 bt560.2.1).bind fun t581 => (if t581 = true then (laws_FnExactTreeMap.j0 k bt560.2.2 bt573.2.2 (bt573.2.2 != bt560.2.2) a0_0 l0_1 bt560.1 bt560.2.1 bt568.1 bt568.2 bt573.1 bt573.2.1) else (laws_FnExactTreeMap.j0 k bt560.2.2 bt573.2.2 true a0_0 l0_1 bt560.1 bt560.2.1 bt568.1 bt568.2 bt573.1 bt573.2.1))))))))
set_option maxHeartbeats 8000000 in
set_option maxRecDepth 100000 in
theorem laws_FnExactTreeMap.calls (k : Nat) (a0_0 : ByteArray) (A0_1 : Option Addr) (c0_1 : Nat) (l0_1 : List Int) (r : Bool) (w : World) (hr0_1 : Kd.C (Kd.int .i64) w A0_1 l0_1.length l0_1) (hc0_1 : l0_1.length ≤ c0_1) (h : laws_FnExactTreeMap.f k a0_0 l0_1 = some r) :
  Calls Try.prog 14 #[.agg #[.string a0_0, .slice A0_1 l0_1.length c0_1]] w fun e w' => e = .returned (.bool r) ∧ Below w.heap.size w w' := by
 have hu32 := Try.underlying32
 have hu51 := Try.underlying51
 have hu35 := Try.underlying35
 have HR0_1 := Aside0.mk hr0_1
 have HC0_1 := Aside0.mk hc0_1
 clear hr0_1 hc0_1
 have HB := Aside0.mk (Below.refl w.heap.size w)
 have H : ((laws_szTree.f a0_0 l0_1 1048576).bind fun t555 => (if t555 < 0 then (some true) else ((laws_toTree.f k a0_0 l0_1).bind fun bt556 => ((spec_TreeMap.f k bt556.1 bt556.2).bind fun bt560 => ((laws_toTree.f k a0_0 l0_1).bind fun bt568 => ((impl_TreeMap.f k bt568.1 bt568.2).bind fun bt573 => ((laws_eqMap.f k bt573.1 bt573.2.1 bt560.1 bt560.2.1).bind fun t581 => (if t581 = true then (laws_FnExactTreeMap.j0 k bt560.2.2 bt573.2.2 (bt573.2.2 != bt560.2.2) a0_0 l0_1 bt560.1 bt560.2.1 bt568.1 bt568.2 bt573.1 bt573.2.1) else (laws_FnExactTreeMap.j0 k bt560.2.2 bt573.2.2 true a0_0 l0_1 bt560.1 bt560.2.1 bt568.1 bt568.2 bt573.1 bt573.2.1))))))))) = some r := h
 clear h
 replace H := Option.bind_eq_some_iff.mp H
 obtain ⟨t555, A20, H⟩ := H
 replace H : (if t555 < 0 then (some true) else ((laws_toTree.f k a0_0 l0_1).bind fun bt556 => ((spec_TreeMap.f k bt556.1 bt556.2).bind fun bt560 => ((laws_toTree.f k a0_0 l0_1).bind fun bt568 => ((impl_TreeMap.f k bt568.1 bt568.2).bind fun bt573 => ((laws_eqMap.f k bt573.1 bt573.2.1 bt560.1 bt560.2.1).bind fun t581 => (if t581 = true then (laws_FnExactTreeMap.j0 k bt560.2.2 bt573.2.2 (bt573.2.2 != bt560.2.2) a0_0 l0_1 bt560.1 bt560.2.1 bt568.1 bt568.2 bt573.1 bt573.2.1) else (laws_FnExactTreeMap.j0 k bt560.2.2 bt573.2.2 true a0_0 l0_1 bt560.1 bt560.2.1 bt568.1 bt568.2 bt573.1 bt573.2.1)))))))) = some r := H
 have A2 := Aside0.mk A20
 clear A20
 by_cases c3 : t555 < 0
 ·
  rw [if_pos c3] at H
  have c3b0 : decide (t555 < 0) = true := decide_eq_true c3
  clear c3
  obtain rfl := Option.some.inj H
  go_enter Try.func14, Try.ntmps14
  go_wp2_with (first | ((with_reducible refine gate_dst (N := 1) rfl ?_); refine box_event ?hg (N := 1) ?hd (cs := #[.string a0_0, .slice A0_1 l0_1.length c0_1]) (t := 32) ?hr ?_; (case hd => rfl); (case hg => rfl); (case hr => first | (go_simp; done) | (go_simp; rfl)); intro gb554 hg w4 hbox hb; have n0_ := Aside0.mk (below_step (by repeat (first | (with_reducible first | exact HB.out | apply below_alloc | apply pw_below_drewN | apply below_drew1) | exact HB.out)) hb); have n1_ := Aside0.mk (hbox); have n2_ := Aside0.mk ((by rw [hg]; exact (below_size (by repeat (first | (with_reducible first | exact HB.out | apply below_alloc | apply pw_below_drewN | apply below_drew1) | exact HB.out))) : w.heap.size ≤ gb554)); have n3_ := Aside0.mk ((by rw [hg]; exact (below_size (by repeat (first | (with_reducible first | exact HB.out | apply below_alloc | apply pw_below_drewN | apply below_drew1) | exact HB.out))) : w.heap.size ≤ gb554)); clear HB; have HB := n0_; have BK554 := n1_; have GW554 := n2_; have GE554 := n3_; clear n0_ n1_ n2_ n3_; clear hb hbox hg; have hcz5_0 : w4.cell? ⟨gb554, 0, none⟩ = some (.string a0_0) := (blk_cell BK554.out 0).trans rfl; have hcz5_1 : w4.cell? ⟨gb554, 1, none⟩ = some (.slice A0_1 l0_1.length c0_1) := (blk_cell BK554.out 1).trans rfl; have hfz5_0 := blk_frozen BK554.out 0; have hfz5_1 := blk_frozen BK554.out 1) | ((with_reducible refine gate_callee (f := 25) rfl ?_); refine goesL_ (some 16) rfl rfl Try.func25 (by kernel_rfl) rfl #[.agg #[.string a0_0, .slice A0_1 l0_1.length c0_1], .int .i64 1048576] rfl (by (try simp only [List.map_toArray, List.map_cons, List.map_nil]); first | done | rfl | (simp only [List.length_drop, List.length_take]; rfl)) ?_; (with_reducible refine (laws_szTree.calls a0_0 _ _ l0_1 1048576 t555 _ ?side1 ?side2 A2.out).mono ?_); (case side1 => repeat (first | exact (Kd.C_below HR0_1.out HB.out) | (with_reducible refine Kd.C_alloc ?_ _) | (with_reducible refine Kd.C_drewN ?_ _) | (with_reducible refine Kd.C_drew ?_))); (case side2 => exact HC0_1.out); rintro e w6 ⟨rfl, hb⟩; refine ⟨_, rfl, ?_⟩; have n0_ := Aside0.mk (blk_below (g := gb554) (o := .cells #[.string a0_0, .slice A0_1 l0_1.length c0_1] 32 (0, 0)) (by (with_reducible repeat (first | refine blk_drewN ?_ _ | refine blk_drew ?_ | refine blk_alloc ?_ _)); exact BK554.out) hb); have n1_ := Aside0.mk (below_step (by repeat (first | (with_reducible first | exact HB.out | apply below_alloc | apply pw_below_drewN | apply below_drew1 | refine below_set ?_ GE554.out) | exact HB.out)) hb); clear BK554; clear HB; have BK554 := n0_; have HB := n1_; clear n0_ n1_; (try clear hb); (try clear hb2); (try clear hk); (try clear hi)))
  go_ret
  exact ⟨by first | rfl | (simp [errW_none, errW_some] <;> rfl) | (simp [*, errW_none, errW_some] <;> rfl), by repeat (first | (with_reducible first | exact HB.out | apply below_alloc | apply pw_below_drewN | apply below_drew1 | refine below_set ?_ GE554.out) | exact HB.out)⟩
 ·
  rw [if_neg c3] at H
  have c3b0 : decide (t555 < 0) = false := decide_eq_false c3
  clear c3
  replace H := Option.bind_eq_some_iff.mp H
  obtain ⟨⟨t556, t557⟩, A70, H⟩ := H
  replace H : ((spec_TreeMap.f k t556 t557).bind fun bt560 => ((laws_toTree.f k a0_0 l0_1).bind fun bt568 => ((impl_TreeMap.f k bt568.1 bt568.2).bind fun bt573 => ((laws_eqMap.f k bt573.1 bt573.2.1 bt560.1 bt560.2.1).bind fun t581 => (if t581 = true then (laws_FnExactTreeMap.j0 k bt560.2.2 bt573.2.2 (bt573.2.2 != bt560.2.2) a0_0 l0_1 bt560.1 bt560.2.1 bt568.1 bt568.2 bt573.1 bt573.2.1) else (laws_FnExactTreeMap.j0 k bt560.2.2 bt573.2.2 true a0_0 l0_1 bt560.1 bt560.2.1 bt568.1 bt568.2 bt573.1 bt573.2.1)))))) = some r := H
  have A7 := Aside0.mk A70
  clear A70
  replace H := Option.bind_eq_some_iff.mp H
  obtain ⟨⟨t560, t563, t566⟩, A80, H⟩ := H
  replace H : ((laws_toTree.f k a0_0 l0_1).bind fun bt568 => ((impl_TreeMap.f k bt568.1 bt568.2).bind fun bt573 => ((laws_eqMap.f k bt573.1 bt573.2.1 t560 t563).bind fun t581 => (if t581 = true then (laws_FnExactTreeMap.j0 k t566 bt573.2.2 (bt573.2.2 != t566) a0_0 l0_1 t560 t563 bt568.1 bt568.2 bt573.1 bt573.2.1) else (laws_FnExactTreeMap.j0 k t566 bt573.2.2 true a0_0 l0_1 t560 t563 bt568.1 bt568.2 bt573.1 bt573.2.1))))) = some r := H
  have A8 := Aside0.mk A80
  clear A80
  replace H := Option.bind_eq_some_iff.mp H
  obtain ⟨⟨t568, t569⟩, A90, H⟩ := H
  replace H : ((impl_TreeMap.f k t568 t569).bind fun bt573 => ((laws_eqMap.f k bt573.1 bt573.2.1 t560 t563).bind fun t581 => (if t581 = true then (laws_FnExactTreeMap.j0 k t566 bt573.2.2 (bt573.2.2 != t566) a0_0 l0_1 t560 t563 t568 t569 bt573.1 bt573.2.1) else (laws_FnExactTreeMap.j0 k t566 bt573.2.2 true a0_0 l0_1 t560 t563 t568 t569 bt573.1 bt573.2.1)))) = some r := H
  have A9 := Aside0.mk A90
  clear A90
  replace H := Option.bind_eq_some_iff.mp H
  obtain ⟨⟨t573, t576, t579⟩, A100, H⟩ := H
  replace H : ((laws_eqMap.f k t573 t576 t560 t563).bind fun t581 => (if t581 = true then (laws_FnExactTreeMap.j0 k t566 t579 (t579 != t566) a0_0 l0_1 t560 t563 t568 t569 t573 t576) else (laws_FnExactTreeMap.j0 k t566 t579 true a0_0 l0_1 t560 t563 t568 t569 t573 t576))) = some r := H
  have A10 := Aside0.mk A100
  clear A100
  have HC11 := Aside0.mk H
  clear H
  go_enter Try.func14, Try.ntmps14
  go_upto_region 8 with (first | ((with_reducible refine gate_dst (N := 1) rfl ?_); refine box_event ?hg (N := 1) ?hd (cs := #[.string a0_0, .slice A0_1 l0_1.length c0_1]) (t := 32) ?hr ?_; (case hd => rfl); (case hg => rfl); (case hr => first | (go_simp; done) | (go_simp; rfl)); intro gb554 hg w12 hbox hb; have n0_ := Aside0.mk (below_step (by repeat (first | (with_reducible first | exact HB.out | apply below_alloc | apply pw_below_drewN | apply below_drew1) | exact HB.out)) hb); have n1_ := Aside0.mk (hbox); have n2_ := Aside0.mk ((by rw [hg]; exact (below_size (by repeat (first | (with_reducible first | exact HB.out | apply below_alloc | apply pw_below_drewN | apply below_drew1) | exact HB.out))) : w.heap.size ≤ gb554)); have n3_ := Aside0.mk ((by rw [hg]; exact (below_size (by repeat (first | (with_reducible first | exact HB.out | apply below_alloc | apply pw_below_drewN | apply below_drew1) | exact HB.out))) : w.heap.size ≤ gb554)); clear HB; have HB := n0_; have BK554 := n1_; have GW554 := n2_; have GE554 := n3_; clear n0_ n1_ n2_ n3_; clear hb hbox hg; have hcz13_0 : w12.cell? ⟨gb554, 0, none⟩ = some (.string a0_0) := (blk_cell BK554.out 0).trans rfl; have hcz13_1 : w12.cell? ⟨gb554, 1, none⟩ = some (.slice A0_1 l0_1.length c0_1) := (blk_cell BK554.out 1).trans rfl; have hfz13_0 := blk_frozen BK554.out 0; have hfz13_1 := blk_frozen BK554.out 1) | ((with_reducible refine gate_callee (f := 25) rfl ?_); refine goesL_ (some 16) rfl rfl Try.func25 (by kernel_rfl) rfl #[.agg #[.string a0_0, .slice A0_1 l0_1.length c0_1], .int .i64 1048576] rfl (by (try simp only [List.map_toArray, List.map_cons, List.map_nil]); first | done | rfl | (simp only [List.length_drop, List.length_take]; rfl)) ?_; (with_reducible refine (laws_szTree.calls a0_0 _ _ l0_1 1048576 t555 _ ?side1 ?side2 A2.out).mono ?_); (case side1 => repeat (first | exact (Kd.C_below HR0_1.out HB.out) | (with_reducible refine Kd.C_alloc ?_ _) | (with_reducible refine Kd.C_drewN ?_ _) | (with_reducible refine Kd.C_drew ?_))); (case side2 => exact HC0_1.out); rintro e w14 ⟨rfl, hb⟩; refine ⟨_, rfl, ?_⟩; have n0_ := Aside0.mk (blk_below (g := gb554) (o := .cells #[.string a0_0, .slice A0_1 l0_1.length c0_1] 32 (0, 0)) (by (with_reducible repeat (first | refine blk_drewN ?_ _ | refine blk_drew ?_ | refine blk_alloc ?_ _)); exact BK554.out) hb); have n1_ := Aside0.mk (below_step (by repeat (first | (with_reducible first | exact HB.out | apply below_alloc | apply pw_below_drewN | apply below_drew1 | refine below_set ?_ GE554.out) | exact HB.out)) hb); clear BK554; clear HB; have BK554 := n0_; have HB := n1_; clear n0_ n1_; (try clear hb); (try clear hb2); (try clear hk); (try clear hi); have hcz15_0 : w14.cell? ⟨gb554, 0, none⟩ = some (.string a0_0) := (blk_cell BK554.out 0).trans rfl; have hcz15_1 : w14.cell? ⟨gb554, 1, none⟩ = some (.slice A0_1 l0_1.length c0_1) := (blk_cell BK554.out 1).trans rfl; have hfz15_0 := blk_frozen BK554.out 0; have hfz15_1 := blk_frozen BK554.out 1) | ((with_reducible refine gate_callee (f := 27) rfl ?_); refine goesL_ (some 21) rfl rfl Try.func27 (by kernel_rfl) rfl #[.agg #[.string a0_0, .slice A0_1 l0_1.length c0_1]] rfl (by (try simp only [List.map_toArray, List.map_cons, List.map_nil]); first | done | rfl | (simp only [List.length_drop, List.length_take]; rfl)) ?_; (with_reducible refine (laws_toTree.calls k a0_0 _ _ l0_1 t556 t557 _ ?side1 ?side2 A7.out).mono ?_); (case side1 => repeat (first | exact (Kd.C_below HR0_1.out HB.out) | (with_reducible refine Kd.C_alloc ?_ _) | (with_reducible refine Kd.C_drewN ?_ _) | (with_reducible refine Kd.C_drew ?_))); (case side2 => exact HC0_1.out); rintro e w16 ⟨v558, rfl, ho0, hb⟩; refine ⟨_, rfl, ?_⟩; have n0_ := Aside0.mk (Kd.R_lower ho0 (below_size (by repeat (first | (with_reducible first | exact HB.out | apply below_alloc | apply pw_below_drewN | apply below_drew1 | refine below_set ?_ GE554.out) | exact HB.out)))); have n1_ := Aside0.mk (blk_below (g := gb554) (o := .cells #[.string a0_0, .slice A0_1 l0_1.length c0_1] 32 (0, 0)) (by (with_reducible repeat (first | refine blk_drewN ?_ _ | refine blk_drew ?_ | refine blk_alloc ?_ _)); exact BK554.out) hb); have n2_ := Aside0.mk (below_step (by repeat (first | (with_reducible first | exact HB.out | apply below_alloc | apply pw_below_drewN | apply below_drew1 | refine below_set ?_ GE554.out) | exact HB.out)) hb); clear BK554; clear HB; have HO559 := n0_; have BK554 := n1_; have HB := n2_; clear n0_ n1_ n2_; (try clear hb); (try clear hb2); (try clear hk); (try clear hi); (try clear ho0); obtain ⟨Ao17, co17, eo17⟩ := Kd.R_slice HO559.out; subst eo17) | ((with_reducible refine gate_callee (f := 47) rfl ?_); refine goesL_ (some 22) rfl rfl Try.func47 (by kernel_rfl) rfl #[.agg #[.string t556, .slice Ao17 t557.length co17]] rfl (by (try simp only [List.map_toArray, List.map_cons, List.map_nil]); first | done | rfl | (simp only [List.length_drop, List.length_take]; rfl)) ?_; (with_reducible refine (spec_TreeMap.calls k t556 _ _ t557 t560 t563 t566 _ ?side1 ?side2 A8.out).mono ?_); (case side1 => repeat (first | exact (Kd.R_reads' HO559.out).2.2 | (with_reducible refine Kd.C_alloc ?_ _) | (with_reducible refine Kd.C_drewN ?_ _) | (with_reducible refine Kd.C_drew ?_))); (case side2 => exact (Kd.R_reads' HO559.out).2.1); rintro e w18 ⟨v561, v564, rfl, ho0, ho1, hb⟩; refine ⟨_, rfl, ?_⟩; have n0_ := Aside0.mk (Kd.R_mono (Kd.R_told (Kd.R_told (Kd.R_old (by (with_reducible repeat (first | apply Kd.R_alloc | apply Kd.R_drewN | apply Kd.R_drew)); exact HO559.out) hb) (Kd.R_base ho0)) (Kd.R_base ho1)) (fun _ h_ => h_.1)); have n1_ := Aside0.mk (Kd.R_lower (Kd.R_new' ho0 (Kd.R_lt (by (with_reducible repeat (first | apply Kd.R_alloc | apply Kd.R_drewN | apply Kd.R_drew)); exact HO559.out))) (below_size (by repeat (first | (with_reducible first | exact HB.out | apply below_alloc | apply pw_below_drewN | apply below_drew1 | refine below_set ?_ GE554.out) | exact HB.out)))); have n2_ := Aside0.mk (Kd.R_lower (Kd.R_new' ho1 (Kd.R_lt (by (with_reducible repeat (first | apply Kd.R_alloc | apply Kd.R_drewN | apply Kd.R_drew)); exact HO559.out))) (below_size (by repeat (first | (with_reducible first | exact HB.out | apply below_alloc | apply pw_below_drewN | apply below_drew1 | refine below_set ?_ GE554.out) | exact HB.out)))); have n3_ := Aside0.mk (blk_below (g := gb554) (o := .cells #[.string a0_0, .slice A0_1 l0_1.length c0_1] 32 (0, 0)) (by (with_reducible repeat (first | refine blk_drewN ?_ _ | refine blk_drew ?_ | refine blk_alloc ?_ _)); exact BK554.out) hb); have n4_ := Aside0.mk (below_step (by repeat (first | (with_reducible first | exact HB.out | apply below_alloc | apply pw_below_drewN | apply below_drew1 | refine below_set ?_ GE554.out) | exact HB.out)) hb); clear HO559; clear BK554; clear HB; have HO559 := n0_; have HO562 := n1_; have HO565 := n2_; have BK554 := n3_; have HB := n4_; clear n0_ n1_ n2_ n3_ n4_; (try clear hb); (try clear hb2); (try clear hk); (try clear hi); (try clear ho0); (try clear ho1)) | ((with_reducible refine gate_dst (N := 4) rfl ?_); refine box_event ?hg (N := 4) ?hd (cs := #[.slice none 0 0, .slice none 0 0]) (t := 51) ?hr ?_; (case hd => rfl); (case hg => rfl); (case hr => first | (go_simp; done) | (go_simp; rfl)); intro gb567 hg w19 hbox hb; have n0_ := Aside0.mk (Kd.R_below (by (with_reducible repeat (first | apply Kd.R_alloc | apply Kd.R_drewN | apply Kd.R_drew)); exact HO559.out) hb); have n1_ := Aside0.mk (Kd.R_below (by (with_reducible repeat (first | apply Kd.R_alloc | apply Kd.R_drewN | apply Kd.R_drew)); exact HO562.out) hb); have n2_ := Aside0.mk (Kd.R_below (by (with_reducible repeat (first | apply Kd.R_alloc | apply Kd.R_drewN | apply Kd.R_drew)); exact HO565.out) hb); have n3_ := Aside0.mk (blk_below (g := gb554) (o := .cells #[.string a0_0, .slice A0_1 l0_1.length c0_1] 32 (0, 0)) (by (with_reducible repeat (first | refine blk_drewN ?_ _ | refine blk_drew ?_ | refine blk_alloc ?_ _)); exact BK554.out) hb); have n4_ := Aside0.mk (below_step (by repeat (first | (with_reducible first | exact HB.out | apply below_alloc | apply pw_below_drewN | apply below_drew1 | refine below_set ?_ GE554.out) | exact HB.out)) hb); have n5_ := Aside0.mk (hbox); have n6_ := Aside0.mk ((by rw [hg]; exact (below_size (by repeat (first | (with_reducible first | exact HB.out | apply below_alloc | apply pw_below_drewN | apply below_drew1 | refine below_set ?_ GE554.out) | exact HB.out))) : w.heap.size ≤ gb567)); have n7_ := Aside0.mk ((by rw [hg]; exact (below_size (by repeat (first | (with_reducible first | exact HB.out | apply below_alloc | apply pw_below_drewN | apply below_drew1 | refine below_set ?_ GE554.out) | exact HB.out))) : w.heap.size ≤ gb567)); have n8_ := Aside0.mk ((by rw [hg]; exact Nat.ne_of_lt (blk_lt (g := gb554) (o := .cells #[.string a0_0, .slice A0_1 l0_1.length c0_1] 32 (0, 0)) (by (with_reducible repeat (first | refine blk_drewN ?_ _ | refine blk_drew ?_ | refine blk_alloc ?_ _)); exact BK554.out)) : gb554 ≠ gb567)); have n9_ := Aside0.mk ((by rw [hg]; exact Nat.ne_of_gt (blk_lt (g := gb554) (o := .cells #[.string a0_0, .slice A0_1 l0_1.length c0_1] 32 (0, 0)) (by (with_reducible repeat (first | refine blk_drewN ?_ _ | refine blk_drew ?_ | refine blk_alloc ?_ _)); exact BK554.out)) : gb567 ≠ gb554)); clear HO559; clear HO562; clear HO565; clear BK554; clear HB; have HO559 := n0_; have HO562 := n1_; have HO565 := n2_; have BK554 := n3_; have HB := n4_; have BK567 := n5_; have GW567 := n6_; have GE567 := n7_; have NB554_567 := n8_; have NB567_554 := n9_; clear n0_ n1_ n2_ n3_ n4_ n5_ n6_ n7_ n8_ n9_; clear hb hbox hg; obtain ⟨Ao20, co20, eo20⟩ := Kd.R_slice HO562.out; subst eo20; have hnb21 := NB567_554.out; have hnc21 := NB554_567.out; have hcz22_0 : w19.cell? ⟨gb567, 0, none⟩ = some (.slice none 0 0) := (blk_cell BK567.out 0).trans rfl; have hcz22_1 : w19.cell? ⟨gb567, 1, none⟩ = some (.slice none 0 0) := (blk_cell BK567.out 1).trans rfl; have hfz22_0 := blk_frozen BK567.out 0; have hfz22_1 := blk_frozen BK567.out 1; obtain ⟨Ao23, co23, eo23⟩ := Kd.R_slice HO565.out; subst eo23; have hcz24_0 : w19.cell? ⟨gb554, 0, none⟩ = some (.string a0_0) := (blk_cell BK554.out 0).trans rfl; have hcz24_1 : w19.cell? ⟨gb554, 1, none⟩ = some (.slice A0_1 l0_1.length c0_1) := (blk_cell BK554.out 1).trans rfl; have hfz24_0 := blk_frozen BK554.out 0; have hfz24_1 := blk_frozen BK554.out 1) | ((with_reducible refine gate_callee (f := 27) rfl ?_); refine goesL_ (some 26) rfl rfl Try.func27 (by kernel_rfl) rfl #[.agg #[.string a0_0, .slice A0_1 l0_1.length c0_1]] rfl (by (try simp only [List.map_toArray, List.map_cons, List.map_nil]); first | done | rfl | (simp only [List.length_drop, List.length_take]; rfl)) ?_; (with_reducible refine (laws_toTree.calls k a0_0 _ _ l0_1 t568 t569 _ ?side1 ?side2 A9.out).mono ?_); (case side1 => exact Kd.C_below HR0_1.out (by repeat (first | (with_reducible first | exact HB.out | apply below_alloc | apply pw_below_drewN | apply below_drew1 | refine below_set ?_ GE554.out | refine below_set ?_ GE567.out) | exact HB.out))); (case side2 => exact HC0_1.out); rintro e w25 ⟨v570, rfl, ho0, hb⟩; refine ⟨_, rfl, ?_⟩; have n0_ := Aside0.mk (Kd.R_elder' (by (with_reducible repeat (first | apply Kd.R_alloc | apply Kd.R_drewN | apply Kd.R_drew)); exact (Kd.R_mono (Kd.R_far (p := ⟨gb567, 1, none⟩) (Kd.R_far (p := ⟨gb567, 0, none⟩) (Kd.R_types HO559.out BK567.out (by decide)) (fun _ hk => hk.2) (.slice Ao20 t560.length co20)) (fun _ hk => hk.2) (.slice Ao23 t563.length co23)) (fun _ h_ => h_.1))) (Kd.R_base ho0) hb); have n1_ := Aside0.mk (Kd.R_elder' (by (with_reducible repeat (first | apply Kd.R_alloc | apply Kd.R_drewN | apply Kd.R_drew)); exact (Kd.R_mono (Kd.R_far (p := ⟨gb567, 1, none⟩) (Kd.R_far (p := ⟨gb567, 0, none⟩) (Kd.R_types HO562.out BK567.out (by decide)) (fun _ hk => hk.2) (.slice Ao20 t560.length co20)) (fun _ hk => hk.2) (.slice Ao23 t563.length co23)) (fun _ h_ => h_.1))) (Kd.R_base ho0) hb); have n2_ := Aside0.mk (Kd.R_elder' (by (with_reducible repeat (first | apply Kd.R_alloc | apply Kd.R_drewN | apply Kd.R_drew)); exact (Kd.R_mono (Kd.R_far (p := ⟨gb567, 1, none⟩) (Kd.R_far (p := ⟨gb567, 0, none⟩) (Kd.R_types HO565.out BK567.out (by decide)) (fun _ hk => hk.2) (.slice Ao20 t560.length co20)) (fun _ hk => hk.2) (.slice Ao23 t563.length co23)) (fun _ h_ => h_.1))) (Kd.R_base ho0) hb); have n3_ := Aside0.mk (Kd.R_lower (Kd.R_new' (Kd.R_new' (Kd.R_new' ho0 (Kd.R_lt (by (with_reducible repeat (first | apply Kd.R_alloc | apply Kd.R_drewN | apply Kd.R_drew)); exact (Kd.R_mono (Kd.R_far (p := ⟨gb567, 1, none⟩) (Kd.R_far (p := ⟨gb567, 0, none⟩) (Kd.R_types HO559.out BK567.out (by decide)) (fun _ hk => hk.2) (.slice Ao20 t560.length co20)) (fun _ hk => hk.2) (.slice Ao23 t563.length co23)) (fun _ h_ => h_.1))))) (Kd.R_lt (by (with_reducible repeat (first | apply Kd.R_alloc | apply Kd.R_drewN | apply Kd.R_drew)); exact (Kd.R_mono (Kd.R_far (p := ⟨gb567, 1, none⟩) (Kd.R_far (p := ⟨gb567, 0, none⟩) (Kd.R_types HO562.out BK567.out (by decide)) (fun _ hk => hk.2) (.slice Ao20 t560.length co20)) (fun _ hk => hk.2) (.slice Ao23 t563.length co23)) (fun _ h_ => h_.1))))) (Kd.R_lt (by (with_reducible repeat (first | apply Kd.R_alloc | apply Kd.R_drewN | apply Kd.R_drew)); exact (Kd.R_mono (Kd.R_far (p := ⟨gb567, 1, none⟩) (Kd.R_far (p := ⟨gb567, 0, none⟩) (Kd.R_types HO565.out BK567.out (by decide)) (fun _ hk => hk.2) (.slice Ao20 t560.length co20)) (fun _ hk => hk.2) (.slice Ao23 t563.length co23)) (fun _ h_ => h_.1))))) (below_size (by repeat (first | (with_reducible first | exact HB.out | apply below_alloc | apply pw_below_drewN | apply below_drew1 | refine below_set ?_ GE554.out | refine below_set ?_ GE567.out) | exact HB.out)))); have n4_ := Aside0.mk (blk_below (g := gb554) (o := .cells #[.string a0_0, .slice A0_1 l0_1.length c0_1] 32 (0, 0)) (by (with_reducible repeat (first | refine blk_drewN ?_ _ | refine blk_drew ?_ | refine blk_alloc ?_ _)); refine blk_far ?_ NB554_567.out _; (with_reducible repeat (first | refine blk_drewN ?_ _ | refine blk_drew ?_ | refine blk_alloc ?_ _)); refine blk_far ?_ NB554_567.out _; (with_reducible repeat (first | refine blk_drewN ?_ _ | refine blk_drew ?_ | refine blk_alloc ?_ _)); exact BK554.out) hb); have n5_ := Aside0.mk (blk_below (g := gb567) (o := .cells #[.slice Ao20 t560.length co20, .slice Ao23 t563.length co23] 51 (0, 0)) (by (with_reducible repeat (first | refine blk_drewN ?_ _ | refine blk_drew ?_ | refine blk_alloc ?_ _)); refine blk_put (cs := #[.slice Ao20 t560.length co20, .slice none 0 0]) ?_ 1 _ rfl; (with_reducible repeat (first | refine blk_drewN ?_ _ | refine blk_drew ?_ | refine blk_alloc ?_ _)); refine blk_put (cs := #[.slice none 0 0, .slice none 0 0]) ?_ 0 _ rfl; (with_reducible repeat (first | refine blk_drewN ?_ _ | refine blk_drew ?_ | refine blk_alloc ?_ _)); exact BK567.out) hb); have n6_ := Aside0.mk (below_step (by repeat (first | (with_reducible first | exact HB.out | apply below_alloc | apply pw_below_drewN | apply below_drew1 | refine below_set ?_ GE554.out | refine below_set ?_ GE567.out) | exact HB.out)) hb); clear HO559; clear HO562; clear HO565; clear BK554; clear BK567; clear HB; have HO559 := n0_; have HO562 := n1_; have HO565 := n2_; have HO571 := n3_; have BK554 := n4_; have BK567 := n5_; have HB := n6_; clear n0_ n1_ n2_ n3_ n4_ n5_ n6_; (try clear hb); (try clear hb2); (try clear hk); (try clear hi); (try clear ho0)) | ((with_reducible refine gate_dst (N := 6) rfl ?_); refine box_event ?hg (N := 6) ?hd (cs := #[.string (⟨#[]⟩ : ByteArray), .slice none 0 0]) (t := 35) ?hr ?_; (case hd => rfl); (case hg => rfl); (case hr => first | (go_simp; done) | (go_simp; rfl)); intro gb572 hg w26 hbox hb; have n0_ := Aside0.mk (Kd.R_below (by (with_reducible repeat (first | apply Kd.R_alloc | apply Kd.R_drewN | apply Kd.R_drew)); exact HO559.out) hb); have n1_ := Aside0.mk (Kd.R_below (by (with_reducible repeat (first | apply Kd.R_alloc | apply Kd.R_drewN | apply Kd.R_drew)); exact HO562.out) hb); have n2_ := Aside0.mk (Kd.R_below (by (with_reducible repeat (first | apply Kd.R_alloc | apply Kd.R_drewN | apply Kd.R_drew)); exact HO565.out) hb); have n3_ := Aside0.mk (Kd.R_below (by (with_reducible repeat (first | apply Kd.R_alloc | apply Kd.R_drewN | apply Kd.R_drew)); exact HO571.out) hb); have n4_ := Aside0.mk (blk_below (g := gb554) (o := .cells #[.string a0_0, .slice A0_1 l0_1.length c0_1] 32 (0, 0)) (by (with_reducible repeat (first | refine blk_drewN ?_ _ | refine blk_drew ?_ | refine blk_alloc ?_ _)); exact BK554.out) hb); have n5_ := Aside0.mk (blk_below (g := gb567) (o := .cells #[.slice Ao20 t560.length co20, .slice Ao23 t563.length co23] 51 (0, 0)) (by (with_reducible repeat (first | refine blk_drewN ?_ _ | refine blk_drew ?_ | refine blk_alloc ?_ _)); exact BK567.out) hb); have n6_ := Aside0.mk (below_step (by repeat (first | (with_reducible first | exact HB.out | apply below_alloc | apply pw_below_drewN | apply below_drew1 | refine below_set ?_ GE554.out | refine below_set ?_ GE567.out) | exact HB.out)) hb); have n7_ := Aside0.mk (hbox); have n8_ := Aside0.mk ((by rw [hg]; exact (below_size (by repeat (first | (with_reducible first | exact HB.out | apply below_alloc | apply pw_below_drewN | apply below_drew1 | refine below_set ?_ GE554.out | refine below_set ?_ GE567.out) | exact HB.out))) : w.heap.size ≤ gb572)); have n9_ := Aside0.mk ((by rw [hg]; exact (below_size (by repeat (first | (with_reducible first | exact HB.out | apply below_alloc | apply pw_below_drewN | apply below_drew1 | refine below_set ?_ GE554.out | refine below_set ?_ GE567.out) | exact HB.out))) : w.heap.size ≤ gb572)); have n10_ := Aside0.mk ((by rw [hg]; exact Nat.ne_of_lt (blk_lt (g := gb554) (o := .cells #[.string a0_0, .slice A0_1 l0_1.length c0_1] 32 (0, 0)) (by (with_reducible repeat (first | refine blk_drewN ?_ _ | refine blk_drew ?_ | refine blk_alloc ?_ _)); exact BK554.out)) : gb554 ≠ gb572)); have n11_ := Aside0.mk ((by rw [hg]; exact Nat.ne_of_gt (blk_lt (g := gb554) (o := .cells #[.string a0_0, .slice A0_1 l0_1.length c0_1] 32 (0, 0)) (by (with_reducible repeat (first | refine blk_drewN ?_ _ | refine blk_drew ?_ | refine blk_alloc ?_ _)); exact BK554.out)) : gb572 ≠ gb554)); have n12_ := Aside0.mk ((by rw [hg]; exact Nat.ne_of_lt (blk_lt (g := gb567) (o := .cells #[.slice Ao20 t560.length co20, .slice Ao23 t563.length co23] 51 (0, 0)) (by (with_reducible repeat (first | refine blk_drewN ?_ _ | refine blk_drew ?_ | refine blk_alloc ?_ _)); exact BK567.out)) : gb567 ≠ gb572)); have n13_ := Aside0.mk ((by rw [hg]; exact Nat.ne_of_gt (blk_lt (g := gb567) (o := .cells #[.slice Ao20 t560.length co20, .slice Ao23 t563.length co23] 51 (0, 0)) (by (with_reducible repeat (first | refine blk_drewN ?_ _ | refine blk_drew ?_ | refine blk_alloc ?_ _)); exact BK567.out)) : gb572 ≠ gb567)); clear HO559; clear HO562; clear HO565; clear HO571; clear BK554; clear BK567; clear HB; have HO559 := n0_; have HO562 := n1_; have HO565 := n2_; have HO571 := n3_; have BK554 := n4_; have BK567 := n5_; have HB := n6_; have BK572 := n7_; have GW572 := n8_; have GE572 := n9_; have NB554_572 := n10_; have NB572_554 := n11_; have NB567_572 := n12_; have NB572_567 := n13_; clear n0_ n1_ n2_ n3_ n4_ n5_ n6_ n7_ n8_ n9_ n10_ n11_ n12_ n13_; clear hb hbox hg; have hnb27 := NB572_554.out; have hnc27 := NB554_572.out; have hnb28 := NB572_567.out; have hnc28 := NB567_572.out; have hcz29_0 : w26.cell? ⟨gb572, 0, none⟩ = some (.string (⟨#[]⟩ : ByteArray)) := (blk_cell BK572.out 0).trans rfl; have hcz29_1 : w26.cell? ⟨gb572, 1, none⟩ = some (.slice none 0 0) := (blk_cell BK572.out 1).trans rfl; have hfz29_0 := blk_frozen BK572.out 0; have hfz29_1 := blk_frozen BK572.out 1; obtain ⟨Ao30, co30, eo30⟩ := Kd.R_slice HO571.out; subst eo30) | ((with_reducible refine gate_callee (f := 43) rfl ?_); refine goesL_ (some 29) rfl rfl Try.func43 (by kernel_rfl) rfl #[.agg #[.string t568, .slice Ao30 t569.length co30]] rfl (by (try simp only [List.map_toArray, List.map_cons, List.map_nil]); first | done | rfl | (simp only [List.length_drop, List.length_take]; rfl)) ?_; (with_reducible refine (impl_TreeMap.calls k t568 _ _ t569 t573 t576 t579 _ ?side1 ?side2 A10.out).mono ?_); (case side1 => refine (Kd.R_reads' (e := 3) (base := w.heap.size) (ok := fun k_ => (((True ∧ some k_ ≠ (.slice Ao17 t557.length co17 : Value).ownBlock) ∧ some k_ ≠ (.slice Ao20 t560.length co20 : Value).ownBlock) ∧ some k_ ≠ (.slice Ao23 t563.length co23 : Value).ownBlock)) (n := t569.length) (c := co30) ?_).2.2; exact (by (with_reducible repeat (first | apply Kd.R_alloc | apply Kd.R_drewN | apply Kd.R_drew)); exact (Kd.R_mono (Kd.R_far (p := ⟨gb572, 1, none⟩) (Kd.R_far (p := ⟨gb572, 0, none⟩) (Kd.R_types HO571.out BK572.out (by decide)) (fun _ hk => hk.2) (.string t568)) (fun _ hk => hk.2) (.slice Ao30 t569.length co30)) (fun _ h_ => h_.1)))); (case side2 => exact (Kd.R_reads' HO571.out).2.1); rintro e w31 ⟨v574, v577, rfl, ho0, ho1, hb⟩; refine ⟨_, rfl, ?_⟩; have n0_ := Aside0.mk (Kd.R_mono (Kd.R_told (Kd.R_told (Kd.R_old (by (with_reducible repeat (first | apply Kd.R_alloc | apply Kd.R_drewN | apply Kd.R_drew)); exact (Kd.R_mono (Kd.R_far (p := ⟨gb572, 1, none⟩) (Kd.R_far (p := ⟨gb572, 0, none⟩) (Kd.R_types HO559.out BK572.out (by decide)) (fun _ hk => hk.2) (.string t568)) (fun _ hk => hk.2) (.slice Ao30 t569.length co30)) (fun _ h_ => h_.1))) hb) (Kd.R_base ho0)) (Kd.R_base ho1)) (fun _ h_ => h_.1)); have n1_ := Aside0.mk (Kd.R_mono (Kd.R_told (Kd.R_told (Kd.R_old (by (with_reducible repeat (first | apply Kd.R_alloc | apply Kd.R_drewN | apply Kd.R_drew)); exact (Kd.R_mono (Kd.R_far (p := ⟨gb572, 1, none⟩) (Kd.R_far (p := ⟨gb572, 0, none⟩) (Kd.R_types HO562.out BK572.out (by decide)) (fun _ hk => hk.2) (.string t568)) (fun _ hk => hk.2) (.slice Ao30 t569.length co30)) (fun _ h_ => h_.1))) hb) (Kd.R_base ho0)) (Kd.R_base ho1)) (fun _ h_ => h_.1)); have n2_ := Aside0.mk (Kd.R_mono (Kd.R_told (Kd.R_told (Kd.R_old (by (with_reducible repeat (first | apply Kd.R_alloc | apply Kd.R_drewN | apply Kd.R_drew)); exact (Kd.R_mono (Kd.R_far (p := ⟨gb572, 1, none⟩) (Kd.R_far (p := ⟨gb572, 0, none⟩) (Kd.R_types HO565.out BK572.out (by decide)) (fun _ hk => hk.2) (.string t568)) (fun _ hk => hk.2) (.slice Ao30 t569.length co30)) (fun _ h_ => h_.1))) hb) (Kd.R_base ho0)) (Kd.R_base ho1)) (fun _ h_ => h_.1)); have n3_ := Aside0.mk (Kd.R_mono (Kd.R_told (Kd.R_told (Kd.R_old (by (with_reducible repeat (first | apply Kd.R_alloc | apply Kd.R_drewN | apply Kd.R_drew)); exact (Kd.R_mono (Kd.R_far (p := ⟨gb572, 1, none⟩) (Kd.R_far (p := ⟨gb572, 0, none⟩) (Kd.R_types HO571.out BK572.out (by decide)) (fun _ hk => hk.2) (.string t568)) (fun _ hk => hk.2) (.slice Ao30 t569.length co30)) (fun _ h_ => h_.1))) hb) (Kd.R_base ho0)) (Kd.R_base ho1)) (fun _ h_ => h_.1)); have n4_ := Aside0.mk (Kd.R_lower (Kd.R_new' (Kd.R_new' (Kd.R_new' (Kd.R_new' ho0 (Kd.R_lt (by (with_reducible repeat (first | apply Kd.R_alloc | apply Kd.R_drewN | apply Kd.R_drew)); exact (Kd.R_mono (Kd.R_far (p := ⟨gb572, 1, none⟩) (Kd.R_far (p := ⟨gb572, 0, none⟩) (Kd.R_types HO559.out BK572.out (by decide)) (fun _ hk => hk.2) (.string t568)) (fun _ hk => hk.2) (.slice Ao30 t569.length co30)) (fun _ h_ => h_.1))))) (Kd.R_lt (by (with_reducible repeat (first | apply Kd.R_alloc | apply Kd.R_drewN | apply Kd.R_drew)); exact (Kd.R_mono (Kd.R_far (p := ⟨gb572, 1, none⟩) (Kd.R_far (p := ⟨gb572, 0, none⟩) (Kd.R_types HO562.out BK572.out (by decide)) (fun _ hk => hk.2) (.string t568)) (fun _ hk => hk.2) (.slice Ao30 t569.length co30)) (fun _ h_ => h_.1))))) (Kd.R_lt (by (with_reducible repeat (first | apply Kd.R_alloc | apply Kd.R_drewN | apply Kd.R_drew)); exact (Kd.R_mono (Kd.R_far (p := ⟨gb572, 1, none⟩) (Kd.R_far (p := ⟨gb572, 0, none⟩) (Kd.R_types HO565.out BK572.out (by decide)) (fun _ hk => hk.2) (.string t568)) (fun _ hk => hk.2) (.slice Ao30 t569.length co30)) (fun _ h_ => h_.1))))) (Kd.R_lt (by (with_reducible repeat (first | apply Kd.R_alloc | apply Kd.R_drewN | apply Kd.R_drew)); exact (Kd.R_mono (Kd.R_far (p := ⟨gb572, 1, none⟩) (Kd.R_far (p := ⟨gb572, 0, none⟩) (Kd.R_types HO571.out BK572.out (by decide)) (fun _ hk => hk.2) (.string t568)) (fun _ hk => hk.2) (.slice Ao30 t569.length co30)) (fun _ h_ => h_.1))))) (below_size (by repeat (first | (with_reducible first | exact HB.out | apply below_alloc | apply pw_below_drewN | apply below_drew1 | refine below_set ?_ GE554.out | refine below_set ?_ GE567.out | refine below_set ?_ GE572.out) | exact HB.out)))); have n5_ := Aside0.mk (Kd.R_lower (Kd.R_new' (Kd.R_new' (Kd.R_new' (Kd.R_new' ho1 (Kd.R_lt (by (with_reducible repeat (first | apply Kd.R_alloc | apply Kd.R_drewN | apply Kd.R_drew)); exact (Kd.R_mono (Kd.R_far (p := ⟨gb572, 1, none⟩) (Kd.R_far (p := ⟨gb572, 0, none⟩) (Kd.R_types HO559.out BK572.out (by decide)) (fun _ hk => hk.2) (.string t568)) (fun _ hk => hk.2) (.slice Ao30 t569.length co30)) (fun _ h_ => h_.1))))) (Kd.R_lt (by (with_reducible repeat (first | apply Kd.R_alloc | apply Kd.R_drewN | apply Kd.R_drew)); exact (Kd.R_mono (Kd.R_far (p := ⟨gb572, 1, none⟩) (Kd.R_far (p := ⟨gb572, 0, none⟩) (Kd.R_types HO562.out BK572.out (by decide)) (fun _ hk => hk.2) (.string t568)) (fun _ hk => hk.2) (.slice Ao30 t569.length co30)) (fun _ h_ => h_.1))))) (Kd.R_lt (by (with_reducible repeat (first | apply Kd.R_alloc | apply Kd.R_drewN | apply Kd.R_drew)); exact (Kd.R_mono (Kd.R_far (p := ⟨gb572, 1, none⟩) (Kd.R_far (p := ⟨gb572, 0, none⟩) (Kd.R_types HO565.out BK572.out (by decide)) (fun _ hk => hk.2) (.string t568)) (fun _ hk => hk.2) (.slice Ao30 t569.length co30)) (fun _ h_ => h_.1))))) (Kd.R_lt (by (with_reducible repeat (first | apply Kd.R_alloc | apply Kd.R_drewN | apply Kd.R_drew)); exact (Kd.R_mono (Kd.R_far (p := ⟨gb572, 1, none⟩) (Kd.R_far (p := ⟨gb572, 0, none⟩) (Kd.R_types HO571.out BK572.out (by decide)) (fun _ hk => hk.2) (.string t568)) (fun _ hk => hk.2) (.slice Ao30 t569.length co30)) (fun _ h_ => h_.1))))) (below_size (by repeat (first | (with_reducible first | exact HB.out | apply below_alloc | apply pw_below_drewN | apply below_drew1 | refine below_set ?_ GE554.out | refine below_set ?_ GE567.out | refine below_set ?_ GE572.out) | exact HB.out)))); have n6_ := Aside0.mk (blk_below (g := gb554) (o := .cells #[.string a0_0, .slice A0_1 l0_1.length c0_1] 32 (0, 0)) (by (with_reducible repeat (first | refine blk_drewN ?_ _ | refine blk_drew ?_ | refine blk_alloc ?_ _)); refine blk_far ?_ NB554_572.out _; (with_reducible repeat (first | refine blk_drewN ?_ _ | refine blk_drew ?_ | refine blk_alloc ?_ _)); refine blk_far ?_ NB554_572.out _; (with_reducible repeat (first | refine blk_drewN ?_ _ | refine blk_drew ?_ | refine blk_alloc ?_ _)); exact BK554.out) hb); have n7_ := Aside0.mk (blk_below (g := gb567) (o := .cells #[.slice Ao20 t560.length co20, .slice Ao23 t563.length co23] 51 (0, 0)) (by (with_reducible repeat (first | refine blk_drewN ?_ _ | refine blk_drew ?_ | refine blk_alloc ?_ _)); refine blk_far ?_ NB567_572.out _; (with_reducible repeat (first | refine blk_drewN ?_ _ | refine blk_drew ?_ | refine blk_alloc ?_ _)); refine blk_far ?_ NB567_572.out _; (with_reducible repeat (first | refine blk_drewN ?_ _ | refine blk_drew ?_ | refine blk_alloc ?_ _)); exact BK567.out) hb); have n8_ := Aside0.mk (blk_below (g := gb572) (o := .cells #[.string t568, .slice Ao30 t569.length co30] 35 (0, 0)) (by (with_reducible repeat (first | refine blk_drewN ?_ _ | refine blk_drew ?_ | refine blk_alloc ?_ _)); refine blk_put (cs := #[.string t568, .slice none 0 0]) ?_ 1 _ rfl; (with_reducible repeat (first | refine blk_drewN ?_ _ | refine blk_drew ?_ | refine blk_alloc ?_ _)); refine blk_put (cs := #[.string (⟨#[]⟩ : ByteArray), .slice none 0 0]) ?_ 0 _ rfl; (with_reducible repeat (first | refine blk_drewN ?_ _ | refine blk_drew ?_ | refine blk_alloc ?_ _)); exact BK572.out) hb); have n9_ := Aside0.mk (below_step (by repeat (first | (with_reducible first | exact HB.out | apply below_alloc | apply pw_below_drewN | apply below_drew1 | refine below_set ?_ GE554.out | refine below_set ?_ GE567.out | refine below_set ?_ GE572.out) | exact HB.out)) hb); clear HO559; clear HO562; clear HO565; clear HO571; clear BK554; clear BK567; clear BK572; clear HB; have HO559 := n0_; have HO562 := n1_; have HO565 := n2_; have HO571 := n3_; have HO575 := n4_; have HO578 := n5_; have BK554 := n6_; have BK567 := n7_; have BK572 := n8_; have HB := n9_; clear n0_ n1_ n2_ n3_ n4_ n5_ n6_ n7_ n8_ n9_; (try clear hb); (try clear hb2); (try clear hk); (try clear hi); (try clear ho0); (try clear ho1)) | ((with_reducible refine gate_dst (N := 7) rfl ?_); refine box_event ?hg (N := 7) ?hd (cs := #[.slice none 0 0, .slice none 0 0]) (t := 51) ?hr ?_; (case hd => rfl); (case hg => rfl); (case hr => first | (go_simp; done) | (go_simp; rfl)); intro gb580 hg w32 hbox hb; have n0_ := Aside0.mk (Kd.R_below (by (with_reducible repeat (first | apply Kd.R_alloc | apply Kd.R_drewN | apply Kd.R_drew)); exact HO559.out) hb); have n1_ := Aside0.mk (Kd.R_below (by (with_reducible repeat (first | apply Kd.R_alloc | apply Kd.R_drewN | apply Kd.R_drew)); exact HO562.out) hb); have n2_ := Aside0.mk (Kd.R_below (by (with_reducible repeat (first | apply Kd.R_alloc | apply Kd.R_drewN | apply Kd.R_drew)); exact HO565.out) hb); have n3_ := Aside0.mk (Kd.R_below (by (with_reducible repeat (first | apply Kd.R_alloc | apply Kd.R_drewN | apply Kd.R_drew)); exact HO571.out) hb); have n4_ := Aside0.mk (Kd.R_below (by (with_reducible repeat (first | apply Kd.R_alloc | apply Kd.R_drewN | apply Kd.R_drew)); exact HO575.out) hb); have n5_ := Aside0.mk (Kd.R_below (by (with_reducible repeat (first | apply Kd.R_alloc | apply Kd.R_drewN | apply Kd.R_drew)); exact HO578.out) hb); have n6_ := Aside0.mk (blk_below (g := gb554) (o := .cells #[.string a0_0, .slice A0_1 l0_1.length c0_1] 32 (0, 0)) (by (with_reducible repeat (first | refine blk_drewN ?_ _ | refine blk_drew ?_ | refine blk_alloc ?_ _)); exact BK554.out) hb); have n7_ := Aside0.mk (blk_below (g := gb567) (o := .cells #[.slice Ao20 t560.length co20, .slice Ao23 t563.length co23] 51 (0, 0)) (by (with_reducible repeat (first | refine blk_drewN ?_ _ | refine blk_drew ?_ | refine blk_alloc ?_ _)); exact BK567.out) hb); have n8_ := Aside0.mk (blk_below (g := gb572) (o := .cells #[.string t568, .slice Ao30 t569.length co30] 35 (0, 0)) (by (with_reducible repeat (first | refine blk_drewN ?_ _ | refine blk_drew ?_ | refine blk_alloc ?_ _)); exact BK572.out) hb); have n9_ := Aside0.mk (below_step (by repeat (first | (with_reducible first | exact HB.out | apply below_alloc | apply pw_below_drewN | apply below_drew1 | refine below_set ?_ GE554.out | refine below_set ?_ GE567.out | refine below_set ?_ GE572.out) | exact HB.out)) hb); have n10_ := Aside0.mk (hbox); have n11_ := Aside0.mk ((by rw [hg]; exact (below_size (by repeat (first | (with_reducible first | exact HB.out | apply below_alloc | apply pw_below_drewN | apply below_drew1 | refine below_set ?_ GE554.out | refine below_set ?_ GE567.out | refine below_set ?_ GE572.out) | exact HB.out))) : w.heap.size ≤ gb580)); have n12_ := Aside0.mk ((by rw [hg]; exact (below_size (by repeat (first | (with_reducible first | exact HB.out | apply below_alloc | apply pw_below_drewN | apply below_drew1 | refine below_set ?_ GE554.out | refine below_set ?_ GE567.out | refine below_set ?_ GE572.out) | exact HB.out))) : w.heap.size ≤ gb580)); have n13_ := Aside0.mk ((by rw [hg]; exact Nat.ne_of_lt (blk_lt (g := gb554) (o := .cells #[.string a0_0, .slice A0_1 l0_1.length c0_1] 32 (0, 0)) (by (with_reducible repeat (first | refine blk_drewN ?_ _ | refine blk_drew ?_ | refine blk_alloc ?_ _)); exact BK554.out)) : gb554 ≠ gb580)); have n14_ := Aside0.mk ((by rw [hg]; exact Nat.ne_of_gt (blk_lt (g := gb554) (o := .cells #[.string a0_0, .slice A0_1 l0_1.length c0_1] 32 (0, 0)) (by (with_reducible repeat (first | refine blk_drewN ?_ _ | refine blk_drew ?_ | refine blk_alloc ?_ _)); exact BK554.out)) : gb580 ≠ gb554)); have n15_ := Aside0.mk ((by rw [hg]; exact Nat.ne_of_lt (blk_lt (g := gb567) (o := .cells #[.slice Ao20 t560.length co20, .slice Ao23 t563.length co23] 51 (0, 0)) (by (with_reducible repeat (first | refine blk_drewN ?_ _ | refine blk_drew ?_ | refine blk_alloc ?_ _)); exact BK567.out)) : gb567 ≠ gb580)); have n16_ := Aside0.mk ((by rw [hg]; exact Nat.ne_of_gt (blk_lt (g := gb567) (o := .cells #[.slice Ao20 t560.length co20, .slice Ao23 t563.length co23] 51 (0, 0)) (by (with_reducible repeat (first | refine blk_drewN ?_ _ | refine blk_drew ?_ | refine blk_alloc ?_ _)); exact BK567.out)) : gb580 ≠ gb567)); have n17_ := Aside0.mk ((by rw [hg]; exact Nat.ne_of_lt (blk_lt (g := gb572) (o := .cells #[.string t568, .slice Ao30 t569.length co30] 35 (0, 0)) (by (with_reducible repeat (first | refine blk_drewN ?_ _ | refine blk_drew ?_ | refine blk_alloc ?_ _)); exact BK572.out)) : gb572 ≠ gb580)); have n18_ := Aside0.mk ((by rw [hg]; exact Nat.ne_of_gt (blk_lt (g := gb572) (o := .cells #[.string t568, .slice Ao30 t569.length co30] 35 (0, 0)) (by (with_reducible repeat (first | refine blk_drewN ?_ _ | refine blk_drew ?_ | refine blk_alloc ?_ _)); exact BK572.out)) : gb580 ≠ gb572)); clear HO559; clear HO562; clear HO565; clear HO571; clear HO575; clear HO578; clear BK554; clear BK567; clear BK572; clear HB; have HO559 := n0_; have HO562 := n1_; have HO565 := n2_; have HO571 := n3_; have HO575 := n4_; have HO578 := n5_; have BK554 := n6_; have BK567 := n7_; have BK572 := n8_; have HB := n9_; have BK580 := n10_; have GW580 := n11_; have GE580 := n12_; have NB554_580 := n13_; have NB580_554 := n14_; have NB567_580 := n15_; have NB580_567 := n16_; have NB572_580 := n17_; have NB580_572 := n18_; clear n0_ n1_ n2_ n3_ n4_ n5_ n6_ n7_ n8_ n9_ n10_ n11_ n12_ n13_ n14_ n15_ n16_ n17_ n18_; clear hb hbox hg; obtain ⟨Ao33, co33, eo33⟩ := Kd.R_slice HO575.out; subst eo33; have hnb34 := NB580_554.out; have hnc34 := NB554_580.out; have hnb35 := NB580_567.out; have hnc35 := NB567_580.out; have hnb36 := NB580_572.out; have hnc36 := NB572_580.out; have hcz37_0 : w32.cell? ⟨gb580, 0, none⟩ = some (.slice none 0 0) := (blk_cell BK580.out 0).trans rfl; have hcz37_1 : w32.cell? ⟨gb580, 1, none⟩ = some (.slice none 0 0) := (blk_cell BK580.out 1).trans rfl; have hfz37_0 := blk_frozen BK580.out 0; have hfz37_1 := blk_frozen BK580.out 1; obtain ⟨Ao38, co38, eo38⟩ := Kd.R_slice HO578.out; subst eo38))
  (try simp only [Act.put, List.setIfInBounds_toArray, List.set_cons_zero, List.set_cons_succ])
  go_cut [40] (fun v40 wc => ∃ (kq : Nat) (x40_10 : Bool), v40 = .bool x40_10 ∧ Aside0 (laws_FnExactTreeMap.j0 kq t566 t579 x40_10 a0_0 l0_1 t560 t563 t568 t569 t573 t576 = some r) ∧ Aside0 (kq ≤ k) ∧ Aside0 (Kd.R (Kd.int .i64) 3 wc w.heap.size (fun k_ => some k_ ≠ ((.slice Ao23 t563.length co23) : Value).ownBlock ∧ some k_ ≠ ((.slice Ao30 t569.length co30) : Value).ownBlock ∧ some k_ ≠ ((.slice Ao33 t573.length co33) : Value).ownBlock ∧ some k_ ≠ ((.slice Ao38 t576.length co38) : Value).ownBlock) (.slice Ao20 t560.length co20) t560) ∧ Aside0 (Kd.R (Kd.int .i64) 3 wc w.heap.size (fun k_ => some k_ ≠ ((.slice Ao20 t560.length co20) : Value).ownBlock ∧ some k_ ≠ ((.slice Ao30 t569.length co30) : Value).ownBlock ∧ some k_ ≠ ((.slice Ao33 t573.length co33) : Value).ownBlock ∧ some k_ ≠ ((.slice Ao38 t576.length co38) : Value).ownBlock) (.slice Ao23 t563.length co23) t563) ∧ Aside0 (Kd.R (Kd.int .i64) 3 wc w.heap.size (fun k_ => some k_ ≠ ((.slice Ao20 t560.length co20) : Value).ownBlock ∧ some k_ ≠ ((.slice Ao23 t563.length co23) : Value).ownBlock ∧ some k_ ≠ ((.slice Ao33 t573.length co33) : Value).ownBlock ∧ some k_ ≠ ((.slice Ao38 t576.length co38) : Value).ownBlock) (.slice Ao30 t569.length co30) t569) ∧ Aside0 (Kd.R (Kd.int .i64) 3 wc w.heap.size (fun k_ => some k_ ≠ ((.slice Ao20 t560.length co20) : Value).ownBlock ∧ some k_ ≠ ((.slice Ao23 t563.length co23) : Value).ownBlock ∧ some k_ ≠ ((.slice Ao30 t569.length co30) : Value).ownBlock ∧ some k_ ≠ ((.slice Ao38 t576.length co38) : Value).ownBlock) (.slice Ao33 t573.length co33) t573) ∧ Aside0 (Kd.R (Kd.int .i64) 3 wc w.heap.size (fun k_ => some k_ ≠ ((.slice Ao20 t560.length co20) : Value).ownBlock ∧ some k_ ≠ ((.slice Ao23 t563.length co23) : Value).ownBlock ∧ some k_ ≠ ((.slice Ao30 t569.length co30) : Value).ownBlock ∧ some k_ ≠ ((.slice Ao33 t573.length co33) : Value).ownBlock) (.slice Ao38 t576.length co38) t576) ∧ Aside0 (wc.heap[gb554]? = some (.cells #[.string a0_0, (.slice A0_1 l0_1.length c0_1)] 32 (0, 0))) ∧ Aside0 (wc.heap[gb567]? = some (.cells #[(.slice Ao20 t560.length co20), (.slice Ao23 t563.length co23)] 51 (0, 0))) ∧ Aside0 (wc.heap[gb572]? = some (.cells #[.string t568, (.slice Ao30 t569.length co30)] 35 (0, 0))) ∧ Aside0 (wc.heap[gb580]? = some (.cells #[(.slice Ao33 t573.length co33), (.slice Ao38 t576.length co38)] 51 (0, 0))) ∧ Aside0 (Below w.heap.size w wc))
  case first =>
   have H := HC11.out
   clear HC11
   replace H := Option.bind_eq_some_iff.mp H
   obtain ⟨t581, A390, H⟩ := H
   replace H : (if t581 = true then (laws_FnExactTreeMap.j0 k t566 t579 (t579 != t566) a0_0 l0_1 t560 t563 t568 t569 t573 t576) else (laws_FnExactTreeMap.j0 k t566 t579 true a0_0 l0_1 t560 t563 t568 t569 t573 t576)) = some r := H
   have A39 := Aside0.mk A390
   clear A390
   by_cases c40 : t581 = true
   ·
    subst c40
    have H1 : (laws_FnExactTreeMap.j0 k t566 t579 (t579 != t566) a0_0 l0_1 t560 t563 t568 t569 t573 t576) = some r := by rw [if_pos rfl] at H; exact H
    clear H
    have H := H1
    clear H1
    have H' := Aside0.mk H
    clear H
    have hnb41 := NB580_554.out
    have hnc41 := NB554_580.out
    have hnb42 := NB580_567.out
    have hnc42 := NB567_580.out
    have hnb43 := NB580_572.out
    have hnc43 := NB572_580.out
    have hcz44_0 : w32.cell? ⟨gb580, 0, none⟩ = some (.slice none 0 0) := (blk_cell BK580.out 0).trans rfl
    have hcz44_1 : w32.cell? ⟨gb580, 1, none⟩ = some (.slice none 0 0) := (blk_cell BK580.out 1).trans rfl
    have hfz44_0 := blk_frozen BK580.out 0
    have hfz44_1 := blk_frozen BK580.out 1
    have hnb45 := NB567_554.out
    have hnc45 := NB554_567.out
    have hnb46 := NB567_572.out
    have hnc46 := NB572_567.out
    have hcz47_0 : w32.cell? ⟨gb567, 0, none⟩ = some (.slice Ao20 t560.length co20) := (blk_cell BK567.out 0).trans rfl
    have hcz47_1 : w32.cell? ⟨gb567, 1, none⟩ = some (.slice Ao23 t563.length co23) := (blk_cell BK567.out 1).trans rfl
    have hfz47_0 := blk_frozen BK567.out 0
    have hfz47_1 := blk_frozen BK567.out 1
    go_wp2_with (first | ((with_reducible refine gate_callee (f := 48) rfl ?_); refine goesL_ (some 34) rfl rfl Try.func48 (by kernel_rfl) rfl #[.agg #[.slice Ao33 t573.length co33, .slice Ao38 t576.length co38], .agg #[.slice Ao20 t560.length co20, .slice Ao23 t563.length co23]] rfl (by (try simp only [List.map_toArray, List.map_cons, List.map_nil]); first | done | rfl | (simp only [List.length_drop, List.length_take]; rfl)) ?_; (with_reducible refine (laws_eqMap.calls k _ _ t573 _ _ t576 _ _ t560 _ _ t563 true _ ?side1 ?side2 ?side3 ?side4 ?side5 ?side6 ?side7 ?side8 A39.out).mono ?_); (case side1 => refine (Kd.R_reads' (e := 3) (base := w.heap.size) (ok := fun k_ => ((((some k_ ≠ (.slice Ao38 t576.length co38 : Value).ownBlock ∧ some k_ ≠ (.slice Ao17 t557.length co17 : Value).ownBlock) ∧ some k_ ≠ (.slice Ao20 t560.length co20 : Value).ownBlock) ∧ some k_ ≠ (.slice Ao23 t563.length co23 : Value).ownBlock) ∧ some k_ ≠ (.slice Ao30 t569.length co30 : Value).ownBlock)) (n := t573.length) (c := co33) ?_).2.2; exact (by (with_reducible repeat (first | apply Kd.R_alloc | apply Kd.R_drewN | apply Kd.R_drew)); exact (Kd.R_mono (Kd.R_far (p := ⟨gb580, 1, none⟩) (Kd.R_far (p := ⟨gb580, 0, none⟩) (Kd.R_types HO575.out BK580.out (by decide)) (fun _ hk => hk.2) (.slice Ao33 t573.length co33)) (fun _ hk => hk.2) (.slice Ao38 t576.length co38)) (fun _ h_ => h_.1)))); (case side2 => exact (Kd.R_reads' HO575.out).2.1); (case side3 => refine (Kd.R_reads' (e := 3) (base := w.heap.size) (ok := fun k_ => ((((some k_ ≠ (.slice Ao33 t573.length co33 : Value).ownBlock ∧ some k_ ≠ (.slice Ao17 t557.length co17 : Value).ownBlock) ∧ some k_ ≠ (.slice Ao20 t560.length co20 : Value).ownBlock) ∧ some k_ ≠ (.slice Ao23 t563.length co23 : Value).ownBlock) ∧ some k_ ≠ (.slice Ao30 t569.length co30 : Value).ownBlock)) (n := t576.length) (c := co38) ?_).2.2; exact (by (with_reducible repeat (first | apply Kd.R_alloc | apply Kd.R_drewN | apply Kd.R_drew)); exact (Kd.R_mono (Kd.R_far (p := ⟨gb580, 1, none⟩) (Kd.R_far (p := ⟨gb580, 0, none⟩) (Kd.R_types HO578.out BK580.out (by decide)) (fun _ hk => hk.2) (.slice Ao33 t573.length co33)) (fun _ hk => hk.2) (.slice Ao38 t576.length co38)) (fun _ h_ => h_.1)))); (case side4 => exact (Kd.R_reads' HO578.out).2.1); (case side5 => refine (Kd.R_reads' (e := 3) (base := w.heap.size) (ok := fun k_ => ((((some k_ ≠ (.slice Ao23 t563.length co23 : Value).ownBlock ∧ some k_ ≠ (.slice Ao17 t557.length co17 : Value).ownBlock) ∧ some k_ ≠ (.slice Ao30 t569.length co30 : Value).ownBlock) ∧ some k_ ≠ (.slice Ao33 t573.length co33 : Value).ownBlock) ∧ some k_ ≠ (.slice Ao38 t576.length co38 : Value).ownBlock)) (n := t560.length) (c := co20) ?_).2.2; exact (by (with_reducible repeat (first | apply Kd.R_alloc | apply Kd.R_drewN | apply Kd.R_drew)); exact (Kd.R_mono (Kd.R_far (p := ⟨gb580, 1, none⟩) (Kd.R_far (p := ⟨gb580, 0, none⟩) (Kd.R_types HO562.out BK580.out (by decide)) (fun _ hk => hk.2) (.slice Ao33 t573.length co33)) (fun _ hk => hk.2) (.slice Ao38 t576.length co38)) (fun _ h_ => h_.1)))); (case side6 => exact (Kd.R_reads' HO562.out).2.1); (case side7 => refine (Kd.R_reads' (e := 3) (base := w.heap.size) (ok := fun k_ => ((((some k_ ≠ (.slice Ao20 t560.length co20 : Value).ownBlock ∧ some k_ ≠ (.slice Ao17 t557.length co17 : Value).ownBlock) ∧ some k_ ≠ (.slice Ao30 t569.length co30 : Value).ownBlock) ∧ some k_ ≠ (.slice Ao33 t573.length co33 : Value).ownBlock) ∧ some k_ ≠ (.slice Ao38 t576.length co38 : Value).ownBlock)) (n := t563.length) (c := co23) ?_).2.2; exact (by (with_reducible repeat (first | apply Kd.R_alloc | apply Kd.R_drewN | apply Kd.R_drew)); exact (Kd.R_mono (Kd.R_far (p := ⟨gb580, 1, none⟩) (Kd.R_far (p := ⟨gb580, 0, none⟩) (Kd.R_types HO565.out BK580.out (by decide)) (fun _ hk => hk.2) (.slice Ao33 t573.length co33)) (fun _ hk => hk.2) (.slice Ao38 t576.length co38)) (fun _ h_ => h_.1)))); (case side8 => exact (Kd.R_reads' HO565.out).2.1); rintro e w48 ⟨rfl, hb⟩; refine ⟨_, rfl, ?_⟩; have n0_ := Aside0.mk (Kd.R_below (by (with_reducible repeat (first | apply Kd.R_alloc | apply Kd.R_drewN | apply Kd.R_drew)); exact (Kd.R_mono (Kd.R_far (p := ⟨gb580, 1, none⟩) (Kd.R_far (p := ⟨gb580, 0, none⟩) (Kd.R_types HO559.out BK580.out (by decide)) (fun _ hk => hk.2) (.slice Ao33 t573.length co33)) (fun _ hk => hk.2) (.slice Ao38 t576.length co38)) (fun _ h_ => h_.1))) hb); have n1_ := Aside0.mk (Kd.R_below (by (with_reducible repeat (first | apply Kd.R_alloc | apply Kd.R_drewN | apply Kd.R_drew)); exact (Kd.R_mono (Kd.R_far (p := ⟨gb580, 1, none⟩) (Kd.R_far (p := ⟨gb580, 0, none⟩) (Kd.R_types HO562.out BK580.out (by decide)) (fun _ hk => hk.2) (.slice Ao33 t573.length co33)) (fun _ hk => hk.2) (.slice Ao38 t576.length co38)) (fun _ h_ => h_.1))) hb); have n2_ := Aside0.mk (Kd.R_below (by (with_reducible repeat (first | apply Kd.R_alloc | apply Kd.R_drewN | apply Kd.R_drew)); exact (Kd.R_mono (Kd.R_far (p := ⟨gb580, 1, none⟩) (Kd.R_far (p := ⟨gb580, 0, none⟩) (Kd.R_types HO565.out BK580.out (by decide)) (fun _ hk => hk.2) (.slice Ao33 t573.length co33)) (fun _ hk => hk.2) (.slice Ao38 t576.length co38)) (fun _ h_ => h_.1))) hb); have n3_ := Aside0.mk (Kd.R_below (by (with_reducible repeat (first | apply Kd.R_alloc | apply Kd.R_drewN | apply Kd.R_drew)); exact (Kd.R_mono (Kd.R_far (p := ⟨gb580, 1, none⟩) (Kd.R_far (p := ⟨gb580, 0, none⟩) (Kd.R_types HO571.out BK580.out (by decide)) (fun _ hk => hk.2) (.slice Ao33 t573.length co33)) (fun _ hk => hk.2) (.slice Ao38 t576.length co38)) (fun _ h_ => h_.1))) hb); have n4_ := Aside0.mk (Kd.R_below (by (with_reducible repeat (first | apply Kd.R_alloc | apply Kd.R_drewN | apply Kd.R_drew)); exact (Kd.R_mono (Kd.R_far (p := ⟨gb580, 1, none⟩) (Kd.R_far (p := ⟨gb580, 0, none⟩) (Kd.R_types HO575.out BK580.out (by decide)) (fun _ hk => hk.2) (.slice Ao33 t573.length co33)) (fun _ hk => hk.2) (.slice Ao38 t576.length co38)) (fun _ h_ => h_.1))) hb); have n5_ := Aside0.mk (Kd.R_below (by (with_reducible repeat (first | apply Kd.R_alloc | apply Kd.R_drewN | apply Kd.R_drew)); exact (Kd.R_mono (Kd.R_far (p := ⟨gb580, 1, none⟩) (Kd.R_far (p := ⟨gb580, 0, none⟩) (Kd.R_types HO578.out BK580.out (by decide)) (fun _ hk => hk.2) (.slice Ao33 t573.length co33)) (fun _ hk => hk.2) (.slice Ao38 t576.length co38)) (fun _ h_ => h_.1))) hb); have n6_ := Aside0.mk (blk_below (g := gb554) (o := .cells #[.string a0_0, .slice A0_1 l0_1.length c0_1] 32 (0, 0)) (by (with_reducible repeat (first | refine blk_drewN ?_ _ | refine blk_drew ?_ | refine blk_alloc ?_ _)); refine blk_far ?_ NB554_580.out _; (with_reducible repeat (first | refine blk_drewN ?_ _ | refine blk_drew ?_ | refine blk_alloc ?_ _)); refine blk_far ?_ NB554_580.out _; (with_reducible repeat (first | refine blk_drewN ?_ _ | refine blk_drew ?_ | refine blk_alloc ?_ _)); exact BK554.out) hb); have n7_ := Aside0.mk (blk_below (g := gb567) (o := .cells #[.slice Ao20 t560.length co20, .slice Ao23 t563.length co23] 51 (0, 0)) (by (with_reducible repeat (first | refine blk_drewN ?_ _ | refine blk_drew ?_ | refine blk_alloc ?_ _)); refine blk_far ?_ NB567_580.out _; (with_reducible repeat (first | refine blk_drewN ?_ _ | refine blk_drew ?_ | refine blk_alloc ?_ _)); refine blk_far ?_ NB567_580.out _; (with_reducible repeat (first | refine blk_drewN ?_ _ | refine blk_drew ?_ | refine blk_alloc ?_ _)); exact BK567.out) hb); have n8_ := Aside0.mk (blk_below (g := gb572) (o := .cells #[.string t568, .slice Ao30 t569.length co30] 35 (0, 0)) (by (with_reducible repeat (first | refine blk_drewN ?_ _ | refine blk_drew ?_ | refine blk_alloc ?_ _)); refine blk_far ?_ NB572_580.out _; (with_reducible repeat (first | refine blk_drewN ?_ _ | refine blk_drew ?_ | refine blk_alloc ?_ _)); refine blk_far ?_ NB572_580.out _; (with_reducible repeat (first | refine blk_drewN ?_ _ | refine blk_drew ?_ | refine blk_alloc ?_ _)); exact BK572.out) hb); have n9_ := Aside0.mk (blk_below (g := gb580) (o := .cells #[.slice Ao33 t573.length co33, .slice Ao38 t576.length co38] 51 (0, 0)) (by (with_reducible repeat (first | refine blk_drewN ?_ _ | refine blk_drew ?_ | refine blk_alloc ?_ _)); refine blk_put (cs := #[.slice Ao33 t573.length co33, .slice none 0 0]) ?_ 1 _ rfl; (with_reducible repeat (first | refine blk_drewN ?_ _ | refine blk_drew ?_ | refine blk_alloc ?_ _)); refine blk_put (cs := #[.slice none 0 0, .slice none 0 0]) ?_ 0 _ rfl; (with_reducible repeat (first | refine blk_drewN ?_ _ | refine blk_drew ?_ | refine blk_alloc ?_ _)); exact BK580.out) hb); have n10_ := Aside0.mk (below_step (by repeat (first | (with_reducible first | exact HB.out | apply below_alloc | apply pw_below_drewN | apply below_drew1 | refine below_set ?_ GE554.out | refine below_set ?_ GE567.out | refine below_set ?_ GE572.out | refine below_set ?_ GE580.out) | exact HB.out)) hb); clear HO559; clear HO562; clear HO565; clear HO571; clear HO575; clear HO578; clear BK554; clear BK567; clear BK572; clear BK580; clear HB; have HO559 := n0_; have HO562 := n1_; have HO565 := n2_; have HO571 := n3_; have HO575 := n4_; have HO578 := n5_; have BK554 := n6_; have BK567 := n7_; have BK572 := n8_; have BK580 := n9_; have HB := n10_; clear n0_ n1_ n2_ n3_ n4_ n5_ n6_ n7_ n8_ n9_ n10_; (try clear hb); (try clear hb2); (try clear hk); (try clear hi)))
    go_meet
    case rel => exact ⟨_, ((t579 != t566)), (by first | rfl | (simp; done) | (simp [*]; done)), H', ⟨by first | omega | exact Nat.le_refl _⟩, ⟨by (with_reducible repeat (first | apply Kd.R_alloc | apply Kd.R_drewN | apply Kd.R_drew)); exact Kd.R_mono HO562.out (fun _ hk => ⟨hk.1.1.1.1, ⟨hk.1.1.2, ⟨hk.1.2, hk.2⟩⟩⟩)⟩, ⟨by (with_reducible repeat (first | apply Kd.R_alloc | apply Kd.R_drewN | apply Kd.R_drew)); exact Kd.R_mono HO565.out (fun _ hk => ⟨hk.1.1.1.1, ⟨hk.1.1.2, ⟨hk.1.2, hk.2⟩⟩⟩)⟩, ⟨by (with_reducible repeat (first | apply Kd.R_alloc | apply Kd.R_drewN | apply Kd.R_drew)); exact Kd.R_mono HO571.out (fun _ hk => ⟨hk.1.1.1.2, ⟨hk.1.1.2, ⟨hk.1.2, hk.2⟩⟩⟩)⟩, ⟨by (with_reducible repeat (first | apply Kd.R_alloc | apply Kd.R_drewN | apply Kd.R_drew)); exact Kd.R_mono HO575.out (fun _ hk => ⟨hk.1.1.2, ⟨hk.1.2, ⟨hk.2, hk.1.1.1.1⟩⟩⟩)⟩, ⟨by (with_reducible repeat (first | apply Kd.R_alloc | apply Kd.R_drewN | apply Kd.R_drew)); exact Kd.R_mono HO578.out (fun _ hk => ⟨hk.1.1.2, ⟨hk.1.2, ⟨hk.2, hk.1.1.1.1⟩⟩⟩)⟩, ⟨by (with_reducible repeat (first | refine blk_drewN ?_ _ | refine blk_drew ?_ | refine blk_alloc ?_ _)); exact BK554.out⟩, ⟨by (with_reducible repeat (first | refine blk_drewN ?_ _ | refine blk_drew ?_ | refine blk_alloc ?_ _)); exact BK567.out⟩, ⟨by (with_reducible repeat (first | refine blk_drewN ?_ _ | refine blk_drew ?_ | refine blk_alloc ?_ _)); exact BK572.out⟩, ⟨by (with_reducible repeat (first | refine blk_drewN ?_ _ | refine blk_drew ?_ | refine blk_alloc ?_ _)); exact BK580.out⟩, ⟨by repeat (first | (with_reducible first | exact HB.out | apply below_alloc | apply pw_below_drewN | apply below_drew1 | refine below_set ?_ GE554.out | refine below_set ?_ GE567.out | refine below_set ?_ GE572.out | refine below_set ?_ GE580.out) | exact HB.out)⟩⟩
   ·
    replace c40 := Bool.eq_false_iff.mpr c40
    subst c40
    have H1 : (laws_FnExactTreeMap.j0 k t566 t579 true a0_0 l0_1 t560 t563 t568 t569 t573 t576) = some r := by rw [if_neg (show ¬ (false = true) by decide)] at H; exact H
    clear H
    have H := H1
    clear H1
    have H' := Aside0.mk H
    clear H
    have hnb49 := NB580_554.out
    have hnc49 := NB554_580.out
    have hnb50 := NB580_567.out
    have hnc50 := NB567_580.out
    have hnb51 := NB580_572.out
    have hnc51 := NB572_580.out
    have hcz52_0 : w32.cell? ⟨gb580, 0, none⟩ = some (.slice none 0 0) := (blk_cell BK580.out 0).trans rfl
    have hcz52_1 : w32.cell? ⟨gb580, 1, none⟩ = some (.slice none 0 0) := (blk_cell BK580.out 1).trans rfl
    have hfz52_0 := blk_frozen BK580.out 0
    have hfz52_1 := blk_frozen BK580.out 1
    have hnb53 := NB567_554.out
    have hnc53 := NB554_567.out
    have hnb54 := NB567_572.out
    have hnc54 := NB572_567.out
    have hcz55_0 : w32.cell? ⟨gb567, 0, none⟩ = some (.slice Ao20 t560.length co20) := (blk_cell BK567.out 0).trans rfl
    have hcz55_1 : w32.cell? ⟨gb567, 1, none⟩ = some (.slice Ao23 t563.length co23) := (blk_cell BK567.out 1).trans rfl
    have hfz55_0 := blk_frozen BK567.out 0
    have hfz55_1 := blk_frozen BK567.out 1
    go_wp2_with (first | ((with_reducible refine gate_callee (f := 48) rfl ?_); refine goesL_ (some 34) rfl rfl Try.func48 (by kernel_rfl) rfl #[.agg #[.slice Ao33 t573.length co33, .slice Ao38 t576.length co38], .agg #[.slice Ao20 t560.length co20, .slice Ao23 t563.length co23]] rfl (by (try simp only [List.map_toArray, List.map_cons, List.map_nil]); first | done | rfl | (simp only [List.length_drop, List.length_take]; rfl)) ?_; (with_reducible refine (laws_eqMap.calls k _ _ t573 _ _ t576 _ _ t560 _ _ t563 false _ ?side1 ?side2 ?side3 ?side4 ?side5 ?side6 ?side7 ?side8 A39.out).mono ?_); (case side1 => refine (Kd.R_reads' (e := 3) (base := w.heap.size) (ok := fun k_ => ((((some k_ ≠ (.slice Ao38 t576.length co38 : Value).ownBlock ∧ some k_ ≠ (.slice Ao17 t557.length co17 : Value).ownBlock) ∧ some k_ ≠ (.slice Ao20 t560.length co20 : Value).ownBlock) ∧ some k_ ≠ (.slice Ao23 t563.length co23 : Value).ownBlock) ∧ some k_ ≠ (.slice Ao30 t569.length co30 : Value).ownBlock)) (n := t573.length) (c := co33) ?_).2.2; exact (by (with_reducible repeat (first | apply Kd.R_alloc | apply Kd.R_drewN | apply Kd.R_drew)); exact (Kd.R_mono (Kd.R_far (p := ⟨gb580, 1, none⟩) (Kd.R_far (p := ⟨gb580, 0, none⟩) (Kd.R_types HO575.out BK580.out (by decide)) (fun _ hk => hk.2) (.slice Ao33 t573.length co33)) (fun _ hk => hk.2) (.slice Ao38 t576.length co38)) (fun _ h_ => h_.1)))); (case side2 => exact (Kd.R_reads' HO575.out).2.1); (case side3 => refine (Kd.R_reads' (e := 3) (base := w.heap.size) (ok := fun k_ => ((((some k_ ≠ (.slice Ao33 t573.length co33 : Value).ownBlock ∧ some k_ ≠ (.slice Ao17 t557.length co17 : Value).ownBlock) ∧ some k_ ≠ (.slice Ao20 t560.length co20 : Value).ownBlock) ∧ some k_ ≠ (.slice Ao23 t563.length co23 : Value).ownBlock) ∧ some k_ ≠ (.slice Ao30 t569.length co30 : Value).ownBlock)) (n := t576.length) (c := co38) ?_).2.2; exact (by (with_reducible repeat (first | apply Kd.R_alloc | apply Kd.R_drewN | apply Kd.R_drew)); exact (Kd.R_mono (Kd.R_far (p := ⟨gb580, 1, none⟩) (Kd.R_far (p := ⟨gb580, 0, none⟩) (Kd.R_types HO578.out BK580.out (by decide)) (fun _ hk => hk.2) (.slice Ao33 t573.length co33)) (fun _ hk => hk.2) (.slice Ao38 t576.length co38)) (fun _ h_ => h_.1)))); (case side4 => exact (Kd.R_reads' HO578.out).2.1); (case side5 => refine (Kd.R_reads' (e := 3) (base := w.heap.size) (ok := fun k_ => ((((some k_ ≠ (.slice Ao23 t563.length co23 : Value).ownBlock ∧ some k_ ≠ (.slice Ao17 t557.length co17 : Value).ownBlock) ∧ some k_ ≠ (.slice Ao30 t569.length co30 : Value).ownBlock) ∧ some k_ ≠ (.slice Ao33 t573.length co33 : Value).ownBlock) ∧ some k_ ≠ (.slice Ao38 t576.length co38 : Value).ownBlock)) (n := t560.length) (c := co20) ?_).2.2; exact (by (with_reducible repeat (first | apply Kd.R_alloc | apply Kd.R_drewN | apply Kd.R_drew)); exact (Kd.R_mono (Kd.R_far (p := ⟨gb580, 1, none⟩) (Kd.R_far (p := ⟨gb580, 0, none⟩) (Kd.R_types HO562.out BK580.out (by decide)) (fun _ hk => hk.2) (.slice Ao33 t573.length co33)) (fun _ hk => hk.2) (.slice Ao38 t576.length co38)) (fun _ h_ => h_.1)))); (case side6 => exact (Kd.R_reads' HO562.out).2.1); (case side7 => refine (Kd.R_reads' (e := 3) (base := w.heap.size) (ok := fun k_ => ((((some k_ ≠ (.slice Ao20 t560.length co20 : Value).ownBlock ∧ some k_ ≠ (.slice Ao17 t557.length co17 : Value).ownBlock) ∧ some k_ ≠ (.slice Ao30 t569.length co30 : Value).ownBlock) ∧ some k_ ≠ (.slice Ao33 t573.length co33 : Value).ownBlock) ∧ some k_ ≠ (.slice Ao38 t576.length co38 : Value).ownBlock)) (n := t563.length) (c := co23) ?_).2.2; exact (by (with_reducible repeat (first | apply Kd.R_alloc | apply Kd.R_drewN | apply Kd.R_drew)); exact (Kd.R_mono (Kd.R_far (p := ⟨gb580, 1, none⟩) (Kd.R_far (p := ⟨gb580, 0, none⟩) (Kd.R_types HO565.out BK580.out (by decide)) (fun _ hk => hk.2) (.slice Ao33 t573.length co33)) (fun _ hk => hk.2) (.slice Ao38 t576.length co38)) (fun _ h_ => h_.1)))); (case side8 => exact (Kd.R_reads' HO565.out).2.1); rintro e w56 ⟨rfl, hb⟩; refine ⟨_, rfl, ?_⟩; have n0_ := Aside0.mk (Kd.R_below (by (with_reducible repeat (first | apply Kd.R_alloc | apply Kd.R_drewN | apply Kd.R_drew)); exact (Kd.R_mono (Kd.R_far (p := ⟨gb580, 1, none⟩) (Kd.R_far (p := ⟨gb580, 0, none⟩) (Kd.R_types HO559.out BK580.out (by decide)) (fun _ hk => hk.2) (.slice Ao33 t573.length co33)) (fun _ hk => hk.2) (.slice Ao38 t576.length co38)) (fun _ h_ => h_.1))) hb); have n1_ := Aside0.mk (Kd.R_below (by (with_reducible repeat (first | apply Kd.R_alloc | apply Kd.R_drewN | apply Kd.R_drew)); exact (Kd.R_mono (Kd.R_far (p := ⟨gb580, 1, none⟩) (Kd.R_far (p := ⟨gb580, 0, none⟩) (Kd.R_types HO562.out BK580.out (by decide)) (fun _ hk => hk.2) (.slice Ao33 t573.length co33)) (fun _ hk => hk.2) (.slice Ao38 t576.length co38)) (fun _ h_ => h_.1))) hb); have n2_ := Aside0.mk (Kd.R_below (by (with_reducible repeat (first | apply Kd.R_alloc | apply Kd.R_drewN | apply Kd.R_drew)); exact (Kd.R_mono (Kd.R_far (p := ⟨gb580, 1, none⟩) (Kd.R_far (p := ⟨gb580, 0, none⟩) (Kd.R_types HO565.out BK580.out (by decide)) (fun _ hk => hk.2) (.slice Ao33 t573.length co33)) (fun _ hk => hk.2) (.slice Ao38 t576.length co38)) (fun _ h_ => h_.1))) hb); have n3_ := Aside0.mk (Kd.R_below (by (with_reducible repeat (first | apply Kd.R_alloc | apply Kd.R_drewN | apply Kd.R_drew)); exact (Kd.R_mono (Kd.R_far (p := ⟨gb580, 1, none⟩) (Kd.R_far (p := ⟨gb580, 0, none⟩) (Kd.R_types HO571.out BK580.out (by decide)) (fun _ hk => hk.2) (.slice Ao33 t573.length co33)) (fun _ hk => hk.2) (.slice Ao38 t576.length co38)) (fun _ h_ => h_.1))) hb); have n4_ := Aside0.mk (Kd.R_below (by (with_reducible repeat (first | apply Kd.R_alloc | apply Kd.R_drewN | apply Kd.R_drew)); exact (Kd.R_mono (Kd.R_far (p := ⟨gb580, 1, none⟩) (Kd.R_far (p := ⟨gb580, 0, none⟩) (Kd.R_types HO575.out BK580.out (by decide)) (fun _ hk => hk.2) (.slice Ao33 t573.length co33)) (fun _ hk => hk.2) (.slice Ao38 t576.length co38)) (fun _ h_ => h_.1))) hb); have n5_ := Aside0.mk (Kd.R_below (by (with_reducible repeat (first | apply Kd.R_alloc | apply Kd.R_drewN | apply Kd.R_drew)); exact (Kd.R_mono (Kd.R_far (p := ⟨gb580, 1, none⟩) (Kd.R_far (p := ⟨gb580, 0, none⟩) (Kd.R_types HO578.out BK580.out (by decide)) (fun _ hk => hk.2) (.slice Ao33 t573.length co33)) (fun _ hk => hk.2) (.slice Ao38 t576.length co38)) (fun _ h_ => h_.1))) hb); have n6_ := Aside0.mk (blk_below (g := gb554) (o := .cells #[.string a0_0, .slice A0_1 l0_1.length c0_1] 32 (0, 0)) (by (with_reducible repeat (first | refine blk_drewN ?_ _ | refine blk_drew ?_ | refine blk_alloc ?_ _)); refine blk_far ?_ NB554_580.out _; (with_reducible repeat (first | refine blk_drewN ?_ _ | refine blk_drew ?_ | refine blk_alloc ?_ _)); refine blk_far ?_ NB554_580.out _; (with_reducible repeat (first | refine blk_drewN ?_ _ | refine blk_drew ?_ | refine blk_alloc ?_ _)); exact BK554.out) hb); have n7_ := Aside0.mk (blk_below (g := gb567) (o := .cells #[.slice Ao20 t560.length co20, .slice Ao23 t563.length co23] 51 (0, 0)) (by (with_reducible repeat (first | refine blk_drewN ?_ _ | refine blk_drew ?_ | refine blk_alloc ?_ _)); refine blk_far ?_ NB567_580.out _; (with_reducible repeat (first | refine blk_drewN ?_ _ | refine blk_drew ?_ | refine blk_alloc ?_ _)); refine blk_far ?_ NB567_580.out _; (with_reducible repeat (first | refine blk_drewN ?_ _ | refine blk_drew ?_ | refine blk_alloc ?_ _)); exact BK567.out) hb); have n8_ := Aside0.mk (blk_below (g := gb572) (o := .cells #[.string t568, .slice Ao30 t569.length co30] 35 (0, 0)) (by (with_reducible repeat (first | refine blk_drewN ?_ _ | refine blk_drew ?_ | refine blk_alloc ?_ _)); refine blk_far ?_ NB572_580.out _; (with_reducible repeat (first | refine blk_drewN ?_ _ | refine blk_drew ?_ | refine blk_alloc ?_ _)); refine blk_far ?_ NB572_580.out _; (with_reducible repeat (first | refine blk_drewN ?_ _ | refine blk_drew ?_ | refine blk_alloc ?_ _)); exact BK572.out) hb); have n9_ := Aside0.mk (blk_below (g := gb580) (o := .cells #[.slice Ao33 t573.length co33, .slice Ao38 t576.length co38] 51 (0, 0)) (by (with_reducible repeat (first | refine blk_drewN ?_ _ | refine blk_drew ?_ | refine blk_alloc ?_ _)); refine blk_put (cs := #[.slice Ao33 t573.length co33, .slice none 0 0]) ?_ 1 _ rfl; (with_reducible repeat (first | refine blk_drewN ?_ _ | refine blk_drew ?_ | refine blk_alloc ?_ _)); refine blk_put (cs := #[.slice none 0 0, .slice none 0 0]) ?_ 0 _ rfl; (with_reducible repeat (first | refine blk_drewN ?_ _ | refine blk_drew ?_ | refine blk_alloc ?_ _)); exact BK580.out) hb); have n10_ := Aside0.mk (below_step (by repeat (first | (with_reducible first | exact HB.out | apply below_alloc | apply pw_below_drewN | apply below_drew1 | refine below_set ?_ GE554.out | refine below_set ?_ GE567.out | refine below_set ?_ GE572.out | refine below_set ?_ GE580.out) | exact HB.out)) hb); clear HO559; clear HO562; clear HO565; clear HO571; clear HO575; clear HO578; clear BK554; clear BK567; clear BK572; clear BK580; clear HB; have HO559 := n0_; have HO562 := n1_; have HO565 := n2_; have HO571 := n3_; have HO575 := n4_; have HO578 := n5_; have BK554 := n6_; have BK567 := n7_; have BK572 := n8_; have BK580 := n9_; have HB := n10_; clear n0_ n1_ n2_ n3_ n4_ n5_ n6_ n7_ n8_ n9_ n10_; (try clear hb); (try clear hb2); (try clear hk); (try clear hi)))
    go_meet
    case rel => exact ⟨_, (true), (by first | rfl | (simp; done) | (simp [*]; done)), H', ⟨by first | omega | exact Nat.le_refl _⟩, ⟨by (with_reducible repeat (first | apply Kd.R_alloc | apply Kd.R_drewN | apply Kd.R_drew)); exact Kd.R_mono HO562.out (fun _ hk => ⟨hk.1.1.1.1, ⟨hk.1.1.2, ⟨hk.1.2, hk.2⟩⟩⟩)⟩, ⟨by (with_reducible repeat (first | apply Kd.R_alloc | apply Kd.R_drewN | apply Kd.R_drew)); exact Kd.R_mono HO565.out (fun _ hk => ⟨hk.1.1.1.1, ⟨hk.1.1.2, ⟨hk.1.2, hk.2⟩⟩⟩)⟩, ⟨by (with_reducible repeat (first | apply Kd.R_alloc | apply Kd.R_drewN | apply Kd.R_drew)); exact Kd.R_mono HO571.out (fun _ hk => ⟨hk.1.1.1.2, ⟨hk.1.1.2, ⟨hk.1.2, hk.2⟩⟩⟩)⟩, ⟨by (with_reducible repeat (first | apply Kd.R_alloc | apply Kd.R_drewN | apply Kd.R_drew)); exact Kd.R_mono HO575.out (fun _ hk => ⟨hk.1.1.2, ⟨hk.1.2, ⟨hk.2, hk.1.1.1.1⟩⟩⟩)⟩, ⟨by (with_reducible repeat (first | apply Kd.R_alloc | apply Kd.R_drewN | apply Kd.R_drew)); exact Kd.R_mono HO578.out (fun _ hk => ⟨hk.1.1.2, ⟨hk.1.2, ⟨hk.2, hk.1.1.1.1⟩⟩⟩)⟩, ⟨by (with_reducible repeat (first | refine blk_drewN ?_ _ | refine blk_drew ?_ | refine blk_alloc ?_ _)); exact BK554.out⟩, ⟨by (with_reducible repeat (first | refine blk_drewN ?_ _ | refine blk_drew ?_ | refine blk_alloc ?_ _)); exact BK567.out⟩, ⟨by (with_reducible repeat (first | refine blk_drewN ?_ _ | refine blk_drew ?_ | refine blk_alloc ?_ _)); exact BK572.out⟩, ⟨by (with_reducible repeat (first | refine blk_drewN ?_ _ | refine blk_drew ?_ | refine blk_alloc ?_ _)); exact BK580.out⟩, ⟨by repeat (first | (with_reducible first | exact HB.out | apply below_alloc | apply pw_below_drewN | apply below_drew1 | refine below_set ?_ GE554.out | refine below_set ?_ GE567.out | refine below_set ?_ GE572.out | refine below_set ?_ GE580.out) | exact HB.out)⟩⟩
  case rest =>
   clear HC11
   try clear c1
   try clear c2
   try clear p2
   try clear c3
   try clear c3b0
   try clear c4
   try clear c5
   try clear c14
   try clear c21
   try clear c25
   try clear c27
   try clear c28
   try clear c34
   try clear c35
   try clear c36
   try clear c40
   try clear c41
   try clear c42
   try clear c43
   try clear c45
   try clear c46
   try clear c47
   try clear c48
   try clear c49
   try clear c50
   try clear c51
   try clear c53
   try clear c54
   try clear hcz13_0
   try clear hcz13_1
   try clear hcz15_0
   try clear hcz15_1
   try clear hcz22_0
   try clear hcz22_1
   try clear hcz24_0
   try clear hcz24_1
   try clear hcz29_0
   try clear hcz29_1
   try clear hcz37_0
   try clear hcz37_1
   try clear hcz44_0
   try clear hcz44_1
   try clear hcz47_0
   try clear hcz47_1
   try clear hcz52_0
   try clear hcz52_1
   try clear hcz55_0
   try clear hcz55_1
   try clear hcz5_0
   try clear hcz5_1
   try clear hfz13_0
   try clear hfz13_1
   try clear hfz15_0
   try clear hfz15_1
   try clear hfz22_0
   try clear hfz22_1
   try clear hfz24_0
   try clear hfz24_1
   try clear hfz29_0
   try clear hfz29_1
   try clear hfz37_0
   try clear hfz37_1
   try clear hfz44_0
   try clear hfz44_1
   try clear hfz47_0
   try clear hfz47_1
   try clear hfz52_0
   try clear hfz52_1
   try clear hfz55_0
   try clear hfz55_1
   try clear hfz5_0
   try clear hfz5_1
   obtain ⟨kq, x40_10, rfl, HA, HJ10, HO_568000, HO_568001, HO_573001, HO_581000, HO_581001, BK554, BK567, BK572, BK580, HB⟩ := hcut
   cases kq with
   | zero => exact absurd HA.out (by simp [laws_FnExactTreeMap.j0])
   | succ kj10 =>
    have H := HA.out
    clear HA
    simp only [laws_FnExactTreeMap.j0] at H
    by_cases c57 : x40_10 = true
    ·
     subst c57
     have H1 : (some false) = some r := by rw [if_pos rfl] at H; exact H
     clear H
     have H := H1
     clear H1
     obtain rfl := Option.some.inj H
     go_wp2
     go_ret
     exact ⟨by first | rfl | (simp [errW_none, errW_some] <;> rfl) | (simp [*, errW_none, errW_some] <;> rfl), by repeat (first | (with_reducible first | exact HB.out | apply below_alloc | apply pw_below_drewN | apply below_drew1 | refine below_set ?_ GE554.out | refine below_set ?_ GE567.out | refine below_set ?_ GE572.out | refine below_set ?_ GE580.out) | exact HB.out)⟩
    ·
     replace c57 := Bool.eq_false_iff.mpr c57
     subst c57
     have H1 : ((laws_toTree.f kj10 a0_0 l0_1).bind fun bt582 => ((laws_eqTree.f kj10 t568 t569 bt582.1 bt582.2).bind fun t586 => (if t586 = true then ((laws_markTree.f kj10 t568 t569 1).bind fun bt587 => (if bt587.1 < 0 then (laws_FnExactTreeMap.j1 kj10 t566 true a0_0 l0_1 t560 t563 t573 t576) else ((laws_eqMap.f kj10 t573 t576 t560 t563).bind fun t589 => (if t589 = true then (laws_FnExactTreeMap.j1 kj10 t566 (t579 != t566) a0_0 l0_1 t560 t563 t573 t576) else (laws_FnExactTreeMap.j1 kj10 t566 true a0_0 l0_1 t560 t563 t573 t576))))) else (some false)))) = some r := by rw [if_neg (show ¬ (false = true) by decide)] at H; exact H
     clear H
     have H := H1
     clear H1
     replace H := Option.bind_eq_some_iff.mp H
     obtain ⟨⟨t582, t583⟩, A580, H⟩ := H
     replace H : ((laws_eqTree.f kj10 t568 t569 t582 t583).bind fun t586 => (if t586 = true then ((laws_markTree.f kj10 t568 t569 1).bind fun bt587 => (if bt587.1 < 0 then (laws_FnExactTreeMap.j1 kj10 t566 true a0_0 l0_1 t560 t563 t573 t576) else ((laws_eqMap.f kj10 t573 t576 t560 t563).bind fun t589 => (if t589 = true then (laws_FnExactTreeMap.j1 kj10 t566 (t579 != t566) a0_0 l0_1 t560 t563 t573 t576) else (laws_FnExactTreeMap.j1 kj10 t566 true a0_0 l0_1 t560 t563 t573 t576))))) else (some false))) = some r := H
     have A58 := Aside0.mk A580
     clear A580
     replace H := Option.bind_eq_some_iff.mp H
     obtain ⟨t586, A590, H⟩ := H
     replace H : (if t586 = true then ((laws_markTree.f kj10 t568 t569 1).bind fun bt587 => (if bt587.1 < 0 then (laws_FnExactTreeMap.j1 kj10 t566 true a0_0 l0_1 t560 t563 t573 t576) else ((laws_eqMap.f kj10 t573 t576 t560 t563).bind fun t589 => (if t589 = true then (laws_FnExactTreeMap.j1 kj10 t566 (t579 != t566) a0_0 l0_1 t560 t563 t573 t576) else (laws_FnExactTreeMap.j1 kj10 t566 true a0_0 l0_1 t560 t563 t573 t576))))) else (some false)) = some r := H
     have A59 := Aside0.mk A590
     clear A590
     by_cases c60 : t586 = true
     ·
      subst c60
      have H1 : ((laws_markTree.f kj10 t568 t569 1).bind fun bt587 => (if bt587.1 < 0 then (laws_FnExactTreeMap.j1 kj10 t566 true a0_0 l0_1 t560 t563 t573 t576) else ((laws_eqMap.f kj10 t573 t576 t560 t563).bind fun t589 => (if t589 = true then (laws_FnExactTreeMap.j1 kj10 t566 (t579 != t566) a0_0 l0_1 t560 t563 t573 t576) else (laws_FnExactTreeMap.j1 kj10 t566 true a0_0 l0_1 t560 t563 t573 t576))))) = some r := by rw [if_pos rfl] at H; exact H
      clear H
      have H := H1
      clear H1
      replace H := Option.bind_eq_some_iff.mp H
      obtain ⟨⟨t587, t588⟩, A610, H⟩ := H
      replace H : (if t587 < 0 then (laws_FnExactTreeMap.j1 kj10 t566 true a0_0 l0_1 t560 t563 t573 t576) else ((laws_eqMap.f kj10 t573 t576 t560 t563).bind fun t589 => (if t589 = true then (laws_FnExactTreeMap.j1 kj10 t566 (t579 != t566) a0_0 l0_1 t560 t563 t573 t576) else (laws_FnExactTreeMap.j1 kj10 t566 true a0_0 l0_1 t560 t563 t573 t576)))) = some r := H
      have A61 := Aside0.mk A610
      clear A610
      have HC62 := Aside0.mk H
      clear H
      try go_wp2
      have n0_ := Aside0.mk (Kd.R_drew HO_568000.out)
      have n1_ := Aside0.mk (Kd.R_drew HO_568001.out)
      have n2_ := Aside0.mk (Kd.R_drew HO_573001.out)
      have n3_ := Aside0.mk (Kd.R_drew HO_581000.out)
      have n4_ := Aside0.mk (Kd.R_drew HO_581001.out)
      have n5_ := Aside0.mk (blk_drew BK554.out)
      have n6_ := Aside0.mk (blk_drew BK567.out)
      have n7_ := Aside0.mk (blk_drew BK572.out)
      have n8_ := Aside0.mk (blk_drew BK580.out)
      have n9_ := Aside0.mk (below_drew1 HB.out)
      clear HO_568000
      clear HO_568001
      clear HO_573001
      clear HO_581000
      clear HO_581001
      clear BK554
      clear BK567
      clear BK572
      clear BK580
      clear HB
      have HO_568000 := n0_
      have HO_568001 := n1_
      have HO_573001 := n2_
      have HO_581000 := n3_
      have HO_581001 := n4_
      have BK554 := n5_
      have BK567 := n6_
      have BK572 := n7_
      have BK580 := n8_
      have HB := n9_
      clear n0_ n1_ n2_ n3_ n4_ n5_ n6_ n7_ n8_ n9_
      refine start_ (n := 5) (S := fun w' => w'.cell? ⟨gb572, 0, none⟩ = some (.string t568) ∧ w'.cell? ⟨gb572, 1, none⟩ = some (.slice Ao30 t569.length co30) ∧ w'.cell? ⟨gb554, 0, none⟩ = some (.string a0_0) ∧ w'.cell? ⟨gb554, 1, none⟩ = some (.slice A0_1 l0_1.length c0_1)) (ds := []) #[false, false, false, false, false] (by kernel_rfl) rfl rfl ⟨(blk_cell BK572.out 0).trans rfl, (blk_cell BK572.out 1).trans rfl, (blk_cell BK554.out 0).trans rfl, (blk_cell BK554.out 1).trans rfl⟩ (fun hHeld => ?_)
      generalize wc.drew = w63 at HO_568000 HO_568001 HO_573001 HO_581000 HO_581001 BK554 BK567 BK572 BK580 HB hHeld ⊢
      refine take_ (i := 0) (N := some 41) (v := ?_) (a' := ?_) #[true, false, false, false, false] rfl rfl (by kernel_rfl) (fun _ _ _ h => h) (Or.inl ⟨by rfl, ?_⟩) hHeld ?_ ?_
      rotate_left
      ·
       rintro w' ⟨s0, s1, s2, s3⟩
       go_simp
       with_reducible rfl
      rotate_left
      ·
       simp only [Act.put, List.setIfInBounds_toArray, List.set_cons_zero, List.set_cons_succ, i64_w, i32_w]
       rfl
      refine take_ (i := 1) (N := some 42) (v := ?_) (a' := ?_) #[true, true, false, false, false] rfl rfl (by kernel_rfl) (fun _ _ _ h => h) (Or.inl ⟨by rfl, ?_⟩) hHeld ?_ ?_
      rotate_left
      ·
       rintro w' ⟨s0, s1, s2, s3⟩
       go_simp
       with_reducible rfl
      rotate_left
      ·
       simp only [Act.put, List.setIfInBounds_toArray, List.set_cons_zero, List.set_cons_succ, i64_w, i32_w]
       rfl
      refine one_ (i := 2) (N := some 43) #[true, true, true, false, false] rfl rfl (by kernel_rfl) (by decide) (fun K hK => ?_)
      refine goes_ Try.func27 (by kernel_rfl) rfl #[.agg #[.string a0_0, .slice A0_1 l0_1.length c0_1]] (by rfl) rfl rfl (by (try simp only [List.map_toArray, List.map_cons, List.map_nil]); first | done | rfl | (simp only [List.length_drop, List.length_take]; rfl)) ?_
      with_reducible refine (laws_toTree.calls kj10 a0_0 _ _ l0_1 t582 t583 _ ?side1 ?side2 A58.out).mono ?_
      (case side1 => repeat (first | exact (Kd.C_below HR0_1.out HB.out) | (with_reducible refine Kd.C_alloc ?_ _) | (with_reducible refine Kd.C_drewN ?_ _) | (with_reducible refine Kd.C_drew ?_)))
      (case side2 => exact HC0_1.out)
      rintro e w64 ⟨v584, rfl, ho0, hb⟩
      refine ⟨_, rfl, ?_⟩
      have n0_ := Aside0.mk (Kd.R_elder' (by (with_reducible repeat (first | apply Kd.R_alloc | apply Kd.R_drewN | apply Kd.R_drew)); exact HO_568000.out) (Kd.R_base ho0) hb)
      have n1_ := Aside0.mk (Kd.R_elder' (by (with_reducible repeat (first | apply Kd.R_alloc | apply Kd.R_drewN | apply Kd.R_drew)); exact HO_568001.out) (Kd.R_base ho0) hb)
      have n2_ := Aside0.mk (Kd.R_elder' (by (with_reducible repeat (first | apply Kd.R_alloc | apply Kd.R_drewN | apply Kd.R_drew)); exact HO_573001.out) (Kd.R_base ho0) hb)
      have n3_ := Aside0.mk (Kd.R_elder' (by (with_reducible repeat (first | apply Kd.R_alloc | apply Kd.R_drewN | apply Kd.R_drew)); exact HO_581000.out) (Kd.R_base ho0) hb)
      have n4_ := Aside0.mk (Kd.R_elder' (by (with_reducible repeat (first | apply Kd.R_alloc | apply Kd.R_drewN | apply Kd.R_drew)); exact HO_581001.out) (Kd.R_base ho0) hb)
      have n5_ := Aside0.mk (Kd.R_lower (Kd.R_new' (Kd.R_new' (Kd.R_new' (Kd.R_new' (Kd.R_new' ho0 (Kd.R_lt (by (with_reducible repeat (first | apply Kd.R_alloc | apply Kd.R_drewN | apply Kd.R_drew)); exact HO_568000.out))) (Kd.R_lt (by (with_reducible repeat (first | apply Kd.R_alloc | apply Kd.R_drewN | apply Kd.R_drew)); exact HO_568001.out))) (Kd.R_lt (by (with_reducible repeat (first | apply Kd.R_alloc | apply Kd.R_drewN | apply Kd.R_drew)); exact HO_573001.out))) (Kd.R_lt (by (with_reducible repeat (first | apply Kd.R_alloc | apply Kd.R_drewN | apply Kd.R_drew)); exact HO_581000.out))) (Kd.R_lt (by (with_reducible repeat (first | apply Kd.R_alloc | apply Kd.R_drewN | apply Kd.R_drew)); exact HO_581001.out))) (below_size (by repeat (first | (with_reducible first | exact HB.out | apply below_alloc | apply pw_below_drewN | apply below_drew1 | refine below_set ?_ GE554.out | refine below_set ?_ GE567.out | refine below_set ?_ GE572.out | refine below_set ?_ GE580.out) | exact HB.out))))
      have n6_ := Aside0.mk (blk_below (g := gb554) (o := .cells #[.string a0_0, .slice A0_1 l0_1.length c0_1] 32 (0, 0)) (by (with_reducible repeat (first | refine blk_drewN ?_ _ | refine blk_drew ?_ | refine blk_alloc ?_ _)); exact BK554.out) hb)
      have n7_ := Aside0.mk (blk_below (g := gb567) (o := .cells #[.slice Ao20 t560.length co20, .slice Ao23 t563.length co23] 51 (0, 0)) (by (with_reducible repeat (first | refine blk_drewN ?_ _ | refine blk_drew ?_ | refine blk_alloc ?_ _)); exact BK567.out) hb)
      have n8_ := Aside0.mk (blk_below (g := gb572) (o := .cells #[.string t568, .slice Ao30 t569.length co30] 35 (0, 0)) (by (with_reducible repeat (first | refine blk_drewN ?_ _ | refine blk_drew ?_ | refine blk_alloc ?_ _)); exact BK572.out) hb)
      have n9_ := Aside0.mk (blk_below (g := gb580) (o := .cells #[.slice Ao33 t573.length co33, .slice Ao38 t576.length co38] 51 (0, 0)) (by (with_reducible repeat (first | refine blk_drewN ?_ _ | refine blk_drew ?_ | refine blk_alloc ?_ _)); exact BK580.out) hb)
      have n10_ := Aside0.mk (below_step (by repeat (first | (with_reducible first | exact HB.out | apply below_alloc | apply pw_below_drewN | apply below_drew1 | refine below_set ?_ GE554.out | refine below_set ?_ GE567.out | refine below_set ?_ GE572.out | refine below_set ?_ GE580.out) | exact HB.out)) hb)
      clear HO_568000
      clear HO_568001
      clear HO_573001
      clear HO_581000
      clear HO_581001
      clear BK554
      clear BK567
      clear BK572
      clear BK580
      clear HB
      have HO_568000 := n0_
      have HO_568001 := n1_
      have HO_573001 := n2_
      have HO_581000 := n3_
      have HO_581001 := n4_
      have HO585 := n5_
      have BK554 := n6_
      have BK567 := n7_
      have BK572 := n8_
      have BK580 := n9_
      have HB := n10_
      clear n0_ n1_ n2_ n3_ n4_ n5_ n6_ n7_ n8_ n9_ n10_
      (try clear hb)
      (try clear hb2)
      (try clear hk)
      (try clear hi)
      (try clear ho0)
      obtain ⟨Ao65, co65, eo65⟩ := Kd.R_slice HO585.out
      (first | subst eo65 | (injection eo65 with f1_ f2_ f3_; have f4_ := f1_.symm; have f5_ := f3_.symm; clear f1_ f2_ f3_; subst f4_; subst f5_))
      refine hK.out _ _ ⟨(blk_cell BK572.out 0).trans rfl, (blk_cell BK572.out 1).trans rfl, (blk_cell BK554.out 0).trans rfl, (blk_cell BK554.out 1).trans rfl⟩ (fun hHeld => ?_)
      clear hK K
      refine norm_ (a' := ?_) ?_ ?_
      rotate_left
      ·
       show Act.put _ (some 43) _ = _
       simp only [Act.put, List.setIfInBounds_toArray, List.set_cons_zero, List.set_cons_succ, i64_w, i32_w]
       rfl
      refine one_ (i := 3) (N := some 44) #[true, true, true, true, false] rfl rfl (by kernel_rfl) (by decide) (fun K hK => ?_)
      refine goes_ Try.func29 (by kernel_rfl) rfl #[.agg #[.string t568, .slice Ao30 t569.length co30], .agg #[.string t582, .slice Ao65 t583.length co65]] (by rfl) rfl rfl (by (try simp only [List.map_toArray, List.map_cons, List.map_nil]); first | done | rfl | (simp only [List.length_drop, List.length_take]; rfl)) ?_
      with_reducible refine (laws_eqTree.calls kj10 t568 _ _ t569 t582 _ _ t583 true _ ?side1 ?side2 ?side3 ?side4 A59.out).mono ?_
      (case side1 => repeat (first | exact (Kd.R_reads' HO_573001.out).2.2 | (with_reducible refine Kd.C_alloc ?_ _) | (with_reducible refine Kd.C_drewN ?_ _) | (with_reducible refine Kd.C_drew ?_)))
      (case side2 => exact (Kd.R_reads' HO_573001.out).2.1)
      (case side3 => repeat (first | exact (Kd.R_reads' HO585.out).2.2 | (with_reducible refine Kd.C_alloc ?_ _) | (with_reducible refine Kd.C_drewN ?_ _) | (with_reducible refine Kd.C_drew ?_)))
      (case side4 => exact (Kd.R_reads' HO585.out).2.1)
      rintro e w66 ⟨rfl, hb⟩
      refine ⟨_, rfl, ?_⟩
      have n0_ := Aside0.mk (Kd.R_below (by (with_reducible repeat (first | apply Kd.R_alloc | apply Kd.R_drewN | apply Kd.R_drew)); exact HO_568000.out) hb)
      have n1_ := Aside0.mk (Kd.R_below (by (with_reducible repeat (first | apply Kd.R_alloc | apply Kd.R_drewN | apply Kd.R_drew)); exact HO_568001.out) hb)
      have n2_ := Aside0.mk (Kd.R_below (by (with_reducible repeat (first | apply Kd.R_alloc | apply Kd.R_drewN | apply Kd.R_drew)); exact HO_573001.out) hb)
      have n3_ := Aside0.mk (Kd.R_below (by (with_reducible repeat (first | apply Kd.R_alloc | apply Kd.R_drewN | apply Kd.R_drew)); exact HO_581000.out) hb)
      have n4_ := Aside0.mk (Kd.R_below (by (with_reducible repeat (first | apply Kd.R_alloc | apply Kd.R_drewN | apply Kd.R_drew)); exact HO_581001.out) hb)
      have n5_ := Aside0.mk (Kd.R_below (by (with_reducible repeat (first | apply Kd.R_alloc | apply Kd.R_drewN | apply Kd.R_drew)); exact HO585.out) hb)
      have n6_ := Aside0.mk (blk_below (g := gb554) (o := .cells #[.string a0_0, .slice A0_1 l0_1.length c0_1] 32 (0, 0)) (by (with_reducible repeat (first | refine blk_drewN ?_ _ | refine blk_drew ?_ | refine blk_alloc ?_ _)); exact BK554.out) hb)
      have n7_ := Aside0.mk (blk_below (g := gb567) (o := .cells #[.slice Ao20 t560.length co20, .slice Ao23 t563.length co23] 51 (0, 0)) (by (with_reducible repeat (first | refine blk_drewN ?_ _ | refine blk_drew ?_ | refine blk_alloc ?_ _)); exact BK567.out) hb)
      have n8_ := Aside0.mk (blk_below (g := gb572) (o := .cells #[.string t568, .slice Ao30 t569.length co30] 35 (0, 0)) (by (with_reducible repeat (first | refine blk_drewN ?_ _ | refine blk_drew ?_ | refine blk_alloc ?_ _)); exact BK572.out) hb)
      have n9_ := Aside0.mk (blk_below (g := gb580) (o := .cells #[.slice Ao33 t573.length co33, .slice Ao38 t576.length co38] 51 (0, 0)) (by (with_reducible repeat (first | refine blk_drewN ?_ _ | refine blk_drew ?_ | refine blk_alloc ?_ _)); exact BK580.out) hb)
      have n10_ := Aside0.mk (below_step (by repeat (first | (with_reducible first | exact HB.out | apply below_alloc | apply pw_below_drewN | apply below_drew1 | refine below_set ?_ GE554.out | refine below_set ?_ GE567.out | refine below_set ?_ GE572.out | refine below_set ?_ GE580.out) | exact HB.out)) hb)
      clear HO_568000
      clear HO_568001
      clear HO_573001
      clear HO_581000
      clear HO_581001
      clear HO585
      clear BK554
      clear BK567
      clear BK572
      clear BK580
      clear HB
      have HO_568000 := n0_
      have HO_568001 := n1_
      have HO_573001 := n2_
      have HO_581000 := n3_
      have HO_581001 := n4_
      have HO585 := n5_
      have BK554 := n6_
      have BK567 := n7_
      have BK572 := n8_
      have BK580 := n9_
      have HB := n10_
      clear n0_ n1_ n2_ n3_ n4_ n5_ n6_ n7_ n8_ n9_ n10_
      (try clear hb)
      (try clear hb2)
      (try clear hk)
      (try clear hi)
      refine hK.out _ _ ⟨(blk_cell BK572.out 0).trans rfl, (blk_cell BK572.out 1).trans rfl, (blk_cell BK554.out 0).trans rfl, (blk_cell BK554.out 1).trans rfl⟩ (fun hHeld => ?_)
      clear hK K
      refine norm_ (a' := ?_) ?_ ?_
      rotate_left
      ·
       show Act.put _ (some 44) _ = _
       simp only [Act.put, List.setIfInBounds_toArray, List.set_cons_zero, List.set_cons_succ, i64_w, i32_w]
       rfl
      refine pure_ (i := 4) (N := some 45) (v := ?_) (a' := ?_) #[true, true, true, true, true] rfl rfl (by kernel_rfl) (fun _ _ _ h => h) (Or.inl ⟨by rfl, ?_⟩) ?_ ?_
      rotate_left
      ·
       intro w'
       go_simp
       with_reducible rfl
      rotate_left
      ·
       simp only [Act.put, List.setIfInBounds_toArray, List.set_cons_zero, List.set_cons_succ, i64_w, i32_w]
       rfl
      refine done_ (by kernel_rfl) ?_
      have hnb67 := NB572_554.out
      have hnc67 := NB554_572.out
      have hnb68 := NB572_567.out
      have hnc68 := NB567_572.out
      have hnb69 := NB572_580.out
      have hnc69 := NB580_572.out
      have hcz70_0 : w66.cell? ⟨gb572, 0, none⟩ = some (.string t568) := (blk_cell BK572.out 0).trans rfl
      have hcz70_1 : w66.cell? ⟨gb572, 1, none⟩ = some (.slice Ao30 t569.length co30) := (blk_cell BK572.out 1).trans rfl
      have hfz70_0 := blk_frozen BK572.out 0
      have hfz70_1 := blk_frozen BK572.out 1
      go_upto_region 14 with (first | ((with_reducible refine gate_callee (f := 38) rfl ?_); refine goesL_ (some 48) rfl rfl Try.func38 (by kernel_rfl) rfl #[.agg #[.string t568, .slice Ao30 t569.length co30], .int .i64 1] rfl (by (try simp only [List.map_toArray, List.map_cons, List.map_nil]); first | done | rfl | (simp only [List.length_drop, List.length_take]; rfl)) ?_; (with_reducible refine (laws_markTree.calls kj10 t568 (fun k_ => some k_ = (.slice Ao30 t569.length co30 : Value).ownBlock) (.slice Ao30 t569.length co30) t569 1 t587 t588 w _ ?side1 ?side2 A61.out).mono ?_); (case side1 => repeat (first | (with_reducible first | exact HB.out | apply below_alloc | apply pw_below_drewN | apply below_drew1 | refine below_set ?_ GE554.out | refine below_set ?_ GE567.out | refine below_set ?_ GE572.out | refine below_set ?_ GE580.out) | exact HB.out)); (case side2 => exact Kd.R_tight rfl HO_573001.out); rintro e w71 ⟨rfl, hy0, hb, hkp⟩; refine ⟨_, rfl, ?_⟩; have n0_ := Aside0.mk (Kd.R_mono (ok' := fun k_ => some k_ ≠ (.slice Ao23 t563.length co23 : Value).ownBlock ∧ some k_ ≠ (.slice Ao30 t569.length co30 : Value).ownBlock ∧ some k_ ≠ (.slice Ao33 t573.length co33 : Value).ownBlock ∧ some k_ ≠ (.slice Ao38 t576.length co38 : Value).ownBlock ∧ some k_ ≠ (.slice Ao65 t583.length co65 : Value).ownBlock) (Kd.R_keptB (HO_568000.out) hkp (fun k_ hk_ hs_ => (hk_.1.2.1) hs_)) (fun k_ hk_ => ⟨hk_.1.1.1, hk_.1.1.2.1, hk_.1.1.2.2.1, hk_.1.1.2.2.2, hk_.1.2⟩)); have n1_ := Aside0.mk (Kd.R_mono (ok' := fun k_ => some k_ ≠ (.slice Ao20 t560.length co20 : Value).ownBlock ∧ some k_ ≠ (.slice Ao30 t569.length co30 : Value).ownBlock ∧ some k_ ≠ (.slice Ao33 t573.length co33 : Value).ownBlock ∧ some k_ ≠ (.slice Ao38 t576.length co38 : Value).ownBlock ∧ some k_ ≠ (.slice Ao65 t583.length co65 : Value).ownBlock) (Kd.R_keptB (HO_568001.out) hkp (fun k_ hk_ hs_ => (hk_.1.2.1) hs_)) (fun k_ hk_ => ⟨hk_.1.1.1, hk_.1.1.2.1, hk_.1.1.2.2.1, hk_.1.1.2.2.2, hk_.1.2⟩)); have n2_ := Aside0.mk (Kd.R_reok rfl hy0 (fun k_ e_ => HO_573001.out.1 k_ e_)); have n3_ := Aside0.mk (Kd.R_mono (ok' := fun k_ => some k_ ≠ (.slice Ao20 t560.length co20 : Value).ownBlock ∧ some k_ ≠ (.slice Ao23 t563.length co23 : Value).ownBlock ∧ some k_ ≠ (.slice Ao30 t569.length co30 : Value).ownBlock ∧ some k_ ≠ (.slice Ao38 t576.length co38 : Value).ownBlock ∧ some k_ ≠ (.slice Ao65 t583.length co65 : Value).ownBlock) (Kd.R_keptB (HO_581000.out) hkp (fun k_ hk_ hs_ => (hk_.1.2.2.1) hs_)) (fun k_ hk_ => ⟨hk_.1.1.1, hk_.1.1.2.1, hk_.1.1.2.2.1, hk_.1.1.2.2.2, hk_.1.2⟩)); have n4_ := Aside0.mk (Kd.R_mono (ok' := fun k_ => some k_ ≠ (.slice Ao20 t560.length co20 : Value).ownBlock ∧ some k_ ≠ (.slice Ao23 t563.length co23 : Value).ownBlock ∧ some k_ ≠ (.slice Ao30 t569.length co30 : Value).ownBlock ∧ some k_ ≠ (.slice Ao33 t573.length co33 : Value).ownBlock ∧ some k_ ≠ (.slice Ao65 t583.length co65 : Value).ownBlock) (Kd.R_keptB (HO_581001.out) hkp (fun k_ hk_ hs_ => (hk_.1.2.2.1) hs_)) (fun k_ hk_ => ⟨hk_.1.1.1, hk_.1.1.2.1, hk_.1.1.2.2.1, hk_.1.1.2.2.2, hk_.1.2⟩)); have n5_ := Aside0.mk (blk_kept (by (with_reducible repeat (first | refine blk_drewN ?_ _ | refine blk_drew ?_ | refine blk_alloc ?_ _)); exact BK554.out) hkp (fun hs_ => (fun e_ => (Kd.R_ne HO_573001.out BK554.out (by decide)) e_) hs_)); have n6_ := Aside0.mk (blk_kept (by (with_reducible repeat (first | refine blk_drewN ?_ _ | refine blk_drew ?_ | refine blk_alloc ?_ _)); exact BK567.out) hkp (fun hs_ => (fun e_ => (Kd.R_ne HO_573001.out BK567.out (by decide)) e_) hs_)); have n7_ := Aside0.mk (blk_kept (by (with_reducible repeat (first | refine blk_drewN ?_ _ | refine blk_drew ?_ | refine blk_alloc ?_ _)); exact BK572.out) hkp (fun hs_ => (fun e_ => (Kd.R_ne HO_573001.out BK572.out (by decide)) e_) hs_)); have n8_ := Aside0.mk (blk_kept (by (with_reducible repeat (first | refine blk_drewN ?_ _ | refine blk_drew ?_ | refine blk_alloc ?_ _)); exact BK580.out) hkp (fun hs_ => (fun e_ => (Kd.R_ne HO_573001.out BK580.out (by decide)) e_) hs_)); have n9_ := Aside0.mk (Kd.R_mono (ok' := fun k_ => some k_ ≠ (.slice Ao20 t560.length co20 : Value).ownBlock ∧ some k_ ≠ (.slice Ao23 t563.length co23 : Value).ownBlock ∧ some k_ ≠ (.slice Ao30 t569.length co30 : Value).ownBlock ∧ some k_ ≠ (.slice Ao33 t573.length co33 : Value).ownBlock ∧ some k_ ≠ (.slice Ao38 t576.length co38 : Value).ownBlock) (Kd.R_keptB (HO585.out) hkp (fun k_ hk_ hs_ => (hk_.1.1.2) hs_)) (fun k_ hk_ => ⟨hk_.1.1.1.1.1.2, hk_.1.1.1.1.2, hk_.1.1.1.2, hk_.1.1.2, hk_.1.2⟩)); have n10_ := Aside0.mk (hb); clear HO_568000; clear HO_568001; clear HO_573001; clear HO_581000; clear HO_581001; clear BK554; clear BK567; clear BK572; clear BK580; clear HO585; clear HB; have HO_568000 := n0_; have HO_568001 := n1_; have HO_573001 := n2_; have HO_581000 := n3_; have HO_581001 := n4_; have BK554 := n5_; have BK567 := n6_; have BK572 := n7_; have BK580 := n8_; have HO585 := n9_; have HB := n10_; clear n0_ n1_ n2_ n3_ n4_ n5_ n6_ n7_ n8_ n9_ n10_; (try clear hb); (try clear hkp); (try clear hy0)))
      (try simp only [Act.put, List.setIfInBounds_toArray, List.set_cons_zero, List.set_cons_succ])
      go_cut [61] (fun v61 wc => ∃ (kq : Nat) (x61_61 : Bool), v61 = .bool x61_61 ∧ Aside0 (laws_FnExactTreeMap.j1 kq t566 x61_61 a0_0 l0_1 t560 t563 t573 t576 = some r) ∧ Aside0 (kq ≤ kj10) ∧ Aside0 (Kd.R (Kd.int .i64) 3 wc w.heap.size (fun k_ => some k_ ≠ ((.slice Ao23 t563.length co23) : Value).ownBlock ∧ some k_ ≠ ((.slice Ao30 t569.length co30) : Value).ownBlock ∧ some k_ ≠ ((.slice Ao33 t573.length co33) : Value).ownBlock ∧ some k_ ≠ ((.slice Ao38 t576.length co38) : Value).ownBlock) (.slice Ao20 t560.length co20) t560) ∧ Aside0 (Kd.R (Kd.int .i64) 3 wc w.heap.size (fun k_ => some k_ ≠ ((.slice Ao20 t560.length co20) : Value).ownBlock ∧ some k_ ≠ ((.slice Ao30 t569.length co30) : Value).ownBlock ∧ some k_ ≠ ((.slice Ao33 t573.length co33) : Value).ownBlock ∧ some k_ ≠ ((.slice Ao38 t576.length co38) : Value).ownBlock) (.slice Ao23 t563.length co23) t563) ∧ Aside0 (Kd.R (Kd.int .i64) 3 wc w.heap.size (fun k_ => some k_ ≠ ((.slice Ao20 t560.length co20) : Value).ownBlock ∧ some k_ ≠ ((.slice Ao23 t563.length co23) : Value).ownBlock ∧ some k_ ≠ ((.slice Ao33 t573.length co33) : Value).ownBlock ∧ some k_ ≠ ((.slice Ao38 t576.length co38) : Value).ownBlock) (.slice Ao30 t569.length co30) t588) ∧ Aside0 (Kd.R (Kd.int .i64) 3 wc w.heap.size (fun k_ => some k_ ≠ ((.slice Ao20 t560.length co20) : Value).ownBlock ∧ some k_ ≠ ((.slice Ao23 t563.length co23) : Value).ownBlock ∧ some k_ ≠ ((.slice Ao30 t569.length co30) : Value).ownBlock ∧ some k_ ≠ ((.slice Ao38 t576.length co38) : Value).ownBlock) (.slice Ao33 t573.length co33) t573) ∧ Aside0 (Kd.R (Kd.int .i64) 3 wc w.heap.size (fun k_ => some k_ ≠ ((.slice Ao20 t560.length co20) : Value).ownBlock ∧ some k_ ≠ ((.slice Ao23 t563.length co23) : Value).ownBlock ∧ some k_ ≠ ((.slice Ao30 t569.length co30) : Value).ownBlock ∧ some k_ ≠ ((.slice Ao33 t573.length co33) : Value).ownBlock) (.slice Ao38 t576.length co38) t576) ∧ Aside0 (wc.heap[gb554]? = some (.cells #[.string a0_0, (.slice A0_1 l0_1.length c0_1)] 32 (0, 0))) ∧ Aside0 (wc.heap[gb567]? = some (.cells #[(.slice Ao20 t560.length co20), (.slice Ao23 t563.length co23)] 51 (0, 0))) ∧ Aside0 (wc.heap[gb572]? = some (.cells #[.string t568, (.slice Ao30 t569.length co30)] 35 (0, 0))) ∧ Aside0 (wc.heap[gb580]? = some (.cells #[(.slice Ao33 t573.length co33), (.slice Ao38 t576.length co38)] 51 (0, 0))) ∧ Aside0 (Below w.heap.size w wc))
      case first =>
       have H := HC62.out
       clear HC62
       by_cases c72 : t587 < 0
       ·
        rw [if_pos c72] at H
        have c72b0 : decide (t587 < 0) = true := decide_eq_true c72
        clear c72
        (first | rw [c72b0] | (simp only [i64_w, i32_w]; rw [c72b0]) | skip)
        have H' := Aside0.mk H
        clear H
        go_wp2
        go_meet
        case rel => exact ⟨_, (true), (by first | rfl | (simp; done) | (simp [*]; done)), H', ⟨by have := HJ10.out; first | omega | exact Nat.le_refl _⟩, ⟨by (with_reducible repeat (first | apply Kd.R_alloc | apply Kd.R_drewN | apply Kd.R_drew)); exact Kd.R_mono HO_568000.out (fun _ hk => ⟨hk.1, ⟨hk.2.1, ⟨hk.2.2.1, hk.2.2.2.1⟩⟩⟩)⟩, ⟨by (with_reducible repeat (first | apply Kd.R_alloc | apply Kd.R_drewN | apply Kd.R_drew)); exact Kd.R_mono HO_568001.out (fun _ hk => ⟨hk.1, ⟨hk.2.1, ⟨hk.2.2.1, hk.2.2.2.1⟩⟩⟩)⟩, ⟨by (with_reducible repeat (first | apply Kd.R_alloc | apply Kd.R_drewN | apply Kd.R_drew)); exact Kd.R_mono HO_573001.out (fun _ hk => ⟨hk.1.1, ⟨hk.1.2.1, ⟨hk.1.2.2.1, hk.1.2.2.2⟩⟩⟩)⟩, ⟨by (with_reducible repeat (first | apply Kd.R_alloc | apply Kd.R_drewN | apply Kd.R_drew)); exact Kd.R_mono HO_581000.out (fun _ hk => ⟨hk.1, ⟨hk.2.1, ⟨hk.2.2.1, hk.2.2.2.1⟩⟩⟩)⟩, ⟨by (with_reducible repeat (first | apply Kd.R_alloc | apply Kd.R_drewN | apply Kd.R_drew)); exact Kd.R_mono HO_581001.out (fun _ hk => ⟨hk.1, ⟨hk.2.1, ⟨hk.2.2.1, hk.2.2.2.1⟩⟩⟩)⟩, ⟨by (with_reducible repeat (first | refine blk_drewN ?_ _ | refine blk_drew ?_ | refine blk_alloc ?_ _)); exact BK554.out⟩, ⟨by (with_reducible repeat (first | refine blk_drewN ?_ _ | refine blk_drew ?_ | refine blk_alloc ?_ _)); exact BK567.out⟩, ⟨by (with_reducible repeat (first | refine blk_drewN ?_ _ | refine blk_drew ?_ | refine blk_alloc ?_ _)); exact BK572.out⟩, ⟨by (with_reducible repeat (first | refine blk_drewN ?_ _ | refine blk_drew ?_ | refine blk_alloc ?_ _)); exact BK580.out⟩, ⟨by repeat (first | (with_reducible first | exact HB.out | apply below_alloc | apply pw_below_drewN | apply below_drew1 | refine below_set ?_ GE554.out | refine below_set ?_ GE567.out | refine below_set ?_ GE572.out | refine below_set ?_ GE580.out) | exact HB.out)⟩⟩
       ·
        rw [if_neg c72] at H
        have c72b0 : decide (t587 < 0) = false := decide_eq_false c72
        clear c72
        (first | rw [c72b0] | (simp only [i64_w, i32_w]; rw [c72b0]) | skip)
        replace H := Option.bind_eq_some_iff.mp H
        obtain ⟨t589, A730, H⟩ := H
        replace H : (if t589 = true then (laws_FnExactTreeMap.j1 kj10 t566 (t579 != t566) a0_0 l0_1 t560 t563 t573 t576) else (laws_FnExactTreeMap.j1 kj10 t566 true a0_0 l0_1 t560 t563 t573 t576)) = some r := H
        have A73 := Aside0.mk A730
        clear A730
        by_cases c74 : t589 = true
        ·
         subst c74
         have H1 : (laws_FnExactTreeMap.j1 kj10 t566 (t579 != t566) a0_0 l0_1 t560 t563 t573 t576) = some r := by rw [if_pos rfl] at H; exact H
         clear H
         have H := H1
         clear H1
         have H' := Aside0.mk H
         clear H
         have hnb75 := NB580_554.out
         have hnc75 := NB554_580.out
         have hnb76 := NB580_567.out
         have hnc76 := NB567_580.out
         have hnb77 := NB580_572.out
         have hnc77 := NB572_580.out
         have hcz78_0 : w71.cell? ⟨gb580, 0, none⟩ = some (.slice Ao33 t573.length co33) := (blk_cell BK580.out 0).trans rfl
         have hcz78_1 : w71.cell? ⟨gb580, 1, none⟩ = some (.slice Ao38 t576.length co38) := (blk_cell BK580.out 1).trans rfl
         have hfz78_0 := blk_frozen BK580.out 0
         have hfz78_1 := blk_frozen BK580.out 1
         have hnb79 := NB567_554.out
         have hnc79 := NB554_567.out
         have hnb80 := NB567_572.out
         have hnc80 := NB572_567.out
         have hcz81_0 : w71.cell? ⟨gb567, 0, none⟩ = some (.slice Ao20 t560.length co20) := (blk_cell BK567.out 0).trans rfl
         have hcz81_1 : w71.cell? ⟨gb567, 1, none⟩ = some (.slice Ao23 t563.length co23) := (blk_cell BK567.out 1).trans rfl
         have hfz81_0 := blk_frozen BK567.out 0
         have hfz81_1 := blk_frozen BK567.out 1
         go_wp2_with (first | (go_at_call 48; (with_reducible refine (laws_eqMap.calls kj10 _ _ t573 _ _ t576 _ _ t560 _ _ t563 true _ ?side1 ?side2 ?side3 ?side4 ?side5 ?side6 ?side7 ?side8 A73.out).mono ?_); (case side1 => repeat (first | exact (Kd.R_reads' HO_581000.out).2.2 | (with_reducible refine Kd.C_alloc ?_ _) | (with_reducible refine Kd.C_drewN ?_ _) | (with_reducible refine Kd.C_drew ?_))); (case side2 => exact (Kd.R_reads' HO_581000.out).2.1); (case side3 => repeat (first | exact (Kd.R_reads' HO_581001.out).2.2 | (with_reducible refine Kd.C_alloc ?_ _) | (with_reducible refine Kd.C_drewN ?_ _) | (with_reducible refine Kd.C_drew ?_))); (case side4 => exact (Kd.R_reads' HO_581001.out).2.1); (case side5 => repeat (first | exact (Kd.R_reads' HO_568000.out).2.2 | (with_reducible refine Kd.C_alloc ?_ _) | (with_reducible refine Kd.C_drewN ?_ _) | (with_reducible refine Kd.C_drew ?_))); (case side6 => exact (Kd.R_reads' HO_568000.out).2.1); (case side7 => repeat (first | exact (Kd.R_reads' HO_568001.out).2.2 | (with_reducible refine Kd.C_alloc ?_ _) | (with_reducible refine Kd.C_drewN ?_ _) | (with_reducible refine Kd.C_drew ?_))); (case side8 => exact (Kd.R_reads' HO_568001.out).2.1); rintro e w82 ⟨rfl, hb⟩; have n0_ := Aside0.mk (Kd.R_below (by (with_reducible repeat (first | apply Kd.R_alloc | apply Kd.R_drewN | apply Kd.R_drew)); exact HO_568000.out) hb); have n1_ := Aside0.mk (Kd.R_below (by (with_reducible repeat (first | apply Kd.R_alloc | apply Kd.R_drewN | apply Kd.R_drew)); exact HO_568001.out) hb); have n2_ := Aside0.mk (Kd.R_below (by (with_reducible repeat (first | apply Kd.R_alloc | apply Kd.R_drewN | apply Kd.R_drew)); exact HO_573001.out) hb); have n3_ := Aside0.mk (Kd.R_below (by (with_reducible repeat (first | apply Kd.R_alloc | apply Kd.R_drewN | apply Kd.R_drew)); exact HO_581000.out) hb); have n4_ := Aside0.mk (Kd.R_below (by (with_reducible repeat (first | apply Kd.R_alloc | apply Kd.R_drewN | apply Kd.R_drew)); exact HO_581001.out) hb); have n5_ := Aside0.mk (Kd.R_below (by (with_reducible repeat (first | apply Kd.R_alloc | apply Kd.R_drewN | apply Kd.R_drew)); exact HO585.out) hb); have n6_ := Aside0.mk (blk_below (g := gb554) (o := .cells #[.string a0_0, .slice A0_1 l0_1.length c0_1] 32 (0, 0)) (by (with_reducible repeat (first | refine blk_drewN ?_ _ | refine blk_drew ?_ | refine blk_alloc ?_ _)); exact BK554.out) hb); have n7_ := Aside0.mk (blk_below (g := gb567) (o := .cells #[.slice Ao20 t560.length co20, .slice Ao23 t563.length co23] 51 (0, 0)) (by (with_reducible repeat (first | refine blk_drewN ?_ _ | refine blk_drew ?_ | refine blk_alloc ?_ _)); exact BK567.out) hb); have n8_ := Aside0.mk (blk_below (g := gb572) (o := .cells #[.string t568, .slice Ao30 t569.length co30] 35 (0, 0)) (by (with_reducible repeat (first | refine blk_drewN ?_ _ | refine blk_drew ?_ | refine blk_alloc ?_ _)); exact BK572.out) hb); have n9_ := Aside0.mk (blk_below (g := gb580) (o := .cells #[.slice Ao33 t573.length co33, .slice Ao38 t576.length co38] 51 (0, 0)) (by (with_reducible repeat (first | refine blk_drewN ?_ _ | refine blk_drew ?_ | refine blk_alloc ?_ _)); exact BK580.out) hb); have n10_ := Aside0.mk (below_step (by repeat (first | (with_reducible first | exact HB.out | apply below_alloc | apply pw_below_drewN | apply below_drew1 | refine below_set ?_ GE554.out | refine below_set ?_ GE567.out | refine below_set ?_ GE572.out | refine below_set ?_ GE580.out) | exact HB.out)) hb); clear HO_568000; clear HO_568001; clear HO_573001; clear HO_581000; clear HO_581001; clear HO585; clear BK554; clear BK567; clear BK572; clear BK580; clear HB; have HO_568000 := n0_; have HO_568001 := n1_; have HO_573001 := n2_; have HO_581000 := n3_; have HO_581001 := n4_; have HO585 := n5_; have BK554 := n6_; have BK567 := n7_; have BK572 := n8_; have BK580 := n9_; have HB := n10_; clear n0_ n1_ n2_ n3_ n4_ n5_ n6_ n7_ n8_ n9_ n10_; (try clear hb); (try clear hb2); (try clear hk); (try clear hi)))
         go_meet
         case rel => exact ⟨_, ((t579 != t566)), (by first | rfl | (simp; done) | (simp [*]; done)), H', ⟨by have := HJ10.out; first | omega | exact Nat.le_refl _⟩, ⟨by (with_reducible repeat (first | apply Kd.R_alloc | apply Kd.R_drewN | apply Kd.R_drew)); exact Kd.R_mono HO_568000.out (fun _ hk => ⟨hk.1, ⟨hk.2.1, ⟨hk.2.2.1, hk.2.2.2.1⟩⟩⟩)⟩, ⟨by (with_reducible repeat (first | apply Kd.R_alloc | apply Kd.R_drewN | apply Kd.R_drew)); exact Kd.R_mono HO_568001.out (fun _ hk => ⟨hk.1, ⟨hk.2.1, ⟨hk.2.2.1, hk.2.2.2.1⟩⟩⟩)⟩, ⟨by (with_reducible repeat (first | apply Kd.R_alloc | apply Kd.R_drewN | apply Kd.R_drew)); exact Kd.R_mono HO_573001.out (fun _ hk => ⟨hk.1.1, ⟨hk.1.2.1, ⟨hk.1.2.2.1, hk.1.2.2.2⟩⟩⟩)⟩, ⟨by (with_reducible repeat (first | apply Kd.R_alloc | apply Kd.R_drewN | apply Kd.R_drew)); exact Kd.R_mono HO_581000.out (fun _ hk => ⟨hk.1, ⟨hk.2.1, ⟨hk.2.2.1, hk.2.2.2.1⟩⟩⟩)⟩, ⟨by (with_reducible repeat (first | apply Kd.R_alloc | apply Kd.R_drewN | apply Kd.R_drew)); exact Kd.R_mono HO_581001.out (fun _ hk => ⟨hk.1, ⟨hk.2.1, ⟨hk.2.2.1, hk.2.2.2.1⟩⟩⟩)⟩, ⟨by (with_reducible repeat (first | refine blk_drewN ?_ _ | refine blk_drew ?_ | refine blk_alloc ?_ _)); exact BK554.out⟩, ⟨by (with_reducible repeat (first | refine blk_drewN ?_ _ | refine blk_drew ?_ | refine blk_alloc ?_ _)); exact BK567.out⟩, ⟨by (with_reducible repeat (first | refine blk_drewN ?_ _ | refine blk_drew ?_ | refine blk_alloc ?_ _)); exact BK572.out⟩, ⟨by (with_reducible repeat (first | refine blk_drewN ?_ _ | refine blk_drew ?_ | refine blk_alloc ?_ _)); exact BK580.out⟩, ⟨by repeat (first | (with_reducible first | exact HB.out | apply below_alloc | apply pw_below_drewN | apply below_drew1 | refine below_set ?_ GE554.out | refine below_set ?_ GE567.out | refine below_set ?_ GE572.out | refine below_set ?_ GE580.out) | exact HB.out)⟩⟩
        ·
         replace c74 := Bool.eq_false_iff.mpr c74
         subst c74
         have H1 : (laws_FnExactTreeMap.j1 kj10 t566 true a0_0 l0_1 t560 t563 t573 t576) = some r := by rw [if_neg (show ¬ (false = true) by decide)] at H; exact H
         clear H
         have H := H1
         clear H1
         have H' := Aside0.mk H
         clear H
         have hnb83 := NB580_554.out
         have hnc83 := NB554_580.out
         have hnb84 := NB580_567.out
         have hnc84 := NB567_580.out
         have hnb85 := NB580_572.out
         have hnc85 := NB572_580.out
         have hcz86_0 : w71.cell? ⟨gb580, 0, none⟩ = some (.slice Ao33 t573.length co33) := (blk_cell BK580.out 0).trans rfl
         have hcz86_1 : w71.cell? ⟨gb580, 1, none⟩ = some (.slice Ao38 t576.length co38) := (blk_cell BK580.out 1).trans rfl
         have hfz86_0 := blk_frozen BK580.out 0
         have hfz86_1 := blk_frozen BK580.out 1
         have hnb87 := NB567_554.out
         have hnc87 := NB554_567.out
         have hnb88 := NB567_572.out
         have hnc88 := NB572_567.out
         have hcz89_0 : w71.cell? ⟨gb567, 0, none⟩ = some (.slice Ao20 t560.length co20) := (blk_cell BK567.out 0).trans rfl
         have hcz89_1 : w71.cell? ⟨gb567, 1, none⟩ = some (.slice Ao23 t563.length co23) := (blk_cell BK567.out 1).trans rfl
         have hfz89_0 := blk_frozen BK567.out 0
         have hfz89_1 := blk_frozen BK567.out 1
         go_wp2_with (first | (go_at_call 48; (with_reducible refine (laws_eqMap.calls kj10 _ _ t573 _ _ t576 _ _ t560 _ _ t563 false _ ?side1 ?side2 ?side3 ?side4 ?side5 ?side6 ?side7 ?side8 A73.out).mono ?_); (case side1 => repeat (first | exact (Kd.R_reads' HO_581000.out).2.2 | (with_reducible refine Kd.C_alloc ?_ _) | (with_reducible refine Kd.C_drewN ?_ _) | (with_reducible refine Kd.C_drew ?_))); (case side2 => exact (Kd.R_reads' HO_581000.out).2.1); (case side3 => repeat (first | exact (Kd.R_reads' HO_581001.out).2.2 | (with_reducible refine Kd.C_alloc ?_ _) | (with_reducible refine Kd.C_drewN ?_ _) | (with_reducible refine Kd.C_drew ?_))); (case side4 => exact (Kd.R_reads' HO_581001.out).2.1); (case side5 => repeat (first | exact (Kd.R_reads' HO_568000.out).2.2 | (with_reducible refine Kd.C_alloc ?_ _) | (with_reducible refine Kd.C_drewN ?_ _) | (with_reducible refine Kd.C_drew ?_))); (case side6 => exact (Kd.R_reads' HO_568000.out).2.1); (case side7 => repeat (first | exact (Kd.R_reads' HO_568001.out).2.2 | (with_reducible refine Kd.C_alloc ?_ _) | (with_reducible refine Kd.C_drewN ?_ _) | (with_reducible refine Kd.C_drew ?_))); (case side8 => exact (Kd.R_reads' HO_568001.out).2.1); rintro e w90 ⟨rfl, hb⟩; have n0_ := Aside0.mk (Kd.R_below (by (with_reducible repeat (first | apply Kd.R_alloc | apply Kd.R_drewN | apply Kd.R_drew)); exact HO_568000.out) hb); have n1_ := Aside0.mk (Kd.R_below (by (with_reducible repeat (first | apply Kd.R_alloc | apply Kd.R_drewN | apply Kd.R_drew)); exact HO_568001.out) hb); have n2_ := Aside0.mk (Kd.R_below (by (with_reducible repeat (first | apply Kd.R_alloc | apply Kd.R_drewN | apply Kd.R_drew)); exact HO_573001.out) hb); have n3_ := Aside0.mk (Kd.R_below (by (with_reducible repeat (first | apply Kd.R_alloc | apply Kd.R_drewN | apply Kd.R_drew)); exact HO_581000.out) hb); have n4_ := Aside0.mk (Kd.R_below (by (with_reducible repeat (first | apply Kd.R_alloc | apply Kd.R_drewN | apply Kd.R_drew)); exact HO_581001.out) hb); have n5_ := Aside0.mk (Kd.R_below (by (with_reducible repeat (first | apply Kd.R_alloc | apply Kd.R_drewN | apply Kd.R_drew)); exact HO585.out) hb); have n6_ := Aside0.mk (blk_below (g := gb554) (o := .cells #[.string a0_0, .slice A0_1 l0_1.length c0_1] 32 (0, 0)) (by (with_reducible repeat (first | refine blk_drewN ?_ _ | refine blk_drew ?_ | refine blk_alloc ?_ _)); exact BK554.out) hb); have n7_ := Aside0.mk (blk_below (g := gb567) (o := .cells #[.slice Ao20 t560.length co20, .slice Ao23 t563.length co23] 51 (0, 0)) (by (with_reducible repeat (first | refine blk_drewN ?_ _ | refine blk_drew ?_ | refine blk_alloc ?_ _)); exact BK567.out) hb); have n8_ := Aside0.mk (blk_below (g := gb572) (o := .cells #[.string t568, .slice Ao30 t569.length co30] 35 (0, 0)) (by (with_reducible repeat (first | refine blk_drewN ?_ _ | refine blk_drew ?_ | refine blk_alloc ?_ _)); exact BK572.out) hb); have n9_ := Aside0.mk (blk_below (g := gb580) (o := .cells #[.slice Ao33 t573.length co33, .slice Ao38 t576.length co38] 51 (0, 0)) (by (with_reducible repeat (first | refine blk_drewN ?_ _ | refine blk_drew ?_ | refine blk_alloc ?_ _)); exact BK580.out) hb); have n10_ := Aside0.mk (below_step (by repeat (first | (with_reducible first | exact HB.out | apply below_alloc | apply pw_below_drewN | apply below_drew1 | refine below_set ?_ GE554.out | refine below_set ?_ GE567.out | refine below_set ?_ GE572.out | refine below_set ?_ GE580.out) | exact HB.out)) hb); clear HO_568000; clear HO_568001; clear HO_573001; clear HO_581000; clear HO_581001; clear HO585; clear BK554; clear BK567; clear BK572; clear BK580; clear HB; have HO_568000 := n0_; have HO_568001 := n1_; have HO_573001 := n2_; have HO_581000 := n3_; have HO_581001 := n4_; have HO585 := n5_; have BK554 := n6_; have BK567 := n7_; have BK572 := n8_; have BK580 := n9_; have HB := n10_; clear n0_ n1_ n2_ n3_ n4_ n5_ n6_ n7_ n8_ n9_ n10_; (try clear hb); (try clear hb2); (try clear hk); (try clear hi)))
         go_meet
         case rel => exact ⟨_, (true), (by first | rfl | (simp; done) | (simp [*]; done)), H', ⟨by have := HJ10.out; first | omega | exact Nat.le_refl _⟩, ⟨by (with_reducible repeat (first | apply Kd.R_alloc | apply Kd.R_drewN | apply Kd.R_drew)); exact Kd.R_mono HO_568000.out (fun _ hk => ⟨hk.1, ⟨hk.2.1, ⟨hk.2.2.1, hk.2.2.2.1⟩⟩⟩)⟩, ⟨by (with_reducible repeat (first | apply Kd.R_alloc | apply Kd.R_drewN | apply Kd.R_drew)); exact Kd.R_mono HO_568001.out (fun _ hk => ⟨hk.1, ⟨hk.2.1, ⟨hk.2.2.1, hk.2.2.2.1⟩⟩⟩)⟩, ⟨by (with_reducible repeat (first | apply Kd.R_alloc | apply Kd.R_drewN | apply Kd.R_drew)); exact Kd.R_mono HO_573001.out (fun _ hk => ⟨hk.1.1, ⟨hk.1.2.1, ⟨hk.1.2.2.1, hk.1.2.2.2⟩⟩⟩)⟩, ⟨by (with_reducible repeat (first | apply Kd.R_alloc | apply Kd.R_drewN | apply Kd.R_drew)); exact Kd.R_mono HO_581000.out (fun _ hk => ⟨hk.1, ⟨hk.2.1, ⟨hk.2.2.1, hk.2.2.2.1⟩⟩⟩)⟩, ⟨by (with_reducible repeat (first | apply Kd.R_alloc | apply Kd.R_drewN | apply Kd.R_drew)); exact Kd.R_mono HO_581001.out (fun _ hk => ⟨hk.1, ⟨hk.2.1, ⟨hk.2.2.1, hk.2.2.2.1⟩⟩⟩)⟩, ⟨by (with_reducible repeat (first | refine blk_drewN ?_ _ | refine blk_drew ?_ | refine blk_alloc ?_ _)); exact BK554.out⟩, ⟨by (with_reducible repeat (first | refine blk_drewN ?_ _ | refine blk_drew ?_ | refine blk_alloc ?_ _)); exact BK567.out⟩, ⟨by (with_reducible repeat (first | refine blk_drewN ?_ _ | refine blk_drew ?_ | refine blk_alloc ?_ _)); exact BK572.out⟩, ⟨by (with_reducible repeat (first | refine blk_drewN ?_ _ | refine blk_drew ?_ | refine blk_alloc ?_ _)); exact BK580.out⟩, ⟨by repeat (first | (with_reducible first | exact HB.out | apply below_alloc | apply pw_below_drewN | apply below_drew1 | refine below_set ?_ GE554.out | refine below_set ?_ GE567.out | refine below_set ?_ GE572.out | refine below_set ?_ GE580.out) | exact HB.out)⟩⟩
      case rest =>
       clear HC62
       try clear c1
       try clear c2
       try clear p2
       try clear c3
       try clear c3b0
       try clear c4
       try clear c5
       try clear c6
       try clear c7
       try clear c8
       try clear c14
       try clear c21
       try clear c25
       try clear c27
       try clear c28
       try clear c29
       try clear c34
       try clear c35
       try clear c36
       try clear c38
       try clear c40
       try clear c41
       try clear c42
       try clear c43
       try clear c45
       try clear c46
       try clear c47
       try clear c48
       try clear c49
       try clear c50
       try clear c51
       try clear c53
       try clear c54
       try clear c57
       try clear c60
       try clear c67
       try clear c68
       try clear c69
       try clear c72
       try clear c72b0
       try clear c74
       try clear c75
       try clear c76
       try clear c77
       try clear c79
       try clear c80
       try clear c83
       try clear c84
       try clear c85
       try clear c87
       try clear c88
       try clear hcz13_0
       try clear hcz13_1
       try clear hcz15_0
       try clear hcz15_1
       try clear hcz22_0
       try clear hcz22_1
       try clear hcz24_0
       try clear hcz24_1
       try clear hcz29_0
       try clear hcz29_1
       try clear hcz37_0
       try clear hcz37_1
       try clear hcz44_0
       try clear hcz44_1
       try clear hcz47_0
       try clear hcz47_1
       try clear hcz52_0
       try clear hcz52_1
       try clear hcz55_0
       try clear hcz55_1
       try clear hcz5_0
       try clear hcz5_1
       try clear hcz70_0
       try clear hcz70_1
       try clear hcz78_0
       try clear hcz78_1
       try clear hcz81_0
       try clear hcz81_1
       try clear hcz86_0
       try clear hcz86_1
       try clear hcz89_0
       try clear hcz89_1
       try clear hfz13_0
       try clear hfz13_1
       try clear hfz15_0
       try clear hfz15_1
       try clear hfz22_0
       try clear hfz22_1
       try clear hfz24_0
       try clear hfz24_1
       try clear hfz29_0
       try clear hfz29_1
       try clear hfz37_0
       try clear hfz37_1
       try clear hfz44_0
       try clear hfz44_1
       try clear hfz47_0
       try clear hfz47_1
       try clear hfz52_0
       try clear hfz52_1
       try clear hfz55_0
       try clear hfz55_1
       try clear hfz5_0
       try clear hfz5_1
       try clear hfz70_0
       try clear hfz70_1
       try clear hfz78_0
       try clear hfz78_1
       try clear hfz81_0
       try clear hfz81_1
       try clear hfz86_0
       try clear hfz86_1
       try clear hfz89_0
       try clear hfz89_1
       try clear p2
       obtain ⟨kq, x61_61, rfl, HA, HJ61, HO_568000, HO_568001, HO_573001, HO_581000, HO_581001, BK554, BK567, BK572, BK580, HB⟩ := hcut
       have hl573001_61 := (Kd.R_reads' HO_573001.out).1
       rw [hl573001_61] at HO_573001
       (try simp only [hl573001_61])
       (try simp only [hl573001_61] at BK554)
       (try simp only [hl573001_61] at BK567)
       (try simp only [hl573001_61] at BK572)
       (try simp only [hl573001_61] at BK580)
       (try simp only [hl573001_61] at HO_568000)
       (try simp only [hl573001_61] at HO_568001)
       (try simp only [hl573001_61] at HO_581000)
       (try simp only [hl573001_61] at HO_581001)
       cases kq with
       | zero => exact absurd HA.out (by simp [laws_FnExactTreeMap.j1])
       | succ kj61 =>
        have H := HA.out
        clear HA
        simp only [laws_FnExactTreeMap.j1] at H
        by_cases c91 : x61_61 = true
        ·
         subst c91
         have H1 : (some false) = some r := by rw [if_pos rfl] at H; exact H
         clear H
         have H := H1
         clear H1
         obtain rfl := Option.some.inj H
         go_wp2
         go_ret
         exact ⟨by first | rfl | (simp [errW_none, errW_some] <;> rfl) | (simp [*, errW_none, errW_some] <;> rfl), by repeat (first | (with_reducible first | exact HB.out | apply below_alloc | apply pw_below_drewN | apply below_drew1 | refine below_set ?_ GE554.out | refine below_set ?_ GE567.out | refine below_set ?_ GE572.out | refine below_set ?_ GE580.out) | exact HB.out)⟩
        ·
         replace c91 := Bool.eq_false_iff.mpr c91
         subst c91
         have H1 : ((laws_markMap.f kj61 t573 t576 1).bind fun bt590 => ((laws_heldMap.f kj61 bt590.2.1 bt590.2.2 1).bind fun t593 => (if t593 < 0 then (some false) else (if t593 = bt590.1 then ((laws_toTree.f kj61 a0_0 l0_1).bind fun bt594 => ((impl_TreeMap.f kj61 bt594.1 bt594.2).bind fun bt598 => ((laws_eqMap.f kj61 bt598.1 bt598.2.1 t560 t563).bind fun t606 => (if t606 = true then (laws_FnExactTreeMap.j2 kj61 bt590.1 (bt598.2.2 != t566) bt590.2.1 bt590.2.2) else (laws_FnExactTreeMap.j2 kj61 bt590.1 true bt590.2.1 bt590.2.2))))) else (some false))))) = some r := by rw [if_neg (show ¬ (false = true) by decide)] at H; exact H
         clear H
         have H := H1
         clear H1
         replace H := Option.bind_eq_some_iff.mp H
         obtain ⟨⟨t590, t591, t592⟩, A920, H⟩ := H
         replace H : ((laws_heldMap.f kj61 t591 t592 1).bind fun t593 => (if t593 < 0 then (some false) else (if t593 = t590 then ((laws_toTree.f kj61 a0_0 l0_1).bind fun bt594 => ((impl_TreeMap.f kj61 bt594.1 bt594.2).bind fun bt598 => ((laws_eqMap.f kj61 bt598.1 bt598.2.1 t560 t563).bind fun t606 => (if t606 = true then (laws_FnExactTreeMap.j2 kj61 t590 (bt598.2.2 != t566) t591 t592) else (laws_FnExactTreeMap.j2 kj61 t590 true t591 t592))))) else (some false)))) = some r := H
         have A92 := Aside0.mk A920
         clear A920
         replace H := Option.bind_eq_some_iff.mp H
         obtain ⟨t593, A930, H⟩ := H
         replace H : (if t593 < 0 then (some false) else (if t593 = t590 then ((laws_toTree.f kj61 a0_0 l0_1).bind fun bt594 => ((impl_TreeMap.f kj61 bt594.1 bt594.2).bind fun bt598 => ((laws_eqMap.f kj61 bt598.1 bt598.2.1 t560 t563).bind fun t606 => (if t606 = true then (laws_FnExactTreeMap.j2 kj61 t590 (bt598.2.2 != t566) t591 t592) else (laws_FnExactTreeMap.j2 kj61 t590 true t591 t592))))) else (some false))) = some r := H
         have A93 := Aside0.mk A930
         clear A930
         by_cases c94 : t593 < 0
         ·
          rw [if_pos c94] at H
          have c94b0 : decide (t593 < 0) = true := decide_eq_true c94
          clear c94
          obtain rfl := Option.some.inj H
          have hnb95 := NB580_554.out
          have hnc95 := NB554_580.out
          have hnb96 := NB580_567.out
          have hnc96 := NB567_580.out
          have hnb97 := NB580_572.out
          have hnc97 := NB572_580.out
          have hcz98_0 : wc.cell? ⟨gb580, 0, none⟩ = some (.slice Ao33 t573.length co33) := (blk_cell BK580.out 0).trans rfl
          have hcz98_1 : wc.cell? ⟨gb580, 1, none⟩ = some (.slice Ao38 t576.length co38) := (blk_cell BK580.out 1).trans rfl
          have hfz98_0 := blk_frozen BK580.out 0
          have hfz98_1 := blk_frozen BK580.out 1
          go_wp2_with (first | ((with_reducible refine gate_callee (f := 49) rfl ?_); refine goesL_ (some 64) rfl rfl Try.func49 (by kernel_rfl) rfl #[.agg #[.slice Ao33 t573.length co33, .slice Ao38 t576.length co38], .int .i64 1] rfl (by (try simp only [List.map_toArray, List.map_cons, List.map_nil]); first | done | rfl | (simp only [List.length_drop, List.length_take]; rfl)) ?_; (with_reducible refine (laws_markMap.calls kj61 (fun k_ => some k_ = (.slice Ao33 t573.length co33 : Value).ownBlock) (.slice Ao33 t573.length co33) t573 (fun k_ => some k_ = (.slice Ao38 t576.length co38 : Value).ownBlock) (.slice Ao38 t576.length co38) t576 1 t590 t591 t592 w _ ?side1 ?side2 ?side3 ?side4 ?side5 A92.out).mono ?_); (case side1 => repeat (first | (with_reducible first | exact HB.out | apply below_alloc | apply pw_below_drewN | apply below_drew1 | refine below_set ?_ GE554.out | refine below_set ?_ GE567.out | refine below_set ?_ GE572.out | refine below_set ?_ GE580.out) | exact HB.out)); (case side2 => exact Kd.R_tight rfl HO_581000.out); (case side3 => exact fun k_ e_ => (HO_581000.out.1 k_ e_.symm).2.2.2); (case side4 => exact Kd.R_tight rfl HO_581001.out); (case side5 => exact fun k_ e_ => (HO_581001.out.1 k_ e_.symm).2.2.2); rintro e w99 ⟨rfl, hy0, hy1, hb, hkp⟩; refine ⟨_, rfl, ?_⟩; have n0_ := Aside0.mk (Kd.R_mono (ok' := fun k_ => some k_ ≠ (.slice Ao23 t563.length co23 : Value).ownBlock ∧ some k_ ≠ (.slice Ao30 t588.length co30 : Value).ownBlock ∧ some k_ ≠ (.slice Ao33 t573.length co33 : Value).ownBlock ∧ some k_ ≠ (.slice Ao38 t576.length co38 : Value).ownBlock) (Kd.R_keptB (HO_568000.out) hkp (fun k_ hk_ hs_ => Or.elim hs_ (fun e_ => (hk_.2.2.1) e_) (fun e_ => (hk_.2.2.2) e_))) (fun k_ hk_ => ⟨hk_.1.1, hk_.1.2.1, hk_.1.2.2.1, hk_.1.2.2.2⟩)); have n1_ := Aside0.mk (Kd.R_mono (ok' := fun k_ => some k_ ≠ (.slice Ao20 t560.length co20 : Value).ownBlock ∧ some k_ ≠ (.slice Ao30 t588.length co30 : Value).ownBlock ∧ some k_ ≠ (.slice Ao33 t573.length co33 : Value).ownBlock ∧ some k_ ≠ (.slice Ao38 t576.length co38 : Value).ownBlock) (Kd.R_keptB (HO_568001.out) hkp (fun k_ hk_ hs_ => Or.elim hs_ (fun e_ => (hk_.2.2.1) e_) (fun e_ => (hk_.2.2.2) e_))) (fun k_ hk_ => ⟨hk_.1.1, hk_.1.2.1, hk_.1.2.2.1, hk_.1.2.2.2⟩)); have n2_ := Aside0.mk (Kd.R_mono (ok' := fun k_ => some k_ ≠ (.slice Ao20 t560.length co20 : Value).ownBlock ∧ some k_ ≠ (.slice Ao23 t563.length co23 : Value).ownBlock ∧ some k_ ≠ (.slice Ao33 t573.length co33 : Value).ownBlock ∧ some k_ ≠ (.slice Ao38 t576.length co38 : Value).ownBlock) (Kd.R_keptB (HO_573001.out) hkp (fun k_ hk_ hs_ => Or.elim hs_ (fun e_ => (hk_.2.2.1) e_) (fun e_ => (hk_.2.2.2) e_))) (fun k_ hk_ => ⟨hk_.1.1, hk_.1.2.1, hk_.1.2.2.1, hk_.1.2.2.2⟩)); have n3_ := Aside0.mk (Kd.R_reok rfl hy0 (fun k_ e_ => HO_581000.out.1 k_ e_)); have n4_ := Aside0.mk (Kd.R_reok rfl hy1 (fun k_ e_ => HO_581001.out.1 k_ e_)); have n5_ := Aside0.mk (blk_kept (by (with_reducible repeat (first | refine blk_drewN ?_ _ | refine blk_drew ?_ | refine blk_alloc ?_ _)); exact BK554.out) hkp (fun hs_ => Or.elim hs_ (fun e_ => (fun e_ => (Kd.R_ne HO_581000.out BK554.out (by decide)) e_) e_) (fun e_ => (fun e_ => (Kd.R_ne HO_581001.out BK554.out (by decide)) e_) e_))); have n6_ := Aside0.mk (blk_kept (by (with_reducible repeat (first | refine blk_drewN ?_ _ | refine blk_drew ?_ | refine blk_alloc ?_ _)); exact BK567.out) hkp (fun hs_ => Or.elim hs_ (fun e_ => (fun e_ => (Kd.R_ne HO_581000.out BK567.out (by decide)) e_) e_) (fun e_ => (fun e_ => (Kd.R_ne HO_581001.out BK567.out (by decide)) e_) e_))); have n7_ := Aside0.mk (blk_kept (by (with_reducible repeat (first | refine blk_drewN ?_ _ | refine blk_drew ?_ | refine blk_alloc ?_ _)); exact BK572.out) hkp (fun hs_ => Or.elim hs_ (fun e_ => (fun e_ => (Kd.R_ne HO_581000.out BK572.out (by decide)) e_) e_) (fun e_ => (fun e_ => (Kd.R_ne HO_581001.out BK572.out (by decide)) e_) e_))); have n8_ := Aside0.mk (blk_kept (by (with_reducible repeat (first | refine blk_drewN ?_ _ | refine blk_drew ?_ | refine blk_alloc ?_ _)); exact BK580.out) hkp (fun hs_ => Or.elim hs_ (fun e_ => (fun e_ => (Kd.R_ne HO_581000.out BK580.out (by decide)) e_) e_) (fun e_ => (fun e_ => (Kd.R_ne HO_581001.out BK580.out (by decide)) e_) e_))); have n9_ := Aside0.mk (hb); clear HO_568000; clear HO_568001; clear HO_573001; clear HO_581000; clear HO_581001; clear BK554; clear BK567; clear BK572; clear BK580; clear HB; have HO_568000 := n0_; have HO_568001 := n1_; have HO_573001 := n2_; have HO_581000 := n3_; have HO_581001 := n4_; have BK554 := n5_; have BK567 := n6_; have BK572 := n7_; have BK580 := n8_; have HB := n9_; clear n0_ n1_ n2_ n3_ n4_ n5_ n6_ n7_ n8_ n9_; (try clear hb); (try clear hkp); (try clear hy0); (try clear hy1); have hcz100_0 : w99.cell? ⟨gb580, 0, none⟩ = some (.slice Ao33 t573.length co33) := (blk_cell BK580.out 0).trans rfl; have hcz100_1 : w99.cell? ⟨gb580, 1, none⟩ = some (.slice Ao38 t576.length co38) := (blk_cell BK580.out 1).trans rfl; have hfz100_0 := blk_frozen BK580.out 0; have hfz100_1 := blk_frozen BK580.out 1) | ((with_reducible refine gate_callee (f := 50) rfl ?_); refine goesL_ (some 67) rfl rfl Try.func50 (by kernel_rfl) rfl #[.agg #[.slice Ao33 t591.length co33, .slice Ao38 t592.length co38], .int .i64 1] rfl (by (try simp only [List.map_toArray, List.map_cons, List.map_nil]); first | done | (rw [show t591.length = t573.length from (Kd.R_reads' HO_581000.out).1.symm, show t592.length = t576.length from (Kd.R_reads' HO_581001.out).1.symm] <;> rfl) | rfl | (simp only [List.length_drop, List.length_take]; rfl)) ?_; (with_reducible refine (laws_heldMap.calls kj61 _ _ t591 _ _ t592 1 t593 _ ?side1 ?side2 ?side3 ?side4 A93.out).mono ?_); (case side1 => repeat (first | exact (Kd.R_reads' HO_581000.out).2.2 | (with_reducible refine Kd.C_alloc ?_ _) | (with_reducible refine Kd.C_drewN ?_ _) | (with_reducible refine Kd.C_drew ?_))); (case side2 => rw [show t591.length = t573.length from (Kd.R_reads' HO_581000.out).1.symm]; exact (Kd.R_reads' HO_581000.out).2.1); (case side3 => repeat (first | exact (Kd.R_reads' HO_581001.out).2.2 | (with_reducible refine Kd.C_alloc ?_ _) | (with_reducible refine Kd.C_drewN ?_ _) | (with_reducible refine Kd.C_drew ?_))); (case side4 => rw [show t592.length = t576.length from (Kd.R_reads' HO_581001.out).1.symm]; exact (Kd.R_reads' HO_581001.out).2.1); rintro e w101 ⟨rfl, hb⟩; refine ⟨_, rfl, ?_⟩; have n0_ := Aside0.mk (Kd.R_below (by (with_reducible repeat (first | apply Kd.R_alloc | apply Kd.R_drewN | apply Kd.R_drew)); exact HO_568000.out) hb); have n1_ := Aside0.mk (Kd.R_below (by (with_reducible repeat (first | apply Kd.R_alloc | apply Kd.R_drewN | apply Kd.R_drew)); exact HO_568001.out) hb); have n2_ := Aside0.mk (Kd.R_below (by (with_reducible repeat (first | apply Kd.R_alloc | apply Kd.R_drewN | apply Kd.R_drew)); exact HO_573001.out) hb); have n3_ := Aside0.mk (Kd.R_below (by (with_reducible repeat (first | apply Kd.R_alloc | apply Kd.R_drewN | apply Kd.R_drew)); exact HO_581000.out) hb); have n4_ := Aside0.mk (Kd.R_below (by (with_reducible repeat (first | apply Kd.R_alloc | apply Kd.R_drewN | apply Kd.R_drew)); exact HO_581001.out) hb); have n5_ := Aside0.mk (blk_below (g := gb554) (o := .cells #[.string a0_0, .slice A0_1 l0_1.length c0_1] 32 (0, 0)) (by (with_reducible repeat (first | refine blk_drewN ?_ _ | refine blk_drew ?_ | refine blk_alloc ?_ _)); exact BK554.out) hb); have n6_ := Aside0.mk (blk_below (g := gb567) (o := .cells #[.slice Ao20 t560.length co20, .slice Ao23 t563.length co23] 51 (0, 0)) (by (with_reducible repeat (first | refine blk_drewN ?_ _ | refine blk_drew ?_ | refine blk_alloc ?_ _)); exact BK567.out) hb); have n7_ := Aside0.mk (blk_below (g := gb572) (o := .cells #[.string t568, .slice Ao30 t588.length co30] 35 (0, 0)) (by (with_reducible repeat (first | refine blk_drewN ?_ _ | refine blk_drew ?_ | refine blk_alloc ?_ _)); exact BK572.out) hb); have n8_ := Aside0.mk (blk_below (g := gb580) (o := .cells #[.slice Ao33 t573.length co33, .slice Ao38 t576.length co38] 51 (0, 0)) (by (with_reducible repeat (first | refine blk_drewN ?_ _ | refine blk_drew ?_ | refine blk_alloc ?_ _)); exact BK580.out) hb); have n9_ := Aside0.mk (below_step (by repeat (first | (with_reducible first | exact HB.out | apply below_alloc | apply pw_below_drewN | apply below_drew1 | refine below_set ?_ GE554.out | refine below_set ?_ GE567.out | refine below_set ?_ GE572.out | refine below_set ?_ GE580.out) | exact HB.out)) hb); clear HO_568000; clear HO_568001; clear HO_573001; clear HO_581000; clear HO_581001; clear BK554; clear BK567; clear BK572; clear BK580; clear HB; have HO_568000 := n0_; have HO_568001 := n1_; have HO_573001 := n2_; have HO_581000 := n3_; have HO_581001 := n4_; have BK554 := n5_; have BK567 := n6_; have BK572 := n7_; have BK580 := n8_; have HB := n9_; clear n0_ n1_ n2_ n3_ n4_ n5_ n6_ n7_ n8_ n9_; (try clear hb); (try clear hb2); (try clear hk); (try clear hi)))
          go_ret
          exact ⟨by first | rfl | (simp [errW_none, errW_some] <;> rfl) | (simp [*, errW_none, errW_some] <;> rfl), by repeat (first | (with_reducible first | exact HB.out | apply below_alloc | apply pw_below_drewN | apply below_drew1 | refine below_set ?_ GE554.out | refine below_set ?_ GE567.out | refine below_set ?_ GE572.out | refine below_set ?_ GE580.out) | exact HB.out)⟩
         ·
          rw [if_neg c94] at H
          have c94b0 : decide (t593 < 0) = false := decide_eq_false c94
          clear c94
          by_cases c102 : t593 = t590
          ·
           rw [if_pos c102] at H
           have c102b0 : (t593 == t590) = true := beq_iff_eq.mpr c102
           have c102b1 : (t593 != t590) = false := bne_eq_false_iff_eq.mpr c102
           clear c102
           replace H := Option.bind_eq_some_iff.mp H
           obtain ⟨⟨t594, t595⟩, A1030, H⟩ := H
           replace H : ((impl_TreeMap.f kj61 t594 t595).bind fun bt598 => ((laws_eqMap.f kj61 bt598.1 bt598.2.1 t560 t563).bind fun t606 => (if t606 = true then (laws_FnExactTreeMap.j2 kj61 t590 (bt598.2.2 != t566) t591 t592) else (laws_FnExactTreeMap.j2 kj61 t590 true t591 t592)))) = some r := H
           have A103 := Aside0.mk A1030
           clear A1030
           replace H := Option.bind_eq_some_iff.mp H
           obtain ⟨⟨t598, t601, t604⟩, A1040, H⟩ := H
           replace H : ((laws_eqMap.f kj61 t598 t601 t560 t563).bind fun t606 => (if t606 = true then (laws_FnExactTreeMap.j2 kj61 t590 (t604 != t566) t591 t592) else (laws_FnExactTreeMap.j2 kj61 t590 true t591 t592))) = some r := H
           have A104 := Aside0.mk A1040
           clear A1040
           have HC105 := Aside0.mk H
           clear H
           have hnb106 := NB580_554.out
           have hnc106 := NB554_580.out
           have hnb107 := NB580_567.out
           have hnc107 := NB567_580.out
           have hnb108 := NB580_572.out
           have hnc108 := NB572_580.out
           have hcz109_0 : wc.cell? ⟨gb580, 0, none⟩ = some (.slice Ao33 t573.length co33) := (blk_cell BK580.out 0).trans rfl
           have hcz109_1 : wc.cell? ⟨gb580, 1, none⟩ = some (.slice Ao38 t576.length co38) := (blk_cell BK580.out 1).trans rfl
           have hfz109_0 := blk_frozen BK580.out 0
           have hfz109_1 := blk_frozen BK580.out 1
           go_upto_region 25 with (first | ((with_reducible refine gate_callee (f := 49) rfl ?_); refine goesL_ (some 64) rfl rfl Try.func49 (by kernel_rfl) rfl #[.agg #[.slice Ao33 t573.length co33, .slice Ao38 t576.length co38], .int .i64 1] rfl (by (try simp only [List.map_toArray, List.map_cons, List.map_nil]); first | done | rfl | (simp only [List.length_drop, List.length_take]; rfl)) ?_; (with_reducible refine (laws_markMap.calls kj61 (fun k_ => some k_ = (.slice Ao33 t573.length co33 : Value).ownBlock) (.slice Ao33 t573.length co33) t573 (fun k_ => some k_ = (.slice Ao38 t576.length co38 : Value).ownBlock) (.slice Ao38 t576.length co38) t576 1 t590 t591 t592 w _ ?side1 ?side2 ?side3 ?side4 ?side5 A92.out).mono ?_); (case side1 => repeat (first | (with_reducible first | exact HB.out | apply below_alloc | apply pw_below_drewN | apply below_drew1 | refine below_set ?_ GE554.out | refine below_set ?_ GE567.out | refine below_set ?_ GE572.out | refine below_set ?_ GE580.out) | exact HB.out)); (case side2 => exact Kd.R_tight rfl HO_581000.out); (case side3 => exact fun k_ e_ => (HO_581000.out.1 k_ e_.symm).2.2.2); (case side4 => exact Kd.R_tight rfl HO_581001.out); (case side5 => exact fun k_ e_ => (HO_581001.out.1 k_ e_.symm).2.2.2); rintro e w110 ⟨rfl, hy0, hy1, hb, hkp⟩; refine ⟨_, rfl, ?_⟩; have n0_ := Aside0.mk (Kd.R_mono (ok' := fun k_ => some k_ ≠ (.slice Ao23 t563.length co23 : Value).ownBlock ∧ some k_ ≠ (.slice Ao30 t588.length co30 : Value).ownBlock ∧ some k_ ≠ (.slice Ao33 t573.length co33 : Value).ownBlock ∧ some k_ ≠ (.slice Ao38 t576.length co38 : Value).ownBlock) (Kd.R_keptB (HO_568000.out) hkp (fun k_ hk_ hs_ => Or.elim hs_ (fun e_ => (hk_.2.2.1) e_) (fun e_ => (hk_.2.2.2) e_))) (fun k_ hk_ => ⟨hk_.1.1, hk_.1.2.1, hk_.1.2.2.1, hk_.1.2.2.2⟩)); have n1_ := Aside0.mk (Kd.R_mono (ok' := fun k_ => some k_ ≠ (.slice Ao20 t560.length co20 : Value).ownBlock ∧ some k_ ≠ (.slice Ao30 t588.length co30 : Value).ownBlock ∧ some k_ ≠ (.slice Ao33 t573.length co33 : Value).ownBlock ∧ some k_ ≠ (.slice Ao38 t576.length co38 : Value).ownBlock) (Kd.R_keptB (HO_568001.out) hkp (fun k_ hk_ hs_ => Or.elim hs_ (fun e_ => (hk_.2.2.1) e_) (fun e_ => (hk_.2.2.2) e_))) (fun k_ hk_ => ⟨hk_.1.1, hk_.1.2.1, hk_.1.2.2.1, hk_.1.2.2.2⟩)); have n2_ := Aside0.mk (Kd.R_mono (ok' := fun k_ => some k_ ≠ (.slice Ao20 t560.length co20 : Value).ownBlock ∧ some k_ ≠ (.slice Ao23 t563.length co23 : Value).ownBlock ∧ some k_ ≠ (.slice Ao33 t573.length co33 : Value).ownBlock ∧ some k_ ≠ (.slice Ao38 t576.length co38 : Value).ownBlock) (Kd.R_keptB (HO_573001.out) hkp (fun k_ hk_ hs_ => Or.elim hs_ (fun e_ => (hk_.2.2.1) e_) (fun e_ => (hk_.2.2.2) e_))) (fun k_ hk_ => ⟨hk_.1.1, hk_.1.2.1, hk_.1.2.2.1, hk_.1.2.2.2⟩)); have n3_ := Aside0.mk (Kd.R_reok rfl hy0 (fun k_ e_ => HO_581000.out.1 k_ e_)); have n4_ := Aside0.mk (Kd.R_reok rfl hy1 (fun k_ e_ => HO_581001.out.1 k_ e_)); have n5_ := Aside0.mk (blk_kept (by (with_reducible repeat (first | refine blk_drewN ?_ _ | refine blk_drew ?_ | refine blk_alloc ?_ _)); exact BK554.out) hkp (fun hs_ => Or.elim hs_ (fun e_ => (fun e_ => (Kd.R_ne HO_581000.out BK554.out (by decide)) e_) e_) (fun e_ => (fun e_ => (Kd.R_ne HO_581001.out BK554.out (by decide)) e_) e_))); have n6_ := Aside0.mk (blk_kept (by (with_reducible repeat (first | refine blk_drewN ?_ _ | refine blk_drew ?_ | refine blk_alloc ?_ _)); exact BK567.out) hkp (fun hs_ => Or.elim hs_ (fun e_ => (fun e_ => (Kd.R_ne HO_581000.out BK567.out (by decide)) e_) e_) (fun e_ => (fun e_ => (Kd.R_ne HO_581001.out BK567.out (by decide)) e_) e_))); have n7_ := Aside0.mk (blk_kept (by (with_reducible repeat (first | refine blk_drewN ?_ _ | refine blk_drew ?_ | refine blk_alloc ?_ _)); exact BK572.out) hkp (fun hs_ => Or.elim hs_ (fun e_ => (fun e_ => (Kd.R_ne HO_581000.out BK572.out (by decide)) e_) e_) (fun e_ => (fun e_ => (Kd.R_ne HO_581001.out BK572.out (by decide)) e_) e_))); have n8_ := Aside0.mk (blk_kept (by (with_reducible repeat (first | refine blk_drewN ?_ _ | refine blk_drew ?_ | refine blk_alloc ?_ _)); exact BK580.out) hkp (fun hs_ => Or.elim hs_ (fun e_ => (fun e_ => (Kd.R_ne HO_581000.out BK580.out (by decide)) e_) e_) (fun e_ => (fun e_ => (Kd.R_ne HO_581001.out BK580.out (by decide)) e_) e_))); have n9_ := Aside0.mk (hb); clear HO_568000; clear HO_568001; clear HO_573001; clear HO_581000; clear HO_581001; clear BK554; clear BK567; clear BK572; clear BK580; clear HB; have HO_568000 := n0_; have HO_568001 := n1_; have HO_573001 := n2_; have HO_581000 := n3_; have HO_581001 := n4_; have BK554 := n5_; have BK567 := n6_; have BK572 := n7_; have BK580 := n8_; have HB := n9_; clear n0_ n1_ n2_ n3_ n4_ n5_ n6_ n7_ n8_ n9_; (try clear hb); (try clear hkp); (try clear hy0); (try clear hy1); have hcz111_0 : w110.cell? ⟨gb580, 0, none⟩ = some (.slice Ao33 t573.length co33) := (blk_cell BK580.out 0).trans rfl; have hcz111_1 : w110.cell? ⟨gb580, 1, none⟩ = some (.slice Ao38 t576.length co38) := (blk_cell BK580.out 1).trans rfl; have hfz111_0 := blk_frozen BK580.out 0; have hfz111_1 := blk_frozen BK580.out 1) | ((with_reducible refine gate_callee (f := 50) rfl ?_); refine goesL_ (some 67) rfl rfl Try.func50 (by kernel_rfl) rfl #[.agg #[.slice Ao33 t591.length co33, .slice Ao38 t592.length co38], .int .i64 1] rfl (by (try simp only [List.map_toArray, List.map_cons, List.map_nil]); first | done | (rw [show t591.length = t573.length from (Kd.R_reads' HO_581000.out).1.symm, show t592.length = t576.length from (Kd.R_reads' HO_581001.out).1.symm] <;> rfl) | rfl | (simp only [List.length_drop, List.length_take]; rfl)) ?_; (with_reducible refine (laws_heldMap.calls kj61 _ _ t591 _ _ t592 1 t593 _ ?side1 ?side2 ?side3 ?side4 A93.out).mono ?_); (case side1 => repeat (first | exact (Kd.R_reads' HO_581000.out).2.2 | (with_reducible refine Kd.C_alloc ?_ _) | (with_reducible refine Kd.C_drewN ?_ _) | (with_reducible refine Kd.C_drew ?_))); (case side2 => rw [show t591.length = t573.length from (Kd.R_reads' HO_581000.out).1.symm]; exact (Kd.R_reads' HO_581000.out).2.1); (case side3 => repeat (first | exact (Kd.R_reads' HO_581001.out).2.2 | (with_reducible refine Kd.C_alloc ?_ _) | (with_reducible refine Kd.C_drewN ?_ _) | (with_reducible refine Kd.C_drew ?_))); (case side4 => rw [show t592.length = t576.length from (Kd.R_reads' HO_581001.out).1.symm]; exact (Kd.R_reads' HO_581001.out).2.1); rintro e w112 ⟨rfl, hb⟩; refine ⟨_, rfl, ?_⟩; have n0_ := Aside0.mk (Kd.R_below (by (with_reducible repeat (first | apply Kd.R_alloc | apply Kd.R_drewN | apply Kd.R_drew)); exact HO_568000.out) hb); have n1_ := Aside0.mk (Kd.R_below (by (with_reducible repeat (first | apply Kd.R_alloc | apply Kd.R_drewN | apply Kd.R_drew)); exact HO_568001.out) hb); have n2_ := Aside0.mk (Kd.R_below (by (with_reducible repeat (first | apply Kd.R_alloc | apply Kd.R_drewN | apply Kd.R_drew)); exact HO_573001.out) hb); have n3_ := Aside0.mk (Kd.R_below (by (with_reducible repeat (first | apply Kd.R_alloc | apply Kd.R_drewN | apply Kd.R_drew)); exact HO_581000.out) hb); have n4_ := Aside0.mk (Kd.R_below (by (with_reducible repeat (first | apply Kd.R_alloc | apply Kd.R_drewN | apply Kd.R_drew)); exact HO_581001.out) hb); have n5_ := Aside0.mk (blk_below (g := gb554) (o := .cells #[.string a0_0, .slice A0_1 l0_1.length c0_1] 32 (0, 0)) (by (with_reducible repeat (first | refine blk_drewN ?_ _ | refine blk_drew ?_ | refine blk_alloc ?_ _)); exact BK554.out) hb); have n6_ := Aside0.mk (blk_below (g := gb567) (o := .cells #[.slice Ao20 t560.length co20, .slice Ao23 t563.length co23] 51 (0, 0)) (by (with_reducible repeat (first | refine blk_drewN ?_ _ | refine blk_drew ?_ | refine blk_alloc ?_ _)); exact BK567.out) hb); have n7_ := Aside0.mk (blk_below (g := gb572) (o := .cells #[.string t568, .slice Ao30 t588.length co30] 35 (0, 0)) (by (with_reducible repeat (first | refine blk_drewN ?_ _ | refine blk_drew ?_ | refine blk_alloc ?_ _)); exact BK572.out) hb); have n8_ := Aside0.mk (blk_below (g := gb580) (o := .cells #[.slice Ao33 t573.length co33, .slice Ao38 t576.length co38] 51 (0, 0)) (by (with_reducible repeat (first | refine blk_drewN ?_ _ | refine blk_drew ?_ | refine blk_alloc ?_ _)); exact BK580.out) hb); have n9_ := Aside0.mk (below_step (by repeat (first | (with_reducible first | exact HB.out | apply below_alloc | apply pw_below_drewN | apply below_drew1 | refine below_set ?_ GE554.out | refine below_set ?_ GE567.out | refine below_set ?_ GE572.out | refine below_set ?_ GE580.out) | exact HB.out)) hb); clear HO_568000; clear HO_568001; clear HO_573001; clear HO_581000; clear HO_581001; clear BK554; clear BK567; clear BK572; clear BK580; clear HB; have HO_568000 := n0_; have HO_568001 := n1_; have HO_573001 := n2_; have HO_581000 := n3_; have HO_581001 := n4_; have BK554 := n5_; have BK567 := n6_; have BK572 := n7_; have BK580 := n8_; have HB := n9_; clear n0_ n1_ n2_ n3_ n4_ n5_ n6_ n7_ n8_ n9_; (try clear hb); (try clear hb2); (try clear hk); (try clear hi); have hnb113 := NB554_567.out; have hnc113 := NB567_554.out; have hnb114 := NB554_572.out; have hnc114 := NB572_554.out; have hcz115_0 : w112.cell? ⟨gb554, 0, none⟩ = some (.string a0_0) := (blk_cell BK554.out 0).trans rfl; have hcz115_1 : w112.cell? ⟨gb554, 1, none⟩ = some (.slice A0_1 l0_1.length c0_1) := (blk_cell BK554.out 1).trans rfl; have hfz115_0 := blk_frozen BK554.out 0; have hfz115_1 := blk_frozen BK554.out 1) | ((with_reducible refine gate_callee (f := 27) rfl ?_); refine goesL_ (some 75) rfl rfl Try.func27 (by kernel_rfl) rfl #[.agg #[.string a0_0, .slice A0_1 l0_1.length c0_1]] rfl (by (try simp only [List.map_toArray, List.map_cons, List.map_nil]); first | done | rfl | (simp only [List.length_drop, List.length_take]; rfl)) ?_; (with_reducible refine (laws_toTree.calls kj61 a0_0 _ _ l0_1 t594 t595 _ ?side1 ?side2 A103.out).mono ?_); (case side1 => repeat (first | exact (Kd.C_below HR0_1.out HB.out) | (with_reducible refine Kd.C_alloc ?_ _) | (with_reducible refine Kd.C_drewN ?_ _) | (with_reducible refine Kd.C_drew ?_))); (case side2 => exact HC0_1.out); rintro e w116 ⟨v596, rfl, ho0, hb⟩; refine ⟨_, rfl, ?_⟩; have n0_ := Aside0.mk (Kd.R_elder' (by (with_reducible repeat (first | apply Kd.R_alloc | apply Kd.R_drewN | apply Kd.R_drew)); exact HO_568000.out) (Kd.R_base ho0) hb); have n1_ := Aside0.mk (Kd.R_elder' (by (with_reducible repeat (first | apply Kd.R_alloc | apply Kd.R_drewN | apply Kd.R_drew)); exact HO_568001.out) (Kd.R_base ho0) hb); have n2_ := Aside0.mk (Kd.R_elder' (by (with_reducible repeat (first | apply Kd.R_alloc | apply Kd.R_drewN | apply Kd.R_drew)); exact HO_573001.out) (Kd.R_base ho0) hb); have n3_ := Aside0.mk (Kd.R_elder' (by (with_reducible repeat (first | apply Kd.R_alloc | apply Kd.R_drewN | apply Kd.R_drew)); exact HO_581000.out) (Kd.R_base ho0) hb); have n4_ := Aside0.mk (Kd.R_elder' (by (with_reducible repeat (first | apply Kd.R_alloc | apply Kd.R_drewN | apply Kd.R_drew)); exact HO_581001.out) (Kd.R_base ho0) hb); have n5_ := Aside0.mk (Kd.R_lower (Kd.R_new' (Kd.R_new' (Kd.R_new' (Kd.R_new' (Kd.R_new' ho0 (Kd.R_lt (by (with_reducible repeat (first | apply Kd.R_alloc | apply Kd.R_drewN | apply Kd.R_drew)); exact HO_568000.out))) (Kd.R_lt (by (with_reducible repeat (first | apply Kd.R_alloc | apply Kd.R_drewN | apply Kd.R_drew)); exact HO_568001.out))) (Kd.R_lt (by (with_reducible repeat (first | apply Kd.R_alloc | apply Kd.R_drewN | apply Kd.R_drew)); exact HO_573001.out))) (Kd.R_lt (by (with_reducible repeat (first | apply Kd.R_alloc | apply Kd.R_drewN | apply Kd.R_drew)); exact HO_581000.out))) (Kd.R_lt (by (with_reducible repeat (first | apply Kd.R_alloc | apply Kd.R_drewN | apply Kd.R_drew)); exact HO_581001.out))) (below_size (by repeat (first | (with_reducible first | exact HB.out | apply below_alloc | apply pw_below_drewN | apply below_drew1 | refine below_set ?_ GE554.out | refine below_set ?_ GE567.out | refine below_set ?_ GE572.out | refine below_set ?_ GE580.out) | exact HB.out)))); have n6_ := Aside0.mk (blk_below (g := gb554) (o := .cells #[.string a0_0, .slice A0_1 l0_1.length c0_1] 32 (0, 0)) (by (with_reducible repeat (first | refine blk_drewN ?_ _ | refine blk_drew ?_ | refine blk_alloc ?_ _)); exact BK554.out) hb); have n7_ := Aside0.mk (blk_below (g := gb567) (o := .cells #[.slice Ao20 t560.length co20, .slice Ao23 t563.length co23] 51 (0, 0)) (by (with_reducible repeat (first | refine blk_drewN ?_ _ | refine blk_drew ?_ | refine blk_alloc ?_ _)); exact BK567.out) hb); have n8_ := Aside0.mk (blk_below (g := gb572) (o := .cells #[.string t568, .slice Ao30 t588.length co30] 35 (0, 0)) (by (with_reducible repeat (first | refine blk_drewN ?_ _ | refine blk_drew ?_ | refine blk_alloc ?_ _)); exact BK572.out) hb); have n9_ := Aside0.mk (blk_below (g := gb580) (o := .cells #[.slice Ao33 t573.length co33, .slice Ao38 t576.length co38] 51 (0, 0)) (by (with_reducible repeat (first | refine blk_drewN ?_ _ | refine blk_drew ?_ | refine blk_alloc ?_ _)); exact BK580.out) hb); have n10_ := Aside0.mk (below_step (by repeat (first | (with_reducible first | exact HB.out | apply below_alloc | apply pw_below_drewN | apply below_drew1 | refine below_set ?_ GE554.out | refine below_set ?_ GE567.out | refine below_set ?_ GE572.out | refine below_set ?_ GE580.out) | exact HB.out)) hb); clear HO_568000; clear HO_568001; clear HO_573001; clear HO_581000; clear HO_581001; clear BK554; clear BK567; clear BK572; clear BK580; clear HB; have HO_568000 := n0_; have HO_568001 := n1_; have HO_573001 := n2_; have HO_581000 := n3_; have HO_581001 := n4_; have HO597 := n5_; have BK554 := n6_; have BK567 := n7_; have BK572 := n8_; have BK580 := n9_; have HB := n10_; clear n0_ n1_ n2_ n3_ n4_ n5_ n6_ n7_ n8_ n9_ n10_; (try clear hb); (try clear hb2); (try clear hk); (try clear hi); (try clear ho0); obtain ⟨Ao117, co117, eo117⟩ := Kd.R_slice HO597.out; subst eo117) | ((with_reducible refine gate_callee (f := 43) rfl ?_); refine goesL_ (some 76) rfl rfl Try.func43 (by kernel_rfl) rfl #[.agg #[.string t594, .slice Ao117 t595.length co117]] rfl (by (try simp only [List.map_toArray, List.map_cons, List.map_nil]); first | done | rfl | (simp only [List.length_drop, List.length_take]; rfl)) ?_; (with_reducible refine (impl_TreeMap.calls kj61 t594 _ _ t595 t598 t601 t604 _ ?side1 ?side2 A104.out).mono ?_); (case side1 => repeat (first | exact (Kd.R_reads' HO597.out).2.2 | (with_reducible refine Kd.C_alloc ?_ _) | (with_reducible refine Kd.C_drewN ?_ _) | (with_reducible refine Kd.C_drew ?_))); (case side2 => exact (Kd.R_reads' HO597.out).2.1); rintro e w118 ⟨v599, v602, rfl, ho0, ho1, hb⟩; refine ⟨_, rfl, ?_⟩; have n0_ := Aside0.mk (Kd.R_mono (Kd.R_told (Kd.R_told (Kd.R_old (by (with_reducible repeat (first | apply Kd.R_alloc | apply Kd.R_drewN | apply Kd.R_drew)); exact HO_568000.out) hb) (Kd.R_base ho0)) (Kd.R_base ho1)) (fun _ h_ => h_.1)); have n1_ := Aside0.mk (Kd.R_mono (Kd.R_told (Kd.R_told (Kd.R_old (by (with_reducible repeat (first | apply Kd.R_alloc | apply Kd.R_drewN | apply Kd.R_drew)); exact HO_568001.out) hb) (Kd.R_base ho0)) (Kd.R_base ho1)) (fun _ h_ => h_.1)); have n2_ := Aside0.mk (Kd.R_mono (Kd.R_told (Kd.R_told (Kd.R_old (by (with_reducible repeat (first | apply Kd.R_alloc | apply Kd.R_drewN | apply Kd.R_drew)); exact HO_573001.out) hb) (Kd.R_base ho0)) (Kd.R_base ho1)) (fun _ h_ => h_.1)); have n3_ := Aside0.mk (Kd.R_mono (Kd.R_told (Kd.R_told (Kd.R_old (by (with_reducible repeat (first | apply Kd.R_alloc | apply Kd.R_drewN | apply Kd.R_drew)); exact HO_581000.out) hb) (Kd.R_base ho0)) (Kd.R_base ho1)) (fun _ h_ => h_.1)); have n4_ := Aside0.mk (Kd.R_mono (Kd.R_told (Kd.R_told (Kd.R_old (by (with_reducible repeat (first | apply Kd.R_alloc | apply Kd.R_drewN | apply Kd.R_drew)); exact HO_581001.out) hb) (Kd.R_base ho0)) (Kd.R_base ho1)) (fun _ h_ => h_.1)); have n5_ := Aside0.mk (Kd.R_mono (Kd.R_told (Kd.R_told (Kd.R_old (by (with_reducible repeat (first | apply Kd.R_alloc | apply Kd.R_drewN | apply Kd.R_drew)); exact HO597.out) hb) (Kd.R_base ho0)) (Kd.R_base ho1)) (fun _ h_ => h_.1)); have n6_ := Aside0.mk (Kd.R_lower (Kd.R_new' (Kd.R_new' (Kd.R_new' (Kd.R_new' (Kd.R_new' (Kd.R_new' ho0 (Kd.R_lt (by (with_reducible repeat (first | apply Kd.R_alloc | apply Kd.R_drewN | apply Kd.R_drew)); exact HO_568000.out))) (Kd.R_lt (by (with_reducible repeat (first | apply Kd.R_alloc | apply Kd.R_drewN | apply Kd.R_drew)); exact HO_568001.out))) (Kd.R_lt (by (with_reducible repeat (first | apply Kd.R_alloc | apply Kd.R_drewN | apply Kd.R_drew)); exact HO_573001.out))) (Kd.R_lt (by (with_reducible repeat (first | apply Kd.R_alloc | apply Kd.R_drewN | apply Kd.R_drew)); exact HO_581000.out))) (Kd.R_lt (by (with_reducible repeat (first | apply Kd.R_alloc | apply Kd.R_drewN | apply Kd.R_drew)); exact HO_581001.out))) (Kd.R_lt (by (with_reducible repeat (first | apply Kd.R_alloc | apply Kd.R_drewN | apply Kd.R_drew)); exact HO597.out))) (below_size (by repeat (first | (with_reducible first | exact HB.out | apply below_alloc | apply pw_below_drewN | apply below_drew1 | refine below_set ?_ GE554.out | refine below_set ?_ GE567.out | refine below_set ?_ GE572.out | refine below_set ?_ GE580.out) | exact HB.out)))); have n7_ := Aside0.mk (Kd.R_lower (Kd.R_new' (Kd.R_new' (Kd.R_new' (Kd.R_new' (Kd.R_new' (Kd.R_new' ho1 (Kd.R_lt (by (with_reducible repeat (first | apply Kd.R_alloc | apply Kd.R_drewN | apply Kd.R_drew)); exact HO_568000.out))) (Kd.R_lt (by (with_reducible repeat (first | apply Kd.R_alloc | apply Kd.R_drewN | apply Kd.R_drew)); exact HO_568001.out))) (Kd.R_lt (by (with_reducible repeat (first | apply Kd.R_alloc | apply Kd.R_drewN | apply Kd.R_drew)); exact HO_573001.out))) (Kd.R_lt (by (with_reducible repeat (first | apply Kd.R_alloc | apply Kd.R_drewN | apply Kd.R_drew)); exact HO_581000.out))) (Kd.R_lt (by (with_reducible repeat (first | apply Kd.R_alloc | apply Kd.R_drewN | apply Kd.R_drew)); exact HO_581001.out))) (Kd.R_lt (by (with_reducible repeat (first | apply Kd.R_alloc | apply Kd.R_drewN | apply Kd.R_drew)); exact HO597.out))) (below_size (by repeat (first | (with_reducible first | exact HB.out | apply below_alloc | apply pw_below_drewN | apply below_drew1 | refine below_set ?_ GE554.out | refine below_set ?_ GE567.out | refine below_set ?_ GE572.out | refine below_set ?_ GE580.out) | exact HB.out)))); have n8_ := Aside0.mk (blk_below (g := gb554) (o := .cells #[.string a0_0, .slice A0_1 l0_1.length c0_1] 32 (0, 0)) (by (with_reducible repeat (first | refine blk_drewN ?_ _ | refine blk_drew ?_ | refine blk_alloc ?_ _)); exact BK554.out) hb); have n9_ := Aside0.mk (blk_below (g := gb567) (o := .cells #[.slice Ao20 t560.length co20, .slice Ao23 t563.length co23] 51 (0, 0)) (by (with_reducible repeat (first | refine blk_drewN ?_ _ | refine blk_drew ?_ | refine blk_alloc ?_ _)); exact BK567.out) hb); have n10_ := Aside0.mk (blk_below (g := gb572) (o := .cells #[.string t568, .slice Ao30 t588.length co30] 35 (0, 0)) (by (with_reducible repeat (first | refine blk_drewN ?_ _ | refine blk_drew ?_ | refine blk_alloc ?_ _)); exact BK572.out) hb); have n11_ := Aside0.mk (blk_below (g := gb580) (o := .cells #[.slice Ao33 t573.length co33, .slice Ao38 t576.length co38] 51 (0, 0)) (by (with_reducible repeat (first | refine blk_drewN ?_ _ | refine blk_drew ?_ | refine blk_alloc ?_ _)); exact BK580.out) hb); have n12_ := Aside0.mk (below_step (by repeat (first | (with_reducible first | exact HB.out | apply below_alloc | apply pw_below_drewN | apply below_drew1 | refine below_set ?_ GE554.out | refine below_set ?_ GE567.out | refine below_set ?_ GE572.out | refine below_set ?_ GE580.out) | exact HB.out)) hb); clear HO_568000; clear HO_568001; clear HO_573001; clear HO_581000; clear HO_581001; clear HO597; clear BK554; clear BK567; clear BK572; clear BK580; clear HB; have HO_568000 := n0_; have HO_568001 := n1_; have HO_573001 := n2_; have HO_581000 := n3_; have HO_581001 := n4_; have HO597 := n5_; have HO600 := n6_; have HO603 := n7_; have BK554 := n8_; have BK567 := n9_; have BK572 := n10_; have BK580 := n11_; have HB := n12_; clear n0_ n1_ n2_ n3_ n4_ n5_ n6_ n7_ n8_ n9_ n10_ n11_ n12_; (try clear hb); (try clear hb2); (try clear hk); (try clear hi); (try clear ho0); (try clear ho1)) | ((with_reducible refine gate_dst (N := 12) rfl ?_); refine box_event ?hg (N := 12) ?hd (cs := #[.slice none 0 0, .slice none 0 0]) (t := 51) ?hr ?_; (case hd => rfl); (case hg => rfl); (case hr => first | (go_simp; done) | (go_simp; rfl)); intro gb605 hg w119 hbox hb; have n0_ := Aside0.mk (Kd.R_below (by (with_reducible repeat (first | apply Kd.R_alloc | apply Kd.R_drewN | apply Kd.R_drew)); exact HO_568000.out) hb); have n1_ := Aside0.mk (Kd.R_below (by (with_reducible repeat (first | apply Kd.R_alloc | apply Kd.R_drewN | apply Kd.R_drew)); exact HO_568001.out) hb); have n2_ := Aside0.mk (Kd.R_below (by (with_reducible repeat (first | apply Kd.R_alloc | apply Kd.R_drewN | apply Kd.R_drew)); exact HO_573001.out) hb); have n3_ := Aside0.mk (Kd.R_below (by (with_reducible repeat (first | apply Kd.R_alloc | apply Kd.R_drewN | apply Kd.R_drew)); exact HO_581000.out) hb); have n4_ := Aside0.mk (Kd.R_below (by (with_reducible repeat (first | apply Kd.R_alloc | apply Kd.R_drewN | apply Kd.R_drew)); exact HO_581001.out) hb); have n5_ := Aside0.mk (Kd.R_below (by (with_reducible repeat (first | apply Kd.R_alloc | apply Kd.R_drewN | apply Kd.R_drew)); exact HO597.out) hb); have n6_ := Aside0.mk (Kd.R_below (by (with_reducible repeat (first | apply Kd.R_alloc | apply Kd.R_drewN | apply Kd.R_drew)); exact HO600.out) hb); have n7_ := Aside0.mk (Kd.R_below (by (with_reducible repeat (first | apply Kd.R_alloc | apply Kd.R_drewN | apply Kd.R_drew)); exact HO603.out) hb); have n8_ := Aside0.mk (blk_below (g := gb554) (o := .cells #[.string a0_0, .slice A0_1 l0_1.length c0_1] 32 (0, 0)) (by (with_reducible repeat (first | refine blk_drewN ?_ _ | refine blk_drew ?_ | refine blk_alloc ?_ _)); exact BK554.out) hb); have n9_ := Aside0.mk (blk_below (g := gb567) (o := .cells #[.slice Ao20 t560.length co20, .slice Ao23 t563.length co23] 51 (0, 0)) (by (with_reducible repeat (first | refine blk_drewN ?_ _ | refine blk_drew ?_ | refine blk_alloc ?_ _)); exact BK567.out) hb); have n10_ := Aside0.mk (blk_below (g := gb572) (o := .cells #[.string t568, .slice Ao30 t588.length co30] 35 (0, 0)) (by (with_reducible repeat (first | refine blk_drewN ?_ _ | refine blk_drew ?_ | refine blk_alloc ?_ _)); exact BK572.out) hb); have n11_ := Aside0.mk (blk_below (g := gb580) (o := .cells #[.slice Ao33 t573.length co33, .slice Ao38 t576.length co38] 51 (0, 0)) (by (with_reducible repeat (first | refine blk_drewN ?_ _ | refine blk_drew ?_ | refine blk_alloc ?_ _)); exact BK580.out) hb); have n12_ := Aside0.mk (below_step (by repeat (first | (with_reducible first | exact HB.out | apply below_alloc | apply pw_below_drewN | apply below_drew1 | refine below_set ?_ GE554.out | refine below_set ?_ GE567.out | refine below_set ?_ GE572.out | refine below_set ?_ GE580.out) | exact HB.out)) hb); have n13_ := Aside0.mk (hbox); have n14_ := Aside0.mk ((by rw [hg]; exact (below_size (by repeat (first | (with_reducible first | exact HB.out | apply below_alloc | apply pw_below_drewN | apply below_drew1 | refine below_set ?_ GE554.out | refine below_set ?_ GE567.out | refine below_set ?_ GE572.out | refine below_set ?_ GE580.out) | exact HB.out))) : w.heap.size ≤ gb605)); have n15_ := Aside0.mk ((by rw [hg]; exact (below_size (by repeat (first | (with_reducible first | exact HB.out | apply below_alloc | apply pw_below_drewN | apply below_drew1 | refine below_set ?_ GE554.out | refine below_set ?_ GE567.out | refine below_set ?_ GE572.out | refine below_set ?_ GE580.out) | exact HB.out))) : w.heap.size ≤ gb605)); have n16_ := Aside0.mk ((by rw [hg]; exact Nat.ne_of_lt (blk_lt (g := gb554) (o := .cells #[.string a0_0, .slice A0_1 l0_1.length c0_1] 32 (0, 0)) (by (with_reducible repeat (first | refine blk_drewN ?_ _ | refine blk_drew ?_ | refine blk_alloc ?_ _)); exact BK554.out)) : gb554 ≠ gb605)); have n17_ := Aside0.mk ((by rw [hg]; exact Nat.ne_of_gt (blk_lt (g := gb554) (o := .cells #[.string a0_0, .slice A0_1 l0_1.length c0_1] 32 (0, 0)) (by (with_reducible repeat (first | refine blk_drewN ?_ _ | refine blk_drew ?_ | refine blk_alloc ?_ _)); exact BK554.out)) : gb605 ≠ gb554)); have n18_ := Aside0.mk ((by rw [hg]; exact Nat.ne_of_lt (blk_lt (g := gb567) (o := .cells #[.slice Ao20 t560.length co20, .slice Ao23 t563.length co23] 51 (0, 0)) (by (with_reducible repeat (first | refine blk_drewN ?_ _ | refine blk_drew ?_ | refine blk_alloc ?_ _)); exact BK567.out)) : gb567 ≠ gb605)); have n19_ := Aside0.mk ((by rw [hg]; exact Nat.ne_of_gt (blk_lt (g := gb567) (o := .cells #[.slice Ao20 t560.length co20, .slice Ao23 t563.length co23] 51 (0, 0)) (by (with_reducible repeat (first | refine blk_drewN ?_ _ | refine blk_drew ?_ | refine blk_alloc ?_ _)); exact BK567.out)) : gb605 ≠ gb567)); have n20_ := Aside0.mk ((by rw [hg]; exact Nat.ne_of_lt (blk_lt (g := gb572) (o := .cells #[.string t568, .slice Ao30 t588.length co30] 35 (0, 0)) (by (with_reducible repeat (first | refine blk_drewN ?_ _ | refine blk_drew ?_ | refine blk_alloc ?_ _)); exact BK572.out)) : gb572 ≠ gb605)); have n21_ := Aside0.mk ((by rw [hg]; exact Nat.ne_of_gt (blk_lt (g := gb572) (o := .cells #[.string t568, .slice Ao30 t588.length co30] 35 (0, 0)) (by (with_reducible repeat (first | refine blk_drewN ?_ _ | refine blk_drew ?_ | refine blk_alloc ?_ _)); exact BK572.out)) : gb605 ≠ gb572)); have n22_ := Aside0.mk ((by rw [hg]; exact Nat.ne_of_lt (blk_lt (g := gb580) (o := .cells #[.slice Ao33 t573.length co33, .slice Ao38 t576.length co38] 51 (0, 0)) (by (with_reducible repeat (first | refine blk_drewN ?_ _ | refine blk_drew ?_ | refine blk_alloc ?_ _)); exact BK580.out)) : gb580 ≠ gb605)); have n23_ := Aside0.mk ((by rw [hg]; exact Nat.ne_of_gt (blk_lt (g := gb580) (o := .cells #[.slice Ao33 t573.length co33, .slice Ao38 t576.length co38] 51 (0, 0)) (by (with_reducible repeat (first | refine blk_drewN ?_ _ | refine blk_drew ?_ | refine blk_alloc ?_ _)); exact BK580.out)) : gb605 ≠ gb580)); clear HO_568000; clear HO_568001; clear HO_573001; clear HO_581000; clear HO_581001; clear HO597; clear HO600; clear HO603; clear BK554; clear BK567; clear BK572; clear BK580; clear HB; have HO_568000 := n0_; have HO_568001 := n1_; have HO_573001 := n2_; have HO_581000 := n3_; have HO_581001 := n4_; have HO597 := n5_; have HO600 := n6_; have HO603 := n7_; have BK554 := n8_; have BK567 := n9_; have BK572 := n10_; have BK580 := n11_; have HB := n12_; have BK605 := n13_; have GW605 := n14_; have GE605 := n15_; have NB554_605 := n16_; have NB605_554 := n17_; have NB567_605 := n18_; have NB605_567 := n19_; have NB572_605 := n20_; have NB605_572 := n21_; have NB580_605 := n22_; have NB605_580 := n23_; clear n0_ n1_ n2_ n3_ n4_ n5_ n6_ n7_ n8_ n9_ n10_ n11_ n12_ n13_ n14_ n15_ n16_ n17_ n18_ n19_ n20_ n21_ n22_ n23_; clear hb hbox hg; obtain ⟨Ao120, co120, eo120⟩ := Kd.R_slice HO600.out; subst eo120; have hnb121 := NB605_554.out; have hnc121 := NB554_605.out; have hnb122 := NB605_567.out; have hnc122 := NB567_605.out; have hnb123 := NB605_572.out; have hnc123 := NB572_605.out; have hnb124 := NB605_580.out; have hnc124 := NB580_605.out; have hcz125_0 : w119.cell? ⟨gb605, 0, none⟩ = some (.slice none 0 0) := (blk_cell BK605.out 0).trans rfl; have hcz125_1 : w119.cell? ⟨gb605, 1, none⟩ = some (.slice none 0 0) := (blk_cell BK605.out 1).trans rfl; have hfz125_0 := blk_frozen BK605.out 0; have hfz125_1 := blk_frozen BK605.out 1; obtain ⟨Ao126, co126, eo126⟩ := Kd.R_slice HO603.out; subst eo126))
           (try simp only [Act.put, List.setIfInBounds_toArray, List.set_cons_zero, List.set_cons_succ])
           go_cut [87] (fun v87 wc => ∃ (kq : Nat) (x87_104 : Bool), v87 = .bool x87_104 ∧ Aside0 (laws_FnExactTreeMap.j2 kq t590 x87_104 t591 t592 = some r) ∧ Aside0 (kq ≤ kj61) ∧ Aside0 (Kd.R (Kd.int .i64) 3 wc w.heap.size (fun k_ => some k_ ≠ ((.slice Ao23 t563.length co23) : Value).ownBlock ∧ some k_ ≠ ((.slice Ao30 t588.length co30) : Value).ownBlock ∧ some k_ ≠ ((.slice Ao33 t573.length co33) : Value).ownBlock ∧ some k_ ≠ ((.slice Ao38 t576.length co38) : Value).ownBlock ∧ some k_ ≠ ((.slice Ao120 t598.length co120) : Value).ownBlock ∧ some k_ ≠ ((.slice Ao126 t601.length co126) : Value).ownBlock) (.slice Ao20 t560.length co20) t560) ∧ Aside0 (Kd.R (Kd.int .i64) 3 wc w.heap.size (fun k_ => some k_ ≠ ((.slice Ao20 t560.length co20) : Value).ownBlock ∧ some k_ ≠ ((.slice Ao30 t588.length co30) : Value).ownBlock ∧ some k_ ≠ ((.slice Ao33 t573.length co33) : Value).ownBlock ∧ some k_ ≠ ((.slice Ao38 t576.length co38) : Value).ownBlock ∧ some k_ ≠ ((.slice Ao120 t598.length co120) : Value).ownBlock ∧ some k_ ≠ ((.slice Ao126 t601.length co126) : Value).ownBlock) (.slice Ao23 t563.length co23) t563) ∧ Aside0 (Kd.R (Kd.int .i64) 3 wc w.heap.size (fun k_ => some k_ ≠ ((.slice Ao20 t560.length co20) : Value).ownBlock ∧ some k_ ≠ ((.slice Ao23 t563.length co23) : Value).ownBlock ∧ some k_ ≠ ((.slice Ao33 t573.length co33) : Value).ownBlock ∧ some k_ ≠ ((.slice Ao38 t576.length co38) : Value).ownBlock ∧ some k_ ≠ ((.slice Ao120 t598.length co120) : Value).ownBlock ∧ some k_ ≠ ((.slice Ao126 t601.length co126) : Value).ownBlock) (.slice Ao30 t588.length co30) t588) ∧ Aside0 (Kd.R (Kd.int .i64) 3 wc w.heap.size (fun k_ => some k_ ≠ ((.slice Ao20 t560.length co20) : Value).ownBlock ∧ some k_ ≠ ((.slice Ao23 t563.length co23) : Value).ownBlock ∧ some k_ ≠ ((.slice Ao30 t588.length co30) : Value).ownBlock ∧ some k_ ≠ ((.slice Ao38 t576.length co38) : Value).ownBlock ∧ some k_ ≠ ((.slice Ao120 t598.length co120) : Value).ownBlock ∧ some k_ ≠ ((.slice Ao126 t601.length co126) : Value).ownBlock) (.slice Ao33 t573.length co33) t591) ∧ Aside0 (Kd.R (Kd.int .i64) 3 wc w.heap.size (fun k_ => some k_ ≠ ((.slice Ao20 t560.length co20) : Value).ownBlock ∧ some k_ ≠ ((.slice Ao23 t563.length co23) : Value).ownBlock ∧ some k_ ≠ ((.slice Ao30 t588.length co30) : Value).ownBlock ∧ some k_ ≠ ((.slice Ao33 t573.length co33) : Value).ownBlock ∧ some k_ ≠ ((.slice Ao120 t598.length co120) : Value).ownBlock ∧ some k_ ≠ ((.slice Ao126 t601.length co126) : Value).ownBlock) (.slice Ao38 t576.length co38) t592) ∧ Aside0 (Kd.R (Kd.int .i64) 3 wc w.heap.size (fun k_ => some k_ ≠ ((.slice Ao20 t560.length co20) : Value).ownBlock ∧ some k_ ≠ ((.slice Ao23 t563.length co23) : Value).ownBlock ∧ some k_ ≠ ((.slice Ao30 t588.length co30) : Value).ownBlock ∧ some k_ ≠ ((.slice Ao33 t573.length co33) : Value).ownBlock ∧ some k_ ≠ ((.slice Ao38 t576.length co38) : Value).ownBlock ∧ some k_ ≠ ((.slice Ao126 t601.length co126) : Value).ownBlock) (.slice Ao120 t598.length co120) t598) ∧ Aside0 (Kd.R (Kd.int .i64) 3 wc w.heap.size (fun k_ => some k_ ≠ ((.slice Ao20 t560.length co20) : Value).ownBlock ∧ some k_ ≠ ((.slice Ao23 t563.length co23) : Value).ownBlock ∧ some k_ ≠ ((.slice Ao30 t588.length co30) : Value).ownBlock ∧ some k_ ≠ ((.slice Ao33 t573.length co33) : Value).ownBlock ∧ some k_ ≠ ((.slice Ao38 t576.length co38) : Value).ownBlock ∧ some k_ ≠ ((.slice Ao120 t598.length co120) : Value).ownBlock) (.slice Ao126 t601.length co126) t601) ∧ Aside0 (wc.heap[gb554]? = some (.cells #[.string a0_0, (.slice A0_1 l0_1.length c0_1)] 32 (0, 0))) ∧ Aside0 (wc.heap[gb567]? = some (.cells #[(.slice Ao20 t560.length co20), (.slice Ao23 t563.length co23)] 51 (0, 0))) ∧ Aside0 (wc.heap[gb572]? = some (.cells #[.string t568, (.slice Ao30 t588.length co30)] 35 (0, 0))) ∧ Aside0 (wc.heap[gb580]? = some (.cells #[(.slice Ao33 t573.length co33), (.slice Ao38 t576.length co38)] 51 (0, 0))) ∧ Aside0 (wc.heap[gb605]? = some (.cells #[(.slice Ao120 t598.length co120), (.slice Ao126 t601.length co126)] 51 (0, 0))) ∧ Aside0 (Below w.heap.size w wc))
           case first =>
            have H := HC105.out
            clear HC105
            replace H := Option.bind_eq_some_iff.mp H
            obtain ⟨t606, A1270, H⟩ := H
            replace H : (if t606 = true then (laws_FnExactTreeMap.j2 kj61 t590 (t604 != t566) t591 t592) else (laws_FnExactTreeMap.j2 kj61 t590 true t591 t592)) = some r := H
            have A127 := Aside0.mk A1270
            clear A1270
            by_cases c128 : t606 = true
            ·
             subst c128
             have H1 : (laws_FnExactTreeMap.j2 kj61 t590 (t604 != t566) t591 t592) = some r := by rw [if_pos rfl] at H; exact H
             clear H
             have H := H1
             clear H1
             have H' := Aside0.mk H
             clear H
             have hnb129 := NB605_554.out
             have hnc129 := NB554_605.out
             have hnb130 := NB605_567.out
             have hnc130 := NB567_605.out
             have hnb131 := NB605_572.out
             have hnc131 := NB572_605.out
             have hnb132 := NB605_580.out
             have hnc132 := NB580_605.out
             have hcz133_0 : w119.cell? ⟨gb605, 0, none⟩ = some (.slice none 0 0) := (blk_cell BK605.out 0).trans rfl
             have hcz133_1 : w119.cell? ⟨gb605, 1, none⟩ = some (.slice none 0 0) := (blk_cell BK605.out 1).trans rfl
             have hfz133_0 := blk_frozen BK605.out 0
             have hfz133_1 := blk_frozen BK605.out 1
             have hnb134 := NB567_554.out
             have hnc134 := NB554_567.out
             have hnb135 := NB567_572.out
             have hnc135 := NB572_567.out
             have hnb136 := NB567_580.out
             have hnc136 := NB580_567.out
             have hcz137_0 : w119.cell? ⟨gb567, 0, none⟩ = some (.slice Ao20 t560.length co20) := (blk_cell BK567.out 0).trans rfl
             have hcz137_1 : w119.cell? ⟨gb567, 1, none⟩ = some (.slice Ao23 t563.length co23) := (blk_cell BK567.out 1).trans rfl
             have hfz137_0 := blk_frozen BK567.out 0
             have hfz137_1 := blk_frozen BK567.out 1
             go_wp2_with (first | ((with_reducible refine gate_callee (f := 48) rfl ?_); refine goesL_ (some 81) rfl rfl Try.func48 (by kernel_rfl) rfl #[.agg #[.slice Ao120 t598.length co120, .slice Ao126 t601.length co126], .agg #[.slice Ao20 t560.length co20, .slice Ao23 t563.length co23]] rfl (by (try simp only [List.map_toArray, List.map_cons, List.map_nil]); first | done | rfl | (simp only [List.length_drop, List.length_take]; rfl)) ?_; (with_reducible refine (laws_eqMap.calls kj61 _ _ t598 _ _ t601 _ _ t560 _ _ t563 true _ ?side1 ?side2 ?side3 ?side4 ?side5 ?side6 ?side7 ?side8 A127.out).mono ?_); (case side1 => refine (Kd.R_reads' (e := 3) (base := w.heap.size) (ok := fun k_ => ((((((some k_ ≠ (.slice Ao126 t601.length co126 : Value).ownBlock ∧ some k_ ≠ (.slice Ao20 t560.length co20 : Value).ownBlock) ∧ some k_ ≠ (.slice Ao23 t563.length co23 : Value).ownBlock) ∧ some k_ ≠ (.slice Ao30 t588.length co30 : Value).ownBlock) ∧ some k_ ≠ (.slice Ao33 t573.length co33 : Value).ownBlock) ∧ some k_ ≠ (.slice Ao38 t576.length co38 : Value).ownBlock) ∧ some k_ ≠ (.slice Ao117 t595.length co117 : Value).ownBlock)) (n := t598.length) (c := co120) ?_).2.2; exact (by (with_reducible repeat (first | apply Kd.R_alloc | apply Kd.R_drewN | apply Kd.R_drew)); exact (Kd.R_mono (Kd.R_far (p := ⟨gb605, 1, none⟩) (Kd.R_far (p := ⟨gb605, 0, none⟩) (Kd.R_types HO600.out BK605.out (by decide)) (fun _ hk => hk.2) (.slice Ao120 t598.length co120)) (fun _ hk => hk.2) (.slice Ao126 t601.length co126)) (fun _ h_ => h_.1)))); (case side2 => exact (Kd.R_reads' HO600.out).2.1); (case side3 => refine (Kd.R_reads' (e := 3) (base := w.heap.size) (ok := fun k_ => ((((((some k_ ≠ (.slice Ao120 t598.length co120 : Value).ownBlock ∧ some k_ ≠ (.slice Ao20 t560.length co20 : Value).ownBlock) ∧ some k_ ≠ (.slice Ao23 t563.length co23 : Value).ownBlock) ∧ some k_ ≠ (.slice Ao30 t588.length co30 : Value).ownBlock) ∧ some k_ ≠ (.slice Ao33 t573.length co33 : Value).ownBlock) ∧ some k_ ≠ (.slice Ao38 t576.length co38 : Value).ownBlock) ∧ some k_ ≠ (.slice Ao117 t595.length co117 : Value).ownBlock)) (n := t601.length) (c := co126) ?_).2.2; exact (by (with_reducible repeat (first | apply Kd.R_alloc | apply Kd.R_drewN | apply Kd.R_drew)); exact (Kd.R_mono (Kd.R_far (p := ⟨gb605, 1, none⟩) (Kd.R_far (p := ⟨gb605, 0, none⟩) (Kd.R_types HO603.out BK605.out (by decide)) (fun _ hk => hk.2) (.slice Ao120 t598.length co120)) (fun _ hk => hk.2) (.slice Ao126 t601.length co126)) (fun _ h_ => h_.1)))); (case side4 => exact (Kd.R_reads' HO603.out).2.1); (case side5 => refine (Kd.R_reads' (e := 3) (base := w.heap.size) (ok := fun k_ => ((((some k_ ≠ (.slice Ao23 t563.length co23 : Value).ownBlock ∧ (some k_ ≠ (.slice Ao30 t588.length co30 : Value).ownBlock ∧ (some k_ ≠ (.slice Ao33 t573.length co33 : Value).ownBlock ∧ some k_ ≠ (.slice Ao38 t576.length co38 : Value).ownBlock))) ∧ some k_ ≠ (.slice Ao117 t595.length co117 : Value).ownBlock) ∧ some k_ ≠ (.slice Ao120 t598.length co120 : Value).ownBlock) ∧ some k_ ≠ (.slice Ao126 t601.length co126 : Value).ownBlock)) (n := t560.length) (c := co20) ?_).2.2; exact (by (with_reducible repeat (first | apply Kd.R_alloc | apply Kd.R_drewN | apply Kd.R_drew)); exact (Kd.R_mono (Kd.R_far (p := ⟨gb605, 1, none⟩) (Kd.R_far (p := ⟨gb605, 0, none⟩) (Kd.R_types HO_568000.out BK605.out (by decide)) (fun _ hk => hk.2) (.slice Ao120 t598.length co120)) (fun _ hk => hk.2) (.slice Ao126 t601.length co126)) (fun _ h_ => h_.1)))); (case side6 => exact (Kd.R_reads' HO_568000.out).2.1); (case side7 => refine (Kd.R_reads' (e := 3) (base := w.heap.size) (ok := fun k_ => ((((some k_ ≠ (.slice Ao20 t560.length co20 : Value).ownBlock ∧ (some k_ ≠ (.slice Ao30 t588.length co30 : Value).ownBlock ∧ (some k_ ≠ (.slice Ao33 t573.length co33 : Value).ownBlock ∧ some k_ ≠ (.slice Ao38 t576.length co38 : Value).ownBlock))) ∧ some k_ ≠ (.slice Ao117 t595.length co117 : Value).ownBlock) ∧ some k_ ≠ (.slice Ao120 t598.length co120 : Value).ownBlock) ∧ some k_ ≠ (.slice Ao126 t601.length co126 : Value).ownBlock)) (n := t563.length) (c := co23) ?_).2.2; exact (by (with_reducible repeat (first | apply Kd.R_alloc | apply Kd.R_drewN | apply Kd.R_drew)); exact (Kd.R_mono (Kd.R_far (p := ⟨gb605, 1, none⟩) (Kd.R_far (p := ⟨gb605, 0, none⟩) (Kd.R_types HO_568001.out BK605.out (by decide)) (fun _ hk => hk.2) (.slice Ao120 t598.length co120)) (fun _ hk => hk.2) (.slice Ao126 t601.length co126)) (fun _ h_ => h_.1)))); (case side8 => exact (Kd.R_reads' HO_568001.out).2.1); rintro e w138 ⟨rfl, hb⟩; refine ⟨_, rfl, ?_⟩; have n0_ := Aside0.mk (Kd.R_below (by (with_reducible repeat (first | apply Kd.R_alloc | apply Kd.R_drewN | apply Kd.R_drew)); exact (Kd.R_mono (Kd.R_far (p := ⟨gb605, 1, none⟩) (Kd.R_far (p := ⟨gb605, 0, none⟩) (Kd.R_types HO_568000.out BK605.out (by decide)) (fun _ hk => hk.2) (.slice Ao120 t598.length co120)) (fun _ hk => hk.2) (.slice Ao126 t601.length co126)) (fun _ h_ => h_.1))) hb); have n1_ := Aside0.mk (Kd.R_below (by (with_reducible repeat (first | apply Kd.R_alloc | apply Kd.R_drewN | apply Kd.R_drew)); exact (Kd.R_mono (Kd.R_far (p := ⟨gb605, 1, none⟩) (Kd.R_far (p := ⟨gb605, 0, none⟩) (Kd.R_types HO_568001.out BK605.out (by decide)) (fun _ hk => hk.2) (.slice Ao120 t598.length co120)) (fun _ hk => hk.2) (.slice Ao126 t601.length co126)) (fun _ h_ => h_.1))) hb); have n2_ := Aside0.mk (Kd.R_below (by (with_reducible repeat (first | apply Kd.R_alloc | apply Kd.R_drewN | apply Kd.R_drew)); exact (Kd.R_mono (Kd.R_far (p := ⟨gb605, 1, none⟩) (Kd.R_far (p := ⟨gb605, 0, none⟩) (Kd.R_types HO_573001.out BK605.out (by decide)) (fun _ hk => hk.2) (.slice Ao120 t598.length co120)) (fun _ hk => hk.2) (.slice Ao126 t601.length co126)) (fun _ h_ => h_.1))) hb); have n3_ := Aside0.mk (Kd.R_below (by (with_reducible repeat (first | apply Kd.R_alloc | apply Kd.R_drewN | apply Kd.R_drew)); exact (Kd.R_mono (Kd.R_far (p := ⟨gb605, 1, none⟩) (Kd.R_far (p := ⟨gb605, 0, none⟩) (Kd.R_types HO_581000.out BK605.out (by decide)) (fun _ hk => hk.2) (.slice Ao120 t598.length co120)) (fun _ hk => hk.2) (.slice Ao126 t601.length co126)) (fun _ h_ => h_.1))) hb); have n4_ := Aside0.mk (Kd.R_below (by (with_reducible repeat (first | apply Kd.R_alloc | apply Kd.R_drewN | apply Kd.R_drew)); exact (Kd.R_mono (Kd.R_far (p := ⟨gb605, 1, none⟩) (Kd.R_far (p := ⟨gb605, 0, none⟩) (Kd.R_types HO_581001.out BK605.out (by decide)) (fun _ hk => hk.2) (.slice Ao120 t598.length co120)) (fun _ hk => hk.2) (.slice Ao126 t601.length co126)) (fun _ h_ => h_.1))) hb); have n5_ := Aside0.mk (Kd.R_below (by (with_reducible repeat (first | apply Kd.R_alloc | apply Kd.R_drewN | apply Kd.R_drew)); exact (Kd.R_mono (Kd.R_far (p := ⟨gb605, 1, none⟩) (Kd.R_far (p := ⟨gb605, 0, none⟩) (Kd.R_types HO597.out BK605.out (by decide)) (fun _ hk => hk.2) (.slice Ao120 t598.length co120)) (fun _ hk => hk.2) (.slice Ao126 t601.length co126)) (fun _ h_ => h_.1))) hb); have n6_ := Aside0.mk (Kd.R_below (by (with_reducible repeat (first | apply Kd.R_alloc | apply Kd.R_drewN | apply Kd.R_drew)); exact (Kd.R_mono (Kd.R_far (p := ⟨gb605, 1, none⟩) (Kd.R_far (p := ⟨gb605, 0, none⟩) (Kd.R_types HO600.out BK605.out (by decide)) (fun _ hk => hk.2) (.slice Ao120 t598.length co120)) (fun _ hk => hk.2) (.slice Ao126 t601.length co126)) (fun _ h_ => h_.1))) hb); have n7_ := Aside0.mk (Kd.R_below (by (with_reducible repeat (first | apply Kd.R_alloc | apply Kd.R_drewN | apply Kd.R_drew)); exact (Kd.R_mono (Kd.R_far (p := ⟨gb605, 1, none⟩) (Kd.R_far (p := ⟨gb605, 0, none⟩) (Kd.R_types HO603.out BK605.out (by decide)) (fun _ hk => hk.2) (.slice Ao120 t598.length co120)) (fun _ hk => hk.2) (.slice Ao126 t601.length co126)) (fun _ h_ => h_.1))) hb); have n8_ := Aside0.mk (blk_below (g := gb554) (o := .cells #[.string a0_0, .slice A0_1 l0_1.length c0_1] 32 (0, 0)) (by (with_reducible repeat (first | refine blk_drewN ?_ _ | refine blk_drew ?_ | refine blk_alloc ?_ _)); refine blk_far ?_ NB554_605.out _; (with_reducible repeat (first | refine blk_drewN ?_ _ | refine blk_drew ?_ | refine blk_alloc ?_ _)); refine blk_far ?_ NB554_605.out _; (with_reducible repeat (first | refine blk_drewN ?_ _ | refine blk_drew ?_ | refine blk_alloc ?_ _)); exact BK554.out) hb); have n9_ := Aside0.mk (blk_below (g := gb567) (o := .cells #[.slice Ao20 t560.length co20, .slice Ao23 t563.length co23] 51 (0, 0)) (by (with_reducible repeat (first | refine blk_drewN ?_ _ | refine blk_drew ?_ | refine blk_alloc ?_ _)); refine blk_far ?_ NB567_605.out _; (with_reducible repeat (first | refine blk_drewN ?_ _ | refine blk_drew ?_ | refine blk_alloc ?_ _)); refine blk_far ?_ NB567_605.out _; (with_reducible repeat (first | refine blk_drewN ?_ _ | refine blk_drew ?_ | refine blk_alloc ?_ _)); exact BK567.out) hb); have n10_ := Aside0.mk (blk_below (g := gb572) (o := .cells #[.string t568, .slice Ao30 t588.length co30] 35 (0, 0)) (by (with_reducible repeat (first | refine blk_drewN ?_ _ | refine blk_drew ?_ | refine blk_alloc ?_ _)); refine blk_far ?_ NB572_605.out _; (with_reducible repeat (first | refine blk_drewN ?_ _ | refine blk_drew ?_ | refine blk_alloc ?_ _)); refine blk_far ?_ NB572_605.out _; (with_reducible repeat (first | refine blk_drewN ?_ _ | refine blk_drew ?_ | refine blk_alloc ?_ _)); exact BK572.out) hb); have n11_ := Aside0.mk (blk_below (g := gb580) (o := .cells #[.slice Ao33 t573.length co33, .slice Ao38 t576.length co38] 51 (0, 0)) (by (with_reducible repeat (first | refine blk_drewN ?_ _ | refine blk_drew ?_ | refine blk_alloc ?_ _)); refine blk_far ?_ NB580_605.out _; (with_reducible repeat (first | refine blk_drewN ?_ _ | refine blk_drew ?_ | refine blk_alloc ?_ _)); refine blk_far ?_ NB580_605.out _; (with_reducible repeat (first | refine blk_drewN ?_ _ | refine blk_drew ?_ | refine blk_alloc ?_ _)); exact BK580.out) hb); have n12_ := Aside0.mk (blk_below (g := gb605) (o := .cells #[.slice Ao120 t598.length co120, .slice Ao126 t601.length co126] 51 (0, 0)) (by (with_reducible repeat (first | refine blk_drewN ?_ _ | refine blk_drew ?_ | refine blk_alloc ?_ _)); refine blk_put (cs := #[.slice Ao120 t598.length co120, .slice none 0 0]) ?_ 1 _ rfl; (with_reducible repeat (first | refine blk_drewN ?_ _ | refine blk_drew ?_ | refine blk_alloc ?_ _)); refine blk_put (cs := #[.slice none 0 0, .slice none 0 0]) ?_ 0 _ rfl; (with_reducible repeat (first | refine blk_drewN ?_ _ | refine blk_drew ?_ | refine blk_alloc ?_ _)); exact BK605.out) hb); have n13_ := Aside0.mk (below_step (by repeat (first | (with_reducible first | exact HB.out | apply below_alloc | apply pw_below_drewN | apply below_drew1 | refine below_set ?_ GE554.out | refine below_set ?_ GE567.out | refine below_set ?_ GE572.out | refine below_set ?_ GE580.out | refine below_set ?_ GE605.out) | exact HB.out)) hb); clear HO_568000; clear HO_568001; clear HO_573001; clear HO_581000; clear HO_581001; clear HO597; clear HO600; clear HO603; clear BK554; clear BK567; clear BK572; clear BK580; clear BK605; clear HB; have HO_568000 := n0_; have HO_568001 := n1_; have HO_573001 := n2_; have HO_581000 := n3_; have HO_581001 := n4_; have HO597 := n5_; have HO600 := n6_; have HO603 := n7_; have BK554 := n8_; have BK567 := n9_; have BK572 := n10_; have BK580 := n11_; have BK605 := n12_; have HB := n13_; clear n0_ n1_ n2_ n3_ n4_ n5_ n6_ n7_ n8_ n9_ n10_ n11_ n12_ n13_; (try clear hb); (try clear hb2); (try clear hk); (try clear hi)))
             go_meet
             case rel => exact ⟨_, ((t604 != t566)), (by first | rfl | (simp; done) | (simp [*]; done)), H', ⟨by have := HJ10.out; have := HJ61.out; first | omega | exact Nat.le_refl _⟩, ⟨by (try simp only [hl573001_61]); (with_reducible repeat (first | apply Kd.R_alloc | apply Kd.R_drewN | apply Kd.R_drew)); exact Kd.R_mono HO_568000.out (fun _ hk => ⟨hk.1.1.1.1, ⟨hk.1.1.1.2.1, ⟨hk.1.1.1.2.2.1, ⟨hk.1.1.1.2.2.2, ⟨hk.1.2, hk.2⟩⟩⟩⟩⟩)⟩, ⟨by (try simp only [hl573001_61]); (with_reducible repeat (first | apply Kd.R_alloc | apply Kd.R_drewN | apply Kd.R_drew)); exact Kd.R_mono HO_568001.out (fun _ hk => ⟨hk.1.1.1.1, ⟨hk.1.1.1.2.1, ⟨hk.1.1.1.2.2.1, ⟨hk.1.1.1.2.2.2, ⟨hk.1.2, hk.2⟩⟩⟩⟩⟩)⟩, ⟨by (try simp only [hl573001_61]); (with_reducible repeat (first | apply Kd.R_alloc | apply Kd.R_drewN | apply Kd.R_drew)); exact Kd.R_mono HO_573001.out (fun _ hk => ⟨hk.1.1.1.1, ⟨hk.1.1.1.2.1, ⟨hk.1.1.1.2.2.1, ⟨hk.1.1.1.2.2.2, ⟨hk.1.2, hk.2⟩⟩⟩⟩⟩)⟩, ⟨by (try simp only [hl573001_61]); (with_reducible repeat (first | apply Kd.R_alloc | apply Kd.R_drewN | apply Kd.R_drew)); exact Kd.R_mono HO_581000.out (fun _ hk => ⟨hk.1.1.1.1, ⟨hk.1.1.1.2.1, ⟨hk.1.1.1.2.2.1, ⟨hk.1.1.1.2.2.2, ⟨hk.1.2, hk.2⟩⟩⟩⟩⟩)⟩, ⟨by (try simp only [hl573001_61]); (with_reducible repeat (first | apply Kd.R_alloc | apply Kd.R_drewN | apply Kd.R_drew)); exact Kd.R_mono HO_581001.out (fun _ hk => ⟨hk.1.1.1.1, ⟨hk.1.1.1.2.1, ⟨hk.1.1.1.2.2.1, ⟨hk.1.1.1.2.2.2, ⟨hk.1.2, hk.2⟩⟩⟩⟩⟩)⟩, ⟨by (try simp only [hl573001_61]); (with_reducible repeat (first | apply Kd.R_alloc | apply Kd.R_drewN | apply Kd.R_drew)); exact Kd.R_mono HO600.out (fun _ hk => ⟨hk.1.1.1.1.1.2, ⟨hk.1.1.1.1.2, ⟨hk.1.1.1.2, ⟨hk.1.1.2, ⟨hk.1.2, hk.1.1.1.1.1.1⟩⟩⟩⟩⟩)⟩, ⟨by (try simp only [hl573001_61]); (with_reducible repeat (first | apply Kd.R_alloc | apply Kd.R_drewN | apply Kd.R_drew)); exact Kd.R_mono HO603.out (fun _ hk => ⟨hk.1.1.1.1.1.2, ⟨hk.1.1.1.1.2, ⟨hk.1.1.1.2, ⟨hk.1.1.2, ⟨hk.1.2, hk.1.1.1.1.1.1⟩⟩⟩⟩⟩)⟩, ⟨by (try simp only [hl573001_61]); (with_reducible repeat (first | refine blk_drewN ?_ _ | refine blk_drew ?_ | refine blk_alloc ?_ _)); exact BK554.out⟩, ⟨by (try simp only [hl573001_61]); (with_reducible repeat (first | refine blk_drewN ?_ _ | refine blk_drew ?_ | refine blk_alloc ?_ _)); exact BK567.out⟩, ⟨by (try simp only [hl573001_61]); (with_reducible repeat (first | refine blk_drewN ?_ _ | refine blk_drew ?_ | refine blk_alloc ?_ _)); exact BK572.out⟩, ⟨by (try simp only [hl573001_61]); (with_reducible repeat (first | refine blk_drewN ?_ _ | refine blk_drew ?_ | refine blk_alloc ?_ _)); exact BK580.out⟩, ⟨by (try simp only [hl573001_61]); (with_reducible repeat (first | refine blk_drewN ?_ _ | refine blk_drew ?_ | refine blk_alloc ?_ _)); exact BK605.out⟩, ⟨by repeat (first | (with_reducible first | exact HB.out | apply below_alloc | apply pw_below_drewN | apply below_drew1 | refine below_set ?_ GE554.out | refine below_set ?_ GE567.out | refine below_set ?_ GE572.out | refine below_set ?_ GE580.out | refine below_set ?_ GE605.out) | exact HB.out)⟩⟩
            ·
             replace c128 := Bool.eq_false_iff.mpr c128
             subst c128
             have H1 : (laws_FnExactTreeMap.j2 kj61 t590 true t591 t592) = some r := by rw [if_neg (show ¬ (false = true) by decide)] at H; exact H
             clear H
             have H := H1
             clear H1
             have H' := Aside0.mk H
             clear H
             have hnb139 := NB605_554.out
             have hnc139 := NB554_605.out
             have hnb140 := NB605_567.out
             have hnc140 := NB567_605.out
             have hnb141 := NB605_572.out
             have hnc141 := NB572_605.out
             have hnb142 := NB605_580.out
             have hnc142 := NB580_605.out
             have hcz143_0 : w119.cell? ⟨gb605, 0, none⟩ = some (.slice none 0 0) := (blk_cell BK605.out 0).trans rfl
             have hcz143_1 : w119.cell? ⟨gb605, 1, none⟩ = some (.slice none 0 0) := (blk_cell BK605.out 1).trans rfl
             have hfz143_0 := blk_frozen BK605.out 0
             have hfz143_1 := blk_frozen BK605.out 1
             have hnb144 := NB567_554.out
             have hnc144 := NB554_567.out
             have hnb145 := NB567_572.out
             have hnc145 := NB572_567.out
             have hnb146 := NB567_580.out
             have hnc146 := NB580_567.out
             have hcz147_0 : w119.cell? ⟨gb567, 0, none⟩ = some (.slice Ao20 t560.length co20) := (blk_cell BK567.out 0).trans rfl
             have hcz147_1 : w119.cell? ⟨gb567, 1, none⟩ = some (.slice Ao23 t563.length co23) := (blk_cell BK567.out 1).trans rfl
             have hfz147_0 := blk_frozen BK567.out 0
             have hfz147_1 := blk_frozen BK567.out 1
             go_wp2_with (first | ((with_reducible refine gate_callee (f := 48) rfl ?_); refine goesL_ (some 81) rfl rfl Try.func48 (by kernel_rfl) rfl #[.agg #[.slice Ao120 t598.length co120, .slice Ao126 t601.length co126], .agg #[.slice Ao20 t560.length co20, .slice Ao23 t563.length co23]] rfl (by (try simp only [List.map_toArray, List.map_cons, List.map_nil]); first | done | rfl | (simp only [List.length_drop, List.length_take]; rfl)) ?_; (with_reducible refine (laws_eqMap.calls kj61 _ _ t598 _ _ t601 _ _ t560 _ _ t563 false _ ?side1 ?side2 ?side3 ?side4 ?side5 ?side6 ?side7 ?side8 A127.out).mono ?_); (case side1 => refine (Kd.R_reads' (e := 3) (base := w.heap.size) (ok := fun k_ => ((((((some k_ ≠ (.slice Ao126 t601.length co126 : Value).ownBlock ∧ some k_ ≠ (.slice Ao20 t560.length co20 : Value).ownBlock) ∧ some k_ ≠ (.slice Ao23 t563.length co23 : Value).ownBlock) ∧ some k_ ≠ (.slice Ao30 t588.length co30 : Value).ownBlock) ∧ some k_ ≠ (.slice Ao33 t573.length co33 : Value).ownBlock) ∧ some k_ ≠ (.slice Ao38 t576.length co38 : Value).ownBlock) ∧ some k_ ≠ (.slice Ao117 t595.length co117 : Value).ownBlock)) (n := t598.length) (c := co120) ?_).2.2; exact (by (with_reducible repeat (first | apply Kd.R_alloc | apply Kd.R_drewN | apply Kd.R_drew)); exact (Kd.R_mono (Kd.R_far (p := ⟨gb605, 1, none⟩) (Kd.R_far (p := ⟨gb605, 0, none⟩) (Kd.R_types HO600.out BK605.out (by decide)) (fun _ hk => hk.2) (.slice Ao120 t598.length co120)) (fun _ hk => hk.2) (.slice Ao126 t601.length co126)) (fun _ h_ => h_.1)))); (case side2 => exact (Kd.R_reads' HO600.out).2.1); (case side3 => refine (Kd.R_reads' (e := 3) (base := w.heap.size) (ok := fun k_ => ((((((some k_ ≠ (.slice Ao120 t598.length co120 : Value).ownBlock ∧ some k_ ≠ (.slice Ao20 t560.length co20 : Value).ownBlock) ∧ some k_ ≠ (.slice Ao23 t563.length co23 : Value).ownBlock) ∧ some k_ ≠ (.slice Ao30 t588.length co30 : Value).ownBlock) ∧ some k_ ≠ (.slice Ao33 t573.length co33 : Value).ownBlock) ∧ some k_ ≠ (.slice Ao38 t576.length co38 : Value).ownBlock) ∧ some k_ ≠ (.slice Ao117 t595.length co117 : Value).ownBlock)) (n := t601.length) (c := co126) ?_).2.2; exact (by (with_reducible repeat (first | apply Kd.R_alloc | apply Kd.R_drewN | apply Kd.R_drew)); exact (Kd.R_mono (Kd.R_far (p := ⟨gb605, 1, none⟩) (Kd.R_far (p := ⟨gb605, 0, none⟩) (Kd.R_types HO603.out BK605.out (by decide)) (fun _ hk => hk.2) (.slice Ao120 t598.length co120)) (fun _ hk => hk.2) (.slice Ao126 t601.length co126)) (fun _ h_ => h_.1)))); (case side4 => exact (Kd.R_reads' HO603.out).2.1); (case side5 => refine (Kd.R_reads' (e := 3) (base := w.heap.size) (ok := fun k_ => ((((some k_ ≠ (.slice Ao23 t563.length co23 : Value).ownBlock ∧ (some k_ ≠ (.slice Ao30 t588.length co30 : Value).ownBlock ∧ (some k_ ≠ (.slice Ao33 t573.length co33 : Value).ownBlock ∧ some k_ ≠ (.slice Ao38 t576.length co38 : Value).ownBlock))) ∧ some k_ ≠ (.slice Ao117 t595.length co117 : Value).ownBlock) ∧ some k_ ≠ (.slice Ao120 t598.length co120 : Value).ownBlock) ∧ some k_ ≠ (.slice Ao126 t601.length co126 : Value).ownBlock)) (n := t560.length) (c := co20) ?_).2.2; exact (by (with_reducible repeat (first | apply Kd.R_alloc | apply Kd.R_drewN | apply Kd.R_drew)); exact (Kd.R_mono (Kd.R_far (p := ⟨gb605, 1, none⟩) (Kd.R_far (p := ⟨gb605, 0, none⟩) (Kd.R_types HO_568000.out BK605.out (by decide)) (fun _ hk => hk.2) (.slice Ao120 t598.length co120)) (fun _ hk => hk.2) (.slice Ao126 t601.length co126)) (fun _ h_ => h_.1)))); (case side6 => exact (Kd.R_reads' HO_568000.out).2.1); (case side7 => refine (Kd.R_reads' (e := 3) (base := w.heap.size) (ok := fun k_ => ((((some k_ ≠ (.slice Ao20 t560.length co20 : Value).ownBlock ∧ (some k_ ≠ (.slice Ao30 t588.length co30 : Value).ownBlock ∧ (some k_ ≠ (.slice Ao33 t573.length co33 : Value).ownBlock ∧ some k_ ≠ (.slice Ao38 t576.length co38 : Value).ownBlock))) ∧ some k_ ≠ (.slice Ao117 t595.length co117 : Value).ownBlock) ∧ some k_ ≠ (.slice Ao120 t598.length co120 : Value).ownBlock) ∧ some k_ ≠ (.slice Ao126 t601.length co126 : Value).ownBlock)) (n := t563.length) (c := co23) ?_).2.2; exact (by (with_reducible repeat (first | apply Kd.R_alloc | apply Kd.R_drewN | apply Kd.R_drew)); exact (Kd.R_mono (Kd.R_far (p := ⟨gb605, 1, none⟩) (Kd.R_far (p := ⟨gb605, 0, none⟩) (Kd.R_types HO_568001.out BK605.out (by decide)) (fun _ hk => hk.2) (.slice Ao120 t598.length co120)) (fun _ hk => hk.2) (.slice Ao126 t601.length co126)) (fun _ h_ => h_.1)))); (case side8 => exact (Kd.R_reads' HO_568001.out).2.1); rintro e w148 ⟨rfl, hb⟩; refine ⟨_, rfl, ?_⟩; have n0_ := Aside0.mk (Kd.R_below (by (with_reducible repeat (first | apply Kd.R_alloc | apply Kd.R_drewN | apply Kd.R_drew)); exact (Kd.R_mono (Kd.R_far (p := ⟨gb605, 1, none⟩) (Kd.R_far (p := ⟨gb605, 0, none⟩) (Kd.R_types HO_568000.out BK605.out (by decide)) (fun _ hk => hk.2) (.slice Ao120 t598.length co120)) (fun _ hk => hk.2) (.slice Ao126 t601.length co126)) (fun _ h_ => h_.1))) hb); have n1_ := Aside0.mk (Kd.R_below (by (with_reducible repeat (first | apply Kd.R_alloc | apply Kd.R_drewN | apply Kd.R_drew)); exact (Kd.R_mono (Kd.R_far (p := ⟨gb605, 1, none⟩) (Kd.R_far (p := ⟨gb605, 0, none⟩) (Kd.R_types HO_568001.out BK605.out (by decide)) (fun _ hk => hk.2) (.slice Ao120 t598.length co120)) (fun _ hk => hk.2) (.slice Ao126 t601.length co126)) (fun _ h_ => h_.1))) hb); have n2_ := Aside0.mk (Kd.R_below (by (with_reducible repeat (first | apply Kd.R_alloc | apply Kd.R_drewN | apply Kd.R_drew)); exact (Kd.R_mono (Kd.R_far (p := ⟨gb605, 1, none⟩) (Kd.R_far (p := ⟨gb605, 0, none⟩) (Kd.R_types HO_573001.out BK605.out (by decide)) (fun _ hk => hk.2) (.slice Ao120 t598.length co120)) (fun _ hk => hk.2) (.slice Ao126 t601.length co126)) (fun _ h_ => h_.1))) hb); have n3_ := Aside0.mk (Kd.R_below (by (with_reducible repeat (first | apply Kd.R_alloc | apply Kd.R_drewN | apply Kd.R_drew)); exact (Kd.R_mono (Kd.R_far (p := ⟨gb605, 1, none⟩) (Kd.R_far (p := ⟨gb605, 0, none⟩) (Kd.R_types HO_581000.out BK605.out (by decide)) (fun _ hk => hk.2) (.slice Ao120 t598.length co120)) (fun _ hk => hk.2) (.slice Ao126 t601.length co126)) (fun _ h_ => h_.1))) hb); have n4_ := Aside0.mk (Kd.R_below (by (with_reducible repeat (first | apply Kd.R_alloc | apply Kd.R_drewN | apply Kd.R_drew)); exact (Kd.R_mono (Kd.R_far (p := ⟨gb605, 1, none⟩) (Kd.R_far (p := ⟨gb605, 0, none⟩) (Kd.R_types HO_581001.out BK605.out (by decide)) (fun _ hk => hk.2) (.slice Ao120 t598.length co120)) (fun _ hk => hk.2) (.slice Ao126 t601.length co126)) (fun _ h_ => h_.1))) hb); have n5_ := Aside0.mk (Kd.R_below (by (with_reducible repeat (first | apply Kd.R_alloc | apply Kd.R_drewN | apply Kd.R_drew)); exact (Kd.R_mono (Kd.R_far (p := ⟨gb605, 1, none⟩) (Kd.R_far (p := ⟨gb605, 0, none⟩) (Kd.R_types HO597.out BK605.out (by decide)) (fun _ hk => hk.2) (.slice Ao120 t598.length co120)) (fun _ hk => hk.2) (.slice Ao126 t601.length co126)) (fun _ h_ => h_.1))) hb); have n6_ := Aside0.mk (Kd.R_below (by (with_reducible repeat (first | apply Kd.R_alloc | apply Kd.R_drewN | apply Kd.R_drew)); exact (Kd.R_mono (Kd.R_far (p := ⟨gb605, 1, none⟩) (Kd.R_far (p := ⟨gb605, 0, none⟩) (Kd.R_types HO600.out BK605.out (by decide)) (fun _ hk => hk.2) (.slice Ao120 t598.length co120)) (fun _ hk => hk.2) (.slice Ao126 t601.length co126)) (fun _ h_ => h_.1))) hb); have n7_ := Aside0.mk (Kd.R_below (by (with_reducible repeat (first | apply Kd.R_alloc | apply Kd.R_drewN | apply Kd.R_drew)); exact (Kd.R_mono (Kd.R_far (p := ⟨gb605, 1, none⟩) (Kd.R_far (p := ⟨gb605, 0, none⟩) (Kd.R_types HO603.out BK605.out (by decide)) (fun _ hk => hk.2) (.slice Ao120 t598.length co120)) (fun _ hk => hk.2) (.slice Ao126 t601.length co126)) (fun _ h_ => h_.1))) hb); have n8_ := Aside0.mk (blk_below (g := gb554) (o := .cells #[.string a0_0, .slice A0_1 l0_1.length c0_1] 32 (0, 0)) (by (with_reducible repeat (first | refine blk_drewN ?_ _ | refine blk_drew ?_ | refine blk_alloc ?_ _)); refine blk_far ?_ NB554_605.out _; (with_reducible repeat (first | refine blk_drewN ?_ _ | refine blk_drew ?_ | refine blk_alloc ?_ _)); refine blk_far ?_ NB554_605.out _; (with_reducible repeat (first | refine blk_drewN ?_ _ | refine blk_drew ?_ | refine blk_alloc ?_ _)); exact BK554.out) hb); have n9_ := Aside0.mk (blk_below (g := gb567) (o := .cells #[.slice Ao20 t560.length co20, .slice Ao23 t563.length co23] 51 (0, 0)) (by (with_reducible repeat (first | refine blk_drewN ?_ _ | refine blk_drew ?_ | refine blk_alloc ?_ _)); refine blk_far ?_ NB567_605.out _; (with_reducible repeat (first | refine blk_drewN ?_ _ | refine blk_drew ?_ | refine blk_alloc ?_ _)); refine blk_far ?_ NB567_605.out _; (with_reducible repeat (first | refine blk_drewN ?_ _ | refine blk_drew ?_ | refine blk_alloc ?_ _)); exact BK567.out) hb); have n10_ := Aside0.mk (blk_below (g := gb572) (o := .cells #[.string t568, .slice Ao30 t588.length co30] 35 (0, 0)) (by (with_reducible repeat (first | refine blk_drewN ?_ _ | refine blk_drew ?_ | refine blk_alloc ?_ _)); refine blk_far ?_ NB572_605.out _; (with_reducible repeat (first | refine blk_drewN ?_ _ | refine blk_drew ?_ | refine blk_alloc ?_ _)); refine blk_far ?_ NB572_605.out _; (with_reducible repeat (first | refine blk_drewN ?_ _ | refine blk_drew ?_ | refine blk_alloc ?_ _)); exact BK572.out) hb); have n11_ := Aside0.mk (blk_below (g := gb580) (o := .cells #[.slice Ao33 t573.length co33, .slice Ao38 t576.length co38] 51 (0, 0)) (by (with_reducible repeat (first | refine blk_drewN ?_ _ | refine blk_drew ?_ | refine blk_alloc ?_ _)); refine blk_far ?_ NB580_605.out _; (with_reducible repeat (first | refine blk_drewN ?_ _ | refine blk_drew ?_ | refine blk_alloc ?_ _)); refine blk_far ?_ NB580_605.out _; (with_reducible repeat (first | refine blk_drewN ?_ _ | refine blk_drew ?_ | refine blk_alloc ?_ _)); exact BK580.out) hb); have n12_ := Aside0.mk (blk_below (g := gb605) (o := .cells #[.slice Ao120 t598.length co120, .slice Ao126 t601.length co126] 51 (0, 0)) (by (with_reducible repeat (first | refine blk_drewN ?_ _ | refine blk_drew ?_ | refine blk_alloc ?_ _)); refine blk_put (cs := #[.slice Ao120 t598.length co120, .slice none 0 0]) ?_ 1 _ rfl; (with_reducible repeat (first | refine blk_drewN ?_ _ | refine blk_drew ?_ | refine blk_alloc ?_ _)); refine blk_put (cs := #[.slice none 0 0, .slice none 0 0]) ?_ 0 _ rfl; (with_reducible repeat (first | refine blk_drewN ?_ _ | refine blk_drew ?_ | refine blk_alloc ?_ _)); exact BK605.out) hb); have n13_ := Aside0.mk (below_step (by repeat (first | (with_reducible first | exact HB.out | apply below_alloc | apply pw_below_drewN | apply below_drew1 | refine below_set ?_ GE554.out | refine below_set ?_ GE567.out | refine below_set ?_ GE572.out | refine below_set ?_ GE580.out | refine below_set ?_ GE605.out) | exact HB.out)) hb); clear HO_568000; clear HO_568001; clear HO_573001; clear HO_581000; clear HO_581001; clear HO597; clear HO600; clear HO603; clear BK554; clear BK567; clear BK572; clear BK580; clear BK605; clear HB; have HO_568000 := n0_; have HO_568001 := n1_; have HO_573001 := n2_; have HO_581000 := n3_; have HO_581001 := n4_; have HO597 := n5_; have HO600 := n6_; have HO603 := n7_; have BK554 := n8_; have BK567 := n9_; have BK572 := n10_; have BK580 := n11_; have BK605 := n12_; have HB := n13_; clear n0_ n1_ n2_ n3_ n4_ n5_ n6_ n7_ n8_ n9_ n10_ n11_ n12_ n13_; (try clear hb); (try clear hb2); (try clear hk); (try clear hi)))
             go_meet
             case rel => exact ⟨_, (true), (by first | rfl | (simp; done) | (simp [*]; done)), H', ⟨by have := HJ10.out; have := HJ61.out; first | omega | exact Nat.le_refl _⟩, ⟨by (try simp only [hl573001_61]); (with_reducible repeat (first | apply Kd.R_alloc | apply Kd.R_drewN | apply Kd.R_drew)); exact Kd.R_mono HO_568000.out (fun _ hk => ⟨hk.1.1.1.1, ⟨hk.1.1.1.2.1, ⟨hk.1.1.1.2.2.1, ⟨hk.1.1.1.2.2.2, ⟨hk.1.2, hk.2⟩⟩⟩⟩⟩)⟩, ⟨by (try simp only [hl573001_61]); (with_reducible repeat (first | apply Kd.R_alloc | apply Kd.R_drewN | apply Kd.R_drew)); exact Kd.R_mono HO_568001.out (fun _ hk => ⟨hk.1.1.1.1, ⟨hk.1.1.1.2.1, ⟨hk.1.1.1.2.2.1, ⟨hk.1.1.1.2.2.2, ⟨hk.1.2, hk.2⟩⟩⟩⟩⟩)⟩, ⟨by (try simp only [hl573001_61]); (with_reducible repeat (first | apply Kd.R_alloc | apply Kd.R_drewN | apply Kd.R_drew)); exact Kd.R_mono HO_573001.out (fun _ hk => ⟨hk.1.1.1.1, ⟨hk.1.1.1.2.1, ⟨hk.1.1.1.2.2.1, ⟨hk.1.1.1.2.2.2, ⟨hk.1.2, hk.2⟩⟩⟩⟩⟩)⟩, ⟨by (try simp only [hl573001_61]); (with_reducible repeat (first | apply Kd.R_alloc | apply Kd.R_drewN | apply Kd.R_drew)); exact Kd.R_mono HO_581000.out (fun _ hk => ⟨hk.1.1.1.1, ⟨hk.1.1.1.2.1, ⟨hk.1.1.1.2.2.1, ⟨hk.1.1.1.2.2.2, ⟨hk.1.2, hk.2⟩⟩⟩⟩⟩)⟩, ⟨by (try simp only [hl573001_61]); (with_reducible repeat (first | apply Kd.R_alloc | apply Kd.R_drewN | apply Kd.R_drew)); exact Kd.R_mono HO_581001.out (fun _ hk => ⟨hk.1.1.1.1, ⟨hk.1.1.1.2.1, ⟨hk.1.1.1.2.2.1, ⟨hk.1.1.1.2.2.2, ⟨hk.1.2, hk.2⟩⟩⟩⟩⟩)⟩, ⟨by (try simp only [hl573001_61]); (with_reducible repeat (first | apply Kd.R_alloc | apply Kd.R_drewN | apply Kd.R_drew)); exact Kd.R_mono HO600.out (fun _ hk => ⟨hk.1.1.1.1.1.2, ⟨hk.1.1.1.1.2, ⟨hk.1.1.1.2, ⟨hk.1.1.2, ⟨hk.1.2, hk.1.1.1.1.1.1⟩⟩⟩⟩⟩)⟩, ⟨by (try simp only [hl573001_61]); (with_reducible repeat (first | apply Kd.R_alloc | apply Kd.R_drewN | apply Kd.R_drew)); exact Kd.R_mono HO603.out (fun _ hk => ⟨hk.1.1.1.1.1.2, ⟨hk.1.1.1.1.2, ⟨hk.1.1.1.2, ⟨hk.1.1.2, ⟨hk.1.2, hk.1.1.1.1.1.1⟩⟩⟩⟩⟩)⟩, ⟨by (try simp only [hl573001_61]); (with_reducible repeat (first | refine blk_drewN ?_ _ | refine blk_drew ?_ | refine blk_alloc ?_ _)); exact BK554.out⟩, ⟨by (try simp only [hl573001_61]); (with_reducible repeat (first | refine blk_drewN ?_ _ | refine blk_drew ?_ | refine blk_alloc ?_ _)); exact BK567.out⟩, ⟨by (try simp only [hl573001_61]); (with_reducible repeat (first | refine blk_drewN ?_ _ | refine blk_drew ?_ | refine blk_alloc ?_ _)); exact BK572.out⟩, ⟨by (try simp only [hl573001_61]); (with_reducible repeat (first | refine blk_drewN ?_ _ | refine blk_drew ?_ | refine blk_alloc ?_ _)); exact BK580.out⟩, ⟨by (try simp only [hl573001_61]); (with_reducible repeat (first | refine blk_drewN ?_ _ | refine blk_drew ?_ | refine blk_alloc ?_ _)); exact BK605.out⟩, ⟨by repeat (first | (with_reducible first | exact HB.out | apply below_alloc | apply pw_below_drewN | apply below_drew1 | refine below_set ?_ GE554.out | refine below_set ?_ GE567.out | refine below_set ?_ GE572.out | refine below_set ?_ GE580.out | refine below_set ?_ GE605.out) | exact HB.out)⟩⟩
           case rest =>
            clear HC105
            try clear c1
            try clear c2
            try clear p2
            try clear c3
            try clear c3b0
            try clear c4
            try clear c5
            try clear c6
            try clear c7
            try clear c8
            try clear c9
            try clear c10
            try clear c11
            try clear c12
            try clear c13
            try clear c14
            try clear c21
            try clear c25
            try clear c27
            try clear c28
            try clear c29
            try clear c34
            try clear c35
            try clear c36
            try clear c38
            try clear c40
            try clear c41
            try clear c42
            try clear c43
            try clear c45
            try clear c46
            try clear c47
            try clear c48
            try clear c49
            try clear c50
            try clear c51
            try clear c53
            try clear c54
            try clear c57
            try clear c60
            try clear c67
            try clear c68
            try clear c69
            try clear c72
            try clear c72b0
            try clear c74
            try clear c75
            try clear c76
            try clear c77
            try clear c79
            try clear c80
            try clear c83
            try clear c84
            try clear c85
            try clear c87
            try clear c88
            try clear c91
            try clear c94
            try clear c94b0
            try clear c95
            try clear c96
            try clear c97
            try clear c102
            try clear c102b0
            try clear c102b1
            try clear c106
            try clear c107
            try clear c108
            try clear c113
            try clear c114
            try clear c121
            try clear c122
            try clear c123
            try clear c124
            try clear c128
            try clear c129
            try clear c130
            try clear c131
            try clear c132
            try clear c134
            try clear c135
            try clear c136
            try clear c139
            try clear c140
            try clear c141
            try clear c142
            try clear c144
            try clear c145
            try clear c146
            try clear hcz100_0
            try clear hcz100_1
            try clear hcz109_0
            try clear hcz109_1
            try clear hcz111_0
            try clear hcz111_1
            try clear hcz115_0
            try clear hcz115_1
            try clear hcz125_0
            try clear hcz125_1
            try clear hcz133_0
            try clear hcz133_1
            try clear hcz137_0
            try clear hcz137_1
            try clear hcz13_0
            try clear hcz13_1
            try clear hcz143_0
            try clear hcz143_1
            try clear hcz147_0
            try clear hcz147_1
            try clear hcz15_0
            try clear hcz15_1
            try clear hcz22_0
            try clear hcz22_1
            try clear hcz24_0
            try clear hcz24_1
            try clear hcz29_0
            try clear hcz29_1
            try clear hcz37_0
            try clear hcz37_1
            try clear hcz44_0
            try clear hcz44_1
            try clear hcz47_0
            try clear hcz47_1
            try clear hcz52_0
            try clear hcz52_1
            try clear hcz55_0
            try clear hcz55_1
            try clear hcz5_0
            try clear hcz5_1
            try clear hcz70_0
            try clear hcz70_1
            try clear hcz78_0
            try clear hcz78_1
            try clear hcz81_0
            try clear hcz81_1
            try clear hcz86_0
            try clear hcz86_1
            try clear hcz89_0
            try clear hcz89_1
            try clear hcz98_0
            try clear hcz98_1
            try clear hfz100_0
            try clear hfz100_1
            try clear hfz109_0
            try clear hfz109_1
            try clear hfz111_0
            try clear hfz111_1
            try clear hfz115_0
            try clear hfz115_1
            try clear hfz125_0
            try clear hfz125_1
            try clear hfz133_0
            try clear hfz133_1
            try clear hfz137_0
            try clear hfz137_1
            try clear hfz13_0
            try clear hfz13_1
            try clear hfz143_0
            try clear hfz143_1
            try clear hfz147_0
            try clear hfz147_1
            try clear hfz15_0
            try clear hfz15_1
            try clear hfz22_0
            try clear hfz22_1
            try clear hfz24_0
            try clear hfz24_1
            try clear hfz29_0
            try clear hfz29_1
            try clear hfz37_0
            try clear hfz37_1
            try clear hfz44_0
            try clear hfz44_1
            try clear hfz47_0
            try clear hfz47_1
            try clear hfz52_0
            try clear hfz52_1
            try clear hfz55_0
            try clear hfz55_1
            try clear hfz5_0
            try clear hfz5_1
            try clear hfz70_0
            try clear hfz70_1
            try clear hfz78_0
            try clear hfz78_1
            try clear hfz81_0
            try clear hfz81_1
            try clear hfz86_0
            try clear hfz86_1
            try clear hfz89_0
            try clear hfz89_1
            try clear hfz98_0
            try clear hfz98_1
            try clear p2
            obtain ⟨kq, x87_104, rfl, HA, HJ104, HO_568000, HO_568001, HO_573001, HO_581000, HO_581001, HO_606000, HO_606001, BK554, BK567, BK572, BK580, BK605, HB⟩ := hcut
            have hl581000_104 := (Kd.R_reads' HO_581000.out).1
            rw [hl581000_104] at HO_581000
            (try simp only [hl581000_104])
            (try simp only [hl581000_104] at BK554)
            (try simp only [hl581000_104] at BK567)
            (try simp only [hl581000_104] at BK572)
            (try simp only [hl581000_104] at BK580)
            (try simp only [hl581000_104] at BK605)
            (try simp only [hl581000_104] at HO_568000)
            (try simp only [hl581000_104] at HO_568001)
            (try simp only [hl581000_104] at HO_573001)
            (try simp only [hl581000_104] at HO_581001)
            (try simp only [hl581000_104] at HO_606000)
            (try simp only [hl581000_104] at HO_606001)
            have hl581001_104 := (Kd.R_reads' HO_581001.out).1
            rw [hl581001_104] at HO_581001
            (try simp only [hl581001_104])
            (try simp only [hl581001_104] at BK554)
            (try simp only [hl581001_104] at BK567)
            (try simp only [hl581001_104] at BK572)
            (try simp only [hl581001_104] at BK580)
            (try simp only [hl581001_104] at BK605)
            (try simp only [hl581001_104] at HO_568000)
            (try simp only [hl581001_104] at HO_568001)
            (try simp only [hl581001_104] at HO_573001)
            (try simp only [hl581001_104] at HO_581000)
            (try simp only [hl581001_104] at HO_606000)
            (try simp only [hl581001_104] at HO_606001)
            cases kq with
            | zero => exact absurd HA.out (by simp [laws_FnExactTreeMap.j2])
            | succ kj104 =>
             have H := HA.out
             clear HA
             simp only [laws_FnExactTreeMap.j2] at H
             by_cases c149 : x87_104 = true
             ·
              subst c149
              have H1 : (some false) = some r := by rw [if_pos rfl] at H; exact H
              clear H
              have H := H1
              clear H1
              obtain rfl := Option.some.inj H
              go_wp2
              go_ret
              exact ⟨by first | rfl | (simp [errW_none, errW_some] <;> rfl) | (simp [*, errW_none, errW_some] <;> rfl), by repeat (first | (with_reducible first | exact HB.out | apply below_alloc | apply pw_below_drewN | apply below_drew1 | refine below_set ?_ GE554.out | refine below_set ?_ GE567.out | refine below_set ?_ GE572.out | refine below_set ?_ GE580.out | refine below_set ?_ GE605.out) | exact HB.out)⟩
             ·
              replace c149 := Bool.eq_false_iff.mpr c149
              subst c149
              have H1 : ((laws_heldMap.f kj104 t591 t592 1).bind fun t607 => (if t607 < 0 then (some false) else (if t607 = t590 then (some true) else (some false)))) = some r := by rw [if_neg (show ¬ (false = true) by decide)] at H; exact H
              clear H
              have H := H1
              clear H1
              replace H := Option.bind_eq_some_iff.mp H
              obtain ⟨t607, A1500, H⟩ := H
              replace H : (if t607 < 0 then (some false) else (if t607 = t590 then (some true) else (some false))) = some r := H
              have A150 := Aside0.mk A1500
              clear A1500
              by_cases c151 : t607 < 0
              ·
               rw [if_pos c151] at H
               have c151b0 : decide (t607 < 0) = true := decide_eq_true c151
               clear c151
               obtain rfl := Option.some.inj H
               have hnb152 := NB580_554.out
               have hnc152 := NB554_580.out
               have hnb153 := NB580_567.out
               have hnc153 := NB567_580.out
               have hnb154 := NB580_572.out
               have hnc154 := NB572_580.out
               have hnb155 := NB580_605.out
               have hnc155 := NB605_580.out
               have hcz156_0 : wc.cell? ⟨gb580, 0, none⟩ = some (.slice Ao33 t591.length co33) := (blk_cell BK580.out 0).trans rfl
               have hcz156_1 : wc.cell? ⟨gb580, 1, none⟩ = some (.slice Ao38 t592.length co38) := (blk_cell BK580.out 1).trans rfl
               have hfz156_0 := blk_frozen BK580.out 0
               have hfz156_1 := blk_frozen BK580.out 1
               go_wp2_with (first | ((with_reducible refine gate_callee (f := 50) rfl ?_); refine goesL_ (some 90) rfl rfl Try.func50 (by kernel_rfl) rfl #[.agg #[.slice Ao33 t591.length co33, .slice Ao38 t592.length co38], .int .i64 1] rfl (by (try simp only [List.map_toArray, List.map_cons, List.map_nil]); first | done | rfl | (simp only [List.length_drop, List.length_take]; rfl)) ?_; (with_reducible refine (laws_heldMap.calls kj104 _ _ t591 _ _ t592 1 t607 _ ?side1 ?side2 ?side3 ?side4 A150.out).mono ?_); (case side1 => repeat (first | exact (Kd.R_reads' HO_581000.out).2.2 | (with_reducible refine Kd.C_alloc ?_ _) | (with_reducible refine Kd.C_drewN ?_ _) | (with_reducible refine Kd.C_drew ?_))); (case side2 => exact (Kd.R_reads' HO_581000.out).2.1); (case side3 => repeat (first | exact (Kd.R_reads' HO_581001.out).2.2 | (with_reducible refine Kd.C_alloc ?_ _) | (with_reducible refine Kd.C_drewN ?_ _) | (with_reducible refine Kd.C_drew ?_))); (case side4 => exact (Kd.R_reads' HO_581001.out).2.1); rintro e w157 ⟨rfl, hb⟩; refine ⟨_, rfl, ?_⟩; have n0_ := Aside0.mk (Kd.R_below (by (with_reducible repeat (first | apply Kd.R_alloc | apply Kd.R_drewN | apply Kd.R_drew)); exact HO_568000.out) hb); have n1_ := Aside0.mk (Kd.R_below (by (with_reducible repeat (first | apply Kd.R_alloc | apply Kd.R_drewN | apply Kd.R_drew)); exact HO_568001.out) hb); have n2_ := Aside0.mk (Kd.R_below (by (with_reducible repeat (first | apply Kd.R_alloc | apply Kd.R_drewN | apply Kd.R_drew)); exact HO_573001.out) hb); have n3_ := Aside0.mk (Kd.R_below (by (with_reducible repeat (first | apply Kd.R_alloc | apply Kd.R_drewN | apply Kd.R_drew)); exact HO_581000.out) hb); have n4_ := Aside0.mk (Kd.R_below (by (with_reducible repeat (first | apply Kd.R_alloc | apply Kd.R_drewN | apply Kd.R_drew)); exact HO_581001.out) hb); have n5_ := Aside0.mk (Kd.R_below (by (with_reducible repeat (first | apply Kd.R_alloc | apply Kd.R_drewN | apply Kd.R_drew)); exact HO_606000.out) hb); have n6_ := Aside0.mk (Kd.R_below (by (with_reducible repeat (first | apply Kd.R_alloc | apply Kd.R_drewN | apply Kd.R_drew)); exact HO_606001.out) hb); have n7_ := Aside0.mk (blk_below (g := gb554) (o := .cells #[.string a0_0, .slice A0_1 l0_1.length c0_1] 32 (0, 0)) (by (with_reducible repeat (first | refine blk_drewN ?_ _ | refine blk_drew ?_ | refine blk_alloc ?_ _)); exact BK554.out) hb); have n8_ := Aside0.mk (blk_below (g := gb567) (o := .cells #[.slice Ao20 t560.length co20, .slice Ao23 t563.length co23] 51 (0, 0)) (by (with_reducible repeat (first | refine blk_drewN ?_ _ | refine blk_drew ?_ | refine blk_alloc ?_ _)); exact BK567.out) hb); have n9_ := Aside0.mk (blk_below (g := gb572) (o := .cells #[.string t568, .slice Ao30 t588.length co30] 35 (0, 0)) (by (with_reducible repeat (first | refine blk_drewN ?_ _ | refine blk_drew ?_ | refine blk_alloc ?_ _)); exact BK572.out) hb); have n10_ := Aside0.mk (blk_below (g := gb580) (o := .cells #[.slice Ao33 t591.length co33, .slice Ao38 t592.length co38] 51 (0, 0)) (by (with_reducible repeat (first | refine blk_drewN ?_ _ | refine blk_drew ?_ | refine blk_alloc ?_ _)); exact BK580.out) hb); have n11_ := Aside0.mk (blk_below (g := gb605) (o := .cells #[.slice Ao120 t598.length co120, .slice Ao126 t601.length co126] 51 (0, 0)) (by (with_reducible repeat (first | refine blk_drewN ?_ _ | refine blk_drew ?_ | refine blk_alloc ?_ _)); exact BK605.out) hb); have n12_ := Aside0.mk (below_step (by repeat (first | (with_reducible first | exact HB.out | apply below_alloc | apply pw_below_drewN | apply below_drew1 | refine below_set ?_ GE554.out | refine below_set ?_ GE567.out | refine below_set ?_ GE572.out | refine below_set ?_ GE580.out | refine below_set ?_ GE605.out) | exact HB.out)) hb); clear HO_568000; clear HO_568001; clear HO_573001; clear HO_581000; clear HO_581001; clear HO_606000; clear HO_606001; clear BK554; clear BK567; clear BK572; clear BK580; clear BK605; clear HB; have HO_568000 := n0_; have HO_568001 := n1_; have HO_573001 := n2_; have HO_581000 := n3_; have HO_581001 := n4_; have HO_606000 := n5_; have HO_606001 := n6_; have BK554 := n7_; have BK567 := n8_; have BK572 := n9_; have BK580 := n10_; have BK605 := n11_; have HB := n12_; clear n0_ n1_ n2_ n3_ n4_ n5_ n6_ n7_ n8_ n9_ n10_ n11_ n12_; (try clear hb); (try clear hb2); (try clear hk); (try clear hi)))
               go_ret
               exact ⟨by first | rfl | (simp [errW_none, errW_some] <;> rfl) | (simp [*, errW_none, errW_some] <;> rfl), by repeat (first | (with_reducible first | exact HB.out | apply below_alloc | apply pw_below_drewN | apply below_drew1 | refine below_set ?_ GE554.out | refine below_set ?_ GE567.out | refine below_set ?_ GE572.out | refine below_set ?_ GE580.out | refine below_set ?_ GE605.out) | exact HB.out)⟩
              ·
               rw [if_neg c151] at H
               have c151b0 : decide (t607 < 0) = false := decide_eq_false c151
               clear c151
               by_cases c158 : t607 = t590
               ·
                rw [if_pos c158] at H
                have c158b0 : (t607 == t590) = true := beq_iff_eq.mpr c158
                have c158b1 : (t607 != t590) = false := bne_eq_false_iff_eq.mpr c158
                clear c158
                obtain rfl := Option.some.inj H
                have hnb159 := NB580_554.out
                have hnc159 := NB554_580.out
                have hnb160 := NB580_567.out
                have hnc160 := NB567_580.out
                have hnb161 := NB580_572.out
                have hnc161 := NB572_580.out
                have hnb162 := NB580_605.out
                have hnc162 := NB605_580.out
                have hcz163_0 : wc.cell? ⟨gb580, 0, none⟩ = some (.slice Ao33 t591.length co33) := (blk_cell BK580.out 0).trans rfl
                have hcz163_1 : wc.cell? ⟨gb580, 1, none⟩ = some (.slice Ao38 t592.length co38) := (blk_cell BK580.out 1).trans rfl
                have hfz163_0 := blk_frozen BK580.out 0
                have hfz163_1 := blk_frozen BK580.out 1
                go_wp2_with (first | ((with_reducible refine gate_callee (f := 50) rfl ?_); refine goesL_ (some 90) rfl rfl Try.func50 (by kernel_rfl) rfl #[.agg #[.slice Ao33 t591.length co33, .slice Ao38 t592.length co38], .int .i64 1] rfl (by (try simp only [List.map_toArray, List.map_cons, List.map_nil]); first | done | rfl | (simp only [List.length_drop, List.length_take]; rfl)) ?_; (with_reducible refine (laws_heldMap.calls kj104 _ _ t591 _ _ t592 1 t607 _ ?side1 ?side2 ?side3 ?side4 A150.out).mono ?_); (case side1 => repeat (first | exact (Kd.R_reads' HO_581000.out).2.2 | (with_reducible refine Kd.C_alloc ?_ _) | (with_reducible refine Kd.C_drewN ?_ _) | (with_reducible refine Kd.C_drew ?_))); (case side2 => exact (Kd.R_reads' HO_581000.out).2.1); (case side3 => repeat (first | exact (Kd.R_reads' HO_581001.out).2.2 | (with_reducible refine Kd.C_alloc ?_ _) | (with_reducible refine Kd.C_drewN ?_ _) | (with_reducible refine Kd.C_drew ?_))); (case side4 => exact (Kd.R_reads' HO_581001.out).2.1); rintro e w164 ⟨rfl, hb⟩; refine ⟨_, rfl, ?_⟩; have n0_ := Aside0.mk (Kd.R_below (by (with_reducible repeat (first | apply Kd.R_alloc | apply Kd.R_drewN | apply Kd.R_drew)); exact HO_568000.out) hb); have n1_ := Aside0.mk (Kd.R_below (by (with_reducible repeat (first | apply Kd.R_alloc | apply Kd.R_drewN | apply Kd.R_drew)); exact HO_568001.out) hb); have n2_ := Aside0.mk (Kd.R_below (by (with_reducible repeat (first | apply Kd.R_alloc | apply Kd.R_drewN | apply Kd.R_drew)); exact HO_573001.out) hb); have n3_ := Aside0.mk (Kd.R_below (by (with_reducible repeat (first | apply Kd.R_alloc | apply Kd.R_drewN | apply Kd.R_drew)); exact HO_581000.out) hb); have n4_ := Aside0.mk (Kd.R_below (by (with_reducible repeat (first | apply Kd.R_alloc | apply Kd.R_drewN | apply Kd.R_drew)); exact HO_581001.out) hb); have n5_ := Aside0.mk (Kd.R_below (by (with_reducible repeat (first | apply Kd.R_alloc | apply Kd.R_drewN | apply Kd.R_drew)); exact HO_606000.out) hb); have n6_ := Aside0.mk (Kd.R_below (by (with_reducible repeat (first | apply Kd.R_alloc | apply Kd.R_drewN | apply Kd.R_drew)); exact HO_606001.out) hb); have n7_ := Aside0.mk (blk_below (g := gb554) (o := .cells #[.string a0_0, .slice A0_1 l0_1.length c0_1] 32 (0, 0)) (by (with_reducible repeat (first | refine blk_drewN ?_ _ | refine blk_drew ?_ | refine blk_alloc ?_ _)); exact BK554.out) hb); have n8_ := Aside0.mk (blk_below (g := gb567) (o := .cells #[.slice Ao20 t560.length co20, .slice Ao23 t563.length co23] 51 (0, 0)) (by (with_reducible repeat (first | refine blk_drewN ?_ _ | refine blk_drew ?_ | refine blk_alloc ?_ _)); exact BK567.out) hb); have n9_ := Aside0.mk (blk_below (g := gb572) (o := .cells #[.string t568, .slice Ao30 t588.length co30] 35 (0, 0)) (by (with_reducible repeat (first | refine blk_drewN ?_ _ | refine blk_drew ?_ | refine blk_alloc ?_ _)); exact BK572.out) hb); have n10_ := Aside0.mk (blk_below (g := gb580) (o := .cells #[.slice Ao33 t591.length co33, .slice Ao38 t592.length co38] 51 (0, 0)) (by (with_reducible repeat (first | refine blk_drewN ?_ _ | refine blk_drew ?_ | refine blk_alloc ?_ _)); exact BK580.out) hb); have n11_ := Aside0.mk (blk_below (g := gb605) (o := .cells #[.slice Ao120 t598.length co120, .slice Ao126 t601.length co126] 51 (0, 0)) (by (with_reducible repeat (first | refine blk_drewN ?_ _ | refine blk_drew ?_ | refine blk_alloc ?_ _)); exact BK605.out) hb); have n12_ := Aside0.mk (below_step (by repeat (first | (with_reducible first | exact HB.out | apply below_alloc | apply pw_below_drewN | apply below_drew1 | refine below_set ?_ GE554.out | refine below_set ?_ GE567.out | refine below_set ?_ GE572.out | refine below_set ?_ GE580.out | refine below_set ?_ GE605.out) | exact HB.out)) hb); clear HO_568000; clear HO_568001; clear HO_573001; clear HO_581000; clear HO_581001; clear HO_606000; clear HO_606001; clear BK554; clear BK567; clear BK572; clear BK580; clear BK605; clear HB; have HO_568000 := n0_; have HO_568001 := n1_; have HO_573001 := n2_; have HO_581000 := n3_; have HO_581001 := n4_; have HO_606000 := n5_; have HO_606001 := n6_; have BK554 := n7_; have BK567 := n8_; have BK572 := n9_; have BK580 := n10_; have BK605 := n11_; have HB := n12_; clear n0_ n1_ n2_ n3_ n4_ n5_ n6_ n7_ n8_ n9_ n10_ n11_ n12_; (try clear hb); (try clear hb2); (try clear hk); (try clear hi)))
                go_ret
                exact ⟨by first | rfl | (simp [errW_none, errW_some] <;> rfl) | (simp [*, errW_none, errW_some] <;> rfl), by repeat (first | (with_reducible first | exact HB.out | apply below_alloc | apply pw_below_drewN | apply below_drew1 | refine below_set ?_ GE554.out | refine below_set ?_ GE567.out | refine below_set ?_ GE572.out | refine below_set ?_ GE580.out | refine below_set ?_ GE605.out) | exact HB.out)⟩
               ·
                rw [if_neg c158] at H
                have c158b0 : (t607 == t590) = false := beq_eq_false_iff_ne.mpr c158
                have c158b1 : (t607 != t590) = true := bne_iff_ne.mpr c158
                obtain rfl := Option.some.inj H
                have hnb165 := NB580_554.out
                have hnc165 := NB554_580.out
                have hnb166 := NB580_567.out
                have hnc166 := NB567_580.out
                have hnb167 := NB580_572.out
                have hnc167 := NB572_580.out
                have hnb168 := NB580_605.out
                have hnc168 := NB605_580.out
                have hcz169_0 : wc.cell? ⟨gb580, 0, none⟩ = some (.slice Ao33 t591.length co33) := (blk_cell BK580.out 0).trans rfl
                have hcz169_1 : wc.cell? ⟨gb580, 1, none⟩ = some (.slice Ao38 t592.length co38) := (blk_cell BK580.out 1).trans rfl
                have hfz169_0 := blk_frozen BK580.out 0
                have hfz169_1 := blk_frozen BK580.out 1
                go_wp2_with (first | ((with_reducible refine gate_callee (f := 50) rfl ?_); refine goesL_ (some 90) rfl rfl Try.func50 (by kernel_rfl) rfl #[.agg #[.slice Ao33 t591.length co33, .slice Ao38 t592.length co38], .int .i64 1] rfl (by (try simp only [List.map_toArray, List.map_cons, List.map_nil]); first | done | rfl | (simp only [List.length_drop, List.length_take]; rfl)) ?_; (with_reducible refine (laws_heldMap.calls kj104 _ _ t591 _ _ t592 1 t607 _ ?side1 ?side2 ?side3 ?side4 A150.out).mono ?_); (case side1 => repeat (first | exact (Kd.R_reads' HO_581000.out).2.2 | (with_reducible refine Kd.C_alloc ?_ _) | (with_reducible refine Kd.C_drewN ?_ _) | (with_reducible refine Kd.C_drew ?_))); (case side2 => exact (Kd.R_reads' HO_581000.out).2.1); (case side3 => repeat (first | exact (Kd.R_reads' HO_581001.out).2.2 | (with_reducible refine Kd.C_alloc ?_ _) | (with_reducible refine Kd.C_drewN ?_ _) | (with_reducible refine Kd.C_drew ?_))); (case side4 => exact (Kd.R_reads' HO_581001.out).2.1); rintro e w170 ⟨rfl, hb⟩; refine ⟨_, rfl, ?_⟩; have n0_ := Aside0.mk (Kd.R_below (by (with_reducible repeat (first | apply Kd.R_alloc | apply Kd.R_drewN | apply Kd.R_drew)); exact HO_568000.out) hb); have n1_ := Aside0.mk (Kd.R_below (by (with_reducible repeat (first | apply Kd.R_alloc | apply Kd.R_drewN | apply Kd.R_drew)); exact HO_568001.out) hb); have n2_ := Aside0.mk (Kd.R_below (by (with_reducible repeat (first | apply Kd.R_alloc | apply Kd.R_drewN | apply Kd.R_drew)); exact HO_573001.out) hb); have n3_ := Aside0.mk (Kd.R_below (by (with_reducible repeat (first | apply Kd.R_alloc | apply Kd.R_drewN | apply Kd.R_drew)); exact HO_581000.out) hb); have n4_ := Aside0.mk (Kd.R_below (by (with_reducible repeat (first | apply Kd.R_alloc | apply Kd.R_drewN | apply Kd.R_drew)); exact HO_581001.out) hb); have n5_ := Aside0.mk (Kd.R_below (by (with_reducible repeat (first | apply Kd.R_alloc | apply Kd.R_drewN | apply Kd.R_drew)); exact HO_606000.out) hb); have n6_ := Aside0.mk (Kd.R_below (by (with_reducible repeat (first | apply Kd.R_alloc | apply Kd.R_drewN | apply Kd.R_drew)); exact HO_606001.out) hb); have n7_ := Aside0.mk (blk_below (g := gb554) (o := .cells #[.string a0_0, .slice A0_1 l0_1.length c0_1] 32 (0, 0)) (by (with_reducible repeat (first | refine blk_drewN ?_ _ | refine blk_drew ?_ | refine blk_alloc ?_ _)); exact BK554.out) hb); have n8_ := Aside0.mk (blk_below (g := gb567) (o := .cells #[.slice Ao20 t560.length co20, .slice Ao23 t563.length co23] 51 (0, 0)) (by (with_reducible repeat (first | refine blk_drewN ?_ _ | refine blk_drew ?_ | refine blk_alloc ?_ _)); exact BK567.out) hb); have n9_ := Aside0.mk (blk_below (g := gb572) (o := .cells #[.string t568, .slice Ao30 t588.length co30] 35 (0, 0)) (by (with_reducible repeat (first | refine blk_drewN ?_ _ | refine blk_drew ?_ | refine blk_alloc ?_ _)); exact BK572.out) hb); have n10_ := Aside0.mk (blk_below (g := gb580) (o := .cells #[.slice Ao33 t591.length co33, .slice Ao38 t592.length co38] 51 (0, 0)) (by (with_reducible repeat (first | refine blk_drewN ?_ _ | refine blk_drew ?_ | refine blk_alloc ?_ _)); exact BK580.out) hb); have n11_ := Aside0.mk (blk_below (g := gb605) (o := .cells #[.slice Ao120 t598.length co120, .slice Ao126 t601.length co126] 51 (0, 0)) (by (with_reducible repeat (first | refine blk_drewN ?_ _ | refine blk_drew ?_ | refine blk_alloc ?_ _)); exact BK605.out) hb); have n12_ := Aside0.mk (below_step (by repeat (first | (with_reducible first | exact HB.out | apply below_alloc | apply pw_below_drewN | apply below_drew1 | refine below_set ?_ GE554.out | refine below_set ?_ GE567.out | refine below_set ?_ GE572.out | refine below_set ?_ GE580.out | refine below_set ?_ GE605.out) | exact HB.out)) hb); clear HO_568000; clear HO_568001; clear HO_573001; clear HO_581000; clear HO_581001; clear HO_606000; clear HO_606001; clear BK554; clear BK567; clear BK572; clear BK580; clear BK605; clear HB; have HO_568000 := n0_; have HO_568001 := n1_; have HO_573001 := n2_; have HO_581000 := n3_; have HO_581001 := n4_; have HO_606000 := n5_; have HO_606001 := n6_; have BK554 := n7_; have BK567 := n8_; have BK572 := n9_; have BK580 := n10_; have BK605 := n11_; have HB := n12_; clear n0_ n1_ n2_ n3_ n4_ n5_ n6_ n7_ n8_ n9_ n10_ n11_ n12_; (try clear hb); (try clear hb2); (try clear hk); (try clear hi)))
                go_ret
                exact ⟨by first | rfl | (simp [errW_none, errW_some] <;> rfl) | (simp [*, errW_none, errW_some] <;> rfl), by repeat (first | (with_reducible first | exact HB.out | apply below_alloc | apply pw_below_drewN | apply below_drew1 | refine below_set ?_ GE554.out | refine below_set ?_ GE567.out | refine below_set ?_ GE572.out | refine below_set ?_ GE580.out | refine below_set ?_ GE605.out) | exact HB.out)⟩
          ·
           rw [if_neg c102] at H
           have c102b0 : (t593 == t590) = false := beq_eq_false_iff_ne.mpr c102
           have c102b1 : (t593 != t590) = true := bne_iff_ne.mpr c102
           obtain rfl := Option.some.inj H
           have hnb171 := NB580_554.out
           have hnc171 := NB554_580.out
           have hnb172 := NB580_567.out
           have hnc172 := NB567_580.out
           have hnb173 := NB580_572.out
           have hnc173 := NB572_580.out
           have hcz174_0 : wc.cell? ⟨gb580, 0, none⟩ = some (.slice Ao33 t573.length co33) := (blk_cell BK580.out 0).trans rfl
           have hcz174_1 : wc.cell? ⟨gb580, 1, none⟩ = some (.slice Ao38 t576.length co38) := (blk_cell BK580.out 1).trans rfl
           have hfz174_0 := blk_frozen BK580.out 0
           have hfz174_1 := blk_frozen BK580.out 1
           go_wp2_with (first | ((with_reducible refine gate_callee (f := 49) rfl ?_); refine goesL_ (some 64) rfl rfl Try.func49 (by kernel_rfl) rfl #[.agg #[.slice Ao33 t573.length co33, .slice Ao38 t576.length co38], .int .i64 1] rfl (by (try simp only [List.map_toArray, List.map_cons, List.map_nil]); first | done | rfl | (simp only [List.length_drop, List.length_take]; rfl)) ?_; (with_reducible refine (laws_markMap.calls kj61 (fun k_ => some k_ = (.slice Ao33 t573.length co33 : Value).ownBlock) (.slice Ao33 t573.length co33) t573 (fun k_ => some k_ = (.slice Ao38 t576.length co38 : Value).ownBlock) (.slice Ao38 t576.length co38) t576 1 t590 t591 t592 w _ ?side1 ?side2 ?side3 ?side4 ?side5 A92.out).mono ?_); (case side1 => repeat (first | (with_reducible first | exact HB.out | apply below_alloc | apply pw_below_drewN | apply below_drew1 | refine below_set ?_ GE554.out | refine below_set ?_ GE567.out | refine below_set ?_ GE572.out | refine below_set ?_ GE580.out) | exact HB.out)); (case side2 => exact Kd.R_tight rfl HO_581000.out); (case side3 => exact fun k_ e_ => (HO_581000.out.1 k_ e_.symm).2.2.2); (case side4 => exact Kd.R_tight rfl HO_581001.out); (case side5 => exact fun k_ e_ => (HO_581001.out.1 k_ e_.symm).2.2.2); rintro e w175 ⟨rfl, hy0, hy1, hb, hkp⟩; refine ⟨_, rfl, ?_⟩; have n0_ := Aside0.mk (Kd.R_mono (ok' := fun k_ => some k_ ≠ (.slice Ao23 t563.length co23 : Value).ownBlock ∧ some k_ ≠ (.slice Ao30 t588.length co30 : Value).ownBlock ∧ some k_ ≠ (.slice Ao33 t573.length co33 : Value).ownBlock ∧ some k_ ≠ (.slice Ao38 t576.length co38 : Value).ownBlock) (Kd.R_keptB (HO_568000.out) hkp (fun k_ hk_ hs_ => Or.elim hs_ (fun e_ => (hk_.2.2.1) e_) (fun e_ => (hk_.2.2.2) e_))) (fun k_ hk_ => ⟨hk_.1.1, hk_.1.2.1, hk_.1.2.2.1, hk_.1.2.2.2⟩)); have n1_ := Aside0.mk (Kd.R_mono (ok' := fun k_ => some k_ ≠ (.slice Ao20 t560.length co20 : Value).ownBlock ∧ some k_ ≠ (.slice Ao30 t588.length co30 : Value).ownBlock ∧ some k_ ≠ (.slice Ao33 t573.length co33 : Value).ownBlock ∧ some k_ ≠ (.slice Ao38 t576.length co38 : Value).ownBlock) (Kd.R_keptB (HO_568001.out) hkp (fun k_ hk_ hs_ => Or.elim hs_ (fun e_ => (hk_.2.2.1) e_) (fun e_ => (hk_.2.2.2) e_))) (fun k_ hk_ => ⟨hk_.1.1, hk_.1.2.1, hk_.1.2.2.1, hk_.1.2.2.2⟩)); have n2_ := Aside0.mk (Kd.R_mono (ok' := fun k_ => some k_ ≠ (.slice Ao20 t560.length co20 : Value).ownBlock ∧ some k_ ≠ (.slice Ao23 t563.length co23 : Value).ownBlock ∧ some k_ ≠ (.slice Ao33 t573.length co33 : Value).ownBlock ∧ some k_ ≠ (.slice Ao38 t576.length co38 : Value).ownBlock) (Kd.R_keptB (HO_573001.out) hkp (fun k_ hk_ hs_ => Or.elim hs_ (fun e_ => (hk_.2.2.1) e_) (fun e_ => (hk_.2.2.2) e_))) (fun k_ hk_ => ⟨hk_.1.1, hk_.1.2.1, hk_.1.2.2.1, hk_.1.2.2.2⟩)); have n3_ := Aside0.mk (Kd.R_reok rfl hy0 (fun k_ e_ => HO_581000.out.1 k_ e_)); have n4_ := Aside0.mk (Kd.R_reok rfl hy1 (fun k_ e_ => HO_581001.out.1 k_ e_)); have n5_ := Aside0.mk (blk_kept (by (with_reducible repeat (first | refine blk_drewN ?_ _ | refine blk_drew ?_ | refine blk_alloc ?_ _)); exact BK554.out) hkp (fun hs_ => Or.elim hs_ (fun e_ => (fun e_ => (Kd.R_ne HO_581000.out BK554.out (by decide)) e_) e_) (fun e_ => (fun e_ => (Kd.R_ne HO_581001.out BK554.out (by decide)) e_) e_))); have n6_ := Aside0.mk (blk_kept (by (with_reducible repeat (first | refine blk_drewN ?_ _ | refine blk_drew ?_ | refine blk_alloc ?_ _)); exact BK567.out) hkp (fun hs_ => Or.elim hs_ (fun e_ => (fun e_ => (Kd.R_ne HO_581000.out BK567.out (by decide)) e_) e_) (fun e_ => (fun e_ => (Kd.R_ne HO_581001.out BK567.out (by decide)) e_) e_))); have n7_ := Aside0.mk (blk_kept (by (with_reducible repeat (first | refine blk_drewN ?_ _ | refine blk_drew ?_ | refine blk_alloc ?_ _)); exact BK572.out) hkp (fun hs_ => Or.elim hs_ (fun e_ => (fun e_ => (Kd.R_ne HO_581000.out BK572.out (by decide)) e_) e_) (fun e_ => (fun e_ => (Kd.R_ne HO_581001.out BK572.out (by decide)) e_) e_))); have n8_ := Aside0.mk (blk_kept (by (with_reducible repeat (first | refine blk_drewN ?_ _ | refine blk_drew ?_ | refine blk_alloc ?_ _)); exact BK580.out) hkp (fun hs_ => Or.elim hs_ (fun e_ => (fun e_ => (Kd.R_ne HO_581000.out BK580.out (by decide)) e_) e_) (fun e_ => (fun e_ => (Kd.R_ne HO_581001.out BK580.out (by decide)) e_) e_))); have n9_ := Aside0.mk (hb); clear HO_568000; clear HO_568001; clear HO_573001; clear HO_581000; clear HO_581001; clear BK554; clear BK567; clear BK572; clear BK580; clear HB; have HO_568000 := n0_; have HO_568001 := n1_; have HO_573001 := n2_; have HO_581000 := n3_; have HO_581001 := n4_; have BK554 := n5_; have BK567 := n6_; have BK572 := n7_; have BK580 := n8_; have HB := n9_; clear n0_ n1_ n2_ n3_ n4_ n5_ n6_ n7_ n8_ n9_; (try clear hb); (try clear hkp); (try clear hy0); (try clear hy1); have hcz176_0 : w175.cell? ⟨gb580, 0, none⟩ = some (.slice Ao33 t573.length co33) := (blk_cell BK580.out 0).trans rfl; have hcz176_1 : w175.cell? ⟨gb580, 1, none⟩ = some (.slice Ao38 t576.length co38) := (blk_cell BK580.out 1).trans rfl; have hfz176_0 := blk_frozen BK580.out 0; have hfz176_1 := blk_frozen BK580.out 1) | ((with_reducible refine gate_callee (f := 50) rfl ?_); refine goesL_ (some 67) rfl rfl Try.func50 (by kernel_rfl) rfl #[.agg #[.slice Ao33 t591.length co33, .slice Ao38 t592.length co38], .int .i64 1] rfl (by (try simp only [List.map_toArray, List.map_cons, List.map_nil]); first | done | (rw [show t591.length = t573.length from (Kd.R_reads' HO_581000.out).1.symm, show t592.length = t576.length from (Kd.R_reads' HO_581001.out).1.symm] <;> rfl) | rfl | (simp only [List.length_drop, List.length_take]; rfl)) ?_; (with_reducible refine (laws_heldMap.calls kj61 _ _ t591 _ _ t592 1 t593 _ ?side1 ?side2 ?side3 ?side4 A93.out).mono ?_); (case side1 => repeat (first | exact (Kd.R_reads' HO_581000.out).2.2 | (with_reducible refine Kd.C_alloc ?_ _) | (with_reducible refine Kd.C_drewN ?_ _) | (with_reducible refine Kd.C_drew ?_))); (case side2 => rw [show t591.length = t573.length from (Kd.R_reads' HO_581000.out).1.symm]; exact (Kd.R_reads' HO_581000.out).2.1); (case side3 => repeat (first | exact (Kd.R_reads' HO_581001.out).2.2 | (with_reducible refine Kd.C_alloc ?_ _) | (with_reducible refine Kd.C_drewN ?_ _) | (with_reducible refine Kd.C_drew ?_))); (case side4 => rw [show t592.length = t576.length from (Kd.R_reads' HO_581001.out).1.symm]; exact (Kd.R_reads' HO_581001.out).2.1); rintro e w177 ⟨rfl, hb⟩; refine ⟨_, rfl, ?_⟩; have n0_ := Aside0.mk (Kd.R_below (by (with_reducible repeat (first | apply Kd.R_alloc | apply Kd.R_drewN | apply Kd.R_drew)); exact HO_568000.out) hb); have n1_ := Aside0.mk (Kd.R_below (by (with_reducible repeat (first | apply Kd.R_alloc | apply Kd.R_drewN | apply Kd.R_drew)); exact HO_568001.out) hb); have n2_ := Aside0.mk (Kd.R_below (by (with_reducible repeat (first | apply Kd.R_alloc | apply Kd.R_drewN | apply Kd.R_drew)); exact HO_573001.out) hb); have n3_ := Aside0.mk (Kd.R_below (by (with_reducible repeat (first | apply Kd.R_alloc | apply Kd.R_drewN | apply Kd.R_drew)); exact HO_581000.out) hb); have n4_ := Aside0.mk (Kd.R_below (by (with_reducible repeat (first | apply Kd.R_alloc | apply Kd.R_drewN | apply Kd.R_drew)); exact HO_581001.out) hb); have n5_ := Aside0.mk (blk_below (g := gb554) (o := .cells #[.string a0_0, .slice A0_1 l0_1.length c0_1] 32 (0, 0)) (by (with_reducible repeat (first | refine blk_drewN ?_ _ | refine blk_drew ?_ | refine blk_alloc ?_ _)); exact BK554.out) hb); have n6_ := Aside0.mk (blk_below (g := gb567) (o := .cells #[.slice Ao20 t560.length co20, .slice Ao23 t563.length co23] 51 (0, 0)) (by (with_reducible repeat (first | refine blk_drewN ?_ _ | refine blk_drew ?_ | refine blk_alloc ?_ _)); exact BK567.out) hb); have n7_ := Aside0.mk (blk_below (g := gb572) (o := .cells #[.string t568, .slice Ao30 t588.length co30] 35 (0, 0)) (by (with_reducible repeat (first | refine blk_drewN ?_ _ | refine blk_drew ?_ | refine blk_alloc ?_ _)); exact BK572.out) hb); have n8_ := Aside0.mk (blk_below (g := gb580) (o := .cells #[.slice Ao33 t573.length co33, .slice Ao38 t576.length co38] 51 (0, 0)) (by (with_reducible repeat (first | refine blk_drewN ?_ _ | refine blk_drew ?_ | refine blk_alloc ?_ _)); exact BK580.out) hb); have n9_ := Aside0.mk (below_step (by repeat (first | (with_reducible first | exact HB.out | apply below_alloc | apply pw_below_drewN | apply below_drew1 | refine below_set ?_ GE554.out | refine below_set ?_ GE567.out | refine below_set ?_ GE572.out | refine below_set ?_ GE580.out) | exact HB.out)) hb); clear HO_568000; clear HO_568001; clear HO_573001; clear HO_581000; clear HO_581001; clear BK554; clear BK567; clear BK572; clear BK580; clear HB; have HO_568000 := n0_; have HO_568001 := n1_; have HO_573001 := n2_; have HO_581000 := n3_; have HO_581001 := n4_; have BK554 := n5_; have BK567 := n6_; have BK572 := n7_; have BK580 := n8_; have HB := n9_; clear n0_ n1_ n2_ n3_ n4_ n5_ n6_ n7_ n8_ n9_; (try clear hb); (try clear hb2); (try clear hk); (try clear hi)))
           go_ret
           exact ⟨by first | rfl | (simp [errW_none, errW_some] <;> rfl) | (simp [*, errW_none, errW_some] <;> rfl), by repeat (first | (with_reducible first | exact HB.out | apply below_alloc | apply pw_below_drewN | apply below_drew1 | refine below_set ?_ GE554.out | refine below_set ?_ GE567.out | refine below_set ?_ GE572.out | refine below_set ?_ GE580.out) | exact HB.out)⟩
     ·
      replace c60 := Bool.eq_false_iff.mpr c60
      subst c60
      have H1 : (some false) = some r := by rw [if_neg (show ¬ (false = true) by decide)] at H; exact H
      clear H
      have H := H1
      clear H1
      obtain rfl := Option.some.inj H
      try go_wp2
      have n0_ := Aside0.mk (Kd.R_drew HO_568000.out)
      have n1_ := Aside0.mk (Kd.R_drew HO_568001.out)
      have n2_ := Aside0.mk (Kd.R_drew HO_573001.out)
      have n3_ := Aside0.mk (Kd.R_drew HO_581000.out)
      have n4_ := Aside0.mk (Kd.R_drew HO_581001.out)
      have n5_ := Aside0.mk (blk_drew BK554.out)
      have n6_ := Aside0.mk (blk_drew BK567.out)
      have n7_ := Aside0.mk (blk_drew BK572.out)
      have n8_ := Aside0.mk (blk_drew BK580.out)
      have n9_ := Aside0.mk (below_drew1 HB.out)
      clear HO_568000
      clear HO_568001
      clear HO_573001
      clear HO_581000
      clear HO_581001
      clear BK554
      clear BK567
      clear BK572
      clear BK580
      clear HB
      have HO_568000 := n0_
      have HO_568001 := n1_
      have HO_573001 := n2_
      have HO_581000 := n3_
      have HO_581001 := n4_
      have BK554 := n5_
      have BK567 := n6_
      have BK572 := n7_
      have BK580 := n8_
      have HB := n9_
      clear n0_ n1_ n2_ n3_ n4_ n5_ n6_ n7_ n8_ n9_
      refine start_ (n := 5) (S := fun w' => w'.cell? ⟨gb572, 0, none⟩ = some (.string t568) ∧ w'.cell? ⟨gb572, 1, none⟩ = some (.slice Ao30 t569.length co30) ∧ w'.cell? ⟨gb554, 0, none⟩ = some (.string a0_0) ∧ w'.cell? ⟨gb554, 1, none⟩ = some (.slice A0_1 l0_1.length c0_1)) (ds := []) #[false, false, false, false, false] (by kernel_rfl) rfl rfl ⟨(blk_cell BK572.out 0).trans rfl, (blk_cell BK572.out 1).trans rfl, (blk_cell BK554.out 0).trans rfl, (blk_cell BK554.out 1).trans rfl⟩ (fun hHeld => ?_)
      generalize wc.drew = w178 at HO_568000 HO_568001 HO_573001 HO_581000 HO_581001 BK554 BK567 BK572 BK580 HB hHeld ⊢
      refine take_ (i := 0) (N := some 41) (v := ?_) (a' := ?_) #[true, false, false, false, false] rfl rfl (by kernel_rfl) (fun _ _ _ h => h) (Or.inl ⟨by rfl, ?_⟩) hHeld ?_ ?_
      rotate_left
      ·
       rintro w' ⟨s0, s1, s2, s3⟩
       go_simp
       with_reducible rfl
      rotate_left
      ·
       simp only [Act.put, List.setIfInBounds_toArray, List.set_cons_zero, List.set_cons_succ, i64_w, i32_w]
       rfl
      refine take_ (i := 1) (N := some 42) (v := ?_) (a' := ?_) #[true, true, false, false, false] rfl rfl (by kernel_rfl) (fun _ _ _ h => h) (Or.inl ⟨by rfl, ?_⟩) hHeld ?_ ?_
      rotate_left
      ·
       rintro w' ⟨s0, s1, s2, s3⟩
       go_simp
       with_reducible rfl
      rotate_left
      ·
       simp only [Act.put, List.setIfInBounds_toArray, List.set_cons_zero, List.set_cons_succ, i64_w, i32_w]
       rfl
      refine one_ (i := 2) (N := some 43) #[true, true, true, false, false] rfl rfl (by kernel_rfl) (by decide) (fun K hK => ?_)
      refine goes_ Try.func27 (by kernel_rfl) rfl #[.agg #[.string a0_0, .slice A0_1 l0_1.length c0_1]] (by rfl) rfl rfl (by (try simp only [List.map_toArray, List.map_cons, List.map_nil]); first | done | rfl | (simp only [List.length_drop, List.length_take]; rfl)) ?_
      with_reducible refine (laws_toTree.calls kj10 a0_0 _ _ l0_1 t582 t583 _ ?side1 ?side2 A58.out).mono ?_
      (case side1 => repeat (first | exact (Kd.C_below HR0_1.out HB.out) | (with_reducible refine Kd.C_alloc ?_ _) | (with_reducible refine Kd.C_drewN ?_ _) | (with_reducible refine Kd.C_drew ?_)))
      (case side2 => exact HC0_1.out)
      rintro e w179 ⟨v584, rfl, ho0, hb⟩
      refine ⟨_, rfl, ?_⟩
      have n0_ := Aside0.mk (Kd.R_elder' (by (with_reducible repeat (first | apply Kd.R_alloc | apply Kd.R_drewN | apply Kd.R_drew)); exact HO_568000.out) (Kd.R_base ho0) hb)
      have n1_ := Aside0.mk (Kd.R_elder' (by (with_reducible repeat (first | apply Kd.R_alloc | apply Kd.R_drewN | apply Kd.R_drew)); exact HO_568001.out) (Kd.R_base ho0) hb)
      have n2_ := Aside0.mk (Kd.R_elder' (by (with_reducible repeat (first | apply Kd.R_alloc | apply Kd.R_drewN | apply Kd.R_drew)); exact HO_573001.out) (Kd.R_base ho0) hb)
      have n3_ := Aside0.mk (Kd.R_elder' (by (with_reducible repeat (first | apply Kd.R_alloc | apply Kd.R_drewN | apply Kd.R_drew)); exact HO_581000.out) (Kd.R_base ho0) hb)
      have n4_ := Aside0.mk (Kd.R_elder' (by (with_reducible repeat (first | apply Kd.R_alloc | apply Kd.R_drewN | apply Kd.R_drew)); exact HO_581001.out) (Kd.R_base ho0) hb)
      have n5_ := Aside0.mk (Kd.R_lower (Kd.R_new' (Kd.R_new' (Kd.R_new' (Kd.R_new' (Kd.R_new' ho0 (Kd.R_lt (by (with_reducible repeat (first | apply Kd.R_alloc | apply Kd.R_drewN | apply Kd.R_drew)); exact HO_568000.out))) (Kd.R_lt (by (with_reducible repeat (first | apply Kd.R_alloc | apply Kd.R_drewN | apply Kd.R_drew)); exact HO_568001.out))) (Kd.R_lt (by (with_reducible repeat (first | apply Kd.R_alloc | apply Kd.R_drewN | apply Kd.R_drew)); exact HO_573001.out))) (Kd.R_lt (by (with_reducible repeat (first | apply Kd.R_alloc | apply Kd.R_drewN | apply Kd.R_drew)); exact HO_581000.out))) (Kd.R_lt (by (with_reducible repeat (first | apply Kd.R_alloc | apply Kd.R_drewN | apply Kd.R_drew)); exact HO_581001.out))) (below_size (by repeat (first | (with_reducible first | exact HB.out | apply below_alloc | apply pw_below_drewN | apply below_drew1 | refine below_set ?_ GE554.out | refine below_set ?_ GE567.out | refine below_set ?_ GE572.out | refine below_set ?_ GE580.out) | exact HB.out))))
      have n6_ := Aside0.mk (blk_below (g := gb554) (o := .cells #[.string a0_0, .slice A0_1 l0_1.length c0_1] 32 (0, 0)) (by (with_reducible repeat (first | refine blk_drewN ?_ _ | refine blk_drew ?_ | refine blk_alloc ?_ _)); exact BK554.out) hb)
      have n7_ := Aside0.mk (blk_below (g := gb567) (o := .cells #[.slice Ao20 t560.length co20, .slice Ao23 t563.length co23] 51 (0, 0)) (by (with_reducible repeat (first | refine blk_drewN ?_ _ | refine blk_drew ?_ | refine blk_alloc ?_ _)); exact BK567.out) hb)
      have n8_ := Aside0.mk (blk_below (g := gb572) (o := .cells #[.string t568, .slice Ao30 t569.length co30] 35 (0, 0)) (by (with_reducible repeat (first | refine blk_drewN ?_ _ | refine blk_drew ?_ | refine blk_alloc ?_ _)); exact BK572.out) hb)
      have n9_ := Aside0.mk (blk_below (g := gb580) (o := .cells #[.slice Ao33 t573.length co33, .slice Ao38 t576.length co38] 51 (0, 0)) (by (with_reducible repeat (first | refine blk_drewN ?_ _ | refine blk_drew ?_ | refine blk_alloc ?_ _)); exact BK580.out) hb)
      have n10_ := Aside0.mk (below_step (by repeat (first | (with_reducible first | exact HB.out | apply below_alloc | apply pw_below_drewN | apply below_drew1 | refine below_set ?_ GE554.out | refine below_set ?_ GE567.out | refine below_set ?_ GE572.out | refine below_set ?_ GE580.out) | exact HB.out)) hb)
      clear HO_568000
      clear HO_568001
      clear HO_573001
      clear HO_581000
      clear HO_581001
      clear BK554
      clear BK567
      clear BK572
      clear BK580
      clear HB
      have HO_568000 := n0_
      have HO_568001 := n1_
      have HO_573001 := n2_
      have HO_581000 := n3_
      have HO_581001 := n4_
      have HO585 := n5_
      have BK554 := n6_
      have BK567 := n7_
      have BK572 := n8_
      have BK580 := n9_
      have HB := n10_
      clear n0_ n1_ n2_ n3_ n4_ n5_ n6_ n7_ n8_ n9_ n10_
      (try clear hb)
      (try clear hb2)
      (try clear hk)
      (try clear hi)
      (try clear ho0)
      obtain ⟨Ao180, co180, eo180⟩ := Kd.R_slice HO585.out
      (first | subst eo180 | (injection eo180 with f1_ f2_ f3_; have f4_ := f1_.symm; have f5_ := f3_.symm; clear f1_ f2_ f3_; subst f4_; subst f5_))
      refine hK.out _ _ ⟨(blk_cell BK572.out 0).trans rfl, (blk_cell BK572.out 1).trans rfl, (blk_cell BK554.out 0).trans rfl, (blk_cell BK554.out 1).trans rfl⟩ (fun hHeld => ?_)
      clear hK K
      refine norm_ (a' := ?_) ?_ ?_
      rotate_left
      ·
       show Act.put _ (some 43) _ = _
       simp only [Act.put, List.setIfInBounds_toArray, List.set_cons_zero, List.set_cons_succ, i64_w, i32_w]
       rfl
      refine one_ (i := 3) (N := some 44) #[true, true, true, true, false] rfl rfl (by kernel_rfl) (by decide) (fun K hK => ?_)
      refine goes_ Try.func29 (by kernel_rfl) rfl #[.agg #[.string t568, .slice Ao30 t569.length co30], .agg #[.string t582, .slice Ao180 t583.length co180]] (by rfl) rfl rfl (by (try simp only [List.map_toArray, List.map_cons, List.map_nil]); first | done | rfl | (simp only [List.length_drop, List.length_take]; rfl)) ?_
      with_reducible refine (laws_eqTree.calls kj10 t568 _ _ t569 t582 _ _ t583 false _ ?side1 ?side2 ?side3 ?side4 A59.out).mono ?_
      (case side1 => repeat (first | exact (Kd.R_reads' HO_573001.out).2.2 | (with_reducible refine Kd.C_alloc ?_ _) | (with_reducible refine Kd.C_drewN ?_ _) | (with_reducible refine Kd.C_drew ?_)))
      (case side2 => exact (Kd.R_reads' HO_573001.out).2.1)
      (case side3 => repeat (first | exact (Kd.R_reads' HO585.out).2.2 | (with_reducible refine Kd.C_alloc ?_ _) | (with_reducible refine Kd.C_drewN ?_ _) | (with_reducible refine Kd.C_drew ?_)))
      (case side4 => exact (Kd.R_reads' HO585.out).2.1)
      rintro e w181 ⟨rfl, hb⟩
      refine ⟨_, rfl, ?_⟩
      have n0_ := Aside0.mk (Kd.R_below (by (with_reducible repeat (first | apply Kd.R_alloc | apply Kd.R_drewN | apply Kd.R_drew)); exact HO_568000.out) hb)
      have n1_ := Aside0.mk (Kd.R_below (by (with_reducible repeat (first | apply Kd.R_alloc | apply Kd.R_drewN | apply Kd.R_drew)); exact HO_568001.out) hb)
      have n2_ := Aside0.mk (Kd.R_below (by (with_reducible repeat (first | apply Kd.R_alloc | apply Kd.R_drewN | apply Kd.R_drew)); exact HO_573001.out) hb)
      have n3_ := Aside0.mk (Kd.R_below (by (with_reducible repeat (first | apply Kd.R_alloc | apply Kd.R_drewN | apply Kd.R_drew)); exact HO_581000.out) hb)
      have n4_ := Aside0.mk (Kd.R_below (by (with_reducible repeat (first | apply Kd.R_alloc | apply Kd.R_drewN | apply Kd.R_drew)); exact HO_581001.out) hb)
      have n5_ := Aside0.mk (Kd.R_below (by (with_reducible repeat (first | apply Kd.R_alloc | apply Kd.R_drewN | apply Kd.R_drew)); exact HO585.out) hb)
      have n6_ := Aside0.mk (blk_below (g := gb554) (o := .cells #[.string a0_0, .slice A0_1 l0_1.length c0_1] 32 (0, 0)) (by (with_reducible repeat (first | refine blk_drewN ?_ _ | refine blk_drew ?_ | refine blk_alloc ?_ _)); exact BK554.out) hb)
      have n7_ := Aside0.mk (blk_below (g := gb567) (o := .cells #[.slice Ao20 t560.length co20, .slice Ao23 t563.length co23] 51 (0, 0)) (by (with_reducible repeat (first | refine blk_drewN ?_ _ | refine blk_drew ?_ | refine blk_alloc ?_ _)); exact BK567.out) hb)
      have n8_ := Aside0.mk (blk_below (g := gb572) (o := .cells #[.string t568, .slice Ao30 t569.length co30] 35 (0, 0)) (by (with_reducible repeat (first | refine blk_drewN ?_ _ | refine blk_drew ?_ | refine blk_alloc ?_ _)); exact BK572.out) hb)
      have n9_ := Aside0.mk (blk_below (g := gb580) (o := .cells #[.slice Ao33 t573.length co33, .slice Ao38 t576.length co38] 51 (0, 0)) (by (with_reducible repeat (first | refine blk_drewN ?_ _ | refine blk_drew ?_ | refine blk_alloc ?_ _)); exact BK580.out) hb)
      have n10_ := Aside0.mk (below_step (by repeat (first | (with_reducible first | exact HB.out | apply below_alloc | apply pw_below_drewN | apply below_drew1 | refine below_set ?_ GE554.out | refine below_set ?_ GE567.out | refine below_set ?_ GE572.out | refine below_set ?_ GE580.out) | exact HB.out)) hb)
      clear HO_568000
      clear HO_568001
      clear HO_573001
      clear HO_581000
      clear HO_581001
      clear HO585
      clear BK554
      clear BK567
      clear BK572
      clear BK580
      clear HB
      have HO_568000 := n0_
      have HO_568001 := n1_
      have HO_573001 := n2_
      have HO_581000 := n3_
      have HO_581001 := n4_
      have HO585 := n5_
      have BK554 := n6_
      have BK567 := n7_
      have BK572 := n8_
      have BK580 := n9_
      have HB := n10_
      clear n0_ n1_ n2_ n3_ n4_ n5_ n6_ n7_ n8_ n9_ n10_
      (try clear hb)
      (try clear hb2)
      (try clear hk)
      (try clear hi)
      refine hK.out _ _ ⟨(blk_cell BK572.out 0).trans rfl, (blk_cell BK572.out 1).trans rfl, (blk_cell BK554.out 0).trans rfl, (blk_cell BK554.out 1).trans rfl⟩ (fun hHeld => ?_)
      clear hK K
      refine norm_ (a' := ?_) ?_ ?_
      rotate_left
      ·
       show Act.put _ (some 44) _ = _
       simp only [Act.put, List.setIfInBounds_toArray, List.set_cons_zero, List.set_cons_succ, i64_w, i32_w]
       rfl
      refine pure_ (i := 4) (N := some 45) (v := ?_) (a' := ?_) #[true, true, true, true, true] rfl rfl (by kernel_rfl) (fun _ _ _ h => h) (Or.inl ⟨by rfl, ?_⟩) ?_ ?_
      rotate_left
      ·
       intro w'
       go_simp
       with_reducible rfl
      rotate_left
      ·
       simp only [Act.put, List.setIfInBounds_toArray, List.set_cons_zero, List.set_cons_succ, i64_w, i32_w]
       rfl
      refine done_ (by kernel_rfl) ?_
      try go_wp2
      go_ret
      exact ⟨by first | rfl | (simp [errW_none, errW_some] <;> rfl) | (simp [*, errW_none, errW_some] <;> rfl), by repeat (first | (with_reducible first | exact HB.out | apply below_alloc | apply pw_below_drewN | apply below_drew1 | refine below_set ?_ GE554.out | refine below_set ?_ GE567.out | refine below_set ?_ GE572.out | refine below_set ?_ GE580.out) | exact HB.out)⟩
def laws_FnExactTreeMap.Pure : Prop := ∀ (a0_0 : ByteArray) (l0_1 : List Int), a0_0.size ≤ maxLen → l0_1.length ≤ maxLen → (∀ x ∈ l0_1, (Lit.int .i64 x).wf = true) → ∃ k, laws_FnExactTreeMap.f k a0_0 l0_1 = some true
end Go.Proofs.Ytlfalkbldjjomaa.PB

set_option linter.unusedVariables false
set_option linter.unusedSimpArgs false
namespace Go.Proofs.Ytlfalkbldjjomaa.PB
open Go.RowKit Go.Proofs.YtlfalkbldjjomaaW.PrintWords Go.Proofs.YtlfalkbldjjomaaW.PrintLast Go.Proofs.YtlfalkbldjjomaaW.PrintMore
theorem Ev.s {α : Type} {g : Nat → Option α} {r : α} (h : Ev (fun k => g (k + 1)) r) : Ev g r := Ev.step (fun _ => rfl) h
theorem Ev.const {α : Type} {o : Option α} {r : α} (h : o = some r) : Ev (fun _ => o) r := ⟨0, fun _ _ => h⟩
theorem w64 {x : Int} (h1 : -9223372036854775808 ≤ x) (h2 : x < 9223372036854775808) : wrap64 x = x := by unfold wrap64; omega
end Go.Proofs.Ytlfalkbldjjomaa.PB

set_option linter.unusedVariables false
set_option linter.unusedSimpArgs false
namespace Go.Proofs.Ytlfalkbldjjomaa.PB
open Go.RowKit Go.Proofs.YtlfalkbldjjomaaW.PrintWords Go.Proofs.YtlfalkbldjjomaaW.PrintLast Go.Proofs.YtlfalkbldjjomaaW.PrintMore
theorem rd_lt (l : List Int) (i : Nat) (h : i < l.length) : rd l (i : Int) = l[i] := by
  unfold rd
  rw [Int.toNat_natCast, List.getD_eq_getElem?_getD, List.getElem?_eq_getElem h]
  rfl
theorem toIntS_run (l : List Int) (hl : l.length ≤ 1048576) : ∀ (d : Nat) (m : List Int) (i : Nat), l.length - i = d → i ≤ l.length → m.length = l.length → m.take i = l.take i → Ev (fun k => laws_toIntS.l0 k l m i) l
  | 0, m, i, hd, hi, hm, ht => by
    refine Ev.s ?_
    simp only [laws_toIntS.l0, show ¬ (i : Int) < (l.length : Int) by omega, if_false]
    have hi' : i = l.length := by omega
    subst hi'
    rw [List.take_length] at ht
    rw [← hm, List.take_length] at ht
    exact Ev.const (by rw [ht])
  | d + 1, m, i, hd, hi, hm, ht => by
    have hlt : i < l.length := by omega
    refine Ev.s ?_
    simp only [laws_toIntS.l0, show (i : Int) < (l.length : Int) by omega, show (0 : Int) ≤ i by omega, show (i : Int) < (m.length : Int) by omega, if_true]
    rw [w64 (x := (i : Int) + 1) (by omega) (by omega), show ((i : Int) + 1) = ((i + 1 : Nat) : Int) by omega]
    refine toIntS_run l hl d _ (i + 1) (by omega) (by omega) (by simpa using hm) ?_
    rw [Int.toNat_natCast, rd_lt l i hlt]
    have h2 : i < m.length := by omega
    rw [List.take_succ_eq_append_getElem (by simpa using h2), List.take_succ_eq_append_getElem hlt, List.take_set_of_le (Nat.le_refl _), ht]
    simp
theorem toIntS_ev (l : List Int) (hl : l.length ≤ 1048576) : Ev (fun k => laws_toIntS.f k l) l := by
  unfold laws_toIntS.f
  simp only [show (0 : Int) ≤ (l.length : Int) by omega, show ((l.length : Int)).toNat ≤ 35184372088832 by omega, if_true]
  exact toIntS_run l hl l.length _ 0 (by omega) (by omega) (by simp) (by simp)
theorem eqIntS_run (l : List Int) (hl : l.length ≤ 1048576) : ∀ (d : Nat) (i : Nat), l.length - i = d → i ≤ l.length → Ev (fun k => laws_eqIntS.l0 k l l i) true
  | 0, i, hd, hi => by
    refine Ev.s ?_
    simp only [laws_eqIntS.l0, show ¬ (i : Int) < (l.length : Int) by omega, if_false]
    exact Ev.const rfl
  | d + 1, i, hd, hi => by
    refine Ev.s ?_
    simp only [laws_eqIntS.l0, show (i : Int) < (l.length : Int) by omega, show (0 : Int) ≤ i by omega, if_true]
    rw [w64 (x := (i : Int) + 1) (by omega) (by omega), show ((i : Int) + 1) = ((i + 1 : Nat) : Int) by omega]
    exact eqIntS_run l hl d (i + 1) (by omega) (by omega)
theorem eqIntS_same (l : List Int) (hl : l.length ≤ 1048576) : Ev (fun k => laws_eqIntS.f k l l) true := by
  unfold laws_eqIntS.f
  simp only [if_true]
  exact eqIntS_run l hl l.length 0 (by omega) (by omega)
end Go.Proofs.Ytlfalkbldjjomaa.PB

set_option linter.unusedVariables false
set_option linter.unusedSimpArgs false
namespace Go.Proofs.Ytlfalkbldjjomaa.PB
open Go.RowKit Go.Proofs.YtlfalkbldjjomaaW.PrintWords Go.Proofs.YtlfalkbldjjomaaW.PrintLast Go.Proofs.YtlfalkbldjjomaaW.PrintMore
def walkT (s : ByteArray) : Nat → Int → Option (Int × Int)
  | 0, g => some (g, 0)
  | d + 1, g => if bt s ((s.size : Int) - (d + 1 : Nat)) = 40 then (walkT s d (g + 1)).map (fun p => (p.1, p.2 + 1)) else if bt s ((s.size : Int) - (d + 1 : Nat)) = 41 then (if g - 1 < 0 then none else walkT s d (g - 1)) else none
theorem walkT_range (s : ByteArray) : ∀ (d : Nat) (g : Int) (p : Int × Int), 0 ≤ g → walkT s d g = some p → 0 ≤ p.1 ∧ 0 ≤ p.2 ∧ p.2 ≤ d ∧ p.1 = g + 2 * p.2 - d
  | 0, g, p, hg, h => by simp only [walkT, Option.some.injEq] at h; subst h; simp; omega
  | d + 1, g, p, hg, h => by
    simp only [walkT] at h
    split at h
    · cases e : walkT s d (g + 1) with
      | none => rw [e] at h; cases h
      | some q =>
        rw [e] at h
        obtain rfl := Option.some.inj h
        have := walkT_range s d (g + 1) q (by omega) e
        simp only
        omega
    · split at h
      · split at h
        · cases h
        · have := walkT_range s d (g - 1) p (by omega) h
          omega
      · cases h
theorem spec_steps (x3 x4 : Int) (s : ByteArray) (l : List Int) (hl : l.length ≤ 1048576) : ∀ (d i : Nat), l.length - i = d → i ≤ l.length →
    ((∀ j, i ≤ j → j < l.length → -1 ≤ rd l j ∧ rd l j ≤ 1) → Ev (fun k => spec_TreeValid.l1 k x3 x4 i s l) (decide (x3 = 0 ∧ (1 ≤ x4 ∧ x4 ≤ 3) ∧ (l.length : Int) = x4))) ∧
    (¬ (∀ j, i ≤ j → j < l.length → -1 ≤ rd l j ∧ rd l j ≤ 1) → Ev (fun k => spec_TreeValid.l1 k x3 x4 i s l) false)
  | 0, i, hd, hi => by
    refine ⟨fun _ => Ev.s ?_, fun h => absurd (fun j h1 h2 => by omega) h⟩
    simp only [spec_TreeValid.l1, show ¬ (i : Int) < (l.length : Int) by omega, if_false]
    refine Ev.const ?_
    unfold spec_l6In.f
    by_cases h1 : x3 = 0
    · by_cases h2 : x4 ≥ 1
      · by_cases h3 : x4 ≤ 3
        · by_cases h4 : (l.length : Int) = x4 <;> simp [h1, h2, h3, h4] <;> (try omega)
        · simp [h1, h2, h3]
      · simp [h1, h2] <;> (first | done | omega)
    · simp [h1]
  | d + 1, i, hd, hi => by
    have ih := spec_steps x3 x4 s l hl d (i + 1) (by omega) (by omega)
    have hw : wrap64 ((i : Int) + 1) = ((i + 1 : Nat) : Int) := by rw [w64 (by omega) (by omega)]; omega
    by_cases hb : -1 ≤ rd l i ∧ rd l i ≤ 1
    · have hin : spec_l6In.f (rd l i) (-1) 1 = some true := by unfold spec_l6In.f; rw [if_pos hb.1, decide_eq_true hb.2]
      refine ⟨fun h => Ev.s ?_, fun h => Ev.s ?_⟩
      · simp only [spec_TreeValid.l1, show (i : Int) < (l.length : Int) by omega, show (0 : Int) ≤ i by omega, if_true, hin, Option.bind_some, hw]
        exact ih.1 fun j h1 h2 => h j (by omega) h2
      · simp only [spec_TreeValid.l1, show (i : Int) < (l.length : Int) by omega, show (0 : Int) ≤ i by omega, if_true, hin, Option.bind_some, hw]
        refine ih.2 fun h' => h fun j h1 h2 => ?_
        by_cases e : j = i
        · rw [e]; exact hb
        · exact h' j (by omega) h2
    · have hin : spec_l6In.f (rd l i) (-1) 1 = some false := by
        unfold spec_l6In.f
        by_cases h1 : rd l i ≥ -1
        · rw [if_pos h1, decide_eq_false (by omega)]
        · rw [if_neg h1]
      refine ⟨fun h => absurd (h i (Nat.le_refl _) (by omega)) hb, fun h => Ev.s ?_⟩
      simp only [spec_TreeValid.l1, show (i : Int) < (l.length : Int) by omega, show (0 : Int) ≤ i by omega, if_true, hin, Option.bind_some]
      exact Ev.const rfl
theorem spec_walk (s : ByteArray) (hs : s.size ≤ 1048576) (l : List Int) : ∀ (d : Nat) (i g c : Int), 0 ≤ i → (s.size : Int) - i = d → 0 ≤ g → g ≤ i → 0 ≤ c → c ≤ i →
    (∀ p, walkT s d g = some p → ∀ r, Ev (fun k => spec_TreeValid.l1 k p.1 (c + p.2) 0 s l) r → Ev (fun k => spec_TreeValid.l0 k g c i s l) r) ∧ (walkT s d g = none → Ev (fun k => spec_TreeValid.l0 k g c i s l) false)
  | 0, i, g, c, hi, hd, hg, hgi, hc, hci => by
    refine ⟨fun p hp r h => Ev.s ?_, fun h => by simp [walkT] at h⟩
    simp only [spec_TreeValid.l0, show ¬ i < (s.size : Int) by omega, if_false]
    simp only [walkT, Option.some.injEq] at hp
    subst hp
    simpa using h
  | d + 1, i, g, c, hi, hd, hg, hgi, hc, hci => by
    have hj : (s.size : Int) - ((d + 1 : Nat) : Int) = i := by omega
    have w1 : wrap64 (g + 1) = g + 1 := w64 (by omega) (by omega)
    have w2 : wrap64 (g - 1) = g - 1 := w64 (by omega) (by omega)
    have w3 : wrap64 (c + 1) = c + 1 := w64 (by omega) (by omega)
    have w4 : wrap64 (i + 1) = i + 1 := w64 (by omega) (by omega)
    simp only [walkT, hj]
    by_cases b0 : bt s i = 40
    · simp only [b0, if_true]
      have ih := spec_walk s hs l d (i + 1) (g + 1) (c + 1) (by omega) (by omega) (by omega) (by omega) (by omega) (by omega)
      refine ⟨fun p hp r h => Ev.s ?_, fun h => Ev.s ?_⟩
      · simp only [spec_TreeValid.l0, show i < (s.size : Int) by omega, hi, b0, if_true, w1, w3, w4, show ¬ g + 1 < 0 by omega, if_false]
        cases e : walkT s d (g + 1) with
        | none => rw [e] at hp; cases hp
        | some q =>
          rw [e] at hp
          obtain rfl := Option.some.inj hp
          refine ih.1 q e r ?_
          have : c + 1 + q.2 = c + (q.2 + 1) := by omega
          rw [this]
          exact h
      · simp only [spec_TreeValid.l0, show i < (s.size : Int) by omega, hi, b0, if_true, w1, w3, w4, show ¬ g + 1 < 0 by omega, if_false]
        exact ih.2 (by simpa using h)
    · by_cases b1 : bt s i = 41
      · simp only [b1, if_true, show ¬ ((41 : Int) = 40) by decide, if_false]
        by_cases hz : g - 1 < 0
        · refine ⟨fun p hp => by simp [hz] at hp, fun _ => Ev.s ?_⟩
          simp only [spec_TreeValid.l0, show i < (s.size : Int) by omega, hi, b1, if_true, w2, hz, show ¬ ((41 : Int) = 40) by decide, if_false]
          exact Ev.const rfl
        · have ih := spec_walk s hs l d (i + 1) (g - 1) c (by omega) (by omega) (by omega) (by omega) (by omega) (by omega)
          simp only [hz, if_false]
          refine ⟨fun p hp r h => Ev.s ?_, fun h => Ev.s ?_⟩
          · simp only [spec_TreeValid.l0, show i < (s.size : Int) by omega, hi, b1, if_true, w2, w4, hz, show ¬ ((41 : Int) = 40) by decide, if_false]
            exact ih.1 p hp r h
          · simp only [spec_TreeValid.l0, show i < (s.size : Int) by omega, hi, b1, if_true, w2, w4, hz, show ¬ ((41 : Int) = 40) by decide, if_false]
            exact ih.2 h
      · simp only [b0, b1, if_false]
        refine ⟨fun p hp => by simp at hp, fun _ => Ev.s ?_⟩
        simp only [spec_TreeValid.l0, show i < (s.size : Int) by omega, hi, b0, b1, if_true, if_false]
        exact Ev.const rfl
theorem impl_walk (s : ByteArray) (hs : s.size ≤ 1048576) : ∀ (d i : Nat) (g : Int), (s.size : Int) - i = d → 0 ≤ g → g ≤ i →
    (∀ p, walkT s d g = some p → Ev (fun k => impl_TreeValid.l1 k s i g) (p.1 == 0)) ∧ (walkT s d g = none → Ev (fun k => impl_TreeValid.l1 k s i g) false)
  | 0, i, g, hd, hg, hgi => by
    refine ⟨fun p hp => Ev.s ?_, fun h => by simp [walkT] at h⟩
    simp only [impl_TreeValid.l1, show ¬ i < s.size by omega, if_false]
    simp only [walkT, Option.some.injEq] at hp
    subst hp
    exact Ev.const rfl
  | d + 1, i, g, hd, hg, hgi => by
    have hj : (s.size : Int) - ((d + 1 : Nat) : Int) = (i : Int) := by omega
    have w1 : wrap64 (g + 1) = g + 1 := w64 (by omega) (by omega)
    have w2 : wrap64 (g - 1) = g - 1 := w64 (by omega) (by omega)
    simp only [walkT, hj]
    by_cases b0 : bt s i = 40
    · simp only [b0, if_true]
      have ih := impl_walk s hs d (i + 1) (g + 1) (by omega) (by omega) (by omega)
      refine ⟨fun p hp => Ev.s ?_, fun h => Ev.s ?_⟩
      · simp only [impl_TreeValid.l1, show i < s.size by omega, b0, if_true, w1, show ¬ g + 1 < 0 by omega, if_false]
        cases e : walkT s d (g + 1) with
        | none => rw [e] at hp; cases hp
        | some q =>
          rw [e] at hp
          obtain rfl := Option.some.inj hp
          exact ih.1 q e
      · simp only [impl_TreeValid.l1, show i < s.size by omega, b0, if_true, w1, show ¬ g + 1 < 0 by omega, if_false]
        exact ih.2 (by simpa using h)
    · by_cases b1 : bt s i = 41
      · simp only [b1, if_true, show ¬ ((41 : Int) = 40) by decide, if_false]
        by_cases hz : g - 1 < 0
        · refine ⟨fun p hp => by simp [hz] at hp, fun _ => Ev.s ?_⟩
          simp only [impl_TreeValid.l1, show i < s.size by omega, b1, if_true, w2, hz, show ¬ ((41 : Int) = 40) by decide, if_false]
          exact Ev.const rfl
        · have ih := impl_walk s hs d (i + 1) (g - 1) (by omega) (by omega) (by omega)
          simp only [hz, if_false]
          refine ⟨fun p hp => Ev.s ?_, fun h => Ev.s ?_⟩
          · simp only [impl_TreeValid.l1, show i < s.size by omega, b1, if_true, w2, hz, show ¬ ((41 : Int) = 40) by decide, if_false]
            exact ih.1 p hp
          · simp only [impl_TreeValid.l1, show i < s.size by omega, b1, if_true, w2, hz, show ¬ ((41 : Int) = 40) by decide, if_false]
            exact ih.2 h
      · simp only [b0, b1, if_false]
        refine ⟨fun p hp => by simp at hp, fun _ => Ev.s ?_⟩
        simp only [impl_TreeValid.l1, show i < s.size by omega, b0, b1, if_true, if_false]
        exact Ev.const rfl
theorem impl_steps (s : ByteArray) (l : List Int) (hl : l.length ≤ 3) : ∀ (d i : Nat), l.length - i = d → i ≤ l.length →
    ((∀ j, i ≤ j → j < l.length → -1 ≤ rd l j ∧ rd l j ≤ 1) → ∀ r, Ev (fun k => impl_TreeValid.l1 k s 0 0) r → Ev (fun k => impl_TreeValid.l0 k s l i) r) ∧
    (¬ (∀ j, i ≤ j → j < l.length → -1 ≤ rd l j ∧ rd l j ≤ 1) → Ev (fun k => impl_TreeValid.l0 k s l i) false)
  | 0, i, hd, hi => by
    refine ⟨fun _ r h => Ev.s ?_, fun h => absurd (fun j h1 h2 => by omega) h⟩
    simp only [impl_TreeValid.l0, show ¬ (i : Int) < (l.length : Int) by omega, if_false]
    exact h
  | d + 1, i, hd, hi => by
    have ih := impl_steps s l hl d (i + 1) (by omega) (by omega)
    have hw : wrap64 ((i : Int) + 1) = ((i + 1 : Nat) : Int) := by rw [w64 (by omega) (by omega)]; omega
    by_cases hb1 : rd l i < -1
    · refine ⟨fun h => absurd (h i (Nat.le_refl _) (by omega)) (by omega), fun h => Ev.s ?_⟩
      simp only [impl_TreeValid.l0, show (i : Int) < (l.length : Int) by omega, show (0 : Int) ≤ i by omega, hb1, if_true]
      exact Ev.const rfl
    · by_cases hb2 : rd l i > 1
      · refine ⟨fun h => absurd (h i (Nat.le_refl _) (by omega)) (by omega), fun h => Ev.s ?_⟩
        simp only [impl_TreeValid.l0, show (i : Int) < (l.length : Int) by omega, show (0 : Int) ≤ i by omega, hb1, hb2, if_true, if_false]
        exact Ev.const rfl
      · refine ⟨fun h r hr => Ev.s ?_, fun h => Ev.s ?_⟩
        · simp only [impl_TreeValid.l0, show (i : Int) < (l.length : Int) by omega, show (0 : Int) ≤ i by omega, hb1, hb2, if_true, if_false, hw]
          exact ih.1 (fun j h1 h2 => h j (by omega) h2) r hr
        · simp only [impl_TreeValid.l0, show (i : Int) < (l.length : Int) by omega, show (0 : Int) ≤ i by omega, hb1, hb2, if_true, if_false, hw]
          refine ih.2 fun h' => h fun j h1 h2 => ?_
          by_cases e : j = i
          · rw [e]; omega
          · exact h' j (by omega) h2
def treeOk (s : ByteArray) (l : List Int) : Prop := 1 ≤ l.length ∧ l.length ≤ 3 ∧ s.size = 2 * l.length ∧ (∀ j : Nat, j < l.length → -1 ≤ rd l j ∧ rd l j ≤ 1) ∧ ∃ c, walkT s s.size 0 = some (0, c)
theorem treeValid_both (s : ByteArray) (hs : s.size ≤ 1048576) (l : List Int) (hl : l.length ≤ 1048576) :
    ∃ b : Bool, Ev (fun k => spec_TreeValid.f k s l) b ∧ Ev (fun k => impl_TreeValid.f k s l) b ∧ (b = true → treeOk s l) := by
  have hsp := spec_walk s hs l s.size 0 0 0 (by omega) (by omega) (by omega) (by omega) (by omega) (by omega)
  have hst := fun x3 x4 => spec_steps x3 x4 s l hl l.length 0 (by omega) (by omega)
  simp only [spec_TreeValid.f, impl_TreeValid.f]
  cases hw : walkT s s.size 0 with
  | none =>
    refine ⟨false, hsp.2 hw, ?_, fun h => by cases h⟩
    by_cases h1 : (l.length : Int) < 1
    · simp only [h1, if_true]; exact Ev.const rfl
    · by_cases h3 : (l.length : Int) > 3
      · simp only [h1, h3, if_true, if_false]; exact Ev.const rfl
      · by_cases h2 : (s.size : Int) = wrap64 (2 * (l.length : Int))
        · simp only [h1, h3, if_false]
          simp only [if_pos h2]
          by_cases hb : ∀ j : Nat, 0 ≤ j → j < l.length → -1 ≤ rd l j ∧ rd l j ≤ 1
          · exact (impl_steps s l (by omega) l.length 0 (by omega) (by omega)).1 hb _ ((impl_walk s hs s.size 0 0 (by omega) (by omega) (by omega)).2 hw)
          · exact (impl_steps s l (by omega) l.length 0 (by omega) (by omega)).2 hb
        · simp only [h1, h3, h2, if_false]
          exact Ev.const rfl
  | some p =>
    have hr := walkT_range s s.size 0 p (by omega) hw
    have hc0 : (0 : Int) + p.2 = p.2 := by omega
    by_cases hb : ∀ j : Nat, 0 ≤ j → j < l.length → -1 ≤ rd l j ∧ rd l j ≤ 1
    · refine ⟨decide (p.1 = 0 ∧ (1 ≤ p.2 ∧ p.2 ≤ 3) ∧ (l.length : Int) = p.2), hsp.1 p hw _ ?_, ?_, fun h => ?_⟩
      · rw [hc0]; exact (hst p.1 p.2).1 hb
      · by_cases h1 : (l.length : Int) < 1
        · simp only [h1, if_true]
          exact Ev.const (by congr 1; symm; rw [decide_eq_false_iff_not]; omega)
        · by_cases h3 : (l.length : Int) > 3
          · simp only [h1, h3, if_true, if_false]
            exact Ev.const (by congr 1; symm; rw [decide_eq_false_iff_not]; omega)
          · have h2w : wrap64 (2 * (l.length : Int)) = 2 * (l.length : Int) := w64 (by omega) (by omega)
            by_cases h2 : (s.size : Int) = 2 * (l.length : Int)
            · simp only [h1, h3, if_false, h2w]
              simp only [if_pos h2]
              have hi := (impl_steps s l (by omega) l.length 0 (by omega) (by omega)).1 hb _ ((impl_walk s hs s.size 0 0 (by omega) (by omega) (by omega)).1 p hw)
              have e : (p.1 == 0) = decide (p.1 = 0 ∧ (1 ≤ p.2 ∧ p.2 ≤ 3) ∧ (l.length : Int) = p.2) := by
                rw [Bool.eq_iff_iff]
                simp only [beq_iff_eq, decide_eq_true_eq]
                omega
              rw [e] at hi
              exact hi
            · simp only [h1, h3, h2, if_false, h2w]
              exact Ev.const (by congr 1; symm; rw [decide_eq_false_iff_not]; omega)
      · have := of_decide_eq_true h
        refine ⟨by omega, by omega, by omega, fun j hj => hb j (by omega) hj, p.2, ?_⟩
        rw [hw]
        congr 1
        exact Prod.ext this.1 rfl
    · refine ⟨false, hsp.1 p hw _ ?_, ?_, fun h => by cases h⟩
      · exact (hst p.1 _).2 hb
      · by_cases h1 : (l.length : Int) < 1
        · simp only [h1, if_true]; exact Ev.const rfl
        · by_cases h3 : (l.length : Int) > 3
          · simp only [h1, h3, if_true, if_false]; exact Ev.const rfl
          · by_cases h2 : (s.size : Int) = wrap64 (2 * (l.length : Int))
            · simp only [h1, h3, if_false]
              simp only [if_pos h2]
              exact (impl_steps s l (by omega) l.length 0 (by omega) (by omega)).2 hb
            · simp only [h1, h3, h2, if_false]
              exact Ev.const rfl
end Go.Proofs.Ytlfalkbldjjomaa.PB

set_option linter.unusedVariables false
set_option linter.unusedSimpArgs false
namespace Go.Proofs.Ytlfalkbldjjomaa.PB
open Go.RowKit Go.Proofs.YtlfalkbldjjomaaW.PrintWords Go.Proofs.YtlfalkbldjjomaaW.PrintLast Go.Proofs.YtlfalkbldjjomaaW.PrintMore
def stepsAll : Nat → List (List Int)
  | 0 => [[]]
  | n + 1 => [-1, 0, 1].flatMap fun a => (stepsAll n).map fun l => a :: l
def wordsAll : Nat → List ByteArray
  | 1 => [⟨#[40, 41]⟩]
  | 2 => [⟨#[40, 40, 41, 41]⟩, ⟨#[40, 41, 40, 41]⟩]
  | 3 => [⟨#[40, 40, 40, 41, 41, 41]⟩, ⟨#[40, 40, 41, 40, 41, 41]⟩, ⟨#[40, 40, 41, 41, 40, 41]⟩, ⟨#[40, 41, 40, 40, 41, 41]⟩, ⟨#[40, 41, 40, 41, 40, 41]⟩]
  | _ => []
def chkN (P : ByteArray → List Int → Bool) (n : Nat) : Bool := (wordsAll n).all fun s => (stepsAll n).all fun l => P s l
theorem stepsAll_mem : ∀ (l : List Int), (∀ x ∈ l, -1 ≤ x ∧ x ≤ 1) → l ∈ stepsAll l.length
  | [], _ => by simp [stepsAll]
  | a :: l, h => by
    have ih := stepsAll_mem l fun x hx => h x (by simp [hx])
    have ha := h a (by simp)
    simp only [List.length_cons, stepsAll, List.mem_flatMap, List.mem_map]
    exact ⟨a, by simp; omega, l, ih, rfl⟩
theorem walkT_bytes (s : ByteArray) : ∀ (d : Nat) (g : Int) (p : Int × Int), walkT s d g = some p → ∀ q : Int, (s.size : Int) - d ≤ q → q < s.size → bt s q = 40 ∨ bt s q = 41
  | 0, g, p, h, q, h1, h2 => by omega
  | d + 1, g, p, h, q, h1, h2 => by
    simp only [walkT] at h
    by_cases e : q = (s.size : Int) - ((d + 1 : Nat) : Int)
    · rw [e]
      by_cases b0 : bt s ((s.size : Int) - ((d + 1 : Nat) : Int)) = 40
      · exact .inl b0
      · by_cases b1 : bt s ((s.size : Int) - ((d + 1 : Nat) : Int)) = 41
        · exact .inr b1
        · rw [if_neg b0, if_neg b1] at h
          cases h
    · split at h
      · cases e2 : walkT s d (g + 1) with
        | none => rw [e2] at h; cases h
        | some q' => exact walkT_bytes s d (g + 1) q' e2 q (by omega) h2
      · split at h
        · split at h
          · cases h
          · exact walkT_bytes s d (g - 1) p h q (by omega) h2
        · cases h
theorem byte_of (b : UInt8) (h : ((b.toNat : Int) = 40) ∨ ((b.toNat : Int) = 41)) : b = 40 ∨ b = 41 := by
  rcases h with h | h
  · left; apply UInt8.toNat_inj.1; simpa using (by omega : b.toNat = 40)
  · right; apply UInt8.toNat_inj.1; simpa using (by omega : b.toNat = 41)
theorem bytes_of (s : ByteArray) (n : Nat) (hn : s.size = n) : ∃ l : List UInt8, l.length = n ∧ s = ⟨l.toArray⟩ := by
  refine ⟨s.data.toList, ?_, ?_⟩
  · rw [Array.length_toList]; exact hn
  · apply ByteArray.ext; simp
theorem bt_nth (l : List UInt8) (i : Nat) (h : i < l.length) : bt ⟨l.toArray⟩ (i : Int) = (l[i].toNat : Int) := by
  have := (bt_at ⟨l.toArray⟩ (i : Int) (by simpa [ByteArray.size] using h)).symm
  rw [this]
  rfl
theorem words_mem (s : ByteArray) (n : Nat) (h1 : 1 ≤ n) (h3 : n ≤ 3) (hs : s.size = 2 * n) (c : Int) (hw : walkT s s.size 0 = some (0, c)) : s ∈ wordsAll n := by
  have hb := walkT_bytes s s.size 0 (0, c) hw
  have hw' : (walkT s s.size 0).map (fun p => p.1) = some 0 := by rw [hw]; rfl
  clear hw
  obtain ⟨l, hl, rfl⟩ := bytes_of s (2 * n) hs
  have hbl : ∀ i (h : i < l.length), l[i] = 40 ∨ l[i] = 41 := fun i h => byte_of _ (by
    have := hb (i : Int) (by omega) (by rw [hs]; omega)
    rwa [bt_nth l i h] at this)
  clear hb
  have hc : n = 1 ∨ n = 2 ∨ n = 3 := by omega
  rcases hc with rfl | rfl | rfl
  · obtain ⟨a, b, rfl⟩ : ∃ a b, l = [a, b] := by
      match l, hl with
      | [a, b], _ => exact ⟨a, b, rfl⟩
    · skip
      have h0 : a = 40 ∨ a = 41 := hbl 0 (show 0 < 2 by decide); have h1' : b = 40 ∨ b = 41 := hbl 1 (show 1 < 2 by decide)
      rcases h0 with rfl | rfl <;> rcases h1' with rfl | rfl <;> first | (exact absurd hw' (by decide +kernel)) | (simp [wordsAll]; done)
  · obtain ⟨a, b, c, d, rfl⟩ : ∃ a b c d, l = [a, b, c, d] := by
      match l, hl with
      | [a, b, c, d], _ => exact ⟨a, b, c, d, rfl⟩
    · skip
      have g0 : a = 40 ∨ a = 41 := hbl 0 (show 0 < 4 by decide); have g1 : b = 40 ∨ b = 41 := hbl 1 (show 1 < 4 by decide); have g2 : c = 40 ∨ c = 41 := hbl 2 (show 2 < 4 by decide); have g3 : d = 40 ∨ d = 41 := hbl 3 (show 3 < 4 by decide)
      rcases g0 with rfl | rfl <;> rcases g1 with rfl | rfl <;> rcases g2 with rfl | rfl <;> rcases g3 with rfl | rfl <;> first | (exact absurd hw' (by decide +kernel)) | (simp [wordsAll]; done)
  · obtain ⟨a, b, c, d, e, f, rfl⟩ : ∃ a b c d e f, l = [a, b, c, d, e, f] := by
      match l, hl with
      | [a, b, c, d, e, f], _ => exact ⟨a, b, c, d, e, f, rfl⟩
    · skip
      have g0 : a = 40 ∨ a = 41 := hbl 0 (show 0 < 6 by decide); have g1 : b = 40 ∨ b = 41 := hbl 1 (show 1 < 6 by decide); have g2 : c = 40 ∨ c = 41 := hbl 2 (show 2 < 6 by decide); have g3 : d = 40 ∨ d = 41 := hbl 3 (show 3 < 6 by decide); have g4 : e = 40 ∨ e = 41 := hbl 4 (show 4 < 6 by decide); have g5 : f = 40 ∨ f = 41 := hbl 5 (show 5 < 6 by decide)
      rcases g0 with rfl | rfl <;> rcases g1 with rfl | rfl <;> rcases g2 with rfl | rfl <;> rcases g3 with rfl | rfl <;> rcases g4 with rfl | rfl <;> rcases g5 with rfl | rfl <;> first | (exact absurd hw' (by decide +kernel)) | (simp [wordsAll]; done)
theorem chk_all (P : ByteArray → List Int → Bool) (h1 : chkN P 1 = true) (h2 : chkN P 2 = true) (h3 : chkN P 3 = true) (s : ByteArray) (l : List Int) (h : treeOk s l) : P s l = true := by
  obtain ⟨a1, a3, hs, hst, c, hw⟩ := h
  have hm := words_mem s l.length a1 a3 hs c hw
  have hl : ∀ x ∈ l, -1 ≤ x ∧ x ≤ 1 := by
    intro x hx
    obtain ⟨i, hi, rfl⟩ := List.mem_iff_getElem.1 hx
    have := hst i hi
    rwa [rd_lt l i hi] at this
  have hsm := stepsAll_mem l hl
  have hn : chkN P l.length = true := by
    have hc : l.length = 1 ∨ l.length = 2 ∨ l.length = 3 := by omega
    rcases hc with e | e | e <;> rw [e] <;> assumption
  unfold chkN at hn
  rw [List.all_eq_true] at hn
  have := hn s hm
  rw [List.all_eq_true] at this
  exact this l hsm
end Go.Proofs.Ytlfalkbldjjomaa.PB
