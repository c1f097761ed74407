/- For every map and number, EdgeContract of the program answers what EdgeContract of the reference answers, leaves the map as it was, and hands back memory of its own. There are no conditions. -/
import Derived.Test.YtggghijamfmenaaKFnExactEdgeContractOwnx4
namespace Go.Proofs.Ytggghijamfmenaa.PC
open Go.RowKit Go.Proofs.YtggghijamfmenaaW.PrintWords Go.Proofs.YtggghijamfmenaaW.PrintLast Go.Proofs.YtggghijamfmenaaW.PrintMore
attribute [local go_sem] max2_int min2_int max_two min_two max_three min_three max_four min_four   -- for this text's walks alone
set_option linter.unusedVariables false
set_option linter.unusedSimpArgs false
def laws_FnExactEdgeContract_up (L : List (Nat × Option Tmp)) (n : Nat) : Array Bool := ((List.range n).map (fun i => !(L.map Prod.fst).contains i)).toArray
section
variable {P : Program} {ops : Array Oper} {Q : Exit → Act → World → Prop} {md : Region.Mode} {S : World → Prop} {ds : List Nat}
theorem laws_FnExactEdgeContract_uO {i n : Nat} {N : Option Tmp} {L : List (Nat × Option Tmp)} {oi : Oper} {fuel : Nat} {a : Act} {w : World} (hi : ops[i]? = some oi) (hN : oi.dst = N) (hc : readyB md ops (laws_FnExactEdgeContract_up ((i, N) :: L) n) (laws_FnExactEdgeContract_up L n) i = true) (hd : i ∉ ds)
  (h : ∀ K : Act → World → Prop, Shut (∀ a' w', S w' → (S w' → wpAnyLast P md ops Q S ds fuel (laws_FnExactEdgeContract_up L n) a' w') → K a' w') → if Region.wanted oi (yielded ops a.tmps) = true then Oper.wp P oi a w K Q else K (a.put N undef) w) :
  wpAnyLast P md ops Q S ds (fuel + 1) (laws_FnExactEdgeContract_up ((i, N) :: L) n) a w := one_ (laws_FnExactEdgeContract_up L n) hi hN hc hd h
end
mutual
def laws_FnExactEdgeContract.j0 : Nat → Int → Bool → Bool → Bool → List Int → List Int → List Int → List Int → List Int → List Int → List Int → List Int → Option (Bool)
 | 0, _, _, _, _, _, _, _, _, _, _, _, _ => none
 | k + 1, x1, x7, x10, x44, xZ0, xZ1, xZ2, xZ3, xZ4, xZ5, xZ6, xZ7 => if x44 = true then (some false) else ((laws_toMap.f k xZ0 xZ1).bind fun bt515 => ((laws_eqMap.f k xZ4 xZ5 bt515.1 bt515.2).bind fun t521 => (if t521 = true then ((laws_markMap.f k xZ4 xZ5 1).bind fun bt522 => (if bt522.1 < 0 then (laws_FnExactEdgeContract.j1 k x1 x7 true xZ0 xZ1 xZ2 xZ3 xZ6 xZ7) else ((laws_eqMap.f k xZ6 xZ7 xZ2 xZ3).bind fun t525 => (if t525 = true then (laws_FnExactEdgeContract.j1 k x1 x7 (x10 != x7) xZ0 xZ1 xZ2 xZ3 xZ6 xZ7) else (laws_FnExactEdgeContract.j1 k x1 x7 true xZ0 xZ1 xZ2 xZ3 xZ6 xZ7))))) else (some false))))
def laws_FnExactEdgeContract.j1 : Nat → Int → Bool → Bool → List Int → List Int → List Int → List Int → List Int → List Int → Option (Bool)
 | 0, _, _, _, _, _, _, _, _, _ => none
 | k + 1, x1, x7, x65, xZ0, xZ1, xZ2, xZ3, xZ6, xZ7 => if x65 = true then (some false) else ((laws_markMap.f k xZ6 xZ7 1).bind fun bt526 => ((laws_heldMap.f k bt526.2.1 bt526.2.2 1).bind fun t529 => (if t529 < 0 then (some false) else (if t529 = bt526.1 then ((laws_toMap.f k xZ0 xZ1).bind fun bt530 => ((impl_EdgeContract.f k bt530.1 bt530.2 x1).bind fun bt536 => ((laws_eqMap.f k bt536.1 bt536.2.1 xZ2 xZ3).bind fun t544 => (if t544 = true then (laws_FnExactEdgeContract.j2 k bt526.1 (bt536.2.2 != x7) bt526.2.1 bt526.2.2) else (laws_FnExactEdgeContract.j2 k bt526.1 true bt526.2.1 bt526.2.2))))) else (some false)))))
def laws_FnExactEdgeContract.j2 : Nat → Int → Bool → List Int → List Int → Option (Bool)
 | 0, _, _, _, _ => none
 | k + 1, x12, x92, xZ6, xZ7 => if x92 = true then (some false) else ((laws_heldMap.f k xZ6 xZ7 1).bind fun t545 => (if t545 < 0 then (some false) else (if t545 = x12 then (some true) else (some false))))
end
def laws_FnExactEdgeContract.f (k : Nat) (l0_0 : List Int) (l0_1 : List Int) (a1 : Int) : Option (Bool) := (laws_szMap.f l0_0 l0_1 1048576).bind fun t484 => (if t484 < 0 then (some true) else ((laws_toMap.f k l0_0 l0_1).bind fun bt485 => ((spec_EdgeContract.f k bt485.1 bt485.2 a1).bind fun bt491 => ((laws_toMap.f k l0_0 l0_1).bind fun bt499 => ((impl_EdgeContract.f k bt499.1 bt499.2 a1).bind fun bt506 => ((laws_eqMap.f k bt506.1 bt506.2.1 bt491.1 bt491.2.1).bind fun t514 => (if t514 = true then (laws_FnExactEdgeContract.j0 k a1 bt491.2.2 bt506.2.2 (bt506.2.2 != bt491.2.2) l0_0 l0_1 bt491.1 bt491.2.1 bt499.1 bt499.2 bt506.1 bt506.2.1) else (laws_FnExactEdgeContract.j0 k a1 bt491.2.2 bt506.2.2 true l0_0 l0_1 bt491.1 bt491.2.1 bt499.1 bt499.2 bt506.1 bt506.2.1))))))))
set_option maxHeartbeats 8000000 in
set_option maxRecDepth 100000 in
theorem laws_FnExactEdgeContract.calls (k : Nat) (A0_0 : Option Addr) (c0_0 : Nat) (l0_0 : List Int) (A0_1 : Option Addr) (c0_1 : Nat) (l0_1 : List Int) (a1 : Int) (r : Bool) (w : World) (hr0_0 : Kd.C (Kd.int .i64) w A0_0 l0_0.length l0_0) (hc0_0 : l0_0.length ≤ c0_0) (hr0_1 : Kd.C (Kd.int .i64) w A0_1 l0_1.length l0_1) (hc0_1 : l0_1.length ≤ c0_1) (h : laws_FnExactEdgeContract.f k l0_0 l0_1 a1 = some r) :
  Calls Try.prog 4 #[.agg #[.slice A0_0 l0_0.length c0_0, .slice A0_1 l0_1.length c0_1], .int .i64 a1] w fun e w' => e = .returned (.bool r) ∧ Below w.heap.size w w' := by
 have hu36 := Try.underlying36; have hu25 := Try.underlying25; have HR0_0 := Az hr0_0; have HC0_0 := Az hc0_0; clear hr0_0 hc0_0; have HR0_1 := Az hr0_1; have HC0_1 := Az hc0_1; clear hr0_1 hc0_1; have HB := Az (Below.refl w.heap.size w); have H : ((laws_szMap.f l0_0 l0_1 1048576).bind fun t484 => (if t484 < 0 then (some true) else ((laws_toMap.f k l0_0 l0_1).bind fun bt485 => ((spec_EdgeContract.f k bt485.1 bt485.2 a1).bind fun bt491 => ((laws_toMap.f k l0_0 l0_1).bind fun bt499 => ((impl_EdgeContract.f k bt499.1 bt499.2 a1).bind fun bt506 => ((laws_eqMap.f k bt506.1 bt506.2.1 bt491.1 bt491.2.1).bind fun t514 => (if t514 = true then (laws_FnExactEdgeContract.j0 k a1 bt491.2.2 bt506.2.2 (bt506.2.2 != bt491.2.2) l0_0 l0_1 bt491.1 bt491.2.1 bt499.1 bt499.2 bt506.1 bt506.2.1) else (laws_FnExactEdgeContract.j0 k a1 bt491.2.2 bt506.2.2 true l0_0 l0_1 bt491.1 bt491.2.1 bt499.1 bt499.2 bt506.1 bt506.2.1))))))))) = some r := h; clear h; replace H := Option.bind_eq_some_iff.mp H; obtain ⟨t484, A30, H⟩ := H; replace H : (if t484 < 0 then (some true) else ((laws_toMap.f k l0_0 l0_1).bind fun bt485 => ((spec_EdgeContract.f k bt485.1 bt485.2 a1).bind fun bt491 => ((laws_toMap.f k l0_0 l0_1).bind fun bt499 => ((impl_EdgeContract.f k bt499.1 bt499.2 a1).bind fun bt506 => ((laws_eqMap.f k bt506.1 bt506.2.1 bt491.1 bt491.2.1).bind fun t514 => (if t514 = true then (laws_FnExactEdgeContract.j0 k a1 bt491.2.2 bt506.2.2 (bt506.2.2 != bt491.2.2) l0_0 l0_1 bt491.1 bt491.2.1 bt499.1 bt499.2 bt506.1 bt506.2.1) else (laws_FnExactEdgeContract.j0 k a1 bt491.2.2 bt506.2.2 true l0_0 l0_1 bt491.1 bt491.2.1 bt499.1 bt499.2 bt506.1 bt506.2.1)))))))) = some r := H; have A3 := Az A30; clear A30
 by_cases c4 : t484 < 0
 ·
  rw [if_pos c4] at H; have c4b0 := decide_eq_true c4; clear c4; obtain rfl := Option.some.inj H
  go_enter Try.func4, Try.ntmps4
  go_wp2_with (first | ((with_reducible refine gate_dst (N := 2) rfl ?_); refine box_event ?hg (N := 2) ?hd (cs := #[.slice A0_0 l0_0.length c0_0, .slice A0_1 l0_1.length c0_1]) (t := 36) ?hr ?_; (case hd => rfl); (case hg => rfl); (case hr => first | (go_simp; done) | (go_simp; rfl)); intro gb483 hg w5 hbox hb; have n0 := Az (below_step (bU0 HB.out) hb); have n1 := Az (hbox); have n2 := Az ((by rw [hg]; exact (below_size (bU0 HB.out)) : w.heap.size ≤ gb483)); have n3 := n2; clear HB; have HB := n0; have BK483 := n1; have GW483 := n2; have GE483 := n3; clear n0 n1 n2 n3 hb hbox hg; have hcz6_0 : w5.cell? ⟨gb483, 0, none⟩ = some (.slice A0_0 l0_0.length c0_0) := (blk_cell BK483.out 0).trans rfl; have hcz6_1 : w5.cell? ⟨gb483, 1, none⟩ = some (.slice A0_1 l0_1.length c0_1) := (blk_cell BK483.out 1).trans rfl; have hfz6_0 := blk_frozen BK483.out 0; have hfz6_1 := blk_frozen BK483.out 1) | ((with_reducible refine gate_callee (f := 20) rfl ?_); refine goesL_ (some 18) rfl rfl Try.func20 (by kernel_rfl) rfl #[.agg #[.slice A0_0 l0_0.length c0_0, .slice A0_1 l0_1.length c0_1], .int .i64 1048576] rfl (by (try simp only [List.map_toArray, List.map_cons, List.map_nil]); first | done | rfl | (simp only [List.length_drop, List.length_take]; rfl)) ?_; (with_reducible refine (laws_szMap.calls _ _ l0_0 _ _ l0_1 1048576 t484 _ ?side1 ?side2 ?side3 ?side4 A3.out).mono ?_); (case side1 => exact cU (Kd.C_below HR0_0.out HB.out)); (case side2 => exact HC0_0.out); (case side3 => exact cU (Kd.C_below HR0_1.out HB.out)); (case side4 => exact HC0_1.out); rintro e w7 ⟨rfl, hb⟩; refine ⟨_, rfl, ?_⟩; have n0 := Az (blk_below (g := gb483) (o := .cells #[.slice A0_0 l0_0.length c0_0, .slice A0_1 l0_1.length c0_1] 36 (0, 0)) (kU BK483.out) hb); have n1 := Az (below_step (bU1 HB.out GE483.out) hb); clear BK483 HB; have BK483 := n0; have HB := n1; clear n0 n1; (try clear hb); (try clear hb2); (try clear hk); (try clear hi)))
  go_ret
  exact ⟨rE, bU1 HB.out GE483.out⟩
 ·
  rw [if_neg c4] at H; have c4b0 := decide_eq_false c4; clear c4; replace H := Option.bind_eq_some_iff.mp H; obtain ⟨⟨t485, t488⟩, A80, H⟩ := H; replace H : ((spec_EdgeContract.f k t485 t488 a1).bind fun bt491 => ((laws_toMap.f k l0_0 l0_1).bind fun bt499 => ((impl_EdgeContract.f k bt499.1 bt499.2 a1).bind fun bt506 => ((laws_eqMap.f k bt506.1 bt506.2.1 bt491.1 bt491.2.1).bind fun t514 => (if t514 = true then (laws_FnExactEdgeContract.j0 k a1 bt491.2.2 bt506.2.2 (bt506.2.2 != bt491.2.2) l0_0 l0_1 bt491.1 bt491.2.1 bt499.1 bt499.2 bt506.1 bt506.2.1) else (laws_FnExactEdgeContract.j0 k a1 bt491.2.2 bt506.2.2 true l0_0 l0_1 bt491.1 bt491.2.1 bt499.1 bt499.2 bt506.1 bt506.2.1)))))) = some r := H; have A8 := Az A80; clear A80; replace H := Option.bind_eq_some_iff.mp H; obtain ⟨⟨t491, t494, t497⟩, A90, H⟩ := H; replace H : ((laws_toMap.f k l0_0 l0_1).bind fun bt499 => ((impl_EdgeContract.f k bt499.1 bt499.2 a1).bind fun bt506 => ((laws_eqMap.f k bt506.1 bt506.2.1 t491 t494).bind fun t514 => (if t514 = true then (laws_FnExactEdgeContract.j0 k a1 t497 bt506.2.2 (bt506.2.2 != t497) l0_0 l0_1 t491 t494 bt499.1 bt499.2 bt506.1 bt506.2.1) else (laws_FnExactEdgeContract.j0 k a1 t497 bt506.2.2 true l0_0 l0_1 t491 t494 bt499.1 bt499.2 bt506.1 bt506.2.1))))) = some r := H; have A9 := Az A90; clear A90; replace H := Option.bind_eq_some_iff.mp H; obtain ⟨⟨t499, t502⟩, A100, H⟩ := H; replace H : ((impl_EdgeContract.f k t499 t502 a1).bind fun bt506 => ((laws_eqMap.f k bt506.1 bt506.2.1 t491 t494).bind fun t514 => (if t514 = true then (laws_FnExactEdgeContract.j0 k a1 t497 bt506.2.2 (bt506.2.2 != t497) l0_0 l0_1 t491 t494 t499 t502 bt506.1 bt506.2.1) else (laws_FnExactEdgeContract.j0 k a1 t497 bt506.2.2 true l0_0 l0_1 t491 t494 t499 t502 bt506.1 bt506.2.1)))) = some r := H; have A10 := Az A100; clear A100; replace H := Option.bind_eq_some_iff.mp H; obtain ⟨⟨t506, t509, t512⟩, A110, H⟩ := H; replace H : ((laws_eqMap.f k t506 t509 t491 t494).bind fun t514 => (if t514 = true then (laws_FnExactEdgeContract.j0 k a1 t497 t512 (t512 != t497) l0_0 l0_1 t491 t494 t499 t502 t506 t509) else (laws_FnExactEdgeContract.j0 k a1 t497 t512 true l0_0 l0_1 t491 t494 t499 t502 t506 t509))) = some r := H; have A11 := Az A110; clear A110; have HC12 := Az H; clear H
  go_enter Try.func4, Try.ntmps4
  go_upto_region 8 with (first | ((with_reducible refine gate_dst (N := 2) rfl ?_); refine box_event ?hg (N := 2) ?hd (cs := #[.slice A0_0 l0_0.length c0_0, .slice A0_1 l0_1.length c0_1]) (t := 36) ?hr ?_; (case hd => rfl); (case hg => rfl); (case hr => first | (go_simp; done) | (go_simp; rfl)); intro gb483 hg w13 hbox hb; have n0 := Az (below_step (bU0 HB.out) hb); have n1 := Az (hbox); have n2 := Az ((by rw [hg]; exact (below_size (bU0 HB.out)) : w.heap.size ≤ gb483)); have n3 := n2; clear HB; have HB := n0; have BK483 := n1; have GW483 := n2; have GE483 := n3; clear n0 n1 n2 n3 hb hbox hg; have hcz14_0 : w13.cell? ⟨gb483, 0, none⟩ = some (.slice A0_0 l0_0.length c0_0) := (blk_cell BK483.out 0).trans rfl; have hcz14_1 : w13.cell? ⟨gb483, 1, none⟩ = some (.slice A0_1 l0_1.length c0_1) := (blk_cell BK483.out 1).trans rfl; have hfz14_0 := blk_frozen BK483.out 0; have hfz14_1 := blk_frozen BK483.out 1) | ((with_reducible refine gate_callee (f := 20) rfl ?_); refine goesL_ (some 18) rfl rfl Try.func20 (by kernel_rfl) rfl #[.agg #[.slice A0_0 l0_0.length c0_0, .slice A0_1 l0_1.length c0_1], .int .i64 1048576] rfl (by (try simp only [List.map_toArray, List.map_cons, List.map_nil]); first | done | rfl | (simp only [List.length_drop, List.length_take]; rfl)) ?_; (with_reducible refine (laws_szMap.calls _ _ l0_0 _ _ l0_1 1048576 t484 _ ?side1 ?side2 ?side3 ?side4 A3.out).mono ?_); (case side1 => exact cU (Kd.C_below HR0_0.out HB.out)); (case side2 => exact HC0_0.out); (case side3 => exact cU (Kd.C_below HR0_1.out HB.out)); (case side4 => exact HC0_1.out); rintro e w15 ⟨rfl, hb⟩; refine ⟨_, rfl, ?_⟩; have n0 := Az (blk_below (g := gb483) (o := .cells #[.slice A0_0 l0_0.length c0_0, .slice A0_1 l0_1.length c0_1] 36 (0, 0)) (kU BK483.out) hb); have n1 := Az (below_step (bU1 HB.out GE483.out) hb); clear BK483 HB; have BK483 := n0; have HB := n1; clear n0 n1; (try clear hb); (try clear hb2); (try clear hk); (try clear hi); have hcz16_0 : w15.cell? ⟨gb483, 0, none⟩ = some (.slice A0_0 l0_0.length c0_0) := (blk_cell BK483.out 0).trans rfl; have hcz16_1 : w15.cell? ⟨gb483, 1, none⟩ = some (.slice A0_1 l0_1.length c0_1) := (blk_cell BK483.out 1).trans rfl; have hfz16_0 := blk_frozen BK483.out 0; have hfz16_1 := blk_frozen BK483.out 1) | ((with_reducible refine gate_callee (f := 21) rfl ?_); refine goesL_ (some 23) rfl rfl Try.func21 (by kernel_rfl) rfl #[.agg #[.slice A0_0 l0_0.length c0_0, .slice A0_1 l0_1.length c0_1]] rfl (by (try simp only [List.map_toArray, List.map_cons, List.map_nil]); first | done | rfl | (simp only [List.length_drop, List.length_take]; rfl)) ?_; (with_reducible refine (laws_toMap.calls k _ _ l0_0 _ _ l0_1 t485 t488 _ ?side1 ?side2 ?side3 ?side4 A8.out).mono ?_); (case side1 => exact cU (Kd.C_below HR0_0.out HB.out)); (case side2 => exact HC0_0.out); (case side3 => exact cU (Kd.C_below HR0_1.out HB.out)); (case side4 => exact HC0_1.out); rintro e w17 ⟨v486, v489, rfl, ho0, ho1, hb⟩; refine ⟨_, rfl, ?_⟩; have n0 := Az (Kd.R_lower ho0 (below_size (bU1 HB.out GE483.out))); have n1 := Az (Kd.R_lower ho1 (below_size (bU1 HB.out GE483.out))); have n2 := Az (blk_below (g := gb483) (o := .cells #[.slice A0_0 l0_0.length c0_0, .slice A0_1 l0_1.length c0_1] 36 (0, 0)) (kU BK483.out) hb); have n3 := Az (below_step (bU1 HB.out GE483.out) hb); clear BK483 HB; have HO487 := n0; have HO490 := n1; have BK483 := n2; have HB := n3; clear n0 n1 n2 n3; (try clear hb); (try clear hb2); (try clear hk); (try clear hi); (try clear ho0); (try clear ho1); obtain ⟨Ao18, co18, eo18⟩ := Kd.R_slice HO487.out; subst eo18; obtain ⟨Ao19, co19, eo19⟩ := Kd.R_slice HO490.out; subst eo19) | ((with_reducible refine gate_callee (f := 14) rfl ?_); refine goesL_ (some 25) rfl rfl Try.func14 (by kernel_rfl) rfl #[.agg #[.slice Ao18 t485.length co18, .slice Ao19 t488.length co19], .int .i64 a1] rfl (by (try simp only [List.map_toArray, List.map_cons, List.map_nil]); first | done | rfl | (simp only [List.length_drop, List.length_take]; rfl)) ?_; (with_reducible refine (spec_EdgeContract.calls k _ _ t485 _ _ t488 a1 t491 t494 t497 _ ?side1 ?side2 ?side3 ?side4 A9.out).mono ?_); (case side1 => exact cU ((Kd.R_reads' HO487.out).2.2)); (case side2 => exact (Kd.R_reads' HO487.out).2.1); (case side3 => exact cU ((Kd.R_reads' HO490.out).2.2)); (case side4 => exact (Kd.R_reads' HO490.out).2.1); rintro e w20 ⟨v492, v495, rfl, ho0, ho1, hb⟩; refine ⟨_, rfl, ?_⟩; have n0 := Az (Kd.R_mono (Kd.R_told (Kd.R_told (Kd.R_old (rU HO487.out) hb) (Kd.R_base ho0)) (Kd.R_base ho1)) (fun _ h_ => h_.1)); have n1 := Az (Kd.R_mono (Kd.R_told (Kd.R_told (Kd.R_old (rU HO490.out) hb) (Kd.R_base ho0)) (Kd.R_base ho1)) (fun _ h_ => h_.1)); have n2 := Az (Kd.R_lower (Kd.R_new' (Kd.R_new' ho0 (Kd.R_lt (rU HO487.out))) (Kd.R_lt (rU HO490.out))) (below_size (bU1 HB.out GE483.out))); have n3 := Az (Kd.R_lower (Kd.R_new' (Kd.R_new' ho1 (Kd.R_lt (rU HO487.out))) (Kd.R_lt (rU HO490.out))) (below_size (bU1 HB.out GE483.out))); have n4 := Az (blk_below (g := gb483) (o := .cells #[.slice A0_0 l0_0.length c0_0, .slice A0_1 l0_1.length c0_1] 36 (0, 0)) (kU BK483.out) hb); have n5 := Az (below_step (bU1 HB.out GE483.out) hb); clear HO487 HO490 BK483 HB; have HO487 := n0; have HO490 := n1; have HO493 := n2; have HO496 := n3; have BK483 := n4; have HB := n5; clear n0 n1 n2 n3 n4 n5; (try clear hb); (try clear hb2); (try clear hk); (try clear hi); (try clear ho0); (try clear ho1)) | ((with_reducible refine gate_dst (N := 6) rfl ?_); refine box_event ?hg (N := 6) ?hd (cs := #[.slice none 0 0, .slice none 0 0]) (t := 25) ?hr ?_; (case hd => rfl); (case hg => rfl); (case hr => first | (go_simp; done) | (go_simp; rfl)); intro gb498 hg w21 hbox hb; have n0 := Az (Kd.R_below (rU HO487.out) hb); have n1 := Az (Kd.R_below (rU HO490.out) hb); have n2 := Az (Kd.R_below (rU HO493.out) hb); have n3 := Az (Kd.R_below (rU HO496.out) hb); have n4 := Az (blk_below (g := gb483) (o := .cells #[.slice A0_0 l0_0.length c0_0, .slice A0_1 l0_1.length c0_1] 36 (0, 0)) (kU BK483.out) hb); have n5 := Az (below_step (bU1 HB.out GE483.out) hb); have n6 := Az (hbox); have n7 := Az ((by rw [hg]; exact (below_size (bU1 HB.out GE483.out)) : w.heap.size ≤ gb498)); have n8 := n7; have n9 := Az ((by rw [hg]; exact Nat.ne_of_lt (blk_lt (g := gb483) (o := .cells #[.slice A0_0 l0_0.length c0_0, .slice A0_1 l0_1.length c0_1] 36 (0, 0)) (kU BK483.out)) : gb483 ≠ gb498)); have n10 := Az ((by rw [hg]; exact Nat.ne_of_gt (blk_lt (g := gb483) (o := .cells #[.slice A0_0 l0_0.length c0_0, .slice A0_1 l0_1.length c0_1] 36 (0, 0)) (kU BK483.out)) : gb498 ≠ gb483)); clear HO487 HO490 HO493 HO496 BK483 HB; have HO487 := n0; have HO490 := n1; have HO493 := n2; have HO496 := n3; have BK483 := n4; have HB := n5; have BK498 := n6; have GW498 := n7; have GE498 := n8; have NB483_498 := n9; have NB498_483 := n10; clear n0 n1 n2 n3 n4 n5 n6 n7 n8 n9 n10 hb hbox hg; obtain ⟨Ao22, co22, eo22⟩ := Kd.R_slice HO493.out; subst eo22; have hnb23 := NB498_483.out; have hnc23 := NB483_498.out; have hcz24_0 : w21.cell? ⟨gb498, 0, none⟩ = some (.slice none 0 0) := (blk_cell BK498.out 0).trans rfl; have hcz24_1 : w21.cell? ⟨gb498, 1, none⟩ = some (.slice none 0 0) := (blk_cell BK498.out 1).trans rfl; have hfz24_0 := blk_frozen BK498.out 0; have hfz24_1 := blk_frozen BK498.out 1; obtain ⟨Ao25, co25, eo25⟩ := Kd.R_slice HO496.out; subst eo25; have hcz26_0 : w21.cell? ⟨gb483, 0, none⟩ = some (.slice A0_0 l0_0.length c0_0) := (blk_cell BK483.out 0).trans rfl; have hcz26_1 : w21.cell? ⟨gb483, 1, none⟩ = some (.slice A0_1 l0_1.length c0_1) := (blk_cell BK483.out 1).trans rfl; have hfz26_0 := blk_frozen BK483.out 0; have hfz26_1 := blk_frozen BK483.out 1) | ((with_reducible refine gate_callee (f := 21) rfl ?_); refine goesL_ (some 29) rfl rfl Try.func21 (by kernel_rfl) rfl #[.agg #[.slice A0_0 l0_0.length c0_0, .slice A0_1 l0_1.length c0_1]] rfl (by (try simp only [List.map_toArray, List.map_cons, List.map_nil]); first | done | rfl | (simp only [List.length_drop, List.length_take]; rfl)) ?_; (with_reducible refine (laws_toMap.calls k _ _ l0_0 _ _ l0_1 t499 t502 _ ?side1 ?side2 ?side3 ?side4 A10.out).mono ?_); (case side1 => exact Kd.C_below HR0_0.out (bU2 HB.out GE483.out GE498.out)); (case side2 => exact HC0_0.out); (case side3 => exact Kd.C_below HR0_1.out (bU2 HB.out GE483.out GE498.out)); (case side4 => exact HC0_1.out); rintro e w27 ⟨v500, v503, rfl, ho0, ho1, hb⟩; refine ⟨_, rfl, ?_⟩; have n0 := Az (Kd.R_mono (Kd.R_told (Kd.R_told (Kd.R_old (by (with_reducible repeat (first | apply Kd.R_alloc | apply Kd.R_drewN | apply Kd.R_drew)); exact (Kd.R_mono (Kd.R_far (p := ⟨gb498, 1, none⟩) (Kd.R_far (p := ⟨gb498, 0, none⟩) (Kd.R_types HO487.out BK498.out (by decide)) (fun _ hk => hk.2) (.slice Ao22 t491.length co22)) (fun _ hk => hk.2) (.slice Ao25 t494.length co25)) (fun _ h_ => h_.1))) hb) (Kd.R_base ho0)) (Kd.R_base ho1)) (fun _ h_ => h_.1)); have n1 := Az (Kd.R_mono (Kd.R_told (Kd.R_told (Kd.R_old (by (with_reducible repeat (first | apply Kd.R_alloc | apply Kd.R_drewN | apply Kd.R_drew)); exact (Kd.R_mono (Kd.R_far (p := ⟨gb498, 1, none⟩) (Kd.R_far (p := ⟨gb498, 0, none⟩) (Kd.R_types HO490.out BK498.out (by decide)) (fun _ hk => hk.2) (.slice Ao22 t491.length co22)) (fun _ hk => hk.2) (.slice Ao25 t494.length co25)) (fun _ h_ => h_.1))) hb) (Kd.R_base ho0)) (Kd.R_base ho1)) (fun _ h_ => h_.1)); have n2 := Az (Kd.R_mono (Kd.R_told (Kd.R_told (Kd.R_old (by (with_reducible repeat (first | apply Kd.R_alloc | apply Kd.R_drewN | apply Kd.R_drew)); exact (Kd.R_mono (Kd.R_far (p := ⟨gb498, 1, none⟩) (Kd.R_far (p := ⟨gb498, 0, none⟩) (Kd.R_types HO493.out BK498.out (by decide)) (fun _ hk => hk.2) (.slice Ao22 t491.length co22)) (fun _ hk => hk.2) (.slice Ao25 t494.length co25)) (fun _ h_ => h_.1))) hb) (Kd.R_base ho0)) (Kd.R_base ho1)) (fun _ h_ => h_.1)); have n3 := Az (Kd.R_mono (Kd.R_told (Kd.R_told (Kd.R_old (by (with_reducible repeat (first | apply Kd.R_alloc | apply Kd.R_drewN | apply Kd.R_drew)); exact (Kd.R_mono (Kd.R_far (p := ⟨gb498, 1, none⟩) (Kd.R_far (p := ⟨gb498, 0, none⟩) (Kd.R_types HO496.out BK498.out (by decide)) (fun _ hk => hk.2) (.slice Ao22 t491.length co22)) (fun _ hk => hk.2) (.slice Ao25 t494.length co25)) (fun _ h_ => h_.1))) hb) (Kd.R_base ho0)) (Kd.R_base ho1)) (fun _ h_ => h_.1)); have n4 := Az (Kd.R_lower (Kd.R_new' (Kd.R_new' (Kd.R_new' (Kd.R_new' ho0 (Kd.R_lt (by (with_reducible repeat (first | apply Kd.R_alloc | apply Kd.R_drewN | apply Kd.R_drew)); exact (Kd.R_mono (Kd.R_far (p := ⟨gb498, 1, none⟩) (Kd.R_far (p := ⟨gb498, 0, none⟩) (Kd.R_types HO487.out BK498.out (by decide)) (fun _ hk => hk.2) (.slice Ao22 t491.length co22)) (fun _ hk => hk.2) (.slice Ao25 t494.length co25)) (fun _ h_ => h_.1))))) (Kd.R_lt (by (with_reducible repeat (first | apply Kd.R_alloc | apply Kd.R_drewN | apply Kd.R_drew)); exact (Kd.R_mono (Kd.R_far (p := ⟨gb498, 1, none⟩) (Kd.R_far (p := ⟨gb498, 0, none⟩) (Kd.R_types HO490.out BK498.out (by decide)) (fun _ hk => hk.2) (.slice Ao22 t491.length co22)) (fun _ hk => hk.2) (.slice Ao25 t494.length co25)) (fun _ h_ => h_.1))))) (Kd.R_lt (by (with_reducible repeat (first | apply Kd.R_alloc | apply Kd.R_drewN | apply Kd.R_drew)); exact (Kd.R_mono (Kd.R_far (p := ⟨gb498, 1, none⟩) (Kd.R_far (p := ⟨gb498, 0, none⟩) (Kd.R_types HO493.out BK498.out (by decide)) (fun _ hk => hk.2) (.slice Ao22 t491.length co22)) (fun _ hk => hk.2) (.slice Ao25 t494.length co25)) (fun _ h_ => h_.1))))) (Kd.R_lt (by (with_reducible repeat (first | apply Kd.R_alloc | apply Kd.R_drewN | apply Kd.R_drew)); exact (Kd.R_mono (Kd.R_far (p := ⟨gb498, 1, none⟩) (Kd.R_far (p := ⟨gb498, 0, none⟩) (Kd.R_types HO496.out BK498.out (by decide)) (fun _ hk => hk.2) (.slice Ao22 t491.length co22)) (fun _ hk => hk.2) (.slice Ao25 t494.length co25)) (fun _ h_ => h_.1))))) (below_size (bU2 HB.out GE483.out GE498.out))); have n5 := Az (Kd.R_lower (Kd.R_new' (Kd.R_new' (Kd.R_new' (Kd.R_new' ho1 (Kd.R_lt (by (with_reducible repeat (first | apply Kd.R_alloc | apply Kd.R_drewN | apply Kd.R_drew)); exact (Kd.R_mono (Kd.R_far (p := ⟨gb498, 1, none⟩) (Kd.R_far (p := ⟨gb498, 0, none⟩) (Kd.R_types HO487.out BK498.out (by decide)) (fun _ hk => hk.2) (.slice Ao22 t491.length co22)) (fun _ hk => hk.2) (.slice Ao25 t494.length co25)) (fun _ h_ => h_.1))))) (Kd.R_lt (by (with_reducible repeat (first | apply Kd.R_alloc | apply Kd.R_drewN | apply Kd.R_drew)); exact (Kd.R_mono (Kd.R_far (p := ⟨gb498, 1, none⟩) (Kd.R_far (p := ⟨gb498, 0, none⟩) (Kd.R_types HO490.out BK498.out (by decide)) (fun _ hk => hk.2) (.slice Ao22 t491.length co22)) (fun _ hk => hk.2) (.slice Ao25 t494.length co25)) (fun _ h_ => h_.1))))) (Kd.R_lt (by (with_reducible repeat (first | apply Kd.R_alloc | apply Kd.R_drewN | apply Kd.R_drew)); exact (Kd.R_mono (Kd.R_far (p := ⟨gb498, 1, none⟩) (Kd.R_far (p := ⟨gb498, 0, none⟩) (Kd.R_types HO493.out BK498.out (by decide)) (fun _ hk => hk.2) (.slice Ao22 t491.length co22)) (fun _ hk => hk.2) (.slice Ao25 t494.length co25)) (fun _ h_ => h_.1))))) (Kd.R_lt (by (with_reducible repeat (first | apply Kd.R_alloc | apply Kd.R_drewN | apply Kd.R_drew)); exact (Kd.R_mono (Kd.R_far (p := ⟨gb498, 1, none⟩) (Kd.R_far (p := ⟨gb498, 0, none⟩) (Kd.R_types HO496.out BK498.out (by decide)) (fun _ hk => hk.2) (.slice Ao22 t491.length co22)) (fun _ hk => hk.2) (.slice Ao25 t494.length co25)) (fun _ h_ => h_.1))))) (below_size (bU2 HB.out GE483.out GE498.out))); have n6 := Az (blk_below (g := gb483) (o := .cells #[.slice A0_0 l0_0.length c0_0, .slice A0_1 l0_1.length c0_1] 36 (0, 0)) (by (with_reducible repeat (first | refine blk_drewN ?_ _ | refine blk_drew ?_ | refine blk_alloc ?_ _)); refine blk_far ?_ NB483_498.out _; (with_reducible repeat (first | refine blk_drewN ?_ _ | refine blk_drew ?_ | refine blk_alloc ?_ _)); refine blk_far ?_ NB483_498.out _; (with_reducible repeat (first | refine blk_drewN ?_ _ | refine blk_drew ?_ | refine blk_alloc ?_ _)); exact BK483.out) hb); have n7 := Az (blk_below (g := gb498) (o := .cells #[.slice Ao22 t491.length co22, .slice Ao25 t494.length co25] 25 (0, 0)) (by (with_reducible repeat (first | refine blk_drewN ?_ _ | refine blk_drew ?_ | refine blk_alloc ?_ _)); refine blk_put (cs := #[.slice Ao22 t491.length co22, .slice none 0 0]) ?_ 1 _ rfl; (with_reducible repeat (first | refine blk_drewN ?_ _ | refine blk_drew ?_ | refine blk_alloc ?_ _)); refine blk_put (cs := #[.slice none 0 0, .slice none 0 0]) ?_ 0 _ rfl; (with_reducible repeat (first | refine blk_drewN ?_ _ | refine blk_drew ?_ | refine blk_alloc ?_ _)); exact BK498.out) hb); have n8 := Az (below_step (bU2 HB.out GE483.out GE498.out) hb); clear HO487 HO490 HO493 HO496 BK483 BK498 HB; have HO487 := n0; have HO490 := n1; have HO493 := n2; have HO496 := n3; have HO501 := n4; have HO504 := n5; have BK483 := n6; have BK498 := n7; have HB := n8; clear n0 n1 n2 n3 n4 n5 n6 n7 n8; (try clear hb); (try clear hb2); (try clear hk); (try clear hi); (try clear ho0); (try clear ho1)) | ((with_reducible refine gate_dst (N := 8) rfl ?_); refine box_event ?hg (N := 8) ?hd (cs := #[.slice none 0 0, .slice none 0 0]) (t := 25) ?hr ?_; (case hd => rfl); (case hg => rfl); (case hr => first | (go_simp; done) | (go_simp; rfl)); intro gb505 hg w28 hbox hb; have n0 := Az (Kd.R_below (rU HO487.out) hb); have n1 := Az (Kd.R_below (rU HO490.out) hb); have n2 := Az (Kd.R_below (rU HO493.out) hb); have n3 := Az (Kd.R_below (rU HO496.out) hb); have n4 := Az (Kd.R_below (rU HO501.out) hb); have n5 := Az (Kd.R_below (rU HO504.out) hb); have n6 := Az (blk_below (g := gb483) (o := .cells #[.slice A0_0 l0_0.length c0_0, .slice A0_1 l0_1.length c0_1] 36 (0, 0)) (kU BK483.out) hb); have n7 := Az (blk_below (g := gb498) (o := .cells #[.slice Ao22 t491.length co22, .slice Ao25 t494.length co25] 25 (0, 0)) (kU BK498.out) hb); have n8 := Az (below_step (bU2 HB.out GE483.out GE498.out) hb); have n9 := Az (hbox); have n10 := Az ((by rw [hg]; exact (below_size (bU2 HB.out GE483.out GE498.out)) : w.heap.size ≤ gb505)); have n11 := n10; have n12 := Az ((by rw [hg]; exact Nat.ne_of_lt (blk_lt (g := gb483) (o := .cells #[.slice A0_0 l0_0.length c0_0, .slice A0_1 l0_1.length c0_1] 36 (0, 0)) (kU BK483.out)) : gb483 ≠ gb505)); have n13 := Az ((by rw [hg]; exact Nat.ne_of_gt (blk_lt (g := gb483) (o := .cells #[.slice A0_0 l0_0.length c0_0, .slice A0_1 l0_1.length c0_1] 36 (0, 0)) (kU BK483.out)) : gb505 ≠ gb483)); have n14 := Az ((by rw [hg]; exact Nat.ne_of_lt (blk_lt (g := gb498) (o := .cells #[.slice Ao22 t491.length co22, .slice Ao25 t494.length co25] 25 (0, 0)) (kU BK498.out)) : gb498 ≠ gb505)); have n15 := Az ((by rw [hg]; exact Nat.ne_of_gt (blk_lt (g := gb498) (o := .cells #[.slice Ao22 t491.length co22, .slice Ao25 t494.length co25] 25 (0, 0)) (kU BK498.out)) : gb505 ≠ gb498)); clear HO487 HO490 HO493 HO496 HO501 HO504 BK483 BK498 HB; have HO487 := n0; have HO490 := n1; have HO493 := n2; have HO496 := n3; have HO501 := n4; have HO504 := n5; have BK483 := n6; have BK498 := n7; have HB := n8; have BK505 := n9; have GW505 := n10; have GE505 := n11; have NB483_505 := n12; have NB505_483 := n13; have NB498_505 := n14; have NB505_498 := n15; clear n0 n1 n2 n3 n4 n5 n6 n7 n8 n9 n10 n11 n12 n13 n14 n15 hb hbox hg; obtain ⟨Ao29, co29, eo29⟩ := Kd.R_slice HO501.out; subst eo29; have hnb30 := NB505_483.out; have hnc30 := NB483_505.out; have hnb31 := NB505_498.out; have hnc31 := NB498_505.out; have hcz32_0 : w28.cell? ⟨gb505, 0, none⟩ = some (.slice none 0 0) := (blk_cell BK505.out 0).trans rfl; have hcz32_1 : w28.cell? ⟨gb505, 1, none⟩ = some (.slice none 0 0) := (blk_cell BK505.out 1).trans rfl; have hfz32_0 := blk_frozen BK505.out 0; have hfz32_1 := blk_frozen BK505.out 1; obtain ⟨Ao33, co33, eo33⟩ := Kd.R_slice HO504.out; subst eo33) | ((with_reducible refine gate_callee (f := 13) rfl ?_); refine goesL_ (some 33) rfl rfl Try.func13 (by kernel_rfl) rfl #[.agg #[.slice Ao29 t499.length co29, .slice Ao33 t502.length co33], .int .i64 a1] rfl (by (try simp only [List.map_toArray, List.map_cons, List.map_nil]); first | done | rfl | (simp only [List.length_drop, List.length_take]; rfl)) ?_; (with_reducible refine (impl_EdgeContract.calls k _ _ t499 _ _ t502 a1 t506 t509 t512 _ ?side1 ?side2 ?side3 ?side4 A11.out).mono ?_); (case side1 => refine (Kd.R_reads' (e := 3) (base := w.heap.size) (ok := fun k_ => ((((some k_ ≠ (.slice Ao33 t502.length co33 : Value).ownBlock ∧ some k_ ≠ (.slice Ao18 t485.length co18 : Value).ownBlock) ∧ some k_ ≠ (.slice Ao19 t488.length co19 : Value).ownBlock) ∧ some k_ ≠ (.slice Ao22 t491.length co22 : Value).ownBlock) ∧ some k_ ≠ (.slice Ao25 t494.length co25 : Value).ownBlock)) (n := t499.length) (c := co29) ?_).2.2; exact (by (with_reducible repeat (first | apply Kd.R_alloc | apply Kd.R_drewN | apply Kd.R_drew)); exact (Kd.R_mono (Kd.R_far (p := ⟨gb505, 1, none⟩) (Kd.R_far (p := ⟨gb505, 0, none⟩) (Kd.R_types HO501.out BK505.out (by decide)) (fun _ hk => hk.2) (.slice Ao29 t499.length co29)) (fun _ hk => hk.2) (.slice Ao33 t502.length co33)) (fun _ h_ => h_.1)))); (case side2 => exact (Kd.R_reads' HO501.out).2.1); (case side3 => refine (Kd.R_reads' (e := 3) (base := w.heap.size) (ok := fun k_ => ((((some k_ ≠ (.slice Ao29 t499.length co29 : Value).ownBlock ∧ some k_ ≠ (.slice Ao18 t485.length co18 : Value).ownBlock) ∧ some k_ ≠ (.slice Ao19 t488.length co19 : Value).ownBlock) ∧ some k_ ≠ (.slice Ao22 t491.length co22 : Value).ownBlock) ∧ some k_ ≠ (.slice Ao25 t494.length co25 : Value).ownBlock)) (n := t502.length) (c := co33) ?_).2.2; exact (by (with_reducible repeat (first | apply Kd.R_alloc | apply Kd.R_drewN | apply Kd.R_drew)); exact (Kd.R_mono (Kd.R_far (p := ⟨gb505, 1, none⟩) (Kd.R_far (p := ⟨gb505, 0, none⟩) (Kd.R_types HO504.out BK505.out (by decide)) (fun _ hk => hk.2) (.slice Ao29 t499.length co29)) (fun _ hk => hk.2) (.slice Ao33 t502.length co33)) (fun _ h_ => h_.1)))); (case side4 => exact (Kd.R_reads' HO504.out).2.1); rintro e w34 ⟨v507, v510, rfl, ho0, ho1, hb⟩; refine ⟨_, rfl, ?_⟩; have n0 := Az (Kd.R_mono (Kd.R_told (Kd.R_told (Kd.R_old (by (with_reducible repeat (first | apply Kd.R_alloc | apply Kd.R_drewN | apply Kd.R_drew)); exact (Kd.R_mono (Kd.R_far (p := ⟨gb505, 1, none⟩) (Kd.R_far (p := ⟨gb505, 0, none⟩) (Kd.R_types HO487.out BK505.out (by decide)) (fun _ hk => hk.2) (.slice Ao29 t499.length co29)) (fun _ hk => hk.2) (.slice Ao33 t502.length co33)) (fun _ h_ => h_.1))) hb) (Kd.R_base ho0)) (Kd.R_base ho1)) (fun _ h_ => h_.1)); have n1 := Az (Kd.R_mono (Kd.R_told (Kd.R_told (Kd.R_old (by (with_reducible repeat (first | apply Kd.R_alloc | apply Kd.R_drewN | apply Kd.R_drew)); exact (Kd.R_mono (Kd.R_far (p := ⟨gb505, 1, none⟩) (Kd.R_far (p := ⟨gb505, 0, none⟩) (Kd.R_types HO490.out BK505.out (by decide)) (fun _ hk => hk.2) (.slice Ao29 t499.length co29)) (fun _ hk => hk.2) (.slice Ao33 t502.length co33)) (fun _ h_ => h_.1))) hb) (Kd.R_base ho0)) (Kd.R_base ho1)) (fun _ h_ => h_.1)); have n2 := Az (Kd.R_mono (Kd.R_told (Kd.R_told (Kd.R_old (by (with_reducible repeat (first | apply Kd.R_alloc | apply Kd.R_drewN | apply Kd.R_drew)); exact (Kd.R_mono (Kd.R_far (p := ⟨gb505, 1, none⟩) (Kd.R_far (p := ⟨gb505, 0, none⟩) (Kd.R_types HO493.out BK505.out (by decide)) (fun _ hk => hk.2) (.slice Ao29 t499.length co29)) (fun _ hk => hk.2) (.slice Ao33 t502.length co33)) (fun _ h_ => h_.1))) hb) (Kd.R_base ho0)) (Kd.R_base ho1)) (fun _ h_ => h_.1)); have n3 := Az (Kd.R_mono (Kd.R_told (Kd.R_told (Kd.R_old (by (with_reducible repeat (first | apply Kd.R_alloc | apply Kd.R_drewN | apply Kd.R_drew)); exact (Kd.R_mono (Kd.R_far (p := ⟨gb505, 1, none⟩) (Kd.R_far (p := ⟨gb505, 0, none⟩) (Kd.R_types HO496.out BK505.out (by decide)) (fun _ hk => hk.2) (.slice Ao29 t499.length co29)) (fun _ hk => hk.2) (.slice Ao33 t502.length co33)) (fun _ h_ => h_.1))) hb) (Kd.R_base ho0)) (Kd.R_base ho1)) (fun _ h_ => h_.1)); have n4 := Az (Kd.R_mono (Kd.R_told (Kd.R_told (Kd.R_old (by (with_reducible repeat (first | apply Kd.R_alloc | apply Kd.R_drewN | apply Kd.R_drew)); exact (Kd.R_mono (Kd.R_far (p := ⟨gb505, 1, none⟩) (Kd.R_far (p := ⟨gb505, 0, none⟩) (Kd.R_types HO501.out BK505.out (by decide)) (fun _ hk => hk.2) (.slice Ao29 t499.length co29)) (fun _ hk => hk.2) (.slice Ao33 t502.length co33)) (fun _ h_ => h_.1))) hb) (Kd.R_base ho0)) (Kd.R_base ho1)) (fun _ h_ => h_.1)); have n5 := Az (Kd.R_mono (Kd.R_told (Kd.R_told (Kd.R_old (by (with_reducible repeat (first | apply Kd.R_alloc | apply Kd.R_drewN | apply Kd.R_drew)); exact (Kd.R_mono (Kd.R_far (p := ⟨gb505, 1, none⟩) (Kd.R_far (p := ⟨gb505, 0, none⟩) (Kd.R_types HO504.out BK505.out (by decide)) (fun _ hk => hk.2) (.slice Ao29 t499.length co29)) (fun _ hk => hk.2) (.slice Ao33 t502.length co33)) (fun _ h_ => h_.1))) hb) (Kd.R_base ho0)) (Kd.R_base ho1)) (fun _ h_ => h_.1)); have n6 := Az (Kd.R_lower (Kd.R_new' (Kd.R_new' (Kd.R_new' (Kd.R_new' (Kd.R_new' (Kd.R_new' ho0 (Kd.R_lt (by (with_reducible repeat (first | apply Kd.R_alloc | apply Kd.R_drewN | apply Kd.R_drew)); exact (Kd.R_mono (Kd.R_far (p := ⟨gb505, 1, none⟩) (Kd.R_far (p := ⟨gb505, 0, none⟩) (Kd.R_types HO487.out BK505.out (by decide)) (fun _ hk => hk.2) (.slice Ao29 t499.length co29)) (fun _ hk => hk.2) (.slice Ao33 t502.length co33)) (fun _ h_ => h_.1))))) (Kd.R_lt (by (with_reducible repeat (first | apply Kd.R_alloc | apply Kd.R_drewN | apply Kd.R_drew)); exact (Kd.R_mono (Kd.R_far (p := ⟨gb505, 1, none⟩) (Kd.R_far (p := ⟨gb505, 0, none⟩) (Kd.R_types HO490.out BK505.out (by decide)) (fun _ hk => hk.2) (.slice Ao29 t499.length co29)) (fun _ hk => hk.2) (.slice Ao33 t502.length co33)) (fun _ h_ => h_.1))))) (Kd.R_lt (by (with_reducible repeat (first | apply Kd.R_alloc | apply Kd.R_drewN | apply Kd.R_drew)); exact (Kd.R_mono (Kd.R_far (p := ⟨gb505, 1, none⟩) (Kd.R_far (p := ⟨gb505, 0, none⟩) (Kd.R_types HO493.out BK505.out (by decide)) (fun _ hk => hk.2) (.slice Ao29 t499.length co29)) (fun _ hk => hk.2) (.slice Ao33 t502.length co33)) (fun _ h_ => h_.1))))) (Kd.R_lt (by (with_reducible repeat (first | apply Kd.R_alloc | apply Kd.R_drewN | apply Kd.R_drew)); exact (Kd.R_mono (Kd.R_far (p := ⟨gb505, 1, none⟩) (Kd.R_far (p := ⟨gb505, 0, none⟩) (Kd.R_types HO496.out BK505.out (by decide)) (fun _ hk => hk.2) (.slice Ao29 t499.length co29)) (fun _ hk => hk.2) (.slice Ao33 t502.length co33)) (fun _ h_ => h_.1))))) (Kd.R_lt (by (with_reducible repeat (first | apply Kd.R_alloc | apply Kd.R_drewN | apply Kd.R_drew)); exact (Kd.R_mono (Kd.R_far (p := ⟨gb505, 1, none⟩) (Kd.R_far (p := ⟨gb505, 0, none⟩) (Kd.R_types HO501.out BK505.out (by decide)) (fun _ hk => hk.2) (.slice Ao29 t499.length co29)) (fun _ hk => hk.2) (.slice Ao33 t502.length co33)) (fun _ h_ => h_.1))))) (Kd.R_lt (by (with_reducible repeat (first | apply Kd.R_alloc | apply Kd.R_drewN | apply Kd.R_drew)); exact (Kd.R_mono (Kd.R_far (p := ⟨gb505, 1, none⟩) (Kd.R_far (p := ⟨gb505, 0, none⟩) (Kd.R_types HO504.out BK505.out (by decide)) (fun _ hk => hk.2) (.slice Ao29 t499.length co29)) (fun _ hk => hk.2) (.slice Ao33 t502.length co33)) (fun _ h_ => h_.1))))) (below_size (bU3 HB.out GE483.out GE498.out GE505.out))); have n7 := Az (Kd.R_lower (Kd.R_new' (Kd.R_new' (Kd.R_new' (Kd.R_new' (Kd.R_new' (Kd.R_new' ho1 (Kd.R_lt (by (with_reducible repeat (first | apply Kd.R_alloc | apply Kd.R_drewN | apply Kd.R_drew)); exact (Kd.R_mono (Kd.R_far (p := ⟨gb505, 1, none⟩) (Kd.R_far (p := ⟨gb505, 0, none⟩) (Kd.R_types HO487.out BK505.out (by decide)) (fun _ hk => hk.2) (.slice Ao29 t499.length co29)) (fun _ hk => hk.2) (.slice Ao33 t502.length co33)) (fun _ h_ => h_.1))))) (Kd.R_lt (by (with_reducible repeat (first | apply Kd.R_alloc | apply Kd.R_drewN | apply Kd.R_drew)); exact (Kd.R_mono (Kd.R_far (p := ⟨gb505, 1, none⟩) (Kd.R_far (p := ⟨gb505, 0, none⟩) (Kd.R_types HO490.out BK505.out (by decide)) (fun _ hk => hk.2) (.slice Ao29 t499.length co29)) (fun _ hk => hk.2) (.slice Ao33 t502.length co33)) (fun _ h_ => h_.1))))) (Kd.R_lt (by (with_reducible repeat (first | apply Kd.R_alloc | apply Kd.R_drewN | apply Kd.R_drew)); exact (Kd.R_mono (Kd.R_far (p := ⟨gb505, 1, none⟩) (Kd.R_far (p := ⟨gb505, 0, none⟩) (Kd.R_types HO493.out BK505.out (by decide)) (fun _ hk => hk.2) (.slice Ao29 t499.length co29)) (fun _ hk => hk.2) (.slice Ao33 t502.length co33)) (fun _ h_ => h_.1))))) (Kd.R_lt (by (with_reducible repeat (first | apply Kd.R_alloc | apply Kd.R_drewN | apply Kd.R_drew)); exact (Kd.R_mono (Kd.R_far (p := ⟨gb505, 1, none⟩) (Kd.R_far (p := ⟨gb505, 0, none⟩) (Kd.R_types HO496.out BK505.out (by decide)) (fun _ hk => hk.2) (.slice Ao29 t499.length co29)) (fun _ hk => hk.2) (.slice Ao33 t502.length co33)) (fun _ h_ => h_.1))))) (Kd.R_lt (by (with_reducible repeat (first | apply Kd.R_alloc | apply Kd.R_drewN | apply Kd.R_drew)); exact (Kd.R_mono (Kd.R_far (p := ⟨gb505, 1, none⟩) (Kd.R_far (p := ⟨gb505, 0, none⟩) (Kd.R_types HO501.out BK505.out (by decide)) (fun _ hk => hk.2) (.slice Ao29 t499.length co29)) (fun _ hk => hk.2) (.slice Ao33 t502.length co33)) (fun _ h_ => h_.1))))) (Kd.R_lt (by (with_reducible repeat (first | apply Kd.R_alloc | apply Kd.R_drewN | apply Kd.R_drew)); exact (Kd.R_mono (Kd.R_far (p := ⟨gb505, 1, none⟩) (Kd.R_far (p := ⟨gb505, 0, none⟩) (Kd.R_types HO504.out BK505.out (by decide)) (fun _ hk => hk.2) (.slice Ao29 t499.length co29)) (fun _ hk => hk.2) (.slice Ao33 t502.length co33)) (fun _ h_ => h_.1))))) (below_size (bU3 HB.out GE483.out GE498.out GE505.out))); have n8 := Az (blk_below (g := gb483) (o := .cells #[.slice A0_0 l0_0.length c0_0, .slice A0_1 l0_1.length c0_1] 36 (0, 0)) (by (with_reducible repeat (first | refine blk_drewN ?_ _ | refine blk_drew ?_ | refine blk_alloc ?_ _)); refine blk_far ?_ NB483_505.out _; (with_reducible repeat (first | refine blk_drewN ?_ _ | refine blk_drew ?_ | refine blk_alloc ?_ _)); refine blk_far ?_ NB483_505.out _; (with_reducible repeat (first | refine blk_drewN ?_ _ | refine blk_drew ?_ | refine blk_alloc ?_ _)); exact BK483.out) hb); have n9 := Az (blk_below (g := gb498) (o := .cells #[.slice Ao22 t491.length co22, .slice Ao25 t494.length co25] 25 (0, 0)) (by (with_reducible repeat (first | refine blk_drewN ?_ _ | refine blk_drew ?_ | refine blk_alloc ?_ _)); refine blk_far ?_ NB498_505.out _; (with_reducible repeat (first | refine blk_drewN ?_ _ | refine blk_drew ?_ | refine blk_alloc ?_ _)); refine blk_far ?_ NB498_505.out _; (with_reducible repeat (first | refine blk_drewN ?_ _ | refine blk_drew ?_ | refine blk_alloc ?_ _)); exact BK498.out) hb); have n10 := Az (blk_below (g := gb505) (o := .cells #[.slice Ao29 t499.length co29, .slice Ao33 t502.length co33] 25 (0, 0)) (by (with_reducible repeat (first | refine blk_drewN ?_ _ | refine blk_drew ?_ | refine blk_alloc ?_ _)); refine blk_put (cs := #[.slice Ao29 t499.length co29, .slice none 0 0]) ?_ 1 _ rfl; (with_reducible repeat (first | refine blk_drewN ?_ _ | refine blk_drew ?_ | refine blk_alloc ?_ _)); refine blk_put (cs := #[.slice none 0 0, .slice none 0 0]) ?_ 0 _ rfl; (with_reducible repeat (first | refine blk_drewN ?_ _ | refine blk_drew ?_ | refine blk_alloc ?_ _)); exact BK505.out) hb); have n11 := Az (below_step (bU3 HB.out GE483.out GE498.out GE505.out) hb); clear HO487 HO490 HO493 HO496 HO501 HO504 BK483 BK498 BK505 HB; have HO487 := n0; have HO490 := n1; have HO493 := n2; have HO496 := n3; have HO501 := n4; have HO504 := n5; have HO508 := n6; have HO511 := n7; have BK483 := n8; have BK498 := n9; have BK505 := n10; have HB := n11; clear n0 n1 n2 n3 n4 n5 n6 n7 n8 n9 n10 n11; (try clear hb); (try clear hb2); (try clear hk); (try clear hi); (try clear ho0); (try clear ho1)) | ((with_reducible refine gate_dst (N := 9) rfl ?_); refine box_event ?hg (N := 9) ?hd (cs := #[.slice none 0 0, .slice none 0 0]) (t := 25) ?hr ?_; (case hd => rfl); (case hg => rfl); (case hr => first | (go_simp; done) | (go_simp; rfl)); intro gb513 hg w35 hbox hb; have n0 := Az (Kd.R_below (rU HO487.out) hb); have n1 := Az (Kd.R_below (rU HO490.out) hb); have n2 := Az (Kd.R_below (rU HO493.out) hb); have n3 := Az (Kd.R_below (rU HO496.out) hb); have n4 := Az (Kd.R_below (rU HO501.out) hb); have n5 := Az (Kd.R_below (rU HO504.out) hb); have n6 := Az (Kd.R_below (rU HO508.out) hb); have n7 := Az (Kd.R_below (rU HO511.out) hb); have n8 := Az (blk_below (g := gb483) (o := .cells #[.slice A0_0 l0_0.length c0_0, .slice A0_1 l0_1.length c0_1] 36 (0, 0)) (kU BK483.out) hb); have n9 := Az (blk_below (g := gb498) (o := .cells #[.slice Ao22 t491.length co22, .slice Ao25 t494.length co25] 25 (0, 0)) (kU BK498.out) hb); have n10 := Az (blk_below (g := gb505) (o := .cells #[.slice Ao29 t499.length co29, .slice Ao33 t502.length co33] 25 (0, 0)) (kU BK505.out) hb); have n11 := Az (below_step (bU3 HB.out GE483.out GE498.out GE505.out) hb); have n12 := Az (hbox); have n13 := Az ((by rw [hg]; exact (below_size (bU3 HB.out GE483.out GE498.out GE505.out)) : w.heap.size ≤ gb513)); have n14 := n13; have n15 := Az ((by rw [hg]; exact Nat.ne_of_lt (blk_lt (g := gb483) (o := .cells #[.slice A0_0 l0_0.length c0_0, .slice A0_1 l0_1.length c0_1] 36 (0, 0)) (kU BK483.out)) : gb483 ≠ gb513)); have n16 := Az ((by rw [hg]; exact Nat.ne_of_gt (blk_lt (g := gb483) (o := .cells #[.slice A0_0 l0_0.length c0_0, .slice A0_1 l0_1.length c0_1] 36 (0, 0)) (kU BK483.out)) : gb513 ≠ gb483)); have n17 := Az ((by rw [hg]; exact Nat.ne_of_lt (blk_lt (g := gb498) (o := .cells #[.slice Ao22 t491.length co22, .slice Ao25 t494.length co25] 25 (0, 0)) (kU BK498.out)) : gb498 ≠ gb513)); have n18 := Az ((by rw [hg]; exact Nat.ne_of_gt (blk_lt (g := gb498) (o := .cells #[.slice Ao22 t491.length co22, .slice Ao25 t494.length co25] 25 (0, 0)) (kU BK498.out)) : gb513 ≠ gb498)); have n19 := Az ((by rw [hg]; exact Nat.ne_of_lt (blk_lt (g := gb505) (o := .cells #[.slice Ao29 t499.length co29, .slice Ao33 t502.length co33] 25 (0, 0)) (kU BK505.out)) : gb505 ≠ gb513)); have n20 := Az ((by rw [hg]; exact Nat.ne_of_gt (blk_lt (g := gb505) (o := .cells #[.slice Ao29 t499.length co29, .slice Ao33 t502.length co33] 25 (0, 0)) (kU BK505.out)) : gb513 ≠ gb505)); clear HO487 HO490 HO493 HO496 HO501 HO504 HO508 HO511 BK483 BK498 BK505 HB; have HO487 := n0; have HO490 := n1; have HO493 := n2; have HO496 := n3; have HO501 := n4; have HO504 := n5; have HO508 := n6; have HO511 := n7; have BK483 := n8; have BK498 := n9; have BK505 := n10; have HB := n11; have BK513 := n12; have GW513 := n13; have GE513 := n14; have NB483_513 := n15; have NB513_483 := n16; have NB498_513 := n17; have NB513_498 := n18; have NB505_513 := n19; have NB513_505 := n20; clear n0 n1 n2 n3 n4 n5 n6 n7 n8 n9 n10 n11 n12 n13 n14 n15 n16 n17 n18 n19 n20 hb hbox hg; obtain ⟨Ao36, co36, eo36⟩ := Kd.R_slice HO508.out; subst eo36; have hnb37 := NB513_483.out; have hnc37 := NB483_513.out; have hnb38 := NB513_498.out; have hnc38 := NB498_513.out; have hnb39 := NB513_505.out; have hnc39 := NB505_513.out; have hcz40_0 : w35.cell? ⟨gb513, 0, none⟩ = some (.slice none 0 0) := (blk_cell BK513.out 0).trans rfl; have hcz40_1 : w35.cell? ⟨gb513, 1, none⟩ = some (.slice none 0 0) := (blk_cell BK513.out 1).trans rfl; have hfz40_0 := blk_frozen BK513.out 0; have hfz40_1 := blk_frozen BK513.out 1; obtain ⟨Ao41, co41, eo41⟩ := Kd.R_slice HO511.out; subst eo41))
  (try simp only [Act.put, List.setIfInBounds_toArray, List.set_cons_zero, List.set_cons_succ])
  go_cut [44] (fun v44 wc => ∃ (kq : Nat) (x44_11 : Bool), v44 = .bool x44_11 ∧ Aside0 (laws_FnExactEdgeContract.j0 kq a1 t497 t512 x44_11 l0_0 l0_1 t491 t494 t499 t502 t506 t509 = some r) ∧ Aside0 (kq ≤ k) ∧ Aside0 (Kd.R (Kd.int .i64) 3 wc w.heap.size (fun k_ => some k_ ≠ ((.slice Ao25 t494.length co25) : Value).ownBlock ∧ some k_ ≠ ((.slice Ao29 t499.length co29) : Value).ownBlock ∧ some k_ ≠ ((.slice Ao33 t502.length co33) : Value).ownBlock ∧ some k_ ≠ ((.slice Ao36 t506.length co36) : Value).ownBlock ∧ some k_ ≠ ((.slice Ao41 t509.length co41) : Value).ownBlock) (.slice Ao22 t491.length co22) t491) ∧ Aside0 (Kd.R (Kd.int .i64) 3 wc w.heap.size (fun k_ => some k_ ≠ ((.slice Ao22 t491.length co22) : Value).ownBlock ∧ some k_ ≠ ((.slice Ao29 t499.length co29) : Value).ownBlock ∧ some k_ ≠ ((.slice Ao33 t502.length co33) : Value).ownBlock ∧ some k_ ≠ ((.slice Ao36 t506.length co36) : Value).ownBlock ∧ some k_ ≠ ((.slice Ao41 t509.length co41) : Value).ownBlock) (.slice Ao25 t494.length co25) t494) ∧ Aside0 (Kd.R (Kd.int .i64) 3 wc w.heap.size (fun k_ => some k_ ≠ ((.slice Ao22 t491.length co22) : Value).ownBlock ∧ some k_ ≠ ((.slice Ao25 t494.length co25) : Value).ownBlock ∧ some k_ ≠ ((.slice Ao33 t502.length co33) : Value).ownBlock ∧ some k_ ≠ ((.slice Ao36 t506.length co36) : Value).ownBlock ∧ some k_ ≠ ((.slice Ao41 t509.length co41) : Value).ownBlock) (.slice Ao29 t499.length co29) t499) ∧ Aside0 (Kd.R (Kd.int .i64) 3 wc w.heap.size (fun k_ => some k_ ≠ ((.slice Ao22 t491.length co22) : Value).ownBlock ∧ some k_ ≠ ((.slice Ao25 t494.length co25) : Value).ownBlock ∧ some k_ ≠ ((.slice Ao29 t499.length co29) : Value).ownBlock ∧ some k_ ≠ ((.slice Ao36 t506.length co36) : Value).ownBlock ∧ some k_ ≠ ((.slice Ao41 t509.length co41) : Value).ownBlock) (.slice Ao33 t502.length co33) t502) ∧ Aside0 (Kd.R (Kd.int .i64) 3 wc w.heap.size (fun k_ => some k_ ≠ ((.slice Ao22 t491.length co22) : Value).ownBlock ∧ some k_ ≠ ((.slice Ao25 t494.length co25) : Value).ownBlock ∧ some k_ ≠ ((.slice Ao29 t499.length co29) : Value).ownBlock ∧ some k_ ≠ ((.slice Ao33 t502.length co33) : Value).ownBlock ∧ some k_ ≠ ((.slice Ao41 t509.length co41) : Value).ownBlock) (.slice Ao36 t506.length co36) t506) ∧ Aside0 (Kd.R (Kd.int .i64) 3 wc w.heap.size (fun k_ => some k_ ≠ ((.slice Ao22 t491.length co22) : Value).ownBlock ∧ some k_ ≠ ((.slice Ao25 t494.length co25) : Value).ownBlock ∧ some k_ ≠ ((.slice Ao29 t499.length co29) : Value).ownBlock ∧ some k_ ≠ ((.slice Ao33 t502.length co33) : Value).ownBlock ∧ some k_ ≠ ((.slice Ao36 t506.length co36) : Value).ownBlock) (.slice Ao41 t509.length co41) t509) ∧ Aside0 (wc.heap[gb483]? = some (.cells #[(.slice A0_0 l0_0.length c0_0), (.slice A0_1 l0_1.length c0_1)] 36 (0, 0))) ∧ Aside0 (wc.heap[gb498]? = some (.cells #[(.slice Ao22 t491.length co22), (.slice Ao25 t494.length co25)] 25 (0, 0))) ∧ Aside0 (wc.heap[gb505]? = some (.cells #[(.slice Ao29 t499.length co29), (.slice Ao33 t502.length co33)] 25 (0, 0))) ∧ Aside0 (wc.heap[gb513]? = some (.cells #[(.slice Ao36 t506.length co36), (.slice Ao41 t509.length co41)] 25 (0, 0))) ∧ Aside0 (Below w.heap.size w wc))
  case first =>
   have H := HC12.out; clear HC12; replace H := Option.bind_eq_some_iff.mp H; obtain ⟨t514, A420, H⟩ := H; replace H : (if t514 = true then (laws_FnExactEdgeContract.j0 k a1 t497 t512 (t512 != t497) l0_0 l0_1 t491 t494 t499 t502 t506 t509) else (laws_FnExactEdgeContract.j0 k a1 t497 t512 true l0_0 l0_1 t491 t494 t499 t502 t506 t509)) = some r := H; have A42 := Az A420; clear A420
   by_cases c43 : t514 = true
   ·
    subst c43
    have H1 : (laws_FnExactEdgeContract.j0 k a1 t497 t512 (t512 != t497) l0_0 l0_1 t491 t494 t499 t502 t506 t509) = some r := by rw [if_pos rfl] at H; exact H
    clear H; have H := H1; clear H1; have H' := Az H; clear H; have hnb44 := NB513_483.out; have hnc44 := NB483_513.out; have hnb45 := NB513_498.out; have hnc45 := NB498_513.out; have hnb46 := NB513_505.out; have hnc46 := NB505_513.out; have hcz47_0 : w35.cell? ⟨gb513, 0, none⟩ = some (.slice none 0 0) := (blk_cell BK513.out 0).trans rfl; have hcz47_1 : w35.cell? ⟨gb513, 1, none⟩ = some (.slice none 0 0) := (blk_cell BK513.out 1).trans rfl; have hfz47_0 := blk_frozen BK513.out 0; have hfz47_1 := blk_frozen BK513.out 1; have hnb48 := NB498_483.out; have hnc48 := NB483_498.out; have hnb49 := NB498_505.out; have hnc49 := NB505_498.out; have hcz50_0 : w35.cell? ⟨gb498, 0, none⟩ = some (.slice Ao22 t491.length co22) := (blk_cell BK498.out 0).trans rfl; have hcz50_1 : w35.cell? ⟨gb498, 1, none⟩ = some (.slice Ao25 t494.length co25) := (blk_cell BK498.out 1).trans rfl; have hfz50_0 := blk_frozen BK498.out 0; have hfz50_1 := blk_frozen BK498.out 1
    go_wp2_with (first | ((with_reducible refine gate_callee (f := 22) rfl ?_); refine goesL_ (some 38) rfl rfl Try.func22 (by kernel_rfl) rfl #[.agg #[.slice Ao36 t506.length co36, .slice Ao41 t509.length co41], .agg #[.slice Ao22 t491.length co22, .slice Ao25 t494.length co25]] rfl (by (try simp only [List.map_toArray, List.map_cons, List.map_nil]); first | done | rfl | (simp only [List.length_drop, List.length_take]; rfl)) ?_; (with_reducible refine (laws_eqMap.calls k _ _ t506 _ _ t509 _ _ t491 _ _ t494 true _ ?side1 ?side2 ?side3 ?side4 ?side5 ?side6 ?side7 ?side8 A42.out).mono ?_); (case side1 => refine (Kd.R_reads' (e := 3) (base := w.heap.size) (ok := fun k_ => ((((((some k_ ≠ (.slice Ao41 t509.length co41 : Value).ownBlock ∧ some k_ ≠ (.slice Ao18 t485.length co18 : Value).ownBlock) ∧ some k_ ≠ (.slice Ao19 t488.length co19 : Value).ownBlock) ∧ some k_ ≠ (.slice Ao22 t491.length co22 : Value).ownBlock) ∧ some k_ ≠ (.slice Ao25 t494.length co25 : Value).ownBlock) ∧ some k_ ≠ (.slice Ao29 t499.length co29 : Value).ownBlock) ∧ some k_ ≠ (.slice Ao33 t502.length co33 : Value).ownBlock)) (n := t506.length) (c := co36) ?_).2.2; exact (by (with_reducible repeat (first | apply Kd.R_alloc | apply Kd.R_drewN | apply Kd.R_drew)); exact (Kd.R_mono (Kd.R_far (p := ⟨gb513, 1, none⟩) (Kd.R_far (p := ⟨gb513, 0, none⟩) (Kd.R_types HO508.out BK513.out (by decide)) (fun _ hk => hk.2) (.slice Ao36 t506.length co36)) (fun _ hk => hk.2) (.slice Ao41 t509.length co41)) (fun _ h_ => h_.1)))); (case side2 => exact (Kd.R_reads' HO508.out).2.1); (case side3 => refine (Kd.R_reads' (e := 3) (base := w.heap.size) (ok := fun k_ => ((((((some k_ ≠ (.slice Ao36 t506.length co36 : Value).ownBlock ∧ some k_ ≠ (.slice Ao18 t485.length co18 : Value).ownBlock) ∧ some k_ ≠ (.slice Ao19 t488.length co19 : Value).ownBlock) ∧ some k_ ≠ (.slice Ao22 t491.length co22 : Value).ownBlock) ∧ some k_ ≠ (.slice Ao25 t494.length co25 : Value).ownBlock) ∧ some k_ ≠ (.slice Ao29 t499.length co29 : Value).ownBlock) ∧ some k_ ≠ (.slice Ao33 t502.length co33 : Value).ownBlock)) (n := t509.length) (c := co41) ?_).2.2; exact (by (with_reducible repeat (first | apply Kd.R_alloc | apply Kd.R_drewN | apply Kd.R_drew)); exact (Kd.R_mono (Kd.R_far (p := ⟨gb513, 1, none⟩) (Kd.R_far (p := ⟨gb513, 0, none⟩) (Kd.R_types HO511.out BK513.out (by decide)) (fun _ hk => hk.2) (.slice Ao36 t506.length co36)) (fun _ hk => hk.2) (.slice Ao41 t509.length co41)) (fun _ h_ => h_.1)))); (case side4 => exact (Kd.R_reads' HO511.out).2.1); (case side5 => refine (Kd.R_reads' (e := 3) (base := w.heap.size) (ok := fun k_ => ((((((some k_ ≠ (.slice Ao25 t494.length co25 : Value).ownBlock ∧ some k_ ≠ (.slice Ao18 t485.length co18 : Value).ownBlock) ∧ some k_ ≠ (.slice Ao19 t488.length co19 : Value).ownBlock) ∧ some k_ ≠ (.slice Ao29 t499.length co29 : Value).ownBlock) ∧ some k_ ≠ (.slice Ao33 t502.length co33 : Value).ownBlock) ∧ some k_ ≠ (.slice Ao36 t506.length co36 : Value).ownBlock) ∧ some k_ ≠ (.slice Ao41 t509.length co41 : Value).ownBlock)) (n := t491.length) (c := co22) ?_).2.2; exact (by (with_reducible repeat (first | apply Kd.R_alloc | apply Kd.R_drewN | apply Kd.R_drew)); exact (Kd.R_mono (Kd.R_far (p := ⟨gb513, 1, none⟩) (Kd.R_far (p := ⟨gb513, 0, none⟩) (Kd.R_types HO493.out BK513.out (by decide)) (fun _ hk => hk.2) (.slice Ao36 t506.length co36)) (fun _ hk => hk.2) (.slice Ao41 t509.length co41)) (fun _ h_ => h_.1)))); (case side6 => exact (Kd.R_reads' HO493.out).2.1); (case side7 => refine (Kd.R_reads' (e := 3) (base := w.heap.size) (ok := fun k_ => ((((((some k_ ≠ (.slice Ao22 t491.length co22 : Value).ownBlock ∧ some k_ ≠ (.slice Ao18 t485.length co18 : Value).ownBlock) ∧ some k_ ≠ (.slice Ao19 t488.length co19 : Value).ownBlock) ∧ some k_ ≠ (.slice Ao29 t499.length co29 : Value).ownBlock) ∧ some k_ ≠ (.slice Ao33 t502.length co33 : Value).ownBlock) ∧ some k_ ≠ (.slice Ao36 t506.length co36 : Value).ownBlock) ∧ some k_ ≠ (.slice Ao41 t509.length co41 : Value).ownBlock)) (n := t494.length) (c := co25) ?_).2.2; exact (by (with_reducible repeat (first | apply Kd.R_alloc | apply Kd.R_drewN | apply Kd.R_drew)); exact (Kd.R_mono (Kd.R_far (p := ⟨gb513, 1, none⟩) (Kd.R_far (p := ⟨gb513, 0, none⟩) (Kd.R_types HO496.out BK513.out (by decide)) (fun _ hk => hk.2) (.slice Ao36 t506.length co36)) (fun _ hk => hk.2) (.slice Ao41 t509.length co41)) (fun _ h_ => h_.1)))); (case side8 => exact (Kd.R_reads' HO496.out).2.1); rintro e w51 ⟨rfl, hb⟩; refine ⟨_, rfl, ?_⟩; have n0 := Az (Kd.R_below (by (with_reducible repeat (first | apply Kd.R_alloc | apply Kd.R_drewN | apply Kd.R_drew)); exact (Kd.R_mono (Kd.R_far (p := ⟨gb513, 1, none⟩) (Kd.R_far (p := ⟨gb513, 0, none⟩) (Kd.R_types HO487.out BK513.out (by decide)) (fun _ hk => hk.2) (.slice Ao36 t506.length co36)) (fun _ hk => hk.2) (.slice Ao41 t509.length co41)) (fun _ h_ => h_.1))) hb); have n1 := Az (Kd.R_below (by (with_reducible repeat (first | apply Kd.R_alloc | apply Kd.R_drewN | apply Kd.R_drew)); exact (Kd.R_mono (Kd.R_far (p := ⟨gb513, 1, none⟩) (Kd.R_far (p := ⟨gb513, 0, none⟩) (Kd.R_types HO490.out BK513.out (by decide)) (fun _ hk => hk.2) (.slice Ao36 t506.length co36)) (fun _ hk => hk.2) (.slice Ao41 t509.length co41)) (fun _ h_ => h_.1))) hb); have n2 := Az (Kd.R_below (by (with_reducible repeat (first | apply Kd.R_alloc | apply Kd.R_drewN | apply Kd.R_drew)); exact (Kd.R_mono (Kd.R_far (p := ⟨gb513, 1, none⟩) (Kd.R_far (p := ⟨gb513, 0, none⟩) (Kd.R_types HO493.out BK513.out (by decide)) (fun _ hk => hk.2) (.slice Ao36 t506.length co36)) (fun _ hk => hk.2) (.slice Ao41 t509.length co41)) (fun _ h_ => h_.1))) hb); have n3 := Az (Kd.R_below (by (with_reducible repeat (first | apply Kd.R_alloc | apply Kd.R_drewN | apply Kd.R_drew)); exact (Kd.R_mono (Kd.R_far (p := ⟨gb513, 1, none⟩) (Kd.R_far (p := ⟨gb513, 0, none⟩) (Kd.R_types HO496.out BK513.out (by decide)) (fun _ hk => hk.2) (.slice Ao36 t506.length co36)) (fun _ hk => hk.2) (.slice Ao41 t509.length co41)) (fun _ h_ => h_.1))) hb); have n4 := Az (Kd.R_below (by (with_reducible repeat (first | apply Kd.R_alloc | apply Kd.R_drewN | apply Kd.R_drew)); exact (Kd.R_mono (Kd.R_far (p := ⟨gb513, 1, none⟩) (Kd.R_far (p := ⟨gb513, 0, none⟩) (Kd.R_types HO501.out BK513.out (by decide)) (fun _ hk => hk.2) (.slice Ao36 t506.length co36)) (fun _ hk => hk.2) (.slice Ao41 t509.length co41)) (fun _ h_ => h_.1))) hb); have n5 := Az (Kd.R_below (by (with_reducible repeat (first | apply Kd.R_alloc | apply Kd.R_drewN | apply Kd.R_drew)); exact (Kd.R_mono (Kd.R_far (p := ⟨gb513, 1, none⟩) (Kd.R_far (p := ⟨gb513, 0, none⟩) (Kd.R_types HO504.out BK513.out (by decide)) (fun _ hk => hk.2) (.slice Ao36 t506.length co36)) (fun _ hk => hk.2) (.slice Ao41 t509.length co41)) (fun _ h_ => h_.1))) hb); have n6 := Az (Kd.R_below (by (with_reducible repeat (first | apply Kd.R_alloc | apply Kd.R_drewN | apply Kd.R_drew)); exact (Kd.R_mono (Kd.R_far (p := ⟨gb513, 1, none⟩) (Kd.R_far (p := ⟨gb513, 0, none⟩) (Kd.R_types HO508.out BK513.out (by decide)) (fun _ hk => hk.2) (.slice Ao36 t506.length co36)) (fun _ hk => hk.2) (.slice Ao41 t509.length co41)) (fun _ h_ => h_.1))) hb); have n7 := Az (Kd.R_below (by (with_reducible repeat (first | apply Kd.R_alloc | apply Kd.R_drewN | apply Kd.R_drew)); exact (Kd.R_mono (Kd.R_far (p := ⟨gb513, 1, none⟩) (Kd.R_far (p := ⟨gb513, 0, none⟩) (Kd.R_types HO511.out BK513.out (by decide)) (fun _ hk => hk.2) (.slice Ao36 t506.length co36)) (fun _ hk => hk.2) (.slice Ao41 t509.length co41)) (fun _ h_ => h_.1))) hb); have n8 := Az (blk_below (g := gb483) (o := .cells #[.slice A0_0 l0_0.length c0_0, .slice A0_1 l0_1.length c0_1] 36 (0, 0)) (by (with_reducible repeat (first | refine blk_drewN ?_ _ | refine blk_drew ?_ | refine blk_alloc ?_ _)); refine blk_far ?_ NB483_513.out _; (with_reducible repeat (first | refine blk_drewN ?_ _ | refine blk_drew ?_ | refine blk_alloc ?_ _)); refine blk_far ?_ NB483_513.out _; (with_reducible repeat (first | refine blk_drewN ?_ _ | refine blk_drew ?_ | refine blk_alloc ?_ _)); exact BK483.out) hb); have n9 := Az (blk_below (g := gb498) (o := .cells #[.slice Ao22 t491.length co22, .slice Ao25 t494.length co25] 25 (0, 0)) (by (with_reducible repeat (first | refine blk_drewN ?_ _ | refine blk_drew ?_ | refine blk_alloc ?_ _)); refine blk_far ?_ NB498_513.out _; (with_reducible repeat (first | refine blk_drewN ?_ _ | refine blk_drew ?_ | refine blk_alloc ?_ _)); refine blk_far ?_ NB498_513.out _; (with_reducible repeat (first | refine blk_drewN ?_ _ | refine blk_drew ?_ | refine blk_alloc ?_ _)); exact BK498.out) hb); have n10 := Az (blk_below (g := gb505) (o := .cells #[.slice Ao29 t499.length co29, .slice Ao33 t502.length co33] 25 (0, 0)) (by (with_reducible repeat (first | refine blk_drewN ?_ _ | refine blk_drew ?_ | refine blk_alloc ?_ _)); refine blk_far ?_ NB505_513.out _; (with_reducible repeat (first | refine blk_drewN ?_ _ | refine blk_drew ?_ | refine blk_alloc ?_ _)); refine blk_far ?_ NB505_513.out _; (with_reducible repeat (first | refine blk_drewN ?_ _ | refine blk_drew ?_ | refine blk_alloc ?_ _)); exact BK505.out) hb); have n11 := Az (blk_below (g := gb513) (o := .cells #[.slice Ao36 t506.length co36, .slice Ao41 t509.length co41] 25 (0, 0)) (by (with_reducible repeat (first | refine blk_drewN ?_ _ | refine blk_drew ?_ | refine blk_alloc ?_ _)); refine blk_put (cs := #[.slice Ao36 t506.length co36, .slice none 0 0]) ?_ 1 _ rfl; (with_reducible repeat (first | refine blk_drewN ?_ _ | refine blk_drew ?_ | refine blk_alloc ?_ _)); refine blk_put (cs := #[.slice none 0 0, .slice none 0 0]) ?_ 0 _ rfl; (with_reducible repeat (first | refine blk_drewN ?_ _ | refine blk_drew ?_ | refine blk_alloc ?_ _)); exact BK513.out) hb); have n12 := Az (below_step (bU4 HB.out GE483.out GE498.out GE505.out GE513.out) hb); clear HO487 HO490 HO493 HO496 HO501 HO504 HO508 HO511 BK483 BK498 BK505 BK513 HB; have HO487 := n0; have HO490 := n1; have HO493 := n2; have HO496 := n3; have HO501 := n4; have HO504 := n5; have HO508 := n6; have HO511 := n7; have BK483 := n8; have BK498 := n9; have BK505 := n10; have BK513 := n11; have HB := n12; clear n0 n1 n2 n3 n4 n5 n6 n7 n8 n9 n10 n11 n12; (try clear hb); (try clear hb2); (try clear hk); (try clear hi)))
    go_meet
    case rel => exact ⟨_, ((t512 != t497)), rS, H', ⟨by first | omega | exact Nat.le_refl _⟩, ⟨by (with_reducible repeat (first | apply Kd.R_alloc | apply Kd.R_drewN | apply Kd.R_drew)); exact Kd.R_mono HO493.out (fun _ hk => ⟨hk.1.1.1.1.1.1, ⟨hk.1.1.1.2, ⟨hk.1.1.2, ⟨hk.1.2, hk.2⟩⟩⟩⟩)⟩, ⟨by (with_reducible repeat (first | apply Kd.R_alloc | apply Kd.R_drewN | apply Kd.R_drew)); exact Kd.R_mono HO496.out (fun _ hk => ⟨hk.1.1.1.1.1.1, ⟨hk.1.1.1.2, ⟨hk.1.1.2, ⟨hk.1.2, hk.2⟩⟩⟩⟩)⟩, ⟨by (with_reducible repeat (first | apply Kd.R_alloc | apply Kd.R_drewN | apply Kd.R_drew)); exact Kd.R_mono HO501.out (fun _ hk => ⟨hk.1.1.1.2, ⟨hk.1.1.2, ⟨hk.1.1.1.1.1.1, ⟨hk.1.2, hk.2⟩⟩⟩⟩)⟩, ⟨by (with_reducible repeat (first | apply Kd.R_alloc | apply Kd.R_drewN | apply Kd.R_drew)); exact Kd.R_mono HO504.out (fun _ hk => ⟨hk.1.1.1.2, ⟨hk.1.1.2, ⟨hk.1.1.1.1.1.1, ⟨hk.1.2, hk.2⟩⟩⟩⟩)⟩, ⟨by (with_reducible repeat (first | apply Kd.R_alloc | apply Kd.R_drewN | apply Kd.R_drew)); exact Kd.R_mono HO508.out (fun _ hk => ⟨hk.1.1.1.2, ⟨hk.1.1.2, ⟨hk.1.2, ⟨hk.2, hk.1.1.1.1.1.1⟩⟩⟩⟩)⟩, ⟨by (with_reducible repeat (first | apply Kd.R_alloc | apply Kd.R_drewN | apply Kd.R_drew)); exact Kd.R_mono HO511.out (fun _ hk => ⟨hk.1.1.1.2, ⟨hk.1.1.2, ⟨hk.1.2, ⟨hk.2, hk.1.1.1.1.1.1⟩⟩⟩⟩)⟩, ⟨kU BK483.out⟩, ⟨kU BK498.out⟩, ⟨kU BK505.out⟩, ⟨kU BK513.out⟩, ⟨bU4 HB.out GE483.out GE498.out GE505.out GE513.out⟩⟩
   ·
    replace c43 := Bool.eq_false_iff.mpr c43; subst c43
    have H1 : (laws_FnExactEdgeContract.j0 k a1 t497 t512 true l0_0 l0_1 t491 t494 t499 t502 t506 t509) = some r := by rw [if_neg (show ¬ (false = true) by decide)] at H; exact H
    clear H; have H := H1; clear H1; have H' := Az H; clear H; have hnb52 := NB513_483.out; have hnc52 := NB483_513.out; have hnb53 := NB513_498.out; have hnc53 := NB498_513.out; have hnb54 := NB513_505.out; have hnc54 := NB505_513.out; have hcz55_0 : w35.cell? ⟨gb513, 0, none⟩ = some (.slice none 0 0) := (blk_cell BK513.out 0).trans rfl; have hcz55_1 : w35.cell? ⟨gb513, 1, none⟩ = some (.slice none 0 0) := (blk_cell BK513.out 1).trans rfl; have hfz55_0 := blk_frozen BK513.out 0; have hfz55_1 := blk_frozen BK513.out 1; have hnb56 := NB498_483.out; have hnc56 := NB483_498.out; have hnb57 := NB498_505.out; have hnc57 := NB505_498.out; have hcz58_0 : w35.cell? ⟨gb498, 0, none⟩ = some (.slice Ao22 t491.length co22) := (blk_cell BK498.out 0).trans rfl; have hcz58_1 : w35.cell? ⟨gb498, 1, none⟩ = some (.slice Ao25 t494.length co25) := (blk_cell BK498.out 1).trans rfl; have hfz58_0 := blk_frozen BK498.out 0; have hfz58_1 := blk_frozen BK498.out 1
    go_wp2_with (first | ((with_reducible refine gate_callee (f := 22) rfl ?_); refine goesL_ (some 38) rfl rfl Try.func22 (by kernel_rfl) rfl #[.agg #[.slice Ao36 t506.length co36, .slice Ao41 t509.length co41], .agg #[.slice Ao22 t491.length co22, .slice Ao25 t494.length co25]] rfl (by (try simp only [List.map_toArray, List.map_cons, List.map_nil]); first | done | rfl | (simp only [List.length_drop, List.length_take]; rfl)) ?_; (with_reducible refine (laws_eqMap.calls k _ _ t506 _ _ t509 _ _ t491 _ _ t494 false _ ?side1 ?side2 ?side3 ?side4 ?side5 ?side6 ?side7 ?side8 A42.out).mono ?_); (case side1 => refine (Kd.R_reads' (e := 3) (base := w.heap.size) (ok := fun k_ => ((((((some k_ ≠ (.slice Ao41 t509.length co41 : Value).ownBlock ∧ some k_ ≠ (.slice Ao18 t485.length co18 : Value).ownBlock) ∧ some k_ ≠ (.slice Ao19 t488.length co19 : Value).ownBlock) ∧ some k_ ≠ (.slice Ao22 t491.length co22 : Value).ownBlock) ∧ some k_ ≠ (.slice Ao25 t494.length co25 : Value).ownBlock) ∧ some k_ ≠ (.slice Ao29 t499.length co29 : Value).ownBlock) ∧ some k_ ≠ (.slice Ao33 t502.length co33 : Value).ownBlock)) (n := t506.length) (c := co36) ?_).2.2; exact (by (with_reducible repeat (first | apply Kd.R_alloc | apply Kd.R_drewN | apply Kd.R_drew)); exact (Kd.R_mono (Kd.R_far (p := ⟨gb513, 1, none⟩) (Kd.R_far (p := ⟨gb513, 0, none⟩) (Kd.R_types HO508.out BK513.out (by decide)) (fun _ hk => hk.2) (.slice Ao36 t506.length co36)) (fun _ hk => hk.2) (.slice Ao41 t509.length co41)) (fun _ h_ => h_.1)))); (case side2 => exact (Kd.R_reads' HO508.out).2.1); (case side3 => refine (Kd.R_reads' (e := 3) (base := w.heap.size) (ok := fun k_ => ((((((some k_ ≠ (.slice Ao36 t506.length co36 : Value).ownBlock ∧ some k_ ≠ (.slice Ao18 t485.length co18 : Value).ownBlock) ∧ some k_ ≠ (.slice Ao19 t488.length co19 : Value).ownBlock) ∧ some k_ ≠ (.slice Ao22 t491.length co22 : Value).ownBlock) ∧ some k_ ≠ (.slice Ao25 t494.length co25 : Value).ownBlock) ∧ some k_ ≠ (.slice Ao29 t499.length co29 : Value).ownBlock) ∧ some k_ ≠ (.slice Ao33 t502.length co33 : Value).ownBlock)) (n := t509.length) (c := co41) ?_).2.2; exact (by (with_reducible repeat (first | apply Kd.R_alloc | apply Kd.R_drewN | apply Kd.R_drew)); exact (Kd.R_mono (Kd.R_far (p := ⟨gb513, 1, none⟩) (Kd.R_far (p := ⟨gb513, 0, none⟩) (Kd.R_types HO511.out BK513.out (by decide)) (fun _ hk => hk.2) (.slice Ao36 t506.length co36)) (fun _ hk => hk.2) (.slice Ao41 t509.length co41)) (fun _ h_ => h_.1)))); (case side4 => exact (Kd.R_reads' HO511.out).2.1); (case side5 => refine (Kd.R_reads' (e := 3) (base := w.heap.size) (ok := fun k_ => ((((((some k_ ≠ (.slice Ao25 t494.length co25 : Value).ownBlock ∧ some k_ ≠ (.slice Ao18 t485.length co18 : Value).ownBlock) ∧ some k_ ≠ (.slice Ao19 t488.length co19 : Value).ownBlock) ∧ some k_ ≠ (.slice Ao29 t499.length co29 : Value).ownBlock) ∧ some k_ ≠ (.slice Ao33 t502.length co33 : Value).ownBlock) ∧ some k_ ≠ (.slice Ao36 t506.length co36 : Value).ownBlock) ∧ some k_ ≠ (.slice Ao41 t509.length co41 : Value).ownBlock)) (n := t491.length) (c := co22) ?_).2.2; exact (by (with_reducible repeat (first | apply Kd.R_alloc | apply Kd.R_drewN | apply Kd.R_drew)); exact (Kd.R_mono (Kd.R_far (p := ⟨gb513, 1, none⟩) (Kd.R_far (p := ⟨gb513, 0, none⟩) (Kd.R_types HO493.out BK513.out (by decide)) (fun _ hk => hk.2) (.slice Ao36 t506.length co36)) (fun _ hk => hk.2) (.slice Ao41 t509.length co41)) (fun _ h_ => h_.1)))); (case side6 => exact (Kd.R_reads' HO493.out).2.1); (case side7 => refine (Kd.R_reads' (e := 3) (base := w.heap.size) (ok := fun k_ => ((((((some k_ ≠ (.slice Ao22 t491.length co22 : Value).ownBlock ∧ some k_ ≠ (.slice Ao18 t485.length co18 : Value).ownBlock) ∧ some k_ ≠ (.slice Ao19 t488.length co19 : Value).ownBlock) ∧ some k_ ≠ (.slice Ao29 t499.length co29 : Value).ownBlock) ∧ some k_ ≠ (.slice Ao33 t502.length co33 : Value).ownBlock) ∧ some k_ ≠ (.slice Ao36 t506.length co36 : Value).ownBlock) ∧ some k_ ≠ (.slice Ao41 t509.length co41 : Value).ownBlock)) (n := t494.length) (c := co25) ?_).2.2; exact (by (with_reducible repeat (first | apply Kd.R_alloc | apply Kd.R_drewN | apply Kd.R_drew)); exact (Kd.R_mono (Kd.R_far (p := ⟨gb513, 1, none⟩) (Kd.R_far (p := ⟨gb513, 0, none⟩) (Kd.R_types HO496.out BK513.out (by decide)) (fun _ hk => hk.2) (.slice Ao36 t506.length co36)) (fun _ hk => hk.2) (.slice Ao41 t509.length co41)) (fun _ h_ => h_.1)))); (case side8 => exact (Kd.R_reads' HO496.out).2.1); rintro e w59 ⟨rfl, hb⟩; refine ⟨_, rfl, ?_⟩; have n0 := Az (Kd.R_below (by (with_reducible repeat (first | apply Kd.R_alloc | apply Kd.R_drewN | apply Kd.R_drew)); exact (Kd.R_mono (Kd.R_far (p := ⟨gb513, 1, none⟩) (Kd.R_far (p := ⟨gb513, 0, none⟩) (Kd.R_types HO487.out BK513.out (by decide)) (fun _ hk => hk.2) (.slice Ao36 t506.length co36)) (fun _ hk => hk.2) (.slice Ao41 t509.length co41)) (fun _ h_ => h_.1))) hb); have n1 := Az (Kd.R_below (by (with_reducible repeat (first | apply Kd.R_alloc | apply Kd.R_drewN | apply Kd.R_drew)); exact (Kd.R_mono (Kd.R_far (p := ⟨gb513, 1, none⟩) (Kd.R_far (p := ⟨gb513, 0, none⟩) (Kd.R_types HO490.out BK513.out (by decide)) (fun _ hk => hk.2) (.slice Ao36 t506.length co36)) (fun _ hk => hk.2) (.slice Ao41 t509.length co41)) (fun _ h_ => h_.1))) hb); have n2 := Az (Kd.R_below (by (with_reducible repeat (first | apply Kd.R_alloc | apply Kd.R_drewN | apply Kd.R_drew)); exact (Kd.R_mono (Kd.R_far (p := ⟨gb513, 1, none⟩) (Kd.R_far (p := ⟨gb513, 0, none⟩) (Kd.R_types HO493.out BK513.out (by decide)) (fun _ hk => hk.2) (.slice Ao36 t506.length co36)) (fun _ hk => hk.2) (.slice Ao41 t509.length co41)) (fun _ h_ => h_.1))) hb); have n3 := Az (Kd.R_below (by (with_reducible repeat (first | apply Kd.R_alloc | apply Kd.R_drewN | apply Kd.R_drew)); exact (Kd.R_mono (Kd.R_far (p := ⟨gb513, 1, none⟩) (Kd.R_far (p := ⟨gb513, 0, none⟩) (Kd.R_types HO496.out BK513.out (by decide)) (fun _ hk => hk.2) (.slice Ao36 t506.length co36)) (fun _ hk => hk.2) (.slice Ao41 t509.length co41)) (fun _ h_ => h_.1))) hb); have n4 := Az (Kd.R_below (by (with_reducible repeat (first | apply Kd.R_alloc | apply Kd.R_drewN | apply Kd.R_drew)); exact (Kd.R_mono (Kd.R_far (p := ⟨gb513, 1, none⟩) (Kd.R_far (p := ⟨gb513, 0, none⟩) (Kd.R_types HO501.out BK513.out (by decide)) (fun _ hk => hk.2) (.slice Ao36 t506.length co36)) (fun _ hk => hk.2) (.slice Ao41 t509.length co41)) (fun _ h_ => h_.1))) hb); have n5 := Az (Kd.R_below (by (with_reducible repeat (first | apply Kd.R_alloc | apply Kd.R_drewN | apply Kd.R_drew)); exact (Kd.R_mono (Kd.R_far (p := ⟨gb513, 1, none⟩) (Kd.R_far (p := ⟨gb513, 0, none⟩) (Kd.R_types HO504.out BK513.out (by decide)) (fun _ hk => hk.2) (.slice Ao36 t506.length co36)) (fun _ hk => hk.2) (.slice Ao41 t509.length co41)) (fun _ h_ => h_.1))) hb); have n6 := Az (Kd.R_below (by (with_reducible repeat (first | apply Kd.R_alloc | apply Kd.R_drewN | apply Kd.R_drew)); exact (Kd.R_mono (Kd.R_far (p := ⟨gb513, 1, none⟩) (Kd.R_far (p := ⟨gb513, 0, none⟩) (Kd.R_types HO508.out BK513.out (by decide)) (fun _ hk => hk.2) (.slice Ao36 t506.length co36)) (fun _ hk => hk.2) (.slice Ao41 t509.length co41)) (fun _ h_ => h_.1))) hb); have n7 := Az (Kd.R_below (by (with_reducible repeat (first | apply Kd.R_alloc | apply Kd.R_drewN | apply Kd.R_drew)); exact (Kd.R_mono (Kd.R_far (p := ⟨gb513, 1, none⟩) (Kd.R_far (p := ⟨gb513, 0, none⟩) (Kd.R_types HO511.out BK513.out (by decide)) (fun _ hk => hk.2) (.slice Ao36 t506.length co36)) (fun _ hk => hk.2) (.slice Ao41 t509.length co41)) (fun _ h_ => h_.1))) hb); have n8 := Az (blk_below (g := gb483) (o := .cells #[.slice A0_0 l0_0.length c0_0, .slice A0_1 l0_1.length c0_1] 36 (0, 0)) (by (with_reducible repeat (first | refine blk_drewN ?_ _ | refine blk_drew ?_ | refine blk_alloc ?_ _)); refine blk_far ?_ NB483_513.out _; (with_reducible repeat (first | refine blk_drewN ?_ _ | refine blk_drew ?_ | refine blk_alloc ?_ _)); refine blk_far ?_ NB483_513.out _; (with_reducible repeat (first | refine blk_drewN ?_ _ | refine blk_drew ?_ | refine blk_alloc ?_ _)); exact BK483.out) hb); have n9 := Az (blk_below (g := gb498) (o := .cells #[.slice Ao22 t491.length co22, .slice Ao25 t494.length co25] 25 (0, 0)) (by (with_reducible repeat (first | refine blk_drewN ?_ _ | refine blk_drew ?_ | refine blk_alloc ?_ _)); refine blk_far ?_ NB498_513.out _; (with_reducible repeat (first | refine blk_drewN ?_ _ | refine blk_drew ?_ | refine blk_alloc ?_ _)); refine blk_far ?_ NB498_513.out _; (with_reducible repeat (first | refine blk_drewN ?_ _ | refine blk_drew ?_ | refine blk_alloc ?_ _)); exact BK498.out) hb); have n10 := Az (blk_below (g := gb505) (o := .cells #[.slice Ao29 t499.length co29, .slice Ao33 t502.length co33] 25 (0, 0)) (by (with_reducible repeat (first | refine blk_drewN ?_ _ | refine blk_drew ?_ | refine blk_alloc ?_ _)); refine blk_far ?_ NB505_513.out _; (with_reducible repeat (first | refine blk_drewN ?_ _ | refine blk_drew ?_ | refine blk_alloc ?_ _)); refine blk_far ?_ NB505_513.out _; (with_reducible repeat (first | refine blk_drewN ?_ _ | refine blk_drew ?_ | refine blk_alloc ?_ _)); exact BK505.out) hb); have n11 := Az (blk_below (g := gb513) (o := .cells #[.slice Ao36 t506.length co36, .slice Ao41 t509.length co41] 25 (0, 0)) (by (with_reducible repeat (first | refine blk_drewN ?_ _ | refine blk_drew ?_ | refine blk_alloc ?_ _)); refine blk_put (cs := #[.slice Ao36 t506.length co36, .slice none 0 0]) ?_ 1 _ rfl; (with_reducible repeat (first | refine blk_drewN ?_ _ | refine blk_drew ?_ | refine blk_alloc ?_ _)); refine blk_put (cs := #[.slice none 0 0, .slice none 0 0]) ?_ 0 _ rfl; (with_reducible repeat (first | refine blk_drewN ?_ _ | refine blk_drew ?_ | refine blk_alloc ?_ _)); exact BK513.out) hb); have n12 := Az (below_step (bU4 HB.out GE483.out GE498.out GE505.out GE513.out) hb); clear HO487 HO490 HO493 HO496 HO501 HO504 HO508 HO511 BK483 BK498 BK505 BK513 HB; have HO487 := n0; have HO490 := n1; have HO493 := n2; have HO496 := n3; have HO501 := n4; have HO504 := n5; have HO508 := n6; have HO511 := n7; have BK483 := n8; have BK498 := n9; have BK505 := n10; have BK513 := n11; have HB := n12; clear n0 n1 n2 n3 n4 n5 n6 n7 n8 n9 n10 n11 n12; (try clear hb); (try clear hb2); (try clear hk); (try clear hi)))
    go_meet
    case rel => exact ⟨_, (true), rS, H', ⟨by first | omega | exact Nat.le_refl _⟩, ⟨by (with_reducible repeat (first | apply Kd.R_alloc | apply Kd.R_drewN | apply Kd.R_drew)); exact Kd.R_mono HO493.out (fun _ hk => ⟨hk.1.1.1.1.1.1, ⟨hk.1.1.1.2, ⟨hk.1.1.2, ⟨hk.1.2, hk.2⟩⟩⟩⟩)⟩, ⟨by (with_reducible repeat (first | apply Kd.R_alloc | apply Kd.R_drewN | apply Kd.R_drew)); exact Kd.R_mono HO496.out (fun _ hk => ⟨hk.1.1.1.1.1.1, ⟨hk.1.1.1.2, ⟨hk.1.1.2, ⟨hk.1.2, hk.2⟩⟩⟩⟩)⟩, ⟨by (with_reducible repeat (first | apply Kd.R_alloc | apply Kd.R_drewN | apply Kd.R_drew)); exact Kd.R_mono HO501.out (fun _ hk => ⟨hk.1.1.1.2, ⟨hk.1.1.2, ⟨hk.1.1.1.1.1.1, ⟨hk.1.2, hk.2⟩⟩⟩⟩)⟩, ⟨by (with_reducible repeat (first | apply Kd.R_alloc | apply Kd.R_drewN | apply Kd.R_drew)); exact Kd.R_mono HO504.out (fun _ hk => ⟨hk.1.1.1.2, ⟨hk.1.1.2, ⟨hk.1.1.1.1.1.1, ⟨hk.1.2, hk.2⟩⟩⟩⟩)⟩, ⟨by (with_reducible repeat (first | apply Kd.R_alloc | apply Kd.R_drewN | apply Kd.R_drew)); exact Kd.R_mono HO508.out (fun _ hk => ⟨hk.1.1.1.2, ⟨hk.1.1.2, ⟨hk.1.2, ⟨hk.2, hk.1.1.1.1.1.1⟩⟩⟩⟩)⟩, ⟨by (with_reducible repeat (first | apply Kd.R_alloc | apply Kd.R_drewN | apply Kd.R_drew)); exact Kd.R_mono HO511.out (fun _ hk => ⟨hk.1.1.1.2, ⟨hk.1.1.2, ⟨hk.1.2, ⟨hk.2, hk.1.1.1.1.1.1⟩⟩⟩⟩)⟩, ⟨kU BK483.out⟩, ⟨kU BK498.out⟩, ⟨kU BK505.out⟩, ⟨kU BK513.out⟩, ⟨bU4 HB.out GE483.out GE498.out GE505.out GE513.out⟩⟩
  case rest =>
   clear HC12; (try clear c1); (try clear c2); (try clear p2); (try clear c3); (try clear c4); (try clear c4b0); (try clear c5); (try clear c13); (try clear c14); (try clear c20); (try clear c21); (try clear c22); (try clear c23); (try clear c30); (try clear c31); (try clear c37); (try clear c38); (try clear c39); (try clear c43); (try clear c44); (try clear c45); (try clear c46); (try clear c48); (try clear c49); (try clear c52); (try clear c53); (try clear c54); (try clear c56); (try clear c57); (try clear hcz14_0); (try clear hcz14_1); (try clear hcz16_0); (try clear hcz16_1); (try clear hcz24_0); (try clear hcz24_1); (try clear hcz26_0); (try clear hcz26_1); (try clear hcz32_0); (try clear hcz32_1); (try clear hcz40_0); (try clear hcz40_1); (try clear hcz47_0); (try clear hcz47_1); (try clear hcz50_0); (try clear hcz50_1); (try clear hcz55_0); (try clear hcz55_1); (try clear hcz58_0); (try clear hcz58_1); (try clear hcz6_0); (try clear hcz6_1); (try clear hfz14_0); (try clear hfz14_1); (try clear hfz16_0); (try clear hfz16_1); (try clear hfz24_0); (try clear hfz24_1); (try clear hfz26_0); (try clear hfz26_1); (try clear hfz32_0); (try clear hfz32_1); (try clear hfz40_0); (try clear hfz40_1); (try clear hfz47_0); (try clear hfz47_1); (try clear hfz50_0); (try clear hfz50_1); (try clear hfz55_0); (try clear hfz55_1); (try clear hfz58_0); (try clear hfz58_1); (try clear hfz6_0); (try clear hfz6_1); obtain ⟨kq, x44_11, rfl, HA, HJ11, HO_Z2, HO_Z3, HO_Z4, HO_Z5, HO_Z6, HO_Z7, BK483, BK498, BK505, BK513, HB⟩ := hcut
   cases kq with
   | zero => exact absurd HA.out (by simp [laws_FnExactEdgeContract.j0])
   | succ kj11 =>
    have H := HA.out; clear HA; simp only [laws_FnExactEdgeContract.j0] at H
    by_cases c60 : x44_11 = true
    ·
     subst c60
     have H1 : (some false) = some r := by rw [if_pos rfl] at H; exact H
     clear H; have H := H1; clear H1; obtain rfl := Option.some.inj H
     go_wp2
     go_ret
     exact ⟨rE, bU4 HB.out GE483.out GE498.out GE505.out GE513.out⟩
    ·
     replace c60 := Bool.eq_false_iff.mpr c60; subst c60
     have H1 : ((laws_toMap.f kj11 l0_0 l0_1).bind fun bt515 => ((laws_eqMap.f kj11 t499 t502 bt515.1 bt515.2).bind fun t521 => (if t521 = true then ((laws_markMap.f kj11 t499 t502 1).bind fun bt522 => (if bt522.1 < 0 then (laws_FnExactEdgeContract.j1 kj11 a1 t497 true l0_0 l0_1 t491 t494 t506 t509) else ((laws_eqMap.f kj11 t506 t509 t491 t494).bind fun t525 => (if t525 = true then (laws_FnExactEdgeContract.j1 kj11 a1 t497 (t512 != t497) l0_0 l0_1 t491 t494 t506 t509) else (laws_FnExactEdgeContract.j1 kj11 a1 t497 true l0_0 l0_1 t491 t494 t506 t509))))) else (some false)))) = some r := by rw [if_neg (show ¬ (false = true) by decide)] at H; exact H
     clear H; have H := H1; clear H1; replace H := Option.bind_eq_some_iff.mp H; obtain ⟨⟨t515, t518⟩, A610, H⟩ := H; replace H : ((laws_eqMap.f kj11 t499 t502 t515 t518).bind fun t521 => (if t521 = true then ((laws_markMap.f kj11 t499 t502 1).bind fun bt522 => (if bt522.1 < 0 then (laws_FnExactEdgeContract.j1 kj11 a1 t497 true l0_0 l0_1 t491 t494 t506 t509) else ((laws_eqMap.f kj11 t506 t509 t491 t494).bind fun t525 => (if t525 = true then (laws_FnExactEdgeContract.j1 kj11 a1 t497 (t512 != t497) l0_0 l0_1 t491 t494 t506 t509) else (laws_FnExactEdgeContract.j1 kj11 a1 t497 true l0_0 l0_1 t491 t494 t506 t509))))) else (some false))) = some r := H; have A61 := Az A610; clear A610; replace H := Option.bind_eq_some_iff.mp H; obtain ⟨t521, A620, H⟩ := H; replace H : (if t521 = true then ((laws_markMap.f kj11 t499 t502 1).bind fun bt522 => (if bt522.1 < 0 then (laws_FnExactEdgeContract.j1 kj11 a1 t497 true l0_0 l0_1 t491 t494 t506 t509) else ((laws_eqMap.f kj11 t506 t509 t491 t494).bind fun t525 => (if t525 = true then (laws_FnExactEdgeContract.j1 kj11 a1 t497 (t512 != t497) l0_0 l0_1 t491 t494 t506 t509) else (laws_FnExactEdgeContract.j1 kj11 a1 t497 true l0_0 l0_1 t491 t494 t506 t509))))) else (some false)) = some r := H; have A62 := Az A620; clear A620
     by_cases c63 : t521 = true
     ·
      subst c63
      have H1 : ((laws_markMap.f kj11 t499 t502 1).bind fun bt522 => (if bt522.1 < 0 then (laws_FnExactEdgeContract.j1 kj11 a1 t497 true l0_0 l0_1 t491 t494 t506 t509) else ((laws_eqMap.f kj11 t506 t509 t491 t494).bind fun t525 => (if t525 = true then (laws_FnExactEdgeContract.j1 kj11 a1 t497 (t512 != t497) l0_0 l0_1 t491 t494 t506 t509) else (laws_FnExactEdgeContract.j1 kj11 a1 t497 true l0_0 l0_1 t491 t494 t506 t509))))) = some r := by rw [if_pos rfl] at H; exact H
      clear H; have H := H1; clear H1; replace H := Option.bind_eq_some_iff.mp H; obtain ⟨⟨t522, t523, t524⟩, A640, H⟩ := H; replace H : (if t522 < 0 then (laws_FnExactEdgeContract.j1 kj11 a1 t497 true l0_0 l0_1 t491 t494 t506 t509) else ((laws_eqMap.f kj11 t506 t509 t491 t494).bind fun t525 => (if t525 = true then (laws_FnExactEdgeContract.j1 kj11 a1 t497 (t512 != t497) l0_0 l0_1 t491 t494 t506 t509) else (laws_FnExactEdgeContract.j1 kj11 a1 t497 true l0_0 l0_1 t491 t494 t506 t509)))) = some r := H; have A64 := Az A640; clear A640; have HC65 := Az H; clear H
      try go_wp2
      have n0 := Az (Kd.R_drew HO_Z2.out); have n1 := Az (Kd.R_drew HO_Z3.out); have n2 := Az (Kd.R_drew HO_Z4.out); have n3 := Az (Kd.R_drew HO_Z5.out); have n4 := Az (Kd.R_drew HO_Z6.out); have n5 := Az (Kd.R_drew HO_Z7.out); have n6 := Az (blk_drew BK483.out); have n7 := Az (blk_drew BK498.out); have n8 := Az (blk_drew BK505.out); have n9 := Az (blk_drew BK513.out); have n10 := Az (below_drew1 HB.out); clear HO_Z2 HO_Z3 HO_Z4 HO_Z5 HO_Z6 HO_Z7 BK483 BK498 BK505 BK513 HB; have HO_Z2 := n0; have HO_Z3 := n1; have HO_Z4 := n2; have HO_Z5 := n3; have HO_Z6 := n4; have HO_Z7 := n5; have BK483 := n6; have BK498 := n7; have BK505 := n8; have BK513 := n9; have HB := n10; clear n0 n1 n2 n3 n4 n5 n6 n7 n8 n9 n10
      refine start_ (n := 5) (S := fun w' => w'.cell? ⟨gb505, 0, none⟩ = some (.slice Ao29 t499.length co29) ∧ w'.cell? ⟨gb505, 1, none⟩ = some (.slice Ao33 t502.length co33) ∧ w'.cell? ⟨gb483, 0, none⟩ = some (.slice A0_0 l0_0.length c0_0) ∧ w'.cell? ⟨gb483, 1, none⟩ = some (.slice A0_1 l0_1.length c0_1)) (ds := []) (laws_FnExactEdgeContract_up [(0, some 45), (1, some 46), (2, some 47), (3, some 48), (4, some 49)] 5) (by kernel_rfl) rfl rfl ⟨(blk_cell BK505.out 0).trans rfl, (blk_cell BK505.out 1).trans rfl, (blk_cell BK483.out 0).trans rfl, (blk_cell BK483.out 1).trans rfl⟩ (fun hHeld => ?_)
      generalize wc.drew = w66 at HO_Z2 HO_Z3 HO_Z4 HO_Z5 HO_Z6 HO_Z7 BK483 BK498 BK505 BK513 HB hHeld ⊢
      refine take_ (i := 0) (N := some 45) (v := ?_) (a' := ?_) (laws_FnExactEdgeContract_up [(1, some 46), (2, some 47), (3, some 48), (4, some 49)] 5) rfl rfl (by kernel_rfl) (fun _ _ _ h => h) (Or.inl ⟨by rfl, ?_⟩) hHeld ?_ ?_
      rotate_left
      ·
       rintro w' ⟨s0, s1, s2, s3⟩
       go_simp
       with_reducible rfl
      rotate_left
      ·
       simp only [Act.put, List.setIfInBounds_toArray, List.set_cons_zero, List.set_cons_succ, i64_w, i32_w]
       rfl
      refine take_ (i := 1) (N := some 46) (v := ?_) (a' := ?_) (laws_FnExactEdgeContract_up [(2, some 47), (3, some 48), (4, some 49)] 5) rfl rfl (by kernel_rfl) (fun _ _ _ h => h) (Or.inl ⟨by rfl, ?_⟩) hHeld ?_ ?_
      rotate_left
      ·
       rintro w' ⟨s0, s1, s2, s3⟩
       go_simp
       with_reducible rfl
      rotate_left
      ·
       simp only [Act.put, List.setIfInBounds_toArray, List.set_cons_zero, List.set_cons_succ, i64_w, i32_w]
       rfl
      refine laws_FnExactEdgeContract_uO rfl rfl (by kernel_rfl) (by decide) (fun K hK => ?_)
      refine goes_ Try.func21 (by kernel_rfl) rfl #[.agg #[.slice A0_0 l0_0.length c0_0, .slice A0_1 l0_1.length c0_1]] (by rfl) rfl rfl (by (try simp only [List.map_toArray, List.map_cons, List.map_nil]); first | done | rfl | (simp only [List.length_drop, List.length_take]; rfl)) ?_
      with_reducible refine (laws_toMap.calls kj11 _ _ l0_0 _ _ l0_1 t515 t518 _ ?side1 ?side2 ?side3 ?side4 A61.out).mono ?_
      (case side1 => exact cU (Kd.C_below HR0_0.out HB.out))
      (case side2 => exact HC0_0.out)
      (case side3 => exact cU (Kd.C_below HR0_1.out HB.out))
      (case side4 => exact HC0_1.out)
      rintro e w67 ⟨v516, v519, rfl, ho0, ho1, hb⟩
      refine ⟨_, rfl, ?_⟩
      have n0 := Az (Kd.R_mono (Kd.R_told (Kd.R_told (Kd.R_old (rU HO_Z2.out) hb) (Kd.R_base ho0)) (Kd.R_base ho1)) (fun _ h_ => h_.1)); have n1 := Az (Kd.R_mono (Kd.R_told (Kd.R_told (Kd.R_old (rU HO_Z3.out) hb) (Kd.R_base ho0)) (Kd.R_base ho1)) (fun _ h_ => h_.1)); have n2 := Az (Kd.R_mono (Kd.R_told (Kd.R_told (Kd.R_old (rU HO_Z4.out) hb) (Kd.R_base ho0)) (Kd.R_base ho1)) (fun _ h_ => h_.1)); have n3 := Az (Kd.R_mono (Kd.R_told (Kd.R_told (Kd.R_old (rU HO_Z5.out) hb) (Kd.R_base ho0)) (Kd.R_base ho1)) (fun _ h_ => h_.1)); have n4 := Az (Kd.R_mono (Kd.R_told (Kd.R_told (Kd.R_old (rU HO_Z6.out) hb) (Kd.R_base ho0)) (Kd.R_base ho1)) (fun _ h_ => h_.1)); have n5 := Az (Kd.R_mono (Kd.R_told (Kd.R_told (Kd.R_old (rU HO_Z7.out) hb) (Kd.R_base ho0)) (Kd.R_base ho1)) (fun _ h_ => h_.1)); have n6 := Az (Kd.R_lower (Kd.R_new' (Kd.R_new' (Kd.R_new' (Kd.R_new' (Kd.R_new' (Kd.R_new' ho0 (Kd.R_lt (rU HO_Z2.out))) (Kd.R_lt (rU HO_Z3.out))) (Kd.R_lt (rU HO_Z4.out))) (Kd.R_lt (rU HO_Z5.out))) (Kd.R_lt (rU HO_Z6.out))) (Kd.R_lt (rU HO_Z7.out))) (below_size (bU4 HB.out GE483.out GE498.out GE505.out GE513.out))); have n7 := Az (Kd.R_lower (Kd.R_new' (Kd.R_new' (Kd.R_new' (Kd.R_new' (Kd.R_new' (Kd.R_new' ho1 (Kd.R_lt (rU HO_Z2.out))) (Kd.R_lt (rU HO_Z3.out))) (Kd.R_lt (rU HO_Z4.out))) (Kd.R_lt (rU HO_Z5.out))) (Kd.R_lt (rU HO_Z6.out))) (Kd.R_lt (rU HO_Z7.out))) (below_size (bU4 HB.out GE483.out GE498.out GE505.out GE513.out))); have n8 := Az (blk_below (g := gb483) (o := .cells #[.slice A0_0 l0_0.length c0_0, .slice A0_1 l0_1.length c0_1] 36 (0, 0)) (kU BK483.out) hb); have n9 := Az (blk_below (g := gb498) (o := .cells #[.slice Ao22 t491.length co22, .slice Ao25 t494.length co25] 25 (0, 0)) (kU BK498.out) hb); have n10 := Az (blk_below (g := gb505) (o := .cells #[.slice Ao29 t499.length co29, .slice Ao33 t502.length co33] 25 (0, 0)) (kU BK505.out) hb); have n11 := Az (blk_below (g := gb513) (o := .cells #[.slice Ao36 t506.length co36, .slice Ao41 t509.length co41] 25 (0, 0)) (kU BK513.out) hb); have n12 := Az (below_step (bU4 HB.out GE483.out GE498.out GE505.out GE513.out) hb); clear HO_Z2 HO_Z3 HO_Z4 HO_Z5 HO_Z6 HO_Z7 BK483 BK498 BK505 BK513 HB; have HO_Z2 := n0; have HO_Z3 := n1; have HO_Z4 := n2; have HO_Z5 := n3; have HO_Z6 := n4; have HO_Z7 := n5; have HO517 := n6; have HO520 := n7; have BK483 := n8; have BK498 := n9; have BK505 := n10; have BK513 := n11; have HB := n12; clear n0 n1 n2 n3 n4 n5 n6 n7 n8 n9 n10 n11 n12; (try clear hb); (try clear hb2); (try clear hk); (try clear hi); (try clear ho0); (try clear ho1); obtain ⟨Ao68, co68, eo68⟩ := Kd.R_slice HO517.out; (first | subst eo68 | (injection eo68 with f1_ f2_ f3_; have f4_ := f1_.symm; have f5_ := f3_.symm; clear f1_ f2_ f3_; subst f4_; subst f5_)); obtain ⟨Ao69, co69, eo69⟩ := Kd.R_slice HO520.out; (first | subst eo69 | (injection eo69 with f1_ f2_ f3_; have f4_ := f1_.symm; have f5_ := f3_.symm; clear f1_ f2_ f3_; subst f4_; subst f5_))
      refine hK.out _ _ ⟨(blk_cell BK505.out 0).trans rfl, (blk_cell BK505.out 1).trans rfl, (blk_cell BK483.out 0).trans rfl, (blk_cell BK483.out 1).trans rfl⟩ (fun hHeld => ?_)
      clear hK K
      refine norm_ (a' := ?_) ?_ ?_
      rotate_left
      ·
       show Act.put _ (some 47) _ = _
       simp only [Act.put, List.setIfInBounds_toArray, List.set_cons_zero, List.set_cons_succ, i64_w, i32_w]
       rfl
      refine laws_FnExactEdgeContract_uO rfl rfl (by kernel_rfl) (by decide) (fun K hK => ?_)
      refine goes_ Try.func22 (by kernel_rfl) rfl #[.agg #[.slice Ao29 t499.length co29, .slice Ao33 t502.length co33], .agg #[.slice Ao68 t515.length co68, .slice Ao69 t518.length co69]] (by rfl) rfl rfl (by (try simp only [List.map_toArray, List.map_cons, List.map_nil]); first | done | rfl | (simp only [List.length_drop, List.length_take]; rfl)) ?_
      with_reducible refine (laws_eqMap.calls kj11 _ _ t499 _ _ t502 _ _ t515 _ _ t518 true _ ?side1 ?side2 ?side3 ?side4 ?side5 ?side6 ?side7 ?side8 A62.out).mono ?_
      (case side1 => exact cU ((Kd.R_reads' HO_Z4.out).2.2))
      (case side2 => exact (Kd.R_reads' HO_Z4.out).2.1)
      (case side3 => exact cU ((Kd.R_reads' HO_Z5.out).2.2))
      (case side4 => exact (Kd.R_reads' HO_Z5.out).2.1)
      (case side5 => exact cU ((Kd.R_reads' HO517.out).2.2))
      (case side6 => exact (Kd.R_reads' HO517.out).2.1)
      (case side7 => exact cU ((Kd.R_reads' HO520.out).2.2))
      (case side8 => exact (Kd.R_reads' HO520.out).2.1)
      rintro e w70 ⟨rfl, hb⟩
      refine ⟨_, rfl, ?_⟩
      have n0 := Az (Kd.R_below (rU HO_Z2.out) hb); have n1 := Az (Kd.R_below (rU HO_Z3.out) hb); have n2 := Az (Kd.R_below (rU HO_Z4.out) hb); have n3 := Az (Kd.R_below (rU HO_Z5.out) hb); have n4 := Az (Kd.R_below (rU HO_Z6.out) hb); have n5 := Az (Kd.R_below (rU HO_Z7.out) hb); have n6 := Az (Kd.R_below (rU HO517.out) hb); have n7 := Az (Kd.R_below (rU HO520.out) hb); have n8 := Az (blk_below (g := gb483) (o := .cells #[.slice A0_0 l0_0.length c0_0, .slice A0_1 l0_1.length c0_1] 36 (0, 0)) (kU BK483.out) hb); have n9 := Az (blk_below (g := gb498) (o := .cells #[.slice Ao22 t491.length co22, .slice Ao25 t494.length co25] 25 (0, 0)) (kU BK498.out) hb); have n10 := Az (blk_below (g := gb505) (o := .cells #[.slice Ao29 t499.length co29, .slice Ao33 t502.length co33] 25 (0, 0)) (kU BK505.out) hb); have n11 := Az (blk_below (g := gb513) (o := .cells #[.slice Ao36 t506.length co36, .slice Ao41 t509.length co41] 25 (0, 0)) (kU BK513.out) hb); have n12 := Az (below_step (bU4 HB.out GE483.out GE498.out GE505.out GE513.out) hb); clear HO_Z2 HO_Z3 HO_Z4 HO_Z5 HO_Z6 HO_Z7 HO517 HO520 BK483 BK498 BK505 BK513 HB; have HO_Z2 := n0; have HO_Z3 := n1; have HO_Z4 := n2; have HO_Z5 := n3; have HO_Z6 := n4; have HO_Z7 := n5; have HO517 := n6; have HO520 := n7; have BK483 := n8; have BK498 := n9; have BK505 := n10; have BK513 := n11; have HB := n12; clear n0 n1 n2 n3 n4 n5 n6 n7 n8 n9 n10 n11 n12; (try clear hb); (try clear hb2); (try clear hk); (try clear hi)
      refine hK.out _ _ ⟨(blk_cell BK505.out 0).trans rfl, (blk_cell BK505.out 1).trans rfl, (blk_cell BK483.out 0).trans rfl, (blk_cell BK483.out 1).trans rfl⟩ (fun hHeld => ?_)
      clear hK K
      refine norm_ (a' := ?_) ?_ ?_
      rotate_left
      ·
       show Act.put _ (some 48) _ = _
       simp only [Act.put, List.setIfInBounds_toArray, List.set_cons_zero, List.set_cons_succ, i64_w, i32_w]
       rfl
      refine pure_ (i := 4) (N := some 49) (v := ?_) (a' := ?_) (laws_FnExactEdgeContract_up [] 5) rfl rfl (by kernel_rfl) (fun _ _ _ h => h) (Or.inl ⟨by rfl, ?_⟩) ?_ ?_
      rotate_left
      ·
       intro w'
       go_simp
       with_reducible rfl
      rotate_left
      ·
       simp only [Act.put, List.setIfInBounds_toArray, List.set_cons_zero, List.set_cons_succ, i64_w, i32_w]
       rfl
      refine done_ (by kernel_rfl) ?_
      have hnb71 := NB505_483.out; have hnc71 := NB483_505.out; have hnb72 := NB505_498.out; have hnc72 := NB498_505.out; have hnb73 := NB505_513.out; have hnc73 := NB513_505.out; have hcz74_0 : w70.cell? ⟨gb505, 0, none⟩ = some (.slice Ao29 t499.length co29) := (blk_cell BK505.out 0).trans rfl; have hcz74_1 : w70.cell? ⟨gb505, 1, none⟩ = some (.slice Ao33 t502.length co33) := (blk_cell BK505.out 1).trans rfl; have hfz74_0 := blk_frozen BK505.out 0; have hfz74_1 := blk_frozen BK505.out 1
      go_upto_region 14 with (first | ((with_reducible refine gate_callee (f := 23) rfl ?_); refine goesL_ (some 52) rfl rfl Try.func23 (by kernel_rfl) rfl #[.agg #[.slice Ao29 t499.length co29, .slice Ao33 t502.length co33], .int .i64 1] rfl (by (try simp only [List.map_toArray, List.map_cons, List.map_nil]); first | done | rfl | (simp only [List.length_drop, List.length_take]; rfl)) ?_; (with_reducible refine (laws_markMap.calls kj11 (fun k_ => some k_ = (.slice Ao29 t499.length co29 : Value).ownBlock) (.slice Ao29 t499.length co29) t499 (fun k_ => some k_ = (.slice Ao33 t502.length co33 : Value).ownBlock) (.slice Ao33 t502.length co33) t502 1 t522 t523 t524 w _ ?side1 ?side2 ?side3 ?side4 ?side5 A64.out).mono ?_); (case side1 => repeat (first | (with_reducible first | exact HB.out | apply below_alloc | apply pw_below_drewN | apply below_drew1 | refine below_set ?_ GE483.out | refine below_set ?_ GE498.out | refine below_set ?_ GE505.out | refine below_set ?_ GE513.out) | exact HB.out)); (case side2 => exact Kd.R_tight rfl HO_Z4.out); (case side3 => exact fun k_ e_ => (HO_Z4.out.1 k_ e_.symm).1.1.2.2.1); (case side4 => exact Kd.R_tight rfl HO_Z5.out); (case side5 => exact fun k_ e_ => (HO_Z5.out.1 k_ e_.symm).1.1.2.2.1); rintro e w75 ⟨rfl, hy0, hy1, hb, hkp⟩; refine ⟨_, rfl, ?_⟩; have n0 := Az (Kd.R_mono (ok' := fun k_ => some k_ ≠ (.slice Ao25 t494.length co25 : Value).ownBlock ∧ some k_ ≠ (.slice Ao29 t499.length co29 : Value).ownBlock ∧ some k_ ≠ (.slice Ao33 t502.length co33 : Value).ownBlock ∧ some k_ ≠ (.slice Ao36 t506.length co36 : Value).ownBlock ∧ some k_ ≠ (.slice Ao41 t509.length co41 : Value).ownBlock ∧ some k_ ≠ (.slice Ao68 t515.length co68 : Value).ownBlock ∧ some k_ ≠ (.slice Ao69 t518.length co69 : Value).ownBlock) (Kd.R_keptB (HO_Z2.out) hkp (fun k_ hk_ hs_ => Or.elim hs_ (fun e_ => (hk_.1.1.2.1) e_) (fun e_ => (hk_.1.1.2.2.1) e_))) (fun k_ hk_ => ⟨hk_.1.1.1.1, hk_.1.1.1.2.1, hk_.1.1.1.2.2.1, hk_.1.1.1.2.2.2.1, hk_.1.1.1.2.2.2.2, hk_.1.1.2, hk_.1.2⟩)); have n1 := Az (Kd.R_mono (ok' := fun k_ => some k_ ≠ (.slice Ao22 t491.length co22 : Value).ownBlock ∧ some k_ ≠ (.slice Ao29 t499.length co29 : Value).ownBlock ∧ some k_ ≠ (.slice Ao33 t502.length co33 : Value).ownBlock ∧ some k_ ≠ (.slice Ao36 t506.length co36 : Value).ownBlock ∧ some k_ ≠ (.slice Ao41 t509.length co41 : Value).ownBlock ∧ some k_ ≠ (.slice Ao68 t515.length co68 : Value).ownBlock ∧ some k_ ≠ (.slice Ao69 t518.length co69 : Value).ownBlock) (Kd.R_keptB (HO_Z3.out) hkp (fun k_ hk_ hs_ => Or.elim hs_ (fun e_ => (hk_.1.1.2.1) e_) (fun e_ => (hk_.1.1.2.2.1) e_))) (fun k_ hk_ => ⟨hk_.1.1.1.1, hk_.1.1.1.2.1, hk_.1.1.1.2.2.1, hk_.1.1.1.2.2.2.1, hk_.1.1.1.2.2.2.2, hk_.1.1.2, hk_.1.2⟩)); have n2 := Az (Kd.R_reok rfl hy0 (fun k_ e_ => HO_Z4.out.1 k_ e_)); have n3 := Az (Kd.R_reok rfl hy1 (fun k_ e_ => HO_Z5.out.1 k_ e_)); have n4 := Az (Kd.R_mono (ok' := fun k_ => some k_ ≠ (.slice Ao22 t491.length co22 : Value).ownBlock ∧ some k_ ≠ (.slice Ao25 t494.length co25 : Value).ownBlock ∧ some k_ ≠ (.slice Ao29 t499.length co29 : Value).ownBlock ∧ some k_ ≠ (.slice Ao33 t502.length co33 : Value).ownBlock ∧ some k_ ≠ (.slice Ao41 t509.length co41 : Value).ownBlock ∧ some k_ ≠ (.slice Ao68 t515.length co68 : Value).ownBlock ∧ some k_ ≠ (.slice Ao69 t518.length co69 : Value).ownBlock) (Kd.R_keptB (HO_Z6.out) hkp (fun k_ hk_ hs_ => Or.elim hs_ (fun e_ => (hk_.1.1.2.2.1) e_) (fun e_ => (hk_.1.1.2.2.2.1) e_))) (fun k_ hk_ => ⟨hk_.1.1.1.1, hk_.1.1.1.2.1, hk_.1.1.1.2.2.1, hk_.1.1.1.2.2.2.1, hk_.1.1.1.2.2.2.2, hk_.1.1.2, hk_.1.2⟩)); have n5 := Az (Kd.R_mono (ok' := fun k_ => some k_ ≠ (.slice Ao22 t491.length co22 : Value).ownBlock ∧ some k_ ≠ (.slice Ao25 t494.length co25 : Value).ownBlock ∧ some k_ ≠ (.slice Ao29 t499.length co29 : Value).ownBlock ∧ some k_ ≠ (.slice Ao33 t502.length co33 : Value).ownBlock ∧ some k_ ≠ (.slice Ao36 t506.length co36 : Value).ownBlock ∧ some k_ ≠ (.slice Ao68 t515.length co68 : Value).ownBlock ∧ some k_ ≠ (.slice Ao69 t518.length co69 : Value).ownBlock) (Kd.R_keptB (HO_Z7.out) hkp (fun k_ hk_ hs_ => Or.elim hs_ (fun e_ => (hk_.1.1.2.2.1) e_) (fun e_ => (hk_.1.1.2.2.2.1) e_))) (fun k_ hk_ => ⟨hk_.1.1.1.1, hk_.1.1.1.2.1, hk_.1.1.1.2.2.1, hk_.1.1.1.2.2.2.1, hk_.1.1.1.2.2.2.2, hk_.1.1.2, hk_.1.2⟩)); have n6 := Az (blk_kept (kU BK483.out) hkp (fun hs_ => Or.elim hs_ (fun e_ => (fun e_ => (Kd.R_ne HO_Z4.out BK483.out (by decide)) e_) e_) (fun e_ => (fun e_ => (Kd.R_ne HO_Z5.out BK483.out (by decide)) e_) e_))); have n7 := Az (blk_kept (kU BK498.out) hkp (fun hs_ => Or.elim hs_ (fun e_ => (fun e_ => (Kd.R_ne HO_Z4.out BK498.out (by decide)) e_) e_) (fun e_ => (fun e_ => (Kd.R_ne HO_Z5.out BK498.out (by decide)) e_) e_))); have n8 := Az (blk_kept (kU BK505.out) hkp (fun hs_ => Or.elim hs_ (fun e_ => (fun e_ => (Kd.R_ne HO_Z4.out BK505.out (by decide)) e_) e_) (fun e_ => (fun e_ => (Kd.R_ne HO_Z5.out BK505.out (by decide)) e_) e_))); have n9 := Az (blk_kept (kU BK513.out) hkp (fun hs_ => Or.elim hs_ (fun e_ => (fun e_ => (Kd.R_ne HO_Z4.out BK513.out (by decide)) e_) e_) (fun e_ => (fun e_ => (Kd.R_ne HO_Z5.out BK513.out (by decide)) e_) e_))); have n10 := Az (Kd.R_mono (ok' := fun k_ => some k_ ≠ (.slice Ao22 t491.length co22 : Value).ownBlock ∧ some k_ ≠ (.slice Ao25 t494.length co25 : Value).ownBlock ∧ some k_ ≠ (.slice Ao29 t499.length co29 : Value).ownBlock ∧ some k_ ≠ (.slice Ao33 t502.length co33 : Value).ownBlock ∧ some k_ ≠ (.slice Ao36 t506.length co36 : Value).ownBlock ∧ some k_ ≠ (.slice Ao41 t509.length co41 : Value).ownBlock ∧ some k_ ≠ (.slice Ao69 t518.length co69 : Value).ownBlock) (Kd.R_keptB (HO517.out) hkp (fun k_ hk_ hs_ => Or.elim hs_ (fun e_ => (hk_.1.1.1.2) e_) (fun e_ => (hk_.1.1.2) e_))) (fun k_ hk_ => ⟨hk_.1.1.1.1.1.1.2, hk_.1.1.1.1.1.2, hk_.1.1.1.1.2, hk_.1.1.1.2, hk_.1.1.2, hk_.1.2, hk_.1.1.1.1.1.1.1⟩)); have n11 := Az (Kd.R_mono (ok' := fun k_ => some k_ ≠ (.slice Ao22 t491.length co22 : Value).ownBlock ∧ some k_ ≠ (.slice Ao25 t494.length co25 : Value).ownBlock ∧ some k_ ≠ (.slice Ao29 t499.length co29 : Value).ownBlock ∧ some k_ ≠ (.slice Ao33 t502.length co33 : Value).ownBlock ∧ some k_ ≠ (.slice Ao36 t506.length co36 : Value).ownBlock ∧ some k_ ≠ (.slice Ao41 t509.length co41 : Value).ownBlock ∧ some k_ ≠ (.slice Ao68 t515.length co68 : Value).ownBlock) (Kd.R_keptB (HO520.out) hkp (fun k_ hk_ hs_ => Or.elim hs_ (fun e_ => (hk_.1.1.1.2) e_) (fun e_ => (hk_.1.1.2) e_))) (fun k_ hk_ => ⟨hk_.1.1.1.1.1.1.2, hk_.1.1.1.1.1.2, hk_.1.1.1.1.2, hk_.1.1.1.2, hk_.1.1.2, hk_.1.2, hk_.1.1.1.1.1.1.1⟩)); have n12 := Az (hb); clear HO_Z2 HO_Z3 HO_Z4 HO_Z5 HO_Z6 HO_Z7 BK483 BK498 BK505 BK513 HO517 HO520 HB; have HO_Z2 := n0; have HO_Z3 := n1; have HO_Z4 := n2; have HO_Z5 := n3; have HO_Z6 := n4; have HO_Z7 := n5; have BK483 := n6; have BK498 := n7; have BK505 := n8; have BK513 := n9; have HO517 := n10; have HO520 := n11; have HB := n12; clear n0 n1 n2 n3 n4 n5 n6 n7 n8 n9 n10 n11 n12; (try clear hb); (try clear hkp); (try clear hy0); (try clear hy1)))
      (try simp only [Act.put, List.setIfInBounds_toArray, List.set_cons_zero, List.set_cons_succ])
      go_cut [65] (fun v65 wc => ∃ (kq : Nat) (x65_64 : Bool), v65 = .bool x65_64 ∧ Aside0 (laws_FnExactEdgeContract.j1 kq a1 t497 x65_64 l0_0 l0_1 t491 t494 t506 t509 = some r) ∧ Aside0 (kq ≤ kj11) ∧ Aside0 (Kd.R (Kd.int .i64) 3 wc w.heap.size (fun k_ => some k_ ≠ ((.slice Ao25 t494.length co25) : Value).ownBlock ∧ some k_ ≠ ((.slice Ao29 t499.length co29) : Value).ownBlock ∧ some k_ ≠ ((.slice Ao33 t502.length co33) : Value).ownBlock ∧ some k_ ≠ ((.slice Ao36 t506.length co36) : Value).ownBlock ∧ some k_ ≠ ((.slice Ao41 t509.length co41) : Value).ownBlock) (.slice Ao22 t491.length co22) t491) ∧ Aside0 (Kd.R (Kd.int .i64) 3 wc w.heap.size (fun k_ => some k_ ≠ ((.slice Ao22 t491.length co22) : Value).ownBlock ∧ some k_ ≠ ((.slice Ao29 t499.length co29) : Value).ownBlock ∧ some k_ ≠ ((.slice Ao33 t502.length co33) : Value).ownBlock ∧ some k_ ≠ ((.slice Ao36 t506.length co36) : Value).ownBlock ∧ some k_ ≠ ((.slice Ao41 t509.length co41) : Value).ownBlock) (.slice Ao25 t494.length co25) t494) ∧ Aside0 (Kd.R (Kd.int .i64) 3 wc w.heap.size (fun k_ => some k_ ≠ ((.slice Ao22 t491.length co22) : Value).ownBlock ∧ some k_ ≠ ((.slice Ao25 t494.length co25) : Value).ownBlock ∧ some k_ ≠ ((.slice Ao33 t502.length co33) : Value).ownBlock ∧ some k_ ≠ ((.slice Ao36 t506.length co36) : Value).ownBlock ∧ some k_ ≠ ((.slice Ao41 t509.length co41) : Value).ownBlock) (.slice Ao29 t499.length co29) t523) ∧ Aside0 (Kd.R (Kd.int .i64) 3 wc w.heap.size (fun k_ => some k_ ≠ ((.slice Ao22 t491.length co22) : Value).ownBlock ∧ some k_ ≠ ((.slice Ao25 t494.length co25) : Value).ownBlock ∧ some k_ ≠ ((.slice Ao29 t499.length co29) : Value).ownBlock ∧ some k_ ≠ ((.slice Ao36 t506.length co36) : Value).ownBlock ∧ some k_ ≠ ((.slice Ao41 t509.length co41) : Value).ownBlock) (.slice Ao33 t502.length co33) t524) ∧ Aside0 (Kd.R (Kd.int .i64) 3 wc w.heap.size (fun k_ => some k_ ≠ ((.slice Ao22 t491.length co22) : Value).ownBlock ∧ some k_ ≠ ((.slice Ao25 t494.length co25) : Value).ownBlock ∧ some k_ ≠ ((.slice Ao29 t499.length co29) : Value).ownBlock ∧ some k_ ≠ ((.slice Ao33 t502.length co33) : Value).ownBlock ∧ some k_ ≠ ((.slice Ao41 t509.length co41) : Value).ownBlock) (.slice Ao36 t506.length co36) t506) ∧ Aside0 (Kd.R (Kd.int .i64) 3 wc w.heap.size (fun k_ => some k_ ≠ ((.slice Ao22 t491.length co22) : Value).ownBlock ∧ some k_ ≠ ((.slice Ao25 t494.length co25) : Value).ownBlock ∧ some k_ ≠ ((.slice Ao29 t499.length co29) : Value).ownBlock ∧ some k_ ≠ ((.slice Ao33 t502.length co33) : Value).ownBlock ∧ some k_ ≠ ((.slice Ao36 t506.length co36) : Value).ownBlock) (.slice Ao41 t509.length co41) t509) ∧ Aside0 (wc.heap[gb483]? = some (.cells #[(.slice A0_0 l0_0.length c0_0), (.slice A0_1 l0_1.length c0_1)] 36 (0, 0))) ∧ Aside0 (wc.heap[gb498]? = some (.cells #[(.slice Ao22 t491.length co22), (.slice Ao25 t494.length co25)] 25 (0, 0))) ∧ Aside0 (wc.heap[gb505]? = some (.cells #[(.slice Ao29 t499.length co29), (.slice Ao33 t502.length co33)] 25 (0, 0))) ∧ Aside0 (wc.heap[gb513]? = some (.cells #[(.slice Ao36 t506.length co36), (.slice Ao41 t509.length co41)] 25 (0, 0))) ∧ Aside0 (Below w.heap.size w wc))
      case first =>
       have H := HC65.out; clear HC65
       by_cases c76 : t522 < 0
       ·
        rw [if_pos c76] at H; have c76b0 := decide_eq_true c76; clear c76; (first | rw [c76b0] | (simp only [i64_w, i32_w]; rw [c76b0]) | skip); have H' := Az H; clear H
        go_wp2
        go_meet
        case rel => exact ⟨_, (true), rS, H', ⟨by have := HJ11.out; first | omega | exact Nat.le_refl _⟩, ⟨by (with_reducible repeat (first | apply Kd.R_alloc | apply Kd.R_drewN | apply Kd.R_drew)); exact Kd.R_mono HO_Z2.out (fun _ hk => ⟨hk.1, ⟨hk.2.1, ⟨hk.2.2.1, ⟨hk.2.2.2.1, hk.2.2.2.2.1⟩⟩⟩⟩)⟩, ⟨by (with_reducible repeat (first | apply Kd.R_alloc | apply Kd.R_drewN | apply Kd.R_drew)); exact Kd.R_mono HO_Z3.out (fun _ hk => ⟨hk.1, ⟨hk.2.1, ⟨hk.2.2.1, ⟨hk.2.2.2.1, hk.2.2.2.2.1⟩⟩⟩⟩)⟩, ⟨by (with_reducible repeat (first | apply Kd.R_alloc | apply Kd.R_drewN | apply Kd.R_drew)); exact Kd.R_mono HO_Z4.out (fun _ hk => ⟨hk.1.1.1, ⟨hk.1.1.2.1, ⟨hk.1.1.2.2.1, ⟨hk.1.1.2.2.2.1, hk.1.1.2.2.2.2⟩⟩⟩⟩)⟩, ⟨by (with_reducible repeat (first | apply Kd.R_alloc | apply Kd.R_drewN | apply Kd.R_drew)); exact Kd.R_mono HO_Z5.out (fun _ hk => ⟨hk.1.1.1, ⟨hk.1.1.2.1, ⟨hk.1.1.2.2.1, ⟨hk.1.1.2.2.2.1, hk.1.1.2.2.2.2⟩⟩⟩⟩)⟩, ⟨by (with_reducible repeat (first | apply Kd.R_alloc | apply Kd.R_drewN | apply Kd.R_drew)); exact Kd.R_mono HO_Z6.out (fun _ hk => ⟨hk.1, ⟨hk.2.1, ⟨hk.2.2.1, ⟨hk.2.2.2.1, hk.2.2.2.2.1⟩⟩⟩⟩)⟩, ⟨by (with_reducible repeat (first | apply Kd.R_alloc | apply Kd.R_drewN | apply Kd.R_drew)); exact Kd.R_mono HO_Z7.out (fun _ hk => ⟨hk.1, ⟨hk.2.1, ⟨hk.2.2.1, ⟨hk.2.2.2.1, hk.2.2.2.2.1⟩⟩⟩⟩)⟩, ⟨kU BK483.out⟩, ⟨kU BK498.out⟩, ⟨kU BK505.out⟩, ⟨kU BK513.out⟩, ⟨bU4 HB.out GE483.out GE498.out GE505.out GE513.out⟩⟩
       ·
        rw [if_neg c76] at H; have c76b0 := decide_eq_false c76; clear c76; (first | rw [c76b0] | (simp only [i64_w, i32_w]; rw [c76b0]) | skip); replace H := Option.bind_eq_some_iff.mp H; obtain ⟨t525, A770, H⟩ := H; replace H : (if t525 = true then (laws_FnExactEdgeContract.j1 kj11 a1 t497 (t512 != t497) l0_0 l0_1 t491 t494 t506 t509) else (laws_FnExactEdgeContract.j1 kj11 a1 t497 true l0_0 l0_1 t491 t494 t506 t509)) = some r := H; have A77 := Az A770; clear A770
        by_cases c78 : t525 = true
        ·
         subst c78
         have H1 : (laws_FnExactEdgeContract.j1 kj11 a1 t497 (t512 != t497) l0_0 l0_1 t491 t494 t506 t509) = some r := by rw [if_pos rfl] at H; exact H
         clear H; have H := H1; clear H1; have H' := Az H; clear H; have hnb79 := NB513_483.out; have hnc79 := NB483_513.out; have hnb80 := NB513_498.out; have hnc80 := NB498_513.out; have hnb81 := NB513_505.out; have hnc81 := NB505_513.out; have hcz82_0 : w75.cell? ⟨gb513, 0, none⟩ = some (.slice Ao36 t506.length co36) := (blk_cell BK513.out 0).trans rfl; have hcz82_1 : w75.cell? ⟨gb513, 1, none⟩ = some (.slice Ao41 t509.length co41) := (blk_cell BK513.out 1).trans rfl; have hfz82_0 := blk_frozen BK513.out 0; have hfz82_1 := blk_frozen BK513.out 1; have hnb83 := NB498_483.out; have hnc83 := NB483_498.out; have hnb84 := NB498_505.out; have hnc84 := NB505_498.out; have hcz85_0 : w75.cell? ⟨gb498, 0, none⟩ = some (.slice Ao22 t491.length co22) := (blk_cell BK498.out 0).trans rfl; have hcz85_1 : w75.cell? ⟨gb498, 1, none⟩ = some (.slice Ao25 t494.length co25) := (blk_cell BK498.out 1).trans rfl; have hfz85_0 := blk_frozen BK498.out 0; have hfz85_1 := blk_frozen BK498.out 1
         go_wp2_with (first | (go_at_call 22; (with_reducible refine (laws_eqMap.calls kj11 _ _ t506 _ _ t509 _ _ t491 _ _ t494 true _ ?side1 ?side2 ?side3 ?side4 ?side5 ?side6 ?side7 ?side8 A77.out).mono ?_); (case side1 => exact cU ((Kd.R_reads' HO_Z6.out).2.2)); (case side2 => exact (Kd.R_reads' HO_Z6.out).2.1); (case side3 => exact cU ((Kd.R_reads' HO_Z7.out).2.2)); (case side4 => exact (Kd.R_reads' HO_Z7.out).2.1); (case side5 => exact cU ((Kd.R_reads' HO_Z2.out).2.2)); (case side6 => exact (Kd.R_reads' HO_Z2.out).2.1); (case side7 => exact cU ((Kd.R_reads' HO_Z3.out).2.2)); (case side8 => exact (Kd.R_reads' HO_Z3.out).2.1); rintro e w86 ⟨rfl, hb⟩; have n0 := Az (Kd.R_below (rU HO_Z2.out) hb); have n1 := Az (Kd.R_below (rU HO_Z3.out) hb); have n2 := Az (Kd.R_below (rU HO_Z4.out) hb); have n3 := Az (Kd.R_below (rU HO_Z5.out) hb); have n4 := Az (Kd.R_below (rU HO_Z6.out) hb); have n5 := Az (Kd.R_below (rU HO_Z7.out) hb); have n6 := Az (Kd.R_below (rU HO517.out) hb); have n7 := Az (Kd.R_below (rU HO520.out) hb); have n8 := Az (blk_below (g := gb483) (o := .cells #[.slice A0_0 l0_0.length c0_0, .slice A0_1 l0_1.length c0_1] 36 (0, 0)) (kU BK483.out) hb); have n9 := Az (blk_below (g := gb498) (o := .cells #[.slice Ao22 t491.length co22, .slice Ao25 t494.length co25] 25 (0, 0)) (kU BK498.out) hb); have n10 := Az (blk_below (g := gb505) (o := .cells #[.slice Ao29 t499.length co29, .slice Ao33 t502.length co33] 25 (0, 0)) (kU BK505.out) hb); have n11 := Az (blk_below (g := gb513) (o := .cells #[.slice Ao36 t506.length co36, .slice Ao41 t509.length co41] 25 (0, 0)) (kU BK513.out) hb); have n12 := Az (below_step (bU4 HB.out GE483.out GE498.out GE505.out GE513.out) hb); clear HO_Z2 HO_Z3 HO_Z4 HO_Z5 HO_Z6 HO_Z7 HO517 HO520 BK483 BK498 BK505 BK513 HB; have HO_Z2 := n0; have HO_Z3 := n1; have HO_Z4 := n2; have HO_Z5 := n3; have HO_Z6 := n4; have HO_Z7 := n5; have HO517 := n6; have HO520 := n7; have BK483 := n8; have BK498 := n9; have BK505 := n10; have BK513 := n11; have HB := n12; clear n0 n1 n2 n3 n4 n5 n6 n7 n8 n9 n10 n11 n12; (try clear hb); (try clear hb2); (try clear hk); (try clear hi)))
         go_meet
         case rel => exact ⟨_, ((t512 != t497)), rS, H', ⟨by have := HJ11.out; first | omega | exact Nat.le_refl _⟩, ⟨by (with_reducible repeat (first | apply Kd.R_alloc | apply Kd.R_drewN | apply Kd.R_drew)); exact Kd.R_mono HO_Z2.out (fun _ hk => ⟨hk.1, ⟨hk.2.1, ⟨hk.2.2.1, ⟨hk.2.2.2.1, hk.2.2.2.2.1⟩⟩⟩⟩)⟩, ⟨by (with_reducible repeat (first | apply Kd.R_alloc | apply Kd.R_drewN | apply Kd.R_drew)); exact Kd.R_mono HO_Z3.out (fun _ hk => ⟨hk.1, ⟨hk.2.1, ⟨hk.2.2.1, ⟨hk.2.2.2.1, hk.2.2.2.2.1⟩⟩⟩⟩)⟩, ⟨by (with_reducible repeat (first | apply Kd.R_alloc | apply Kd.R_drewN | apply Kd.R_drew)); exact Kd.R_mono HO_Z4.out (fun _ hk => ⟨hk.1.1.1, ⟨hk.1.1.2.1, ⟨hk.1.1.2.2.1, ⟨hk.1.1.2.2.2.1, hk.1.1.2.2.2.2⟩⟩⟩⟩)⟩, ⟨by (with_reducible repeat (first | apply Kd.R_alloc | apply Kd.R_drewN | apply Kd.R_drew)); exact Kd.R_mono HO_Z5.out (fun _ hk => ⟨hk.1.1.1, ⟨hk.1.1.2.1, ⟨hk.1.1.2.2.1, ⟨hk.1.1.2.2.2.1, hk.1.1.2.2.2.2⟩⟩⟩⟩)⟩, ⟨by (with_reducible repeat (first | apply Kd.R_alloc | apply Kd.R_drewN | apply Kd.R_drew)); exact Kd.R_mono HO_Z6.out (fun _ hk => ⟨hk.1, ⟨hk.2.1, ⟨hk.2.2.1, ⟨hk.2.2.2.1, hk.2.2.2.2.1⟩⟩⟩⟩)⟩, ⟨by (with_reducible repeat (first | apply Kd.R_alloc | apply Kd.R_drewN | apply Kd.R_drew)); exact Kd.R_mono HO_Z7.out (fun _ hk => ⟨hk.1, ⟨hk.2.1, ⟨hk.2.2.1, ⟨hk.2.2.2.1, hk.2.2.2.2.1⟩⟩⟩⟩)⟩, ⟨kU BK483.out⟩, ⟨kU BK498.out⟩, ⟨kU BK505.out⟩, ⟨kU BK513.out⟩, ⟨bU4 HB.out GE483.out GE498.out GE505.out GE513.out⟩⟩
        ·
         replace c78 := Bool.eq_false_iff.mpr c78; subst c78
         have H1 : (laws_FnExactEdgeContract.j1 kj11 a1 t497 true l0_0 l0_1 t491 t494 t506 t509) = some r := by rw [if_neg (show ¬ (false = true) by decide)] at H; exact H
         clear H; have H := H1; clear H1; have H' := Az H; clear H; have hnb87 := NB513_483.out; have hnc87 := NB483_513.out; have hnb88 := NB513_498.out; have hnc88 := NB498_513.out; have hnb89 := NB513_505.out; have hnc89 := NB505_513.out; have hcz90_0 : w75.cell? ⟨gb513, 0, none⟩ = some (.slice Ao36 t506.length co36) := (blk_cell BK513.out 0).trans rfl; have hcz90_1 : w75.cell? ⟨gb513, 1, none⟩ = some (.slice Ao41 t509.length co41) := (blk_cell BK513.out 1).trans rfl; have hfz90_0 := blk_frozen BK513.out 0; have hfz90_1 := blk_frozen BK513.out 1; have hnb91 := NB498_483.out; have hnc91 := NB483_498.out; have hnb92 := NB498_505.out; have hnc92 := NB505_498.out; have hcz93_0 : w75.cell? ⟨gb498, 0, none⟩ = some (.slice Ao22 t491.length co22) := (blk_cell BK498.out 0).trans rfl; have hcz93_1 : w75.cell? ⟨gb498, 1, none⟩ = some (.slice Ao25 t494.length co25) := (blk_cell BK498.out 1).trans rfl; have hfz93_0 := blk_frozen BK498.out 0; have hfz93_1 := blk_frozen BK498.out 1
         go_wp2_with (first | (go_at_call 22; (with_reducible refine (laws_eqMap.calls kj11 _ _ t506 _ _ t509 _ _ t491 _ _ t494 false _ ?side1 ?side2 ?side3 ?side4 ?side5 ?side6 ?side7 ?side8 A77.out).mono ?_); (case side1 => exact cU ((Kd.R_reads' HO_Z6.out).2.2)); (case side2 => exact (Kd.R_reads' HO_Z6.out).2.1); (case side3 => exact cU ((Kd.R_reads' HO_Z7.out).2.2)); (case side4 => exact (Kd.R_reads' HO_Z7.out).2.1); (case side5 => exact cU ((Kd.R_reads' HO_Z2.out).2.2)); (case side6 => exact (Kd.R_reads' HO_Z2.out).2.1); (case side7 => exact cU ((Kd.R_reads' HO_Z3.out).2.2)); (case side8 => exact (Kd.R_reads' HO_Z3.out).2.1); rintro e w94 ⟨rfl, hb⟩; have n0 := Az (Kd.R_below (rU HO_Z2.out) hb); have n1 := Az (Kd.R_below (rU HO_Z3.out) hb); have n2 := Az (Kd.R_below (rU HO_Z4.out) hb); have n3 := Az (Kd.R_below (rU HO_Z5.out) hb); have n4 := Az (Kd.R_below (rU HO_Z6.out) hb); have n5 := Az (Kd.R_below (rU HO_Z7.out) hb); have n6 := Az (Kd.R_below (rU HO517.out) hb); have n7 := Az (Kd.R_below (rU HO520.out) hb); have n8 := Az (blk_below (g := gb483) (o := .cells #[.slice A0_0 l0_0.length c0_0, .slice A0_1 l0_1.length c0_1] 36 (0, 0)) (kU BK483.out) hb); have n9 := Az (blk_below (g := gb498) (o := .cells #[.slice Ao22 t491.length co22, .slice Ao25 t494.length co25] 25 (0, 0)) (kU BK498.out) hb); have n10 := Az (blk_below (g := gb505) (o := .cells #[.slice Ao29 t499.length co29, .slice Ao33 t502.length co33] 25 (0, 0)) (kU BK505.out) hb); have n11 := Az (blk_below (g := gb513) (o := .cells #[.slice Ao36 t506.length co36, .slice Ao41 t509.length co41] 25 (0, 0)) (kU BK513.out) hb); have n12 := Az (below_step (bU4 HB.out GE483.out GE498.out GE505.out GE513.out) hb); clear HO_Z2 HO_Z3 HO_Z4 HO_Z5 HO_Z6 HO_Z7 HO517 HO520 BK483 BK498 BK505 BK513 HB; have HO_Z2 := n0; have HO_Z3 := n1; have HO_Z4 := n2; have HO_Z5 := n3; have HO_Z6 := n4; have HO_Z7 := n5; have HO517 := n6; have HO520 := n7; have BK483 := n8; have BK498 := n9; have BK505 := n10; have BK513 := n11; have HB := n12; clear n0 n1 n2 n3 n4 n5 n6 n7 n8 n9 n10 n11 n12; (try clear hb); (try clear hb2); (try clear hk); (try clear hi)))
         go_meet
         case rel => exact ⟨_, (true), rS, H', ⟨by have := HJ11.out; first | omega | exact Nat.le_refl _⟩, ⟨by (with_reducible repeat (first | apply Kd.R_alloc | apply Kd.R_drewN | apply Kd.R_drew)); exact Kd.R_mono HO_Z2.out (fun _ hk => ⟨hk.1, ⟨hk.2.1, ⟨hk.2.2.1, ⟨hk.2.2.2.1, hk.2.2.2.2.1⟩⟩⟩⟩)⟩, ⟨by (with_reducible repeat (first | apply Kd.R_alloc | apply Kd.R_drewN | apply Kd.R_drew)); exact Kd.R_mono HO_Z3.out (fun _ hk => ⟨hk.1, ⟨hk.2.1, ⟨hk.2.2.1, ⟨hk.2.2.2.1, hk.2.2.2.2.1⟩⟩⟩⟩)⟩, ⟨by (with_reducible repeat (first | apply Kd.R_alloc | apply Kd.R_drewN | apply Kd.R_drew)); exact Kd.R_mono HO_Z4.out (fun _ hk => ⟨hk.1.1.1, ⟨hk.1.1.2.1, ⟨hk.1.1.2.2.1, ⟨hk.1.1.2.2.2.1, hk.1.1.2.2.2.2⟩⟩⟩⟩)⟩, ⟨by (with_reducible repeat (first | apply Kd.R_alloc | apply Kd.R_drewN | apply Kd.R_drew)); exact Kd.R_mono HO_Z5.out (fun _ hk => ⟨hk.1.1.1, ⟨hk.1.1.2.1, ⟨hk.1.1.2.2.1, ⟨hk.1.1.2.2.2.1, hk.1.1.2.2.2.2⟩⟩⟩⟩)⟩, ⟨by (with_reducible repeat (first | apply Kd.R_alloc | apply Kd.R_drewN | apply Kd.R_drew)); exact Kd.R_mono HO_Z6.out (fun _ hk => ⟨hk.1, ⟨hk.2.1, ⟨hk.2.2.1, ⟨hk.2.2.2.1, hk.2.2.2.2.1⟩⟩⟩⟩)⟩, ⟨by (with_reducible repeat (first | apply Kd.R_alloc | apply Kd.R_drewN | apply Kd.R_drew)); exact Kd.R_mono HO_Z7.out (fun _ hk => ⟨hk.1, ⟨hk.2.1, ⟨hk.2.2.1, ⟨hk.2.2.2.1, hk.2.2.2.2.1⟩⟩⟩⟩)⟩, ⟨kU BK483.out⟩, ⟨kU BK498.out⟩, ⟨kU BK505.out⟩, ⟨kU BK513.out⟩, ⟨bU4 HB.out GE483.out GE498.out GE505.out GE513.out⟩⟩
      case rest =>
       clear HC65; (try clear c1); (try clear c2); (try clear p2); (try clear c3); (try clear c4); (try clear c4b0); (try clear c5); (try clear c6); (try clear c7); (try clear c8); (try clear c9); (try clear c13); (try clear c14); (try clear c20); (try clear c21); (try clear c22); (try clear c23); (try clear c30); (try clear c31); (try clear c37); (try clear c38); (try clear c39); (try clear c43); (try clear c44); (try clear c45); (try clear c46); (try clear c48); (try clear c49); (try clear c52); (try clear c53); (try clear c54); (try clear c56); (try clear c57); (try clear c60); (try clear c63); (try clear c71); (try clear c72); (try clear c73); (try clear c76); (try clear c76b0); (try clear c78); (try clear c79); (try clear c80); (try clear c81); (try clear c83); (try clear c84); (try clear c87); (try clear c88); (try clear c89); (try clear c91); (try clear c92); (try clear hcz14_0); (try clear hcz14_1); (try clear hcz16_0); (try clear hcz16_1); (try clear hcz24_0); (try clear hcz24_1); (try clear hcz26_0); (try clear hcz26_1); (try clear hcz32_0); (try clear hcz32_1); (try clear hcz40_0); (try clear hcz40_1); (try clear hcz47_0); (try clear hcz47_1); (try clear hcz50_0); (try clear hcz50_1); (try clear hcz55_0); (try clear hcz55_1); (try clear hcz58_0); (try clear hcz58_1); (try clear hcz6_0); (try clear hcz6_1); (try clear hcz74_0); (try clear hcz74_1); (try clear hcz82_0); (try clear hcz82_1); (try clear hcz85_0); (try clear hcz85_1); (try clear hcz90_0); (try clear hcz90_1); (try clear hcz93_0); (try clear hcz93_1); (try clear hfz14_0); (try clear hfz14_1); (try clear hfz16_0); (try clear hfz16_1); (try clear hfz24_0); (try clear hfz24_1); (try clear hfz26_0); (try clear hfz26_1); (try clear hfz32_0); (try clear hfz32_1); (try clear hfz40_0); (try clear hfz40_1); (try clear hfz47_0); (try clear hfz47_1); (try clear hfz50_0); (try clear hfz50_1); (try clear hfz55_0); (try clear hfz55_1); (try clear hfz58_0); (try clear hfz58_1); (try clear hfz6_0); (try clear hfz6_1); (try clear hfz74_0); (try clear hfz74_1); (try clear hfz82_0); (try clear hfz82_1); (try clear hfz85_0); (try clear hfz85_1); (try clear hfz90_0); (try clear hfz90_1); (try clear hfz93_0); (try clear hfz93_1); (try clear p2); obtain ⟨kq, x65_64, rfl, HA, HJ64, HO_Z2, HO_Z3, HO_Z4, HO_Z5, HO_Z6, HO_Z7, BK483, BK498, BK505, BK513, HB⟩ := hcut; have hlZ4_64 := (Kd.R_reads' HO_Z4.out).1; rw [hlZ4_64] at HO_Z4; (try simp only [hlZ4_64]); (try simp only [hlZ4_64] at BK483); (try simp only [hlZ4_64] at BK498); (try simp only [hlZ4_64] at BK505); (try simp only [hlZ4_64] at BK513); (try simp only [hlZ4_64] at HO_Z2); (try simp only [hlZ4_64] at HO_Z3); (try simp only [hlZ4_64] at HO_Z5); (try simp only [hlZ4_64] at HO_Z6); (try simp only [hlZ4_64] at HO_Z7); have hlZ5_64 := (Kd.R_reads' HO_Z5.out).1; rw [hlZ5_64] at HO_Z5; (try simp only [hlZ5_64]); (try simp only [hlZ5_64] at BK483); (try simp only [hlZ5_64] at BK498); (try simp only [hlZ5_64] at BK505); (try simp only [hlZ5_64] at BK513); (try simp only [hlZ5_64] at HO_Z2); (try simp only [hlZ5_64] at HO_Z3); (try simp only [hlZ5_64] at HO_Z4); (try simp only [hlZ5_64] at HO_Z6); (try simp only [hlZ5_64] at HO_Z7)
       cases kq with
       | zero => exact absurd HA.out (by simp [laws_FnExactEdgeContract.j1])
       | succ kj64 =>
        have H := HA.out; clear HA; simp only [laws_FnExactEdgeContract.j1] at H
        by_cases c95 : x65_64 = true
        ·
         subst c95
         have H1 : (some false) = some r := by rw [if_pos rfl] at H; exact H
         clear H; have H := H1; clear H1; obtain rfl := Option.some.inj H
         go_wp2
         go_ret
         exact ⟨rE, bU4 HB.out GE483.out GE498.out GE505.out GE513.out⟩
        ·
         replace c95 := Bool.eq_false_iff.mpr c95; subst c95
         have H1 : ((laws_markMap.f kj64 t506 t509 1).bind fun bt526 => ((laws_heldMap.f kj64 bt526.2.1 bt526.2.2 1).bind fun t529 => (if t529 < 0 then (some false) else (if t529 = bt526.1 then ((laws_toMap.f kj64 l0_0 l0_1).bind fun bt530 => ((impl_EdgeContract.f kj64 bt530.1 bt530.2 a1).bind fun bt536 => ((laws_eqMap.f kj64 bt536.1 bt536.2.1 t491 t494).bind fun t544 => (if t544 = true then (laws_FnExactEdgeContract.j2 kj64 bt526.1 (bt536.2.2 != t497) bt526.2.1 bt526.2.2) else (laws_FnExactEdgeContract.j2 kj64 bt526.1 true bt526.2.1 bt526.2.2))))) else (some false))))) = some r := by rw [if_neg (show ¬ (false = true) by decide)] at H; exact H
         clear H; have H := H1; clear H1; replace H := Option.bind_eq_some_iff.mp H; obtain ⟨⟨t526, t527, t528⟩, A960, H⟩ := H; replace H : ((laws_heldMap.f kj64 t527 t528 1).bind fun t529 => (if t529 < 0 then (some false) else (if t529 = t526 then ((laws_toMap.f kj64 l0_0 l0_1).bind fun bt530 => ((impl_EdgeContract.f kj64 bt530.1 bt530.2 a1).bind fun bt536 => ((laws_eqMap.f kj64 bt536.1 bt536.2.1 t491 t494).bind fun t544 => (if t544 = true then (laws_FnExactEdgeContract.j2 kj64 t526 (bt536.2.2 != t497) t527 t528) else (laws_FnExactEdgeContract.j2 kj64 t526 true t527 t528))))) else (some false)))) = some r := H; have A96 := Az A960; clear A960; replace H := Option.bind_eq_some_iff.mp H; obtain ⟨t529, A970, H⟩ := H; replace H : (if t529 < 0 then (some false) else (if t529 = t526 then ((laws_toMap.f kj64 l0_0 l0_1).bind fun bt530 => ((impl_EdgeContract.f kj64 bt530.1 bt530.2 a1).bind fun bt536 => ((laws_eqMap.f kj64 bt536.1 bt536.2.1 t491 t494).bind fun t544 => (if t544 = true then (laws_FnExactEdgeContract.j2 kj64 t526 (bt536.2.2 != t497) t527 t528) else (laws_FnExactEdgeContract.j2 kj64 t526 true t527 t528))))) else (some false))) = some r := H; have A97 := Az A970; clear A970
         by_cases c98 : t529 < 0
         ·
          rw [if_pos c98] at H; have c98b0 := decide_eq_true c98; clear c98; obtain rfl := Option.some.inj H; have hnb99 := NB513_483.out; have hnc99 := NB483_513.out; have hnb100 := NB513_498.out; have hnc100 := NB498_513.out; have hnb101 := NB513_505.out; have hnc101 := NB505_513.out; have hcz102_0 : wc.cell? ⟨gb513, 0, none⟩ = some (.slice Ao36 t506.length co36) := (blk_cell BK513.out 0).trans rfl; have hcz102_1 : wc.cell? ⟨gb513, 1, none⟩ = some (.slice Ao41 t509.length co41) := (blk_cell BK513.out 1).trans rfl; have hfz102_0 := blk_frozen BK513.out 0; have hfz102_1 := blk_frozen BK513.out 1
          go_wp2_with (first | ((with_reducible refine gate_callee (f := 23) rfl ?_); refine goesL_ (some 68) rfl rfl Try.func23 (by kernel_rfl) rfl #[.agg #[.slice Ao36 t506.length co36, .slice Ao41 t509.length co41], .int .i64 1] rfl (by (try simp only [List.map_toArray, List.map_cons, List.map_nil]); first | done | rfl | (simp only [List.length_drop, List.length_take]; rfl)) ?_; (with_reducible refine (laws_markMap.calls kj64 (fun k_ => some k_ = (.slice Ao36 t506.length co36 : Value).ownBlock) (.slice Ao36 t506.length co36) t506 (fun k_ => some k_ = (.slice Ao41 t509.length co41 : Value).ownBlock) (.slice Ao41 t509.length co41) t509 1 t526 t527 t528 w _ ?side1 ?side2 ?side3 ?side4 ?side5 A96.out).mono ?_); (case side1 => repeat (first | (with_reducible first | exact HB.out | apply below_alloc | apply pw_below_drewN | apply below_drew1 | refine below_set ?_ GE483.out | refine below_set ?_ GE498.out | refine below_set ?_ GE505.out | refine below_set ?_ GE513.out) | exact HB.out)); (case side2 => exact Kd.R_tight rfl HO_Z6.out); (case side3 => exact fun k_ e_ => (HO_Z6.out.1 k_ e_.symm).2.2.2.2); (case side4 => exact Kd.R_tight rfl HO_Z7.out); (case side5 => exact fun k_ e_ => (HO_Z7.out.1 k_ e_.symm).2.2.2.2); rintro e w103 ⟨rfl, hy0, hy1, hb, hkp⟩; refine ⟨_, rfl, ?_⟩; have n0 := Az (Kd.R_mono (ok' := fun k_ => some k_ ≠ (.slice Ao25 t494.length co25 : Value).ownBlock ∧ some k_ ≠ (.slice Ao29 t523.length co29 : Value).ownBlock ∧ some k_ ≠ (.slice Ao33 t524.length co33 : Value).ownBlock ∧ some k_ ≠ (.slice Ao36 t506.length co36 : Value).ownBlock ∧ some k_ ≠ (.slice Ao41 t509.length co41 : Value).ownBlock) (Kd.R_keptB (HO_Z2.out) hkp (fun k_ hk_ hs_ => Or.elim hs_ (fun e_ => (hk_.2.2.2.1) e_) (fun e_ => (hk_.2.2.2.2) e_))) (fun k_ hk_ => ⟨hk_.1.1, hk_.1.2.1, hk_.1.2.2.1, hk_.1.2.2.2.1, hk_.1.2.2.2.2⟩)); have n1 := Az (Kd.R_mono (ok' := fun k_ => some k_ ≠ (.slice Ao22 t491.length co22 : Value).ownBlock ∧ some k_ ≠ (.slice Ao29 t523.length co29 : Value).ownBlock ∧ some k_ ≠ (.slice Ao33 t524.length co33 : Value).ownBlock ∧ some k_ ≠ (.slice Ao36 t506.length co36 : Value).ownBlock ∧ some k_ ≠ (.slice Ao41 t509.length co41 : Value).ownBlock) (Kd.R_keptB (HO_Z3.out) hkp (fun k_ hk_ hs_ => Or.elim hs_ (fun e_ => (hk_.2.2.2.1) e_) (fun e_ => (hk_.2.2.2.2) e_))) (fun k_ hk_ => ⟨hk_.1.1, hk_.1.2.1, hk_.1.2.2.1, hk_.1.2.2.2.1, hk_.1.2.2.2.2⟩)); have n2 := Az (Kd.R_mono (ok' := fun k_ => some k_ ≠ (.slice Ao22 t491.length co22 : Value).ownBlock ∧ some k_ ≠ (.slice Ao25 t494.length co25 : Value).ownBlock ∧ some k_ ≠ (.slice Ao33 t524.length co33 : Value).ownBlock ∧ some k_ ≠ (.slice Ao36 t506.length co36 : Value).ownBlock ∧ some k_ ≠ (.slice Ao41 t509.length co41 : Value).ownBlock) (Kd.R_keptB (HO_Z4.out) hkp (fun k_ hk_ hs_ => Or.elim hs_ (fun e_ => (hk_.2.2.2.1) e_) (fun e_ => (hk_.2.2.2.2) e_))) (fun k_ hk_ => ⟨hk_.1.1, hk_.1.2.1, hk_.1.2.2.1, hk_.1.2.2.2.1, hk_.1.2.2.2.2⟩)); have n3 := Az (Kd.R_mono (ok' := fun k_ => some k_ ≠ (.slice Ao22 t491.length co22 : Value).ownBlock ∧ some k_ ≠ (.slice Ao25 t494.length co25 : Value).ownBlock ∧ some k_ ≠ (.slice Ao29 t523.length co29 : Value).ownBlock ∧ some k_ ≠ (.slice Ao36 t506.length co36 : Value).ownBlock ∧ some k_ ≠ (.slice Ao41 t509.length co41 : Value).ownBlock) (Kd.R_keptB (HO_Z5.out) hkp (fun k_ hk_ hs_ => Or.elim hs_ (fun e_ => (hk_.2.2.2.1) e_) (fun e_ => (hk_.2.2.2.2) e_))) (fun k_ hk_ => ⟨hk_.1.1, hk_.1.2.1, hk_.1.2.2.1, hk_.1.2.2.2.1, hk_.1.2.2.2.2⟩)); have n4 := Az (Kd.R_reok rfl hy0 (fun k_ e_ => HO_Z6.out.1 k_ e_)); have n5 := Az (Kd.R_reok rfl hy1 (fun k_ e_ => HO_Z7.out.1 k_ e_)); have n6 := Az (blk_kept (kU BK483.out) hkp (fun hs_ => Or.elim hs_ (fun e_ => (fun e_ => (Kd.R_ne HO_Z6.out BK483.out (by decide)) e_) e_) (fun e_ => (fun e_ => (Kd.R_ne HO_Z7.out BK483.out (by decide)) e_) e_))); have n7 := Az (blk_kept (kU BK498.out) hkp (fun hs_ => Or.elim hs_ (fun e_ => (fun e_ => (Kd.R_ne HO_Z6.out BK498.out (by decide)) e_) e_) (fun e_ => (fun e_ => (Kd.R_ne HO_Z7.out BK498.out (by decide)) e_) e_))); have n8 := Az (blk_kept (kU BK505.out) hkp (fun hs_ => Or.elim hs_ (fun e_ => (fun e_ => (Kd.R_ne HO_Z6.out BK505.out (by decide)) e_) e_) (fun e_ => (fun e_ => (Kd.R_ne HO_Z7.out BK505.out (by decide)) e_) e_))); have n9 := Az (blk_kept (kU BK513.out) hkp (fun hs_ => Or.elim hs_ (fun e_ => (fun e_ => (Kd.R_ne HO_Z6.out BK513.out (by decide)) e_) e_) (fun e_ => (fun e_ => (Kd.R_ne HO_Z7.out BK513.out (by decide)) e_) e_))); have n10 := Az (hb); clear HO_Z2 HO_Z3 HO_Z4 HO_Z5 HO_Z6 HO_Z7 BK483 BK498 BK505 BK513 HB; have HO_Z2 := n0; have HO_Z3 := n1; have HO_Z4 := n2; have HO_Z5 := n3; have HO_Z6 := n4; have HO_Z7 := n5; have BK483 := n6; have BK498 := n7; have BK505 := n8; have BK513 := n9; have HB := n10; clear n0 n1 n2 n3 n4 n5 n6 n7 n8 n9 n10; (try clear hb); (try clear hkp); (try clear hy0); (try clear hy1); have hcz104_0 : w103.cell? ⟨gb513, 0, none⟩ = some (.slice Ao36 t506.length co36) := (blk_cell BK513.out 0).trans rfl; have hcz104_1 : w103.cell? ⟨gb513, 1, none⟩ = some (.slice Ao41 t509.length co41) := (blk_cell BK513.out 1).trans rfl; have hfz104_0 := blk_frozen BK513.out 0; have hfz104_1 := blk_frozen BK513.out 1) | ((with_reducible refine gate_callee (f := 24) rfl ?_); refine goesL_ (some 71) rfl rfl Try.func24 (by kernel_rfl) rfl #[.agg #[.slice Ao36 t527.length co36, .slice Ao41 t528.length co41], .int .i64 1] rfl (by (try simp only [List.map_toArray, List.map_cons, List.map_nil]); first | done | (rw [show t527.length = t506.length from (Kd.R_reads' HO_Z6.out).1.symm, show t528.length = t509.length from (Kd.R_reads' HO_Z7.out).1.symm] <;> rfl) | rfl | (simp only [List.length_drop, List.length_take]; rfl)) ?_; (with_reducible refine (laws_heldMap.calls kj64 _ _ t527 _ _ t528 1 t529 _ ?side1 ?side2 ?side3 ?side4 A97.out).mono ?_); (case side1 => exact cU ((Kd.R_reads' HO_Z6.out).2.2)); (case side2 => rw [show t527.length = t506.length from (Kd.R_reads' HO_Z6.out).1.symm]; exact (Kd.R_reads' HO_Z6.out).2.1); (case side3 => exact cU ((Kd.R_reads' HO_Z7.out).2.2)); (case side4 => rw [show t528.length = t509.length from (Kd.R_reads' HO_Z7.out).1.symm]; exact (Kd.R_reads' HO_Z7.out).2.1); rintro e w105 ⟨rfl, hb⟩; refine ⟨_, rfl, ?_⟩; have n0 := Az (Kd.R_below (rU HO_Z2.out) hb); have n1 := Az (Kd.R_below (rU HO_Z3.out) hb); have n2 := Az (Kd.R_below (rU HO_Z4.out) hb); have n3 := Az (Kd.R_below (rU HO_Z5.out) hb); have n4 := Az (Kd.R_below (rU HO_Z6.out) hb); have n5 := Az (Kd.R_below (rU HO_Z7.out) hb); have n6 := Az (blk_below (g := gb483) (o := .cells #[.slice A0_0 l0_0.length c0_0, .slice A0_1 l0_1.length c0_1] 36 (0, 0)) (kU BK483.out) hb); have n7 := Az (blk_below (g := gb498) (o := .cells #[.slice Ao22 t491.length co22, .slice Ao25 t494.length co25] 25 (0, 0)) (kU BK498.out) hb); have n8 := Az (blk_below (g := gb505) (o := .cells #[.slice Ao29 t523.length co29, .slice Ao33 t524.length co33] 25 (0, 0)) (kU BK505.out) hb); have n9 := Az (blk_below (g := gb513) (o := .cells #[.slice Ao36 t506.length co36, .slice Ao41 t509.length co41] 25 (0, 0)) (kU BK513.out) hb); have n10 := Az (below_step (bU4 HB.out GE483.out GE498.out GE505.out GE513.out) hb); clear HO_Z2 HO_Z3 HO_Z4 HO_Z5 HO_Z6 HO_Z7 BK483 BK498 BK505 BK513 HB; have HO_Z2 := n0; have HO_Z3 := n1; have HO_Z4 := n2; have HO_Z5 := n3; have HO_Z6 := n4; have HO_Z7 := n5; have BK483 := n6; have BK498 := n7; have BK505 := n8; have BK513 := n9; have HB := n10; clear n0 n1 n2 n3 n4 n5 n6 n7 n8 n9 n10; (try clear hb); (try clear hb2); (try clear hk); (try clear hi)))
          go_ret
          exact ⟨rE, bU4 HB.out GE483.out GE498.out GE505.out GE513.out⟩
         ·
          rw [if_neg c98] at H; have c98b0 := decide_eq_false c98; clear c98
          by_cases c106 : t529 = t526
          ·
           rw [if_pos c106] at H; have c106b0 := beq_iff_eq.mpr c106; have c106b1 := bne_eq_false_iff_eq.mpr c106; clear c106; replace H := Option.bind_eq_some_iff.mp H; obtain ⟨⟨t530, t533⟩, A1070, H⟩ := H; replace H : ((impl_EdgeContract.f kj64 t530 t533 a1).bind fun bt536 => ((laws_eqMap.f kj64 bt536.1 bt536.2.1 t491 t494).bind fun t544 => (if t544 = true then (laws_FnExactEdgeContract.j2 kj64 t526 (bt536.2.2 != t497) t527 t528) else (laws_FnExactEdgeContract.j2 kj64 t526 true t527 t528)))) = some r := H; have A107 := Az A1070; clear A1070; replace H := Option.bind_eq_some_iff.mp H; obtain ⟨⟨t536, t539, t542⟩, A1080, H⟩ := H; replace H : ((laws_eqMap.f kj64 t536 t539 t491 t494).bind fun t544 => (if t544 = true then (laws_FnExactEdgeContract.j2 kj64 t526 (t542 != t497) t527 t528) else (laws_FnExactEdgeContract.j2 kj64 t526 true t527 t528))) = some r := H; have A108 := Az A1080; clear A1080; have HC109 := Az H; clear H; have hnb110 := NB513_483.out; have hnc110 := NB483_513.out; have hnb111 := NB513_498.out; have hnc111 := NB498_513.out; have hnb112 := NB513_505.out; have hnc112 := NB505_513.out; have hcz113_0 : wc.cell? ⟨gb513, 0, none⟩ = some (.slice Ao36 t506.length co36) := (blk_cell BK513.out 0).trans rfl; have hcz113_1 : wc.cell? ⟨gb513, 1, none⟩ = some (.slice Ao41 t509.length co41) := (blk_cell BK513.out 1).trans rfl; have hfz113_0 := blk_frozen BK513.out 0; have hfz113_1 := blk_frozen BK513.out 1
           go_upto_region 25 with (first | ((with_reducible refine gate_callee (f := 23) rfl ?_); refine goesL_ (some 68) rfl rfl Try.func23 (by kernel_rfl) rfl #[.agg #[.slice Ao36 t506.length co36, .slice Ao41 t509.length co41], .int .i64 1] rfl (by (try simp only [List.map_toArray, List.map_cons, List.map_nil]); first | done | rfl | (simp only [List.length_drop, List.length_take]; rfl)) ?_; (with_reducible refine (laws_markMap.calls kj64 (fun k_ => some k_ = (.slice Ao36 t506.length co36 : Value).ownBlock) (.slice Ao36 t506.length co36) t506 (fun k_ => some k_ = (.slice Ao41 t509.length co41 : Value).ownBlock) (.slice Ao41 t509.length co41) t509 1 t526 t527 t528 w _ ?side1 ?side2 ?side3 ?side4 ?side5 A96.out).mono ?_); (case side1 => repeat (first | (with_reducible first | exact HB.out | apply below_alloc | apply pw_below_drewN | apply below_drew1 | refine below_set ?_ GE483.out | refine below_set ?_ GE498.out | refine below_set ?_ GE505.out | refine below_set ?_ GE513.out) | exact HB.out)); (case side2 => exact Kd.R_tight rfl HO_Z6.out); (case side3 => exact fun k_ e_ => (HO_Z6.out.1 k_ e_.symm).2.2.2.2); (case side4 => exact Kd.R_tight rfl HO_Z7.out); (case side5 => exact fun k_ e_ => (HO_Z7.out.1 k_ e_.symm).2.2.2.2); rintro e w114 ⟨rfl, hy0, hy1, hb, hkp⟩; refine ⟨_, rfl, ?_⟩; have n0 := Az (Kd.R_mono (ok' := fun k_ => some k_ ≠ (.slice Ao25 t494.length co25 : Value).ownBlock ∧ some k_ ≠ (.slice Ao29 t523.length co29 : Value).ownBlock ∧ some k_ ≠ (.slice Ao33 t524.length co33 : Value).ownBlock ∧ some k_ ≠ (.slice Ao36 t506.length co36 : Value).ownBlock ∧ some k_ ≠ (.slice Ao41 t509.length co41 : Value).ownBlock) (Kd.R_keptB (HO_Z2.out) hkp (fun k_ hk_ hs_ => Or.elim hs_ (fun e_ => (hk_.2.2.2.1) e_) (fun e_ => (hk_.2.2.2.2) e_))) (fun k_ hk_ => ⟨hk_.1.1, hk_.1.2.1, hk_.1.2.2.1, hk_.1.2.2.2.1, hk_.1.2.2.2.2⟩)); have n1 := Az (Kd.R_mono (ok' := fun k_ => some k_ ≠ (.slice Ao22 t491.length co22 : Value).ownBlock ∧ some k_ ≠ (.slice Ao29 t523.length co29 : Value).ownBlock ∧ some k_ ≠ (.slice Ao33 t524.length co33 : Value).ownBlock ∧ some k_ ≠ (.slice Ao36 t506.length co36 : Value).ownBlock ∧ some k_ ≠ (.slice Ao41 t509.length co41 : Value).ownBlock) (Kd.R_keptB (HO_Z3.out) hkp (fun k_ hk_ hs_ => Or.elim hs_ (fun e_ => (hk_.2.2.2.1) e_) (fun e_ => (hk_.2.2.2.2) e_))) (fun k_ hk_ => ⟨hk_.1.1, hk_.1.2.1, hk_.1.2.2.1, hk_.1.2.2.2.1, hk_.1.2.2.2.2⟩)); have n2 := Az (Kd.R_mono (ok' := fun k_ => some k_ ≠ (.slice Ao22 t491.length co22 : Value).ownBlock ∧ some k_ ≠ (.slice Ao25 t494.length co25 : Value).ownBlock ∧ some k_ ≠ (.slice Ao33 t524.length co33 : Value).ownBlock ∧ some k_ ≠ (.slice Ao36 t506.length co36 : Value).ownBlock ∧ some k_ ≠ (.slice Ao41 t509.length co41 : Value).ownBlock) (Kd.R_keptB (HO_Z4.out) hkp (fun k_ hk_ hs_ => Or.elim hs_ (fun e_ => (hk_.2.2.2.1) e_) (fun e_ => (hk_.2.2.2.2) e_))) (fun k_ hk_ => ⟨hk_.1.1, hk_.1.2.1, hk_.1.2.2.1, hk_.1.2.2.2.1, hk_.1.2.2.2.2⟩)); have n3 := Az (Kd.R_mono (ok' := fun k_ => some k_ ≠ (.slice Ao22 t491.length co22 : Value).ownBlock ∧ some k_ ≠ (.slice Ao25 t494.length co25 : Value).ownBlock ∧ some k_ ≠ (.slice Ao29 t523.length co29 : Value).ownBlock ∧ some k_ ≠ (.slice Ao36 t506.length co36 : Value).ownBlock ∧ some k_ ≠ (.slice Ao41 t509.length co41 : Value).ownBlock) (Kd.R_keptB (HO_Z5.out) hkp (fun k_ hk_ hs_ => Or.elim hs_ (fun e_ => (hk_.2.2.2.1) e_) (fun e_ => (hk_.2.2.2.2) e_))) (fun k_ hk_ => ⟨hk_.1.1, hk_.1.2.1, hk_.1.2.2.1, hk_.1.2.2.2.1, hk_.1.2.2.2.2⟩)); have n4 := Az (Kd.R_reok rfl hy0 (fun k_ e_ => HO_Z6.out.1 k_ e_)); have n5 := Az (Kd.R_reok rfl hy1 (fun k_ e_ => HO_Z7.out.1 k_ e_)); have n6 := Az (blk_kept (kU BK483.out) hkp (fun hs_ => Or.elim hs_ (fun e_ => (fun e_ => (Kd.R_ne HO_Z6.out BK483.out (by decide)) e_) e_) (fun e_ => (fun e_ => (Kd.R_ne HO_Z7.out BK483.out (by decide)) e_) e_))); have n7 := Az (blk_kept (kU BK498.out) hkp (fun hs_ => Or.elim hs_ (fun e_ => (fun e_ => (Kd.R_ne HO_Z6.out BK498.out (by decide)) e_) e_) (fun e_ => (fun e_ => (Kd.R_ne HO_Z7.out BK498.out (by decide)) e_) e_))); have n8 := Az (blk_kept (kU BK505.out) hkp (fun hs_ => Or.elim hs_ (fun e_ => (fun e_ => (Kd.R_ne HO_Z6.out BK505.out (by decide)) e_) e_) (fun e_ => (fun e_ => (Kd.R_ne HO_Z7.out BK505.out (by decide)) e_) e_))); have n9 := Az (blk_kept (kU BK513.out) hkp (fun hs_ => Or.elim hs_ (fun e_ => (fun e_ => (Kd.R_ne HO_Z6.out BK513.out (by decide)) e_) e_) (fun e_ => (fun e_ => (Kd.R_ne HO_Z7.out BK513.out (by decide)) e_) e_))); have n10 := Az (hb); clear HO_Z2 HO_Z3 HO_Z4 HO_Z5 HO_Z6 HO_Z7 BK483 BK498 BK505 BK513 HB; have HO_Z2 := n0; have HO_Z3 := n1; have HO_Z4 := n2; have HO_Z5 := n3; have HO_Z6 := n4; have HO_Z7 := n5; have BK483 := n6; have BK498 := n7; have BK505 := n8; have BK513 := n9; have HB := n10; clear n0 n1 n2 n3 n4 n5 n6 n7 n8 n9 n10; (try clear hb); (try clear hkp); (try clear hy0); (try clear hy1); have hcz115_0 : w114.cell? ⟨gb513, 0, none⟩ = some (.slice Ao36 t506.length co36) := (blk_cell BK513.out 0).trans rfl; have hcz115_1 : w114.cell? ⟨gb513, 1, none⟩ = some (.slice Ao41 t509.length co41) := (blk_cell BK513.out 1).trans rfl; have hfz115_0 := blk_frozen BK513.out 0; have hfz115_1 := blk_frozen BK513.out 1) | ((with_reducible refine gate_callee (f := 24) rfl ?_); refine goesL_ (some 71) rfl rfl Try.func24 (by kernel_rfl) rfl #[.agg #[.slice Ao36 t527.length co36, .slice Ao41 t528.length co41], .int .i64 1] rfl (by (try simp only [List.map_toArray, List.map_cons, List.map_nil]); first | done | (rw [show t527.length = t506.length from (Kd.R_reads' HO_Z6.out).1.symm, show t528.length = t509.length from (Kd.R_reads' HO_Z7.out).1.symm] <;> rfl) | rfl | (simp only [List.length_drop, List.length_take]; rfl)) ?_; (with_reducible refine (laws_heldMap.calls kj64 _ _ t527 _ _ t528 1 t529 _ ?side1 ?side2 ?side3 ?side4 A97.out).mono ?_); (case side1 => exact cU ((Kd.R_reads' HO_Z6.out).2.2)); (case side2 => rw [show t527.length = t506.length from (Kd.R_reads' HO_Z6.out).1.symm]; exact (Kd.R_reads' HO_Z6.out).2.1); (case side3 => exact cU ((Kd.R_reads' HO_Z7.out).2.2)); (case side4 => rw [show t528.length = t509.length from (Kd.R_reads' HO_Z7.out).1.symm]; exact (Kd.R_reads' HO_Z7.out).2.1); rintro e w116 ⟨rfl, hb⟩; refine ⟨_, rfl, ?_⟩; have n0 := Az (Kd.R_below (rU HO_Z2.out) hb); have n1 := Az (Kd.R_below (rU HO_Z3.out) hb); have n2 := Az (Kd.R_below (rU HO_Z4.out) hb); have n3 := Az (Kd.R_below (rU HO_Z5.out) hb); have n4 := Az (Kd.R_below (rU HO_Z6.out) hb); have n5 := Az (Kd.R_below (rU HO_Z7.out) hb); have n6 := Az (blk_below (g := gb483) (o := .cells #[.slice A0_0 l0_0.length c0_0, .slice A0_1 l0_1.length c0_1] 36 (0, 0)) (kU BK483.out) hb); have n7 := Az (blk_below (g := gb498) (o := .cells #[.slice Ao22 t491.length co22, .slice Ao25 t494.length co25] 25 (0, 0)) (kU BK498.out) hb); have n8 := Az (blk_below (g := gb505) (o := .cells #[.slice Ao29 t523.length co29, .slice Ao33 t524.length co33] 25 (0, 0)) (kU BK505.out) hb); have n9 := Az (blk_below (g := gb513) (o := .cells #[.slice Ao36 t506.length co36, .slice Ao41 t509.length co41] 25 (0, 0)) (kU BK513.out) hb); have n10 := Az (below_step (bU4 HB.out GE483.out GE498.out GE505.out GE513.out) hb); clear HO_Z2 HO_Z3 HO_Z4 HO_Z5 HO_Z6 HO_Z7 BK483 BK498 BK505 BK513 HB; have HO_Z2 := n0; have HO_Z3 := n1; have HO_Z4 := n2; have HO_Z5 := n3; have HO_Z6 := n4; have HO_Z7 := n5; have BK483 := n6; have BK498 := n7; have BK505 := n8; have BK513 := n9; have HB := n10; clear n0 n1 n2 n3 n4 n5 n6 n7 n8 n9 n10; (try clear hb); (try clear hb2); (try clear hk); (try clear hi); have hnb117 := NB483_498.out; have hnc117 := NB498_483.out; have hnb118 := NB483_505.out; have hnc118 := NB505_483.out; have hcz119_0 : w116.cell? ⟨gb483, 0, none⟩ = some (.slice A0_0 l0_0.length c0_0) := (blk_cell BK483.out 0).trans rfl; have hcz119_1 : w116.cell? ⟨gb483, 1, none⟩ = some (.slice A0_1 l0_1.length c0_1) := (blk_cell BK483.out 1).trans rfl; have hfz119_0 := blk_frozen BK483.out 0; have hfz119_1 := blk_frozen BK483.out 1) | ((with_reducible refine gate_callee (f := 21) rfl ?_); refine goesL_ (some 79) rfl rfl Try.func21 (by kernel_rfl) rfl #[.agg #[.slice A0_0 l0_0.length c0_0, .slice A0_1 l0_1.length c0_1]] rfl (by (try simp only [List.map_toArray, List.map_cons, List.map_nil]); first | done | rfl | (simp only [List.length_drop, List.length_take]; rfl)) ?_; (with_reducible refine (laws_toMap.calls kj64 _ _ l0_0 _ _ l0_1 t530 t533 _ ?side1 ?side2 ?side3 ?side4 A107.out).mono ?_); (case side1 => exact cU (Kd.C_below HR0_0.out HB.out)); (case side2 => exact HC0_0.out); (case side3 => exact cU (Kd.C_below HR0_1.out HB.out)); (case side4 => exact HC0_1.out); rintro e w120 ⟨v531, v534, rfl, ho0, ho1, hb⟩; refine ⟨_, rfl, ?_⟩; have n0 := Az (Kd.R_mono (Kd.R_told (Kd.R_told (Kd.R_old (rU HO_Z2.out) hb) (Kd.R_base ho0)) (Kd.R_base ho1)) (fun _ h_ => h_.1)); have n1 := Az (Kd.R_mono (Kd.R_told (Kd.R_told (Kd.R_old (rU HO_Z3.out) hb) (Kd.R_base ho0)) (Kd.R_base ho1)) (fun _ h_ => h_.1)); have n2 := Az (Kd.R_mono (Kd.R_told (Kd.R_told (Kd.R_old (rU HO_Z4.out) hb) (Kd.R_base ho0)) (Kd.R_base ho1)) (fun _ h_ => h_.1)); have n3 := Az (Kd.R_mono (Kd.R_told (Kd.R_told (Kd.R_old (rU HO_Z5.out) hb) (Kd.R_base ho0)) (Kd.R_base ho1)) (fun _ h_ => h_.1)); have n4 := Az (Kd.R_mono (Kd.R_told (Kd.R_told (Kd.R_old (rU HO_Z6.out) hb) (Kd.R_base ho0)) (Kd.R_base ho1)) (fun _ h_ => h_.1)); have n5 := Az (Kd.R_mono (Kd.R_told (Kd.R_told (Kd.R_old (rU HO_Z7.out) hb) (Kd.R_base ho0)) (Kd.R_base ho1)) (fun _ h_ => h_.1)); have n6 := Az (Kd.R_lower (Kd.R_new' (Kd.R_new' (Kd.R_new' (Kd.R_new' (Kd.R_new' (Kd.R_new' ho0 (Kd.R_lt (rU HO_Z2.out))) (Kd.R_lt (rU HO_Z3.out))) (Kd.R_lt (rU HO_Z4.out))) (Kd.R_lt (rU HO_Z5.out))) (Kd.R_lt (rU HO_Z6.out))) (Kd.R_lt (rU HO_Z7.out))) (below_size (bU4 HB.out GE483.out GE498.out GE505.out GE513.out))); have n7 := Az (Kd.R_lower (Kd.R_new' (Kd.R_new' (Kd.R_new' (Kd.R_new' (Kd.R_new' (Kd.R_new' ho1 (Kd.R_lt (rU HO_Z2.out))) (Kd.R_lt (rU HO_Z3.out))) (Kd.R_lt (rU HO_Z4.out))) (Kd.R_lt (rU HO_Z5.out))) (Kd.R_lt (rU HO_Z6.out))) (Kd.R_lt (rU HO_Z7.out))) (below_size (bU4 HB.out GE483.out GE498.out GE505.out GE513.out))); have n8 := Az (blk_below (g := gb483) (o := .cells #[.slice A0_0 l0_0.length c0_0, .slice A0_1 l0_1.length c0_1] 36 (0, 0)) (kU BK483.out) hb); have n9 := Az (blk_below (g := gb498) (o := .cells #[.slice Ao22 t491.length co22, .slice Ao25 t494.length co25] 25 (0, 0)) (kU BK498.out) hb); have n10 := Az (blk_below (g := gb505) (o := .cells #[.slice Ao29 t523.length co29, .slice Ao33 t524.length co33] 25 (0, 0)) (kU BK505.out) hb); have n11 := Az (blk_below (g := gb513) (o := .cells #[.slice Ao36 t506.length co36, .slice Ao41 t509.length co41] 25 (0, 0)) (kU BK513.out) hb); have n12 := Az (below_step (bU4 HB.out GE483.out GE498.out GE505.out GE513.out) hb); clear HO_Z2 HO_Z3 HO_Z4 HO_Z5 HO_Z6 HO_Z7 BK483 BK498 BK505 BK513 HB; have HO_Z2 := n0; have HO_Z3 := n1; have HO_Z4 := n2; have HO_Z5 := n3; have HO_Z6 := n4; have HO_Z7 := n5; have HO532 := n6; have HO535 := n7; have BK483 := n8; have BK498 := n9; have BK505 := n10; have BK513 := n11; have HB := n12; clear n0 n1 n2 n3 n4 n5 n6 n7 n8 n9 n10 n11 n12; (try clear hb); (try clear hb2); (try clear hk); (try clear hi); (try clear ho0); (try clear ho1); obtain ⟨Ao121, co121, eo121⟩ := Kd.R_slice HO532.out; subst eo121; obtain ⟨Ao122, co122, eo122⟩ := Kd.R_slice HO535.out; subst eo122) | ((with_reducible refine gate_callee (f := 13) rfl ?_); refine goesL_ (some 81) rfl rfl Try.func13 (by kernel_rfl) rfl #[.agg #[.slice Ao121 t530.length co121, .slice Ao122 t533.length co122], .int .i64 a1] rfl (by (try simp only [List.map_toArray, List.map_cons, List.map_nil]); first | done | rfl | (simp only [List.length_drop, List.length_take]; rfl)) ?_; (with_reducible refine (impl_EdgeContract.calls kj64 _ _ t530 _ _ t533 a1 t536 t539 t542 _ ?side1 ?side2 ?side3 ?side4 A108.out).mono ?_); (case side1 => exact cU ((Kd.R_reads' HO532.out).2.2)); (case side2 => exact (Kd.R_reads' HO532.out).2.1); (case side3 => exact cU ((Kd.R_reads' HO535.out).2.2)); (case side4 => exact (Kd.R_reads' HO535.out).2.1); rintro e w123 ⟨v537, v540, rfl, ho0, ho1, hb⟩; refine ⟨_, rfl, ?_⟩; have n0 := Az (Kd.R_mono (Kd.R_told (Kd.R_told (Kd.R_old (rU HO_Z2.out) hb) (Kd.R_base ho0)) (Kd.R_base ho1)) (fun _ h_ => h_.1)); have n1 := Az (Kd.R_mono (Kd.R_told (Kd.R_told (Kd.R_old (rU HO_Z3.out) hb) (Kd.R_base ho0)) (Kd.R_base ho1)) (fun _ h_ => h_.1)); have n2 := Az (Kd.R_mono (Kd.R_told (Kd.R_told (Kd.R_old (rU HO_Z4.out) hb) (Kd.R_base ho0)) (Kd.R_base ho1)) (fun _ h_ => h_.1)); have n3 := Az (Kd.R_mono (Kd.R_told (Kd.R_told (Kd.R_old (rU HO_Z5.out) hb) (Kd.R_base ho0)) (Kd.R_base ho1)) (fun _ h_ => h_.1)); have n4 := Az (Kd.R_mono (Kd.R_told (Kd.R_told (Kd.R_old (rU HO_Z6.out) hb) (Kd.R_base ho0)) (Kd.R_base ho1)) (fun _ h_ => h_.1)); have n5 := Az (Kd.R_mono (Kd.R_told (Kd.R_told (Kd.R_old (rU HO_Z7.out) hb) (Kd.R_base ho0)) (Kd.R_base ho1)) (fun _ h_ => h_.1)); have n6 := Az (Kd.R_mono (Kd.R_told (Kd.R_told (Kd.R_old (rU HO532.out) hb) (Kd.R_base ho0)) (Kd.R_base ho1)) (fun _ h_ => h_.1)); have n7 := Az (Kd.R_mono (Kd.R_told (Kd.R_told (Kd.R_old (rU HO535.out) hb) (Kd.R_base ho0)) (Kd.R_base ho1)) (fun _ h_ => h_.1)); have n8 := Az (Kd.R_lower (Kd.R_new' (Kd.R_new' (Kd.R_new' (Kd.R_new' (Kd.R_new' (Kd.R_new' (Kd.R_new' (Kd.R_new' ho0 (Kd.R_lt (rU HO_Z2.out))) (Kd.R_lt (rU HO_Z3.out))) (Kd.R_lt (rU HO_Z4.out))) (Kd.R_lt (rU HO_Z5.out))) (Kd.R_lt (rU HO_Z6.out))) (Kd.R_lt (rU HO_Z7.out))) (Kd.R_lt (rU HO532.out))) (Kd.R_lt (rU HO535.out))) (below_size (bU4 HB.out GE483.out GE498.out GE505.out GE513.out))); have n9 := Az (Kd.R_lower (Kd.R_new' (Kd.R_new' (Kd.R_new' (Kd.R_new' (Kd.R_new' (Kd.R_new' (Kd.R_new' (Kd.R_new' ho1 (Kd.R_lt (rU HO_Z2.out))) (Kd.R_lt (rU HO_Z3.out))) (Kd.R_lt (rU HO_Z4.out))) (Kd.R_lt (rU HO_Z5.out))) (Kd.R_lt (rU HO_Z6.out))) (Kd.R_lt (rU HO_Z7.out))) (Kd.R_lt (rU HO532.out))) (Kd.R_lt (rU HO535.out))) (below_size (bU4 HB.out GE483.out GE498.out GE505.out GE513.out))); have n10 := Az (blk_below (g := gb483) (o := .cells #[.slice A0_0 l0_0.length c0_0, .slice A0_1 l0_1.length c0_1] 36 (0, 0)) (kU BK483.out) hb); have n11 := Az (blk_below (g := gb498) (o := .cells #[.slice Ao22 t491.length co22, .slice Ao25 t494.length co25] 25 (0, 0)) (kU BK498.out) hb); have n12 := Az (blk_below (g := gb505) (o := .cells #[.slice Ao29 t523.length co29, .slice Ao33 t524.length co33] 25 (0, 0)) (kU BK505.out) hb); have n13 := Az (blk_below (g := gb513) (o := .cells #[.slice Ao36 t506.length co36, .slice Ao41 t509.length co41] 25 (0, 0)) (kU BK513.out) hb); have n14 := Az (below_step (bU4 HB.out GE483.out GE498.out GE505.out GE513.out) hb); clear HO_Z2 HO_Z3 HO_Z4 HO_Z5 HO_Z6 HO_Z7 HO532 HO535 BK483 BK498 BK505 BK513 HB; have HO_Z2 := n0; have HO_Z3 := n1; have HO_Z4 := n2; have HO_Z5 := n3; have HO_Z6 := n4; have HO_Z7 := n5; have HO532 := n6; have HO535 := n7; have HO538 := n8; have HO541 := n9; have BK483 := n10; have BK498 := n11; have BK505 := n12; have BK513 := n13; have HB := n14; clear n0 n1 n2 n3 n4 n5 n6 n7 n8 n9 n10 n11 n12 n13 n14; (try clear hb); (try clear hb2); (try clear hk); (try clear hi); (try clear ho0); (try clear ho1)) | ((with_reducible refine gate_dst (N := 14) rfl ?_); refine box_event ?hg (N := 14) ?hd (cs := #[.slice none 0 0, .slice none 0 0]) (t := 25) ?hr ?_; (case hd => rfl); (case hg => rfl); (case hr => first | (go_simp; done) | (go_simp; rfl)); intro gb543 hg w124 hbox hb; have n0 := Az (Kd.R_below (rU HO_Z2.out) hb); have n1 := Az (Kd.R_below (rU HO_Z3.out) hb); have n2 := Az (Kd.R_below (rU HO_Z4.out) hb); have n3 := Az (Kd.R_below (rU HO_Z5.out) hb); have n4 := Az (Kd.R_below (rU HO_Z6.out) hb); have n5 := Az (Kd.R_below (rU HO_Z7.out) hb); have n6 := Az (Kd.R_below (rU HO532.out) hb); have n7 := Az (Kd.R_below (rU HO535.out) hb); have n8 := Az (Kd.R_below (rU HO538.out) hb); have n9 := Az (Kd.R_below (rU HO541.out) hb); have n10 := Az (blk_below (g := gb483) (o := .cells #[.slice A0_0 l0_0.length c0_0, .slice A0_1 l0_1.length c0_1] 36 (0, 0)) (kU BK483.out) hb); have n11 := Az (blk_below (g := gb498) (o := .cells #[.slice Ao22 t491.length co22, .slice Ao25 t494.length co25] 25 (0, 0)) (kU BK498.out) hb); have n12 := Az (blk_below (g := gb505) (o := .cells #[.slice Ao29 t523.length co29, .slice Ao33 t524.length co33] 25 (0, 0)) (kU BK505.out) hb); have n13 := Az (blk_below (g := gb513) (o := .cells #[.slice Ao36 t506.length co36, .slice Ao41 t509.length co41] 25 (0, 0)) (kU BK513.out) hb); have n14 := Az (below_step (bU4 HB.out GE483.out GE498.out GE505.out GE513.out) hb); have n15 := Az (hbox); have n16 := Az ((by rw [hg]; exact (below_size (bU4 HB.out GE483.out GE498.out GE505.out GE513.out)) : w.heap.size ≤ gb543)); have n17 := n16; have n18 := Az ((by rw [hg]; exact Nat.ne_of_lt (blk_lt (g := gb483) (o := .cells #[.slice A0_0 l0_0.length c0_0, .slice A0_1 l0_1.length c0_1] 36 (0, 0)) (kU BK483.out)) : gb483 ≠ gb543)); have n19 := Az ((by rw [hg]; exact Nat.ne_of_gt (blk_lt (g := gb483) (o := .cells #[.slice A0_0 l0_0.length c0_0, .slice A0_1 l0_1.length c0_1] 36 (0, 0)) (kU BK483.out)) : gb543 ≠ gb483)); have n20 := Az ((by rw [hg]; exact Nat.ne_of_lt (blk_lt (g := gb498) (o := .cells #[.slice Ao22 t491.length co22, .slice Ao25 t494.length co25] 25 (0, 0)) (kU BK498.out)) : gb498 ≠ gb543)); have n21 := Az ((by rw [hg]; exact Nat.ne_of_gt (blk_lt (g := gb498) (o := .cells #[.slice Ao22 t491.length co22, .slice Ao25 t494.length co25] 25 (0, 0)) (kU BK498.out)) : gb543 ≠ gb498)); have n22 := Az ((by rw [hg]; exact Nat.ne_of_lt (blk_lt (g := gb505) (o := .cells #[.slice Ao29 t523.length co29, .slice Ao33 t524.length co33] 25 (0, 0)) (kU BK505.out)) : gb505 ≠ gb543)); have n23 := Az ((by rw [hg]; exact Nat.ne_of_gt (blk_lt (g := gb505) (o := .cells #[.slice Ao29 t523.length co29, .slice Ao33 t524.length co33] 25 (0, 0)) (kU BK505.out)) : gb543 ≠ gb505)); have n24 := Az ((by rw [hg]; exact Nat.ne_of_lt (blk_lt (g := gb513) (o := .cells #[.slice Ao36 t506.length co36, .slice Ao41 t509.length co41] 25 (0, 0)) (kU BK513.out)) : gb513 ≠ gb543)); have n25 := Az ((by rw [hg]; exact Nat.ne_of_gt (blk_lt (g := gb513) (o := .cells #[.slice Ao36 t506.length co36, .slice Ao41 t509.length co41] 25 (0, 0)) (kU BK513.out)) : gb543 ≠ gb513)); clear HO_Z2 HO_Z3 HO_Z4 HO_Z5 HO_Z6 HO_Z7 HO532 HO535 HO538 HO541 BK483 BK498 BK505 BK513 HB; have HO_Z2 := n0; have HO_Z3 := n1; have HO_Z4 := n2; have HO_Z5 := n3; have HO_Z6 := n4; have HO_Z7 := n5; have HO532 := n6; have HO535 := n7; have HO538 := n8; have HO541 := n9; have BK483 := n10; have BK498 := n11; have BK505 := n12; have BK513 := n13; have HB := n14; have BK543 := n15; have GW543 := n16; have GE543 := n17; have NB483_543 := n18; have NB543_483 := n19; have NB498_543 := n20; have NB543_498 := n21; have NB505_543 := n22; have NB543_505 := n23; have NB513_543 := n24; have NB543_513 := n25; clear n0 n1 n2 n3 n4 n5 n6 n7 n8 n9 n10 n11 n12 n13 n14 n15 n16 n17 n18 n19 n20 n21 n22 n23 n24 n25 hb hbox hg; obtain ⟨Ao125, co125, eo125⟩ := Kd.R_slice HO538.out; subst eo125; have hnb126 := NB543_483.out; have hnc126 := NB483_543.out; have hnb127 := NB543_498.out; have hnc127 := NB498_543.out; have hnb128 := NB543_505.out; have hnc128 := NB505_543.out; have hnb129 := NB543_513.out; have hnc129 := NB513_543.out; have hcz130_0 : w124.cell? ⟨gb543, 0, none⟩ = some (.slice none 0 0) := (blk_cell BK543.out 0).trans rfl; have hcz130_1 : w124.cell? ⟨gb543, 1, none⟩ = some (.slice none 0 0) := (blk_cell BK543.out 1).trans rfl; have hfz130_0 := blk_frozen BK543.out 0; have hfz130_1 := blk_frozen BK543.out 1; obtain ⟨Ao131, co131, eo131⟩ := Kd.R_slice HO541.out; subst eo131))
           (try simp only [Act.put, List.setIfInBounds_toArray, List.set_cons_zero, List.set_cons_succ])
           go_cut [92] (fun v92 wc => ∃ (kq : Nat) (x92_108 : Bool), v92 = .bool x92_108 ∧ Aside0 (laws_FnExactEdgeContract.j2 kq t526 x92_108 t527 t528 = some r) ∧ Aside0 (kq ≤ kj64) ∧ Aside0 (Kd.R (Kd.int .i64) 3 wc w.heap.size (fun k_ => some k_ ≠ ((.slice Ao25 t494.length co25) : Value).ownBlock ∧ some k_ ≠ ((.slice Ao29 t523.length co29) : Value).ownBlock ∧ some k_ ≠ ((.slice Ao33 t524.length co33) : Value).ownBlock ∧ some k_ ≠ ((.slice Ao36 t506.length co36) : Value).ownBlock ∧ some k_ ≠ ((.slice Ao41 t509.length co41) : Value).ownBlock ∧ some k_ ≠ ((.slice Ao125 t536.length co125) : Value).ownBlock ∧ some k_ ≠ ((.slice Ao131 t539.length co131) : Value).ownBlock) (.slice Ao22 t491.length co22) t491) ∧ Aside0 (Kd.R (Kd.int .i64) 3 wc w.heap.size (fun k_ => some k_ ≠ ((.slice Ao22 t491.length co22) : Value).ownBlock ∧ some k_ ≠ ((.slice Ao29 t523.length co29) : Value).ownBlock ∧ some k_ ≠ ((.slice Ao33 t524.length co33) : Value).ownBlock ∧ some k_ ≠ ((.slice Ao36 t506.length co36) : Value).ownBlock ∧ some k_ ≠ ((.slice Ao41 t509.length co41) : Value).ownBlock ∧ some k_ ≠ ((.slice Ao125 t536.length co125) : Value).ownBlock ∧ some k_ ≠ ((.slice Ao131 t539.length co131) : Value).ownBlock) (.slice Ao25 t494.length co25) t494) ∧ Aside0 (Kd.R (Kd.int .i64) 3 wc w.heap.size (fun k_ => some k_ ≠ ((.slice Ao22 t491.length co22) : Value).ownBlock ∧ some k_ ≠ ((.slice Ao25 t494.length co25) : Value).ownBlock ∧ some k_ ≠ ((.slice Ao33 t524.length co33) : Value).ownBlock ∧ some k_ ≠ ((.slice Ao36 t506.length co36) : Value).ownBlock ∧ some k_ ≠ ((.slice Ao41 t509.length co41) : Value).ownBlock ∧ some k_ ≠ ((.slice Ao125 t536.length co125) : Value).ownBlock ∧ some k_ ≠ ((.slice Ao131 t539.length co131) : Value).ownBlock) (.slice Ao29 t523.length co29) t523) ∧ Aside0 (Kd.R (Kd.int .i64) 3 wc w.heap.size (fun k_ => some k_ ≠ ((.slice Ao22 t491.length co22) : Value).ownBlock ∧ some k_ ≠ ((.slice Ao25 t494.length co25) : Value).ownBlock ∧ some k_ ≠ ((.slice Ao29 t523.length co29) : Value).ownBlock ∧ some k_ ≠ ((.slice Ao36 t506.length co36) : Value).ownBlock ∧ some k_ ≠ ((.slice Ao41 t509.length co41) : Value).ownBlock ∧ some k_ ≠ ((.slice Ao125 t536.length co125) : Value).ownBlock ∧ some k_ ≠ ((.slice Ao131 t539.length co131) : Value).ownBlock) (.slice Ao33 t524.length co33) t524) ∧ Aside0 (Kd.R (Kd.int .i64) 3 wc w.heap.size (fun k_ => some k_ ≠ ((.slice Ao22 t491.length co22) : Value).ownBlock ∧ some k_ ≠ ((.slice Ao25 t494.length co25) : Value).ownBlock ∧ some k_ ≠ ((.slice Ao29 t523.length co29) : Value).ownBlock ∧ some k_ ≠ ((.slice Ao33 t524.length co33) : Value).ownBlock ∧ some k_ ≠ ((.slice Ao41 t509.length co41) : Value).ownBlock ∧ some k_ ≠ ((.slice Ao125 t536.length co125) : Value).ownBlock ∧ some k_ ≠ ((.slice Ao131 t539.length co131) : Value).ownBlock) (.slice Ao36 t506.length co36) t527) ∧ Aside0 (Kd.R (Kd.int .i64) 3 wc w.heap.size (fun k_ => some k_ ≠ ((.slice Ao22 t491.length co22) : Value).ownBlock ∧ some k_ ≠ ((.slice Ao25 t494.length co25) : Value).ownBlock ∧ some k_ ≠ ((.slice Ao29 t523.length co29) : Value).ownBlock ∧ some k_ ≠ ((.slice Ao33 t524.length co33) : Value).ownBlock ∧ some k_ ≠ ((.slice Ao36 t506.length co36) : Value).ownBlock ∧ some k_ ≠ ((.slice Ao125 t536.length co125) : Value).ownBlock ∧ some k_ ≠ ((.slice Ao131 t539.length co131) : Value).ownBlock) (.slice Ao41 t509.length co41) t528) ∧ Aside0 (Kd.R (Kd.int .i64) 3 wc w.heap.size (fun k_ => some k_ ≠ ((.slice Ao22 t491.length co22) : Value).ownBlock ∧ some k_ ≠ ((.slice Ao25 t494.length co25) : Value).ownBlock ∧ some k_ ≠ ((.slice Ao29 t523.length co29) : Value).ownBlock ∧ some k_ ≠ ((.slice Ao33 t524.length co33) : Value).ownBlock ∧ some k_ ≠ ((.slice Ao36 t506.length co36) : Value).ownBlock ∧ some k_ ≠ ((.slice Ao41 t509.length co41) : Value).ownBlock ∧ some k_ ≠ ((.slice Ao131 t539.length co131) : Value).ownBlock) (.slice Ao125 t536.length co125) t536) ∧ Aside0 (Kd.R (Kd.int .i64) 3 wc w.heap.size (fun k_ => some k_ ≠ ((.slice Ao22 t491.length co22) : Value).ownBlock ∧ some k_ ≠ ((.slice Ao25 t494.length co25) : Value).ownBlock ∧ some k_ ≠ ((.slice Ao29 t523.length co29) : Value).ownBlock ∧ some k_ ≠ ((.slice Ao33 t524.length co33) : Value).ownBlock ∧ some k_ ≠ ((.slice Ao36 t506.length co36) : Value).ownBlock ∧ some k_ ≠ ((.slice Ao41 t509.length co41) : Value).ownBlock ∧ some k_ ≠ ((.slice Ao125 t536.length co125) : Value).ownBlock) (.slice Ao131 t539.length co131) t539) ∧ Aside0 (wc.heap[gb483]? = some (.cells #[(.slice A0_0 l0_0.length c0_0), (.slice A0_1 l0_1.length c0_1)] 36 (0, 0))) ∧ Aside0 (wc.heap[gb498]? = some (.cells #[(.slice Ao22 t491.length co22), (.slice Ao25 t494.length co25)] 25 (0, 0))) ∧ Aside0 (wc.heap[gb505]? = some (.cells #[(.slice Ao29 t523.length co29), (.slice Ao33 t524.length co33)] 25 (0, 0))) ∧ Aside0 (wc.heap[gb513]? = some (.cells #[(.slice Ao36 t506.length co36), (.slice Ao41 t509.length co41)] 25 (0, 0))) ∧ Aside0 (wc.heap[gb543]? = some (.cells #[(.slice Ao125 t536.length co125), (.slice Ao131 t539.length co131)] 25 (0, 0))) ∧ Aside0 (Below w.heap.size w wc))
           case first =>
            have H := HC109.out; clear HC109; replace H := Option.bind_eq_some_iff.mp H; obtain ⟨t544, A1320, H⟩ := H; replace H : (if t544 = true then (laws_FnExactEdgeContract.j2 kj64 t526 (t542 != t497) t527 t528) else (laws_FnExactEdgeContract.j2 kj64 t526 true t527 t528)) = some r := H; have A132 := Az A1320; clear A1320
            by_cases c133 : t544 = true
            ·
             subst c133
             have H1 : (laws_FnExactEdgeContract.j2 kj64 t526 (t542 != t497) t527 t528) = some r := by rw [if_pos rfl] at H; exact H
             clear H; have H := H1; clear H1; have H' := Az H; clear H; have hnb134 := NB543_483.out; have hnc134 := NB483_543.out; have hnb135 := NB543_498.out; have hnc135 := NB498_543.out; have hnb136 := NB543_505.out; have hnc136 := NB505_543.out; have hnb137 := NB543_513.out; have hnc137 := NB513_543.out; have hcz138_0 : w124.cell? ⟨gb543, 0, none⟩ = some (.slice none 0 0) := (blk_cell BK543.out 0).trans rfl; have hcz138_1 : w124.cell? ⟨gb543, 1, none⟩ = some (.slice none 0 0) := (blk_cell BK543.out 1).trans rfl; have hfz138_0 := blk_frozen BK543.out 0; have hfz138_1 := blk_frozen BK543.out 1; have hnb139 := NB498_483.out; have hnc139 := NB483_498.out; have hnb140 := NB498_505.out; have hnc140 := NB505_498.out; have hnb141 := NB498_513.out; have hnc141 := NB513_498.out; have hcz142_0 : w124.cell? ⟨gb498, 0, none⟩ = some (.slice Ao22 t491.length co22) := (blk_cell BK498.out 0).trans rfl; have hcz142_1 : w124.cell? ⟨gb498, 1, none⟩ = some (.slice Ao25 t494.length co25) := (blk_cell BK498.out 1).trans rfl; have hfz142_0 := blk_frozen BK498.out 0; have hfz142_1 := blk_frozen BK498.out 1
             go_wp2_with (first | ((with_reducible refine gate_callee (f := 22) rfl ?_); refine goesL_ (some 86) rfl rfl Try.func22 (by kernel_rfl) rfl #[.agg #[.slice Ao125 t536.length co125, .slice Ao131 t539.length co131], .agg #[.slice Ao22 t491.length co22, .slice Ao25 t494.length co25]] rfl (by (try simp only [List.map_toArray, List.map_cons, List.map_nil]); first | done | rfl | (simp only [List.length_drop, List.length_take]; rfl)) ?_; (with_reducible refine (laws_eqMap.calls kj64 _ _ t536 _ _ t539 _ _ t491 _ _ t494 true _ ?side1 ?side2 ?side3 ?side4 ?side5 ?side6 ?side7 ?side8 A132.out).mono ?_); (case side1 => refine (Kd.R_reads' (e := 3) (base := w.heap.size) (ok := fun k_ => ((((((((some k_ ≠ (.slice Ao131 t539.length co131 : Value).ownBlock ∧ some k_ ≠ (.slice Ao22 t491.length co22 : Value).ownBlock) ∧ some k_ ≠ (.slice Ao25 t494.length co25 : Value).ownBlock) ∧ some k_ ≠ (.slice Ao29 t523.length co29 : Value).ownBlock) ∧ some k_ ≠ (.slice Ao33 t524.length co33 : Value).ownBlock) ∧ some k_ ≠ (.slice Ao36 t506.length co36 : Value).ownBlock) ∧ some k_ ≠ (.slice Ao41 t509.length co41 : Value).ownBlock) ∧ some k_ ≠ (.slice Ao121 t530.length co121 : Value).ownBlock) ∧ some k_ ≠ (.slice Ao122 t533.length co122 : Value).ownBlock)) (n := t536.length) (c := co125) ?_).2.2; exact (by (with_reducible repeat (first | apply Kd.R_alloc | apply Kd.R_drewN | apply Kd.R_drew)); exact (Kd.R_mono (Kd.R_far (p := ⟨gb543, 1, none⟩) (Kd.R_far (p := ⟨gb543, 0, none⟩) (Kd.R_types HO538.out BK543.out (by decide)) (fun _ hk => hk.2) (.slice Ao125 t536.length co125)) (fun _ hk => hk.2) (.slice Ao131 t539.length co131)) (fun _ h_ => h_.1)))); (case side2 => exact (Kd.R_reads' HO538.out).2.1); (case side3 => refine (Kd.R_reads' (e := 3) (base := w.heap.size) (ok := fun k_ => ((((((((some k_ ≠ (.slice Ao125 t536.length co125 : Value).ownBlock ∧ some k_ ≠ (.slice Ao22 t491.length co22 : Value).ownBlock) ∧ some k_ ≠ (.slice Ao25 t494.length co25 : Value).ownBlock) ∧ some k_ ≠ (.slice Ao29 t523.length co29 : Value).ownBlock) ∧ some k_ ≠ (.slice Ao33 t524.length co33 : Value).ownBlock) ∧ some k_ ≠ (.slice Ao36 t506.length co36 : Value).ownBlock) ∧ some k_ ≠ (.slice Ao41 t509.length co41 : Value).ownBlock) ∧ some k_ ≠ (.slice Ao121 t530.length co121 : Value).ownBlock) ∧ some k_ ≠ (.slice Ao122 t533.length co122 : Value).ownBlock)) (n := t539.length) (c := co131) ?_).2.2; exact (by (with_reducible repeat (first | apply Kd.R_alloc | apply Kd.R_drewN | apply Kd.R_drew)); exact (Kd.R_mono (Kd.R_far (p := ⟨gb543, 1, none⟩) (Kd.R_far (p := ⟨gb543, 0, none⟩) (Kd.R_types HO541.out BK543.out (by decide)) (fun _ hk => hk.2) (.slice Ao125 t536.length co125)) (fun _ hk => hk.2) (.slice Ao131 t539.length co131)) (fun _ h_ => h_.1)))); (case side4 => exact (Kd.R_reads' HO541.out).2.1); (case side5 => refine (Kd.R_reads' (e := 3) (base := w.heap.size) (ok := fun k_ => (((((some k_ ≠ (.slice Ao25 t494.length co25 : Value).ownBlock ∧ (some k_ ≠ (.slice Ao29 t523.length co29 : Value).ownBlock ∧ (some k_ ≠ (.slice Ao33 t524.length co33 : Value).ownBlock ∧ (some k_ ≠ (.slice Ao36 t506.length co36 : Value).ownBlock ∧ some k_ ≠ (.slice Ao41 t509.length co41 : Value).ownBlock)))) ∧ some k_ ≠ (.slice Ao121 t530.length co121 : Value).ownBlock) ∧ some k_ ≠ (.slice Ao122 t533.length co122 : Value).ownBlock) ∧ some k_ ≠ (.slice Ao125 t536.length co125 : Value).ownBlock) ∧ some k_ ≠ (.slice Ao131 t539.length co131 : Value).ownBlock)) (n := t491.length) (c := co22) ?_).2.2; exact (by (with_reducible repeat (first | apply Kd.R_alloc | apply Kd.R_drewN | apply Kd.R_drew)); exact (Kd.R_mono (Kd.R_far (p := ⟨gb543, 1, none⟩) (Kd.R_far (p := ⟨gb543, 0, none⟩) (Kd.R_types HO_Z2.out BK543.out (by decide)) (fun _ hk => hk.2) (.slice Ao125 t536.length co125)) (fun _ hk => hk.2) (.slice Ao131 t539.length co131)) (fun _ h_ => h_.1)))); (case side6 => exact (Kd.R_reads' HO_Z2.out).2.1); (case side7 => refine (Kd.R_reads' (e := 3) (base := w.heap.size) (ok := fun k_ => (((((some k_ ≠ (.slice Ao22 t491.length co22 : Value).ownBlock ∧ (some k_ ≠ (.slice Ao29 t523.length co29 : Value).ownBlock ∧ (some k_ ≠ (.slice Ao33 t524.length co33 : Value).ownBlock ∧ (some k_ ≠ (.slice Ao36 t506.length co36 : Value).ownBlock ∧ some k_ ≠ (.slice Ao41 t509.length co41 : Value).ownBlock)))) ∧ some k_ ≠ (.slice Ao121 t530.length co121 : Value).ownBlock) ∧ some k_ ≠ (.slice Ao122 t533.length co122 : Value).ownBlock) ∧ some k_ ≠ (.slice Ao125 t536.length co125 : Value).ownBlock) ∧ some k_ ≠ (.slice Ao131 t539.length co131 : Value).ownBlock)) (n := t494.length) (c := co25) ?_).2.2; exact (by (with_reducible repeat (first | apply Kd.R_alloc | apply Kd.R_drewN | apply Kd.R_drew)); exact (Kd.R_mono (Kd.R_far (p := ⟨gb543, 1, none⟩) (Kd.R_far (p := ⟨gb543, 0, none⟩) (Kd.R_types HO_Z3.out BK543.out (by decide)) (fun _ hk => hk.2) (.slice Ao125 t536.length co125)) (fun _ hk => hk.2) (.slice Ao131 t539.length co131)) (fun _ h_ => h_.1)))); (case side8 => exact (Kd.R_reads' HO_Z3.out).2.1); rintro e w143 ⟨rfl, hb⟩; refine ⟨_, rfl, ?_⟩; have n0 := Az (Kd.R_below (by (with_reducible repeat (first | apply Kd.R_alloc | apply Kd.R_drewN | apply Kd.R_drew)); exact (Kd.R_mono (Kd.R_far (p := ⟨gb543, 1, none⟩) (Kd.R_far (p := ⟨gb543, 0, none⟩) (Kd.R_types HO_Z2.out BK543.out (by decide)) (fun _ hk => hk.2) (.slice Ao125 t536.length co125)) (fun _ hk => hk.2) (.slice Ao131 t539.length co131)) (fun _ h_ => h_.1))) hb); have n1 := Az (Kd.R_below (by (with_reducible repeat (first | apply Kd.R_alloc | apply Kd.R_drewN | apply Kd.R_drew)); exact (Kd.R_mono (Kd.R_far (p := ⟨gb543, 1, none⟩) (Kd.R_far (p := ⟨gb543, 0, none⟩) (Kd.R_types HO_Z3.out BK543.out (by decide)) (fun _ hk => hk.2) (.slice Ao125 t536.length co125)) (fun _ hk => hk.2) (.slice Ao131 t539.length co131)) (fun _ h_ => h_.1))) hb); have n2 := Az (Kd.R_below (by (with_reducible repeat (first | apply Kd.R_alloc | apply Kd.R_drewN | apply Kd.R_drew)); exact (Kd.R_mono (Kd.R_far (p := ⟨gb543, 1, none⟩) (Kd.R_far (p := ⟨gb543, 0, none⟩) (Kd.R_types HO_Z4.out BK543.out (by decide)) (fun _ hk => hk.2) (.slice Ao125 t536.length co125)) (fun _ hk => hk.2) (.slice Ao131 t539.length co131)) (fun _ h_ => h_.1))) hb); have n3 := Az (Kd.R_below (by (with_reducible repeat (first | apply Kd.R_alloc | apply Kd.R_drewN | apply Kd.R_drew)); exact (Kd.R_mono (Kd.R_far (p := ⟨gb543, 1, none⟩) (Kd.R_far (p := ⟨gb543, 0, none⟩) (Kd.R_types HO_Z5.out BK543.out (by decide)) (fun _ hk => hk.2) (.slice Ao125 t536.length co125)) (fun _ hk => hk.2) (.slice Ao131 t539.length co131)) (fun _ h_ => h_.1))) hb); have n4 := Az (Kd.R_below (by (with_reducible repeat (first | apply Kd.R_alloc | apply Kd.R_drewN | apply Kd.R_drew)); exact (Kd.R_mono (Kd.R_far (p := ⟨gb543, 1, none⟩) (Kd.R_far (p := ⟨gb543, 0, none⟩) (Kd.R_types HO_Z6.out BK543.out (by decide)) (fun _ hk => hk.2) (.slice Ao125 t536.length co125)) (fun _ hk => hk.2) (.slice Ao131 t539.length co131)) (fun _ h_ => h_.1))) hb); have n5 := Az (Kd.R_below (by (with_reducible repeat (first | apply Kd.R_alloc | apply Kd.R_drewN | apply Kd.R_drew)); exact (Kd.R_mono (Kd.R_far (p := ⟨gb543, 1, none⟩) (Kd.R_far (p := ⟨gb543, 0, none⟩) (Kd.R_types HO_Z7.out BK543.out (by decide)) (fun _ hk => hk.2) (.slice Ao125 t536.length co125)) (fun _ hk => hk.2) (.slice Ao131 t539.length co131)) (fun _ h_ => h_.1))) hb); have n6 := Az (Kd.R_below (by (with_reducible repeat (first | apply Kd.R_alloc | apply Kd.R_drewN | apply Kd.R_drew)); exact (Kd.R_mono (Kd.R_far (p := ⟨gb543, 1, none⟩) (Kd.R_far (p := ⟨gb543, 0, none⟩) (Kd.R_types HO532.out BK543.out (by decide)) (fun _ hk => hk.2) (.slice Ao125 t536.length co125)) (fun _ hk => hk.2) (.slice Ao131 t539.length co131)) (fun _ h_ => h_.1))) hb); have n7 := Az (Kd.R_below (by (with_reducible repeat (first | apply Kd.R_alloc | apply Kd.R_drewN | apply Kd.R_drew)); exact (Kd.R_mono (Kd.R_far (p := ⟨gb543, 1, none⟩) (Kd.R_far (p := ⟨gb543, 0, none⟩) (Kd.R_types HO535.out BK543.out (by decide)) (fun _ hk => hk.2) (.slice Ao125 t536.length co125)) (fun _ hk => hk.2) (.slice Ao131 t539.length co131)) (fun _ h_ => h_.1))) hb); have n8 := Az (Kd.R_below (by (with_reducible repeat (first | apply Kd.R_alloc | apply Kd.R_drewN | apply Kd.R_drew)); exact (Kd.R_mono (Kd.R_far (p := ⟨gb543, 1, none⟩) (Kd.R_far (p := ⟨gb543, 0, none⟩) (Kd.R_types HO538.out BK543.out (by decide)) (fun _ hk => hk.2) (.slice Ao125 t536.length co125)) (fun _ hk => hk.2) (.slice Ao131 t539.length co131)) (fun _ h_ => h_.1))) hb); have n9 := Az (Kd.R_below (by (with_reducible repeat (first | apply Kd.R_alloc | apply Kd.R_drewN | apply Kd.R_drew)); exact (Kd.R_mono (Kd.R_far (p := ⟨gb543, 1, none⟩) (Kd.R_far (p := ⟨gb543, 0, none⟩) (Kd.R_types HO541.out BK543.out (by decide)) (fun _ hk => hk.2) (.slice Ao125 t536.length co125)) (fun _ hk => hk.2) (.slice Ao131 t539.length co131)) (fun _ h_ => h_.1))) hb); have n10 := Az (blk_below (g := gb483) (o := .cells #[.slice A0_0 l0_0.length c0_0, .slice A0_1 l0_1.length c0_1] 36 (0, 0)) (by (with_reducible repeat (first | refine blk_drewN ?_ _ | refine blk_drew ?_ | refine blk_alloc ?_ _)); refine blk_far ?_ NB483_543.out _; (with_reducible repeat (first | refine blk_drewN ?_ _ | refine blk_drew ?_ | refine blk_alloc ?_ _)); refine blk_far ?_ NB483_543.out _; (with_reducible repeat (first | refine blk_drewN ?_ _ | refine blk_drew ?_ | refine blk_alloc ?_ _)); exact BK483.out) hb); have n11 := Az (blk_below (g := gb498) (o := .cells #[.slice Ao22 t491.length co22, .slice Ao25 t494.length co25] 25 (0, 0)) (by (with_reducible repeat (first | refine blk_drewN ?_ _ | refine blk_drew ?_ | refine blk_alloc ?_ _)); refine blk_far ?_ NB498_543.out _; (with_reducible repeat (first | refine blk_drewN ?_ _ | refine blk_drew ?_ | refine blk_alloc ?_ _)); refine blk_far ?_ NB498_543.out _; (with_reducible repeat (first | refine blk_drewN ?_ _ | refine blk_drew ?_ | refine blk_alloc ?_ _)); exact BK498.out) hb); have n12 := Az (blk_below (g := gb505) (o := .cells #[.slice Ao29 t523.length co29, .slice Ao33 t524.length co33] 25 (0, 0)) (by (with_reducible repeat (first | refine blk_drewN ?_ _ | refine blk_drew ?_ | refine blk_alloc ?_ _)); refine blk_far ?_ NB505_543.out _; (with_reducible repeat (first | refine blk_drewN ?_ _ | refine blk_drew ?_ | refine blk_alloc ?_ _)); refine blk_far ?_ NB505_543.out _; (with_reducible repeat (first | refine blk_drewN ?_ _ | refine blk_drew ?_ | refine blk_alloc ?_ _)); exact BK505.out) hb); have n13 := Az (blk_below (g := gb513) (o := .cells #[.slice Ao36 t506.length co36, .slice Ao41 t509.length co41] 25 (0, 0)) (by (with_reducible repeat (first | refine blk_drewN ?_ _ | refine blk_drew ?_ | refine blk_alloc ?_ _)); refine blk_far ?_ NB513_543.out _; (with_reducible repeat (first | refine blk_drewN ?_ _ | refine blk_drew ?_ | refine blk_alloc ?_ _)); refine blk_far ?_ NB513_543.out _; (with_reducible repeat (first | refine blk_drewN ?_ _ | refine blk_drew ?_ | refine blk_alloc ?_ _)); exact BK513.out) hb); have n14 := Az (blk_below (g := gb543) (o := .cells #[.slice Ao125 t536.length co125, .slice Ao131 t539.length co131] 25 (0, 0)) (by (with_reducible repeat (first | refine blk_drewN ?_ _ | refine blk_drew ?_ | refine blk_alloc ?_ _)); refine blk_put (cs := #[.slice Ao125 t536.length co125, .slice none 0 0]) ?_ 1 _ rfl; (with_reducible repeat (first | refine blk_drewN ?_ _ | refine blk_drew ?_ | refine blk_alloc ?_ _)); refine blk_put (cs := #[.slice none 0 0, .slice none 0 0]) ?_ 0 _ rfl; (with_reducible repeat (first | refine blk_drewN ?_ _ | refine blk_drew ?_ | refine blk_alloc ?_ _)); exact BK543.out) hb); have n15 := Az (below_step (bU5 HB.out GE483.out GE498.out GE505.out GE513.out GE543.out) hb); clear HO_Z2 HO_Z3 HO_Z4 HO_Z5 HO_Z6 HO_Z7 HO532 HO535 HO538 HO541 BK483 BK498 BK505 BK513 BK543 HB; have HO_Z2 := n0; have HO_Z3 := n1; have HO_Z4 := n2; have HO_Z5 := n3; have HO_Z6 := n4; have HO_Z7 := n5; have HO532 := n6; have HO535 := n7; have HO538 := n8; have HO541 := n9; have BK483 := n10; have BK498 := n11; have BK505 := n12; have BK513 := n13; have BK543 := n14; have HB := n15; clear n0 n1 n2 n3 n4 n5 n6 n7 n8 n9 n10 n11 n12 n13 n14 n15; (try clear hb); (try clear hb2); (try clear hk); (try clear hi)))
             go_meet
             case rel => exact ⟨_, ((t542 != t497)), rS, H', ⟨by have := HJ11.out; have := HJ64.out; first | omega | exact Nat.le_refl _⟩, ⟨by (try simp only [hlZ4_64]); (try simp only [hlZ5_64]); (with_reducible repeat (first | apply Kd.R_alloc | apply Kd.R_drewN | apply Kd.R_drew)); exact Kd.R_mono HO_Z2.out (fun _ hk => ⟨hk.1.1.1.1.1, ⟨hk.1.1.1.1.2.1, ⟨hk.1.1.1.1.2.2.1, ⟨hk.1.1.1.1.2.2.2.1, ⟨hk.1.1.1.1.2.2.2.2, ⟨hk.1.2, hk.2⟩⟩⟩⟩⟩⟩)⟩, ⟨by (try simp only [hlZ4_64]); (try simp only [hlZ5_64]); (with_reducible repeat (first | apply Kd.R_alloc | apply Kd.R_drewN | apply Kd.R_drew)); exact Kd.R_mono HO_Z3.out (fun _ hk => ⟨hk.1.1.1.1.1, ⟨hk.1.1.1.1.2.1, ⟨hk.1.1.1.1.2.2.1, ⟨hk.1.1.1.1.2.2.2.1, ⟨hk.1.1.1.1.2.2.2.2, ⟨hk.1.2, hk.2⟩⟩⟩⟩⟩⟩)⟩, ⟨by (try simp only [hlZ4_64]); (try simp only [hlZ5_64]); (with_reducible repeat (first | apply Kd.R_alloc | apply Kd.R_drewN | apply Kd.R_drew)); exact Kd.R_mono HO_Z4.out (fun _ hk => ⟨hk.1.1.1.1.1, ⟨hk.1.1.1.1.2.1, ⟨hk.1.1.1.1.2.2.1, ⟨hk.1.1.1.1.2.2.2.1, ⟨hk.1.1.1.1.2.2.2.2, ⟨hk.1.2, hk.2⟩⟩⟩⟩⟩⟩)⟩, ⟨by (try simp only [hlZ4_64]); (try simp only [hlZ5_64]); (with_reducible repeat (first | apply Kd.R_alloc | apply Kd.R_drewN | apply Kd.R_drew)); exact Kd.R_mono HO_Z5.out (fun _ hk => ⟨hk.1.1.1.1.1, ⟨hk.1.1.1.1.2.1, ⟨hk.1.1.1.1.2.2.1, ⟨hk.1.1.1.1.2.2.2.1, ⟨hk.1.1.1.1.2.2.2.2, ⟨hk.1.2, hk.2⟩⟩⟩⟩⟩⟩)⟩, ⟨by (try simp only [hlZ4_64]); (try simp only [hlZ5_64]); (with_reducible repeat (first | apply Kd.R_alloc | apply Kd.R_drewN | apply Kd.R_drew)); exact Kd.R_mono HO_Z6.out (fun _ hk => ⟨hk.1.1.1.1.1, ⟨hk.1.1.1.1.2.1, ⟨hk.1.1.1.1.2.2.1, ⟨hk.1.1.1.1.2.2.2.1, ⟨hk.1.1.1.1.2.2.2.2, ⟨hk.1.2, hk.2⟩⟩⟩⟩⟩⟩)⟩, ⟨by (try simp only [hlZ4_64]); (try simp only [hlZ5_64]); (with_reducible repeat (first | apply Kd.R_alloc | apply Kd.R_drewN | apply Kd.R_drew)); exact Kd.R_mono HO_Z7.out (fun _ hk => ⟨hk.1.1.1.1.1, ⟨hk.1.1.1.1.2.1, ⟨hk.1.1.1.1.2.2.1, ⟨hk.1.1.1.1.2.2.2.1, ⟨hk.1.1.1.1.2.2.2.2, ⟨hk.1.2, hk.2⟩⟩⟩⟩⟩⟩)⟩, ⟨by (try simp only [hlZ4_64]); (try simp only [hlZ5_64]); (with_reducible repeat (first | apply Kd.R_alloc | apply Kd.R_drewN | apply Kd.R_drew)); exact Kd.R_mono HO538.out (fun _ hk => ⟨hk.1.1.1.1.1.1.1.2, ⟨hk.1.1.1.1.1.1.2, ⟨hk.1.1.1.1.1.2, ⟨hk.1.1.1.1.2, ⟨hk.1.1.1.2, ⟨hk.1.1.2, hk.1.1.1.1.1.1.1.1⟩⟩⟩⟩⟩⟩)⟩, ⟨by (try simp only [hlZ4_64]); (try simp only [hlZ5_64]); (with_reducible repeat (first | apply Kd.R_alloc | apply Kd.R_drewN | apply Kd.R_drew)); exact Kd.R_mono HO541.out (fun _ hk => ⟨hk.1.1.1.1.1.1.1.2, ⟨hk.1.1.1.1.1.1.2, ⟨hk.1.1.1.1.1.2, ⟨hk.1.1.1.1.2, ⟨hk.1.1.1.2, ⟨hk.1.1.2, hk.1.1.1.1.1.1.1.1⟩⟩⟩⟩⟩⟩)⟩, ⟨by (try simp only [hlZ4_64]); (try simp only [hlZ5_64]); (with_reducible repeat (first | refine blk_drewN ?_ _ | refine blk_drew ?_ | refine blk_alloc ?_ _)); exact BK483.out⟩, ⟨by (try simp only [hlZ4_64]); (try simp only [hlZ5_64]); (with_reducible repeat (first | refine blk_drewN ?_ _ | refine blk_drew ?_ | refine blk_alloc ?_ _)); exact BK498.out⟩, ⟨by (try simp only [hlZ4_64]); (try simp only [hlZ5_64]); (with_reducible repeat (first | refine blk_drewN ?_ _ | refine blk_drew ?_ | refine blk_alloc ?_ _)); exact BK505.out⟩, ⟨by (try simp only [hlZ4_64]); (try simp only [hlZ5_64]); (with_reducible repeat (first | refine blk_drewN ?_ _ | refine blk_drew ?_ | refine blk_alloc ?_ _)); exact BK513.out⟩, ⟨by (try simp only [hlZ4_64]); (try simp only [hlZ5_64]); (with_reducible repeat (first | refine blk_drewN ?_ _ | refine blk_drew ?_ | refine blk_alloc ?_ _)); exact BK543.out⟩, ⟨bU5 HB.out GE483.out GE498.out GE505.out GE513.out GE543.out⟩⟩
            ·
             replace c133 := Bool.eq_false_iff.mpr c133; subst c133
             have H1 : (laws_FnExactEdgeContract.j2 kj64 t526 true t527 t528) = some r := by rw [if_neg (show ¬ (false = true) by decide)] at H; exact H
             clear H; have H := H1; clear H1; have H' := Az H; clear H; have hnb144 := NB543_483.out; have hnc144 := NB483_543.out; have hnb145 := NB543_498.out; have hnc145 := NB498_543.out; have hnb146 := NB543_505.out; have hnc146 := NB505_543.out; have hnb147 := NB543_513.out; have hnc147 := NB513_543.out; have hcz148_0 : w124.cell? ⟨gb543, 0, none⟩ = some (.slice none 0 0) := (blk_cell BK543.out 0).trans rfl; have hcz148_1 : w124.cell? ⟨gb543, 1, none⟩ = some (.slice none 0 0) := (blk_cell BK543.out 1).trans rfl; have hfz148_0 := blk_frozen BK543.out 0; have hfz148_1 := blk_frozen BK543.out 1; have hnb149 := NB498_483.out; have hnc149 := NB483_498.out; have hnb150 := NB498_505.out; have hnc150 := NB505_498.out; have hnb151 := NB498_513.out; have hnc151 := NB513_498.out; have hcz152_0 : w124.cell? ⟨gb498, 0, none⟩ = some (.slice Ao22 t491.length co22) := (blk_cell BK498.out 0).trans rfl; have hcz152_1 : w124.cell? ⟨gb498, 1, none⟩ = some (.slice Ao25 t494.length co25) := (blk_cell BK498.out 1).trans rfl; have hfz152_0 := blk_frozen BK498.out 0; have hfz152_1 := blk_frozen BK498.out 1
             go_wp2_with (first | ((with_reducible refine gate_callee (f := 22) rfl ?_); refine goesL_ (some 86) rfl rfl Try.func22 (by kernel_rfl) rfl #[.agg #[.slice Ao125 t536.length co125, .slice Ao131 t539.length co131], .agg #[.slice Ao22 t491.length co22, .slice Ao25 t494.length co25]] rfl (by (try simp only [List.map_toArray, List.map_cons, List.map_nil]); first | done | rfl | (simp only [List.length_drop, List.length_take]; rfl)) ?_; (with_reducible refine (laws_eqMap.calls kj64 _ _ t536 _ _ t539 _ _ t491 _ _ t494 false _ ?side1 ?side2 ?side3 ?side4 ?side5 ?side6 ?side7 ?side8 A132.out).mono ?_); (case side1 => refine (Kd.R_reads' (e := 3) (base := w.heap.size) (ok := fun k_ => ((((((((some k_ ≠ (.slice Ao131 t539.length co131 : Value).ownBlock ∧ some k_ ≠ (.slice Ao22 t491.length co22 : Value).ownBlock) ∧ some k_ ≠ (.slice Ao25 t494.length co25 : Value).ownBlock) ∧ some k_ ≠ (.slice Ao29 t523.length co29 : Value).ownBlock) ∧ some k_ ≠ (.slice Ao33 t524.length co33 : Value).ownBlock) ∧ some k_ ≠ (.slice Ao36 t506.length co36 : Value).ownBlock) ∧ some k_ ≠ (.slice Ao41 t509.length co41 : Value).ownBlock) ∧ some k_ ≠ (.slice Ao121 t530.length co121 : Value).ownBlock) ∧ some k_ ≠ (.slice Ao122 t533.length co122 : Value).ownBlock)) (n := t536.length) (c := co125) ?_).2.2; exact (by (with_reducible repeat (first | apply Kd.R_alloc | apply Kd.R_drewN | apply Kd.R_drew)); exact (Kd.R_mono (Kd.R_far (p := ⟨gb543, 1, none⟩) (Kd.R_far (p := ⟨gb543, 0, none⟩) (Kd.R_types HO538.out BK543.out (by decide)) (fun _ hk => hk.2) (.slice Ao125 t536.length co125)) (fun _ hk => hk.2) (.slice Ao131 t539.length co131)) (fun _ h_ => h_.1)))); (case side2 => exact (Kd.R_reads' HO538.out).2.1); (case side3 => refine (Kd.R_reads' (e := 3) (base := w.heap.size) (ok := fun k_ => ((((((((some k_ ≠ (.slice Ao125 t536.length co125 : Value).ownBlock ∧ some k_ ≠ (.slice Ao22 t491.length co22 : Value).ownBlock) ∧ some k_ ≠ (.slice Ao25 t494.length co25 : Value).ownBlock) ∧ some k_ ≠ (.slice Ao29 t523.length co29 : Value).ownBlock) ∧ some k_ ≠ (.slice Ao33 t524.length co33 : Value).ownBlock) ∧ some k_ ≠ (.slice Ao36 t506.length co36 : Value).ownBlock) ∧ some k_ ≠ (.slice Ao41 t509.length co41 : Value).ownBlock) ∧ some k_ ≠ (.slice Ao121 t530.length co121 : Value).ownBlock) ∧ some k_ ≠ (.slice Ao122 t533.length co122 : Value).ownBlock)) (n := t539.length) (c := co131) ?_).2.2; exact (by (with_reducible repeat (first | apply Kd.R_alloc | apply Kd.R_drewN | apply Kd.R_drew)); exact (Kd.R_mono (Kd.R_far (p := ⟨gb543, 1, none⟩) (Kd.R_far (p := ⟨gb543, 0, none⟩) (Kd.R_types HO541.out BK543.out (by decide)) (fun _ hk => hk.2) (.slice Ao125 t536.length co125)) (fun _ hk => hk.2) (.slice Ao131 t539.length co131)) (fun _ h_ => h_.1)))); (case side4 => exact (Kd.R_reads' HO541.out).2.1); (case side5 => refine (Kd.R_reads' (e := 3) (base := w.heap.size) (ok := fun k_ => (((((some k_ ≠ (.slice Ao25 t494.length co25 : Value).ownBlock ∧ (some k_ ≠ (.slice Ao29 t523.length co29 : Value).ownBlock ∧ (some k_ ≠ (.slice Ao33 t524.length co33 : Value).ownBlock ∧ (some k_ ≠ (.slice Ao36 t506.length co36 : Value).ownBlock ∧ some k_ ≠ (.slice Ao41 t509.length co41 : Value).ownBlock)))) ∧ some k_ ≠ (.slice Ao121 t530.length co121 : Value).ownBlock) ∧ some k_ ≠ (.slice Ao122 t533.length co122 : Value).ownBlock) ∧ some k_ ≠ (.slice Ao125 t536.length co125 : Value).ownBlock) ∧ some k_ ≠ (.slice Ao131 t539.length co131 : Value).ownBlock)) (n := t491.length) (c := co22) ?_).2.2; exact (by (with_reducible repeat (first | apply Kd.R_alloc | apply Kd.R_drewN | apply Kd.R_drew)); exact (Kd.R_mono (Kd.R_far (p := ⟨gb543, 1, none⟩) (Kd.R_far (p := ⟨gb543, 0, none⟩) (Kd.R_types HO_Z2.out BK543.out (by decide)) (fun _ hk => hk.2) (.slice Ao125 t536.length co125)) (fun _ hk => hk.2) (.slice Ao131 t539.length co131)) (fun _ h_ => h_.1)))); (case side6 => exact (Kd.R_reads' HO_Z2.out).2.1); (case side7 => refine (Kd.R_reads' (e := 3) (base := w.heap.size) (ok := fun k_ => (((((some k_ ≠ (.slice Ao22 t491.length co22 : Value).ownBlock ∧ (some k_ ≠ (.slice Ao29 t523.length co29 : Value).ownBlock ∧ (some k_ ≠ (.slice Ao33 t524.length co33 : Value).ownBlock ∧ (some k_ ≠ (.slice Ao36 t506.length co36 : Value).ownBlock ∧ some k_ ≠ (.slice Ao41 t509.length co41 : Value).ownBlock)))) ∧ some k_ ≠ (.slice Ao121 t530.length co121 : Value).ownBlock) ∧ some k_ ≠ (.slice Ao122 t533.length co122 : Value).ownBlock) ∧ some k_ ≠ (.slice Ao125 t536.length co125 : Value).ownBlock) ∧ some k_ ≠ (.slice Ao131 t539.length co131 : Value).ownBlock)) (n := t494.length) (c := co25) ?_).2.2; exact (by (with_reducible repeat (first | apply Kd.R_alloc | apply Kd.R_drewN | apply Kd.R_drew)); exact (Kd.R_mono (Kd.R_far (p := ⟨gb543, 1, none⟩) (Kd.R_far (p := ⟨gb543, 0, none⟩) (Kd.R_types HO_Z3.out BK543.out (by decide)) (fun _ hk => hk.2) (.slice Ao125 t536.length co125)) (fun _ hk => hk.2) (.slice Ao131 t539.length co131)) (fun _ h_ => h_.1)))); (case side8 => exact (Kd.R_reads' HO_Z3.out).2.1); rintro e w153 ⟨rfl, hb⟩; refine ⟨_, rfl, ?_⟩; have n0 := Az (Kd.R_below (by (with_reducible repeat (first | apply Kd.R_alloc | apply Kd.R_drewN | apply Kd.R_drew)); exact (Kd.R_mono (Kd.R_far (p := ⟨gb543, 1, none⟩) (Kd.R_far (p := ⟨gb543, 0, none⟩) (Kd.R_types HO_Z2.out BK543.out (by decide)) (fun _ hk => hk.2) (.slice Ao125 t536.length co125)) (fun _ hk => hk.2) (.slice Ao131 t539.length co131)) (fun _ h_ => h_.1))) hb); have n1 := Az (Kd.R_below (by (with_reducible repeat (first | apply Kd.R_alloc | apply Kd.R_drewN | apply Kd.R_drew)); exact (Kd.R_mono (Kd.R_far (p := ⟨gb543, 1, none⟩) (Kd.R_far (p := ⟨gb543, 0, none⟩) (Kd.R_types HO_Z3.out BK543.out (by decide)) (fun _ hk => hk.2) (.slice Ao125 t536.length co125)) (fun _ hk => hk.2) (.slice Ao131 t539.length co131)) (fun _ h_ => h_.1))) hb); have n2 := Az (Kd.R_below (by (with_reducible repeat (first | apply Kd.R_alloc | apply Kd.R_drewN | apply Kd.R_drew)); exact (Kd.R_mono (Kd.R_far (p := ⟨gb543, 1, none⟩) (Kd.R_far (p := ⟨gb543, 0, none⟩) (Kd.R_types HO_Z4.out BK543.out (by decide)) (fun _ hk => hk.2) (.slice Ao125 t536.length co125)) (fun _ hk => hk.2) (.slice Ao131 t539.length co131)) (fun _ h_ => h_.1))) hb); have n3 := Az (Kd.R_below (by (with_reducible repeat (first | apply Kd.R_alloc | apply Kd.R_drewN | apply Kd.R_drew)); exact (Kd.R_mono (Kd.R_far (p := ⟨gb543, 1, none⟩) (Kd.R_far (p := ⟨gb543, 0, none⟩) (Kd.R_types HO_Z5.out BK543.out (by decide)) (fun _ hk => hk.2) (.slice Ao125 t536.length co125)) (fun _ hk => hk.2) (.slice Ao131 t539.length co131)) (fun _ h_ => h_.1))) hb); have n4 := Az (Kd.R_below (by (with_reducible repeat (first | apply Kd.R_alloc | apply Kd.R_drewN | apply Kd.R_drew)); exact (Kd.R_mono (Kd.R_far (p := ⟨gb543, 1, none⟩) (Kd.R_far (p := ⟨gb543, 0, none⟩) (Kd.R_types HO_Z6.out BK543.out (by decide)) (fun _ hk => hk.2) (.slice Ao125 t536.length co125)) (fun _ hk => hk.2) (.slice Ao131 t539.length co131)) (fun _ h_ => h_.1))) hb); have n5 := Az (Kd.R_below (by (with_reducible repeat (first | apply Kd.R_alloc | apply Kd.R_drewN | apply Kd.R_drew)); exact (Kd.R_mono (Kd.R_far (p := ⟨gb543, 1, none⟩) (Kd.R_far (p := ⟨gb543, 0, none⟩) (Kd.R_types HO_Z7.out BK543.out (by decide)) (fun _ hk => hk.2) (.slice Ao125 t536.length co125)) (fun _ hk => hk.2) (.slice Ao131 t539.length co131)) (fun _ h_ => h_.1))) hb); have n6 := Az (Kd.R_below (by (with_reducible repeat (first | apply Kd.R_alloc | apply Kd.R_drewN | apply Kd.R_drew)); exact (Kd.R_mono (Kd.R_far (p := ⟨gb543, 1, none⟩) (Kd.R_far (p := ⟨gb543, 0, none⟩) (Kd.R_types HO532.out BK543.out (by decide)) (fun _ hk => hk.2) (.slice Ao125 t536.length co125)) (fun _ hk => hk.2) (.slice Ao131 t539.length co131)) (fun _ h_ => h_.1))) hb); have n7 := Az (Kd.R_below (by (with_reducible repeat (first | apply Kd.R_alloc | apply Kd.R_drewN | apply Kd.R_drew)); exact (Kd.R_mono (Kd.R_far (p := ⟨gb543, 1, none⟩) (Kd.R_far (p := ⟨gb543, 0, none⟩) (Kd.R_types HO535.out BK543.out (by decide)) (fun _ hk => hk.2) (.slice Ao125 t536.length co125)) (fun _ hk => hk.2) (.slice Ao131 t539.length co131)) (fun _ h_ => h_.1))) hb); have n8 := Az (Kd.R_below (by (with_reducible repeat (first | apply Kd.R_alloc | apply Kd.R_drewN | apply Kd.R_drew)); exact (Kd.R_mono (Kd.R_far (p := ⟨gb543, 1, none⟩) (Kd.R_far (p := ⟨gb543, 0, none⟩) (Kd.R_types HO538.out BK543.out (by decide)) (fun _ hk => hk.2) (.slice Ao125 t536.length co125)) (fun _ hk => hk.2) (.slice Ao131 t539.length co131)) (fun _ h_ => h_.1))) hb); have n9 := Az (Kd.R_below (by (with_reducible repeat (first | apply Kd.R_alloc | apply Kd.R_drewN | apply Kd.R_drew)); exact (Kd.R_mono (Kd.R_far (p := ⟨gb543, 1, none⟩) (Kd.R_far (p := ⟨gb543, 0, none⟩) (Kd.R_types HO541.out BK543.out (by decide)) (fun _ hk => hk.2) (.slice Ao125 t536.length co125)) (fun _ hk => hk.2) (.slice Ao131 t539.length co131)) (fun _ h_ => h_.1))) hb); have n10 := Az (blk_below (g := gb483) (o := .cells #[.slice A0_0 l0_0.length c0_0, .slice A0_1 l0_1.length c0_1] 36 (0, 0)) (by (with_reducible repeat (first | refine blk_drewN ?_ _ | refine blk_drew ?_ | refine blk_alloc ?_ _)); refine blk_far ?_ NB483_543.out _; (with_reducible repeat (first | refine blk_drewN ?_ _ | refine blk_drew ?_ | refine blk_alloc ?_ _)); refine blk_far ?_ NB483_543.out _; (with_reducible repeat (first | refine blk_drewN ?_ _ | refine blk_drew ?_ | refine blk_alloc ?_ _)); exact BK483.out) hb); have n11 := Az (blk_below (g := gb498) (o := .cells #[.slice Ao22 t491.length co22, .slice Ao25 t494.length co25] 25 (0, 0)) (by (with_reducible repeat (first | refine blk_drewN ?_ _ | refine blk_drew ?_ | refine blk_alloc ?_ _)); refine blk_far ?_ NB498_543.out _; (with_reducible repeat (first | refine blk_drewN ?_ _ | refine blk_drew ?_ | refine blk_alloc ?_ _)); refine blk_far ?_ NB498_543.out _; (with_reducible repeat (first | refine blk_drewN ?_ _ | refine blk_drew ?_ | refine blk_alloc ?_ _)); exact BK498.out) hb); have n12 := Az (blk_below (g := gb505) (o := .cells #[.slice Ao29 t523.length co29, .slice Ao33 t524.length co33] 25 (0, 0)) (by (with_reducible repeat (first | refine blk_drewN ?_ _ | refine blk_drew ?_ | refine blk_alloc ?_ _)); refine blk_far ?_ NB505_543.out _; (with_reducible repeat (first | refine blk_drewN ?_ _ | refine blk_drew ?_ | refine blk_alloc ?_ _)); refine blk_far ?_ NB505_543.out _; (with_reducible repeat (first | refine blk_drewN ?_ _ | refine blk_drew ?_ | refine blk_alloc ?_ _)); exact BK505.out) hb); have n13 := Az (blk_below (g := gb513) (o := .cells #[.slice Ao36 t506.length co36, .slice Ao41 t509.length co41] 25 (0, 0)) (by (with_reducible repeat (first | refine blk_drewN ?_ _ | refine blk_drew ?_ | refine blk_alloc ?_ _)); refine blk_far ?_ NB513_543.out _; (with_reducible repeat (first | refine blk_drewN ?_ _ | refine blk_drew ?_ | refine blk_alloc ?_ _)); refine blk_far ?_ NB513_543.out _; (with_reducible repeat (first | refine blk_drewN ?_ _ | refine blk_drew ?_ | refine blk_alloc ?_ _)); exact BK513.out) hb); have n14 := Az (blk_below (g := gb543) (o := .cells #[.slice Ao125 t536.length co125, .slice Ao131 t539.length co131] 25 (0, 0)) (by (with_reducible repeat (first | refine blk_drewN ?_ _ | refine blk_drew ?_ | refine blk_alloc ?_ _)); refine blk_put (cs := #[.slice Ao125 t536.length co125, .slice none 0 0]) ?_ 1 _ rfl; (with_reducible repeat (first | refine blk_drewN ?_ _ | refine blk_drew ?_ | refine blk_alloc ?_ _)); refine blk_put (cs := #[.slice none 0 0, .slice none 0 0]) ?_ 0 _ rfl; (with_reducible repeat (first | refine blk_drewN ?_ _ | refine blk_drew ?_ | refine blk_alloc ?_ _)); exact BK543.out) hb); have n15 := Az (below_step (bU5 HB.out GE483.out GE498.out GE505.out GE513.out GE543.out) hb); clear HO_Z2 HO_Z3 HO_Z4 HO_Z5 HO_Z6 HO_Z7 HO532 HO535 HO538 HO541 BK483 BK498 BK505 BK513 BK543 HB; have HO_Z2 := n0; have HO_Z3 := n1; have HO_Z4 := n2; have HO_Z5 := n3; have HO_Z6 := n4; have HO_Z7 := n5; have HO532 := n6; have HO535 := n7; have HO538 := n8; have HO541 := n9; have BK483 := n10; have BK498 := n11; have BK505 := n12; have BK513 := n13; have BK543 := n14; have HB := n15; clear n0 n1 n2 n3 n4 n5 n6 n7 n8 n9 n10 n11 n12 n13 n14 n15; (try clear hb); (try clear hb2); (try clear hk); (try clear hi)))
             go_meet
             case rel => exact ⟨_, (true), rS, H', ⟨by have := HJ11.out; have := HJ64.out; first | omega | exact Nat.le_refl _⟩, ⟨by (try simp only [hlZ4_64]); (try simp only [hlZ5_64]); (with_reducible repeat (first | apply Kd.R_alloc | apply Kd.R_drewN | apply Kd.R_drew)); exact Kd.R_mono HO_Z2.out (fun _ hk => ⟨hk.1.1.1.1.1, ⟨hk.1.1.1.1.2.1, ⟨hk.1.1.1.1.2.2.1, ⟨hk.1.1.1.1.2.2.2.1, ⟨hk.1.1.1.1.2.2.2.2, ⟨hk.1.2, hk.2⟩⟩⟩⟩⟩⟩)⟩, ⟨by (try simp only [hlZ4_64]); (try simp only [hlZ5_64]); (with_reducible repeat (first | apply Kd.R_alloc | apply Kd.R_drewN | apply Kd.R_drew)); exact Kd.R_mono HO_Z3.out (fun _ hk => ⟨hk.1.1.1.1.1, ⟨hk.1.1.1.1.2.1, ⟨hk.1.1.1.1.2.2.1, ⟨hk.1.1.1.1.2.2.2.1, ⟨hk.1.1.1.1.2.2.2.2, ⟨hk.1.2, hk.2⟩⟩⟩⟩⟩⟩)⟩, ⟨by (try simp only [hlZ4_64]); (try simp only [hlZ5_64]); (with_reducible repeat (first | apply Kd.R_alloc | apply Kd.R_drewN | apply Kd.R_drew)); exact Kd.R_mono HO_Z4.out (fun _ hk => ⟨hk.1.1.1.1.1, ⟨hk.1.1.1.1.2.1, ⟨hk.1.1.1.1.2.2.1, ⟨hk.1.1.1.1.2.2.2.1, ⟨hk.1.1.1.1.2.2.2.2, ⟨hk.1.2, hk.2⟩⟩⟩⟩⟩⟩)⟩, ⟨by (try simp only [hlZ4_64]); (try simp only [hlZ5_64]); (with_reducible repeat (first | apply Kd.R_alloc | apply Kd.R_drewN | apply Kd.R_drew)); exact Kd.R_mono HO_Z5.out (fun _ hk => ⟨hk.1.1.1.1.1, ⟨hk.1.1.1.1.2.1, ⟨hk.1.1.1.1.2.2.1, ⟨hk.1.1.1.1.2.2.2.1, ⟨hk.1.1.1.1.2.2.2.2, ⟨hk.1.2, hk.2⟩⟩⟩⟩⟩⟩)⟩, ⟨by (try simp only [hlZ4_64]); (try simp only [hlZ5_64]); (with_reducible repeat (first | apply Kd.R_alloc | apply Kd.R_drewN | apply Kd.R_drew)); exact Kd.R_mono HO_Z6.out (fun _ hk => ⟨hk.1.1.1.1.1, ⟨hk.1.1.1.1.2.1, ⟨hk.1.1.1.1.2.2.1, ⟨hk.1.1.1.1.2.2.2.1, ⟨hk.1.1.1.1.2.2.2.2, ⟨hk.1.2, hk.2⟩⟩⟩⟩⟩⟩)⟩, ⟨by (try simp only [hlZ4_64]); (try simp only [hlZ5_64]); (with_reducible repeat (first | apply Kd.R_alloc | apply Kd.R_drewN | apply Kd.R_drew)); exact Kd.R_mono HO_Z7.out (fun _ hk => ⟨hk.1.1.1.1.1, ⟨hk.1.1.1.1.2.1, ⟨hk.1.1.1.1.2.2.1, ⟨hk.1.1.1.1.2.2.2.1, ⟨hk.1.1.1.1.2.2.2.2, ⟨hk.1.2, hk.2⟩⟩⟩⟩⟩⟩)⟩, ⟨by (try simp only [hlZ4_64]); (try simp only [hlZ5_64]); (with_reducible repeat (first | apply Kd.R_alloc | apply Kd.R_drewN | apply Kd.R_drew)); exact Kd.R_mono HO538.out (fun _ hk => ⟨hk.1.1.1.1.1.1.1.2, ⟨hk.1.1.1.1.1.1.2, ⟨hk.1.1.1.1.1.2, ⟨hk.1.1.1.1.2, ⟨hk.1.1.1.2, ⟨hk.1.1.2, hk.1.1.1.1.1.1.1.1⟩⟩⟩⟩⟩⟩)⟩, ⟨by (try simp only [hlZ4_64]); (try simp only [hlZ5_64]); (with_reducible repeat (first | apply Kd.R_alloc | apply Kd.R_drewN | apply Kd.R_drew)); exact Kd.R_mono HO541.out (fun _ hk => ⟨hk.1.1.1.1.1.1.1.2, ⟨hk.1.1.1.1.1.1.2, ⟨hk.1.1.1.1.1.2, ⟨hk.1.1.1.1.2, ⟨hk.1.1.1.2, ⟨hk.1.1.2, hk.1.1.1.1.1.1.1.1⟩⟩⟩⟩⟩⟩)⟩, ⟨by (try simp only [hlZ4_64]); (try simp only [hlZ5_64]); (with_reducible repeat (first | refine blk_drewN ?_ _ | refine blk_drew ?_ | refine blk_alloc ?_ _)); exact BK483.out⟩, ⟨by (try simp only [hlZ4_64]); (try simp only [hlZ5_64]); (with_reducible repeat (first | refine blk_drewN ?_ _ | refine blk_drew ?_ | refine blk_alloc ?_ _)); exact BK498.out⟩, ⟨by (try simp only [hlZ4_64]); (try simp only [hlZ5_64]); (with_reducible repeat (first | refine blk_drewN ?_ _ | refine blk_drew ?_ | refine blk_alloc ?_ _)); exact BK505.out⟩, ⟨by (try simp only [hlZ4_64]); (try simp only [hlZ5_64]); (with_reducible repeat (first | refine blk_drewN ?_ _ | refine blk_drew ?_ | refine blk_alloc ?_ _)); exact BK513.out⟩, ⟨by (try simp only [hlZ4_64]); (try simp only [hlZ5_64]); (with_reducible repeat (first | refine blk_drewN ?_ _ | refine blk_drew ?_ | refine blk_alloc ?_ _)); exact BK543.out⟩, ⟨bU5 HB.out GE483.out GE498.out GE505.out GE513.out GE543.out⟩⟩
           case rest =>
            clear HC109; (try clear c1); (try clear c2); (try clear p2); (try clear c3); (try clear c4); (try clear c4b0); (try clear c5); (try clear c6); (try clear c7); (try clear c8); (try clear c9); (try clear c10); (try clear c11); (try clear c12); (try clear c13); (try clear c14); (try clear c15); (try clear c20); (try clear c21); (try clear c22); (try clear c23); (try clear c24); (try clear c30); (try clear c31); (try clear c37); (try clear c38); (try clear c39); (try clear c43); (try clear c44); (try clear c45); (try clear c46); (try clear c48); (try clear c49); (try clear c52); (try clear c53); (try clear c54); (try clear c56); (try clear c57); (try clear c60); (try clear c63); (try clear c71); (try clear c72); (try clear c73); (try clear c76); (try clear c76b0); (try clear c78); (try clear c79); (try clear c80); (try clear c81); (try clear c83); (try clear c84); (try clear c87); (try clear c88); (try clear c89); (try clear c91); (try clear c92); (try clear c95); (try clear c98); (try clear c98b0); (try clear c99); (try clear c100); (try clear c101); (try clear c106); (try clear c106b0); (try clear c106b1); (try clear c110); (try clear c111); (try clear c112); (try clear c117); (try clear c118); (try clear c126); (try clear c127); (try clear c128); (try clear c129); (try clear c133); (try clear c134); (try clear c135); (try clear c136); (try clear c137); (try clear c139); (try clear c140); (try clear c141); (try clear c144); (try clear c145); (try clear c146); (try clear c147); (try clear c149); (try clear c150); (try clear c151); (try clear hcz102_0); (try clear hcz102_1); (try clear hcz104_0); (try clear hcz104_1); (try clear hcz113_0); (try clear hcz113_1); (try clear hcz115_0); (try clear hcz115_1); (try clear hcz119_0); (try clear hcz119_1); (try clear hcz130_0); (try clear hcz130_1); (try clear hcz138_0); (try clear hcz138_1); (try clear hcz142_0); (try clear hcz142_1); (try clear hcz148_0); (try clear hcz148_1); (try clear hcz14_0); (try clear hcz14_1); (try clear hcz152_0); (try clear hcz152_1); (try clear hcz16_0); (try clear hcz16_1); (try clear hcz24_0); (try clear hcz24_1); (try clear hcz26_0); (try clear hcz26_1); (try clear hcz32_0); (try clear hcz32_1); (try clear hcz40_0); (try clear hcz40_1); (try clear hcz47_0); (try clear hcz47_1); (try clear hcz50_0); (try clear hcz50_1); (try clear hcz55_0); (try clear hcz55_1); (try clear hcz58_0); (try clear hcz58_1); (try clear hcz6_0); (try clear hcz6_1); (try clear hcz74_0); (try clear hcz74_1); (try clear hcz82_0); (try clear hcz82_1); (try clear hcz85_0); (try clear hcz85_1); (try clear hcz90_0); (try clear hcz90_1); (try clear hcz93_0); (try clear hcz93_1); (try clear hfz102_0); (try clear hfz102_1); (try clear hfz104_0); (try clear hfz104_1); (try clear hfz113_0); (try clear hfz113_1); (try clear hfz115_0); (try clear hfz115_1); (try clear hfz119_0); (try clear hfz119_1); (try clear hfz130_0); (try clear hfz130_1); (try clear hfz138_0); (try clear hfz138_1); (try clear hfz142_0); (try clear hfz142_1); (try clear hfz148_0); (try clear hfz148_1); (try clear hfz14_0); (try clear hfz14_1); (try clear hfz152_0); (try clear hfz152_1); (try clear hfz16_0); (try clear hfz16_1); (try clear hfz24_0); (try clear hfz24_1); (try clear hfz26_0); (try clear hfz26_1); (try clear hfz32_0); (try clear hfz32_1); (try clear hfz40_0); (try clear hfz40_1); (try clear hfz47_0); (try clear hfz47_1); (try clear hfz50_0); (try clear hfz50_1); (try clear hfz55_0); (try clear hfz55_1); (try clear hfz58_0); (try clear hfz58_1); (try clear hfz6_0); (try clear hfz6_1); (try clear hfz74_0); (try clear hfz74_1); (try clear hfz82_0); (try clear hfz82_1); (try clear hfz85_0); (try clear hfz85_1); (try clear hfz90_0); (try clear hfz90_1); (try clear hfz93_0); (try clear hfz93_1); (try clear p2); obtain ⟨kq, x92_108, rfl, HA, HJ108, HO_Z2, HO_Z3, HO_Z4, HO_Z5, HO_Z6, HO_Z7, HO_Z8, HO_Z9, BK483, BK498, BK505, BK513, BK543, HB⟩ := hcut; have hlZ6_108 := (Kd.R_reads' HO_Z6.out).1; rw [hlZ6_108] at HO_Z6; (try simp only [hlZ6_108]); (try simp only [hlZ6_108] at BK483); (try simp only [hlZ6_108] at BK498); (try simp only [hlZ6_108] at BK505); (try simp only [hlZ6_108] at BK513); (try simp only [hlZ6_108] at BK543); (try simp only [hlZ6_108] at HO_Z2); (try simp only [hlZ6_108] at HO_Z3); (try simp only [hlZ6_108] at HO_Z4); (try simp only [hlZ6_108] at HO_Z5); (try simp only [hlZ6_108] at HO_Z7); (try simp only [hlZ6_108] at HO_Z8); (try simp only [hlZ6_108] at HO_Z9); have hlZ7_108 := (Kd.R_reads' HO_Z7.out).1; rw [hlZ7_108] at HO_Z7; (try simp only [hlZ7_108]); (try simp only [hlZ7_108] at BK483); (try simp only [hlZ7_108] at BK498); (try simp only [hlZ7_108] at BK505); (try simp only [hlZ7_108] at BK513); (try simp only [hlZ7_108] at BK543); (try simp only [hlZ7_108] at HO_Z2); (try simp only [hlZ7_108] at HO_Z3); (try simp only [hlZ7_108] at HO_Z4); (try simp only [hlZ7_108] at HO_Z5); (try simp only [hlZ7_108] at HO_Z6); (try simp only [hlZ7_108] at HO_Z8); (try simp only [hlZ7_108] at HO_Z9)
            cases kq with
            | zero => exact absurd HA.out (by simp [laws_FnExactEdgeContract.j2])
            | succ kj108 =>
             have H := HA.out; clear HA; simp only [laws_FnExactEdgeContract.j2] at H
             by_cases c154 : x92_108 = true
             ·
              subst c154
              have H1 : (some false) = some r := by rw [if_pos rfl] at H; exact H
              clear H; have H := H1; clear H1; obtain rfl := Option.some.inj H
              go_wp2
              go_ret
              exact ⟨rE, bU5 HB.out GE483.out GE498.out GE505.out GE513.out GE543.out⟩
             ·
              replace c154 := Bool.eq_false_iff.mpr c154; subst c154
              have H1 : ((laws_heldMap.f kj108 t527 t528 1).bind fun t545 => (if t545 < 0 then (some false) else (if t545 = t526 then (some true) else (some false)))) = some r := by rw [if_neg (show ¬ (false = true) by decide)] at H; exact H
              clear H; have H := H1; clear H1; replace H := Option.bind_eq_some_iff.mp H; obtain ⟨t545, A1550, H⟩ := H; replace H : (if t545 < 0 then (some false) else (if t545 = t526 then (some true) else (some false))) = some r := H; have A155 := Az A1550; clear A1550
              by_cases c156 : t545 < 0
              ·
               rw [if_pos c156] at H; have c156b0 := decide_eq_true c156; clear c156; obtain rfl := Option.some.inj H; have hnb157 := NB513_483.out; have hnc157 := NB483_513.out; have hnb158 := NB513_498.out; have hnc158 := NB498_513.out; have hnb159 := NB513_505.out; have hnc159 := NB505_513.out; have hnb160 := NB513_543.out; have hnc160 := NB543_513.out; have hcz161_0 : wc.cell? ⟨gb513, 0, none⟩ = some (.slice Ao36 t527.length co36) := (blk_cell BK513.out 0).trans rfl; have hcz161_1 : wc.cell? ⟨gb513, 1, none⟩ = some (.slice Ao41 t528.length co41) := (blk_cell BK513.out 1).trans rfl; have hfz161_0 := blk_frozen BK513.out 0; have hfz161_1 := blk_frozen BK513.out 1
               go_wp2_with (first | ((with_reducible refine gate_callee (f := 24) rfl ?_); refine goesL_ (some 95) rfl rfl Try.func24 (by kernel_rfl) rfl #[.agg #[.slice Ao36 t527.length co36, .slice Ao41 t528.length co41], .int .i64 1] rfl (by (try simp only [List.map_toArray, List.map_cons, List.map_nil]); first | done | rfl | (simp only [List.length_drop, List.length_take]; rfl)) ?_; (with_reducible refine (laws_heldMap.calls kj108 _ _ t527 _ _ t528 1 t545 _ ?side1 ?side2 ?side3 ?side4 A155.out).mono ?_); (case side1 => exact cU ((Kd.R_reads' HO_Z6.out).2.2)); (case side2 => exact (Kd.R_reads' HO_Z6.out).2.1); (case side3 => exact cU ((Kd.R_reads' HO_Z7.out).2.2)); (case side4 => exact (Kd.R_reads' HO_Z7.out).2.1); rintro e w162 ⟨rfl, hb⟩; refine ⟨_, rfl, ?_⟩; have n0 := Az (Kd.R_below (rU HO_Z2.out) hb); have n1 := Az (Kd.R_below (rU HO_Z3.out) hb); have n2 := Az (Kd.R_below (rU HO_Z4.out) hb); have n3 := Az (Kd.R_below (rU HO_Z5.out) hb); have n4 := Az (Kd.R_below (rU HO_Z6.out) hb); have n5 := Az (Kd.R_below (rU HO_Z7.out) hb); have n6 := Az (Kd.R_below (rU HO_Z8.out) hb); have n7 := Az (Kd.R_below (rU HO_Z9.out) hb); have n8 := Az (blk_below (g := gb483) (o := .cells #[.slice A0_0 l0_0.length c0_0, .slice A0_1 l0_1.length c0_1] 36 (0, 0)) (kU BK483.out) hb); have n9 := Az (blk_below (g := gb498) (o := .cells #[.slice Ao22 t491.length co22, .slice Ao25 t494.length co25] 25 (0, 0)) (kU BK498.out) hb); have n10 := Az (blk_below (g := gb505) (o := .cells #[.slice Ao29 t523.length co29, .slice Ao33 t524.length co33] 25 (0, 0)) (kU BK505.out) hb); have n11 := Az (blk_below (g := gb513) (o := .cells #[.slice Ao36 t527.length co36, .slice Ao41 t528.length co41] 25 (0, 0)) (kU BK513.out) hb); have n12 := Az (blk_below (g := gb543) (o := .cells #[.slice Ao125 t536.length co125, .slice Ao131 t539.length co131] 25 (0, 0)) (kU BK543.out) hb); have n13 := Az (below_step (bU5 HB.out GE483.out GE498.out GE505.out GE513.out GE543.out) hb); clear HO_Z2 HO_Z3 HO_Z4 HO_Z5 HO_Z6 HO_Z7 HO_Z8 HO_Z9 BK483 BK498 BK505 BK513 BK543 HB; have HO_Z2 := n0; have HO_Z3 := n1; have HO_Z4 := n2; have HO_Z5 := n3; have HO_Z6 := n4; have HO_Z7 := n5; have HO_Z8 := n6; have HO_Z9 := n7; have BK483 := n8; have BK498 := n9; have BK505 := n10; have BK513 := n11; have BK543 := n12; have HB := n13; clear n0 n1 n2 n3 n4 n5 n6 n7 n8 n9 n10 n11 n12 n13; (try clear hb); (try clear hb2); (try clear hk); (try clear hi)))
               go_ret
               exact ⟨rE, bU5 HB.out GE483.out GE498.out GE505.out GE513.out GE543.out⟩
              ·
               rw [if_neg c156] at H; have c156b0 := decide_eq_false c156; clear c156
               by_cases c163 : t545 = t526
               ·
                rw [if_pos c163] at H; have c163b0 := beq_iff_eq.mpr c163; have c163b1 := bne_eq_false_iff_eq.mpr c163; clear c163; obtain rfl := Option.some.inj H; have hnb164 := NB513_483.out; have hnc164 := NB483_513.out; have hnb165 := NB513_498.out; have hnc165 := NB498_513.out; have hnb166 := NB513_505.out; have hnc166 := NB505_513.out; have hnb167 := NB513_543.out; have hnc167 := NB543_513.out; have hcz168_0 : wc.cell? ⟨gb513, 0, none⟩ = some (.slice Ao36 t527.length co36) := (blk_cell BK513.out 0).trans rfl; have hcz168_1 : wc.cell? ⟨gb513, 1, none⟩ = some (.slice Ao41 t528.length co41) := (blk_cell BK513.out 1).trans rfl; have hfz168_0 := blk_frozen BK513.out 0; have hfz168_1 := blk_frozen BK513.out 1
                go_wp2_with (first | ((with_reducible refine gate_callee (f := 24) rfl ?_); refine goesL_ (some 95) rfl rfl Try.func24 (by kernel_rfl) rfl #[.agg #[.slice Ao36 t527.length co36, .slice Ao41 t528.length co41], .int .i64 1] rfl (by (try simp only [List.map_toArray, List.map_cons, List.map_nil]); first | done | rfl | (simp only [List.length_drop, List.length_take]; rfl)) ?_; (with_reducible refine (laws_heldMap.calls kj108 _ _ t527 _ _ t528 1 t545 _ ?side1 ?side2 ?side3 ?side4 A155.out).mono ?_); (case side1 => exact cU ((Kd.R_reads' HO_Z6.out).2.2)); (case side2 => exact (Kd.R_reads' HO_Z6.out).2.1); (case side3 => exact cU ((Kd.R_reads' HO_Z7.out).2.2)); (case side4 => exact (Kd.R_reads' HO_Z7.out).2.1); rintro e w169 ⟨rfl, hb⟩; refine ⟨_, rfl, ?_⟩; have n0 := Az (Kd.R_below (rU HO_Z2.out) hb); have n1 := Az (Kd.R_below (rU HO_Z3.out) hb); have n2 := Az (Kd.R_below (rU HO_Z4.out) hb); have n3 := Az (Kd.R_below (rU HO_Z5.out) hb); have n4 := Az (Kd.R_below (rU HO_Z6.out) hb); have n5 := Az (Kd.R_below (rU HO_Z7.out) hb); have n6 := Az (Kd.R_below (rU HO_Z8.out) hb); have n7 := Az (Kd.R_below (rU HO_Z9.out) hb); have n8 := Az (blk_below (g := gb483) (o := .cells #[.slice A0_0 l0_0.length c0_0, .slice A0_1 l0_1.length c0_1] 36 (0, 0)) (kU BK483.out) hb); have n9 := Az (blk_below (g := gb498) (o := .cells #[.slice Ao22 t491.length co22, .slice Ao25 t494.length co25] 25 (0, 0)) (kU BK498.out) hb); have n10 := Az (blk_below (g := gb505) (o := .cells #[.slice Ao29 t523.length co29, .slice Ao33 t524.length co33] 25 (0, 0)) (kU BK505.out) hb); have n11 := Az (blk_below (g := gb513) (o := .cells #[.slice Ao36 t527.length co36, .slice Ao41 t528.length co41] 25 (0, 0)) (kU BK513.out) hb); have n12 := Az (blk_below (g := gb543) (o := .cells #[.slice Ao125 t536.length co125, .slice Ao131 t539.length co131] 25 (0, 0)) (kU BK543.out) hb); have n13 := Az (below_step (bU5 HB.out GE483.out GE498.out GE505.out GE513.out GE543.out) hb); clear HO_Z2 HO_Z3 HO_Z4 HO_Z5 HO_Z6 HO_Z7 HO_Z8 HO_Z9 BK483 BK498 BK505 BK513 BK543 HB; have HO_Z2 := n0; have HO_Z3 := n1; have HO_Z4 := n2; have HO_Z5 := n3; have HO_Z6 := n4; have HO_Z7 := n5; have HO_Z8 := n6; have HO_Z9 := n7; have BK483 := n8; have BK498 := n9; have BK505 := n10; have BK513 := n11; have BK543 := n12; have HB := n13; clear n0 n1 n2 n3 n4 n5 n6 n7 n8 n9 n10 n11 n12 n13; (try clear hb); (try clear hb2); (try clear hk); (try clear hi)))
                go_ret
                exact ⟨rE, bU5 HB.out GE483.out GE498.out GE505.out GE513.out GE543.out⟩
               ·
                rw [if_neg c163] at H; have c163b0 := beq_eq_false_iff_ne.mpr c163; have c163b1 := bne_iff_ne.mpr c163; obtain rfl := Option.some.inj H; have hnb170 := NB513_483.out; have hnc170 := NB483_513.out; have hnb171 := NB513_498.out; have hnc171 := NB498_513.out; have hnb172 := NB513_505.out; have hnc172 := NB505_513.out; have hnb173 := NB513_543.out; have hnc173 := NB543_513.out; have hcz174_0 : wc.cell? ⟨gb513, 0, none⟩ = some (.slice Ao36 t527.length co36) := (blk_cell BK513.out 0).trans rfl; have hcz174_1 : wc.cell? ⟨gb513, 1, none⟩ = some (.slice Ao41 t528.length co41) := (blk_cell BK513.out 1).trans rfl; have hfz174_0 := blk_frozen BK513.out 0; have hfz174_1 := blk_frozen BK513.out 1
                go_wp2_with (first | ((with_reducible refine gate_callee (f := 24) rfl ?_); refine goesL_ (some 95) rfl rfl Try.func24 (by kernel_rfl) rfl #[.agg #[.slice Ao36 t527.length co36, .slice Ao41 t528.length co41], .int .i64 1] rfl (by (try simp only [List.map_toArray, List.map_cons, List.map_nil]); first | done | rfl | (simp only [List.length_drop, List.length_take]; rfl)) ?_; (with_reducible refine (laws_heldMap.calls kj108 _ _ t527 _ _ t528 1 t545 _ ?side1 ?side2 ?side3 ?side4 A155.out).mono ?_); (case side1 => exact cU ((Kd.R_reads' HO_Z6.out).2.2)); (case side2 => exact (Kd.R_reads' HO_Z6.out).2.1); (case side3 => exact cU ((Kd.R_reads' HO_Z7.out).2.2)); (case side4 => exact (Kd.R_reads' HO_Z7.out).2.1); rintro e w175 ⟨rfl, hb⟩; refine ⟨_, rfl, ?_⟩; have n0 := Az (Kd.R_below (rU HO_Z2.out) hb); have n1 := Az (Kd.R_below (rU HO_Z3.out) hb); have n2 := Az (Kd.R_below (rU HO_Z4.out) hb); have n3 := Az (Kd.R_below (rU HO_Z5.out) hb); have n4 := Az (Kd.R_below (rU HO_Z6.out) hb); have n5 := Az (Kd.R_below (rU HO_Z7.out) hb); have n6 := Az (Kd.R_below (rU HO_Z8.out) hb); have n7 := Az (Kd.R_below (rU HO_Z9.out) hb); have n8 := Az (blk_below (g := gb483) (o := .cells #[.slice A0_0 l0_0.length c0_0, .slice A0_1 l0_1.length c0_1] 36 (0, 0)) (kU BK483.out) hb); have n9 := Az (blk_below (g := gb498) (o := .cells #[.slice Ao22 t491.length co22, .slice Ao25 t494.length co25] 25 (0, 0)) (kU BK498.out) hb); have n10 := Az (blk_below (g := gb505) (o := .cells #[.slice Ao29 t523.length co29, .slice Ao33 t524.length co33] 25 (0, 0)) (kU BK505.out) hb); have n11 := Az (blk_below (g := gb513) (o := .cells #[.slice Ao36 t527.length co36, .slice Ao41 t528.length co41] 25 (0, 0)) (kU BK513.out) hb); have n12 := Az (blk_below (g := gb543) (o := .cells #[.slice Ao125 t536.length co125, .slice Ao131 t539.length co131] 25 (0, 0)) (kU BK543.out) hb); have n13 := Az (below_step (bU5 HB.out GE483.out GE498.out GE505.out GE513.out GE543.out) hb); clear HO_Z2 HO_Z3 HO_Z4 HO_Z5 HO_Z6 HO_Z7 HO_Z8 HO_Z9 BK483 BK498 BK505 BK513 BK543 HB; have HO_Z2 := n0; have HO_Z3 := n1; have HO_Z4 := n2; have HO_Z5 := n3; have HO_Z6 := n4; have HO_Z7 := n5; have HO_Z8 := n6; have HO_Z9 := n7; have BK483 := n8; have BK498 := n9; have BK505 := n10; have BK513 := n11; have BK543 := n12; have HB := n13; clear n0 n1 n2 n3 n4 n5 n6 n7 n8 n9 n10 n11 n12 n13; (try clear hb); (try clear hb2); (try clear hk); (try clear hi)))
                go_ret
                exact ⟨rE, bU5 HB.out GE483.out GE498.out GE505.out GE513.out GE543.out⟩
          ·
           rw [if_neg c106] at H; have c106b0 := beq_eq_false_iff_ne.mpr c106; have c106b1 := bne_iff_ne.mpr c106; obtain rfl := Option.some.inj H; have hnb176 := NB513_483.out; have hnc176 := NB483_513.out; have hnb177 := NB513_498.out; have hnc177 := NB498_513.out; have hnb178 := NB513_505.out; have hnc178 := NB505_513.out; have hcz179_0 : wc.cell? ⟨gb513, 0, none⟩ = some (.slice Ao36 t506.length co36) := (blk_cell BK513.out 0).trans rfl; have hcz179_1 : wc.cell? ⟨gb513, 1, none⟩ = some (.slice Ao41 t509.length co41) := (blk_cell BK513.out 1).trans rfl; have hfz179_0 := blk_frozen BK513.out 0; have hfz179_1 := blk_frozen BK513.out 1
           go_wp2_with (first | ((with_reducible refine gate_callee (f := 23) rfl ?_); refine goesL_ (some 68) rfl rfl Try.func23 (by kernel_rfl) rfl #[.agg #[.slice Ao36 t506.length co36, .slice Ao41 t509.length co41], .int .i64 1] rfl (by (try simp only [List.map_toArray, List.map_cons, List.map_nil]); first | done | rfl | (simp only [List.length_drop, List.length_take]; rfl)) ?_; (with_reducible refine (laws_markMap.calls kj64 (fun k_ => some k_ = (.slice Ao36 t506.length co36 : Value).ownBlock) (.slice Ao36 t506.length co36) t506 (fun k_ => some k_ = (.slice Ao41 t509.length co41 : Value).ownBlock) (.slice Ao41 t509.length co41) t509 1 t526 t527 t528 w _ ?side1 ?side2 ?side3 ?side4 ?side5 A96.out).mono ?_); (case side1 => repeat (first | (with_reducible first | exact HB.out | apply below_alloc | apply pw_below_drewN | apply below_drew1 | refine below_set ?_ GE483.out | refine below_set ?_ GE498.out | refine below_set ?_ GE505.out | refine below_set ?_ GE513.out) | exact HB.out)); (case side2 => exact Kd.R_tight rfl HO_Z6.out); (case side3 => exact fun k_ e_ => (HO_Z6.out.1 k_ e_.symm).2.2.2.2); (case side4 => exact Kd.R_tight rfl HO_Z7.out); (case side5 => exact fun k_ e_ => (HO_Z7.out.1 k_ e_.symm).2.2.2.2); rintro e w180 ⟨rfl, hy0, hy1, hb, hkp⟩; refine ⟨_, rfl, ?_⟩; have n0 := Az (Kd.R_mono (ok' := fun k_ => some k_ ≠ (.slice Ao25 t494.length co25 : Value).ownBlock ∧ some k_ ≠ (.slice Ao29 t523.length co29 : Value).ownBlock ∧ some k_ ≠ (.slice Ao33 t524.length co33 : Value).ownBlock ∧ some k_ ≠ (.slice Ao36 t506.length co36 : Value).ownBlock ∧ some k_ ≠ (.slice Ao41 t509.length co41 : Value).ownBlock) (Kd.R_keptB (HO_Z2.out) hkp (fun k_ hk_ hs_ => Or.elim hs_ (fun e_ => (hk_.2.2.2.1) e_) (fun e_ => (hk_.2.2.2.2) e_))) (fun k_ hk_ => ⟨hk_.1.1, hk_.1.2.1, hk_.1.2.2.1, hk_.1.2.2.2.1, hk_.1.2.2.2.2⟩)); have n1 := Az (Kd.R_mono (ok' := fun k_ => some k_ ≠ (.slice Ao22 t491.length co22 : Value).ownBlock ∧ some k_ ≠ (.slice Ao29 t523.length co29 : Value).ownBlock ∧ some k_ ≠ (.slice Ao33 t524.length co33 : Value).ownBlock ∧ some k_ ≠ (.slice Ao36 t506.length co36 : Value).ownBlock ∧ some k_ ≠ (.slice Ao41 t509.length co41 : Value).ownBlock) (Kd.R_keptB (HO_Z3.out) hkp (fun k_ hk_ hs_ => Or.elim hs_ (fun e_ => (hk_.2.2.2.1) e_) (fun e_ => (hk_.2.2.2.2) e_))) (fun k_ hk_ => ⟨hk_.1.1, hk_.1.2.1, hk_.1.2.2.1, hk_.1.2.2.2.1, hk_.1.2.2.2.2⟩)); have n2 := Az (Kd.R_mono (ok' := fun k_ => some k_ ≠ (.slice Ao22 t491.length co22 : Value).ownBlock ∧ some k_ ≠ (.slice Ao25 t494.length co25 : Value).ownBlock ∧ some k_ ≠ (.slice Ao33 t524.length co33 : Value).ownBlock ∧ some k_ ≠ (.slice Ao36 t506.length co36 : Value).ownBlock ∧ some k_ ≠ (.slice Ao41 t509.length co41 : Value).ownBlock) (Kd.R_keptB (HO_Z4.out) hkp (fun k_ hk_ hs_ => Or.elim hs_ (fun e_ => (hk_.2.2.2.1) e_) (fun e_ => (hk_.2.2.2.2) e_))) (fun k_ hk_ => ⟨hk_.1.1, hk_.1.2.1, hk_.1.2.2.1, hk_.1.2.2.2.1, hk_.1.2.2.2.2⟩)); have n3 := Az (Kd.R_mono (ok' := fun k_ => some k_ ≠ (.slice Ao22 t491.length co22 : Value).ownBlock ∧ some k_ ≠ (.slice Ao25 t494.length co25 : Value).ownBlock ∧ some k_ ≠ (.slice Ao29 t523.length co29 : Value).ownBlock ∧ some k_ ≠ (.slice Ao36 t506.length co36 : Value).ownBlock ∧ some k_ ≠ (.slice Ao41 t509.length co41 : Value).ownBlock) (Kd.R_keptB (HO_Z5.out) hkp (fun k_ hk_ hs_ => Or.elim hs_ (fun e_ => (hk_.2.2.2.1) e_) (fun e_ => (hk_.2.2.2.2) e_))) (fun k_ hk_ => ⟨hk_.1.1, hk_.1.2.1, hk_.1.2.2.1, hk_.1.2.2.2.1, hk_.1.2.2.2.2⟩)); have n4 := Az (Kd.R_reok rfl hy0 (fun k_ e_ => HO_Z6.out.1 k_ e_)); have n5 := Az (Kd.R_reok rfl hy1 (fun k_ e_ => HO_Z7.out.1 k_ e_)); have n6 := Az (blk_kept (kU BK483.out) hkp (fun hs_ => Or.elim hs_ (fun e_ => (fun e_ => (Kd.R_ne HO_Z6.out BK483.out (by decide)) e_) e_) (fun e_ => (fun e_ => (Kd.R_ne HO_Z7.out BK483.out (by decide)) e_) e_))); have n7 := Az (blk_kept (kU BK498.out) hkp (fun hs_ => Or.elim hs_ (fun e_ => (fun e_ => (Kd.R_ne HO_Z6.out BK498.out (by decide)) e_) e_) (fun e_ => (fun e_ => (Kd.R_ne HO_Z7.out BK498.out (by decide)) e_) e_))); have n8 := Az (blk_kept (kU BK505.out) hkp (fun hs_ => Or.elim hs_ (fun e_ => (fun e_ => (Kd.R_ne HO_Z6.out BK505.out (by decide)) e_) e_) (fun e_ => (fun e_ => (Kd.R_ne HO_Z7.out BK505.out (by decide)) e_) e_))); have n9 := Az (blk_kept (kU BK513.out) hkp (fun hs_ => Or.elim hs_ (fun e_ => (fun e_ => (Kd.R_ne HO_Z6.out BK513.out (by decide)) e_) e_) (fun e_ => (fun e_ => (Kd.R_ne HO_Z7.out BK513.out (by decide)) e_) e_))); have n10 := Az (hb); clear HO_Z2 HO_Z3 HO_Z4 HO_Z5 HO_Z6 HO_Z7 BK483 BK498 BK505 BK513 HB; have HO_Z2 := n0; have HO_Z3 := n1; have HO_Z4 := n2; have HO_Z5 := n3; have HO_Z6 := n4; have HO_Z7 := n5; have BK483 := n6; have BK498 := n7; have BK505 := n8; have BK513 := n9; have HB := n10; clear n0 n1 n2 n3 n4 n5 n6 n7 n8 n9 n10; (try clear hb); (try clear hkp); (try clear hy0); (try clear hy1); have hcz181_0 : w180.cell? ⟨gb513, 0, none⟩ = some (.slice Ao36 t506.length co36) := (blk_cell BK513.out 0).trans rfl; have hcz181_1 : w180.cell? ⟨gb513, 1, none⟩ = some (.slice Ao41 t509.length co41) := (blk_cell BK513.out 1).trans rfl; have hfz181_0 := blk_frozen BK513.out 0; have hfz181_1 := blk_frozen BK513.out 1) | ((with_reducible refine gate_callee (f := 24) rfl ?_); refine goesL_ (some 71) rfl rfl Try.func24 (by kernel_rfl) rfl #[.agg #[.slice Ao36 t527.length co36, .slice Ao41 t528.length co41], .int .i64 1] rfl (by (try simp only [List.map_toArray, List.map_cons, List.map_nil]); first | done | (rw [show t527.length = t506.length from (Kd.R_reads' HO_Z6.out).1.symm, show t528.length = t509.length from (Kd.R_reads' HO_Z7.out).1.symm] <;> rfl) | rfl | (simp only [List.length_drop, List.length_take]; rfl)) ?_; (with_reducible refine (laws_heldMap.calls kj64 _ _ t527 _ _ t528 1 t529 _ ?side1 ?side2 ?side3 ?side4 A97.out).mono ?_); (case side1 => exact cU ((Kd.R_reads' HO_Z6.out).2.2)); (case side2 => rw [show t527.length = t506.length from (Kd.R_reads' HO_Z6.out).1.symm]; exact (Kd.R_reads' HO_Z6.out).2.1); (case side3 => exact cU ((Kd.R_reads' HO_Z7.out).2.2)); (case side4 => rw [show t528.length = t509.length from (Kd.R_reads' HO_Z7.out).1.symm]; exact (Kd.R_reads' HO_Z7.out).2.1); rintro e w182 ⟨rfl, hb⟩; refine ⟨_, rfl, ?_⟩; have n0 := Az (Kd.R_below (rU HO_Z2.out) hb); have n1 := Az (Kd.R_below (rU HO_Z3.out) hb); have n2 := Az (Kd.R_below (rU HO_Z4.out) hb); have n3 := Az (Kd.R_below (rU HO_Z5.out) hb); have n4 := Az (Kd.R_below (rU HO_Z6.out) hb); have n5 := Az (Kd.R_below (rU HO_Z7.out) hb); have n6 := Az (blk_below (g := gb483) (o := .cells #[.slice A0_0 l0_0.length c0_0, .slice A0_1 l0_1.length c0_1] 36 (0, 0)) (kU BK483.out) hb); have n7 := Az (blk_below (g := gb498) (o := .cells #[.slice Ao22 t491.length co22, .slice Ao25 t494.length co25] 25 (0, 0)) (kU BK498.out) hb); have n8 := Az (blk_below (g := gb505) (o := .cells #[.slice Ao29 t523.length co29, .slice Ao33 t524.length co33] 25 (0, 0)) (kU BK505.out) hb); have n9 := Az (blk_below (g := gb513) (o := .cells #[.slice Ao36 t506.length co36, .slice Ao41 t509.length co41] 25 (0, 0)) (kU BK513.out) hb); have n10 := Az (below_step (bU4 HB.out GE483.out GE498.out GE505.out GE513.out) hb); clear HO_Z2 HO_Z3 HO_Z4 HO_Z5 HO_Z6 HO_Z7 BK483 BK498 BK505 BK513 HB; have HO_Z2 := n0; have HO_Z3 := n1; have HO_Z4 := n2; have HO_Z5 := n3; have HO_Z6 := n4; have HO_Z7 := n5; have BK483 := n6; have BK498 := n7; have BK505 := n8; have BK513 := n9; have HB := n10; clear n0 n1 n2 n3 n4 n5 n6 n7 n8 n9 n10; (try clear hb); (try clear hb2); (try clear hk); (try clear hi)))
           go_ret
           exact ⟨rE, bU4 HB.out GE483.out GE498.out GE505.out GE513.out⟩
     ·
      replace c63 := Bool.eq_false_iff.mpr c63; subst c63
      have H1 : (some false) = some r := by rw [if_neg (show ¬ (false = true) by decide)] at H; exact H
      clear H; have H := H1; clear H1; obtain rfl := Option.some.inj H
      try go_wp2
      have n0 := Az (Kd.R_drew HO_Z2.out); have n1 := Az (Kd.R_drew HO_Z3.out); have n2 := Az (Kd.R_drew HO_Z4.out); have n3 := Az (Kd.R_drew HO_Z5.out); have n4 := Az (Kd.R_drew HO_Z6.out); have n5 := Az (Kd.R_drew HO_Z7.out); have n6 := Az (blk_drew BK483.out); have n7 := Az (blk_drew BK498.out); have n8 := Az (blk_drew BK505.out); have n9 := Az (blk_drew BK513.out); have n10 := Az (below_drew1 HB.out); clear HO_Z2 HO_Z3 HO_Z4 HO_Z5 HO_Z6 HO_Z7 BK483 BK498 BK505 BK513 HB; have HO_Z2 := n0; have HO_Z3 := n1; have HO_Z4 := n2; have HO_Z5 := n3; have HO_Z6 := n4; have HO_Z7 := n5; have BK483 := n6; have BK498 := n7; have BK505 := n8; have BK513 := n9; have HB := n10; clear n0 n1 n2 n3 n4 n5 n6 n7 n8 n9 n10
      refine start_ (n := 5) (S := fun w' => w'.cell? ⟨gb505, 0, none⟩ = some (.slice Ao29 t499.length co29) ∧ w'.cell? ⟨gb505, 1, none⟩ = some (.slice Ao33 t502.length co33) ∧ w'.cell? ⟨gb483, 0, none⟩ = some (.slice A0_0 l0_0.length c0_0) ∧ w'.cell? ⟨gb483, 1, none⟩ = some (.slice A0_1 l0_1.length c0_1)) (ds := []) (laws_FnExactEdgeContract_up [(0, some 45), (1, some 46), (2, some 47), (3, some 48), (4, some 49)] 5) (by kernel_rfl) rfl rfl ⟨(blk_cell BK505.out 0).trans rfl, (blk_cell BK505.out 1).trans rfl, (blk_cell BK483.out 0).trans rfl, (blk_cell BK483.out 1).trans rfl⟩ (fun hHeld => ?_)
      generalize wc.drew = w183 at HO_Z2 HO_Z3 HO_Z4 HO_Z5 HO_Z6 HO_Z7 BK483 BK498 BK505 BK513 HB hHeld ⊢
      refine take_ (i := 0) (N := some 45) (v := ?_) (a' := ?_) (laws_FnExactEdgeContract_up [(1, some 46), (2, some 47), (3, some 48), (4, some 49)] 5) rfl rfl (by kernel_rfl) (fun _ _ _ h => h) (Or.inl ⟨by rfl, ?_⟩) hHeld ?_ ?_
      rotate_left
      ·
       rintro w' ⟨s0, s1, s2, s3⟩
       go_simp
       with_reducible rfl
      rotate_left
      ·
       simp only [Act.put, List.setIfInBounds_toArray, List.set_cons_zero, List.set_cons_succ, i64_w, i32_w]
       rfl
      refine take_ (i := 1) (N := some 46) (v := ?_) (a' := ?_) (laws_FnExactEdgeContract_up [(2, some 47), (3, some 48), (4, some 49)] 5) rfl rfl (by kernel_rfl) (fun _ _ _ h => h) (Or.inl ⟨by rfl, ?_⟩) hHeld ?_ ?_
      rotate_left
      ·
       rintro w' ⟨s0, s1, s2, s3⟩
       go_simp
       with_reducible rfl
      rotate_left
      ·
       simp only [Act.put, List.setIfInBounds_toArray, List.set_cons_zero, List.set_cons_succ, i64_w, i32_w]
       rfl
      refine laws_FnExactEdgeContract_uO rfl rfl (by kernel_rfl) (by decide) (fun K hK => ?_)
      refine goes_ Try.func21 (by kernel_rfl) rfl #[.agg #[.slice A0_0 l0_0.length c0_0, .slice A0_1 l0_1.length c0_1]] (by rfl) rfl rfl (by (try simp only [List.map_toArray, List.map_cons, List.map_nil]); first | done | rfl | (simp only [List.length_drop, List.length_take]; rfl)) ?_
      with_reducible refine (laws_toMap.calls kj11 _ _ l0_0 _ _ l0_1 t515 t518 _ ?side1 ?side2 ?side3 ?side4 A61.out).mono ?_
      (case side1 => exact cU (Kd.C_below HR0_0.out HB.out))
      (case side2 => exact HC0_0.out)
      (case side3 => exact cU (Kd.C_below HR0_1.out HB.out))
      (case side4 => exact HC0_1.out)
      rintro e w184 ⟨v516, v519, rfl, ho0, ho1, hb⟩
      refine ⟨_, rfl, ?_⟩
      have n0 := Az (Kd.R_mono (Kd.R_told (Kd.R_told (Kd.R_old (rU HO_Z2.out) hb) (Kd.R_base ho0)) (Kd.R_base ho1)) (fun _ h_ => h_.1)); have n1 := Az (Kd.R_mono (Kd.R_told (Kd.R_told (Kd.R_old (rU HO_Z3.out) hb) (Kd.R_base ho0)) (Kd.R_base ho1)) (fun _ h_ => h_.1)); have n2 := Az (Kd.R_mono (Kd.R_told (Kd.R_told (Kd.R_old (rU HO_Z4.out) hb) (Kd.R_base ho0)) (Kd.R_base ho1)) (fun _ h_ => h_.1)); have n3 := Az (Kd.R_mono (Kd.R_told (Kd.R_told (Kd.R_old (rU HO_Z5.out) hb) (Kd.R_base ho0)) (Kd.R_base ho1)) (fun _ h_ => h_.1)); have n4 := Az (Kd.R_mono (Kd.R_told (Kd.R_told (Kd.R_old (rU HO_Z6.out) hb) (Kd.R_base ho0)) (Kd.R_base ho1)) (fun _ h_ => h_.1)); have n5 := Az (Kd.R_mono (Kd.R_told (Kd.R_told (Kd.R_old (rU HO_Z7.out) hb) (Kd.R_base ho0)) (Kd.R_base ho1)) (fun _ h_ => h_.1)); have n6 := Az (Kd.R_lower (Kd.R_new' (Kd.R_new' (Kd.R_new' (Kd.R_new' (Kd.R_new' (Kd.R_new' ho0 (Kd.R_lt (rU HO_Z2.out))) (Kd.R_lt (rU HO_Z3.out))) (Kd.R_lt (rU HO_Z4.out))) (Kd.R_lt (rU HO_Z5.out))) (Kd.R_lt (rU HO_Z6.out))) (Kd.R_lt (rU HO_Z7.out))) (below_size (bU4 HB.out GE483.out GE498.out GE505.out GE513.out))); have n7 := Az (Kd.R_lower (Kd.R_new' (Kd.R_new' (Kd.R_new' (Kd.R_new' (Kd.R_new' (Kd.R_new' ho1 (Kd.R_lt (rU HO_Z2.out))) (Kd.R_lt (rU HO_Z3.out))) (Kd.R_lt (rU HO_Z4.out))) (Kd.R_lt (rU HO_Z5.out))) (Kd.R_lt (rU HO_Z6.out))) (Kd.R_lt (rU HO_Z7.out))) (below_size (bU4 HB.out GE483.out GE498.out GE505.out GE513.out))); have n8 := Az (blk_below (g := gb483) (o := .cells #[.slice A0_0 l0_0.length c0_0, .slice A0_1 l0_1.length c0_1] 36 (0, 0)) (kU BK483.out) hb); have n9 := Az (blk_below (g := gb498) (o := .cells #[.slice Ao22 t491.length co22, .slice Ao25 t494.length co25] 25 (0, 0)) (kU BK498.out) hb); have n10 := Az (blk_below (g := gb505) (o := .cells #[.slice Ao29 t499.length co29, .slice Ao33 t502.length co33] 25 (0, 0)) (kU BK505.out) hb); have n11 := Az (blk_below (g := gb513) (o := .cells #[.slice Ao36 t506.length co36, .slice Ao41 t509.length co41] 25 (0, 0)) (kU BK513.out) hb); have n12 := Az (below_step (bU4 HB.out GE483.out GE498.out GE505.out GE513.out) hb); clear HO_Z2 HO_Z3 HO_Z4 HO_Z5 HO_Z6 HO_Z7 BK483 BK498 BK505 BK513 HB; have HO_Z2 := n0; have HO_Z3 := n1; have HO_Z4 := n2; have HO_Z5 := n3; have HO_Z6 := n4; have HO_Z7 := n5; have HO517 := n6; have HO520 := n7; have BK483 := n8; have BK498 := n9; have BK505 := n10; have BK513 := n11; have HB := n12; clear n0 n1 n2 n3 n4 n5 n6 n7 n8 n9 n10 n11 n12; (try clear hb); (try clear hb2); (try clear hk); (try clear hi); (try clear ho0); (try clear ho1); obtain ⟨Ao185, co185, eo185⟩ := Kd.R_slice HO517.out; (first | subst eo185 | (injection eo185 with f1_ f2_ f3_; have f4_ := f1_.symm; have f5_ := f3_.symm; clear f1_ f2_ f3_; subst f4_; subst f5_)); obtain ⟨Ao186, co186, eo186⟩ := Kd.R_slice HO520.out; (first | subst eo186 | (injection eo186 with f1_ f2_ f3_; have f4_ := f1_.symm; have f5_ := f3_.symm; clear f1_ f2_ f3_; subst f4_; subst f5_))
      refine hK.out _ _ ⟨(blk_cell BK505.out 0).trans rfl, (blk_cell BK505.out 1).trans rfl, (blk_cell BK483.out 0).trans rfl, (blk_cell BK483.out 1).trans rfl⟩ (fun hHeld => ?_)
      clear hK K
      refine norm_ (a' := ?_) ?_ ?_
      rotate_left
      ·
       show Act.put _ (some 47) _ = _
       simp only [Act.put, List.setIfInBounds_toArray, List.set_cons_zero, List.set_cons_succ, i64_w, i32_w]
       rfl
      refine laws_FnExactEdgeContract_uO rfl rfl (by kernel_rfl) (by decide) (fun K hK => ?_)
      refine goes_ Try.func22 (by kernel_rfl) rfl #[.agg #[.slice Ao29 t499.length co29, .slice Ao33 t502.length co33], .agg #[.slice Ao185 t515.length co185, .slice Ao186 t518.length co186]] (by rfl) rfl rfl (by (try simp only [List.map_toArray, List.map_cons, List.map_nil]); first | done | rfl | (simp only [List.length_drop, List.length_take]; rfl)) ?_
      with_reducible refine (laws_eqMap.calls kj11 _ _ t499 _ _ t502 _ _ t515 _ _ t518 false _ ?side1 ?side2 ?side3 ?side4 ?side5 ?side6 ?side7 ?side8 A62.out).mono ?_
      (case side1 => exact cU ((Kd.R_reads' HO_Z4.out).2.2))
      (case side2 => exact (Kd.R_reads' HO_Z4.out).2.1)
      (case side3 => exact cU ((Kd.R_reads' HO_Z5.out).2.2))
      (case side4 => exact (Kd.R_reads' HO_Z5.out).2.1)
      (case side5 => exact cU ((Kd.R_reads' HO517.out).2.2))
      (case side6 => exact (Kd.R_reads' HO517.out).2.1)
      (case side7 => exact cU ((Kd.R_reads' HO520.out).2.2))
      (case side8 => exact (Kd.R_reads' HO520.out).2.1)
      rintro e w187 ⟨rfl, hb⟩
      refine ⟨_, rfl, ?_⟩
      have n0 := Az (Kd.R_below (rU HO_Z2.out) hb); have n1 := Az (Kd.R_below (rU HO_Z3.out) hb); have n2 := Az (Kd.R_below (rU HO_Z4.out) hb); have n3 := Az (Kd.R_below (rU HO_Z5.out) hb); have n4 := Az (Kd.R_below (rU HO_Z6.out) hb); have n5 := Az (Kd.R_below (rU HO_Z7.out) hb); have n6 := Az (Kd.R_below (rU HO517.out) hb); have n7 := Az (Kd.R_below (rU HO520.out) hb); have n8 := Az (blk_below (g := gb483) (o := .cells #[.slice A0_0 l0_0.length c0_0, .slice A0_1 l0_1.length c0_1] 36 (0, 0)) (kU BK483.out) hb); have n9 := Az (blk_below (g := gb498) (o := .cells #[.slice Ao22 t491.length co22, .slice Ao25 t494.length co25] 25 (0, 0)) (kU BK498.out) hb); have n10 := Az (blk_below (g := gb505) (o := .cells #[.slice Ao29 t499.length co29, .slice Ao33 t502.length co33] 25 (0, 0)) (kU BK505.out) hb); have n11 := Az (blk_below (g := gb513) (o := .cells #[.slice Ao36 t506.length co36, .slice Ao41 t509.length co41] 25 (0, 0)) (kU BK513.out) hb); have n12 := Az (below_step (bU4 HB.out GE483.out GE498.out GE505.out GE513.out) hb); clear HO_Z2 HO_Z3 HO_Z4 HO_Z5 HO_Z6 HO_Z7 HO517 HO520 BK483 BK498 BK505 BK513 HB; have HO_Z2 := n0; have HO_Z3 := n1; have HO_Z4 := n2; have HO_Z5 := n3; have HO_Z6 := n4; have HO_Z7 := n5; have HO517 := n6; have HO520 := n7; have BK483 := n8; have BK498 := n9; have BK505 := n10; have BK513 := n11; have HB := n12; clear n0 n1 n2 n3 n4 n5 n6 n7 n8 n9 n10 n11 n12; (try clear hb); (try clear hb2); (try clear hk); (try clear hi)
      refine hK.out _ _ ⟨(blk_cell BK505.out 0).trans rfl, (blk_cell BK505.out 1).trans rfl, (blk_cell BK483.out 0).trans rfl, (blk_cell BK483.out 1).trans rfl⟩ (fun hHeld => ?_)
      clear hK K
      refine norm_ (a' := ?_) ?_ ?_
      rotate_left
      ·
       show Act.put _ (some 48) _ = _
       simp only [Act.put, List.setIfInBounds_toArray, List.set_cons_zero, List.set_cons_succ, i64_w, i32_w]
       rfl
      refine pure_ (i := 4) (N := some 49) (v := ?_) (a' := ?_) (laws_FnExactEdgeContract_up [] 5) rfl rfl (by kernel_rfl) (fun _ _ _ h => h) (Or.inl ⟨by rfl, ?_⟩) ?_ ?_
      rotate_left
      ·
       intro w'
       go_simp
       with_reducible rfl
      rotate_left
      ·
       simp only [Act.put, List.setIfInBounds_toArray, List.set_cons_zero, List.set_cons_succ, i64_w, i32_w]
       rfl
      refine done_ (by kernel_rfl) ?_
      try go_wp2
      go_ret
      exact ⟨rE, bU4 HB.out GE483.out GE498.out GE505.out GE513.out⟩
def laws_FnExactEdgeContract.Pure : Prop := ∀ (l0_0 : List Int) (l0_1 : List Int) (a1 : Int), l0_0.length ≤ maxLen → (∀ x ∈ l0_0, (Lit.int .i64 x).wf = true) → l0_1.length ≤ maxLen → (∀ x ∈ l0_1, (Lit.int .i64 x).wf = true) → (Lit.int .i64 a1).wf = true → ∃ k, laws_FnExactEdgeContract.f k l0_0 l0_1 a1 = some true
end Go.Proofs.Ytggghijamfmenaa.PC

set_option linter.unusedVariables false
set_option linter.unusedSimpArgs false
namespace Go.Proofs.Ytggghijamfmenaa.PC
open Go.RowKit Go.Proofs.YtggghijamfmenaaW.PrintWords Go.Proofs.YtggghijamfmenaaW.PrintLast Go.Proofs.YtggghijamfmenaaW.PrintMore
theorem Ev.s {α : Type} {g : Nat → Option α} {r : α} (h : Ev (fun k => g (k + 1)) r) : Ev g r := Ev.step (fun _ => rfl) h
theorem Ev.const {α : Type} {o : Option α} {r : α} (h : o = some r) : Ev (fun _ => o) r := ⟨0, fun _ _ => h⟩
theorem w64 {x : Int} (h1 : -9223372036854775808 ≤ x) (h2 : x < 9223372036854775808) : wrap64 x = x := by unfold wrap64; omega
theorem w64r {x : Int} (h : -9223372036854775808 ≤ x ∧ x < 9223372036854775808) : wrap64 x = x := w64 h.1 h.2
theorem w64n {i : Nat} (h : i < 4611686018427387904) : wrap64 ((i : Int) + 1) = ((i + 1 : Nat) : Int) := by rw [w64 (by omega) (by omega)]; omega
theorem rd_lt (l : List Int) (i : Nat) (h : i < l.length) : rd l (i : Int) = l[i] := by
  unfold rd
  rw [Int.toNat_natCast, List.getD_eq_getElem?_getD, List.getElem?_eq_getElem h]
  rfl
theorem toIntS_run (l : List Int) (hl : l.length ≤ 1048576) : ∀ (d : Nat) (m : List Int) (i : Nat), l.length - i = d → i ≤ l.length → m.length = l.length → m.take i = l.take i → Ev (fun k => laws_toIntS.l0 k l m i) l
  | 0, m, i, hd, hi, hm, ht => by
    refine Ev.s ?_
    simp only [laws_toIntS.l0, show ¬ (i : Int) < (l.length : Int) by omega, if_false]
    have hi' : i = l.length := by omega
    subst hi'
    rw [List.take_length] at ht
    rw [← hm, List.take_length] at ht
    exact Ev.const (by rw [ht])
  | d + 1, m, i, hd, hi, hm, ht => by
    have hlt : i < l.length := by omega
    refine Ev.s ?_
    simp only [laws_toIntS.l0, show (i : Int) < (l.length : Int) by omega, show (0 : Int) ≤ i by omega, show (i : Int) < (m.length : Int) by omega, if_true]
    rw [w64 (x := (i : Int) + 1) (by omega) (by omega), show ((i : Int) + 1) = ((i + 1 : Nat) : Int) by omega]
    refine toIntS_run l hl d _ (i + 1) (by omega) (by omega) (by simpa using hm) ?_
    rw [Int.toNat_natCast, rd_lt l i hlt]
    have h2 : i < m.length := by omega
    rw [List.take_succ_eq_append_getElem (by simpa using h2), List.take_succ_eq_append_getElem hlt, List.take_set_of_le (Nat.le_refl _), ht]
    simp
theorem toIntS_ev (l : List Int) (hl : l.length ≤ 1048576) : Ev (fun k => laws_toIntS.f k l) l := by
  unfold laws_toIntS.f
  simp only [show (0 : Int) ≤ (l.length : Int) by omega, show ((l.length : Int)).toNat ≤ 35184372088832 by omega, if_true]
  exact toIntS_run l hl l.length _ 0 (by omega) (by omega) (by simp) (by simp)
theorem eqIntS_run (l : List Int) (hl : l.length ≤ 1048576) : ∀ (d : Nat) (i : Nat), l.length - i = d → i ≤ l.length → Ev (fun k => laws_eqIntS.l0 k l l i) true
  | 0, i, hd, hi => by
    refine Ev.s ?_
    simp only [laws_eqIntS.l0, show ¬ (i : Int) < (l.length : Int) by omega, if_false]
    exact Ev.const rfl
  | d + 1, i, hd, hi => by
    refine Ev.s ?_
    simp only [laws_eqIntS.l0, show (i : Int) < (l.length : Int) by omega, show (0 : Int) ≤ i by omega, if_true]
    rw [w64 (x := (i : Int) + 1) (by omega) (by omega), show ((i : Int) + 1) = ((i + 1 : Nat) : Int) by omega]
    exact eqIntS_run l hl d (i + 1) (by omega) (by omega)
theorem eqIntS_same (l : List Int) (hl : l.length ≤ 1048576) : Ev (fun k => laws_eqIntS.f k l l) true := by
  unfold laws_eqIntS.f
  simp only [if_true]
  exact eqIntS_run l hl l.length 0 (by omega) (by omega)
def okAt (l : List Int) (i : Nat) : Prop := 0 ≤ rd l i ∧ rd l i < l.length ∧ ∀ k : Nat, k < i → rd l k ≠ rd l i
def isPerm (l : List Int) : Prop := 1 ≤ l.length ∧ l.length ≤ 12 ∧ ∀ i : Nat, i < l.length → okAt l i
theorem l6In_eq (a b c : Int) : spec_l6In.f a b c = some (decide (b ≤ a ∧ a ≤ c)) := by
  unfold spec_l6In.f
  by_cases h1 : a ≥ b
  · by_cases h2 : a ≤ c <;> simp [h1, h2]
  · simp [h1]
theorem specPerm_in (l : List Int) (hl : l.length ≤ 1048576) (i : Nat) (hi : i < l.length) : ∀ (d k : Nat), i - k = d → k ≤ i →
    ((∀ q : Nat, k ≤ q → q < i → rd l q ≠ rd l i) → ∀ r, Ev (fun z => spec_PermValid.l0 z l ((i + 1 : Nat) : Int)) r → Ev (fun z => spec_PermValid.l1 z l i k) r) ∧
    (¬ (∀ q : Nat, k ≤ q → q < i → rd l q ≠ rd l i) → Ev (fun z => spec_PermValid.l1 z l i k) false)
  | 0, k, hd, hk => by
    refine ⟨fun _ r h => Ev.s ?_, fun h => absurd (fun q h1 h2 => by omega) h⟩
    simp only [spec_PermValid.l1, show ¬ (k : Int) < (i : Int) by omega, if_false]
    rw [w64 (x := (i : Int) + 1) (by omega) (by omega), show ((i : Int) + 1) = ((i + 1 : Nat) : Int) by omega]
    exact h
  | d + 1, k, hd, hk => by
    have ih := specPerm_in l hl i hi d (k + 1) (by omega) (by omega)
    have hw : wrap64 ((k : Int) + 1) = ((k + 1 : Nat) : Int) := by rw [w64 (by omega) (by omega)]; omega
    by_cases e : rd l k = rd l i
    · refine ⟨fun h => absurd e (h k (Nat.le_refl _) (by omega)), fun h => Ev.s ?_⟩
      simp only [spec_PermValid.l1, show (k : Int) < (i : Int) by omega, show (0 : Int) ≤ k by omega, show (k : Int) < (l.length : Int) by omega, show (0 : Int) ≤ i by omega, show (i : Int) < (l.length : Int) by omega, e, if_true]
      exact Ev.const rfl
    · refine ⟨fun h r hr => Ev.s ?_, fun h => Ev.s ?_⟩
      · simp only [spec_PermValid.l1, show (k : Int) < (i : Int) by omega, show (0 : Int) ≤ k by omega, show (k : Int) < (l.length : Int) by omega, show (0 : Int) ≤ i by omega, show (i : Int) < (l.length : Int) by omega, e, if_true, if_false, hw]
        exact ih.1 (fun q h1 h2 => h q (by omega) h2) r hr
      · simp only [spec_PermValid.l1, show (k : Int) < (i : Int) by omega, show (0 : Int) ≤ k by omega, show (k : Int) < (l.length : Int) by omega, show (0 : Int) ≤ i by omega, show (i : Int) < (l.length : Int) by omega, e, if_true, if_false, hw]
        refine ih.2 fun h' => h fun q h1 h2 => ?_
        by_cases eq : q = k
        · rw [eq]; exact e
        · exact h' q (by omega) h2
theorem specPerm_run (l : List Int) (hl : l.length ≤ 1048576) : ∀ (d i : Nat), l.length - i = d → i ≤ l.length →
    ((∀ q : Nat, i ≤ q → q < l.length → okAt l q) → Ev (fun z => spec_PermValid.l0 z l i) (decide (1 ≤ (l.length : Int) ∧ (l.length : Int) ≤ 12))) ∧
    (¬ (∀ q : Nat, i ≤ q → q < l.length → okAt l q) → Ev (fun z => spec_PermValid.l0 z l i) false)
  | 0, i, hd, hi => by
    refine ⟨fun _ => Ev.s ?_, fun h => absurd (fun q h1 h2 => by omega) h⟩
    simp only [spec_PermValid.l0, show ¬ (i : Int) < (l.length : Int) by omega, if_false, l6In_eq, Option.bind_some]
    exact Ev.const rfl
  | d + 1, i, hd, hi => by
    have hlt : i < l.length := by omega
    have ih := specPerm_run l hl d (i + 1) (by omega) (by omega)
    have hin := specPerm_in l hl i hlt i 0 (by omega) (by omega)
    have hwl : wrap64 ((l.length : Int) - 1) = (l.length : Int) - 1 := w64 (by omega) (by omega)
    by_cases hr : 0 ≤ rd l i ∧ rd l i ≤ (l.length : Int) - 1
    · by_cases hn : ∀ q : Nat, 0 ≤ q → q < i → rd l q ≠ rd l i
      · refine ⟨fun h => Ev.s ?_, fun h => Ev.s ?_⟩
        · simp only [spec_PermValid.l0, show (i : Int) < (l.length : Int) by omega, show (0 : Int) ≤ i by omega, if_true, l6In_eq, Option.bind_some, hwl, hr, decide_true, and_self]
          exact hin.1 hn _ (ih.1 fun q h1 h2 => h q (by omega) h2)
        · simp only [spec_PermValid.l0, show (i : Int) < (l.length : Int) by omega, show (0 : Int) ≤ i by omega, if_true, l6In_eq, Option.bind_some, hwl, hr, decide_true, and_self]
          refine hin.1 hn _ (ih.2 fun h' => h fun q h1 h2 => ?_)
          by_cases e : q = i
          · rw [e]; exact ⟨hr.1, by omega, fun k hk => hn k (by omega) hk⟩
          · exact h' q (by omega) h2
      · refine ⟨fun h => absurd (fun q _ h2 => (h i (Nat.le_refl _) hlt).2.2 q h2) hn, fun h => Ev.s ?_⟩
        simp only [spec_PermValid.l0, show (i : Int) < (l.length : Int) by omega, show (0 : Int) ≤ i by omega, if_true, l6In_eq, Option.bind_some, hwl, hr, decide_true, and_self]
        exact hin.2 hn
    · refine ⟨fun h => absurd ⟨(h i (Nat.le_refl _) hlt).1, by have := (h i (Nat.le_refl _) hlt).2.1; omega⟩ hr, fun h => Ev.s ?_⟩
      simp only [spec_PermValid.l0, show (i : Int) < (l.length : Int) by omega, show (0 : Int) ≤ i by omega, if_true, l6In_eq, Option.bind_some, hwl, hr, decide_false, Bool.false_eq_true, if_false]
      exact Ev.const rfl
theorem implPerm_run (l : List Int) (hl : l.length ≤ 12) : ∀ (d i : Nat) (s : List Bool), l.length - i = d → i ≤ l.length → s.length = 12 → (∀ v : Nat, v < 12 → (s.getD v false = true ↔ ∃ k : Nat, k < i ∧ rd l k = v)) →
    ((∀ q : Nat, i ≤ q → q < l.length → okAt l q) → Ev (fun z => impl_PermValid.l0 z l s i) true) ∧
    (¬ (∀ q : Nat, i ≤ q → q < l.length → okAt l q) → Ev (fun z => impl_PermValid.l0 z l s i) false)
  | 0, i, s, hd, hi, hs, hv => by
    refine ⟨fun _ => Ev.s ?_, fun h => absurd (fun q h1 h2 => by omega) h⟩
    simp only [impl_PermValid.l0, show ¬ (i : Int) < (l.length : Int) by omega, if_false]
    exact Ev.const rfl
  | d + 1, i, s, hd, hi, hs, hv => by
    have hlt : i < l.length := by omega
    have hd1 : l.length - (i + 1) = d := by omega
    have hw : wrap64 ((i : Int) + 1) = ((i + 1 : Nat) : Int) := by rw [w64 (by omega) (by omega)]; omega
    by_cases h0 : rd l i < 0
    · refine ⟨fun h => absurd (h i (Nat.le_refl _) hlt).1 (by omega), fun h => Ev.s ?_⟩
      simp only [impl_PermValid.l0, show (i : Int) < (l.length : Int) by omega, show (0 : Int) ≤ i by omega, h0, if_true]
      exact Ev.const rfl
    · by_cases h1 : rd l i ≥ (l.length : Int)
      · refine ⟨fun h => absurd (h i (Nat.le_refl _) hlt).2.1 (by omega), fun h => Ev.s ?_⟩
        simp only [impl_PermValid.l0, show (i : Int) < (l.length : Int) by omega, show (0 : Int) ≤ i by omega, h0, h1, if_true, if_false]
        exact Ev.const rfl
      · have hvi := hv (rd l i).toNat (by omega)
        have hcast : (((rd l i).toNat : Nat) : Int) = rd l i := by omega
        rw [hcast] at hvi
        by_cases h2 : s.getD (rd l i).toNat false = true
        · obtain ⟨k, hk, hke⟩ := hvi.1 h2
          refine ⟨fun h => absurd hke ((h i (Nat.le_refl _) hlt).2.2 k hk), fun h => Ev.s ?_⟩
          simp only [impl_PermValid.l0, show (i : Int) < (l.length : Int) by omega, show (0 : Int) ≤ i by omega, h0, h1, h2, if_true, if_false]
          exact Ev.const rfl
        · have hnew : ∀ k : Nat, k < i → rd l k ≠ rd l i := fun k hk e => h2 (hvi.2 ⟨k, hk, e⟩)
          have ih := implPerm_run l hl d (i + 1) (s.set (rd l i).toNat true) hd1 hlt (by simpa using hs) (fun v hv12 => by
            by_cases ev : v = (rd l i).toNat
            · subst ev
              rw [List.getD_eq_getElem?_getD, List.getElem?_set_self (by omega)]
              simp only [Option.getD_some, true_iff]
              exact ⟨i, Nat.lt_succ_self i, hcast.symm⟩
            · rw [List.getD_eq_getElem?_getD, List.getElem?_set_ne (Ne.symm ev), ← List.getD_eq_getElem?_getD, hv v hv12]
              constructor
              · rintro ⟨k, hk, hke⟩; exact ⟨k, by omega, hke⟩
              · rintro ⟨k, hk, hke⟩
                by_cases e : k = i
                · subst e; omega
                · exact ⟨k, by omega, hke⟩)
          refine ⟨fun h => Ev.s ?_, fun h => Ev.s ?_⟩
          · simp only [impl_PermValid.l0, show (i : Int) < (l.length : Int) by omega, show (0 : Int) ≤ i by omega, h0, h1, h2, if_true, if_false, hw]
            exact ih.1 fun q g1 g2 => h q (by omega) g2
          · simp only [impl_PermValid.l0, show (i : Int) < (l.length : Int) by omega, show (0 : Int) ≤ i by omega, h0, h1, h2, if_true, if_false, hw]
            refine ih.2 fun h' => h fun q g1 g2 => ?_
            by_cases e : q = i
            · rw [e]; exact ⟨by omega, by omega, hnew⟩
            · exact h' q (by omega) g2
theorem permValid_both (l : List Int) (hl : l.length ≤ 1048576) : ∃ b : Bool, Ev (fun k => spec_PermValid.f k l) b ∧ Ev (fun k => impl_PermValid.f k l) b ∧ (b = true ↔ isPerm l) := by
  unfold spec_PermValid.f impl_PermValid.f
  have hs := specPerm_run l hl l.length 0 (by omega) (by omega)
  by_cases hall : ∀ q : Nat, 0 ≤ q → q < l.length → okAt l q
  · refine ⟨decide (1 ≤ (l.length : Int) ∧ (l.length : Int) ≤ 12), hs.1 hall, ?_, ?_⟩
    · by_cases h1 : (l.length : Int) < 1
      · simp only [h1, if_true]
        exact Ev.const (by congr 1; symm; rw [decide_eq_false_iff_not]; omega)
      · by_cases h2 : (l.length : Int) > 12
        · simp only [h1, h2, if_true, if_false]
          exact Ev.const (by congr 1; symm; rw [decide_eq_false_iff_not]; omega)
        · simp only [h1, h2, if_false]
          rw [decide_eq_true (by omega)]
          refine (implPerm_run l (by omega) l.length 0 _ (by omega) (by omega) (by simp) fun v hv => ?_).1 hall
          constructor
          · intro h
            rw [List.getD_eq_getElem?_getD, List.getElem?_replicate, if_pos hv] at h
            cases h
          · rintro ⟨k, hk, _⟩; omega
    · rw [decide_eq_true_eq]
      exact ⟨fun h => ⟨by omega, by omega, fun i hi => hall i (by omega) hi⟩, fun h => ⟨by have := h.1; omega, by have := h.2.1; omega⟩⟩
  · refine ⟨false, hs.2 hall, ?_, ?_⟩
    · by_cases h1 : (l.length : Int) < 1
      · simp only [h1, if_true]; exact Ev.const rfl
      · by_cases h2 : (l.length : Int) > 12
        · simp only [h1, h2, if_true, if_false]; exact Ev.const rfl
        · simp only [h1, h2, if_false]
          refine (implPerm_run l (by omega) l.length 0 _ (by omega) (by omega) (by simp) fun v hv => ?_).2 hall
          constructor
          · intro h
            rw [List.getD_eq_getElem?_getD, List.getElem?_replicate, if_pos hv] at h
            cases h
          · rintro ⟨k, hk, _⟩; omega
    · exact ⟨fun h => (by cases h), fun h => absurd (fun q _ hq => h.2.2 q hq) hall⟩
def stl (n : Nat) : List Int := (List.range n).map fun (i : Nat) => (i : Int)
theorem stl_length (n : Nat) : (stl n).length = n := by simp [stl]
theorem stl_rd (n i : Nat) (h : i < n) : rd (stl n) i = i := by
  rw [rd_lt _ _ (by rw [stl_length]; exact h)]
  simp [stl]
theorem stl_succ (n : Nat) : stl (n + 1) = stl n ++ [(n : Int)] := by simp [stl, List.range_succ]
theorem rd_set_self (l : List Int) (i : Nat) (v : Int) (h : i < l.length) : rd (l.set i v) i = v := by
  rw [rd_lt _ _ (by simpa using h)]; simp
theorem rd_set_ne (l : List Int) (i j : Nat) (v : Int) (h : i ≠ j) : rd (l.set i v) j = rd l j := by
  unfold rd
  rw [Int.toNat_natCast, List.getD_eq_getElem?_getD, List.getD_eq_getElem?_getD, List.getElem?_set_ne h]
theorem rd_app_lt (l m : List Int) (i : Nat) (h : i < l.length) : rd (l ++ m) i = rd l i := by
  unfold rd
  rw [Int.toNat_natCast, List.getD_eq_getElem?_getD, List.getD_eq_getElem?_getD, List.getElem?_append_left h]
theorem list_ext (a b : List Int) (h : a.length = b.length) (hr : ∀ i : Nat, i < a.length → rd a i = rd b i) : a = b := by
  refine List.ext_getElem h fun i h1 h2 => ?_
  have := hr i h1
  rwa [rd_lt a i h1, rd_lt b i h2] at this
theorem same_run (n : Nat) (hn : n ≤ 1048576) : ∀ (d i : Nat), n - i = d → i ≤ n → Ev (fun k => spec_l1Same.l0 k n (stl i) i) (stl n)
  | 0, i, hd, hi => by
    refine Ev.s ?_
    simp only [spec_l1Same.l0, show ¬ (i : Int) < (n : Int) by omega, if_false]
    have : i = n := by omega
    subst this
    exact Ev.const rfl
  | d + 1, i, hd, hi => by
    refine Ev.s ?_
    simp only [spec_l1Same.l0, show (i : Int) < (n : Int) by omega, if_true, stl_length, show i < 17592186044416 by omega]
    rw [w64 (x := (i : Int) + 1) (by omega) (by omega), show ((i : Int) + 1) = ((i + 1 : Nat) : Int) by omega, ← stl_succ]
    exact same_run n hn d (i + 1) (by omega) (by omega)
theorem same_ev (n : Nat) (hn : n ≤ 1048576) : Ev (fun k => spec_l1Same.f k n) (stl n) := by
  unfold spec_l1Same.f
  exact same_run n hn n 0 (by omega) (by omega)
theorem still_run (n : Nat) (hn : n ≤ 1048576) : ∀ (d i : Nat) (l : List Int), n - i = d → i ≤ n → l.length = n → l.take i = (stl n).take i → Ev (fun k => impl_still.l0 k l n i) (stl n)
  | 0, i, l, hd, hi, hl, ht => by
    refine Ev.s ?_
    simp only [impl_still.l0, show ¬ (i : Int) < (n : Int) by omega, if_false]
    have : i = n := by omega
    subst this
    have e : (stl i).take i = stl i := by rw [List.take_of_length_le]; rw [stl_length]; exact Nat.le_refl _
    rw [e, List.take_of_length_le (by omega)] at ht
    exact Ev.const (by rw [ht])
  | d + 1, i, l, hd, hi, hl, ht => by
    have hlt : i < l.length := by omega
    refine Ev.s ?_
    simp only [impl_still.l0, show (i : Int) < (n : Int) by omega, show (0 : Int) ≤ i by omega, show (i : Int) < (l.length : Int) by omega, if_true]
    rw [w64 (x := (i : Int) + 1) (by omega) (by omega), show ((i : Int) + 1) = ((i + 1 : Nat) : Int) by omega, Int.toNat_natCast]
    refine still_run n hn d (i + 1) _ (by omega) (by omega) (by simpa using hl) ?_
    have h2 : i < (stl n).length := by rw [stl_length]; omega
    rw [List.take_succ_eq_append_getElem (by simpa using hlt), List.take_succ_eq_append_getElem h2, List.take_set_of_le (Nat.le_refl _), ht]
    simp [stl]
theorem still_ev (n : Nat) (hn : n ≤ 1048576) : Ev (fun k => impl_still.f k n) (stl n) := by
  unfold impl_still.f
  have h1 : n ≤ 35184372088832 := by omega
  have h2 : (0 : Int) ≤ (n : Int) := by omega
  simp only [Int.toNat_natCast, h1, h2, if_true, Option.bind_some, List.length_replicate]
  exact still_run n hn n 0 _ (by omega) (by omega) (by simp) (by simp)
def inR (n : Nat) (p : List Int) : Prop := p.length = n ∧ ∀ i : Nat, i < n → 0 ≤ rd p i ∧ rd p i < n
def closedL (ps : List (List Int)) (n : Nat) (S : Nat → Prop) : Prop := ∀ p ∈ ps, ∀ k, k < n → (S k ↔ S (rd p k).toNat)
def Reach (ps : List (List Int)) (n : Nat) (i j : Nat) : Prop := ∀ S, closedL ps n S → (S i ↔ S j)
theorem Reach.refl (ps : List (List Int)) (n i : Nat) : Reach ps n i i := fun S _ => Iff.rfl
theorem Reach.symm {ps : List (List Int)} {n i j : Nat} (h : Reach ps n i j) : Reach ps n j i := fun S c => (h S c).symm
theorem Reach.trans {ps : List (List Int)} {n i j k : Nat} (h : Reach ps n i j) (h' : Reach ps n j k) : Reach ps n i k := fun S c => (h S c).trans (h' S c)
theorem Reach.step {ps : List (List Int)} {n : Nat} {p : List Int} (hp : p ∈ ps) {k : Nat} (hk : k < n) : Reach ps n k (rd p k).toNat := fun S c => c p hp k hk
def orbI (ps : List (List Int)) (n : Nat) (o : List Int) : Prop := o.length = n ∧ ∀ i : Nat, i < n → 0 ≤ rd o i ∧ rd o i ≤ i ∧ Reach ps n (rd o i).toNat i
def orbOk (ps : List (List Int)) (n : Nat) (o : List Int) : Prop := orbI ps n o ∧ ∀ p ∈ ps, ∀ i : Nat, i < n → rd o (rd p i) = rd o i
theorem stl_orbI (ps : List (List Int)) (n : Nat) : orbI ps n (stl n) := by
  refine ⟨stl_length n, fun i hi => ?_⟩
  rw [stl_rd n i hi]
  exact ⟨by omega, by omega, by rw [Int.toNat_natCast]; exact Reach.refl _ _ _⟩
theorem orbOk_const {ps : List (List Int)} {n : Nat} {o : List Int} (h : orbOk ps n o) (hp : ∀ p ∈ ps, inR n p) {i j : Nat} (hr : Reach ps n i j) : rd o i = rd o j := by
  have := hr (fun k => rd o k = rd o i) (fun p hp' k hk => by
    have h1 := h.2 p hp' k hk
    have h2 := (hp p hp').2 k hk
    have e : (((rd p k).toNat : Nat) : Int) = rd p k := by omega
    show (rd o k = rd o i) ↔ (rd o (((rd p k).toNat : Nat) : Int) = rd o i)
    rw [e, h1])
  exact (this.1 rfl).symm
theorem orbOk_le {ps : List (List Int)} {n : Nat} {o o' : List Int} (h : orbOk ps n o) (h' : orbI ps n o') (hp : ∀ p ∈ ps, inR n p) {i : Nat} (hi : i < n) : rd o i ≤ rd o' i := by
  obtain ⟨g0, g1, g2⟩ := h'.2 i hi
  have e := orbOk_const h hp g2
  have hlt : (rd o' i).toNat < n := by omega
  have := (h.1.2 _ hlt).2.1
  have e2 : (((rd o' i).toNat : Nat) : Int) = rd o' i := by omega
  omega
theorem mn_le (a b : Int) : mn a b ≤ a ∧ mn a b ≤ b ∧ (mn a b = a ∨ mn a b = b) := by unfold mn; split <;> omega
theorem orbI_put {ps : List (List Int)} {n : Nat} {o : List Int} (h : orbI ps n o) {i : Nat} (hi : i < n) {v : Int} (h0 : 0 ≤ v) (h1 : v ≤ i) (hr : Reach ps n v.toNat i) : orbI ps n (o.set i v) := by
  refine ⟨by simpa using h.1, fun j hj => ?_⟩
  by_cases e : i = j
  · subst e
    rw [rd_set_self _ _ _ (by rw [h.1]; exact hi)]
    exact ⟨h0, h1, hr⟩
  · rw [rd_set_ne _ _ _ _ e]
    exact h.2 j hj
def tot : List Int → Int
  | [] => 0
  | x :: xs => x + tot xs
theorem tot_set : ∀ (l : List Int) (i : Nat) (v : Int), i < l.length → tot (l.set i v) + rd l i = tot l + v
  | [], i, v, h => by simp at h
  | x :: xs, 0, v, h => by simp [tot, rd]; omega
  | x :: xs, i + 1, v, h => by
    have ih := tot_set xs i v (by simpa using h)
    have e : rd (x :: xs) ((i + 1 : Nat) : Int) = rd xs i := by unfold rd; rw [Int.toNat_natCast, Int.toNat_natCast]; rfl
    rw [e]
    simp only [List.set_cons_succ, tot]
    omega
theorem tot_nonneg : ∀ (l : List Int), (∀ i : Nat, i < l.length → 0 ≤ rd l i) → 0 ≤ tot l
  | [], _ => by simp [tot]
  | x :: xs, h => by
    have h0 := h 0 (by simp)
    have e0 : rd (x :: xs) ((0 : Nat) : Int) = x := rfl
    rw [e0] at h0
    have := tot_nonneg xs fun i hi => by
      have := h (i + 1) (by simpa using hi)
      have e : rd (x :: xs) ((i + 1 : Nat) : Int) = rd xs i := by unfold rd; rw [Int.toNat_natCast, Int.toNat_natCast]; rfl
      rwa [e] at this
    simp only [tot]
    omega
theorem rdL_nth (ps : List (List Int)) (q : Nat) (h : q < ps.length) : rd_L1 ps (q : Int) = ps[q] := by
  have e : (q : Int).toNat = q := Int.toNat_natCast q
  unfold rd_L1
  rw [e, List.getD_eq_getElem?_getD, List.getElem?_eq_getElem h]
  rfl
theorem implOrb_in (ps : List (List Int)) (n : Nat) (hn : n ≤ 12) (q : Nat) (hq : q < ps.length) (hL : ps.length ≤ 1048576) (P : List Int) (hP : P ∈ ps) (pl : P.length = n) (pr : ∀ i : Nat, i < n → 0 ≤ rd P i ∧ rd P i < n) : ∀ (d i : Nat) (o : List Int) (g : Bool), n - i = d → i ≤ n → orbI ps n o →
    ∃ (o' : List Int) (g' : Bool), orbI ps n o' ∧ (∀ r, Ev (fun k => impl_orbits.l1 k ps o' g' ps ps.length ((q + 1 : Nat) : Int)) r → Ev (fun k => impl_orbits.l2 k ps o g ps ps.length q P n i) r) ∧ tot o' ≤ tot o ∧
      (g' = true → g = true ∨ tot o' < tot o) ∧ (g' = false → g = false ∧ o' = o ∧ ∀ j : Nat, i ≤ j → j < n → rd o (rd P j) = rd o j)
  | 0, i, o, g, hd, hi, ho => by
    refine ⟨o, g, ho, fun r h => Ev.s ?_, by omega, fun h => .inl h, fun h => ⟨h, rfl, fun j h1 h2 => by omega⟩⟩
    simp only [impl_orbits.l2, show ¬ (i : Int) < (n : Int) by omega, if_false]
    rw [w64 (x := (q : Int) + 1) (by omega) (by omega), show ((q : Int) + 1) = ((q + 1 : Nat) : Int) by omega]
    exact h
  | d + 1, i, o, g, hd, hi, ho => by
    have hlt : i < n := by omega
    have hd1 : n - (i + 1) = d := by omega
    have hw : wrap64 ((i : Int) + 1) = ((i + 1 : Nat) : Int) := by rw [w64 (by omega) (by omega)]; omega
    have hr := pr i hlt
    have hst := Reach.step hP hlt
    have hlen := ho.1
    obtain ⟨t, ht⟩ : ∃ t : Nat, rd P i = t := ⟨(rd P i).toNat, by omega⟩
    rw [ht, Int.toNat_natCast] at hst
    have htn : t < n := by omega
    obtain ⟨i0, i1, i2⟩ := ho.2 i hlt
    obtain ⟨t0, t1, t2⟩ := ho.2 t htn
    obtain ⟨hm1, hm2, hm3⟩ := mn_le (rd o i) (rd o t)
    have g1 : (i : Int) < (n : Int) := by omega
    have g2 : (0 : Int) ≤ (i : Int) := by omega
    have g3 : (0 : Int) ≤ (t : Int) := by omega
    have g4 : (t : Int) < (n : Int) := by omega
    obtain ⟨v, hv⟩ : ∃ v, mn (rd o i) (rd o t) = v := ⟨_, rfl⟩
    rw [hv] at hm1 hm2 hm3
    by_cases hc : rd o i = v ∧ rd o t = v
    · obtain ⟨c1, c2⟩ := hc
      obtain ⟨o', g', a1, a2, a3, a4, a5⟩ := implOrb_in ps n hn q hq hL P hP pl pr d (i + 1) o g hd1 hlt ho
      refine ⟨o', g', a1, fun r h => Ev.s ?_, a3, a4, fun h => ?_⟩
      · simp only [impl_orbits.l2, g1, g2, g3, g4, pl, hlen, ht, hv, if_true, hw]
        simp only [c1, c2, if_true]
        exact a2 r h
      · obtain ⟨b1, b2, b3⟩ := a5 h
        refine ⟨b1, b2, fun j h1 h2 => ?_⟩
        by_cases e : j = i
        · rw [e, ht]; omega
        · exact b3 j (by omega) h2
    · have hv0 : 0 ≤ v := by omega
      have hrv : Reach ps n v.toNat i := by
        rcases hm3 with e | e
        · rw [e]; exact i2
        · rw [e]; exact t2.trans hst.symm
      have ho1 := orbI_put ho hlt hv0 (by omega) hrv
      have ho2 := orbI_put ho1 htn hv0 (by omega) (hrv.trans hst)
      have hd2 : tot ((o.set i v).set t v) < tot o := by
        have z1 := tot_set o i v (by omega)
        have z2 := tot_set (o.set i v) t v (by rw [List.length_set]; omega)
        by_cases e : i = t
        · subst e
          rw [rd_set_self _ _ _ (by omega)] at z2
          omega
        · rw [rd_set_ne _ _ _ _ e] at z2
          omega
      obtain ⟨o', g', a1, a2, a3, a4, a5⟩ := implOrb_in ps n hn q hq hL P hP pl pr d (i + 1) ((o.set i v).set t v) true hd1 hlt ho2
      refine ⟨o', g', a1, fun r h => Ev.s ?_, by omega, fun h => .inr (by omega), fun h => ?_⟩
      · have hgo := a2 r h
        by_cases c1 : rd o i = v
        · have c2 : ¬ rd o t = v := fun e => hc ⟨c1, e⟩
          simp only [impl_orbits.l2, g1, g2, g3, g4, pl, hlen, ht, hv, if_true, hw, Int.toNat_natCast]
          simp only [c1, c2, if_true, if_false]
          exact hgo
        · simp only [impl_orbits.l2, g1, g2, g3, g4, pl, hlen, ht, hv, if_true, hw, Int.toNat_natCast]
          simp only [c1, if_false]
          exact hgo
      · have := (a5 h).1
        cases this
theorem implOrb_pass (ps : List (List Int)) (n : Nat) (hn : n ≤ 12) (hL : ps.length ≤ 1048576) (hp : ∀ p ∈ ps, inR n p) : ∀ (d q : Nat) (o : List Int) (g : Bool), ps.length - q = d → q ≤ ps.length → orbI ps n o →
    ∃ (o' : List Int) (g' : Bool), orbI ps n o' ∧ (∀ r, Ev (fun k => impl_orbits.l0 k ps o' g') r → Ev (fun k => impl_orbits.l1 k ps o g ps ps.length q) r) ∧ tot o' ≤ tot o ∧
      (g' = true → g = true ∨ tot o' < tot o) ∧ (g' = false → g = false ∧ o' = o ∧ ∀ z : Nat, q ≤ z → z < ps.length → ∀ j : Nat, j < n → rd o (rd (rd_L1 ps z) j) = rd o j)
  | 0, q, o, g, hd, hi, ho => by
    refine ⟨o, g, ho, fun r h => Ev.s ?_, by omega, fun h => .inl h, fun h => ⟨h, rfl, fun j h1 h2 => by omega⟩⟩
    simp only [impl_orbits.l1, show ¬ (q : Int) < (ps.length : Int) by omega, if_false]
    exact h
  | d + 1, q, o, g, hd, hi, ho => by
    have hlt : q < ps.length := by omega
    have hd1 : ps.length - (q + 1) = d := by omega
    have hP : rd_L1 ps q ∈ ps := by rw [rdL_nth ps q hlt]; exact List.getElem_mem hlt
    obtain ⟨pl, pr⟩ := hp _ hP
    obtain ⟨o1, b1, c1, c2, c3, c4, c5⟩ := implOrb_in ps n hn q hlt hL _ hP pl pr n 0 o g (by omega) (by omega) ho
    obtain ⟨o2, b2, e1, e2, e3, e4, e5⟩ := implOrb_pass ps n hn hL hp d (q + 1) o1 b1 hd1 hlt c1
    refine ⟨o2, b2, e1, fun r h => Ev.s ?_, by omega, fun h => ?_, fun h => ?_⟩
    · simp only [impl_orbits.l1, show (q : Int) < (ps.length : Int) by omega, show (0 : Int) ≤ (q : Int) by omega, if_true, pl]
      exact c2 r (e2 r h)
    · rcases e4 h with z | z
      · rcases c4 z with y | y
        · exact .inl y
        · exact .inr (by omega)
      · exact .inr (by omega)
    · obtain ⟨f1, f2, f3⟩ := e5 h
      obtain ⟨g1, g2, g3⟩ := c5 f1
      refine ⟨g1, f2.trans g2, fun z hz hz' j hj => ?_⟩
      by_cases e : z = q
      · rw [e]; exact g3 j (by omega) hj
      · have := f3 z (by omega) hz' j hj
        rwa [g2] at this
theorem implOrb_loop (ps : List (List Int)) (n : Nat) (hn : n ≤ 12) (hL : ps.length ≤ 1048576) (hp : ∀ p ∈ ps, inR n p) : ∀ (m : Nat) (o : List Int), tot o ≤ m → orbI ps n o → ∃ o', orbOk ps n o' ∧ Ev (fun k => impl_orbits.l0 k ps o true) o' := by
  intro m
  induction m using Nat.strongRecOn with
  | _ m ih =>
    intro o hm ho
    obtain ⟨o1, g1, c1, c2, c3, c4, c5⟩ := implOrb_pass ps n hn hL hp ps.length 0 o false (by omega) (by omega) ho
    cases g1 with
    | false =>
      obtain ⟨_, e2, e3⟩ := c5 rfl
      refine ⟨o, ⟨ho, fun p hp' i hi => ?_⟩, Ev.s ?_⟩
      · obtain ⟨z, hz, rfl⟩ := List.mem_iff_getElem.1 hp'
        have := e3 z (by omega) hz i hi
        rwa [rdL_nth ps z hz] at this
      · simp only [impl_orbits.l0, if_true]
        refine c2 o (Ev.s ?_)
        simp only [impl_orbits.l0, Bool.false_eq_true, if_false]
        exact Ev.const (by rw [e2])
    | true =>
      have hlt : tot o1 < tot o := by
        rcases c4 rfl with z | z
        · cases z
        · exact z
      have h0 := tot_nonneg o1 fun i hi => (c1.2 i (by rw [← c1.1]; exact hi)).1
      obtain ⟨o', h1, h2⟩ := ih (tot o1).toNat (by omega) o1 (by omega) c1
      refine ⟨o', h1, Ev.s ?_⟩
      simp only [impl_orbits.l0, if_true]
      exact c2 o' h2
theorem implOrb_ev (ps : List (List Int)) (n : Nat) (hn : n ≤ 12) (h0 : 0 < ps.length) (hL : ps.length ≤ 1048576) (hp : ∀ p ∈ ps, inR n p) : ∃ o, orbOk ps n o ∧ Ev (fun k => impl_orbits.f k ps) o := by
  obtain ⟨o, h1, h2⟩ := implOrb_loop ps n hn hL hp (tot (stl n)).toNat (stl n) (by have := tot_nonneg (stl n) (fun i hi => by rw [stl_rd n i (by rwa [stl_length] at hi)]; omega); omega) (stl_orbI ps n)
  refine ⟨o, h1, ?_⟩
  unfold impl_orbits.f
  have hz : (rd_L1 ps 0).length = n := by
    have := rdL_nth ps 0 h0
    rw [show ((0 : Nat) : Int) = 0 from rfl] at this
    rw [this]
    exact (hp _ (List.getElem_mem h0)).1
  simp only [show (0 : Int) < (ps.length : Int) by omega, if_true, hz]
  exact Ev.bind (still_ev n (by omega)) h2
def lag (o g : List Int) : Nat → Nat
  | 0 => 0
  | i + 1 => (if rd o i = rd g i then 0 else 1) + lag o g i
theorem lag_le (o g : List Int) : ∀ i, lag o g i ≤ i
  | 0 => Nat.le_refl _
  | i + 1 => by have := lag_le o g i; simp only [lag]; split <;> omega
theorem lag_zero (o g : List Int) : ∀ n, lag o g n = 0 → ∀ i, i < n → rd o i = rd g i
  | 0, _, i, h => by omega
  | n + 1, hz, i, h => by
    simp only [lag] at hz
    by_cases e : i = n
    · subst e
      by_cases c : rd o i = rd g i
      · exact c
      · rw [if_neg c] at hz; omega
    · exact lag_zero o g n (by omega) i (by omega)
theorem lag_mono (o o' g : List Int) (h : ∀ i : Nat, rd o i = rd g i → rd o' i = rd g i) : ∀ n, lag o' g n ≤ lag o g n
  | 0 => Nat.le_refl _
  | n + 1 => by
    have ih := lag_mono o o' g h n
    simp only [lag]
    by_cases c : rd o n = rd g n
    · rw [if_pos c, if_pos (h n c)]; omega
    · rw [if_neg c]; split <;> omega
theorem lag_lt (o o' g : List Int) (h : ∀ i : Nat, rd o i = rd g i → rd o' i = rd g i) (z : Nat) (hz : rd o z ≠ rd g z) (hz' : rd o' z = rd g z) : ∀ n, z < n → lag o' g n < lag o g n
  | 0, hn => by omega
  | n + 1, hn => by
    simp only [lag]
    by_cases e : z = n
    · subst e
      have := lag_mono o o' g h z
      rw [if_neg hz, if_pos hz']; omega
    · have ih := lag_lt o o' g h z hz hz' n (by omega)
      by_cases c : rd o n = rd g n
      · rw [if_pos c, if_pos (h n c)]; omega
      · rw [if_neg c]; split <;> omega
theorem mn_eq (a b : Int) : mn a b = if a ≤ b then a else b := by unfold mn; split <;> split <;> omega
theorem specOrb_sweep (t f : List Int) (n : Nat) (hn : n ≤ 12) (ht : inR n t) (hf : inR n f) (g : List Int) (hg : orbOk [t, f] n g) (round : Int) : ∀ (d i : Nat) (o : List Int), n - i = d → i ≤ n → orbI [t, f] n o →
    ∃ o', orbI [t, f] n o' ∧ (∀ r, Ev (fun k => spec_l1Orbits.l0 k t f o' (wrap64 (round + 1))) r → Ev (fun k => spec_l1Orbits.l1 k t f o round i) r) ∧ (∀ z : Nat, z < n → rd o z = rd g z → rd o' z = rd g z) ∧
      (∀ j : Nat, i ≤ j → j < n → (rd o j = rd g j ∨ rd o (rd t j) = rd g (rd t j) ∨ rd o (rd f j) = rd g (rd f j)) → rd o' j = rd g j ∧ rd o' (rd t j) = rd g (rd t j) ∧ rd o' (rd f j) = rd g (rd f j))
  | 0, i, o, hd, hi, ho => by
    refine ⟨o, ho, fun r h => Ev.s ?_, fun z _ h => h, fun j h1 h2 => by omega⟩
    simp only [spec_l1Orbits.l1, ht.1, show ¬ (i : Int) < (n : Int) by omega, if_false]
    exact h
  | d + 1, i, o, hd, hi, ho => by
    have hlt : i < n := by omega
    have hd1 : n - (i + 1) = d := by omega
    have hw : wrap64 ((i : Int) + 1) = ((i + 1 : Nat) : Int) := by rw [w64 (by omega) (by omega)]; omega
    have hps : ∀ p ∈ [t, f], inR n p := by intro p hp; simp at hp; rcases hp with rfl | rfl <;> assumption
    have hra := ht.2 i hlt
    have hrb := hf.2 i hlt
    have sta := Reach.step (ps := [t, f]) (p := t) (by simp) hlt
    have stb := Reach.step (ps := [t, f]) (p := f) (by simp) hlt
    have ca := hg.2 t (by simp) i hlt
    have cb := hg.2 f (by simp) i hlt
    obtain ⟨a, hta⟩ : ∃ a : Nat, rd t i = a := ⟨(rd t i).toNat, by omega⟩
    obtain ⟨b, hfb⟩ : ∃ b : Nat, rd f i = b := ⟨(rd f i).toNat, by omega⟩
    rw [hta, Int.toNat_natCast] at sta
    rw [hfb, Int.toNat_natCast] at stb
    rw [hta] at ca
    rw [hfb] at cb
    have han : a < n := by omega
    have hbn : b < n := by omega
    have hlen := ho.1
    obtain ⟨i0, i1, i2⟩ := ho.2 i hlt
    obtain ⟨a0, a1, a2⟩ := ho.2 a han
    obtain ⟨b0, b1, b2⟩ := ho.2 b hbn
    have li := orbOk_le hg ho hps hlt
    have la := orbOk_le hg ho hps han
    have lb := orbOk_le hg ho hps hbn
    obtain ⟨v, hv⟩ : ∃ v, mn (rd o i) (mn (rd o a) (rd o b)) = v := ⟨_, rfl⟩
    have hvm : v ≤ rd o i ∧ v ≤ rd o a ∧ v ≤ rd o b ∧ (v = rd o i ∨ v = rd o a ∨ v = rd o b) := by
      rw [← hv, mn_eq, mn_eq]
      split <;> split at * <;> omega
    have hv0 : 0 ≤ v := by omega
    have hrv : Reach [t, f] n v.toNat i := by
      rcases hvm.2.2.2 with e | e | e
      · rw [e]; exact i2
      · rw [e]; exact a2.trans sta.symm
      · rw [e]; exact b2.trans stb.symm
    have ho1 := orbI_put ho hlt hv0 (by omega) hrv
    have ho2 := orbI_put ho1 han hv0 (by omega) (hrv.trans sta)
    have ho3 := orbI_put ho2 hbn hv0 (by omega) (hrv.trans stb)
    obtain ⟨o3, ho3e⟩ : ∃ o3, ((o.set i v).set a v).set b v = o3 := ⟨_, rfl⟩
    rw [ho3e] at ho3
    have rdo3 : ∀ z : Nat, rd o3 z = if z = i ∨ z = a ∨ z = b then v else rd o z := by
      intro z
      rw [← ho3e]
      by_cases z3 : b = z
      · subst z3; rw [rd_set_self _ _ _ (by simp; omega)]; simp
      · rw [rd_set_ne _ _ _ _ z3]
        by_cases z2 : a = z
        · subst z2; rw [rd_set_self _ _ _ (by simp; omega)]; simp
        · rw [rd_set_ne _ _ _ _ z2]
          by_cases z1 : i = z
          · subst z1; rw [rd_set_self _ _ _ (by omega)]; simp
          · rw [rd_set_ne _ _ _ _ z1, if_neg (by omega)]
    have keep3 : ∀ z : Nat, z < n → rd o z = rd g z → rd o3 z = rd g z := by
      intro z hz e
      have l3 := orbOk_le hg ho3 hps hz
      rw [rdo3 z] at l3 ⊢
      by_cases c : z = i ∨ z = a ∨ z = b
      · rw [if_pos c] at l3 ⊢
        have : v ≤ rd o z := by rcases c with rfl | rfl | rfl <;> omega
        omega
      · rw [if_neg c]; exact e
    obtain ⟨o', c1, c2, c3, c4⟩ := specOrb_sweep t f n hn ht hf g hg round d (i + 1) o3 hd1 hlt ho3
    refine ⟨o', c1, fun r h => Ev.s ?_, fun z hz e => c3 z hz (keep3 z hz e), fun j h1 h2 hj => ?_⟩
    · have hgo := c2 r h
      have g1 : (i : Int) < (n : Int) := by omega
      have g2 : (0 : Int) ≤ (i : Int) := by omega
      have g3 : (0 : Int) ≤ (a : Int) := by omega
      have g4 : (a : Int) < (n : Int) := by omega
      have g5 : (0 : Int) ≤ (b : Int) := by omega
      have g6 : (b : Int) < (n : Int) := by omega
      simp only [spec_l1Orbits.l1, ht.1, hf.1, hlen, g1, g2, g3, g4, g5, g6, hta, hfb, hv, if_true, hw, Int.toNat_natCast, ho3e]
      exact hgo
    · by_cases e : j = i
      · subst e
        have l3 := orbOk_le hg ho3 hps hlt
        have e3 : rd o3 j = v := by rw [rdo3 j, if_pos (.inl rfl)]
        have ea3 : rd o3 a = v := by rw [rdo3 a, if_pos (.inr (.inl rfl))]
        have eb3 : rd o3 b = v := by rw [rdo3 b, if_pos (.inr (.inr rfl))]
        rw [hta, hfb] at hj ⊢
        have hvg : v = rd g j := by
          rcases hj with z | z | z <;> omega
        exact ⟨c3 j hlt (by omega), c3 a han (by omega), c3 b hbn (by omega)⟩
      · refine c4 j (by omega) h2 ?_
        have hta' := ht.2 j h2
        have hfb' := hf.2 j h2
        obtain ⟨a', ha'⟩ : ∃ a' : Nat, rd t j = a' := ⟨(rd t j).toNat, by omega⟩
        obtain ⟨b', hb'⟩ : ∃ b' : Nat, rd f j = b' := ⟨(rd f j).toNat, by omega⟩
        rw [ha', hb'] at hj ⊢
        rcases hj with z | z | z
        · exact .inl (keep3 j h2 z)
        · exact .inr (.inl (keep3 a' (by omega) z))
        · exact .inr (.inr (keep3 b' (by omega) z))
theorem specOrb_loop (t f : List Int) (n : Nat) (hn : n ≤ 12) (ht : inR n t) (hf : inR n f) (g : List Int) (hg : orbOk [t, f] n g) : ∀ (d i : Nat) (o : List Int), n - i = d → i ≤ n → orbI [t, f] n o → lag o g n ≤ d → Ev (fun k => spec_l1Orbits.l0 k t f o i) g
  | 0, i, o, hd, hi, ho, hl => by
    refine Ev.s ?_
    simp only [spec_l1Orbits.l0, ht.1, show ¬ (i : Int) < (n : Int) by omega, if_false]
    have : o = g := list_ext o g (ho.1.trans hg.1.1.symm) fun z hz => lag_zero o g n (by omega) z (by rw [← ho.1]; exact hz)
    exact Ev.const (by rw [this])
  | d + 1, i, o, hd, hi, ho, hl => by
    have hlt : i < n := by omega
    have hd1 : n - (i + 1) = d := by omega
    have hw : wrap64 ((i : Int) + 1) = ((i + 1 : Nat) : Int) := by rw [w64 (by omega) (by omega)]; omega
    have hps : ∀ p ∈ [t, f], inR n p := by intro p hp; simp at hp; rcases hp with rfl | rfl <;> assumption
    obtain ⟨o', c1, c2, c3, c4⟩ := specOrb_sweep t f n hn ht hf g hg i n 0 o (by omega) (by omega) ho
    refine Ev.s ?_
    simp only [spec_l1Orbits.l0, ht.1, show (i : Int) < (n : Int) by omega, if_true]
    refine c2 g ?_
    rw [hw]
    refine specOrb_loop t f n hn ht hf g hg d (i + 1) o' hd1 hlt c1 ?_
    have hout : ∀ z : Nat, ¬ z < n → rd o z = rd o' z := by
      intro z hz
      unfold rd
      rw [Int.toNat_natCast, List.getD_eq_getElem?_getD, List.getD_eq_getElem?_getD, List.getElem?_eq_none (by rw [ho.1]; omega), List.getElem?_eq_none (by rw [c1.1]; omega)]
    have keep : ∀ z : Nat, rd o z = rd g z → rd o' z = rd g z := fun z e => by
      by_cases hz : z < n
      · exact c3 z hz e
      · rw [← hout z hz]; exact e
    by_cases hz : lag o g n = 0
    · have := lag_mono o o' g keep n
      omega
    · -- some point has not its label: some step leads from one that has it to one that has it not
      have hex : ∃ z : Nat, z < n ∧ rd o z ≠ rd g z ∧ rd o' z = rd g z := by
        refine Classical.byContradiction fun hno => ?_
        have hsame : ∀ z : Nat, z < n → (rd o z = rd g z ↔ rd o' z = rd g z) := fun z hz => ⟨keep z, fun e => Classical.byContradiction fun hne => hno ⟨z, hz, hne, e⟩⟩
        have hcl : closedL [t, f] n (fun z => rd o z = rd g z) := by
          intro p hp k hk
          have hr := (hps p hp).2 k hk
          obtain ⟨a, ha⟩ : ∃ a : Nat, rd p k = a := ⟨(rd p k).toNat, by omega⟩
          have han : a < n := by omega
          rw [ha, Int.toNat_natCast]
          show rd o k = rd g k ↔ rd o a = rd g a
          have h4 := c4 k (by omega) hk
          simp at hp
          rcases hp with rfl | rfl
          · rw [ha] at h4
            exact ⟨fun e => (hsame a han).2 (h4 (.inl e)).2.1, fun e => (hsame k hk).2 (h4 (.inr (.inl e))).1⟩
          · rw [ha] at h4
            exact ⟨fun e => (hsame a han).2 (h4 (.inl e)).2.2, fun e => (hsame k hk).2 (h4 (.inr (.inr e))).1⟩
        have hall : ∀ z : Nat, z < n → rd o z = rd g z := by
          intro z hz
          obtain ⟨g0, g1, g2⟩ := hg.1.2 z hz
          have hm : (rd g z).toNat < n := by omega
          have e1 : ((rd g z).toNat : Int) = rd g z := by omega
          have hgm : rd g ((rd g z).toNat : Nat) = rd g z := orbOk_const hg hps g2
          have hom : rd o ((rd g z).toNat : Nat) = rd g ((rd g z).toNat : Nat) := by
            have h1 := orbOk_le hg ho hps hm
            have h2 := (ho.2 _ hm).2.1
            omega
          exact (g2 _ hcl).1 hom
        have : lag o g n = 0 := by
          have hz0 : ∀ m, m ≤ n → lag o g m = 0 := by
            intro m
            induction m with
            | zero => intro _; rfl
            | succ m ih => intro hm; simp only [lag]; rw [if_pos (hall m (by omega)), ih (by omega)]
          exact hz0 n (Nat.le_refl _)
        exact hz this
      obtain ⟨z, z1, z2, z3⟩ := hex
      have := lag_lt o o' g keep z z2 z3 n z1
      omega
theorem orb_both (t f : List Int) (n : Nat) (hn : n ≤ 12) (h1 : 1 ≤ n) (ht : inR n t) (hf : inR n f) : ∃ o, orbOk [t, f] n o ∧ Ev (fun k => spec_l1Orbits.f k t f) o ∧ Ev (fun k => impl_orbits.f k [t, f]) o := by
  have hps : ∀ p ∈ [t, f], inR n p := by intro p hp; simp at hp; rcases hp with rfl | rfl <;> assumption
  obtain ⟨o, ho, he⟩ := implOrb_ev [t, f] n hn (by simp) (by simp) hps
  refine ⟨o, ho, ?_, he⟩
  unfold spec_l1Orbits.f
  rw [ht.1]
  refine Ev.bind (same_ev n (by omega)) ?_
  refine specOrb_loop t f n hn ht hf o ho n 0 (stl n) (by omega) (by omega) (stl_orbI _ n) ?_
  exact lag_le _ _ n
theorem isPerm_inR (l : List Int) (h : isPerm l) : inR l.length l := ⟨rfl, fun i hi => ⟨(h.2.2 i hi).1, (h.2.2 i hi).2.1⟩⟩
def flipAt (f : List Int) (i : Nat) : Prop := rd f i ≠ i ∧ rd f (rd f i) = i
def isMap (t f : List Int) : Prop := isPerm t ∧ isPerm f ∧ t.length = f.length ∧ (∀ i : Nat, i < f.length → flipAt f i) ∧ ∀ i j : Nat, i < f.length → j < f.length → Reach [t, f] f.length i j
def maxF : List Int → Int → Int
  | [], m => m
  | x :: xs, m => maxF xs (mx m x)
theorem maxF_zero : ∀ (l : List Int) (m : Int), 0 ≤ m → (∀ x ∈ l, 0 ≤ x) → 0 ≤ maxF l m ∧ (maxF l m = 0 ↔ m = 0 ∧ ∀ x ∈ l, x = 0)
  | [], m, hm, _ => by simp [maxF, hm]
  | x :: xs, m, hm, hx => by
    have hx0 := hx x (by simp)
    have hmx : 0 ≤ mx m x ∧ (mx m x = 0 ↔ m = 0 ∧ x = 0) := by unfold mx; split <;> omega
    obtain ⟨h1, h2⟩ := maxF_zero xs (mx m x) hmx.1 fun y hy => hx y (by simp [hy])
    refine ⟨h1, ?_⟩
    simp only [maxF, h2, hmx.2, List.mem_cons, forall_eq_or_imp, and_assoc]
theorem max_run (l : List Int) (hl : l.length ≤ 1048576) : ∀ (d i : Nat) (m : Int), l.length - i = d → i ≤ l.length → Ev (fun k => slices_Max_int_int.l0 k l m i) (maxF (l.drop i) m)
  | 0, i, m, hd, hi => by
    refine Ev.s ?_
    simp only [slices_Max_int_int.l0, show ¬ (i : Int) < (l.length : Int) by omega, if_false]
    rw [List.drop_eq_nil_of_le (by omega)]
    exact Ev.const rfl
  | d + 1, i, m, hd, hi => by
    have hlt : i < l.length := by omega
    refine Ev.s ?_
    simp only [slices_Max_int_int.l0, show (i : Int) < (l.length : Int) by omega, show (0 : Int) ≤ (i : Int) by omega, if_true]
    rw [w64 (x := (i : Int) + 1) (by omega) (by omega), show ((i : Int) + 1) = ((i + 1 : Nat) : Int) by omega, List.drop_eq_getElem_cons hlt, rd_lt l i hlt]
    exact max_run l hl d (i + 1) _ (by omega) (by omega)
theorem max_ev (l : List Int) (hl : l.length ≤ 1048576) (h1 : 1 ≤ l.length) (h0 : ∀ x ∈ l, 0 ≤ x) : ∃ m, Ev (fun k => slices_Max_int_int.f k l) m ∧ (m = 0 ↔ ∀ x ∈ l, x = 0) := by
  cases l with
  | nil => simp at h1
  | cons x xs =>
    refine ⟨maxF xs x, ?_, ?_⟩
    · unfold slices_Max_int_int.f
      simp only [show ¬ (((x :: xs).length : Nat) : Int) < 1 by omega, show (0 : Int) < (((x :: xs).length : Nat) : Int) by omega, if_true, if_false]
      exact max_run (x :: xs) hl _ 1 x rfl h1
    · rw [(maxF_zero xs x (h0 x (by simp)) fun y hy => h0 y (by simp [hy])).2]
      simp
theorem specFlip_run (t f : List Int) (hf : isPerm f) : ∀ (d i : Nat), f.length - i = d → i ≤ f.length →
    ((∀ q : Nat, i ≤ q → q < f.length → flipAt f q) → ∀ r, Ev (fun k => (spec_l1Orbits.f k t f).bind fun o => spec_MapValid.l1 k o 0) r → Ev (fun k => spec_MapValid.l0 k i t f) r) ∧ (¬ (∀ q : Nat, i ≤ q → q < f.length → flipAt f q) → Ev (fun k => spec_MapValid.l0 k i t f) false)
  | 0, i, hd, hi => by
    refine ⟨fun _ r h => Ev.s ?_, fun h => absurd (fun q h1 h2 => by omega) h⟩
    simp only [spec_MapValid.l0, show ¬ (i : Int) < (f.length : Int) by omega, if_false]
    exact h
  | d + 1, i, hd, hi => by
    have hlt : i < f.length := by omega
    have hl12 := hf.2.1
    have hr := (isPerm_inR f hf).2 i hlt
    have ih := specFlip_run t f hf d (i + 1) (by omega) (by omega)
    have hw : wrap64 ((i : Int) + 1) = ((i + 1 : Nat) : Int) := by rw [w64 (by omega) (by omega)]; omega
    have g1 : (i : Int) < (f.length : Int) := by omega
    have g2 : (0 : Int) ≤ (i : Int) := by omega
    by_cases c1 : rd f i = i
    · refine ⟨fun h => absurd c1 (h i (Nat.le_refl _) hlt).1, fun h => Ev.s ?_⟩
      simp only [spec_MapValid.l0, g1, g2, c1, if_true]
      exact Ev.const rfl
    · by_cases c2 : rd f (rd f i) = i
      · refine ⟨fun h r hr' => Ev.s ?_, fun h => Ev.s ?_⟩
        · simp only [spec_MapValid.l0, g1, g2, c1, c2, hr.1, hr.2, if_true, if_false, hw]
          exact ih.1 (fun q h1 h2 => h q (by omega) h2) r hr'
        · simp only [spec_MapValid.l0, g1, g2, c1, c2, hr.1, hr.2, if_true, if_false, hw]
          refine ih.2 fun h' => h fun q h1 h2 => ?_
          by_cases e : q = i
          · rw [e]; exact ⟨c1, c2⟩
          · exact h' q (by omega) h2
      · refine ⟨fun h => absurd (h i (Nat.le_refl _) hlt).2 c2, fun h => Ev.s ?_⟩
        simp only [spec_MapValid.l0, g1, g2, c1, c2, hr.1, hr.2, if_true, if_false]
        exact Ev.const rfl
theorem implFlip_run (t f : List Int) (hf : isPerm f) : ∀ (d i : Nat), f.length - i = d → i ≤ f.length →
    ((∀ q : Nat, i ≤ q → q < f.length → flipAt f q) → ∀ r, Ev (fun k => (impl_orbits.f k [t, f]).bind fun o => (slices_Max_int_int.f k o).bind fun m => some (m == 0)) r → Ev (fun k => impl_MapValid.l0 k f f.length i t f) r) ∧ (¬ (∀ q : Nat, i ≤ q → q < f.length → flipAt f q) → Ev (fun k => impl_MapValid.l0 k f f.length i t f) false)
  | 0, i, hd, hi => by
    refine ⟨fun _ r h => Ev.s ?_, fun h => absurd (fun q h1 h2 => by omega) h⟩
    simp only [impl_MapValid.l0, show ¬ (i : Int) < (f.length : Int) by omega, if_false]
    exact h
  | d + 1, i, hd, hi => by
    have hlt : i < f.length := by omega
    have hl12 := hf.2.1
    have hr := (isPerm_inR f hf).2 i hlt
    have ih := implFlip_run t f hf d (i + 1) (by omega) (by omega)
    have hw : wrap64 ((i : Int) + 1) = ((i + 1 : Nat) : Int) := by rw [w64 (by omega) (by omega)]; omega
    have g1 : (i : Int) < (f.length : Int) := by omega
    have g2 : (0 : Int) ≤ (i : Int) := by omega
    by_cases c1 : rd f i = i
    · refine ⟨fun h => absurd c1 (h i (Nat.le_refl _) hlt).1, fun h => Ev.s ?_⟩
      simp only [impl_MapValid.l0, g1, g2, c1, if_true]
      exact Ev.const rfl
    · by_cases c2 : rd f (rd f i) = i
      · refine ⟨fun h r hr' => Ev.s ?_, fun h => Ev.s ?_⟩
        · simp only [impl_MapValid.l0, g1, g2, c1, c2, hr.1, hr.2, if_true, if_false, hw]
          exact ih.1 (fun q h1 h2 => h q (by omega) h2) r hr'
        · simp only [impl_MapValid.l0, g1, g2, c1, c2, hr.1, hr.2, if_true, if_false, hw]
          refine ih.2 fun h' => h fun q h1 h2 => ?_
          by_cases e : q = i
          · rw [e]; exact ⟨c1, c2⟩
          · exact h' q (by omega) h2
      · refine ⟨fun h => absurd (h i (Nat.le_refl _) hlt).2 c2, fun h => Ev.s ?_⟩
        simp only [impl_MapValid.l0, g1, g2, c1, c2, hr.1, hr.2, if_true, if_false]
        exact Ev.const rfl
theorem zero_run (o : List Int) (hl : o.length ≤ 1048576) : ∀ (d i : Nat), o.length - i = d → i ≤ o.length →
    ((∀ q : Nat, i ≤ q → q < o.length → rd o q = 0) → Ev (fun k => spec_MapValid.l1 k o i) true) ∧ (¬ (∀ q : Nat, i ≤ q → q < o.length → rd o q = 0) → Ev (fun k => spec_MapValid.l1 k o i) false)
  | 0, i, hd, hi => by
    refine ⟨fun _ => Ev.s ?_, fun h => absurd (fun q h1 h2 => by omega) h⟩
    simp only [spec_MapValid.l1, show ¬ (i : Int) < (o.length : Int) by omega, if_false]
    exact Ev.const rfl
  | d + 1, i, hd, hi => by
    have hlt : i < o.length := by omega
    have ih := zero_run o hl d (i + 1) (by omega) (by omega)
    have hw : wrap64 ((i : Int) + 1) = ((i + 1 : Nat) : Int) := by rw [w64 (by omega) (by omega)]; omega
    have g1 : (i : Int) < (o.length : Int) := by omega
    have g2 : (0 : Int) ≤ (i : Int) := by omega
    by_cases c : rd o i = 0
    · refine ⟨fun h => Ev.s ?_, fun h => Ev.s ?_⟩
      · simp only [spec_MapValid.l1, g1, g2, c, if_true, hw]
        exact ih.1 fun q h1 h2 => h q (by omega) h2
      · simp only [spec_MapValid.l1, g1, g2, c, if_true, hw]
        refine ih.2 fun h' => h fun q h1 h2 => ?_
        by_cases e : q = i
        · rw [e]; exact c
        · exact h' q (by omega) h2
    · refine ⟨fun h => absurd (h i (Nat.le_refl _) hlt) c, fun h => Ev.s ?_⟩
      simp only [spec_MapValid.l1, g1, g2, c, if_true, if_false]
      exact Ev.const rfl
theorem orb_zero (t f : List Int) (n : Nat) (h1 : 1 ≤ n) (ht : inR n t) (hf : inR n f) (o : List Int) (ho : orbOk [t, f] n o) : (∀ q : Nat, q < n → rd o q = 0) ↔ ∀ i j : Nat, i < n → j < n → Reach [t, f] n i j := by
  have hps : ∀ p ∈ [t, f], inR n p := by intro p hp; simp at hp; rcases hp with rfl | rfl <;> assumption
  constructor
  · intro h i j hi hj
    have e1 := (ho.1.2 i hi).2.2
    have e2 := (ho.1.2 j hj).2.2
    rw [h i hi] at e1
    rw [h j hj] at e2
    exact e1.symm.trans e2
  · intro h q hq
    have := orbOk_const ho hps (h q 0 hq (by omega))
    have h0 := ho.1.2 0 (by omega)
    omega
theorem mapValid_both (t f : List Int) (ht : t.length ≤ 1048576) (hf : f.length ≤ 1048576) : ∃ b : Bool, Ev (fun k => spec_MapValid.f k t f) b ∧ Ev (fun k => impl_MapValid.f k t f) b ∧ (b = true ↔ isMap t f) := by
  obtain ⟨bt, t1, t2, t3⟩ := permValid_both t ht
  obtain ⟨bf, f1, f2, f3⟩ := permValid_both f hf
  have hb : ∀ b : Bool, (∃ c : Bool, Ev (fun k => spec_l1Both.f k t f) c ∧ (c = true ↔ isPerm t ∧ isPerm f ∧ t.length = f.length)) := fun _ => by
    unfold spec_l1Both.f
    cases bt with
    | false => exact ⟨false, Ev.bind t1 (Ev.const rfl), ⟨fun h => (by cases h), fun h => absurd (t3.2 h.1) (by decide)⟩⟩
    | true =>
      cases bf with
      | false => exact ⟨false, Ev.bind t1 (by simp only [if_true]; exact Ev.bind f1 (Ev.const rfl)), ⟨fun h => (by cases h), fun h => absurd (f3.2 h.2.1) (by decide)⟩⟩
      | true => exact ⟨((t.length : Int) == (f.length : Int)), Ev.bind t1 (by simp only [if_true]; exact Ev.bind f1 (Ev.const rfl)), ⟨fun h => ⟨t3.1 rfl, f3.1 rfl, by have := beq_iff_eq.1 h; omega⟩, fun h => by rw [beq_iff_eq]; omega⟩⟩
  obtain ⟨c, c1, c2⟩ := hb true
  by_cases hall : isPerm t ∧ isPerm f ∧ t.length = f.length
  · obtain ⟨pt, pf, hlen⟩ := hall
    have hc : c = true := c2.2 ⟨pt, pf, hlen⟩
    subst hc
    have hbt : bt = true := t3.2 pt
    have hbf : bf = true := f3.2 pf
    subst hbt; subst hbf
    have hne : (((t.length : Int)) != (f.length : Int)) = false := by rw [bne_eq_false_iff_eq]; omega
    have hrt : inR f.length t := by have := isPerm_inR t pt; rwa [hlen] at this
    have hrf := isPerm_inR f pf
    obtain ⟨o, o1, o2, o3⟩ := orb_both t f f.length pf.2.1 pf.1 hrt hrf
    have hS : ∀ r, Ev (fun k => spec_MapValid.l0 k 0 t f) r → Ev (fun k => spec_MapValid.f k t f) r := fun r h => by
      unfold spec_MapValid.f
      refine Ev.bind c1 ?_
      simp only [if_true]
      exact h
    have hI : ∀ r, Ev (fun k => impl_MapValid.l0 k f f.length 0 t f) r → Ev (fun k => impl_MapValid.f k t f) r := fun r h => by
      unfold impl_MapValid.f
      refine Ev.bind t2 ?_
      simp only [if_true]
      refine Ev.bind f2 ?_
      simp only [if_true, hne]
      refine Ev.s ?_
      simp only [impl_MapValid.j0, Bool.false_eq_true, if_false]
      exact h
    have sF := specFlip_run t f pf f.length 0 (by omega) (by omega)
    have iF := implFlip_run t f pf f.length 0 (by omega) (by omega)
    by_cases hfl : ∀ q : Nat, 0 ≤ q → q < f.length → flipAt f q
    · have zr := zero_run o (by rw [o1.1.1]; omega) o.length 0 (by omega) (by omega)
      have oz := orb_zero t f f.length pf.1 hrt hrf o o1
      obtain ⟨m, m1, m2⟩ := max_ev o (by rw [o1.1.1]; omega) (by rw [o1.1.1]; exact pf.1) (fun x hx => by
        obtain ⟨i, hi, rfl⟩ := List.mem_iff_getElem.1 hx
        have := (o1.1.2 i (by rw [← o1.1.1]; exact hi)).1
        rwa [rd_lt o i hi] at this)
      have hmz : m = 0 ↔ ∀ q : Nat, 0 ≤ q → q < o.length → rd o q = 0 := by
        rw [m2]
        constructor
        · intro h q _ hq
          rw [rd_lt o q hq]
          exact h _ (List.getElem_mem hq)
        · intro h x hx
          obtain ⟨i, hi, rfl⟩ := List.mem_iff_getElem.1 hx
          have := h i (by omega) hi
          rwa [rd_lt o i hi] at this
      by_cases hz : ∀ q : Nat, 0 ≤ q → q < o.length → rd o q = 0
      · refine ⟨true, hS _ (sF.1 hfl _ (Ev.bind o2 (zr.1 hz))), hI _ (iF.1 hfl _ (Ev.bind o3 (Ev.bind m1 (Ev.const ?_)))), ?_⟩
        · rw [hmz.2 hz]; rfl
        · refine ⟨fun _ => ⟨pt, pf, hlen, fun i hi => hfl i (by omega) hi, oz.1 fun q hq => hz q (by omega) (by rw [o1.1.1]; exact hq)⟩, fun _ => rfl⟩
      · refine ⟨false, hS _ (sF.1 hfl _ (Ev.bind o2 (zr.2 hz))), hI _ (iF.1 hfl _ (Ev.bind o3 (Ev.bind m1 (Ev.const ?_)))), ?_⟩
        · have : ¬ m = 0 := fun e => hz (hmz.1 e)
          simp [this]
        · exact ⟨fun h => (by cases h), fun h => absurd (fun q _ hq => oz.2 h.2.2.2.2 q (by rw [← o1.1.1]; exact hq)) hz⟩
    · exact ⟨false, hS _ (sF.2 hfl), hI _ (iF.2 hfl), ⟨fun h => (by cases h), fun h => absurd (fun q _ hq => h.2.2.2.1 q hq) hfl⟩⟩
  · have hc : c = false := by
      cases c with
      | false => rfl
      | true => exact absurd (c2.1 rfl) hall
    subst hc
    refine ⟨false, ?_, ?_, ⟨fun h => (by cases h), fun h => absurd ⟨h.1, h.2.1, h.2.2.1⟩ hall⟩⟩
    · unfold spec_MapValid.f
      exact Ev.bind c1 (Ev.const rfl)
    · have hj : Ev (fun k => impl_MapValid.j0 k true t f) false := by
        refine Ev.s ?_
        simp only [impl_MapValid.j0, if_true]
        exact Ev.const rfl
      unfold impl_MapValid.f
      refine Ev.bind t2 ?_
      cases bt with
      | false => simp only [Bool.false_eq_true, if_false]; exact hj
      | true =>
        simp only [if_true]
        refine Ev.bind f2 ?_
        cases bf with
        | false => simp only [Bool.false_eq_true, if_false]; exact hj
        | true =>
          have hne : (((t.length : Int)) != (f.length : Int)) = true := by
            rw [bne_iff_ne]
            intro e
            exact hall ⟨t3.1 rfl, f3.1 rfl, by omega⟩
          simp only [if_true, hne]
          exact hj
def edL (f : List Int) : Nat → List Int
  | 0 => []
  | i + 1 => if (i : Int) < rd f i then edL f i ++ [(i : Int)] else edL f i
def geL (f : List Int) (n : Nat) : Nat → List Int
  | 0 => List.replicate n 0
  | i + 1 => if (i : Int) < rd f i then ((geL f n i).set i ((edL f i).length : Int)).set (rd f i).toNat ((edL f i).length : Int) else geL f n i
theorem edL_le (f : List Int) : ∀ i, (edL f i).length ≤ i
  | 0 => Nat.le_refl _
  | i + 1 => by
    have ih := edL_le f i
    simp only [edL]
    split
    · simp only [List.length_append, List.length_cons, List.length_nil]; omega
    · omega
theorem geL_len (f : List Int) (n : Nat) : ∀ i, (geL f n i).length = n
  | 0 => by simp [geL]
  | i + 1 => by
    simp only [geL]
    split
    · simp [geL_len f n i]
    · exact geL_len f n i
theorem implEdges_run (n : Nat) (hn : n ≤ 1048576) (f : List Int) (hf : inR n f) : ∀ (d i : Nat), n - i = d → i ≤ n → Ev (fun k => impl_edgesOf.l0 k (edL f i) f n i) (edL f n)
  | 0, i, hd, hi => by
    have : i = n := by omega
    subst this
    refine Ev.s ?_
    simp only [impl_edgesOf.l0, show ¬ (i : Int) < (i : Int) by omega, if_false]
    exact Ev.const rfl
  | d + 1, i, hd, hi => by
    have ih := implEdges_run n hn f hf d (i + 1) (by omega) (by omega)
    have h1 := edL_le f i
    refine Ev.s ?_
    simp only [impl_edgesOf.l0, hf.1, show (i : Int) < (n : Int) by omega, show (0 : Int) ≤ (i : Int) by omega, show (edL f i).length < 17592186044416 by omega, if_true]
    rw [w64n (by omega)]
    simp only [edL] at ih
    by_cases e : (i : Int) < rd f i
    · simp only [e, if_true] at ih ⊢; exact ih
    · simp only [e, if_false] at ih ⊢; exact ih
theorem implEdges_ev (n : Nat) (hn : n ≤ 1048576) (t f : List Int) (hf : inR n f) : Ev (fun k => impl_edgesOf.f k t f) (edL f n) := by
  unfold impl_edgesOf.f
  rw [hf.1]
  exact implEdges_run n hn f hf n 0 (by omega) (by omega)
theorem specEdges_run (n : Nat) (hn : n ≤ 1048576) (t f : List Int) (hf : inR n f) : ∀ (d i : Nat), n - i = d → i ≤ n → Ev (fun k => spec_l7Edges.l0 k (geL f n i) ((edL f i).length : Int) i t f) (geL f n n)
  | 0, i, hd, hi => by
    have : i = n := by omega
    subst this
    refine Ev.s ?_
    simp only [spec_l7Edges.l0, geL_len, show ¬ (i : Int) < (i : Int) by omega, if_false]
    exact Ev.const rfl
  | d + 1, i, hd, hi => by
    have ih := specEdges_run n hn t f hf d (i + 1) (by omega) (by omega)
    have h1 := edL_le f i
    have h2 := hf.2 i (by omega)
    refine Ev.s ?_
    simp only [spec_l7Edges.l0, geL_len, hf.1, show (i : Int) < (n : Int) by omega, show (0 : Int) ≤ (i : Int) by omega, h2.1, h2.2, if_true, Int.toNat_natCast]
    rw [w64n (by omega), w64n (i := i) (by omega)]
    simp only [edL, geL] at ih
    by_cases e : (i : Int) < rd f i
    · simp only [e, if_true, List.length_append, List.length_cons, List.length_nil] at ih ⊢; exact ih
    · simp only [e, if_false] at ih ⊢; exact ih
theorem specEdges_ev (n : Nat) (hn : n ≤ 1048576) (t f : List Int) (hf : inR n f) : Ev (fun k => spec_l7Edges.f k t f) (geL f n n) := by
  unfold spec_l7Edges.f
  have h1 : n ≤ 35184372088832 := by omega
  have h2 : (0 : Int) ≤ (n : Int) := by omega
  simp only [hf.1, Int.toNat_natCast, h1, h2, if_true]
  exact specEdges_run n hn t f hf n 0 (by omega) (by omega)
def least (f : List Int) (d : Nat) : Nat := if (d : Int) < rd f d then d else (rd f d).toNat
theorem edL_lt (f : List Int) (m : Nat) (hm : (m : Int) < rd f m) : ∀ n, m < n → (edL f m).length < (edL f n).length
  | n + 1, h => by
    simp only [edL]
    by_cases e : m = n
    · subst e
      simp only [hm, if_true, List.length_append, List.length_cons, List.length_nil]; omega
    · have ih := edL_lt f m hm n (by omega)
      split
      · simp only [List.length_append, List.length_cons, List.length_nil]; omega
      · exact ih
theorem edL_at (f : List Int) (m : Nat) (hm : (m : Int) < rd f m) : ∀ n, m < n → rd (edL f n) ((edL f m).length : Int) = m
  | n + 1, h => by
    simp only [edL]
    by_cases e : m = n
    · subst e
      simp only [hm, if_true]
      rw [rd_lt _ _ (by simp), List.getElem_append_right (Nat.le_refl _)]
      simp
    · have ih := edL_at f m hm n (by omega)
      split
      · rw [rd_app_lt _ _ _ (edL_lt f m hm n (by omega))]; exact ih
      · exact ih
theorem least_lt (f : List Int) (n : Nat) (hf : inR n f) (hfl : ∀ i : Nat, i < n → flipAt f i) (d : Nat) (hd : d < n) : least f d < n ∧ (least f d : Int) < rd f (least f d) := by
  have h1 := hf.2 d hd
  obtain ⟨h2, h3⟩ := hfl d hd
  unfold least
  split
  · exact ⟨hd, by assumption⟩
  · refine ⟨by omega, ?_⟩
    rw [show (((rd f d).toNat : Nat) : Int) = rd f d by omega, h3]
    omega
theorem geL_at (f : List Int) (n : Nat) (hf : inR n f) (hfl : ∀ i : Nat, i < n → flipAt f i) : ∀ i, i ≤ n → ∀ d : Nat, d < n → least f d < i → rd (geL f n i) d = ((edL f (least f d)).length : Int)
  | i + 1, hi, d, hd, h => by
    have ih := geL_at f n hf hfl i (by omega) d hd
    have hl := geL_len f n i
    have h1 := hf.2 d hd
    obtain ⟨h2, h3⟩ := hfl d hd
    have g1 := hf.2 i (by omega)
    obtain ⟨g2, g3⟩ := hfl i (by omega)
    have hll := least_lt f n hf hfl d hd
    simp only [geL]
    by_cases e : least f d = i
    · rw [e] at hll
      simp only [hll.2, if_true]
      rw [e]
      by_cases e2 : d = (rd f i).toNat
      · subst e2
        rw [rd_set_self _ _ _ (by simp; omega)]
      · have e3 : d = i := by
          unfold least at e
          split at e
          · exact e
          · exfalso
            apply e2
            rw [show (i : Int) = rd f d by omega, h3]
            omega
        rw [rd_set_ne _ _ _ _ (fun h => e2 h.symm)]
        subst e3
        rw [rd_set_self _ _ _ (by omega)]
    · have ih' := ih (by omega)
      by_cases c : (i : Int) < rd f i
      · simp only [c, if_true]
        have n1 : (rd f i).toNat ≠ d := by
          intro h
          apply e
          have hd' : rd f i = d := by omega
          have : rd f d = i := by rw [← hd', g3]
          unfold least
          rw [if_neg (by omega)]
          omega
        have n2 : i ≠ d := by
          intro h
          apply e
          subst h
          unfold least
          rw [if_pos c]
        rw [rd_set_ne _ _ _ _ n1, rd_set_ne _ _ _ _ n2]
        exact ih'
      · simp only [c, if_false]
        exact ih'
theorem len_le_of_sub : ∀ (a b : List Nat), a.Nodup → (∀ x ∈ a, x ∈ b) → a.length ≤ b.length
  | [], b, _, _ => Nat.zero_le _
  | x :: a, b, hn, h => by
    have hx := h x (by simp)
    obtain ⟨hxa, hna⟩ := List.nodup_cons.1 hn
    have ih := len_le_of_sub a (b.erase x) hna fun y hy => (List.mem_erase_of_ne (by rintro rfl; exact hxa hy)).2 (h y (by simp [hy]))
    rw [List.length_erase_of_mem hx] at ih
    have := List.length_pos_of_mem hx
    simp only [List.length_cons]
    omega
theorem edL_filter (f : List Int) : ∀ n, (edL f n).length = ((List.range n).filter fun (i : Nat) => decide ((i : Int) < rd f i)).length
  | 0 => rfl
  | n + 1 => by
    rw [List.range_succ, List.filter_append, List.length_append, ← edL_filter f n]
    simp only [edL]
    by_cases e : (n : Int) < rd f n <;> simp [e]
theorem edL_half (f : List Int) (n : Nat) (hf : inR n f) (hfl : ∀ i : Nat, i < n → flipAt f i) : 2 * (edL f n).length = n := by
  rw [edL_filter]
  have hA := List.length_eq_countP_add_countP (fun (i : Nat) => decide ((i : Int) < rd f i)) (l := List.range n)
  rw [List.countP_eq_length_filter, List.countP_eq_length_filter, List.length_range] at hA
  have sub : ∀ (P Q : Nat → Bool), (∀ i, i < n → P i = true → Q (rd f i).toNat = true) → ((List.range n).filter P).length ≤ ((List.range n).filter Q).length := by
    intro P Q h
    rw [← List.length_map (f := fun (i : Nat) => (rd f i).toNat)]
    refine len_le_of_sub _ _ ?_ ?_
    · rw [List.Nodup, List.pairwise_map]
      refine List.Pairwise.imp_of_mem ?_ ((List.nodup_range (n := n)).filter P)
      intro a b ha hb hab e
      have ha' := List.mem_range.1 (List.mem_filter.1 ha).1
      have hb' := List.mem_range.1 (List.mem_filter.1 hb).1
      have h1 := hf.2 a ha'
      have h2 := hf.2 b hb'
      have e2 : rd f a = rd f b := by omega
      have h3 := (hfl a ha').2
      rw [e2, (hfl b hb').2] at h3
      omega
    · intro x hx
      obtain ⟨a, ha, rfl⟩ := List.mem_map.1 hx
      obtain ⟨ha1, ha2⟩ := List.mem_filter.1 ha
      have ha' := List.mem_range.1 ha1
      have h1 := hf.2 a ha'
      exact List.mem_filter.2 ⟨List.mem_range.2 (by omega), h a ha' ha2⟩
  have back : ∀ i : Nat, i < n → (((rd f i).toNat : Nat) : Int) = rd f i := fun i hi => by have := hf.2 i hi; omega
  have h1 := sub (fun (i : Nat) => decide ((i : Int) < rd f i)) (fun (i : Nat) => decide ¬ decide ((i : Int) < rd f i) = true) (fun i hi h => by
    have h3 := (hfl i hi).2
    simp only [decide_eq_true_eq] at h
    simp only [back i hi, h3, decide_eq_true_eq]
    omega)
  have h2 := sub (fun (i : Nat) => decide ¬ decide ((i : Int) < rd f i) = true) (fun (i : Nat) => decide ((i : Int) < rd f i)) (fun i hi h => by
    have h3 := hfl i hi
    simp only [decide_eq_true_eq] at h
    simp only [back i hi, h3.2, decide_eq_true_eq]
    have := h3.1
    omega)
  omega
end Go.Proofs.Ytggghijamfmenaa.PC
