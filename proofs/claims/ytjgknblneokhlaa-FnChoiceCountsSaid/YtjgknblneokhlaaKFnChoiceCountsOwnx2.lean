/- For every code: of the map and the choice that the statement draws, ChoiceCounts of the program answers what the reference answers; the five numbers are those of a ribbon surface, whose genus lies between none and the map's; and an edge more makes one side more or one less. There are no conditions. -/
import Derived.Test.YtjgknblneokhlaaKFnChoiceCountsOwnx1
namespace Go.Proofs.Ytjgknblneokhlaa.PI
open Go.RowKit Go.Proofs.YtjgknblneokhlaaW.PrintWords Go.Proofs.YtjgknblneokhlaaW.PrintLast Go.Proofs.YtjgknblneokhlaaW.PrintMore
attribute [local go_sem] max2_int min2_int max_two min_two max_three min_three max_four min_four   -- for this text's walks alone
set_option linter.unusedVariables false
set_option linter.unusedSimpArgs false
def impl_ChoiceCounts.f (k : Nat) (l0_0 : List Int) (l0_1 : List Int) (l1 : List Int) : Option (List Int × Bool) := (impl_ChoiceValid.f k l0_0 l0_1 l1).bind fun t242 => (if t242 = true then ((impl_ribbon.f k l0_0 l0_1 l1).bind fun t243 => (some (t243, true))) else (some (([] : List Int), false)))
set_option maxHeartbeats 8000000 in
set_option maxRecDepth 100000 in
theorem impl_ChoiceCounts.calls (k : Nat) (A0_0 : Option Addr) (c0_0 : Nat) (l0_0 : List Int) (A0_1 : Option Addr) (c0_1 : Nat) (l0_1 : List Int) (A1 : Option Addr) (c1 : Nat) (l1 : List Int) (r1 : List Int) (r2 : Bool) (w : World) (hr0_0 : Kd.C (Kd.int .i64) w A0_0 l0_0.length l0_0) (hc0_0 : l0_0.length ≤ c0_0) (hr0_1 : Kd.C (Kd.int .i64) w A0_1 l0_1.length l0_1) (hc0_1 : l0_1.length ≤ c0_1) (hr1 : Kd.C (Kd.int .i64) w A1 l1.length l1) (hc1 : l1.length ≤ c1) (h : impl_ChoiceCounts.f k l0_0 l0_1 l1 = some (r1, r2)) :
  Calls Try.prog 20 #[.agg #[.slice A0_0 l0_0.length c0_0, .slice A0_1 l0_1.length c0_1], .slice A1 l1.length c1] w fun e w' => ∃ v0_ : Value, e = .returned (.tuple #[v0_, .bool r2]) ∧ Kd.R (Kd.int .i64) 3 w' w.heap.size (fun _ => True) v0_ r1 ∧ Below w.heap.size w w' := by
 have hu25 := Try.underlying25; have HR0_0 := Az hr0_0; have HC0_0 := Az hc0_0; clear hr0_0 hc0_0; have HR0_1 := Az hr0_1; have HC0_1 := Az hc0_1; clear hr0_1 hc0_1; have HR1 := Az hr1; have HC1 := Az hc1; clear hr1 hc1; have HB := Az (Below.refl w.heap.size w); have H : ((impl_ChoiceValid.f k l0_0 l0_1 l1).bind fun t242 => (if t242 = true then ((impl_ribbon.f k l0_0 l0_1 l1).bind fun t243 => (some (t243, true))) else (some (([] : List Int), false)))) = some (r1, r2) := h; clear h; replace H := Option.bind_eq_some_iff.mp H; obtain ⟨t242, A30, H⟩ := H; replace H : (if t242 = true then ((impl_ribbon.f k l0_0 l0_1 l1).bind fun t243 => (some (t243, true))) else (some (([] : List Int), false))) = some (r1, r2) := H; have A3 := Az A30; clear A30
 by_cases c4 : t242 = true
 ·
  subst c4
  have H1 : ((impl_ribbon.f k l0_0 l0_1 l1).bind fun t243 => (some (t243, true))) = some (r1, r2) := by rw [if_pos rfl] at H; exact H
  clear H; have H := H1; clear H1; replace H := Option.bind_eq_some_iff.mp H; obtain ⟨t243, A50, H⟩ := H; replace H : (some (t243, true)) = some (r1, r2) := H; have A5 := Az A50; clear A50; simp only [Option.some.injEq, Prod.mk.injEq] at H; obtain ⟨rfl, rfl⟩ := H
  go_enter Try.func20, Try.ntmps20
  go_wp2_with (first | ((with_reducible refine gate_dst (N := 2) rfl ?_); refine box_event ?hg (N := 2) ?hd (cs := #[.slice A0_0 l0_0.length c0_0, .slice A0_1 l0_1.length c0_1]) (t := 25) ?hr ?_; (case hd => rfl); (case hg => rfl); (case hr => first | (go_simp; done) | (go_simp; rfl)); intro gb241 hg w6 hbox hb; have n0 := Az (below_step (bU0 HB.out) hb); have n1 := Az (hbox); have n2 := Az ((by rw [hg]; exact (below_size (bU0 HB.out)) : w.heap.size ≤ gb241)); have n3 := n2; clear HB; have HB := n0; have BK241 := n1; have GW241 := n2; have GE241 := n3; clear n0 n1 n2 n3 hb hbox hg; have hcz7_0 : w6.cell? ⟨gb241, 0, none⟩ = some (.slice A0_0 l0_0.length c0_0) := (blk_cell BK241.out 0).trans rfl; have hcz7_1 : w6.cell? ⟨gb241, 1, none⟩ = some (.slice A0_1 l0_1.length c0_1) := (blk_cell BK241.out 1).trans rfl; have hfz7_0 := blk_frozen BK241.out 0; have hfz7_1 := blk_frozen BK241.out 1) | ((with_reducible refine gate_callee (f := 16) rfl ?_); refine goesL_ (some 8) rfl rfl Try.func16 (by kernel_rfl) rfl #[.agg #[.slice A0_0 l0_0.length c0_0, .slice A0_1 l0_1.length c0_1], .slice A1 l1.length c1] rfl (by (try simp only [List.map_toArray, List.map_cons, List.map_nil]); first | done | rfl | (simp only [List.length_drop, List.length_take]; rfl)) ?_; (with_reducible refine (impl_ChoiceValid.calls k _ _ l0_0 _ _ l0_1 _ _ l1 true _ ?side1 ?side2 ?side3 ?side4 ?side5 ?side6 A3.out).mono ?_); (case side1 => exact cU (Kd.C_below HR0_0.out HB.out)); (case side2 => exact HC0_0.out); (case side3 => exact cU (Kd.C_below HR0_1.out HB.out)); (case side4 => exact HC0_1.out); (case side5 => exact cU (Kd.C_below HR1.out HB.out)); (case side6 => exact HC1.out); rintro e w8 ⟨rfl, hb⟩; refine ⟨_, rfl, ?_⟩; have n0 := Az (blk_below (g := gb241) (o := .cells #[.slice A0_0 l0_0.length c0_0, .slice A0_1 l0_1.length c0_1] 25 (0, 0)) (kU BK241.out) hb); have n1 := Az (below_step (bU1 HB.out GE241.out) hb); clear BK241 HB; have BK241 := n0; have HB := n1; clear n0 n1; (try clear hb); (try clear hb2); (try clear hk); (try clear hi); have hcz9_0 : w8.cell? ⟨gb241, 0, none⟩ = some (.slice A0_0 l0_0.length c0_0) := (blk_cell BK241.out 0).trans rfl; have hcz9_1 : w8.cell? ⟨gb241, 1, none⟩ = some (.slice A0_1 l0_1.length c0_1) := (blk_cell BK241.out 1).trans rfl; have hfz9_0 := blk_frozen BK241.out 0; have hfz9_1 := blk_frozen BK241.out 1) | ((with_reducible refine gate_callee (f := 65) rfl ?_); refine goesL_ (some 12) rfl rfl Try.func65 (by kernel_rfl) rfl #[.agg #[.slice A0_0 l0_0.length c0_0, .slice A0_1 l0_1.length c0_1], .slice A1 l1.length c1] rfl (by (try simp only [List.map_toArray, List.map_cons, List.map_nil]); first | done | rfl | (simp only [List.length_drop, List.length_take]; rfl)) ?_; (with_reducible refine (impl_ribbon.calls k (fun k_ => k_ < w.heap.size) _ _ l0_0 _ _ l0_1 _ _ l1 t243 _ ?side1 ?side2 ?side3 ?side4 ?side5 A5.out).mono ?_); (case side1 => exact Kd.V_mk HC0_0.out (Kd.F_below (Kd.C_F (Kd.heap_int .i64) HR0_0.out) (bU1 HB.out GE241.out))); (case side2 => exact cU (Kd.C_below HR0_1.out HB.out)); (case side3 => exact HC0_1.out); (case side4 => exact cU (Kd.C_below HR1.out HB.out)); (case side5 => exact HC1.out); rintro e w10 ⟨v244, rfl, ho0, hb⟩; refine ⟨_, rfl, ?_⟩; have n0 := Az (Kd.R_lower (Kd.R_mono (ok' := fun k_ => True) ho0 (fun _ hk_ => trivial)) (below_size (bU1 HB.out GE241.out))); have n1 := Az (blk_below (g := gb241) (o := .cells #[.slice A0_0 l0_0.length c0_0, .slice A0_1 l0_1.length c0_1] 25 (0, 0)) (kU BK241.out) hb); have n2 := Az (below_step (bU1 HB.out GE241.out) hb); clear BK241 HB; have HO245 := n0; have BK241 := n1; have HB := n2; clear n0 n1 n2; (try clear hb); (try clear hb2); (try clear hk); (try clear hi); (try clear ho0)))
  go_ret2
  exact ⟨_, rE, rU HO245.out, bU1 HB.out GE241.out⟩
 ·
  replace c4 := Bool.eq_false_iff.mpr c4; subst c4
  have H1 : (some (([] : List Int), false)) = some (r1, r2) := by rw [if_neg (show ¬ (false = true) by decide)] at H; exact H
  clear H; have H := H1; clear H1; simp only [Option.some.injEq, Prod.mk.injEq] at H; obtain ⟨rfl, rfl⟩ := H
  go_enter Try.func20, Try.ntmps20
  go_wp2_with (first | ((with_reducible refine gate_dst (N := 2) rfl ?_); refine box_event ?hg (N := 2) ?hd (cs := #[.slice A0_0 l0_0.length c0_0, .slice A0_1 l0_1.length c0_1]) (t := 25) ?hr ?_; (case hd => rfl); (case hg => rfl); (case hr => first | (go_simp; done) | (go_simp; rfl)); intro gb241 hg w11 hbox hb; have n0 := Az (below_step (bU0 HB.out) hb); have n1 := Az (hbox); have n2 := Az ((by rw [hg]; exact (below_size (bU0 HB.out)) : w.heap.size ≤ gb241)); have n3 := n2; clear HB; have HB := n0; have BK241 := n1; have GW241 := n2; have GE241 := n3; clear n0 n1 n2 n3 hb hbox hg; have hcz12_0 : w11.cell? ⟨gb241, 0, none⟩ = some (.slice A0_0 l0_0.length c0_0) := (blk_cell BK241.out 0).trans rfl; have hcz12_1 : w11.cell? ⟨gb241, 1, none⟩ = some (.slice A0_1 l0_1.length c0_1) := (blk_cell BK241.out 1).trans rfl; have hfz12_0 := blk_frozen BK241.out 0; have hfz12_1 := blk_frozen BK241.out 1) | ((with_reducible refine gate_callee (f := 16) rfl ?_); refine goesL_ (some 8) rfl rfl Try.func16 (by kernel_rfl) rfl #[.agg #[.slice A0_0 l0_0.length c0_0, .slice A0_1 l0_1.length c0_1], .slice A1 l1.length c1] rfl (by (try simp only [List.map_toArray, List.map_cons, List.map_nil]); first | done | rfl | (simp only [List.length_drop, List.length_take]; rfl)) ?_; (with_reducible refine (impl_ChoiceValid.calls k _ _ l0_0 _ _ l0_1 _ _ l1 false _ ?side1 ?side2 ?side3 ?side4 ?side5 ?side6 A3.out).mono ?_); (case side1 => exact cU (Kd.C_below HR0_0.out HB.out)); (case side2 => exact HC0_0.out); (case side3 => exact cU (Kd.C_below HR0_1.out HB.out)); (case side4 => exact HC0_1.out); (case side5 => exact cU (Kd.C_below HR1.out HB.out)); (case side6 => exact HC1.out); rintro e w13 ⟨rfl, hb⟩; refine ⟨_, rfl, ?_⟩; have n0 := Az (blk_below (g := gb241) (o := .cells #[.slice A0_0 l0_0.length c0_0, .slice A0_1 l0_1.length c0_1] 25 (0, 0)) (kU BK241.out) hb); have n1 := Az (below_step (bU1 HB.out GE241.out) hb); clear BK241 HB; have BK241 := n0; have HB := n1; clear n0 n1; (try clear hb); (try clear hb2); (try clear hk); (try clear hi)))
  go_ret2
  exact ⟨_, rE, by first | exact Kd.R_nil _ _ _ _ _ | exact Kd.N_nil _ _ _ _ _ | exact Kd.V_nil _ _ _ _ _ | exact Kd.Q_nil _ _ _ _ _ | exact Kd.S_nil _ _ _ _ _, bU1 HB.out GE241.out⟩
def impl_genusOf.f (k : Nat) (l0_0 : List Int) (l0_1 : List Int) : Option (Int) := (impl_cyclesOf.f k l0_0).bind fun t247 => ((impl_mul.f k l0_1 l0_0).bind fun t250 => ((impl_cyclesOf.f k t250).bind fun t253 => (some (wrap64 (Int.tdiv (wrap64 ((wrap64 ((wrap64 (2 - (t247.length : Int))) + (wrap64 ((l0_1.length : Int) / 2)))) - (t253.length : Int))) 2)))))
def impl_genusOf.T1 : Bool × List (List Nat × List Nat) := (true, [([], []), ([0], [0]), ([1], [1]), ([2], [2]), ([3], [3]), ([], []), ([5], [5]), ([6], [6]), ([7], [7]), ([4, 8], [4, 8]), ([], []), ([10], [10]), ([], []), ([12], [12]), ([11, 13, 2], [11, 13]), ([14, 14], [14]), ([15], [15]), ([9, 16], [9, 16]), ([17], [17]), ([18, 15, 0, 1, 2, 3, 4, 5, 6, 7, 8, 9, 10, 11, 12, 13, 14, 15, 16, 17, 18], [18])])
def impl_genusOf.B1 : List Nat := [0, 1, 3, 7, 15, 0, 32, 96, 224, 511, 0, 1024, 0, 4096, 15367, 31751, 64519, 131071, 262143, 524287]
theorem impl_genusOf.tab1 : rtab .any (opsOf Try.f66 1) = impl_genusOf.T1 := by kernel_rfl
theorem impl_genusOf.bits1 : waitsOk impl_genusOf.T1.2 impl_genusOf.B1 = true := by kernel_rfl
set_option maxHeartbeats 8000000 in
set_option maxRecDepth 100000 in
theorem impl_genusOf.calls (k : Nat) (A0_0 : Option Addr) (c0_0 : Nat) (l0_0 : List Int) (A0_1 : Option Addr) (c0_1 : Nat) (l0_1 : List Int) (r : Int) (w : World) (hr0_0 : Kd.C (Kd.int .i64) w A0_0 l0_0.length l0_0) (hc0_0 : l0_0.length ≤ c0_0) (hr0_1 : Kd.C (Kd.int .i64) w A0_1 l0_1.length l0_1) (hc0_1 : l0_1.length ≤ c0_1) (h : impl_genusOf.f k l0_0 l0_1 = some r) :
  Calls Try.prog 66 #[.agg #[.slice A0_0 l0_0.length c0_0, .slice A0_1 l0_1.length c0_1]] w fun e w' => e = .returned (.int .i64 r) ∧ Below w.heap.size w w' := by
 have hu25 := Try.underlying25; have HR0_0 := Az hr0_0; have HC0_0 := Az hc0_0; clear hr0_0 hc0_0; have HR0_1 := Az hr0_1; have HC0_1 := Az hc0_1; clear hr0_1 hc0_1; have HB := Az (Below.refl w.heap.size w); have H : ((impl_cyclesOf.f k l0_0).bind fun t247 => ((impl_mul.f k l0_1 l0_0).bind fun t250 => ((impl_cyclesOf.f k t250).bind fun t253 => (some (wrap64 (Int.tdiv (wrap64 ((wrap64 ((wrap64 (2 - (t247.length : Int))) + (wrap64 ((l0_1.length : Int) / 2)))) - (t253.length : Int))) 2)))))) = some r := h; clear h; replace H := Option.bind_eq_some_iff.mp H; obtain ⟨t247, A20, H⟩ := H; replace H : ((impl_mul.f k l0_1 l0_0).bind fun t250 => ((impl_cyclesOf.f k t250).bind fun t253 => (some (wrap64 (Int.tdiv (wrap64 ((wrap64 ((wrap64 (2 - (t247.length : Int))) + (wrap64 ((l0_1.length : Int) / 2)))) - (t253.length : Int))) 2))))) = some r := H; have A2 := Az A20; clear A20; replace H := Option.bind_eq_some_iff.mp H; obtain ⟨t250, A30, H⟩ := H; replace H : ((impl_cyclesOf.f k t250).bind fun t253 => (some (wrap64 (Int.tdiv (wrap64 ((wrap64 ((wrap64 (2 - (t247.length : Int))) + (wrap64 ((l0_1.length : Int) / 2)))) - (t253.length : Int))) 2)))) = some r := H; have A3 := Az A30; clear A30; replace H := Option.bind_eq_some_iff.mp H; obtain ⟨t253, A40, H⟩ := H; replace H : (some (wrap64 (Int.tdiv (wrap64 ((wrap64 ((wrap64 (2 - (t247.length : Int))) + (wrap64 ((l0_1.length : Int) / 2)))) - (t253.length : Int))) 2))) = some r := H; have A4 := Az A40; clear A40; obtain rfl := Option.some.inj H
 go_enter Try.func66, Try.ntmps66
 try go_wp2_with (first | ((with_reducible refine gate_dst (N := 1) rfl ?_); refine box_event ?hg (N := 1) ?hd (cs := #[.slice A0_0 l0_0.length c0_0, .slice A0_1 l0_1.length c0_1]) (t := 25) ?hr ?_; (case hd => rfl); (case hg => rfl); (case hr => first | (go_simp; done) | (go_simp; rfl)); intro gb246 hg w5 hbox hb; have n0 := Az (below_step (bU0 HB.out) hb); have n1 := Az (hbox); have n2 := Az ((by rw [hg]; exact (below_size (bU0 HB.out)) : w.heap.size ≤ gb246)); have n3 := n2; clear HB; have HB := n0; have BK246 := n1; have GW246 := n2; have GE246 := n3; clear n0 n1 n2 n3; clear hb hbox hg))
 have n0 := Az (blk_drew BK246.out); have n1 := Az (below_drew1 HB.out); clear BK246 HB; have BK246 := n0; have HB := n1; clear n0 n1
 refine start_ (n := 20) (S := fun w' => w'.cell? ⟨gb246, 0, none⟩ = some (.slice A0_0 l0_0.length c0_0) ∧ w'.cell? ⟨gb246, 1, none⟩ = some (.slice A0_1 l0_1.length c0_1)) (ds := []) #[false, false, false, false, false, false, false, false, false, false, false, false, false, false, false, false, false, false, false, false] (by kernel_rfl) rfl rfl ⟨(blk_cell BK246.out 0).trans rfl, (blk_cell BK246.out 1).trans rfl⟩ (fun hHeld => ?_); refine with_tabW impl_genusOf.tab1 impl_genusOf.bits1 (fun HT_ HW_ => ?_)
 generalize w5.drew = w6 at BK246 HB hHeld ⊢
 refine pure_ (i := 0) (N := some 3) (v := ?_) (a' := ?_) #[true, false, false, false, false, false, false, false, false, false, false, false, false, false, false, false, false, false, false, false] rfl rfl (any_of HT_.out (by kernel_rfl)) (fun _ _ _ h => h) (Or.inl ⟨by rfl, ?_⟩) ?_ ?_
 rotate_left
 ·
  intro w'
  go_simp
  with_reducible rfl
 rotate_left
 ·
  simp only [Act.put, List.setIfInBounds_toArray, List.set_cons_zero, List.set_cons_succ, i64_w, i32_w]
  rfl
 refine pure_ (i := 5) (N := some 8) (v := ?_) (a' := ?_) #[true, false, false, false, false, true, false, false, false, false, false, false, false, false, false, false, false, false, false, false] rfl rfl (any_of HT_.out (by kernel_rfl)) (fun _ _ _ h => h) (Or.inl ⟨by rfl, ?_⟩) ?_ ?_
 rotate_left
 ·
  intro w'
  go_simp
  with_reducible rfl
 rotate_left
 ·
  simp only [Act.put, List.setIfInBounds_toArray, List.set_cons_zero, List.set_cons_succ, i64_w, i32_w]
  rfl
 refine pure_ (i := 10) (N := some 13) (v := ?_) (a' := ?_) #[true, false, false, false, false, true, false, false, false, false, true, false, false, false, false, false, false, false, false, false] rfl rfl (any_of HT_.out (by kernel_rfl)) (fun _ _ _ h => h) (Or.inl ⟨by rfl, ?_⟩) ?_ ?_
 rotate_left
 ·
  intro w'
  go_simp
  with_reducible rfl
 rotate_left
 ·
  simp only [Act.put, List.setIfInBounds_toArray, List.set_cons_zero, List.set_cons_succ, i64_w, i32_w]
  rfl
 refine pure_ (i := 12) (N := some 15) (v := ?_) (a' := ?_) #[true, false, false, false, false, true, false, false, false, false, true, false, true, false, false, false, false, false, false, false] rfl rfl (any_of HT_.out (by kernel_rfl)) (fun _ _ _ h => h) (Or.inl ⟨by rfl, ?_⟩) ?_ ?_
 rotate_left
 ·
  intro w'
  go_simp
  with_reducible rfl
 rotate_left
 ·
  simp only [Act.put, List.setIfInBounds_toArray, List.set_cons_zero, List.set_cons_succ, i64_w, i32_w]
  rfl
 refine take_ (i := 1) (N := some 4) (v := ?_) (a' := ?_) #[true, true, false, false, false, true, false, false, false, false, true, false, true, false, false, false, false, false, false, false] rfl rfl (take_ofW HT_.out HW_.out (by kernel_rfl)) (fun _ _ _ h => h) (Or.inl ⟨by rfl, ?_⟩) hHeld ?_ ?_
 rotate_left
 ·
  rintro w' ⟨s0, s1⟩
  go_simp
  with_reducible rfl
 rotate_left
 ·
  simp only [Act.put, List.setIfInBounds_toArray, List.set_cons_zero, List.set_cons_succ, i64_w, i32_w]
  rfl
 refine take_ (i := 6) (N := some 9) (v := ?_) (a' := ?_) #[true, true, false, false, false, true, true, false, false, false, true, false, true, false, false, false, false, false, false, false] rfl rfl (take_ofW HT_.out HW_.out (by kernel_rfl)) (fun _ _ _ h => h) (Or.inl ⟨by rfl, ?_⟩) hHeld ?_ ?_
 rotate_left
 ·
  rintro w' ⟨s0, s1⟩
  go_simp
  with_reducible rfl
 rotate_left
 ·
  simp only [Act.put, List.setIfInBounds_toArray, List.set_cons_zero, List.set_cons_succ, i64_w, i32_w]
  rfl
 refine pure_ (i := 7) (N := some 10) (v := ?_) (a' := ?_) #[true, true, false, false, false, true, true, true, false, false, true, false, true, false, false, false, false, false, false, false] rfl rfl (any_of HT_.out (by kernel_rfl)) (fun _ _ _ h => h) (Or.inl ⟨by rfl, ?_⟩) ?_ ?_
 rotate_left
 ·
  intro w'
  go_simp
  with_reducible rfl
 rotate_left
 ·
  simp only [Act.put, List.setIfInBounds_toArray, List.set_cons_zero, List.set_cons_succ, i64_w, i32_w]
  rfl
 refine pure_ (i := 8) (N := some 11) (v := ?_) (a' := ?_) #[true, true, false, false, false, true, true, true, true, false, true, false, true, false, false, false, false, false, false, false] rfl rfl (any_of HT_.out (by kernel_rfl)) (fun _ _ _ h => h) (Or.inl ⟨by rfl, ?_⟩) ?_ ?_
 rotate_left
 ·
  intro w'
  go_simp
  with_reducible rfl
 rotate_left
 ·
  simp only [Act.put, List.setIfInBounds_toArray, List.set_cons_zero, List.set_cons_succ, i64_w, i32_w]
  rfl
 refine take_ (i := 11) (N := some 14) (v := ?_) (a' := ?_) #[true, true, false, false, false, true, true, true, true, false, true, true, true, false, false, false, false, false, false, false] rfl rfl (take_ofW HT_.out HW_.out (by kernel_rfl)) (fun _ _ _ h => h) (Or.inl ⟨by rfl, ?_⟩) hHeld ?_ ?_
 rotate_left
 ·
  rintro w' ⟨s0, s1⟩
  go_simp
  with_reducible rfl
 rotate_left
 ·
  simp only [Act.put, List.setIfInBounds_toArray, List.set_cons_zero, List.set_cons_succ, i64_w, i32_w]
  rfl
 refine take_ (i := 13) (N := some 16) (v := ?_) (a' := ?_) #[true, true, false, false, false, true, true, true, true, false, true, true, true, true, false, false, false, false, false, false] rfl rfl (take_ofW HT_.out HW_.out (by kernel_rfl)) (fun _ _ _ h => h) (Or.inl ⟨by rfl, ?_⟩) hHeld ?_ ?_
 rotate_left
 ·
  rintro w' ⟨s0, s1⟩
  go_simp
  with_reducible rfl
 rotate_left
 ·
  simp only [Act.put, List.setIfInBounds_toArray, List.set_cons_zero, List.set_cons_succ, i64_w, i32_w]
  rfl
 refine one_ (i := 2) (N := some 5) #[true, true, true, false, false, true, true, true, true, false, true, true, true, true, false, false, false, false, false, false] rfl rfl (one_of HT_.out (by kernel_rfl)) (by decide) (fun K hK => ?_)
 refine goes_ Try.func63 (by kernel_rfl) rfl #[.slice A0_0 l0_0.length c0_0] (by rfl) rfl rfl (by (try simp only [List.map_toArray, List.map_cons, List.map_nil]); first | done | rfl | (simp only [List.length_drop, List.length_take]; rfl)) ?_
 with_reducible refine (impl_cyclesOf.calls k _ _ l0_0 t247 _ ?side1 ?side2 A2.out).mono ?_
 (case side1 => exact cU (Kd.C_below HR0_0.out HB.out))
 (case side2 => exact HC0_0.out)
 rintro e w7 ⟨v248, rfl, ho0, hb⟩
 refine ⟨_, rfl, ?_⟩
 have n0 := Az (Kd.S_lower ho0 (below_size (bU1 HB.out GE246.out))); have n1 := Az (blk_below (g := gb246) (o := .cells #[.slice A0_0 l0_0.length c0_0, .slice A0_1 l0_1.length c0_1] 25 (0, 0)) (kU BK246.out) hb); have n2 := Az (below_step (bU1 HB.out GE246.out) hb); clear BK246 HB; have HO249 := n0; have BK246 := n1; have HB := n2; clear n0 n1 n2; (try clear hb); (try clear hb2); (try clear hk); (try clear hi); (try clear ho0); obtain ⟨Ao8, co8, eo8⟩ := Kd.S_slice HO249.out; (first | subst eo8 | (injection eo8 with f1_ f2_ f3_; have f4_ := f1_.symm; have f5_ := f3_.symm; clear f1_ f2_ f3_; subst f4_; subst f5_))
 refine hK.out _ _ ⟨(blk_cell BK246.out 0).trans rfl, (blk_cell BK246.out 1).trans rfl⟩ (fun hHeld => ?_)
 clear hK K
 refine norm_ (a' := ?_) ?_ ?_
 rotate_left
 ·
  show Act.put _ (some 5) _ = _
  simp only [Act.put, List.setIfInBounds_toArray, List.set_cons_zero, List.set_cons_succ, i64_w, i32_w]
  rfl
 refine pure_ (i := 3) (N := some 6) (v := ?_) (a' := ?_) #[true, true, true, true, false, true, true, true, true, false, true, true, true, true, false, false, false, false, false, false] rfl rfl (any_of HT_.out (by kernel_rfl)) (fun _ _ _ h => h) (Or.inl ⟨by rfl, ?_⟩) ?_ ?_
 rotate_left
 ·
  intro w'
  go_simp
  with_reducible rfl
 rotate_left
 ·
  simp only [Act.put, List.setIfInBounds_toArray, List.set_cons_zero, List.set_cons_succ, i64_w, i32_w]
  rfl
 refine pure_ (i := 4) (N := some 7) (v := ?_) (a' := ?_) #[true, true, true, true, true, true, true, true, true, false, true, true, true, true, false, false, false, false, false, false] rfl rfl (any_of HT_.out (by kernel_rfl)) (fun _ _ _ h => h) (Or.inl ⟨by rfl, ?_⟩) ?_ ?_
 rotate_left
 ·
  intro w'
  go_simp
  with_reducible rfl
 rotate_left
 ·
  simp only [Act.put, List.setIfInBounds_toArray, List.set_cons_zero, List.set_cons_succ, i64_w, i32_w]
  rfl
 refine pure_ (i := 9) (N := some 12) (v := ?_) (a' := ?_) #[true, true, true, true, true, true, true, true, true, true, true, true, true, true, false, false, false, false, false, false] rfl rfl (any_of HT_.out (by kernel_rfl)) (fun _ _ _ h => h) (Or.inl ⟨by rfl, ?_⟩) ?_ ?_
 rotate_left
 ·
  intro w'
  go_simp
  with_reducible rfl
 rotate_left
 ·
  simp only [Act.put, List.setIfInBounds_toArray, List.set_cons_zero, List.set_cons_succ, i64_w, i32_w]
  rfl
 refine one_ (i := 14) (N := some 17) #[true, true, true, true, true, true, true, true, true, true, true, true, true, true, true, false, false, false, false, false] rfl rfl (one_of HT_.out (by kernel_rfl)) (by decide) (fun K hK => ?_)
 refine goes_ Try.func64 (by kernel_rfl) rfl #[.slice A0_1 l0_1.length c0_1, .slice A0_0 l0_0.length c0_0] (by rfl) rfl rfl (by (try simp only [List.map_toArray, List.map_cons, List.map_nil]); first | done | rfl | (simp only [List.length_drop, List.length_take]; rfl)) ?_
 with_reducible refine (impl_mul.calls k _ _ l0_1 _ _ l0_0 t250 _ ?side1 ?side2 ?side3 ?side4 A3.out).mono ?_
 (case side1 => exact cU (Kd.C_below HR0_1.out HB.out))
 (case side2 => exact HC0_1.out)
 (case side3 => exact cU (Kd.C_below HR0_0.out HB.out))
 (case side4 => exact HC0_0.out)
 rintro e w9 ⟨v251, rfl, ho0, hb⟩
 refine ⟨_, rfl, ?_⟩
 have n0 := Az (Kd.S_elder' (sU HO249.out) (Kd.R_base ho0) hb); have n1 := Az (Kd.R_lower ho0 (below_size (bU1 HB.out GE246.out))); have n2 := Az (blk_below (g := gb246) (o := .cells #[.slice A0_0 l0_0.length c0_0, .slice A0_1 l0_1.length c0_1] 25 (0, 0)) (kU BK246.out) hb); have n3 := Az (below_step (bU1 HB.out GE246.out) hb); clear HO249 BK246 HB; have HO249 := n0; have HO252 := n1; have BK246 := n2; have HB := n3; clear n0 n1 n2 n3; (try clear hb); (try clear hb2); (try clear hk); (try clear hi); (try clear ho0); obtain ⟨Ao10, co10, eo10⟩ := Kd.R_slice HO252.out; (first | subst eo10 | (injection eo10 with f1_ f2_ f3_; have f4_ := f1_.symm; have f5_ := f3_.symm; clear f1_ f2_ f3_; subst f4_; subst f5_))
 refine hK.out _ _ ⟨(blk_cell BK246.out 0).trans rfl, (blk_cell BK246.out 1).trans rfl⟩ (fun hHeld => ?_)
 clear hK K
 refine norm_ (a' := ?_) ?_ ?_
 rotate_left
 ·
  show Act.put _ (some 17) _ = _
  simp only [Act.put, List.setIfInBounds_toArray, List.set_cons_zero, List.set_cons_succ, i64_w, i32_w]
  rfl
 refine one_ (i := 15) (N := some 18) #[true, true, true, true, true, true, true, true, true, true, true, true, true, true, true, true, false, false, false, false] rfl rfl (one_of HT_.out (by kernel_rfl)) (by decide) (fun K hK => ?_)
 refine goes_ Try.func63 (by kernel_rfl) rfl #[.slice Ao10 t250.length co10] (by rfl) rfl rfl (by (try simp only [List.map_toArray, List.map_cons, List.map_nil]); first | done | rfl | (simp only [List.length_drop, List.length_take]; rfl)) ?_
 with_reducible refine (impl_cyclesOf.calls k _ _ t250 t253 _ ?side1 ?side2 A4.out).mono ?_
 (case side1 => exact cU ((Kd.R_reads' HO252.out).2.2))
 (case side2 => exact (Kd.R_reads' HO252.out).2.1)
 rintro e w11 ⟨v254, rfl, ho0, hb⟩
 refine ⟨_, rfl, ?_⟩
 have n0 := Az (Kd.S_elder' (sU HO249.out) (Kd.S_base ho0) hb); have n1 := Az (Kd.R_below (rU HO252.out) hb); have n2 := Az (Kd.S_lower (Kd.S_new' (Kd.S_new' ho0 (Kd.S_lt (sU HO249.out))) (Kd.R_lt (rU HO252.out))) (below_size (bU1 HB.out GE246.out))); have n3 := Az (blk_below (g := gb246) (o := .cells #[.slice A0_0 l0_0.length c0_0, .slice A0_1 l0_1.length c0_1] 25 (0, 0)) (kU BK246.out) hb); have n4 := Az (below_step (bU1 HB.out GE246.out) hb); clear HO249 HO252 BK246 HB; have HO249 := n0; have HO252 := n1; have HO255 := n2; have BK246 := n3; have HB := n4; clear n0 n1 n2 n3 n4; (try clear hb); (try clear hb2); (try clear hk); (try clear hi); (try clear ho0); obtain ⟨Ao12, co12, eo12⟩ := Kd.S_slice HO255.out; (first | subst eo12 | (injection eo12 with f1_ f2_ f3_; have f4_ := f1_.symm; have f5_ := f3_.symm; clear f1_ f2_ f3_; subst f4_; subst f5_))
 refine hK.out _ _ ⟨(blk_cell BK246.out 0).trans rfl, (blk_cell BK246.out 1).trans rfl⟩ (fun hHeld => ?_)
 clear hK K
 refine norm_ (a' := ?_) ?_ ?_
 rotate_left
 ·
  show Act.put _ (some 18) _ = _
  simp only [Act.put, List.setIfInBounds_toArray, List.set_cons_zero, List.set_cons_succ, i64_w, i32_w]
  rfl
 refine pure_ (i := 16) (N := some 19) (v := ?_) (a' := ?_) #[true, true, true, true, true, true, true, true, true, true, true, true, true, true, true, true, true, false, false, false] rfl rfl (any_of HT_.out (by kernel_rfl)) (fun _ _ _ h => h) (Or.inl ⟨by rfl, ?_⟩) ?_ ?_
 rotate_left
 ·
  intro w'
  go_simp
  with_reducible rfl
 rotate_left
 ·
  simp only [Act.put, List.setIfInBounds_toArray, List.set_cons_zero, List.set_cons_succ, i64_w, i32_w]
  rfl
 refine pure_ (i := 17) (N := some 20) (v := ?_) (a' := ?_) #[true, true, true, true, true, true, true, true, true, true, true, true, true, true, true, true, true, true, false, false] rfl rfl (any_of HT_.out (by kernel_rfl)) (fun _ _ _ h => h) (Or.inl ⟨by rfl, ?_⟩) ?_ ?_
 rotate_left
 ·
  intro w'
  go_simp
  with_reducible rfl
 rotate_left
 ·
  simp only [Act.put, List.setIfInBounds_toArray, List.set_cons_zero, List.set_cons_succ, i64_w, i32_w]
  rfl
 refine pure_ (i := 18) (N := some 21) (v := ?_) (a' := ?_) #[true, true, true, true, true, true, true, true, true, true, true, true, true, true, true, true, true, true, true, false] rfl rfl (any_of HT_.out (by kernel_rfl)) (fun _ _ _ h => h) (Or.inl ⟨by rfl, ?_⟩) ?_ ?_
 rotate_left
 ·
  intro w'
  go_simp
  with_reducible rfl
 rotate_left
 ·
  simp only [Act.put, List.setIfInBounds_toArray, List.set_cons_zero, List.set_cons_succ, i64_w, i32_w]
  rfl
 refine pure_ (i := 19) (N := some 2) (v := ?_) (a' := ?_) #[true, true, true, true, true, true, true, true, true, true, true, true, true, true, true, true, true, true, true, true] rfl rfl (any_of HT_.out (by kernel_rfl)) (fun _ _ _ h => h) (Or.inl ⟨by rfl, ?_⟩) ?_ ?_
 rotate_left
 ·
  intro w'
  go_simp
  with_reducible rfl
 rotate_left
 ·
  simp only [Act.put, List.setIfInBounds_toArray, List.set_cons_zero, List.set_cons_succ, i64_w, i32_w]
  rfl
 refine done_ (done_of HT_.out (by kernel_rfl)) ?_
 try go_wp2
 go_ret
 exact ⟨rE, bU1 HB.out GE246.out⟩
def impl_MapGenus.f (k : Nat) (l0_0 : List Int) (l0_1 : List Int) : Option (Int) := (impl_MapValid.f k l0_0 l0_1).bind fun t257 => (if t257 = true then ((impl_genusOf.f k l0_0 l0_1).bind fun t258 => (some t258)) else (some (-1)))
set_option maxHeartbeats 8000000 in
set_option maxRecDepth 100000 in
theorem impl_MapGenus.calls (k : Nat) (A0_0 : Option Addr) (c0_0 : Nat) (l0_0 : List Int) (A0_1 : Option Addr) (c0_1 : Nat) (l0_1 : List Int) (r : Int) (w : World) (hr0_0 : Kd.C (Kd.int .i64) w A0_0 l0_0.length l0_0) (hc0_0 : l0_0.length ≤ c0_0) (hr0_1 : Kd.C (Kd.int .i64) w A0_1 l0_1.length l0_1) (hc0_1 : l0_1.length ≤ c0_1) (h : impl_MapGenus.f k l0_0 l0_1 = some r) :
  Calls Try.prog 22 #[.agg #[.slice A0_0 l0_0.length c0_0, .slice A0_1 l0_1.length c0_1]] w fun e w' => e = .returned (.int .i64 r) ∧ Below w.heap.size w w' := by
 have hu25 := Try.underlying25; have HR0_0 := Az hr0_0; have HC0_0 := Az hc0_0; clear hr0_0 hc0_0; have HR0_1 := Az hr0_1; have HC0_1 := Az hc0_1; clear hr0_1 hc0_1; have HB := Az (Below.refl w.heap.size w); have H : ((impl_MapValid.f k l0_0 l0_1).bind fun t257 => (if t257 = true then ((impl_genusOf.f k l0_0 l0_1).bind fun t258 => (some t258)) else (some (-1)))) = some r := h; clear h; replace H := Option.bind_eq_some_iff.mp H; obtain ⟨t257, A20, H⟩ := H; replace H : (if t257 = true then ((impl_genusOf.f k l0_0 l0_1).bind fun t258 => (some t258)) else (some (-1))) = some r := H; have A2 := Az A20; clear A20
 by_cases c3 : t257 = true
 ·
  subst c3
  have H1 : ((impl_genusOf.f k l0_0 l0_1).bind fun t258 => (some t258)) = some r := by rw [if_pos rfl] at H; exact H
  clear H; have H := H1; clear H1; replace H := Option.bind_eq_some_iff.mp H; obtain ⟨t258, A40, H⟩ := H; replace H : (some t258) = some r := H; have A4 := Az A40; clear A40; obtain rfl := Option.some.inj H
  go_enter Try.func22, Try.ntmps22
  go_wp2_with (first | ((with_reducible refine gate_dst (N := 1) rfl ?_); refine box_event ?hg (N := 1) ?hd (cs := #[.slice A0_0 l0_0.length c0_0, .slice A0_1 l0_1.length c0_1]) (t := 25) ?hr ?_; (case hd => rfl); (case hg => rfl); (case hr => first | (go_simp; done) | (go_simp; rfl)); intro gb256 hg w5 hbox hb; have n0 := Az (below_step (bU0 HB.out) hb); have n1 := Az (hbox); have n2 := Az ((by rw [hg]; exact (below_size (bU0 HB.out)) : w.heap.size ≤ gb256)); have n3 := n2; clear HB; have HB := n0; have BK256 := n1; have GW256 := n2; have GE256 := n3; clear n0 n1 n2 n3 hb hbox hg; have hcz6_0 : w5.cell? ⟨gb256, 0, none⟩ = some (.slice A0_0 l0_0.length c0_0) := (blk_cell BK256.out 0).trans rfl; have hcz6_1 : w5.cell? ⟨gb256, 1, none⟩ = some (.slice A0_1 l0_1.length c0_1) := (blk_cell BK256.out 1).trans rfl; have hfz6_0 := blk_frozen BK256.out 0; have hfz6_1 := blk_frozen BK256.out 1) | ((with_reducible refine gate_callee (f := 59) rfl ?_); refine goesL_ (some 4) rfl rfl Try.func59 (by kernel_rfl) rfl #[.agg #[.slice A0_0 l0_0.length c0_0, .slice A0_1 l0_1.length c0_1]] rfl (by (try simp only [List.map_toArray, List.map_cons, List.map_nil]); first | done | rfl | (simp only [List.length_drop, List.length_take]; rfl)) ?_; (with_reducible refine (impl_MapValid.calls k (fun k_ => k_ < w.heap.size) _ _ l0_0 (fun k_ => k_ < w.heap.size) _ _ l0_1 true _ ?side1 ?side2 A2.out).mono ?_); (case side1 => exact Kd.V_mk HC0_0.out (Kd.F_below (Kd.C_F (Kd.heap_int .i64) HR0_0.out) (bU1 HB.out GE256.out))); (case side2 => exact Kd.V_mk HC0_1.out (Kd.F_below (Kd.C_F (Kd.heap_int .i64) HR0_1.out) (bU1 HB.out GE256.out))); rintro e w7 ⟨rfl, hb⟩; refine ⟨_, rfl, ?_⟩; have n0 := Az (blk_below (g := gb256) (o := .cells #[.slice A0_0 l0_0.length c0_0, .slice A0_1 l0_1.length c0_1] 25 (0, 0)) (kU BK256.out) hb); have n1 := Az (below_step (bU1 HB.out GE256.out) hb); clear BK256 HB; have BK256 := n0; have HB := n1; clear n0 n1; (try clear hb); (try clear hb2); (try clear hk); (try clear hi); have hcz8_0 : w7.cell? ⟨gb256, 0, none⟩ = some (.slice A0_0 l0_0.length c0_0) := (blk_cell BK256.out 0).trans rfl; have hcz8_1 : w7.cell? ⟨gb256, 1, none⟩ = some (.slice A0_1 l0_1.length c0_1) := (blk_cell BK256.out 1).trans rfl; have hfz8_0 := blk_frozen BK256.out 0; have hfz8_1 := blk_frozen BK256.out 1) | ((with_reducible refine gate_callee (f := 66) rfl ?_); refine goesL_ (some 7) rfl rfl Try.func66 (by kernel_rfl) rfl #[.agg #[.slice A0_0 l0_0.length c0_0, .slice A0_1 l0_1.length c0_1]] rfl (by (try simp only [List.map_toArray, List.map_cons, List.map_nil]); first | done | rfl | (simp only [List.length_drop, List.length_take]; rfl)) ?_; (with_reducible refine (impl_genusOf.calls k _ _ l0_0 _ _ l0_1 t258 _ ?side1 ?side2 ?side3 ?side4 A4.out).mono ?_); (case side1 => exact cU (Kd.C_below HR0_0.out HB.out)); (case side2 => exact HC0_0.out); (case side3 => exact cU (Kd.C_below HR0_1.out HB.out)); (case side4 => exact HC0_1.out); rintro e w9 ⟨rfl, hb⟩; refine ⟨_, rfl, ?_⟩; have n0 := Az (blk_below (g := gb256) (o := .cells #[.slice A0_0 l0_0.length c0_0, .slice A0_1 l0_1.length c0_1] 25 (0, 0)) (kU BK256.out) hb); have n1 := Az (below_step (bU1 HB.out GE256.out) hb); clear BK256 HB; have BK256 := n0; have HB := n1; clear n0 n1; (try clear hb); (try clear hb2); (try clear hk); (try clear hi)))
  go_ret
  exact ⟨rE, bU1 HB.out GE256.out⟩
 ·
  replace c3 := Bool.eq_false_iff.mpr c3; subst c3
  have H1 : (some (-1)) = some r := by rw [if_neg (show ¬ (false = true) by decide)] at H; exact H
  clear H; have H := H1; clear H1; obtain rfl := Option.some.inj H
  go_enter Try.func22, Try.ntmps22
  go_wp2_with (first | ((with_reducible refine gate_dst (N := 1) rfl ?_); refine box_event ?hg (N := 1) ?hd (cs := #[.slice A0_0 l0_0.length c0_0, .slice A0_1 l0_1.length c0_1]) (t := 25) ?hr ?_; (case hd => rfl); (case hg => rfl); (case hr => first | (go_simp; done) | (go_simp; rfl)); intro gb256 hg w10 hbox hb; have n0 := Az (below_step (bU0 HB.out) hb); have n1 := Az (hbox); have n2 := Az ((by rw [hg]; exact (below_size (bU0 HB.out)) : w.heap.size ≤ gb256)); have n3 := n2; clear HB; have HB := n0; have BK256 := n1; have GW256 := n2; have GE256 := n3; clear n0 n1 n2 n3 hb hbox hg; have hcz11_0 : w10.cell? ⟨gb256, 0, none⟩ = some (.slice A0_0 l0_0.length c0_0) := (blk_cell BK256.out 0).trans rfl; have hcz11_1 : w10.cell? ⟨gb256, 1, none⟩ = some (.slice A0_1 l0_1.length c0_1) := (blk_cell BK256.out 1).trans rfl; have hfz11_0 := blk_frozen BK256.out 0; have hfz11_1 := blk_frozen BK256.out 1) | ((with_reducible refine gate_callee (f := 59) rfl ?_); refine goesL_ (some 4) rfl rfl Try.func59 (by kernel_rfl) rfl #[.agg #[.slice A0_0 l0_0.length c0_0, .slice A0_1 l0_1.length c0_1]] rfl (by (try simp only [List.map_toArray, List.map_cons, List.map_nil]); first | done | rfl | (simp only [List.length_drop, List.length_take]; rfl)) ?_; (with_reducible refine (impl_MapValid.calls k (fun k_ => k_ < w.heap.size) _ _ l0_0 (fun k_ => k_ < w.heap.size) _ _ l0_1 false _ ?side1 ?side2 A2.out).mono ?_); (case side1 => exact Kd.V_mk HC0_0.out (Kd.F_below (Kd.C_F (Kd.heap_int .i64) HR0_0.out) (bU1 HB.out GE256.out))); (case side2 => exact Kd.V_mk HC0_1.out (Kd.F_below (Kd.C_F (Kd.heap_int .i64) HR0_1.out) (bU1 HB.out GE256.out))); rintro e w12 ⟨rfl, hb⟩; refine ⟨_, rfl, ?_⟩; have n0 := Az (blk_below (g := gb256) (o := .cells #[.slice A0_0 l0_0.length c0_0, .slice A0_1 l0_1.length c0_1] 25 (0, 0)) (kU BK256.out) hb); have n1 := Az (below_step (bU1 HB.out GE256.out) hb); clear BK256 HB; have BK256 := n0; have HB := n1; clear n0 n1; (try clear hb); (try clear hb2); (try clear hk); (try clear hi)))
  go_ret
  exact ⟨rE, bU1 HB.out GE256.out⟩
def impl_MapDual.T3 : Bool × List (List Nat × List Nat) := (true, [([], []), ([0], [0]), ([], []), ([2], [2]), ([1, 3], [1, 3]), ([], []), ([5], [5]), ([6, 4], [6]), ([4, 7], [4, 7]), ([8, 7, 0, 1, 2, 3, 4, 5, 6, 7, 8], [8]), ([9, 0, 1, 2, 3, 4, 5, 6, 7, 8, 9], [])])
def impl_MapDual.B3 : List Nat := [0, 1, 0, 4, 15, 0, 32, 127, 255, 511, 1023]
def impl_ChoiceQuasi.f (k : Nat) (l0_0 : List Int) (l0_1 : List Int) (l1 : List Int) : Option (Bool) := (impl_ChoiceValid.f k l0_0 l0_1 l1).bind fun t269 => (if t269 = true then ((impl_ribbon.f k l0_0 l0_1 l1).bind fun t270 => (if 0 < (t270.length : Int) then (if (rd t270 0) = 1 then (if 1 < (t270.length : Int) then (some ((rd t270 1) == 1)) else (none)) else (some false)) else (none))) else (some false))
def spec_l6In.f (a0 : Int) (a1 : Int) (a2 : Int) : Option (Bool) := if a0 ≥ a1 then (some (decide (a0 ≤ a2))) else (some false)
set_option maxHeartbeats 8000000 in
set_option maxRecDepth 100000 in
theorem spec_l6In.calls (a0 : Int) (a1 : Int) (a2 : Int) (r : Bool) (w : World) (h : spec_l6In.f a0 a1 a2 = some r) :
  Calls Try.prog 60 #[.int .i64 a0, .int .i64 a1, .int .i64 a2] w fun e w' => e = .returned (.bool r) ∧ Drawn0 w w' := by
 have H : (if a0 ≥ a1 then (some (decide (a0 ≤ a2))) else (some false)) = some r := h; clear h
 by_cases c4 : a0 ≥ a1
 ·
  rw [if_pos c4] at H; have c4b0 := decide_eq_true c4; clear c4; obtain rfl := Option.some.inj H
  go_enter Try.func60, Try.ntmps60
  go_wp2
  go_ret
  exact ⟨by first | rfl | (simp; done) | (simp [*]; done), by repeat (first | exact Drawn0.refl _ | apply Drawn0.step)⟩
 ·
  rw [if_neg c4] at H; have c4b0 := decide_eq_false c4; clear c4; obtain rfl := Option.some.inj H
  go_enter Try.func60, Try.ntmps60
  go_wp2
  go_ret
  exact ⟨by first | rfl | (simp; done) | (simp [*]; done), by repeat (first | exact Drawn0.refl _ | apply Drawn0.step)⟩
mutual
def spec_PermValid.l0 : Nat → List Int → Int → Option (Bool)
 | 0, _, _ => none
 | k + 1, x0, x3 => if x3 < (x0.length : Int) then (if 0 ≤ x3 then ((spec_l6In.f (rd x0 x3) 0 (wrap64 ((x0.length : Int) - 1))).bind fun t277 => (if t277 = true then (spec_PermValid.l1 k x0 x3 0) else (some false))) else (none)) else ((spec_l6In.f (x0.length : Int) 1 12).bind fun t275 => (some t275))
def spec_PermValid.l1 : Nat → List Int → Int → Int → Option (Bool)
 | 0, _, _, _ => none
 | k + 1, x0, x3, x4 => if x4 < x3 then (if 0 ≤ x4 then (if x4 < (x0.length : Int) then (if 0 ≤ x3 then (if x3 < (x0.length : Int) then (if (rd x0 x4) = (rd x0 x3) then (some false) else (spec_PermValid.l1 k x0 x3 (wrap64 (x4 + 1)))) else (none)) else (none)) else (none)) else (none)) else (spec_PermValid.l0 k x0 (wrap64 (x3 + 1)))
end
def spec_PermValid.f (k : Nat) (l0 : List Int) : Option (Bool) := spec_PermValid.l0 k l0 0
set_option maxHeartbeats 8000000 in
set_option maxRecDepth 100000 in
theorem spec_PermValid.calls (k : Nat) (A0 : Option Addr) (c0 : Nat) (l0 : List Int) (r : Bool) (w : World) (hr0 : Kd.C (Kd.int .i64) w A0 l0.length l0) (hc0 : l0.length ≤ c0) (h : spec_PermValid.f k l0 = some r) :
  Calls Try.prog 109 #[.slice A0 l0.length c0] w fun e w' => e = .returned (.bool r) ∧ Drawn0 w w' := by
 have HR0 := Az hr0; have HC0 := Az hc0; clear hr0 hc0; have H : (spec_PermValid.l0 k l0 0) = some r := h; clear h; have H' := Az H; clear H
 go_enter Try.func109, Try.ntmps109
 go_wp2
 repeat (go_quiet (fail); try go_wp2)
 go_loopg [3] k (fun kq v3 w' => ∃ (x3_1 : Int), v3 = .int .i64 x3_1 ∧ Aside0 (spec_PermValid.l0 kq l0 x3_1 = some r) ∧ Aside0 (kq ≤ k) ∧ Drawn0 w w')
 case atStart => exact ⟨(0), rS, H', ⟨Nat.le_refl _⟩, by repeat (first | exact Drawn0.refl _ | apply Drawn0.step)⟩
 case round =>
  clear H'; (try clear c1); obtain ⟨x3_1, rfl, HA, HK1, ⟨m1, rfl⟩⟩ := hrel
  cases gk with
  | zero => exact absurd HA.out (by simp [spec_PermValid.l0])
  | succ k1 =>
   have H := HA.out; clear HA; simp only [spec_PermValid.l0] at H
   by_cases c2 : x3_1 < (l0.length : Int)
   ·
    rw [if_pos c2] at H; have c2b0 := decide_eq_true c2; clear c2
    by_cases c3 : 0 ≤ x3_1
    ·
     rw [if_pos c3] at H; have c3b0 := decide_eq_true c3; clear c3; replace H := Option.bind_eq_some_iff.mp H; obtain ⟨t277, A40, H⟩ := H; replace H : (if t277 = true then (spec_PermValid.l1 k1 l0 x3_1 0) else (some false)) = some r := H; have A4 := Az A40; clear A40
     by_cases c5 : t277 = true
     ·
      subst c5
      have H1 : (spec_PermValid.l1 k1 l0 x3_1 0) = some r := by rw [if_pos rfl] at H; exact H
      clear H; have H := H1; clear H1; have H' := Az H; clear H; have p276 : 0 ≤ (x3_1 : Int) := oA; have q276 : x3_1 < (l0.length : Int) := oA; obtain ⟨ad276, e276, hx276_0⟩ := Kd.at_int HR0.out x3_1 p276 q276
      cases e276
      replace p276 := eq_true p276; replace q276 := eq_true q276
      go_wp2_with (first | (go_at_call 60; (with_reducible refine (spec_l6In.calls (rd l0 x3_1) 0 (wrap64 ((l0.length : Int) - 1)) true _ A4.out).mono ?_); rintro e w' ⟨rfl, ⟨nd, rfl⟩⟩; (try first | exact ⟨rfl, _, World.drewN_drewN _ _ _⟩ | exact ⟨rfl, _, Eq.trans (World.drewN_drewN _ _ _) (congrArg (World.drewN _) (Nat.add_assoc _ _ _))⟩)))
      repeat (go_quiet (fail); try go_wp2_with (fail))
      go_loopg [4] k1 (fun kq v4 w' => ∃ (x4_2 : Int), v4 = .int .i64 x4_2 ∧ Aside0 (spec_PermValid.l1 kq l0 x3_1 x4_2 = some r) ∧ Aside0 (kq ≤ k1) ∧ Drawn0 w w')
      case atStart => exact ⟨(0), rS, H', ⟨Nat.le_refl _⟩, by repeat (first | exact Drawn0.refl _ | apply Drawn0.step)⟩
      case round =>
       clear H'; (try clear c1); (try clear c2); (try clear c2b0); (try clear p2); (try clear q2); (try clear hx2); (try clear c3); (try clear c3b0); (try clear c5); (try clear hx276_0); (try clear p276); (try clear q276); obtain ⟨x4_2, rfl, HA, HK2, ⟨m2, rfl⟩⟩ := hrel
       cases gk with
       | zero => exact absurd HA.out (by simp [spec_PermValid.l1])
       | succ k2 =>
        have H := HA.out; clear HA; simp only [spec_PermValid.l1] at H
        by_cases c6 : x4_2 < x3_1
        ·
         rw [if_pos c6] at H; have c6b0 := decide_eq_true c6; clear c6
         by_cases c7 : 0 ≤ x4_2
         ·
          rw [if_pos c7] at H; have c7b0 := decide_eq_true c7; clear c7
          by_cases c8 : x4_2 < (l0.length : Int)
          ·
           rw [if_pos c8] at H; have c8b0 := decide_eq_true c8; clear c8
           by_cases c9 : 0 ≤ x3_1
           ·
            rw [if_pos c9] at H; have c9b0 := decide_eq_true c9; clear c9
            by_cases c10 : x3_1 < (l0.length : Int)
            ·
             rw [if_pos c10] at H; have c10b0 := decide_eq_true c10; clear c10
             by_cases c11 : (rd l0 x4_2) = (rd l0 x3_1)
             ·
              rw [if_pos c11] at H; have c11b0 := beq_iff_eq.mpr c11; have c11b1 := bne_eq_false_iff_eq.mpr c11; clear c11; obtain rfl := Option.some.inj H; have p278 : 0 ≤ (x4_2 : Int) := oA; have q278 : x4_2 < (l0.length : Int) := oA; obtain ⟨ad278, e278, hx278_0⟩ := Kd.at_int HR0.out x4_2 p278 q278; obtain rfl : ad276 = ad278 := (by injection e278); replace p278 := eq_true p278; replace q278 := eq_true q278; have p279 : 0 ≤ (x3_1 : Int) := oA; have q279 : x3_1 < (l0.length : Int) := oA; obtain ⟨ad279, e279, hx279_0⟩ := Kd.at_int HR0.out x3_1 p279 q279; obtain rfl : ad276 = ad279 := (by injection e279); replace p279 := eq_true p279; replace q279 := eq_true q279
              go_wp2
              repeat (go_quiet (fail); try go_wp2)
              go_ret
              exact ⟨by first | rfl | (simp; done) | (simp [*]; done), by repeat (first | exact Drawn0.refl _ | apply Drawn0.step)⟩
             ·
              rw [if_neg c11] at H; have c11b0 := beq_eq_false_iff_ne.mpr c11; have c11b1 := bne_iff_ne.mpr c11; have H' := Az H; clear H; have p278 : 0 ≤ (x4_2 : Int) := oA; have q278 : x4_2 < (l0.length : Int) := oA; obtain ⟨ad278, e278, hx278_0⟩ := Kd.at_int HR0.out x4_2 p278 q278; obtain rfl : ad276 = ad278 := (by injection e278); replace p278 := eq_true p278; replace q278 := eq_true q278; have p279 : 0 ≤ (x3_1 : Int) := oA; have q279 : x3_1 < (l0.length : Int) := oA; obtain ⟨ad279, e279, hx279_0⟩ := Kd.at_int HR0.out x3_1 p279 q279; obtain rfl : ad276 = ad279 := (by injection e279); replace p279 := eq_true p279; replace q279 := eq_true q279
              go_wp2
              repeat (go_quiet (fail); try go_wp2)
              (first | go_roundg k2 | (refine Handed.intro k2 ?measure ?_; rotate_left; go_step; (try simp only [add_plain]); (repeat apply Exists.intro); refine ⟨?rel, rfl⟩))
              case measure => have := HK1.out; have := HK2.out; omega
              case rel => exact ⟨(wrap64 (x4_2 + 1)), rS, H', ⟨by have := HK1.out; have := HK2.out; omega⟩, by repeat (first | exact Drawn0.refl _ | apply Drawn0.step)⟩
            ·
             rw [if_neg c10] at H
             exact absurd H (by simp)
           ·
            rw [if_neg c9] at H
            exact absurd H (by simp)
          ·
           rw [if_neg c8] at H
           exact absurd H (by simp)
         ·
          rw [if_neg c7] at H
          exact absurd H (by simp)
        ·
         rw [if_neg c6] at H; have c6b0 := decide_eq_false c6; clear c6; have H' := Az H; clear H
         go_wp2
         repeat (go_quiet (fail); try go_wp2)
         (first | go_roundg k2 | (refine Handed.intro k2 ?measure ?_; rotate_left; go_step; (try simp only [add_plain]); (repeat apply Exists.intro); refine ⟨?rel, rfl⟩))
         case measure => have := HK1.out; have := HK2.out; omega
         case rel => exact ⟨(wrap64 (x3_1 + 1)), rS, H', ⟨by have := HK1.out; have := HK2.out; omega⟩, by repeat (first | exact Drawn0.refl _ | apply Drawn0.step)⟩
     ·
      replace c5 := Bool.eq_false_iff.mpr c5; subst c5
      have H1 : (some false) = some r := by rw [if_neg (show ¬ (false = true) by decide)] at H; exact H
      clear H; have H := H1; clear H1; obtain rfl := Option.some.inj H; have p276 : 0 ≤ (x3_1 : Int) := oA; have q276 : x3_1 < (l0.length : Int) := oA; obtain ⟨ad276, e276, hx276_0⟩ := Kd.at_int HR0.out x3_1 p276 q276
      cases e276
      replace p276 := eq_true p276; replace q276 := eq_true q276
      go_wp2_with (first | (go_at_call 60; (with_reducible refine (spec_l6In.calls (rd l0 x3_1) 0 (wrap64 ((l0.length : Int) - 1)) false _ A4.out).mono ?_); rintro e w' ⟨rfl, ⟨nd, rfl⟩⟩; (try first | exact ⟨rfl, _, World.drewN_drewN _ _ _⟩ | exact ⟨rfl, _, Eq.trans (World.drewN_drewN _ _ _) (congrArg (World.drewN _) (Nat.add_assoc _ _ _))⟩)))
      repeat (go_quiet (fail); try go_wp2_with (fail))
      go_ret
      exact ⟨by first | rfl | (simp; done) | (simp [*]; done), by repeat (first | exact Drawn0.refl _ | apply Drawn0.step)⟩
    ·
     rw [if_neg c3] at H
     exact absurd H (by simp)
   ·
    rw [if_neg c2] at H; have c2b0 := decide_eq_false c2; clear c2; replace H := Option.bind_eq_some_iff.mp H; obtain ⟨t275, A120, H⟩ := H; replace H : (some t275) = some r := H; have A12 := Az A120; clear A120; obtain rfl := Option.some.inj H
    go_wp2_with (first | (go_at_call 60; (with_reducible refine (spec_l6In.calls (l0.length : Int) 1 12 t275 _ A12.out).mono ?_); rintro e w' ⟨rfl, ⟨nd, rfl⟩⟩; (try first | exact ⟨rfl, _, World.drewN_drewN _ _ _⟩ | exact ⟨rfl, _, Eq.trans (World.drewN_drewN _ _ _) (congrArg (World.drewN _) (Nat.add_assoc _ _ _))⟩)))
    repeat (go_quiet (fail); try go_wp2_with (fail))
    go_ret
    exact ⟨by first | rfl | (simp; done) | (simp [*]; done), by repeat (first | exact Drawn0.refl _ | apply Drawn0.step)⟩
def spec_l1Both.f (k : Nat) (l0 : List Int) (l1 : List Int) : Option (Bool) := (spec_PermValid.f k l0).bind fun t280 => (if t280 = true then ((spec_PermValid.f k l1).bind fun t281 => (if t281 = true then (some ((l0.length : Int) == (l1.length : Int))) else (some false))) else (some false))
set_option maxHeartbeats 8000000 in
set_option maxRecDepth 100000 in
theorem spec_l1Both.calls (k : Nat) (A0 : Option Addr) (c0 : Nat) (l0 : List Int) (A1 : Option Addr) (c1 : Nat) (l1 : List Int) (r : Bool) (w : World) (hr0 : Kd.C (Kd.int .i64) w A0 l0.length l0) (hc0 : l0.length ≤ c0) (hr1 : Kd.C (Kd.int .i64) w A1 l1.length l1) (hc1 : l1.length ≤ c1) (h : spec_l1Both.f k l0 l1 = some r) :
  Calls Try.prog 98 #[.slice A0 l0.length c0, .slice A1 l1.length c1] w fun e w' => e = .returned (.bool r) ∧ Drawn0 w w' := by
 have HR0 := Az hr0; have HC0 := Az hc0; clear hr0 hc0; have HR1 := Az hr1; have HC1 := Az hc1; clear hr1 hc1; have H : ((spec_PermValid.f k l0).bind fun t280 => (if t280 = true then ((spec_PermValid.f k l1).bind fun t281 => (if t281 = true then (some ((l0.length : Int) == (l1.length : Int))) else (some false))) else (some false))) = some r := h; clear h; replace H := Option.bind_eq_some_iff.mp H; obtain ⟨t280, A30, H⟩ := H; replace H : (if t280 = true then ((spec_PermValid.f k l1).bind fun t281 => (if t281 = true then (some ((l0.length : Int) == (l1.length : Int))) else (some false))) else (some false)) = some r := H; have A3 := Az A30; clear A30
 by_cases c4 : t280 = true
 ·
  subst c4
  have H1 : ((spec_PermValid.f k l1).bind fun t281 => (if t281 = true then (some ((l0.length : Int) == (l1.length : Int))) else (some false))) = some r := by rw [if_pos rfl] at H; exact H
  clear H; have H := H1; clear H1; replace H := Option.bind_eq_some_iff.mp H; obtain ⟨t281, A50, H⟩ := H; replace H : (if t281 = true then (some ((l0.length : Int) == (l1.length : Int))) else (some false)) = some r := H; have A5 := Az A50; clear A50
  by_cases c6 : t281 = true
  ·
   subst c6
   have H1 : (some ((l0.length : Int) == (l1.length : Int))) = some r := by rw [if_pos rfl] at H; exact H
   clear H; have H := H1; clear H1; obtain rfl := Option.some.inj H
   go_enter Try.func98, Try.ntmps98
   go_wp2_with (first | ((with_reducible refine gate_callee (f := 109) rfl ?_); refine goesL_ (some 6) rfl rfl Try.func109 (by kernel_rfl) rfl #[.slice A0 l0.length c0] rfl (by (try simp only [List.map_toArray, List.map_cons, List.map_nil]); first | done | rfl | (simp only [List.length_drop, List.length_take]; rfl)) ?_; (with_reducible refine (spec_PermValid.calls k _ _ l0 true _ ?side1 ?side2 A3.out).mono ?_); (case side1 => exact cU (HR0.out)); (case side2 => exact HC0.out); rintro e w' ⟨rfl, ⟨nd, rfl⟩⟩; refine ⟨_, rfl, ?_⟩) | (go_at_call 109; (with_reducible refine (spec_PermValid.calls k _ _ l1 true _ ?side1 ?side2 A5.out).mono ?_); (case side1 => exact cU (HR1.out)); (case side2 => exact HC1.out); rintro e w' ⟨rfl, ⟨nd, rfl⟩⟩))
   go_ret
   exact ⟨by first | rfl | (simp; done) | (simp [*]; done), by repeat (first | exact Drawn0.refl _ | apply Drawn0.step)⟩
  ·
   replace c6 := Bool.eq_false_iff.mpr c6; subst c6
   have H1 : (some false) = some r := by rw [if_neg (show ¬ (false = true) by decide)] at H; exact H
   clear H; have H := H1; clear H1; obtain rfl := Option.some.inj H
   go_enter Try.func98, Try.ntmps98
   go_wp2_with (first | ((with_reducible refine gate_callee (f := 109) rfl ?_); refine goesL_ (some 6) rfl rfl Try.func109 (by kernel_rfl) rfl #[.slice A0 l0.length c0] rfl (by (try simp only [List.map_toArray, List.map_cons, List.map_nil]); first | done | rfl | (simp only [List.length_drop, List.length_take]; rfl)) ?_; (with_reducible refine (spec_PermValid.calls k _ _ l0 true _ ?side1 ?side2 A3.out).mono ?_); (case side1 => exact cU (HR0.out)); (case side2 => exact HC0.out); rintro e w' ⟨rfl, ⟨nd, rfl⟩⟩; refine ⟨_, rfl, ?_⟩) | (go_at_call 109; (with_reducible refine (spec_PermValid.calls k _ _ l1 false _ ?side1 ?side2 A5.out).mono ?_); (case side1 => exact cU (HR1.out)); (case side2 => exact HC1.out); rintro e w' ⟨rfl, ⟨nd, rfl⟩⟩))
   go_ret
   exact ⟨by first | rfl | (simp; done) | (simp [*]; done), by repeat (first | exact Drawn0.refl _ | apply Drawn0.step)⟩
 ·
  replace c4 := Bool.eq_false_iff.mpr c4; subst c4
  have H1 : (some false) = some r := by rw [if_neg (show ¬ (false = true) by decide)] at H; exact H
  clear H; have H := H1; clear H1; obtain rfl := Option.some.inj H
  go_enter Try.func98, Try.ntmps98
  go_wp2_with (first | ((with_reducible refine gate_callee (f := 109) rfl ?_); refine goesL_ (some 6) rfl rfl Try.func109 (by kernel_rfl) rfl #[.slice A0 l0.length c0] rfl (by (try simp only [List.map_toArray, List.map_cons, List.map_nil]); first | done | rfl | (simp only [List.length_drop, List.length_take]; rfl)) ?_; (with_reducible refine (spec_PermValid.calls k _ _ l0 false _ ?side1 ?side2 A3.out).mono ?_); (case side1 => exact cU (HR0.out)); (case side2 => exact HC0.out); rintro e w' ⟨rfl, ⟨nd, rfl⟩⟩; refine ⟨_, rfl, ?_⟩))
  go_ret
  exact ⟨by first | rfl | (simp; done) | (simp [*]; done), by repeat (first | exact Drawn0.refl _ | apply Drawn0.step)⟩
def spec_l1Same.l0 : Nat → Int → List Int → Int → Option (List Int)
 | 0, _, _, _ => none
 | k + 1, x0, x3, x4 => if x4 < x0 then (if x3.length < 17592186044416 then (spec_l1Same.l0 k x0 (x3 ++ [x4]) (wrap64 (x4 + 1))) else (none)) else (some x3)
def spec_l1Same.f (k : Nat) (a0 : Int) : Option (List Int) := spec_l1Same.l0 k a0 (([] : List Int)) 0
set_option maxHeartbeats 8000000 in
set_option maxRecDepth 100000 in
theorem spec_l1Same.calls (k : Nat) (a0 : Int) (r : List Int) (w : World) (h : spec_l1Same.f k a0 = some r) :
  Calls Try.prog 108 #[.int .i64 a0] w fun e w' => ∃ v0_ : Value, e = .returned (v0_) ∧ Kd.R (Kd.int .i64) 3 w' w.heap.size (fun _ => True) v0_ r ∧ Below w.heap.size w w' := by
 have HB := Az (Below.refl w.heap.size w); have H : (spec_l1Same.l0 k a0 (([] : List Int)) 0) = some r := h; clear h; obtain ⟨y282, hy282⟩ : ∃ y_ : List Int, y_ = (([] : List Int)) := ⟨_, rfl⟩; replace H : (spec_l1Same.l0 k a0 y282 0) = some r := hR hy282 H; have Ny282 := Az hy282; clear hy282; have H' := Az H; clear H
 go_enter Try.func108, Try.ntmps108
 go_wp2_with (first | ((with_reducible refine gate_dst (N := 5) rfl ?_); refine Kd.R_lit (Kd.int .i64) _ 3 ?hg (N := 5) ?hd (xs := ([] : List Int)) (inner := []) (ok := fun _ => True) (okp := fun _ => True) ?hr ?hp (fun _ hk => hk) trivial (Below.refl _ _) (Nat.le_refl _) (by simp) ?_; (case hd => rfl); (case hg => rfl); (case hr => first | (go_simp; done) | (go_simp; rfl)); (case hp => exact (Reps.none _ _)); intro v283 w2 ho3 hb hg_ hnew_; clear hg_ hnew_; (first | rw [← Ny282.out] at ho3 | (simp only [Int.reduceToNat] at ho3; rw [← Ny282.out] at ho3)); have n0 := Az (Kd.R_lower ho3 (below_size (bU0 HB.out))); have n1 := Az (below_step (bU0 HB.out) hb); clear HB; have HO284 := n0; have HB := n1; clear n0 n1; clear hb ho3))
 go_loopg [3, 4] k (fun kq v3 v4 w' => ∃ (x3_1 : List Int) (x4_1 : Int), v4 = .int .i64 x4_1 ∧ Aside0 (spec_l1Same.l0 kq a0 x3_1 x4_1 = some r) ∧ Aside0 (kq ≤ k) ∧ Aside0 (Kd.R (Kd.int .i64) 3 w' w.heap.size (fun _ => True) v3 x3_1) ∧ Aside0 (Below w.heap.size w w'))
 case atStart => exact ⟨(y282), (0), rS, H', ⟨Nat.le_refl _⟩, ⟨rU HO284.out⟩, ⟨bU0 HB.out⟩⟩
 case round =>
  clear H'; (try clear c1); (try clear p2); obtain ⟨x3_1, x4_1, rfl, HA, HK1, HO_3, HB⟩ := hrel
  cases gk with
  | zero => exact absurd HA.out (by simp [spec_l1Same.l0])
  | succ k1 =>
   have H := HA.out; clear HA; simp only [spec_l1Same.l0] at H
   by_cases c4 : x4_1 < a0
   ·
    rw [if_pos c4] at H; have c4b0 := decide_eq_true c4; clear c4
    by_cases c5 : x3_1.length < 17592186044416
    ·
     rw [if_pos c5] at H; have LMc5 := Az c5; clear c5; obtain ⟨y285, hy285⟩ : ∃ y_ : List Int, y_ = (x3_1 ++ [x4_1]) := ⟨_, rfl⟩; replace H : (spec_l1Same.l0 k1 a0 y285 (wrap64 (x4_1 + 1))) = some r := hR hy285 H; have Ny285 := Az hy285; clear hy285; have H' := Az H; clear H
     go_wp2_with (first | ((with_reducible refine gate_builtin (b := .append) (xs := #[.tmp 11, .tmp 13]) rfl ?_); at_builtin; refine Kd.R_append (Kd.int .i64) (w0 := w) w.heap.size rfl (.tmp 11) (.tmp 13) 23 3 (.int .i64 0) 8 rfl Try.underlying23 info3 rfl (by decide) (by omega) u3 x3_1 x4_1 [.int .i64 x4_1] (fun _ => True) (fun _ => False) rfl rfl ?aP (fun _ hk => hk.elim) ?aF ?aO ?aB ?aS ?aL ?_; (case aP => exact rfl); (case aB => exact (bU0 HB.out)); (case aF => exact (fun _ _ => trivial)); (case aO => exact (rU HO_3.out)); (case aS => exact (below_size (bU0 HB.out))); (case aL => have := LMc5.out; omega); intro v286 w6 ho hb hg hat; rw [← Ny285.out] at ho; have n0 := Az (hb); have n1 := Az (ho); clear HB HO_3; have HB := n0; have HO287 := n1; clear n0 n1; clear ho hb hg hat))
     (first | go_roundg k1 | (refine Handed.intro k1 ?measure ?_; rotate_left; go_step; (try simp only [add_plain]); (repeat apply Exists.intro); refine ⟨?rel, rfl⟩))
     case measure => have := HK1.out; omega
     case rel => exact ⟨(y285), (wrap64 (x4_1 + 1)), rS, H', ⟨by have := HK1.out; omega⟩, ⟨rU HO287.out⟩, ⟨bU0 HB.out⟩⟩
    ·
     rw [if_neg c5] at H
     exact absurd H (by simp)
   ·
    rw [if_neg c4] at H; have c4b0 := decide_eq_false c4; clear c4; obtain rfl := Option.some.inj H
    go_wp2
    go_ret
    exact ⟨_, rE, rU HO_3.out, bU0 HB.out⟩
mutual
def spec_l1Orbits.l0 : Nat → List Int → List Int → List Int → Int → Option (List Int)
 | 0, _, _, _, _ => none
 | k + 1, x0, x1, x5, x6 => if x6 < (x0.length : Int) then (spec_l1Orbits.l1 k x0 x1 x5 x6 0) else (some x5)
def spec_l1Orbits.l1 : Nat → List Int → List Int → List Int → Int → Int → Option (List Int)
 | 0, _, _, _, _, _ => none
 | k + 1, x0, x1, x5, x6, x7 => if x7 < (x0.length : Int) then (if 0 ≤ x7 then (if x7 < (x5.length : Int) then (if 0 ≤ (rd x0 x7) then (if (rd x0 x7) < (x5.length : Int) then (if x7 < (x1.length : Int) then (if 0 ≤ (rd x1 x7) then (if (rd x1 x7) < (x5.length : Int) then (spec_l1Orbits.l1 k x0 x1 (((x5.set (x7 : Int).toNat (mn (rd x5 x7) (mn (rd x5 (rd x0 x7)) (rd x5 (rd x1 x7))))).set ((rd x0 x7) : Int).toNat (mn (rd x5 x7) (mn (rd x5 (rd x0 x7)) (rd x5 (rd x1 x7))))).set ((rd x1 x7) : Int).toNat (mn (rd x5 x7) (mn (rd x5 (rd x0 x7)) (rd x5 (rd x1 x7))))) x6 (wrap64 (x7 + 1))) else (none)) else (none)) else (none)) else (none)) else (none)) else (none)) else (none)) else (spec_l1Orbits.l0 k x0 x1 x5 (wrap64 (x6 + 1)))
end
def spec_l1Orbits.f (k : Nat) (l0 : List Int) (l1 : List Int) : Option (List Int) := (spec_l1Same.f k (l0.length : Int)).bind fun t288 => (spec_l1Orbits.l0 k l0 l1 t288 0)
set_option maxHeartbeats 8000000 in
set_option maxRecDepth 100000 in
theorem spec_l1Orbits.calls (k : Nat) (A0 : Option Addr) (c0 : Nat) (l0 : List Int) (A1 : Option Addr) (c1 : Nat) (l1 : List Int) (r : List Int) (w : World) (hr0 : Kd.C (Kd.int .i64) w A0 l0.length l0) (hc0 : l0.length ≤ c0) (hr1 : Kd.C (Kd.int .i64) w A1 l1.length l1) (hc1 : l1.length ≤ c1) (h : spec_l1Orbits.f k l0 l1 = some r) :
  Calls Try.prog 99 #[.slice A0 l0.length c0, .slice A1 l1.length c1] w fun e w' => ∃ v0_ : Value, e = .returned (v0_) ∧ Kd.R (Kd.int .i64) 3 w' w.heap.size (fun _ => True) v0_ r ∧ Below w.heap.size w w' := by
 have HR0 := Az hr0; have HC0 := Az hc0; clear hr0 hc0; have HR1 := Az hr1; have HC1 := Az hc1; clear hr1 hc1; have HB := Az (Below.refl w.heap.size w); have H : ((spec_l1Same.f k (l0.length : Int)).bind fun t288 => (spec_l1Orbits.l0 k l0 l1 t288 0)) = some r := h; clear h; replace H := Option.bind_eq_some_iff.mp H; obtain ⟨t288, A30, H⟩ := H; replace H : (spec_l1Orbits.l0 k l0 l1 t288 0) = some r := H; have A3 := Az A30; clear A30; have H' := Az H; clear H
 go_enter Try.func99, Try.ntmps99
 go_wp2_with (first | (go_at_call 108; (with_reducible refine (spec_l1Same.calls k (l0.length : Int) t288 _ A3.out).mono ?_); rintro e w4 ⟨v289, rfl, ho0, hb⟩; have n0 := Az (Kd.R_lower ho0 (below_size (bU0 HB.out))); have n1 := Az (below_step (bU0 HB.out) hb); clear HB; have HO290 := n0; have HB := n1; clear n0 n1; (try clear hb); (try clear hb2); (try clear hk); (try clear hi); (try clear ho0)))
 repeat (go_quiet (fail); try go_wp2_with (fail))
 go_loopg [6] k (fun kq v6 w' => ∃ (x5_1 : List Int) (x6_1 : Int), v6 = .int .i64 x6_1 ∧ Aside0 (spec_l1Orbits.l0 kq l0 l1 x5_1 x6_1 = some r) ∧ Aside0 (kq ≤ k) ∧ Aside0 (Kd.R (Kd.int .i64) 3 w' w.heap.size (fun _ => True) v289 x5_1) ∧ Aside0 (Below w.heap.size w w'))
 case atStart => exact ⟨(t288), (0), rS, H', ⟨Nat.le_refl _⟩, ⟨rU HO290.out⟩, ⟨bU0 HB.out⟩⟩
 case round =>
  clear H'; (try clear c1); (try clear p2); obtain ⟨x5_1, x6_1, rfl, HA, HK1, HO_5, HB⟩ := hrel
  cases gk with
  | zero => exact absurd HA.out (by simp [spec_l1Orbits.l0])
  | succ k1 =>
   have H := HA.out; clear HA; simp only [spec_l1Orbits.l0] at H
   by_cases c5 : x6_1 < (l0.length : Int)
   ·
    rw [if_pos c5] at H; have c5b0 := decide_eq_true c5; clear c5; have H' := Az H; clear H
    go_wp2
    repeat (go_quiet (fail); try go_wp2)
    go_loopg [7] k1 (fun kq v7 w' => ∃ (x5_2 : List Int) (x7_2 : Int), v7 = .int .i64 x7_2 ∧ Aside0 (spec_l1Orbits.l1 kq l0 l1 x5_2 x6_1 x7_2 = some r) ∧ Aside0 (kq ≤ k1) ∧ Aside0 (Kd.R (Kd.int .i64) 3 w' w.heap.size (fun _ => True) v289 x5_2) ∧ Aside0 (Below w.heap.size w w'))
    case atStart => exact ⟨(x5_1), (0), rS, H', ⟨Nat.le_refl _⟩, ⟨rU HO_5.out⟩, ⟨bU0 HB.out⟩⟩
    case round =>
     clear H'; (try clear c1); (try clear p2); (try clear c5); (try clear c5b0); (try clear p2); obtain ⟨x5_2, x7_2, rfl, HA, HK2, HO_5, HB⟩ := hrel
     cases gk with
     | zero => exact absurd HA.out (by simp [spec_l1Orbits.l1])
     | succ k2 =>
      have H := HA.out; clear HA; simp only [spec_l1Orbits.l1] at H
      by_cases c6 : x7_2 < (l0.length : Int)
      ·
       rw [if_pos c6] at H; have c6b0 := decide_eq_true c6; clear c6
       by_cases c7 : 0 ≤ x7_2
       ·
        rw [if_pos c7] at H; have c7b0 := decide_eq_true c7; clear c7
        by_cases c8 : x7_2 < (x5_2.length : Int)
        ·
         rw [if_pos c8] at H; have c8b0 := decide_eq_true c8; clear c8
         by_cases c9 : 0 ≤ (rd l0 x7_2)
         ·
          rw [if_pos c9] at H; have c9b0 := decide_eq_true c9; clear c9
          by_cases c10 : (rd l0 x7_2) < (x5_2.length : Int)
          ·
           rw [if_pos c10] at H; have c10b0 := decide_eq_true c10; clear c10
           by_cases c11 : x7_2 < (l1.length : Int)
           ·
            rw [if_pos c11] at H; have c11b0 := decide_eq_true c11; clear c11
            by_cases c12 : 0 ≤ (rd l1 x7_2)
            ·
             rw [if_pos c12] at H; have c12b0 := decide_eq_true c12; clear c12
             by_cases c13 : (rd l1 x7_2) < (x5_2.length : Int)
             ·
              rw [if_pos c13] at H; have c13b0 := decide_eq_true c13; clear c13; obtain ⟨ji14, hji14⟩ : ∃ j_ : Int, (mn (rd x5_2 (rd l0 x7_2)) (rd x5_2 (rd l1 x7_2))) = j_ := ⟨_, rfl⟩
              replace H : (spec_l1Orbits.l1 k2 l0 l1 (((x5_2.set (x7_2 : Int).toNat (mn (rd x5_2 x7_2) (ji14))).set ((rd l0 x7_2) : Int).toNat (mn (rd x5_2 x7_2) (ji14))).set ((rd l1 x7_2) : Int).toNat (mn (rd x5_2 x7_2) (ji14))) x6_1 (wrap64 (x7_2 + 1))) = some r := by first | (rw [hji14] at H; exact H) | (simp only [hji14] at H ⊢; exact H)
              have hji14_ : (if (rd x5_2 (rd l1 x7_2)) < (rd x5_2 (rd l0 x7_2)) then (rd x5_2 (rd l1 x7_2)) else (rd x5_2 (rd l0 x7_2))) = ji14 := hji14; obtain ⟨ji15, hji15⟩ : ∃ j_ : Int, (mn (rd x5_2 x7_2) (ji14)) = j_ := ⟨_, rfl⟩
              replace H : (spec_l1Orbits.l1 k2 l0 l1 (((x5_2.set (x7_2 : Int).toNat (ji15)).set ((rd l0 x7_2) : Int).toNat (ji15)).set ((rd l1 x7_2) : Int).toNat (ji15)) x6_1 (wrap64 (x7_2 + 1))) = some r := by first | (rw [hji15] at H; exact H) | (simp only [hji15] at H ⊢; exact H)
              have hji15_ : (if (ji14) < (rd x5_2 x7_2) then (ji14) else (rd x5_2 x7_2)) = ji15 := hji15; obtain ⟨y296, hy296⟩ : ∃ y_ : List Int, y_ = (x5_2.set (x7_2 : Int).toNat (ji15)) := ⟨_, rfl⟩; replace H : (spec_l1Orbits.l1 k2 l0 l1 ((y296.set ((rd l0 x7_2) : Int).toNat (ji15)).set ((rd l1 x7_2) : Int).toNat (ji15)) x6_1 (wrap64 (x7_2 + 1))) = some r := hR hy296 H; have Ny296 := Az hy296; clear hy296; obtain ⟨y298, hy298⟩ : ∃ y_ : List Int, y_ = (y296.set ((rd l0 x7_2) : Int).toNat (ji15)) := ⟨_, rfl⟩; replace H : (spec_l1Orbits.l1 k2 l0 l1 (y298.set ((rd l1 x7_2) : Int).toNat (ji15)) x6_1 (wrap64 (x7_2 + 1))) = some r := hR hy298 H; have Ny298 := Az hy298; clear hy298; obtain ⟨y300, hy300⟩ : ∃ y_ : List Int, y_ = (y298.set ((rd l1 x7_2) : Int).toNat (ji15)) := ⟨_, rfl⟩; replace H : (spec_l1Orbits.l1 k2 l0 l1 y300 x6_1 (wrap64 (x7_2 + 1))) = some r := hR hy300 H; have Ny300 := Az hy300; clear hy300; have H' := Az H; clear H; obtain ⟨Ao19, co19, eo19⟩ := Kd.R_slice HO_5.out; subst eo19; have p291 : 0 ≤ (x7_2 : Int) := oA; have q291 : x7_2 < (x5_2.length : Int) := oA; obtain ⟨ad291, e291, hx291_0⟩ := Kd.at_int (Kd.R_reads' HO_5.out).2.2 x7_2 p291 q291
              cases e291
              replace p291 := eq_true p291; replace q291 := eq_true q291; have p292 : 0 ≤ (x7_2 : Int) := oA; have q292 : x7_2 < (l0.length : Int) := oA; obtain ⟨ad292, e292, hx292_0⟩ := Kd.at_int HR0.out x7_2 p292 q292
              cases e292
              (try replace hx292_0 := (HB.out.cell (World.block_lt_of_cell? w _ hx292_0)).trans hx292_0); replace p292 := eq_true p292; replace q292 := eq_true q292; have p293 : 0 ≤ ((rd l0 x7_2) : Int) := oA; have q293 : (rd l0 x7_2) < (x5_2.length : Int) := oA; obtain ⟨ad293, e293, hx293_0⟩ := Kd.at_int (Kd.R_reads' HO_5.out).2.2 (rd l0 x7_2) p293 q293; obtain rfl : ad291 = ad293 := (by injection e293); replace p293 := eq_true p293; replace q293 := eq_true q293; have p294 : 0 ≤ (x7_2 : Int) := oA; have q294 : x7_2 < (l1.length : Int) := oA; obtain ⟨ad294, e294, hx294_0⟩ := Kd.at_int HR1.out x7_2 p294 q294
              cases e294
              (try replace hx294_0 := (HB.out.cell (World.block_lt_of_cell? w _ hx294_0)).trans hx294_0); replace p294 := eq_true p294; replace q294 := eq_true q294; have p295 : 0 ≤ ((rd l1 x7_2) : Int) := oA; have q295 : (rd l1 x7_2) < (x5_2.length : Int) := oA; obtain ⟨ad295, e295, hx295_0⟩ := Kd.at_int (Kd.R_reads' HO_5.out).2.2 (rd l1 x7_2) p295 q295; obtain rfl : ad291 = ad295 := (by injection e295); replace p295 := eq_true p295; replace q295 := eq_true q295; have p16 : 0 ≤ (x7_2 : Int) := oA; have q16 : (x7_2 : Int) < ((x5_2.length : Int) : Int) := oA; obtain ⟨go16, co16, eo16, gb16, gl16, cl16, HG16⟩ := Kd.R_form HO_5.out (by omega); (first | cases eo16 | (injection eo16 with ea_ en_ ec_; (first | subst ea_ | (injection ea_ with ea_; subst ea_)); subst ec_; clear en_)); have GB16 := Az gb16; have GG16 := Az HG16; clear gb16 gl16 HG16; (first | simp only [add_plain] at hx291_0 | skip); (first | simp only [add_plain] at hx293_0 | skip); (first | simp only [add_plain] at hx295_0 | skip); obtain ⟨hx16_0, hf16_0⟩ := Kd.R_celln 0 HO_5.out (x7_2 : Int) p16 q16; replace p16 := eq_true p16; replace q16 := eq_true q16; obtain ⟨hy20_, hz20_⟩ := Kd.R_celln 0 HO_5.out (x7_2 : Int) (oA) (oA); have HP20 := Kd.R_putg HO_5.out (x7_2 : Int) ji15
              go_wp2_with (fail)
              repeat (go_quiet (fail); try go_wp2_with (first | ((with_reducible refine gate_store (t := 3) (p := 47) rfl ?_); (try (rw [drewN_self wr]; generalize hq_ : World.drewN wr _ = wr; have n0 := Az (Kd.R_at hq_ HO_5.out); have n1 := Az (below_at hq_ HB.out); clear hq_ HO_5 HB; have HO_5 := n0; have HB := n1; clear n0 n1; (try (obtain ⟨hy20_, hz20_⟩ := Kd.R_celln 0 HO_5.out (x7_2 : Int) (oA) (oA))); (try (have HP20 := Kd.R_putg HO_5.out (x7_2 : Int) ji15)))); refine store_event (t := 3) (p := 47) (v := ?vo_w21) (w1 := (wr.setCell ⟨go16, (x7_2 : Int).toNat, none⟩ (.int .i64 ji15))) ?hg ?ho ?hn ?hr ?_; (case ho => rfl); (case hg => rfl); (case hn => rfl); (case hr => first | (go_simp; done) | (go_simp; rfl)); intro w21 hw; have hg : wr.grownBy w21 (some go16) := (by rw [hw]; exact HP20.2); have hp_ : Kd.R (Kd.int .i64) 3 w21 w.heap.size (fun _ => True) (.slice (some ⟨go16, 0, none⟩) x5_2.length co19) y296 := (by rw [hw, Ny296.out]; exact HP20.1); clear HP20; have n0 := Az (hp_); have n1 := Az ((by rw [hw]; exact below_set (HB.out) GB16.out : Below w.heap.size w w21)); clear HO_5 HB; have HO_5 := n0; have HB := n1; clear n0 n1 hg hw hp_; have p297 : 0 ≤ (x7_2 : Int) := oA; have q297 : x7_2 < (l0.length : Int) := oA; obtain ⟨ad297, e297, hx297_0⟩ := Kd.at_int HR0.out x7_2 p297 q297; obtain rfl : ad292 = ad297 := (by injection e297); replace hx297_0 := (HB.out.cell (World.block_lt_of_cell? w _ hx297_0)).trans hx297_0; replace p297 := eq_true p297; replace q297 := eq_true q297; have p17 : 0 ≤ ((rd l0 x7_2) : Int) := oA; have q17 : ((rd l0 x7_2) : Int) < ((x5_2.length : Int) : Int) := oA; obtain ⟨hx17_0, hf17_0⟩ := Kd.R_celln 0 HO_5.out ((rd l0 x7_2) : Int) p17 q17; replace p17 := eq_true p17; replace q17 := eq_true q17; obtain ⟨hy22_, hz22_⟩ := Kd.R_celln 0 HO_5.out ((rd l0 x7_2) : Int) (oA) (oA); have HP22 := Kd.R_putg HO_5.out ((rd l0 x7_2) : Int) ji15) | ((with_reducible refine gate_store (t := 3) (p := 54) rfl ?_); (try (rw [drewN_self w21]; generalize hq_ : World.drewN w21 _ = w21; have n0 := Az (Kd.R_at hq_ HO_5.out); have n1 := Az (below_at hq_ HB.out); clear hq_ HO_5 HB; have HO_5 := n0; have HB := n1; clear n0 n1; (try (obtain ⟨hy22_, hz22_⟩ := Kd.R_celln 0 HO_5.out ((rd l0 x7_2) : Int) (oA) (oA))); (try (have HP22 := Kd.R_putg HO_5.out ((rd l0 x7_2) : Int) ji15)))); refine store_event (t := 3) (p := 54) (v := ?vo_w23) (w1 := (w21.setCell ⟨go16, ((rd l0 x7_2) : Int).toNat, none⟩ (.int .i64 ji15))) ?hg ?ho ?hn ?hr ?_; (case ho => rfl); (case hg => rfl); (case hn => rfl); (case hr => first | (go_simp; done) | (go_simp; rfl)); intro w23 hw; have hg : w21.grownBy w23 (some go16) := (by rw [hw]; exact HP22.2); have hp_ : Kd.R (Kd.int .i64) 3 w23 w.heap.size (fun _ => True) (.slice (some ⟨go16, 0, none⟩) x5_2.length co19) y298 := (by rw [hw, Ny298.out]; exact HP22.1); clear HP22; have n0 := Az (hp_); have n1 := Az ((by rw [hw]; exact below_set (HB.out) GB16.out : Below w.heap.size w w23)); clear HO_5 HB; have HO_5 := n0; have HB := n1; clear n0 n1 hg hw hp_; have p299 : 0 ≤ (x7_2 : Int) := oA; have q299 : x7_2 < (l1.length : Int) := oA; obtain ⟨ad299, e299, hx299_0⟩ := Kd.at_int HR1.out x7_2 p299 q299; obtain rfl : ad294 = ad299 := (by injection e299); replace hx299_0 := (HB.out.cell (World.block_lt_of_cell? w _ hx299_0)).trans hx299_0; replace p299 := eq_true p299; replace q299 := eq_true q299; have p18 : 0 ≤ ((rd l1 x7_2) : Int) := oA; have q18 : ((rd l1 x7_2) : Int) < ((x5_2.length : Int) : Int) := oA; obtain ⟨hx18_0, hf18_0⟩ := Kd.R_celln 0 HO_5.out ((rd l1 x7_2) : Int) p18 q18; replace p18 := eq_true p18; replace q18 := eq_true q18; obtain ⟨hy24_, hz24_⟩ := Kd.R_celln 0 HO_5.out ((rd l1 x7_2) : Int) (oA) (oA); have HP24 := Kd.R_putg HO_5.out ((rd l1 x7_2) : Int) ji15) | ((with_reducible refine gate_store (t := 3) (p := 61) rfl ?_); (try (rw [drewN_self w23]; generalize hq_ : World.drewN w23 _ = w23; have n0 := Az (Kd.R_at hq_ HO_5.out); have n1 := Az (below_at hq_ HB.out); clear hq_ HO_5 HB; have HO_5 := n0; have HB := n1; clear n0 n1; (try (obtain ⟨hy24_, hz24_⟩ := Kd.R_celln 0 HO_5.out ((rd l1 x7_2) : Int) (oA) (oA))); (try (have HP24 := Kd.R_putg HO_5.out ((rd l1 x7_2) : Int) ji15)))); refine store_event (t := 3) (p := 61) (v := ?vo_w25) (w1 := (w23.setCell ⟨go16, ((rd l1 x7_2) : Int).toNat, none⟩ (.int .i64 ji15))) ?hg ?ho ?hn ?hr ?_; (case ho => rfl); (case hg => rfl); (case hn => rfl); (case hr => first | (go_simp; done) | (go_simp; rfl)); intro w25 hw; have hg : w23.grownBy w25 (some go16) := (by rw [hw]; exact HP24.2); have hp_ : Kd.R (Kd.int .i64) 3 w25 w.heap.size (fun _ => True) (.slice (some ⟨go16, 0, none⟩) x5_2.length co19) y300 := (by rw [hw, Ny300.out]; exact HP24.1); clear HP24; have n0 := Az (hp_); have n1 := Az ((by rw [hw]; exact below_set (HB.out) GB16.out : Below w.heap.size w w25)); clear HO_5 HB; have HO_5 := n0; have HB := n1; clear n0 n1; clear hg hw hp_)))
              (first | go_roundg k2 | (refine Handed.intro k2 ?measure ?_; rotate_left; go_step; (try simp only [add_plain]); (repeat apply Exists.intro); refine ⟨?rel, rfl⟩))
              case measure => have := HK1.out; have := HK2.out; omega
              case rel => exact ⟨(y300), (wrap64 (x7_2 + 1)), rS, H', ⟨by have := HK1.out; have := HK2.out; omega⟩, ⟨rU HO_5.out⟩, ⟨bU0 HB.out⟩⟩
             ·
              rw [if_neg c13] at H
              exact absurd H (by simp)
            ·
             rw [if_neg c12] at H
             exact absurd H (by simp)
           ·
            rw [if_neg c11] at H
            exact absurd H (by simp)
          ·
           rw [if_neg c10] at H
           exact absurd H (by simp)
         ·
          rw [if_neg c9] at H
          exact absurd H (by simp)
        ·
         rw [if_neg c8] at H
         exact absurd H (by simp)
       ·
        rw [if_neg c7] at H
        exact absurd H (by simp)
      ·
       rw [if_neg c6] at H; have c6b0 := decide_eq_false c6; clear c6; have H' := Az H; clear H
       go_wp2
       repeat (go_quiet (fail); try go_wp2)
       (first | go_roundg k2 | (refine Handed.intro k2 ?measure ?_; rotate_left; go_step; (try simp only [add_plain]); (repeat apply Exists.intro); refine ⟨?rel, rfl⟩))
       case measure => have := HK1.out; have := HK2.out; omega
       case rel => exact ⟨(x5_2), (wrap64 (x6_1 + 1)), rS, H', ⟨by have := HK1.out; have := HK2.out; omega⟩, ⟨rU HO_5.out⟩, ⟨bU0 HB.out⟩⟩
   ·
    rw [if_neg c5] at H; have c5b0 := decide_eq_false c5; clear c5; obtain rfl := Option.some.inj H
    go_wp2
    repeat (go_quiet (fail); try go_wp2)
    go_ret
    exact ⟨_, rE, rU HO_5.out, bU0 HB.out⟩
mutual
def spec_MapValid.l0 : Nat → Int → List Int → List Int → Option (Bool)
 | 0, _, _, _ => none
 | k + 1, x3, xZ0, xZ1 => if x3 < (xZ1.length : Int) then (if 0 ≤ x3 then (if (rd xZ1 x3) = x3 then (some false) else (if 0 ≤ (rd xZ1 x3) then (if (rd xZ1 x3) < (xZ1.length : Int) then (if (rd xZ1 (rd xZ1 x3)) = x3 then (spec_MapValid.l0 k (wrap64 (x3 + 1)) xZ0 xZ1) else (some false)) else (none)) else (none))) else (none)) else ((spec_l1Orbits.f k xZ0 xZ1).bind fun t306 => (spec_MapValid.l1 k t306 0))
def spec_MapValid.l1 : Nat → List Int → Int → Option (Bool)
 | 0, _, _ => none
 | k + 1, x4, x5 => if x5 < (x4.length : Int) then (if 0 ≤ x5 then (if (rd x4 x5) = 0 then (spec_MapValid.l1 k x4 (wrap64 (x5 + 1))) else (some false)) else (none)) else (some true)
end
def spec_MapValid.f (k : Nat) (l0_0 : List Int) (l0_1 : List Int) : Option (Bool) := (spec_l1Both.f k l0_0 l0_1).bind fun t302 => (if t302 = true then (spec_MapValid.l0 k 0 l0_0 l0_1) else (some false))
set_option maxHeartbeats 8000000 in
set_option maxRecDepth 100000 in
theorem spec_MapValid.calls (k : Nat) (A0_0 : Option Addr) (c0_0 : Nat) (l0_0 : List Int) (A0_1 : Option Addr) (c0_1 : Nat) (l0_1 : List Int) (r : Bool) (w : World) (hr0_0 : Kd.C (Kd.int .i64) w A0_0 l0_0.length l0_0) (hc0_0 : l0_0.length ≤ c0_0) (hr0_1 : Kd.C (Kd.int .i64) w A0_1 l0_1.length l0_1) (hc0_1 : l0_1.length ≤ c0_1) (h : spec_MapValid.f k l0_0 l0_1 = some r) :
  Calls Try.prog 61 #[.agg #[.slice A0_0 l0_0.length c0_0, .slice A0_1 l0_1.length c0_1]] w fun e w' => e = .returned (.bool r) ∧ Below w.heap.size w w' := by
 have hu25 := Try.underlying25; have HR0_0 := Az hr0_0; have HC0_0 := Az hc0_0; clear hr0_0 hc0_0; have HR0_1 := Az hr0_1; have HC0_1 := Az hc0_1; clear hr0_1 hc0_1; have HB := Az (Below.refl w.heap.size w); have H : ((spec_l1Both.f k l0_0 l0_1).bind fun t302 => (if t302 = true then (spec_MapValid.l0 k 0 l0_0 l0_1) else (some false))) = some r := h; clear h; replace H := Option.bind_eq_some_iff.mp H; obtain ⟨t302, A20, H⟩ := H; replace H : (if t302 = true then (spec_MapValid.l0 k 0 l0_0 l0_1) else (some false)) = some r := H; have A2 := Az A20; clear A20
 by_cases c3 : t302 = true
 ·
  subst c3
  have H1 : (spec_MapValid.l0 k 0 l0_0 l0_1) = some r := by rw [if_pos rfl] at H; exact H
  clear H; have H := H1; clear H1; have H' := Az H; clear H
  go_enter Try.func61, Try.ntmps61
  go_wp2_with (first | ((with_reducible refine gate_dst (N := 1) rfl ?_); refine box_event ?hg (N := 1) ?hd (cs := #[.slice A0_0 l0_0.length c0_0, .slice A0_1 l0_1.length c0_1]) (t := 25) ?hr ?_; (case hd => rfl); (case hg => rfl); (case hr => first | (go_simp; done) | (go_simp; rfl)); intro gb301 hg w4 hbox hb; have n0 := Az (below_step (bU0 HB.out) hb); have n1 := Az (hbox); have n2 := Az ((by rw [hg]; exact (below_size (bU0 HB.out)) : w.heap.size ≤ gb301)); have n3 := n2; clear HB; have HB := n0; have BK301 := n1; have GW301 := n2; have GE301 := n3; clear n0 n1 n2 n3 hb hbox hg; have hcz5_0 : w4.cell? ⟨gb301, 0, none⟩ = some (.slice A0_0 l0_0.length c0_0) := (blk_cell BK301.out 0).trans rfl; have hcz5_1 : w4.cell? ⟨gb301, 1, none⟩ = some (.slice A0_1 l0_1.length c0_1) := (blk_cell BK301.out 1).trans rfl; have hfz5_0 := blk_frozen BK301.out 0; have hfz5_1 := blk_frozen BK301.out 1) | (go_at_call 98; (with_reducible refine (spec_l1Both.calls k _ _ l0_0 _ _ l0_1 true _ ?side1 ?side2 ?side3 ?side4 A2.out).mono ?_); (case side1 => exact cU (Kd.C_below HR0_0.out HB.out)); (case side2 => exact HC0_0.out); (case side3 => exact cU (Kd.C_below HR0_1.out HB.out)); (case side4 => exact HC0_1.out); rintro e w' ⟨rfl, ⟨nd, rfl⟩⟩; (try first | exact ⟨rfl, _, World.drewN_drewN _ _ _⟩ | exact ⟨rfl, _, Eq.trans (World.drewN_drewN _ _ _) (congrArg (World.drewN _) (Nat.add_assoc _ _ _))⟩)))
  repeat (go_quiet (fail); try go_wp2_with (fail))
  go_loopg [3] k (fun kq v3 w' => ∃ (x3_1 : Int), v3 = .int .i64 x3_1 ∧ Aside0 (spec_MapValid.l0 kq x3_1 l0_0 l0_1 = some r) ∧ Aside0 (kq ≤ k) ∧ Aside0 (w'.heap[gb301]? = some (.cells #[(.slice A0_0 l0_0.length c0_0), (.slice A0_1 l0_1.length c0_1)] 25 (0, 0))) ∧ Aside0 (Below w.heap.size w w'))
  case atStart => exact ⟨(0), rS, H', ⟨Nat.le_refl _⟩, ⟨kU BK301.out⟩, ⟨bU1 HB.out GE301.out⟩⟩
  case round =>
   clear H'; (try clear p2); (try clear c3); (try clear hcz5_0); (try clear hcz5_1); (try clear hfz5_0); (try clear hfz5_1); obtain ⟨x3_1, rfl, HA, HK1, BK301, HB⟩ := hrel
   cases gk with
   | zero => exact absurd HA.out (by simp [spec_MapValid.l0])
   | succ k1 =>
    have H := HA.out; clear HA; simp only [spec_MapValid.l0] at H
    by_cases c6 : x3_1 < (l0_1.length : Int)
    ·
     rw [if_pos c6] at H; have c6b0 := decide_eq_true c6; clear c6
     by_cases c7 : 0 ≤ x3_1
     ·
      rw [if_pos c7] at H; have c7b0 := decide_eq_true c7; clear c7
      by_cases c8 : (rd l0_1 x3_1) = x3_1
      ·
       rw [if_pos c8] at H; have c8b0 := beq_iff_eq.mpr c8; have c8b1 := bne_eq_false_iff_eq.mpr c8; clear c8; obtain rfl := Option.some.inj H; have hcz9_0 : wr.cell? ⟨gb301, 0, none⟩ = some (.slice A0_0 l0_0.length c0_0) := (blk_cell BK301.out 0).trans rfl; have hcz9_1 : wr.cell? ⟨gb301, 1, none⟩ = some (.slice A0_1 l0_1.length c0_1) := (blk_cell BK301.out 1).trans rfl; have hfz9_0 := blk_frozen BK301.out 0; have hfz9_1 := blk_frozen BK301.out 1; have p303 : 0 ≤ (x3_1 : Int) := oA; have q303 : x3_1 < (l0_1.length : Int) := oA; obtain ⟨ad303, e303, hx303_0⟩ := Kd.at_int HR0_1.out x3_1 p303 q303
       cases e303
       (try replace hx303_0 := (HB.out.cell (World.block_lt_of_cell? w _ hx303_0)).trans hx303_0); replace p303 := eq_true p303; replace q303 := eq_true q303
       go_wp2
       repeat (go_quiet (fail); try go_wp2)
       go_ret
       exact ⟨rE, bU1 HB.out GE301.out⟩
      ·
       rw [if_neg c8] at H; have c8b0 := beq_eq_false_iff_ne.mpr c8; have c8b1 := bne_iff_ne.mpr c8
       by_cases c10 : 0 ≤ (rd l0_1 x3_1)
       ·
        rw [if_pos c10] at H; have c10b0 := decide_eq_true c10; clear c10
        by_cases c11 : (rd l0_1 x3_1) < (l0_1.length : Int)
        ·
         rw [if_pos c11] at H; have c11b0 := decide_eq_true c11; clear c11
         by_cases c12 : (rd l0_1 (rd l0_1 x3_1)) = x3_1
         ·
          rw [if_pos c12] at H; have c12b0 := beq_iff_eq.mpr c12; have c12b1 := bne_eq_false_iff_eq.mpr c12; clear c12; have H' := Az H; clear H; have hcz13_0 : wr.cell? ⟨gb301, 0, none⟩ = some (.slice A0_0 l0_0.length c0_0) := (blk_cell BK301.out 0).trans rfl; have hcz13_1 : wr.cell? ⟨gb301, 1, none⟩ = some (.slice A0_1 l0_1.length c0_1) := (blk_cell BK301.out 1).trans rfl; have hfz13_0 := blk_frozen BK301.out 0; have hfz13_1 := blk_frozen BK301.out 1; have p303 : 0 ≤ (x3_1 : Int) := oA; have q303 : x3_1 < (l0_1.length : Int) := oA; obtain ⟨ad303, e303, hx303_0⟩ := Kd.at_int HR0_1.out x3_1 p303 q303
          cases e303
          (try replace hx303_0 := (HB.out.cell (World.block_lt_of_cell? w _ hx303_0)).trans hx303_0); replace p303 := eq_true p303; replace q303 := eq_true q303; have p304 : 0 ≤ (x3_1 : Int) := oA; have q304 : x3_1 < (l0_1.length : Int) := oA; obtain ⟨ad304, e304, hx304_0⟩ := Kd.at_int HR0_1.out x3_1 p304 q304; obtain rfl : ad303 = ad304 := (by injection e304); (try replace hx304_0 := (HB.out.cell (World.block_lt_of_cell? w _ hx304_0)).trans hx304_0); replace p304 := eq_true p304; replace q304 := eq_true q304; have p305 : 0 ≤ ((rd l0_1 x3_1) : Int) := oA; have q305 : (rd l0_1 x3_1) < (l0_1.length : Int) := oA; obtain ⟨ad305, e305, hx305_0⟩ := Kd.at_int HR0_1.out (rd l0_1 x3_1) p305 q305; obtain rfl : ad303 = ad305 := (by injection e305); (try replace hx305_0 := (HB.out.cell (World.block_lt_of_cell? w _ hx305_0)).trans hx305_0); replace p305 := eq_true p305; replace q305 := eq_true q305
          go_wp2
          repeat (go_quiet (fail); try go_wp2)
          (first | go_roundg k1 | (refine Handed.intro k1 ?measure ?_; rotate_left; go_step; (try simp only [add_plain]); (repeat apply Exists.intro); refine ⟨?rel, rfl⟩))
          case measure => have := HK1.out; omega
          case rel => exact ⟨(wrap64 (x3_1 + 1)), rS, H', ⟨by have := HK1.out; omega⟩, ⟨kU BK301.out⟩, ⟨bU1 HB.out GE301.out⟩⟩
         ·
          rw [if_neg c12] at H; have c12b0 := beq_eq_false_iff_ne.mpr c12; have c12b1 := bne_iff_ne.mpr c12; obtain rfl := Option.some.inj H; have hcz14_0 : wr.cell? ⟨gb301, 0, none⟩ = some (.slice A0_0 l0_0.length c0_0) := (blk_cell BK301.out 0).trans rfl; have hcz14_1 : wr.cell? ⟨gb301, 1, none⟩ = some (.slice A0_1 l0_1.length c0_1) := (blk_cell BK301.out 1).trans rfl; have hfz14_0 := blk_frozen BK301.out 0; have hfz14_1 := blk_frozen BK301.out 1; have p303 : 0 ≤ (x3_1 : Int) := oA; have q303 : x3_1 < (l0_1.length : Int) := oA; obtain ⟨ad303, e303, hx303_0⟩ := Kd.at_int HR0_1.out x3_1 p303 q303
          cases e303
          (try replace hx303_0 := (HB.out.cell (World.block_lt_of_cell? w _ hx303_0)).trans hx303_0); replace p303 := eq_true p303; replace q303 := eq_true q303; have p304 : 0 ≤ (x3_1 : Int) := oA; have q304 : x3_1 < (l0_1.length : Int) := oA; obtain ⟨ad304, e304, hx304_0⟩ := Kd.at_int HR0_1.out x3_1 p304 q304; obtain rfl : ad303 = ad304 := (by injection e304); (try replace hx304_0 := (HB.out.cell (World.block_lt_of_cell? w _ hx304_0)).trans hx304_0); replace p304 := eq_true p304; replace q304 := eq_true q304; have p305 : 0 ≤ ((rd l0_1 x3_1) : Int) := oA; have q305 : (rd l0_1 x3_1) < (l0_1.length : Int) := oA; obtain ⟨ad305, e305, hx305_0⟩ := Kd.at_int HR0_1.out (rd l0_1 x3_1) p305 q305; obtain rfl : ad303 = ad305 := (by injection e305); (try replace hx305_0 := (HB.out.cell (World.block_lt_of_cell? w _ hx305_0)).trans hx305_0); replace p305 := eq_true p305; replace q305 := eq_true q305
          go_wp2
          repeat (go_quiet (fail); try go_wp2)
          go_ret
          exact ⟨rE, bU1 HB.out GE301.out⟩
        ·
         rw [if_neg c11] at H
         exact absurd H (by simp)
       ·
        rw [if_neg c10] at H
        exact absurd H (by simp)
     ·
      rw [if_neg c7] at H
      exact absurd H (by simp)
    ·
     rw [if_neg c6] at H; have c6b0 := decide_eq_false c6; clear c6; replace H := Option.bind_eq_some_iff.mp H; obtain ⟨t306, A150, H⟩ := H; replace H : (spec_MapValid.l1 k1 t306 0) = some r := H; have A15 := Az A150; clear A150; have H' := Az H; clear H; have hcz16_0 : wr.cell? ⟨gb301, 0, none⟩ = some (.slice A0_0 l0_0.length c0_0) := (blk_cell BK301.out 0).trans rfl; have hcz16_1 : wr.cell? ⟨gb301, 1, none⟩ = some (.slice A0_1 l0_1.length c0_1) := (blk_cell BK301.out 1).trans rfl; have hfz16_0 := blk_frozen BK301.out 0; have hfz16_1 := blk_frozen BK301.out 1
     go_wp2_with (first | (go_at_call 99; (with_reducible refine (spec_l1Orbits.calls k1 _ _ l0_0 _ _ l0_1 t306 _ ?side1 ?side2 ?side3 ?side4 A15.out).mono ?_); (case side1 => exact cU (Kd.C_below HR0_0.out HB.out)); (case side2 => exact HC0_0.out); (case side3 => exact cU (Kd.C_below HR0_1.out HB.out)); (case side4 => exact HC0_1.out); rintro e w17 ⟨v307, rfl, ho0, hb⟩; have n0 := Az (Kd.R_lower ho0 (below_size (bU1 HB.out GE301.out))); have n1 := Az (blk_below (g := gb301) (o := .cells #[.slice A0_0 l0_0.length c0_0, .slice A0_1 l0_1.length c0_1] 25 (0, 0)) (kU BK301.out) hb); have n2 := Az (below_step (bU1 HB.out GE301.out) hb); clear BK301 HB; have HO308 := n0; have BK301 := n1; have HB := n2; clear n0 n1 n2; (try clear hb); (try clear hb2); (try clear hk); (try clear hi); (try clear ho0)))
     repeat (go_quiet (fail); try go_wp2_with (fail))
     go_loopg [5] k1 (fun kq v5 w' => ∃ (x5_2 : Int), v5 = .int .i64 x5_2 ∧ Aside0 (spec_MapValid.l1 kq t306 x5_2 = some r) ∧ Aside0 (kq ≤ k1) ∧ Aside0 (Kd.R (Kd.int .i64) 3 w' w.heap.size (fun _ => True) v307 t306) ∧ Aside0 (w'.heap[gb301]? = some (.cells #[(.slice A0_0 l0_0.length c0_0), (.slice A0_1 l0_1.length c0_1)] 25 (0, 0))) ∧ Aside0 (Below w.heap.size w w'))
     case atStart => exact ⟨(0), rS, H', ⟨Nat.le_refl _⟩, ⟨rU HO308.out⟩, ⟨kU BK301.out⟩, ⟨bU1 HB.out GE301.out⟩⟩
     case round =>
      clear H'; (try clear c1); (try clear p2); (try clear c3); (try clear p3); (try clear q3); (try clear hx3); (try clear c6); (try clear c6b0); (try clear p6); (try clear c7); (try clear c7b0); (try clear c8); (try clear c8b0); (try clear c8b1); (try clear c10); (try clear c10b0); (try clear c11); (try clear c11b0); (try clear c12); (try clear c12b0); (try clear c12b1); (try clear hcz13_0); (try clear hcz13_1); (try clear hcz14_0); (try clear hcz14_1); (try clear hcz16_0); (try clear hcz16_1); (try clear hcz5_0); (try clear hcz5_1); (try clear hcz9_0); (try clear hcz9_1); (try clear hfz13_0); (try clear hfz13_1); (try clear hfz14_0); (try clear hfz14_1); (try clear hfz16_0); (try clear hfz16_1); (try clear hfz5_0); (try clear hfz5_1); (try clear hfz9_0); (try clear hfz9_1); (try clear hx303_0); (try clear hx304_0); (try clear hx305_0); (try clear p2); (try clear p303); (try clear p304); (try clear p305); (try clear q303); (try clear q304); (try clear q305); obtain ⟨x5_2, rfl, HA, HK2, HO_4, BK301, HB⟩ := hrel
      cases gk with
      | zero => exact absurd HA.out (by simp [spec_MapValid.l1])
      | succ k2 =>
       have H := HA.out; clear HA; simp only [spec_MapValid.l1] at H
       by_cases c18 : x5_2 < (t306.length : Int)
       ·
        rw [if_pos c18] at H; have c18b0 := decide_eq_true c18; clear c18
        by_cases c19 : 0 ≤ x5_2
        ·
         rw [if_pos c19] at H; have c19b0 := decide_eq_true c19; clear c19
         by_cases c20 : (rd t306 x5_2) = 0
         ·
          rw [if_pos c20] at H; have c20b0 := beq_iff_eq.mpr c20; have c20b1 := bne_eq_false_iff_eq.mpr c20; clear c20; have H' := Az H; clear H; obtain ⟨Ao21, co21, eo21⟩ := Kd.R_slice HO_4.out; subst eo21; have p309 : 0 ≤ (x5_2 : Int) := oA; have q309 : x5_2 < (t306.length : Int) := oA; obtain ⟨ad309, e309, hx309_0⟩ := Kd.at_int (Kd.R_reads' HO_4.out).2.2 x5_2 p309 q309
          cases e309
          replace p309 := eq_true p309; replace q309 := eq_true q309
          go_wp2
          repeat (go_quiet (fail); try go_wp2)
          (first | go_roundg k2 | (refine Handed.intro k2 ?measure ?_; rotate_left; go_step; (try simp only [add_plain]); (repeat apply Exists.intro); refine ⟨?rel, rfl⟩))
          case measure => have := HK1.out; have := HK2.out; omega
          case rel => exact ⟨(wrap64 (x5_2 + 1)), rS, H', ⟨by have := HK1.out; have := HK2.out; omega⟩, ⟨rU HO_4.out⟩, ⟨kU BK301.out⟩, ⟨bU1 HB.out GE301.out⟩⟩
         ·
          rw [if_neg c20] at H; have c20b0 := beq_eq_false_iff_ne.mpr c20; have c20b1 := bne_iff_ne.mpr c20; obtain rfl := Option.some.inj H; obtain ⟨Ao22, co22, eo22⟩ := Kd.R_slice HO_4.out; subst eo22; have p309 : 0 ≤ (x5_2 : Int) := oA; have q309 : x5_2 < (t306.length : Int) := oA; obtain ⟨ad309, e309, hx309_0⟩ := Kd.at_int (Kd.R_reads' HO_4.out).2.2 x5_2 p309 q309
          cases e309
          replace p309 := eq_true p309; replace q309 := eq_true q309
          go_wp2
          repeat (go_quiet (fail); try go_wp2)
          go_ret
          exact ⟨rE, bU1 HB.out GE301.out⟩
        ·
         rw [if_neg c19] at H
         exact absurd H (by simp)
       ·
        rw [if_neg c18] at H; have c18b0 := decide_eq_false c18; clear c18; obtain rfl := Option.some.inj H; obtain ⟨Ao23, co23, eo23⟩ := Kd.R_slice HO_4.out; subst eo23
        go_wp2
        repeat (go_quiet (fail); try go_wp2)
        go_ret
        exact ⟨rE, bU1 HB.out GE301.out⟩
 ·
  replace c3 := Bool.eq_false_iff.mpr c3; subst c3
  have H1 : (some false) = some r := by rw [if_neg (show ¬ (false = true) by decide)] at H; exact H
  clear H; have H := H1; clear H1; obtain rfl := Option.some.inj H
  go_enter Try.func61, Try.ntmps61
  go_wp2_with (first | ((with_reducible refine gate_dst (N := 1) rfl ?_); refine box_event ?hg (N := 1) ?hd (cs := #[.slice A0_0 l0_0.length c0_0, .slice A0_1 l0_1.length c0_1]) (t := 25) ?hr ?_; (case hd => rfl); (case hg => rfl); (case hr => first | (go_simp; done) | (go_simp; rfl)); intro gb301 hg w24 hbox hb; have n0 := Az (below_step (bU0 HB.out) hb); have n1 := Az (hbox); have n2 := Az ((by rw [hg]; exact (below_size (bU0 HB.out)) : w.heap.size ≤ gb301)); have n3 := n2; clear HB; have HB := n0; have BK301 := n1; have GW301 := n2; have GE301 := n3; clear n0 n1 n2 n3 hb hbox hg; have hcz25_0 : w24.cell? ⟨gb301, 0, none⟩ = some (.slice A0_0 l0_0.length c0_0) := (blk_cell BK301.out 0).trans rfl; have hcz25_1 : w24.cell? ⟨gb301, 1, none⟩ = some (.slice A0_1 l0_1.length c0_1) := (blk_cell BK301.out 1).trans rfl; have hfz25_0 := blk_frozen BK301.out 0; have hfz25_1 := blk_frozen BK301.out 1) | (go_at_call 98; (with_reducible refine (spec_l1Both.calls k _ _ l0_0 _ _ l0_1 false _ ?side1 ?side2 ?side3 ?side4 A2.out).mono ?_); (case side1 => exact cU (Kd.C_below HR0_0.out HB.out)); (case side2 => exact HC0_0.out); (case side3 => exact cU (Kd.C_below HR0_1.out HB.out)); (case side4 => exact HC0_1.out); rintro e w' ⟨rfl, ⟨nd, rfl⟩⟩; (try first | exact ⟨rfl, _, World.drewN_drewN _ _ _⟩ | exact ⟨rfl, _, Eq.trans (World.drewN_drewN _ _ _) (congrArg (World.drewN _) (Nat.add_assoc _ _ _))⟩)))
  repeat (go_quiet (fail); try go_wp2_with (fail))
  go_ret
  exact ⟨rE, bU1 HB.out GE301.out⟩
def IsS73 (w0 W : World) (g : Nat) (f0 : List Int) (f1 : Int) : Prop := ∃ A0 c0, W.heap[g]? = some (.cells #[.slice A0 f0.length c0, .int .i64 f1] 73 (0, 0)) ∧ w0.heap.size ≤ g ∧ Kd.C (Kd.int .u8) w0 A0 f0.length f0
theorem IsS73.grown {w0 W : World} {g : Nat} {f0 : List Int} {f1 : Int} {W1 : World} {row : Option Nat} (h : IsS73 w0 W g f0 f1) (hw : W.grownBy W1 row) (hne : some g ≠ row) : IsS73 w0 W1 g f0 f1 := by
 obtain ⟨A0, c0, hb, hg, hr0⟩ := h
 exact ⟨A0, c0, blk_grown hb hw hne, hg, hr0⟩
theorem IsS73.fresh {w0 W : World} {g : Nat} {f0 : List Int} {f1 : Int} (h : IsS73 w0 W g f0 f1) : ∀ k, W.heap.size ≤ k → k ≠ g := by
 obtain ⟨A0, c0, hb, hg, hr0⟩ := h
 exact Kd.freshB hb
theorem IsS73.kept {w0 W : World} {g : Nat} {f0 : List Int} {f1 : Int} {W1 : World} {S : Nat → Prop} (h : IsS73 w0 W g f0 f1) (hk : Kept W W1 S) (hne : ¬ S g) : IsS73 w0 W1 g f0 f1 := by
 obtain ⟨A0, c0, hb, hg, hr0⟩ := h
 exact ⟨A0, c0, blk_kept hb hk hne, hg, hr0⟩
theorem IsS73.below {w0 W : World} {g : Nat} {f0 : List Int} {f1 : Int} {W1 : World} (h : IsS73 w0 W g f0 f1) (hw : Below W.heap.size W W1) : IsS73 w0 W1 g f0 f1 := h.grown (grown_of_below hw none) (by simp)
theorem IsS73.alloc {w0 W : World} {g : Nat} {f0 : List Int} {f1 : Int} (h : IsS73 w0 W g f0 f1) (o : Obj) : IsS73 w0 (W.alloc o) g f0 f1 := h.below (below_alloc (Below.refl _ _) o)
theorem IsS73.drewN {w0 W : World} {g : Nat} {f0 : List Int} {f1 : Int} (h : IsS73 w0 W g f0 f1) (m : Nat) : IsS73 w0 (W.drewN m) g f0 f1 := h
theorem IsS73.drew {w0 W : World} {g : Nat} {f0 : List Int} {f1 : Int} (h : IsS73 w0 W g f0 f1) : IsS73 w0 W.drew g f0 f1 := h
theorem IsS73.at_ {w0 W : World} {g : Nat} {f0 : List Int} {f1 : Int} {w' : World} {m : Nat} (hq : W.drewN m = w') (h : IsS73 w0 W g f0 f1) : IsS73 w0 w' g f0 f1 := by subst hq; exact IsS73.drewN h m
theorem IsS73.apart {w0 W : World} {g : Nat} {f0 : List Int} {f1 : Int} {α : Type} {d : Kd α} {e : Nat} {base : Nat} {ok : Nat → Prop} {v : Value} {xs : List α} (h : IsS73 w0 W g f0 f1) (ho : d.R e W base ok v xs) (ht : ∀ q, q ∈ e :: d.E → q ≠ 73) : d.R e W base (fun k => ok k ∧ k ≠ g) v xs := by
 obtain ⟨A0, c0, hb, hg, hr0⟩ := h
 exact Kd.R_types ho hb ht
theorem IsS73.own_ne {w0 W : World} {g : Nat} {f0 : List Int} {f1 : Int} {α : Type} {d : Kd α} {e : Nat} {base : Nat} {ok : Nat → Prop} {v : Value} {xs : List α} (h : IsS73 w0 W g f0 f1) (ho : d.R e W base ok v xs) (ht : e ≠ 73) : some g ≠ v.ownBlock := by
 obtain ⟨A0, c0, hb, hg, hr0⟩ := h
 exact Kd.R_ne ho hb ht
theorem IsS73.apartQ {w0 W : World} {g : Nat} {f0 : List Int} {f1 : Int} {α : Type} {d : Kd α} {e : Nat} {base : Nat} {ok : Nat → Prop} {v : Value} {xs : List α} (h : IsS73 w0 W g f0 f1) (ho : d.Q e W base ok v xs) (ht : ∀ q, q ∈ e :: d.E → q ≠ 73) : d.Q e W base (fun k => ok k ∧ k ≠ g) v xs := by
 obtain ⟨A0, c0, hb, hg, hr0⟩ := h
 exact Kd.Q_types ho hb ht
theorem IsS73.own_neQ {w0 W : World} {g : Nat} {f0 : List Int} {f1 : Int} {α : Type} {d : Kd α} {e : Nat} {base : Nat} {ok : Nat → Prop} {v : Value} {xs : List α} (h : IsS73 w0 W g f0 f1) (ho : d.Q e W base ok v xs) (ht : e ≠ 73) : some g ≠ v.ownBlock := by
 obtain ⟨A0, c0, hb, hg, hr0⟩ := h
 exact Kd.Q_ne ho hb ht
theorem IsS73.lt {w0 W : World} {g : Nat} {f0 : List Int} {f1 : Int} (h : IsS73 w0 W g f0 f1) : g < W.heap.size := by
 obtain ⟨A0, c0, hb, hg, hr0⟩ := h
 exact blk_lt hb
theorem IsS73.ge {w0 W : World} {g : Nat} {f0 : List Int} {f1 : Int} (h : IsS73 w0 W g f0 f1) : w0.heap.size ≤ g := by
 obtain ⟨A0, c0, hb, hg, hr0⟩ := h
 exact hg
theorem IsS73.ne_blk {w0 W : World} {g : Nat} {f0 : List Int} {f1 : Int} {a : Nat} {cs : Array Value} {t : TypeId} {fr : Nat × Nat} (h : IsS73 w0 W g f0 f1) (hb2 : W.heap[a]? = some (.cells cs t fr)) (ht : t ≠ 73) : g ≠ a := by
 obtain ⟨A0, c0, hb, hg, hr0⟩ := h
 rintro rfl
 rw [hb] at hb2; injection hb2 with hb2; injection hb2 with _ ht2
 exact ht ht2.symm
theorem IsS73.far {w0 W : World} {g : Nat} {f0 : List Int} {f1 : Int} {p : Addr} (h : IsS73 w0 W g f0 f1) (hne : g ≠ p.block) (u : Value) : IsS73 w0 (W.setCell p u) g f0 f1 := by
 obtain ⟨A0, c0, hb, hg, hr0⟩ := h
 exact ⟨A0, c0, blk_far hb hne u, hg, hr0⟩
theorem cellS73_0 {W : World} {g : Nat} {A0 : Option Addr} {c0 : Nat} {f0 : List Int} {f1 : Int} (h : W.heap[g]? = some (.cells #[.slice A0 f0.length c0, .int .i64 f1] 73 (0, 0))) : W.cell? ⟨g, 0, none⟩ = some (.slice A0 f0.length c0) := (blk_cell h 0).trans rfl
theorem cellS73_1 {W : World} {g : Nat} {A0 : Option Addr} {c0 : Nat} {f0 : List Int} {f1 : Int} (h : W.heap[g]? = some (.cells #[.slice A0 f0.length c0, .int .i64 f1] 73 (0, 0))) : W.cell? ⟨g, 1, none⟩ = some (.int .i64 f1) := (blk_cell h 1).trans rfl
theorem IsS73.set_1 {w0 W : World} {g : Nat} {f0 : List Int} {f1 : Int} (h : IsS73 w0 W g f0 f1) (x : Int) : IsS73 w0 (W.setCell ⟨g, 1, none⟩ (.int .i64 x)) g f0 x := by
 obtain ⟨A0, c0, hb, hg, hr0⟩ := h
 exact ⟨A0, c0, by simpa using blk_set hb 1 (.int .i64 x), hg, hr0⟩
def spec_l6Rd_pick.j0 : Nat → Int → Bool → List Int → Int → Option (Int × Int)
 | 0, _, _, _, _ => none
 | k + 1, x1, x24, x1000, x1001 => if x24 = true then (some (0, x1001)) else (if (wrap64 (x1001 - 1)) < (x1000.length : Int) then (if 0 ≤ (wrap64 (x1001 - 1)) then (if x1 = 0 then (none) else (some (Int.tmod (wrap64 (rd x1000 (wrap64 (x1001 - 1)))) x1, x1001))) else (none)) else (if (x1000.length : Int) = 0 then (none) else (if 0 ≤ (Int.tmod (wrap64 (x1001 - 1)) (x1000.length : Int)) then (if (Int.tmod (wrap64 (x1001 - 1)) (x1000.length : Int)) < (x1000.length : Int) then (if 0 ≤ (Int.tmod (wrap64 ((wrap64 ((wrap64 (x1001 - 1)) * 7)) + 3)) (x1000.length : Int)) then (if (Int.tmod (wrap64 ((wrap64 ((wrap64 (x1001 - 1)) * 7)) + 3)) (x1000.length : Int)) < (x1000.length : Int) then (if x1 = 0 then (none) else (some (Int.tmod (Go.bits .xor .i64 (wrap64 ((wrap64 ((wrap64 ((wrap64 ((wrap64 (rd x1000 (Int.tmod (wrap64 (x1001 - 1)) (x1000.length : Int)))) * 131)) + (wrap64 ((wrap64 (rd x1000 (Int.tmod (wrap64 ((wrap64 ((wrap64 (x1001 - 1)) * 7)) + 3)) (x1000.length : Int)))) * 1117)))) + (wrap64 ((wrap64 (x1001 - 1)) * 29)))) + (wrap64 ((wrap64 (Int.tdiv (wrap64 (x1001 - 1)) (x1000.length : Int))) * 53)))) (wrap64 (Int.tdiv (wrap64 ((wrap64 ((wrap64 ((wrap64 ((wrap64 (rd x1000 (Int.tmod (wrap64 (x1001 - 1)) (x1000.length : Int)))) * 131)) + (wrap64 ((wrap64 (rd x1000 (Int.tmod (wrap64 ((wrap64 ((wrap64 (x1001 - 1)) * 7)) + 3)) (x1000.length : Int)))) * 1117)))) + (wrap64 ((wrap64 (x1001 - 1)) * 29)))) + (wrap64 ((wrap64 (Int.tdiv (wrap64 (x1001 - 1)) (x1000.length : Int))) * 53)))) 64))) x1, x1001))) else (none)) else (none)) else (none)) else (none))))
def spec_l6Rd_pick.f (k : Nat) (s0_0 : List Int) (s0_1 : Int) (a1 : Int) : Option (Int × Int) := if a1 < 1 then (spec_l6Rd_pick.j0 k a1 true s0_0 (wrap64 (s0_1 + 1))) else (spec_l6Rd_pick.j0 k a1 ((s0_0.length : Int) == 0) s0_0 (wrap64 (s0_1 + 1)))
set_option maxHeartbeats 8000000 in
set_option maxRecDepth 100000 in
theorem spec_l6Rd_pick.calls (k : Nat) (g : Nat) (s0_0 : List Int) (s0_1 : Int) (a1 : Int) (r1 : Int) (r2 : Int) (w0 w : World) (hI : IsS73 w0 w g s0_0 s0_1) (hB : Below w0.heap.size w0 w) (h : spec_l6Rd_pick.f k s0_0 s0_1 a1 = some (r1, r2)) :
  Calls Try.prog 71 #[.pointer (some ⟨g, 0, none⟩), .int .i64 a1] w fun e w' => e = .returned (.int .i64 r1) ∧ IsS73 w0 w' g s0_0 r2 ∧ Below w0.heap.size w0 w' ∧ KeepBut w w' g none := by
 have HI0 := Az hI; have HK := Az (KeepBut.refl w g none); have HL := Az hB.size; clear hI; have HW0 := Az hB.size; have HB := Az hB; clear hB; have H : (if a1 < 1 then (spec_l6Rd_pick.j0 k a1 true s0_0 (wrap64 (s0_1 + 1))) else (spec_l6Rd_pick.j0 k a1 ((s0_0.length : Int) == 0) s0_0 (wrap64 (s0_1 + 1)))) = some (r1, r2) := h; clear h; have HC3 := Az H; clear H; obtain ⟨ASz4_0, cSz4_0, HGz4, hgz4, HSz4_0⟩ := HI0.out; have hcz4_0 := cellS73_0 HGz4; have hcz4_1 := cellS73_1 HGz4; have hfz4_1 := blk_frozen HGz4 1; clear HGz4 hgz4
 go_enter Try.func71, Try.ntmps71
 go_upto_region 2 with (fail)
 repeat (go_quiet (fail); go_upto_region 2 with (fail))
 go_cut [24] (fun v24 wc => ∃ (kq : Nat) (x24_2 : Bool), v24 = .bool x24_2 ∧ Aside0 (spec_l6Rd_pick.j0 kq a1 x24_2 s0_0 (wrap64 (s0_1 + 1)) = some (r1, r2)) ∧ Aside0 (kq ≤ k) ∧ Aside0 (IsS73 w0 wc g s0_0 (wrap64 (s0_1 + 1))) ∧ Aside0 (KeepBut w wc g none) ∧ Aside0 (Below w0.heap.size w0 wc))
 case first =>
  have H := HC3.out; clear HC3
  by_cases c5 : a1 < 1
  ·
   rw [if_pos c5] at H; have c5b0 := decide_eq_true c5; clear c5; (first | rw [c5b0] | (simp only [i64_w, i32_w]; rw [c5b0]) | skip); have H' := Az H; clear H
   go_wp2
   repeat (go_quiet (fail); try go_wp2)
   go_meet
   case rel => exact ⟨_, (true), rS, H', ⟨by first | omega | exact Nat.le_refl _⟩, ⟨by repeat (first | (with_reducible first | exact HI0.out | apply IsS73.alloc | apply IsS73.drewN | apply IsS73.drew | apply IsS73.set_1) | exact HI0.out)⟩, ⟨by repeat (first | (with_reducible first | exact HK.out | apply KeepBut.set_ | apply keep_drewN | apply keep_drew | apply keep_alloc) | exact HK.out)⟩, ⟨by repeat (first | (with_reducible first | exact HB.out | apply below_alloc | apply pw_below_drewN | apply below_drew1 | refine below_set ?_ (IsS73.ge HI0.out)) | exact HB.out)⟩⟩
  ·
   rw [if_neg c5] at H; have c5b0 := decide_eq_false c5; clear c5; (first | rw [c5b0] | (simp only [i64_w, i32_w]; rw [c5b0]) | skip); have H' := Az H; clear H; obtain ⟨ASz6_0, cSz6_0, HGz6, hgz6, HSz6_0⟩ := HI0.out; have hcz6_0 := cellS73_0 HGz6; have hcz6_1 := cellS73_1 HGz6; have hfz6_1 := blk_frozen HGz6 1; clear HGz6 hgz6
   go_wp2
   repeat (go_quiet (fail); try go_wp2)
   go_meet
   case rel => exact ⟨_, (((s0_0.length : Int) == 0)), rS, H', ⟨by first | omega | exact Nat.le_refl _⟩, ⟨by repeat (first | (with_reducible first | exact HI0.out | apply IsS73.alloc | apply IsS73.drewN | apply IsS73.drew | apply IsS73.set_1) | exact HI0.out)⟩, ⟨by repeat (first | (with_reducible first | exact HK.out | apply KeepBut.set_ | apply keep_drewN | apply keep_drew | apply keep_alloc) | exact HK.out)⟩, ⟨by repeat (first | (with_reducible first | exact HB.out | apply below_alloc | apply pw_below_drewN | apply below_drew1 | refine below_set ?_ (IsS73.ge HI0.out)) | exact HB.out)⟩⟩
 case rest =>
  clear HC3; (try clear p2); (try clear c5); (try clear c5b0); (try clear p6); (try clear hcz4_0); (try clear hcz4_1); (try clear hcz6_0); (try clear hcz6_1); (try clear hfz4_1); (try clear hfz6_1); obtain ⟨kq, x24_2, rfl, HA, HJ2, HI0, HK, HB⟩ := hcut
  cases kq with
  | zero => exact absurd HA.out (by simp [spec_l6Rd_pick.j0])
  | succ kj2 =>
   have H := HA.out; clear HA; simp only [spec_l6Rd_pick.j0] at H
   by_cases c7 : x24_2 = true
   ·
    subst c7
    have H1 : (some (0, (wrap64 (s0_1 + 1)))) = some (r1, r2) := by rw [if_pos rfl] at H; exact H
    clear H; have H := H1; clear H1; simp only [Option.some.injEq, Prod.mk.injEq] at H; obtain ⟨rfl, rfl⟩ := H
    go_wp2
    repeat (go_quiet (fail); try go_wp2)
    go_ret
    exact ⟨rE, by repeat (first | (with_reducible first | exact HI0.out | apply IsS73.alloc | apply IsS73.drewN | apply IsS73.drew | apply IsS73.set_1) | exact HI0.out), by repeat (first | (with_reducible first | exact HB.out | apply below_alloc | apply pw_below_drewN | apply below_drew1 | refine below_set ?_ (IsS73.ge HI0.out)) | exact HB.out), by repeat (first | (with_reducible first | exact HK.out | apply KeepBut.set_ | apply keep_drewN | apply keep_drew | apply keep_alloc) | exact HK.out)⟩
   ·
    replace c7 := Bool.eq_false_iff.mpr c7; subst c7
    have H1 : (if (wrap64 ((wrap64 (s0_1 + 1)) - 1)) < (s0_0.length : Int) then (if 0 ≤ (wrap64 ((wrap64 (s0_1 + 1)) - 1)) then (if a1 = 0 then (none) else (some (Int.tmod (wrap64 (rd s0_0 (wrap64 ((wrap64 (s0_1 + 1)) - 1)))) a1, (wrap64 (s0_1 + 1))))) else (none)) else (if (s0_0.length : Int) = 0 then (none) else (if 0 ≤ (Int.tmod (wrap64 ((wrap64 (s0_1 + 1)) - 1)) (s0_0.length : Int)) then (if (Int.tmod (wrap64 ((wrap64 (s0_1 + 1)) - 1)) (s0_0.length : Int)) < (s0_0.length : Int) then (if 0 ≤ (Int.tmod (wrap64 ((wrap64 ((wrap64 ((wrap64 (s0_1 + 1)) - 1)) * 7)) + 3)) (s0_0.length : Int)) then (if (Int.tmod (wrap64 ((wrap64 ((wrap64 ((wrap64 (s0_1 + 1)) - 1)) * 7)) + 3)) (s0_0.length : Int)) < (s0_0.length : Int) then (if a1 = 0 then (none) else (some (Int.tmod (Go.bits .xor .i64 (wrap64 ((wrap64 ((wrap64 ((wrap64 ((wrap64 (rd s0_0 (Int.tmod (wrap64 ((wrap64 (s0_1 + 1)) - 1)) (s0_0.length : Int)))) * 131)) + (wrap64 ((wrap64 (rd s0_0 (Int.tmod (wrap64 ((wrap64 ((wrap64 ((wrap64 (s0_1 + 1)) - 1)) * 7)) + 3)) (s0_0.length : Int)))) * 1117)))) + (wrap64 ((wrap64 ((wrap64 (s0_1 + 1)) - 1)) * 29)))) + (wrap64 ((wrap64 (Int.tdiv (wrap64 ((wrap64 (s0_1 + 1)) - 1)) (s0_0.length : Int))) * 53)))) (wrap64 (Int.tdiv (wrap64 ((wrap64 ((wrap64 ((wrap64 ((wrap64 (rd s0_0 (Int.tmod (wrap64 ((wrap64 (s0_1 + 1)) - 1)) (s0_0.length : Int)))) * 131)) + (wrap64 ((wrap64 (rd s0_0 (Int.tmod (wrap64 ((wrap64 ((wrap64 ((wrap64 (s0_1 + 1)) - 1)) * 7)) + 3)) (s0_0.length : Int)))) * 1117)))) + (wrap64 ((wrap64 ((wrap64 (s0_1 + 1)) - 1)) * 29)))) + (wrap64 ((wrap64 (Int.tdiv (wrap64 ((wrap64 (s0_1 + 1)) - 1)) (s0_0.length : Int))) * 53)))) 64))) a1, (wrap64 (s0_1 + 1))))) else (none)) else (none)) else (none)) else (none)))) = some (r1, r2) := by rw [if_neg (show ¬ (false = true) by decide)] at H; exact H
    clear H; have H := H1; clear H1
    by_cases c8 : (wrap64 ((wrap64 (s0_1 + 1)) - 1)) < (s0_0.length : Int)
    ·
     rw [if_pos c8] at H; have c8b0 := decide_eq_true c8; clear c8; obtain ⟨ji9, hji9⟩ : ∃ j_ : Int, (wrap64 ((wrap64 (s0_1 + 1)) - 1)) = j_ := ⟨_, rfl⟩
     replace H : (if 0 ≤ (ji9) then (if a1 = 0 then (none) else (some (Int.tmod (wrap64 (rd s0_0 (ji9))) a1, (wrap64 (s0_1 + 1))))) else (none)) = some (r1, r2) := by first | (rw [hji9] at H; exact H) | (simp only [hji9] at H ⊢; exact H)
     (try rw [hji9] at c8b0); have hji9w : (IntKind.i64.wrap ((wrap64 (s0_1 + 1)) - 1)) = ji9 := (i64_w _).trans hji9
     by_cases c10 : 0 ≤ (ji9)
     ·
      rw [if_pos c10] at H; have c10b0 := decide_eq_true c10; clear c10
      by_cases c11 : a1 = 0
      ·
       rw [if_pos c11] at H
       exact absurd H (by simp)
      ·
       rw [if_neg c11] at H; have c11b0 := beq_eq_false_iff_ne.mpr c11; have c11b1 := bne_iff_ne.mpr c11; simp only [Option.some.injEq, Prod.mk.injEq] at H; obtain ⟨rfl, rfl⟩ := H; obtain ⟨ASz12_0, cSz12_0, HGz12, hgz12, HSz12_0⟩ := HI0.out; have hcz12_0 := cellS73_0 HGz12; have hcz12_1 := cellS73_1 HGz12; have hfz12_1 := blk_frozen HGz12 1; clear HGz12 hgz12; have p310 : 0 ≤ ((ji9) : Int) := oA; have q310 : (ji9) < (s0_0.length : Int) := oA; obtain ⟨ad310, e310, hx310_0⟩ := Kd.at_int HSz12_0 (ji9) p310 q310
       cases e310
       replace hx310_0 := pw_cell_below HB.out hx310_0; replace p310 := eq_true p310; replace q310 := eq_true q310
       go_wp2
       repeat (go_quiet (fail); try go_wp2)
       go_ret
       exact ⟨by first | rfl | (simp [errW_none, errW_some] <;> rfl) | (simp only [← hji9]; first | rfl | (simp [errW_none, errW_some] <;> rfl)) | (simp [*, errW_none, errW_some] <;> rfl), by repeat (first | (with_reducible first | exact HI0.out | apply IsS73.alloc | apply IsS73.drewN | apply IsS73.drew | apply IsS73.set_1) | exact HI0.out), by repeat (first | (with_reducible first | exact HB.out | apply below_alloc | apply pw_below_drewN | apply below_drew1 | refine below_set ?_ (IsS73.ge HI0.out)) | exact HB.out), by repeat (first | (with_reducible first | exact HK.out | apply KeepBut.set_ | apply keep_drewN | apply keep_drew | apply keep_alloc) | exact HK.out)⟩
     ·
      rw [if_neg c10] at H
      exact absurd H (by simp)
    ·
     rw [if_neg c8] at H; have c8b0 := decide_eq_false c8; clear c8
     by_cases c13 : (s0_0.length : Int) = 0
     ·
      rw [if_pos c13] at H
      exact absurd H (by simp)
     ·
      rw [if_neg c13] at H; have c13b0 := beq_eq_false_iff_ne.mpr c13; have c13b1 := bne_iff_ne.mpr c13
      have c13b2 : ¬ (s0_0 = []) := fun h_ => c13 (by rw [h_]; rfl)
      obtain ⟨ji14, hji14⟩ : ∃ j_ : Int, (Int.tmod (wrap64 ((wrap64 (s0_1 + 1)) - 1)) (s0_0.length : Int)) = j_ := ⟨_, rfl⟩
      replace H : (if 0 ≤ (ji14) then (if (ji14) < (s0_0.length : Int) then (if 0 ≤ (Int.tmod (wrap64 ((wrap64 ((wrap64 ((wrap64 (s0_1 + 1)) - 1)) * 7)) + 3)) (s0_0.length : Int)) then (if (Int.tmod (wrap64 ((wrap64 ((wrap64 ((wrap64 (s0_1 + 1)) - 1)) * 7)) + 3)) (s0_0.length : Int)) < (s0_0.length : Int) then (if a1 = 0 then (none) else (some (Int.tmod (Go.bits .xor .i64 (wrap64 ((wrap64 ((wrap64 ((wrap64 ((wrap64 (rd s0_0 (ji14))) * 131)) + (wrap64 ((wrap64 (rd s0_0 (Int.tmod (wrap64 ((wrap64 ((wrap64 ((wrap64 (s0_1 + 1)) - 1)) * 7)) + 3)) (s0_0.length : Int)))) * 1117)))) + (wrap64 ((wrap64 ((wrap64 (s0_1 + 1)) - 1)) * 29)))) + (wrap64 ((wrap64 (Int.tdiv (wrap64 ((wrap64 (s0_1 + 1)) - 1)) (s0_0.length : Int))) * 53)))) (wrap64 (Int.tdiv (wrap64 ((wrap64 ((wrap64 ((wrap64 ((wrap64 (rd s0_0 (ji14))) * 131)) + (wrap64 ((wrap64 (rd s0_0 (Int.tmod (wrap64 ((wrap64 ((wrap64 ((wrap64 (s0_1 + 1)) - 1)) * 7)) + 3)) (s0_0.length : Int)))) * 1117)))) + (wrap64 ((wrap64 ((wrap64 (s0_1 + 1)) - 1)) * 29)))) + (wrap64 ((wrap64 (Int.tdiv (wrap64 ((wrap64 (s0_1 + 1)) - 1)) (s0_0.length : Int))) * 53)))) 64))) a1, (wrap64 (s0_1 + 1))))) else (none)) else (none)) else (none)) else (none)) = some (r1, r2) := by first | (rw [hji14] at H; exact H) | (simp only [hji14] at H ⊢; exact H)
      by_cases c15 : 0 ≤ (ji14)
      ·
       rw [if_pos c15] at H; have c15b0 := decide_eq_true c15; clear c15
       by_cases c16 : (ji14) < (s0_0.length : Int)
       ·
        rw [if_pos c16] at H; have c16b0 := decide_eq_true c16; clear c16; obtain ⟨ji17, hji17⟩ : ∃ j_ : Int, (Int.tmod (wrap64 ((wrap64 ((wrap64 ((wrap64 (s0_1 + 1)) - 1)) * 7)) + 3)) (s0_0.length : Int)) = j_ := ⟨_, rfl⟩
        replace H : (if 0 ≤ (ji17) then (if (ji17) < (s0_0.length : Int) then (if a1 = 0 then (none) else (some (Int.tmod (Go.bits .xor .i64 (wrap64 ((wrap64 ((wrap64 ((wrap64 ((wrap64 (rd s0_0 (ji14))) * 131)) + (wrap64 ((wrap64 (rd s0_0 (ji17))) * 1117)))) + (wrap64 ((wrap64 ((wrap64 (s0_1 + 1)) - 1)) * 29)))) + (wrap64 ((wrap64 (Int.tdiv (wrap64 ((wrap64 (s0_1 + 1)) - 1)) (s0_0.length : Int))) * 53)))) (wrap64 (Int.tdiv (wrap64 ((wrap64 ((wrap64 ((wrap64 ((wrap64 (rd s0_0 (ji14))) * 131)) + (wrap64 ((wrap64 (rd s0_0 (ji17))) * 1117)))) + (wrap64 ((wrap64 ((wrap64 (s0_1 + 1)) - 1)) * 29)))) + (wrap64 ((wrap64 (Int.tdiv (wrap64 ((wrap64 (s0_1 + 1)) - 1)) (s0_0.length : Int))) * 53)))) 64))) a1, (wrap64 (s0_1 + 1))))) else (none)) else (none)) = some (r1, r2) := by first | (rw [hji17] at H; exact H) | (simp only [hji17] at H ⊢; exact H)
        by_cases c18 : 0 ≤ (ji17)
        ·
         rw [if_pos c18] at H; have c18b0 := decide_eq_true c18; clear c18
         by_cases c19 : (ji17) < (s0_0.length : Int)
         ·
          rw [if_pos c19] at H; have c19b0 := decide_eq_true c19; clear c19
          by_cases c20 : a1 = 0
          ·
           rw [if_pos c20] at H
           exact absurd H (by simp)
          ·
           rw [if_neg c20] at H; have c20b0 := beq_eq_false_iff_ne.mpr c20; have c20b1 := bne_iff_ne.mpr c20; simp only [Option.some.injEq, Prod.mk.injEq] at H; obtain ⟨rfl, rfl⟩ := H; obtain ⟨ASz21_0, cSz21_0, HGz21, hgz21, HSz21_0⟩ := HI0.out; have hcz21_0 := cellS73_0 HGz21; have hcz21_1 := cellS73_1 HGz21; have hfz21_1 := blk_frozen HGz21 1; clear HGz21 hgz21; have p311 : 0 ≤ ((ji14) : Int) := oA; have q311 : (ji14) < (s0_0.length : Int) := oA; obtain ⟨ad311, e311, hx311_0⟩ := Kd.at_int HSz21_0 (ji14) p311 q311
           cases e311
           replace hx311_0 := pw_cell_below HB.out hx311_0; replace p311 := eq_true p311; replace q311 := eq_true q311; have p312 : 0 ≤ ((ji17) : Int) := oA; have q312 : (ji17) < (s0_0.length : Int) := oA; obtain ⟨ad312, e312, hx312_0⟩ := Kd.at_int HSz21_0 (ji17) p312 q312; obtain rfl : ad311 = ad312 := (by injection e312); replace hx312_0 := pw_cell_below HB.out hx312_0; replace p312 := eq_true p312; replace q312 := eq_true q312
           go_wp2
           repeat (go_quiet (fail); try go_wp2)
           go_ret
           exact ⟨by first | rfl | (simp [errW_none, errW_some] <;> rfl) | (simp only [← hji14, ← hji17]; first | rfl | (simp [errW_none, errW_some] <;> rfl)) | (simp [*, errW_none, errW_some] <;> rfl), by repeat (first | (with_reducible first | exact HI0.out | apply IsS73.alloc | apply IsS73.drewN | apply IsS73.drew | apply IsS73.set_1) | exact HI0.out), by repeat (first | (with_reducible first | exact HB.out | apply below_alloc | apply pw_below_drewN | apply below_drew1 | refine below_set ?_ (IsS73.ge HI0.out)) | exact HB.out), by repeat (first | (with_reducible first | exact HK.out | apply KeepBut.set_ | apply keep_drewN | apply keep_drew | apply keep_alloc) | exact HK.out)⟩
         ·
          rw [if_neg c19] at H
          exact absurd H (by simp)
        ·
         rw [if_neg c18] at H
         exact absurd H (by simp)
       ·
        rw [if_neg c16] at H
        exact absurd H (by simp)
      ·
       rw [if_neg c15] at H
       exact absurd H (by simp)
def spec_l91Perm.l0 : Nat → Int → List Int → Int → List Int → Int → Option (List Int × Int)
 | 0, _, _, _, _, _ => none
 | k + 1, x1, x5, x6, x1000, x1001 => if x6 < x1 then ((spec_l6Rd_pick.f k x1000 x1001 (wrap64 (x6 + 1))).bind fun bt316 => (if bt316.1 = x6 then (if x5.length < 17592186044416 then (spec_l91Perm.l0 k x1 (x5 ++ [x6]) (wrap64 (x6 + 1)) x1000 bt316.2) else (none)) else (if 0 ≤ bt316.1 then (if bt316.1 < (x5.length : Int) then (if x5.length < 17592186044416 then ((some (x5 ++ [rd x5 bt316.1] : List Int)).bind fun y322 => (if bt316.1 < (y322.length : Int) then (spec_l91Perm.l0 k x1 (y322.set (bt316.1 : Int).toNat x6) (wrap64 (x6 + 1)) x1000 bt316.2) else (none))) else (none)) else (none)) else (none)))) else (some (x5, x1001))
def spec_l91Perm.f (k : Nat) (s0_0 : List Int) (s0_1 : Int) (a1 : Int) : Option (List Int × Int) := spec_l91Perm.l0 k a1 (([] : List Int)) 0 s0_0 s0_1
set_option maxHeartbeats 8000000 in
set_option maxRecDepth 100000 in
theorem spec_l91Perm.calls (k : Nat) (g : Nat) (s0_0 : List Int) (s0_1 : Int) (a1 : Int) (r1 : List Int) (r2 : Int) (w0 w : World) (hI : IsS73 w0 w g s0_0 s0_1) (hB : Below w0.heap.size w0 w) (h : spec_l91Perm.f k s0_0 s0_1 a1 = some (r1, r2)) :
  Calls Try.prog 105 #[.pointer (some ⟨g, 0, none⟩), .int .i64 a1] w fun e w' => ∃ v0_ : Value, e = .returned (v0_) ∧ Kd.R (Kd.int .i64) 3 w' w.heap.size (fun _ => True) v0_ r1 ∧ IsS73 w0 w' g s0_0 r2 ∧ Below w0.heap.size w0 w' ∧ KeepBut w w' g none := by
 have HI0 := Az hI; have HK := Az (KeepBut.refl w g none); have HL := Az hB.size; clear hI; have HW0 := Az hB.size; have HB := Az hB; clear hB; have H : (spec_l91Perm.l0 k a1 (([] : List Int)) 0 s0_0 s0_1) = some (r1, r2) := h; clear h; obtain ⟨y313, hy313⟩ : ∃ y_ : List Int, y_ = (([] : List Int)) := ⟨_, rfl⟩; replace H : (spec_l91Perm.l0 k a1 y313 0 s0_0 s0_1) = some (r1, r2) := hR hy313 H; have Ny313 := Az hy313; clear hy313; have H' := Az H; clear H
 go_enter Try.func105, Try.ntmps105
 go_wp2_with (first | ((with_reducible refine gate_dst (N := 8) rfl ?_); refine Kd.R_lit (Kd.int .i64) _ 3 ?hg (N := 8) ?hd (xs := ([] : List Int)) (inner := []) (ok := fun _ => True) (okp := fun _ => True) ?hr ?hp (fun _ hk => hk) trivial (Below.refl _ _) (Nat.le_refl _) (by simp) ?_; (case hd => rfl); (case hg => rfl); (case hr => first | (go_simp; done) | (go_simp; rfl)); (case hp => exact (Reps.none _ _)); intro v314 w3 ho4 hb hg_ hnew_; clear hg_ hnew_; (first | rw [← Ny313.out] at ho4 | (simp only [Int.reduceToNat] at ho4; rw [← Ny313.out] at ho4)); have n0 := Az (Kd.R_lower ho4 (keep_size (w := w) (g := g) (row := none) (by repeat (first | (with_reducible first | exact HK.out | apply KeepBut.set_ | apply keep_drewN | apply keep_drew | apply keep_alloc) | exact HK.out)))); have n1 := Az (IsS73.below (by repeat (first | (with_reducible first | exact HI0.out | apply IsS73.alloc | apply IsS73.drewN | apply IsS73.drew | apply IsS73.set_1) | exact HI0.out)) hb); have n2 := Az (KeepBut.trans (by repeat (first | (with_reducible first | exact HK.out | apply KeepBut.set_ | apply keep_drewN | apply keep_drew | apply keep_alloc) | exact HK.out)) (KeepBut.of_below hb g none) (.inl rfl)); have n3 := Az (below_step (by repeat (first | (with_reducible first | exact HB.out | apply below_alloc | apply pw_below_drewN | apply below_drew1 | refine below_set ?_ (IsS73.ge HI0.out)) | exact HB.out)) hb); clear HI0 HK HB; have HO315 := n0; have HI0 := n1; have HK := n2; have HB := n3; clear n0 n1 n2 n3; clear hb ho4))
 go_loopg [5, 6] k (fun kq v5 v6 w' => ∃ (x5_1 : List Int) (x6_1 : Int) (x1001_1 : Int), v6 = .int .i64 x6_1 ∧ Aside0 (spec_l91Perm.l0 kq a1 x5_1 x6_1 s0_0 x1001_1 = some (r1, r2)) ∧ Aside0 (kq ≤ k) ∧ Aside0 (Kd.R (Kd.int .i64) 3 w' w.heap.size (fun _ => True) v5 x5_1) ∧ Aside0 (IsS73 w0 w' g s0_0 x1001_1) ∧ Aside0 (KeepBut w w' g none) ∧ Aside0 (Below w0.heap.size w0 w'))
 case atStart => exact ⟨(y313), (0), (s0_1), rS, H', ⟨Nat.le_refl _⟩, ⟨rU HO315.out⟩, ⟨by repeat (first | (with_reducible first | exact HI0.out | apply IsS73.alloc | apply IsS73.drewN | apply IsS73.drew | apply IsS73.set_1) | exact HI0.out)⟩, ⟨by repeat (first | (with_reducible first | exact HK.out | apply KeepBut.set_ | apply keep_drewN | apply keep_drew | apply keep_alloc) | exact HK.out)⟩, ⟨by repeat (first | (with_reducible first | exact HB.out | apply below_alloc | apply pw_below_drewN | apply below_drew1 | refine below_set ?_ (IsS73.ge HI0.out)) | exact HB.out)⟩⟩
 case round =>
  clear H'; (try clear c1); (try clear p2); obtain ⟨x5_1, x6_1, x1001_1, rfl, HA, HK1, HO_5, HI0, HK, HB⟩ := hrel
  cases gk with
  | zero => exact absurd HA.out (by simp [spec_l91Perm.l0])
  | succ k1 =>
   have H := HA.out; clear HA; simp only [spec_l91Perm.l0] at H
   by_cases c5 : x6_1 < a1
   ·
    rw [if_pos c5] at H; have c5b0 := decide_eq_true c5; clear c5; replace H := Option.bind_eq_some_iff.mp H; obtain ⟨⟨t316, t317⟩, A60, H⟩ := H; replace H : (if t316 = x6_1 then (if x5_1.length < 17592186044416 then (spec_l91Perm.l0 k1 a1 (x5_1 ++ [x6_1]) (wrap64 (x6_1 + 1)) s0_0 t317) else (none)) else (if 0 ≤ t316 then (if t316 < (x5_1.length : Int) then (if x5_1.length < 17592186044416 then ((some (x5_1 ++ [rd x5_1 t316] : List Int)).bind fun y322 => (if t316 < (y322.length : Int) then (spec_l91Perm.l0 k1 a1 (y322.set (t316 : Int).toNat x6_1) (wrap64 (x6_1 + 1)) s0_0 t317) else (none))) else (none)) else (none)) else (none))) = some (r1, r2) := H; have A6 := Az A60; clear A60
    by_cases c7 : t316 = x6_1
    ·
     rw [if_pos c7] at H; have c7b0 := beq_iff_eq.mpr c7; have c7b1 := bne_eq_false_iff_eq.mpr c7; clear c7
     by_cases c8 : x5_1.length < 17592186044416
     ·
      rw [if_pos c8] at H; have LMc8 := Az c8; clear c8; obtain ⟨y318, hy318⟩ : ∃ y_ : List Int, y_ = (x5_1 ++ [x6_1]) := ⟨_, rfl⟩; replace H : (spec_l91Perm.l0 k1 a1 y318 (wrap64 (x6_1 + 1)) s0_0 t317) = some (r1, r2) := hR hy318 H; have Ny318 := Az hy318; clear hy318; have H' := Az H; clear H
      go_wp2_with (first | ((with_reducible refine gate_callee (f := 71) rfl ?_); refine goesL_ (some 17) rfl rfl Try.func71 (by kernel_rfl) rfl #[.pointer (some ⟨g, 0, none⟩), .int .i64 (wrap64 (x6_1 + 1))] rfl (by (try simp only [List.map_toArray, List.map_cons, List.map_nil]); first | done | rfl | (simp only [List.length_drop, List.length_take]; rfl)) ?_; (with_reducible refine (spec_l6Rd_pick.calls k1 g s0_0 x1001_1 (wrap64 (x6_1 + 1)) t316 t317 w0 _ ?side1 ?side2 A6.out).mono ?_); (case side1 => repeat (first | (with_reducible first | exact HI0.out | apply IsS73.alloc | apply IsS73.drewN | apply IsS73.drew | apply IsS73.set_1) | exact HI0.out)); (case side2 => repeat (first | (with_reducible first | exact HB.out | apply below_alloc | apply pw_below_drewN | apply below_drew1 | refine below_set ?_ (IsS73.ge HI0.out)) | exact HB.out)); rintro e w9 ⟨rfl, hi, hb, hk⟩; refine ⟨_, rfl, ?_⟩; have n0 := Az (Kd.R_mono (Kd.R_keep (IsS73.apart (show IsS73 w0 _ g s0_0 x1001_1 from by repeat (first | (with_reducible first | exact HI0.out | apply IsS73.alloc | apply IsS73.drewN | apply IsS73.drew | apply IsS73.set_1) | exact HI0.out)) (rU HO_5.out) (by decide)) hk (fun _ h => h.2)) (fun _ h => h.1)); have n1 := Az (KeepBut.trans (by repeat (first | (with_reducible first | exact HK.out | apply KeepBut.set_ | apply keep_drewN | apply keep_drew | apply keep_alloc) | exact HK.out)) hk (.inl rfl)); have n2 := Az (hb); have n3 := Az (hi); clear HO_5 HK HB HI0; have HO_5 := n0; have HK := n1; have HB := n2; have HI0 := n3; clear n0 n1 n2 n3; (try clear hb); (try clear hb2); (try clear hk); (try clear hi)) | ((with_reducible refine gate_builtin (b := .append) (xs := #[.tmp 21, .tmp 23]) rfl ?_); at_builtin; refine Kd.R_append (Kd.int .i64) w.heap.size rfl (.tmp 21) (.tmp 23) 23 3 (.int .i64 0) 8 rfl Try.underlying23 info3 rfl (by decide) (by omega) u5 x5_1 x6_1 [.int .i64 x6_1] (fun _ => True) (fun _ => False) rfl rfl ?aP (fun _ hk => hk.elim) ?aF ?aO (Below.refl _ _) ?aS ?aL ?_; (case aP => exact rfl); (case aF => exact (fun _ _ => trivial)); (case aO => exact (rU HO_5.out)); (case aS => exact (keep_size (w := w) (g := g) (row := none) (by repeat (first | (with_reducible first | exact HK.out | apply KeepBut.set_ | apply keep_drewN | apply keep_drew | apply keep_alloc) | exact HK.out)))); (case aL => have := LMc8.out; omega); intro v319 w10 ho hb hg hat; rw [← Ny318.out] at ho; have n0 := Az (IsS73.grown (by repeat (first | (with_reducible first | exact HI0.out | apply IsS73.alloc | apply IsS73.drewN | apply IsS73.drew | apply IsS73.set_1) | exact HI0.out)) hg (IsS73.own_ne HI0.out HO_5.out (by decide))); have n1 := Az (below_weaken (by repeat (first | (with_reducible first | exact HB.out | apply below_alloc | apply pw_below_drewN | apply below_drew1 | refine below_set ?_ (IsS73.ge HI0.out)) | exact HB.out)) HL.out hb); have n2 := Az (KeepBut.trans (by repeat (first | (with_reducible first | exact HK.out | apply KeepBut.set_ | apply keep_drewN | apply keep_drew | apply keep_alloc) | exact HK.out)) (KeepBut.of_grown hg g) (Kd.R_base2 HO_5.out)); have n3 := Az (ho); clear HI0 HB HK HO_5; have HI0 := n0; have HB := n1; have HK := n2; have HO320 := n3; clear n0 n1 n2 n3; clear ho hb hg hat))
      (first | go_roundg k1 | (refine Handed.intro k1 ?measure ?_; rotate_left; go_step; (try simp only [add_plain]); (repeat apply Exists.intro); refine ⟨?rel, rfl⟩))
      case measure => have := HK1.out; omega
      case rel => exact ⟨(y318), (wrap64 (x6_1 + 1)), (t317), rS, H', ⟨by have := HK1.out; omega⟩, ⟨rU HO320.out⟩, ⟨by repeat (first | (with_reducible first | exact HI0.out | apply IsS73.alloc | apply IsS73.drewN | apply IsS73.drew | apply IsS73.set_1) | exact HI0.out)⟩, ⟨by repeat (first | (with_reducible first | exact HK.out | apply KeepBut.set_ | apply keep_drewN | apply keep_drew | apply keep_alloc) | exact HK.out)⟩, ⟨by repeat (first | (with_reducible first | exact HB.out | apply below_alloc | apply pw_below_drewN | apply below_drew1 | refine below_set ?_ (IsS73.ge HI0.out)) | exact HB.out)⟩⟩
     ·
      rw [if_neg c8] at H
      exact absurd H (by simp)
    ·
     rw [if_neg c7] at H; have c7b0 := beq_eq_false_iff_ne.mpr c7; have c7b1 := bne_iff_ne.mpr c7
     by_cases c11 : 0 ≤ t316
     ·
      rw [if_pos c11] at H; have c11b0 := decide_eq_true c11; clear c11
      by_cases c12 : t316 < (x5_1.length : Int)
      ·
       rw [if_pos c12] at H; have c12b0 := decide_eq_true c12; clear c12
       by_cases c13 : x5_1.length < 17592186044416
       ·
        rw [if_pos c13] at H; have LMc13 := Az c13; clear c13; obtain ⟨y322, hy322⟩ : ∃ y_ : List Int, y_ = (x5_1 ++ [rd x5_1 t316]) := ⟨_, rfl⟩; replace H : (if t316 < (y322.length : Int) then (spec_l91Perm.l0 k1 a1 (y322.set (t316 : Int).toNat x6_1) (wrap64 (x6_1 + 1)) s0_0 t317) else (none)) = some (r1, r2) := hR hy322 H; have Ny322 := Az hy322; clear hy322
        by_cases c14 : t316 < (y322.length : Int)
        ·
         rw [if_pos c14] at H; have c14b0 := decide_eq_true c14; clear c14; obtain ⟨y325, hy325⟩ : ∃ y_ : List Int, y_ = (y322.set (t316 : Int).toNat x6_1) := ⟨_, rfl⟩; replace H : (spec_l91Perm.l0 k1 a1 y325 (wrap64 (x6_1 + 1)) s0_0 t317) = some (r1, r2) := hR hy325 H; have Ny325 := Az hy325; clear hy325; have H' := Az H; clear H
         go_wp2_with (first | ((with_reducible refine gate_callee (f := 71) rfl ?_); refine goesL_ (some 17) rfl rfl Try.func71 (by kernel_rfl) rfl #[.pointer (some ⟨g, 0, none⟩), .int .i64 (wrap64 (x6_1 + 1))] rfl (by (try simp only [List.map_toArray, List.map_cons, List.map_nil]); first | done | rfl | (simp only [List.length_drop, List.length_take]; rfl)) ?_; (with_reducible refine (spec_l6Rd_pick.calls k1 g s0_0 x1001_1 (wrap64 (x6_1 + 1)) t316 t317 w0 _ ?side1 ?side2 A6.out).mono ?_); (case side1 => repeat (first | (with_reducible first | exact HI0.out | apply IsS73.alloc | apply IsS73.drewN | apply IsS73.drew | apply IsS73.set_1) | exact HI0.out)); (case side2 => repeat (first | (with_reducible first | exact HB.out | apply below_alloc | apply pw_below_drewN | apply below_drew1 | refine below_set ?_ (IsS73.ge HI0.out)) | exact HB.out)); rintro e w16 ⟨rfl, hi, hb, hk⟩; refine ⟨_, rfl, ?_⟩; have n0 := Az (Kd.R_mono (Kd.R_keep (IsS73.apart (show IsS73 w0 _ g s0_0 x1001_1 from by repeat (first | (with_reducible first | exact HI0.out | apply IsS73.alloc | apply IsS73.drewN | apply IsS73.drew | apply IsS73.set_1) | exact HI0.out)) (rU HO_5.out) (by decide)) hk (fun _ h => h.2)) (fun _ h => h.1)); have n1 := Az (KeepBut.trans (by repeat (first | (with_reducible first | exact HK.out | apply KeepBut.set_ | apply keep_drewN | apply keep_drew | apply keep_alloc) | exact HK.out)) hk (.inl rfl)); have n2 := Az (hb); have n3 := Az (hi); clear HO_5 HK HB HI0; have HO_5 := n0; have HK := n1; have HB := n2; have HI0 := n3; clear n0 n1 n2 n3; (try clear hb); (try clear hb2); (try clear hk); (try clear hi); obtain ⟨Ao17, co17, eo17⟩ := Kd.R_slice HO_5.out; subst eo17; have p321 : 0 ≤ (t316 : Int) := oA; have q321 : t316 < (x5_1.length : Int) := oA; obtain ⟨ad321, e321, hx321_0⟩ := Kd.at_int (Kd.R_reads' HO_5.out).2.2 t316 p321 q321; cases e321; replace p321 := eq_true p321; replace q321 := eq_true q321) | ((with_reducible refine gate_builtin (b := .append) (xs := #[.tmp 25, .tmp 30]) rfl ?_); at_builtin; refine Kd.R_append (Kd.int .i64) w.heap.size rfl (.tmp 25) (.tmp 30) 23 3 (.int .i64 0) 8 rfl Try.underlying23 info3 rfl (by decide) (by omega) (.slice (some ad321) x5_1.length co17) x5_1 (rd x5_1 t316) [.int .i64 (rd x5_1 t316)] (fun _ => True) (fun _ => False) rfl rfl ?aP (fun _ hk => hk.elim) ?aF ?aO (Below.refl _ _) ?aS ?aL ?_; (case aP => exact rfl); (case aF => exact (fun _ _ => trivial)); (case aO => exact (rU HO_5.out)); (case aS => exact (keep_size (w := w) (g := g) (row := none) (by repeat (first | (with_reducible first | exact HK.out | apply KeepBut.set_ | apply keep_drewN | apply keep_drew | apply keep_alloc) | exact HK.out)))); (case aL => have := LMc13.out; omega); intro v323 w18 ho hb hg hat; rw [← Ny322.out] at ho; have n0 := Az (IsS73.grown (by repeat (first | (with_reducible first | exact HI0.out | apply IsS73.alloc | apply IsS73.drewN | apply IsS73.drew | apply IsS73.set_1) | exact HI0.out)) hg (IsS73.own_ne HI0.out HO_5.out (by decide))); have n1 := Az (below_weaken (by repeat (first | (with_reducible first | exact HB.out | apply below_alloc | apply pw_below_drewN | apply below_drew1 | refine below_set ?_ (IsS73.ge HI0.out)) | exact HB.out)) HL.out hb); have n2 := Az (KeepBut.trans (by repeat (first | (with_reducible first | exact HK.out | apply KeepBut.set_ | apply keep_drewN | apply keep_drew | apply keep_alloc) | exact HK.out)) (KeepBut.of_grown hg g) (Kd.R_base2 HO_5.out)); have n3 := Az (ho); clear HI0 HB HK HO_5; have HI0 := n0; have HB := n1; have HK := n2; have HO324 := n3; clear n0 n1 n2 n3 ho hb hg hat; have p15 : 0 ≤ (t316 : Int) := oA; have q15 : (t316 : Int) < ((y322.length : Int) : Int) := oA; obtain ⟨go15, co15, eo15, gb15, gl15, cl15, HG15⟩ := Kd.R_form HO324.out (by omega); (first | cases eo15 | (injection eo15 with ea_ en_ ec_; (first | subst ea_ | (injection ea_ with ea_; subst ea_)); subst ec_; clear en_)); have GB15 := Az gb15; have GG15 := Az HG15; clear gb15 gl15 HG15; obtain ⟨hx15_0, hf15_0⟩ := Kd.R_celln 0 HO324.out (t316 : Int) p15 q15; replace p15 := eq_true p15; replace q15 := eq_true q15; obtain ⟨hy19_, hz19_⟩ := Kd.R_celln 0 HO324.out (t316 : Int) (oA) (oA); have HP19 := Kd.R_putg HO324.out (t316 : Int) x6_1) | ((with_reducible refine gate_store (t := 3) (p := 35) rfl ?_); refine store_event (t := 3) (p := 35) (v := ?vo_w20) (w1 := (w18.setCell ⟨go15, (t316 : Int).toNat, none⟩ (.int .i64 x6_1))) ?hg ?ho ?hn ?hr ?_; (case ho => rfl); (case hg => rfl); (case hn => rfl); (case hr => first | (go_simp; done) | (go_simp; rfl)); intro w20 hw; have hg : w18.grownBy w20 (some go15) := (by rw [hw]; exact HP19.2); have hp_ : Kd.R (Kd.int .i64) 3 w20 w.heap.size (fun _ => True) (.slice (some ⟨go15, 0, none⟩) y322.length co15) y325 := (by rw [hw, Ny325.out]; exact HP19.1); clear HP19; have n0 := Az (IsS73.grown (by repeat (first | (with_reducible first | exact HI0.out | apply IsS73.alloc | apply IsS73.drewN | apply IsS73.drew | apply IsS73.set_1) | exact HI0.out)) hg (IsS73.own_ne HI0.out HO324.out (by decide))); have n1 := Az (hp_); have n2 := Az ((by rw [hw]; exact below_set (HB.out) (Nat.le_trans HL.out GB15.out) : Below w0.heap.size w0 w20)); have n3 := Az (KeepBut.trans (by repeat (first | (with_reducible first | exact HK.out | apply KeepBut.set_ | apply keep_drewN | apply keep_drew | apply keep_alloc) | exact HK.out)) (KeepBut.of_grown hg g) (Kd.R_base2 HO324.out)); clear HI0 HO324 HB HK; have HI0 := n0; have HO324 := n1; have HB := n2; have HK := n3; clear n0 n1 n2 n3; clear hg hw hp_))
         (first | go_roundg k1 | (refine Handed.intro k1 ?measure ?_; rotate_left; go_step; (try simp only [add_plain]); (repeat apply Exists.intro); refine ⟨?rel, rfl⟩))
         case measure => have := HK1.out; omega
         case rel => exact ⟨(y325), (wrap64 (x6_1 + 1)), (t317), rS, H', ⟨by have := HK1.out; omega⟩, ⟨rU HO324.out⟩, ⟨by repeat (first | (with_reducible first | exact HI0.out | apply IsS73.alloc | apply IsS73.drewN | apply IsS73.drew | apply IsS73.set_1) | exact HI0.out)⟩, ⟨by repeat (first | (with_reducible first | exact HK.out | apply KeepBut.set_ | apply keep_drewN | apply keep_drew | apply keep_alloc) | exact HK.out)⟩, ⟨by repeat (first | (with_reducible first | exact HB.out | apply below_alloc | apply pw_below_drewN | apply below_drew1 | refine below_set ?_ (IsS73.ge HI0.out)) | exact HB.out)⟩⟩
        ·
         rw [if_neg c14] at H
         exact absurd H (by simp)
       ·
        rw [if_neg c13] at H
        exact absurd H (by simp)
      ·
       rw [if_neg c12] at H
       exact absurd H (by simp)
     ·
      rw [if_neg c11] at H
      exact absurd H (by simp)
   ·
    rw [if_neg c5] at H; have c5b0 := decide_eq_false c5; clear c5; simp only [Option.some.injEq, Prod.mk.injEq] at H; obtain ⟨rfl, rfl⟩ := H
    go_wp2
    go_ret
    exact ⟨_, rE, rU HO_5.out, by repeat (first | (with_reducible first | exact HI0.out | apply IsS73.alloc | apply IsS73.drewN | apply IsS73.drew | apply IsS73.set_1) | exact HI0.out), by repeat (first | (with_reducible first | exact HB.out | apply below_alloc | apply pw_below_drewN | apply below_drew1 | refine below_set ?_ (IsS73.ge HI0.out)) | exact HB.out), by repeat (first | (with_reducible first | exact HK.out | apply KeepBut.set_ | apply keep_drewN | apply keep_drew | apply keep_alloc) | exact HK.out)⟩
mutual
def spec_l91Map.l0 : Nat → Int → List Int → List Int → Int → List Int → Int → Option (List Int × List Int × Int)
 | 0, _, _, _, _, _, _ => none
 | k + 1, x5, x6, x7, x8, x1000, x1001 => if (wrap64 (x8 + 1)) < x5 then (if 0 ≤ x8 then (if x8 < (x6.length : Int) then (if 0 ≤ (wrap64 (x8 + 1)) then (if (wrap64 (x8 + 1)) < (x6.length : Int) then (if 0 ≤ (rd x6 x8) then (if (rd x6 x8) < (x7.length : Int) then (if 0 ≤ (rd x6 (wrap64 (x8 + 1))) then (if (rd x6 (wrap64 (x8 + 1))) < (x7.length : Int) then (spec_l91Map.l0 k x5 x6 ((x7.set ((rd x6 x8) : Int).toNat (rd x6 (wrap64 (x8 + 1)))).set ((rd x6 (wrap64 (x8 + 1))) : Int).toNat (rd x6 x8)) (wrap64 (x8 + 2)) x1000 x1001) else (none)) else (none)) else (none)) else (none)) else (none)) else (none)) else (none)) else (none)) else ((spec_l91Perm.f k x1000 x1001 x5).bind fun bt342 => (spec_l91Map.l1 k x5 0 x1000 bt342.2 bt342.1 x7))
def spec_l91Map.l1 : Nat → Int → Int → List Int → Int → List Int → List Int → Option (List Int × List Int × Int)
 | 0, _, _, _, _, _, _ => none
 | k + 1, x5, x10, x1000, x1001, xZ0, xZ1 => if x10 < x5 then ((spec_MapValid.f k xZ0 xZ1).bind fun t347 => (spec_l91Map.j2 k x5 x10 (!t347) x1000 x1001 xZ0 xZ1)) else (spec_l91Map.j2 k x5 x10 false x1000 x1001 xZ0 xZ1)
def spec_l91Map.j2 : Nat → Int → Int → Bool → List Int → Int → List Int → List Int → Option (List Int × List Int × Int)
 | 0, _, _, _, _, _, _, _ => none
 | k + 1, x5, x10, x64, x1000, x1001, xZ0, xZ1 => if x64 = true then ((spec_l1Orbits.f k xZ0 xZ1).bind fun t348 => (spec_l91Map.l2 k x5 x10 t348 0 x1000 x1001 xZ0 xZ1)) else ((spec_l6Rd_pick.f k x1000 x1001 50).bind fun bt356 => (if bt356.1 = 0 then (if 0 < (xZ1.length : Int) then (some (xZ0, (xZ1.set (0 : Int).toNat 0), bt356.2)) else (none)) else (if bt356.1 = 1 then (if 1 ≤ (xZ0.length : Int) then (some ((xZ0.drop (1 : Int).toNat), xZ1, bt356.2)) else (none)) else (if bt356.1 = 2 then (if 0 < (xZ0.length : Int) then (some ((xZ0.set (0 : Int).toNat x5), xZ1, bt356.2)) else (none)) else (some (xZ0, xZ1, bt356.2))))))
def spec_l91Map.l2 : Nat → Int → Int → List Int → Int → List Int → Int → List Int → List Int → Option (List Int × List Int × Int)
 | 0, _, _, _, _, _, _, _, _ => none
 | k + 1, x5, x10, x11, x12, x1000, x1001, xZ0, xZ1 => if 0 ≤ x12 then (if x12 < (x11.length : Int) then (if (rd x11 x12) = 0 then (spec_l91Map.l2 k x5 x10 x11 (wrap64 (x12 + 1)) x1000 x1001 xZ0 xZ1) else (if 0 < (xZ0.length : Int) then (if x12 < (xZ0.length : Int) then (spec_l91Map.l1 k x5 (wrap64 (x10 + 1)) x1000 x1001 ((xZ0.set (0 : Int).toNat (rd xZ0 x12)).set (x12 : Int).toNat (rd xZ0 0)) xZ1) else (none)) else (none))) else (none)) else (none)
end
def spec_l91Map.f (k : Nat) (s0_0 : List Int) (s0_1 : Int) (a1 : Int) : Option (List Int × List Int × Int) := (spec_l6Rd_pick.f k s0_0 s0_1 a1).bind fun bt327 => ((spec_l91Perm.f k s0_0 bt327.2 (wrap64 (2 * (wrap64 (1 + bt327.1))))).bind fun bt329 => (if 0 ≤ (wrap64 (2 * (wrap64 (1 + bt327.1)))) then (if (wrap64 (2 * (wrap64 (1 + bt327.1))) : Int).toNat ≤ 35184372088832 then (spec_l91Map.l0 k (wrap64 (2 * (wrap64 (1 + bt327.1)))) bt329.1 (List.replicate (wrap64 (2 * (wrap64 (1 + bt327.1))) : Int).toNat 0) 0 s0_0 bt329.2) else (none)) else (none)))
def spec_l91Map.T7 : Bool × List (List Nat × List Nat) := (true, [([], []), ([], []), ([], []), ([1, 2], [1, 2]), ([3], [3]), ([], []), ([], []), ([6], [6]), ([5, 7], [5, 7]), ([8], [8]), ([0, 4, 0, 1, 2, 3, 4, 5, 6, 7, 8, 9], [0, 4]), ([10, 9, 0, 1, 2, 3, 4, 5, 6, 7, 8, 9], [9, 10])])
def spec_l91Map.B7 : List Nat := [0, 0, 0, 6, 14, 0, 0, 64, 224, 480, 1023, 2047]
theorem spec_l91Map.tab7 : rtab .any (opsOf Try.f70 7) = spec_l91Map.T7 := by kernel_rfl
theorem spec_l91Map.bits7 : waitsOk spec_l91Map.T7.2 spec_l91Map.B7 = true := by kernel_rfl
def spec_l91Map.T8 : Bool × List (List Nat × List Nat) := (true, [([], []), ([], []), ([], []), ([2], [2]), ([1, 3], [1, 3]), ([4], [4]), ([], []), ([], []), ([6, 7], [6, 7]), ([8], [8]), ([0, 5, 0, 1, 2, 3, 4, 5, 6, 7, 8, 9], [0, 5]), ([10, 9, 0, 1, 2, 3, 4, 5, 6, 7, 8, 9], [9, 10])])
def spec_l91Map.B8 : List Nat := [0, 0, 0, 4, 14, 30, 0, 0, 192, 448, 1023, 2047]
theorem spec_l91Map.tab8 : rtab .any (opsOf Try.f70 8) = spec_l91Map.T8 := by kernel_rfl
theorem spec_l91Map.bits8 : waitsOk spec_l91Map.T8.2 spec_l91Map.B8 = true := by kernel_rfl
def spec_l91Map.T18 : Bool × List (List Nat × List Nat) := (true, [([], []), ([0], [0]), ([], []), ([2], [2]), ([], []), ([3, 4], [3, 4]), ([5], [5]), ([1, 0, 1, 2, 3, 4, 5, 6], [1]), ([7, 6, 0, 1, 2, 3, 4, 5, 6], [6, 7])])
def spec_l91Map.B18 : List Nat := [0, 1, 0, 4, 0, 28, 60, 127, 255]
theorem spec_l91Map.tab18 : rtab .any (opsOf Try.f70 18) = spec_l91Map.T18 := by kernel_rfl
theorem spec_l91Map.bits18 : waitsOk spec_l91Map.T18.2 spec_l91Map.B18 = true := by kernel_rfl
set_option maxHeartbeats 8000000 in
set_option maxRecDepth 100000 in
theorem spec_l91Map.calls (k : Nat) (g : Nat) (s0_0 : List Int) (s0_1 : Int) (a1 : Int) (r1 : List Int) (r2 : List Int) (r3 : Int) (w0 w : World) (hI : IsS73 w0 w g s0_0 s0_1) (hB : Below w0.heap.size w0 w) (h : spec_l91Map.f k s0_0 s0_1 a1 = some (r1, r2, r3)) :
  Calls Try.prog 70 #[.pointer (some ⟨g, 0, none⟩), .int .i64 a1] w fun e w' => ∃ v0_ v1_ : Value, e = .returned (.agg #[v0_, v1_]) ∧ Kd.Q (Kd.int .i64) 3 w' w.heap.size (fun k_ => some k_ ≠ (v1_ : Value).ownBlock) v0_ r1 ∧ Kd.R (Kd.int .i64) 3 w' w.heap.size (fun k_ => some k_ ≠ (v0_ : Value).ownBlock) v1_ r2 ∧ IsS73 w0 w' g s0_0 r3 ∧ Below w0.heap.size w0 w' ∧ KeepBut w w' g none := by
 have hu25 := Try.underlying25; have HI0 := Az hI; have HK := Az (KeepBut.refl w g none); have HL := Az hB.size; clear hI; have HW0 := Az hB.size; have HB := Az hB; clear hB; have H : ((spec_l6Rd_pick.f k s0_0 s0_1 a1).bind fun bt327 => ((spec_l91Perm.f k s0_0 bt327.2 (wrap64 (2 * (wrap64 (1 + bt327.1))))).bind fun bt329 => (if 0 ≤ (wrap64 (2 * (wrap64 (1 + bt327.1)))) then (if (wrap64 (2 * (wrap64 (1 + bt327.1))) : Int).toNat ≤ 35184372088832 then (spec_l91Map.l0 k (wrap64 (2 * (wrap64 (1 + bt327.1)))) bt329.1 (List.replicate (wrap64 (2 * (wrap64 (1 + bt327.1))) : Int).toNat 0) 0 s0_0 bt329.2) else (none)) else (none)))) = some (r1, r2, r3) := h; clear h; replace H := Option.bind_eq_some_iff.mp H; obtain ⟨⟨t327, t328⟩, A30, H⟩ := H; replace H : ((spec_l91Perm.f k s0_0 t328 (wrap64 (2 * (wrap64 (1 + t327))))).bind fun bt329 => (if 0 ≤ (wrap64 (2 * (wrap64 (1 + t327)))) then (if (wrap64 (2 * (wrap64 (1 + t327))) : Int).toNat ≤ 35184372088832 then (spec_l91Map.l0 k (wrap64 (2 * (wrap64 (1 + t327)))) bt329.1 (List.replicate (wrap64 (2 * (wrap64 (1 + t327))) : Int).toNat 0) 0 s0_0 bt329.2) else (none)) else (none))) = some (r1, r2, r3) := H; have A3 := Az A30; clear A30; replace H := Option.bind_eq_some_iff.mp H; obtain ⟨⟨t329, t332⟩, A40, H⟩ := H; replace H : (if 0 ≤ (wrap64 (2 * (wrap64 (1 + t327)))) then (if (wrap64 (2 * (wrap64 (1 + t327))) : Int).toNat ≤ 35184372088832 then (spec_l91Map.l0 k (wrap64 (2 * (wrap64 (1 + t327)))) t329 (List.replicate (wrap64 (2 * (wrap64 (1 + t327))) : Int).toNat 0) 0 s0_0 t332) else (none)) else (none)) = some (r1, r2, r3) := H; have A4 := Az A40; clear A40; obtain ⟨ji5, hji5⟩ : ∃ j_ : Int, (wrap64 (2 * (wrap64 (1 + t327)))) = j_ := ⟨_, rfl⟩
 replace H : (if 0 ≤ (ji5) then (if (ji5 : Int).toNat ≤ 35184372088832 then (spec_l91Map.l0 k ji5 t329 (List.replicate (ji5 : Int).toNat 0) 0 s0_0 t332) else (none)) else (none)) = some (r1, r2, r3) := by first | (rw [hji5] at H; exact H) | (simp only [hji5] at H ⊢; exact H)
 (try rw [hji5] at A3); (try rw [hji5] at A4); have hji5w : (IntKind.i64.wrap (2 * (wrap64 (1 + t327)))) = ji5 := (i64_w _).trans hji5
 by_cases c6 : 0 ≤ (ji5)
 ·
  rw [if_pos c6] at H; have c6b0 := eq_true c6; have c6b1 := decide_eq_true c6; clear c6
  by_cases c7 : (ji5 : Int).toNat ≤ 35184372088832
  ·
   rw [if_pos c7] at H; have c7b0 := eq_true c7; have c7b1 := decide_eq_true c7; clear c7; obtain ⟨y333, hy333⟩ : ∃ y_ : List Int, y_ = (List.replicate (ji5 : Int).toNat 0) := ⟨_, rfl⟩; replace H : (spec_l91Map.l0 k ji5 t329 y333 0 s0_0 t332) = some (r1, r2, r3) := hR hy333 H; have Ny333 := Az hy333; clear hy333; have H' := Az H; clear H
   go_enter Try.func70, Try.ntmps70
   go_wp2_with (first | ((with_reducible refine gate_dst (N := 4) rfl ?_); refine box_event ?hg (N := 4) ?hd (cs := #[.slice none 0 0, .slice none 0 0]) (t := 25) ?hr ?_; (case hd => rfl); (case hg => rfl); (case hr => first | (go_simp; done) | (go_simp; rfl)); intro gb326 hg w8 hbox hb; have n0 := Az (IsS73.below (by repeat (first | (with_reducible first | exact HI0.out | apply IsS73.alloc | apply IsS73.drewN | apply IsS73.drew | apply IsS73.set_1) | exact HI0.out)) hb); have n1 := Az (KeepBut.trans (by repeat (first | (with_reducible first | exact HK.out | apply KeepBut.set_ | apply keep_drewN | apply keep_drew | apply keep_alloc) | exact HK.out)) (KeepBut.of_below hb g none) (.inl rfl)); have n2 := Az (below_step (by repeat (first | (with_reducible first | exact HB.out | apply below_alloc | apply pw_below_drewN | apply below_drew1 | refine below_set ?_ (IsS73.ge HI0.out)) | exact HB.out)) hb); have n3 := Az (hbox); have n4 := Az ((by rw [hg]; exact (keep_size (w := w) (g := g) (row := none) (by repeat (first | (with_reducible first | exact HK.out | apply KeepBut.set_ | apply keep_drewN | apply keep_drew | apply keep_alloc) | exact HK.out))) : w.heap.size ≤ gb326)); have n5 := Az ((Nat.le_trans HW0.out (by rw [hg]; exact (keep_size (w := w) (g := g) (row := none) (by repeat (first | (with_reducible first | exact HK.out | apply KeepBut.set_ | apply keep_drewN | apply keep_drew | apply keep_alloc) | exact HK.out))) : w.heap.size ≤ gb326) : w0.heap.size ≤ gb326)); have n6 := Az ((by rw [hg]; exact Nat.ne_of_lt (IsS73.lt (show IsS73 w0 _ g s0_0 s0_1 from by repeat (first | (with_reducible first | exact HI0.out | apply IsS73.alloc | apply IsS73.drewN | apply IsS73.drew | apply IsS73.set_1) | exact HI0.out))) : g ≠ gb326)); have n7 := Az ((by rw [hg]; exact Nat.ne_of_gt (IsS73.lt (show IsS73 w0 _ g s0_0 s0_1 from by repeat (first | (with_reducible first | exact HI0.out | apply IsS73.alloc | apply IsS73.drewN | apply IsS73.drew | apply IsS73.set_1) | exact HI0.out))) : gb326 ≠ g)); clear HI0 HK HB; have HI0 := n0; have HK := n1; have HB := n2; have BK326 := n3; have GW326 := n4; have GE326 := n5; have NB0_326 := n6; have NB326_0 := n7; clear n0 n1 n2 n3 n4 n5 n6 n7; clear hb hbox hg) | ((with_reducible refine gate_callee (f := 71) rfl ?_); refine goesL_ (some 16) rfl rfl Try.func71 (by kernel_rfl) rfl #[.pointer (some ⟨g, 0, none⟩), .int .i64 a1] rfl (by (try simp only [List.map_toArray, List.map_cons, List.map_nil]); first | done | rfl | (simp only [List.length_drop, List.length_take]; rfl)) ?_; (with_reducible refine (spec_l6Rd_pick.calls k g s0_0 s0_1 a1 t327 t328 w0 _ ?side1 ?side2 A3.out).mono ?_); (case side1 => repeat (first | (with_reducible first | exact HI0.out | apply IsS73.alloc | apply IsS73.drewN | apply IsS73.drew | apply IsS73.set_1 | refine IsS73.far ?_ NB0_326.out _) | exact HI0.out)); (case side2 => repeat (first | (with_reducible first | exact HB.out | apply below_alloc | apply pw_below_drewN | apply below_drew1 | refine below_set ?_ (IsS73.ge HI0.out) | refine below_set ?_ GE326.out) | exact HB.out)); rintro e w9 ⟨rfl, hi, hb, hk⟩; refine ⟨_, rfl, ?_⟩; have n0 := Az (KeepBut.blk hk (g' := gb326) (o := .cells #[.slice none 0 0, .slice none 0 0] 25 (0, 0)) (kU BK326.out) NB326_0.out (by simp)); have n1 := Az (KeepBut.trans (by repeat (first | (with_reducible first | exact HK.out | apply KeepBut.set_ | apply keep_drewN | apply keep_drew | apply keep_alloc | refine keep_far ?_ GW326.out _) | exact HK.out)) hk (.inl rfl)); have n2 := Az (hb); have n3 := Az (hi); clear BK326 HK HB HI0; have BK326 := n0; have HK := n1; have HB := n2; have HI0 := n3; clear n0 n1 n2 n3; (try clear hb); (try clear hb2); (try clear hk); (try clear hi)) | ((with_reducible refine gate_callee (f := 105) rfl ?_); refine goesL_ (some 21) rfl rfl Try.func105 (by kernel_rfl) rfl #[.pointer (some ⟨g, 0, none⟩), .int .i64 ji5] rfl (by (try simp only [List.map_toArray, List.map_cons, List.map_nil]); first | done | (simp only [hji5]; rfl) | rfl | (simp only [List.length_drop, List.length_take]; rfl)) ?_; (with_reducible refine (spec_l91Perm.calls k g s0_0 t328 ji5 t329 t332 w0 _ ?side1 ?side2 A4.out).mono ?_); (case side1 => repeat (first | (with_reducible first | exact HI0.out | apply IsS73.alloc | apply IsS73.drewN | apply IsS73.drew | apply IsS73.set_1 | refine IsS73.far ?_ NB0_326.out _) | exact HI0.out)); (case side2 => repeat (first | (with_reducible first | exact HB.out | apply below_alloc | apply pw_below_drewN | apply below_drew1 | refine below_set ?_ (IsS73.ge HI0.out) | refine below_set ?_ GE326.out) | exact HB.out)); rintro e w10 ⟨v330, rfl, ho0, hi, hb, hk⟩; refine ⟨_, rfl, ?_⟩; have n0 := Az (KeepBut.blk hk (g' := gb326) (o := .cells #[.slice none 0 0, .slice none 0 0] 25 (0, 0)) (kU BK326.out) NB326_0.out (by simp)); have n1 := Az (Kd.R_lower ho0 (keep_size (w := w) (g := g) (row := none) (by repeat (first | (with_reducible first | exact HK.out | apply KeepBut.set_ | apply keep_drewN | apply keep_drew | apply keep_alloc | refine keep_far ?_ GW326.out _) | exact HK.out)))); have n2 := Az (KeepBut.trans (by repeat (first | (with_reducible first | exact HK.out | apply KeepBut.set_ | apply keep_drewN | apply keep_drew | apply keep_alloc | refine keep_far ?_ GW326.out _) | exact HK.out)) hk (.inl rfl)); have n3 := Az (hb); have n4 := Az (hi); clear BK326 HK HB HI0; have BK326 := n0; have HO331 := n1; have HK := n2; have HB := n3; have HI0 := n4; clear n0 n1 n2 n3 n4; (try clear hb); (try clear hb2); (try clear hk); (try clear hi); (try clear ho0)) | ((with_reducible refine gate_dst (N := 23) rfl ?_); refine Kd.R_make (Kd.int .i64) _ 3 rfl (N := 23) rfl 23 _ _ rfl ji5 rfl rfl Try.underlying23 (.int .i64 0) 8 info3 rfl (by decide) (by omega) 0 (ok := fun _ => True) (okp := fun _ => True) rfl (fun _ hk => hk) trivial (oA) (Nat.le_trans (Nat.mul_le_mul_right _ (oA : ji5.toNat ≤ 35184372088832)) (by omega)) (Below.refl _ _) (Nat.le_refl _) ?_; intro v334 w11 ho12 hb hg_ hnew_; clear hg_ hnew_; (first | rw [← Ny333.out] at ho12 | (simp only [Int.reduceToNat] at ho12; rw [← Ny333.out] at ho12)); have n0 := Az (Kd.R_elder' (rU HO331.out) (Kd.R_base ho12) hb); have n1 := Az (Kd.R_lower (Kd.R_new' ho12 (Kd.R_lt (rU HO331.out))) (keep_size (w := w) (g := g) (row := none) (by repeat (first | (with_reducible first | exact HK.out | apply KeepBut.set_ | apply keep_drewN | apply keep_drew | apply keep_alloc | refine keep_far ?_ GW326.out _) | exact HK.out)))); have n2 := Az (IsS73.below (by repeat (first | (with_reducible first | exact HI0.out | apply IsS73.alloc | apply IsS73.drewN | apply IsS73.drew | apply IsS73.set_1 | refine IsS73.far ?_ NB0_326.out _) | exact HI0.out)) hb); have n3 := Az (blk_below (g := gb326) (o := .cells #[.slice none 0 0, .slice none 0 0] 25 (0, 0)) (kU BK326.out) hb); have n4 := Az (KeepBut.trans (by repeat (first | (with_reducible first | exact HK.out | apply KeepBut.set_ | apply keep_drewN | apply keep_drew | apply keep_alloc | refine keep_far ?_ GW326.out _) | exact HK.out)) (KeepBut.of_below hb g none) (.inl rfl)); have n5 := Az (below_step (by repeat (first | (with_reducible first | exact HB.out | apply below_alloc | apply pw_below_drewN | apply below_drew1 | refine below_set ?_ (IsS73.ge HI0.out) | refine below_set ?_ GE326.out) | exact HB.out)) hb); clear HO331 HI0 BK326 HK HB; have HO331 := n0; have HO335 := n1; have HI0 := n2; have BK326 := n3; have HK := n4; have HB := n5; clear n0 n1 n2 n3 n4 n5; clear hb ho12))
   go_loopg [8] k (fun kq v8 w' => ∃ (x7_1 : List Int) (x8_1 : Int), v8 = .int .i64 x8_1 ∧ Aside0 (spec_l91Map.l0 kq ji5 t329 x7_1 x8_1 s0_0 t332 = some (r1, r2, r3)) ∧ Aside0 (kq ≤ k) ∧ Aside0 (Kd.R (Kd.int .i64) 3 w' w.heap.size (fun k_ => some k_ ≠ (v334 : Value).ownBlock) v330 t329) ∧ Aside0 (Kd.R (Kd.int .i64) 3 w' w.heap.size (fun k_ => some k_ ≠ (v330 : Value).ownBlock) v334 x7_1) ∧ Aside0 (w'.heap[gb326]? = some (.cells #[(.slice none 0 0), (.slice none 0 0)] 25 (0, 0))) ∧ Aside0 (IsS73 w0 w' g s0_0 t332) ∧ Aside0 (KeepBut w w' g none) ∧ Aside0 (Below w0.heap.size w0 w'))
   case atStart => exact ⟨(y333), (0), rS, H', ⟨Nat.le_refl _⟩, ⟨by (with_reducible repeat (first | apply Kd.R_alloc | apply Kd.R_drewN | apply Kd.R_drew)); exact Kd.R_mono HO331.out (fun _ hk => hk.2)⟩, ⟨by (with_reducible repeat (first | apply Kd.R_alloc | apply Kd.R_drewN | apply Kd.R_drew)); exact Kd.R_mono HO335.out (fun _ hk => hk.2)⟩, ⟨kU BK326.out⟩, ⟨by repeat (first | (with_reducible first | exact HI0.out | apply IsS73.alloc | apply IsS73.drewN | apply IsS73.drew | apply IsS73.set_1 | refine IsS73.far ?_ NB0_326.out _) | exact HI0.out)⟩, ⟨by repeat (first | (with_reducible first | exact HK.out | apply KeepBut.set_ | apply keep_drewN | apply keep_drew | apply keep_alloc | refine keep_far ?_ GW326.out _) | exact HK.out)⟩, ⟨by repeat (first | (with_reducible first | exact HB.out | apply below_alloc | apply pw_below_drewN | apply below_drew1 | refine below_set ?_ (IsS73.ge HI0.out) | refine below_set ?_ GE326.out) | exact HB.out)⟩⟩
   case round =>
    clear H'; (try clear c1); (try clear p2); (try clear c6); (try clear c6b0); (try clear c6b1); (try clear p6); (try clear c7); (try clear c7b0); (try clear c7b1); (try clear c10); obtain ⟨x7_1, x8_1, rfl, HA, HK1, HO_6, HO_7, BK326, HI0, HK, HB⟩ := hrel
    cases gk with
    | zero => exact absurd HA.out (by simp [spec_l91Map.l0])
    | succ k1 =>
     have H := HA.out; clear HA; simp only [spec_l91Map.l0] at H
     by_cases c13 : (wrap64 (x8_1 + 1)) < ji5
     ·
      rw [if_pos c13] at H; have c13b0 := decide_eq_true c13; clear c13
      by_cases c14 : 0 ≤ x8_1
      ·
       rw [if_pos c14] at H; have c14b0 := decide_eq_true c14; clear c14
       by_cases c15 : x8_1 < (t329.length : Int)
       ·
        rw [if_pos c15] at H; have c15b0 := decide_eq_true c15; clear c15; obtain ⟨ji16, hji16⟩ : ∃ j_ : Int, (wrap64 (x8_1 + 1)) = j_ := ⟨_, rfl⟩
        replace H : (if 0 ≤ (ji16) then (if (ji16) < (t329.length : Int) then (if 0 ≤ (rd t329 x8_1) then (if (rd t329 x8_1) < (x7_1.length : Int) then (if 0 ≤ (rd t329 (ji16)) then (if (rd t329 (ji16)) < (x7_1.length : Int) then (spec_l91Map.l0 k1 ji5 t329 ((x7_1.set ((rd t329 x8_1) : Int).toNat (rd t329 (ji16))).set ((rd t329 (ji16)) : Int).toNat (rd t329 x8_1)) (wrap64 (x8_1 + 2)) s0_0 t332) else (none)) else (none)) else (none)) else (none)) else (none)) else (none)) = some (r1, r2, r3) := by first | (rw [hji16] at H; exact H) | (simp only [hji16] at H ⊢; exact H)
        (try rw [hji16] at c13b0); have hji16w : (IntKind.i64.wrap (x8_1 + 1)) = ji16 := (i64_w _).trans hji16
        by_cases c17 : 0 ≤ (ji16)
        ·
         rw [if_pos c17] at H; have c17b0 := decide_eq_true c17; clear c17
         by_cases c18 : (ji16) < (t329.length : Int)
         ·
          rw [if_pos c18] at H; have c18b0 := decide_eq_true c18; clear c18
          by_cases c19 : 0 ≤ (rd t329 x8_1)
          ·
           rw [if_pos c19] at H; have c19b0 := decide_eq_true c19; clear c19
           by_cases c20 : (rd t329 x8_1) < (x7_1.length : Int)
           ·
            rw [if_pos c20] at H; have c20b0 := decide_eq_true c20; clear c20; obtain ⟨y338, hy338⟩ : ∃ y_ : List Int, y_ = (x7_1.set ((rd t329 x8_1) : Int).toNat (rd t329 (ji16))) := ⟨_, rfl⟩; replace H : (if 0 ≤ (rd t329 (ji16)) then (if (rd t329 (ji16)) < (x7_1.length : Int) then (spec_l91Map.l0 k1 ji5 t329 (y338.set ((rd t329 (ji16)) : Int).toNat (rd t329 x8_1)) (wrap64 (x8_1 + 2)) s0_0 t332) else (none)) else (none)) = some (r1, r2, r3) := hR hy338 H; have Ny338 := Az hy338; clear hy338
            by_cases c22 : 0 ≤ (rd t329 (ji16))
            ·
             rw [if_pos c22] at H; have c22b0 := decide_eq_true c22; clear c22
             by_cases c23 : (rd t329 (ji16)) < (x7_1.length : Int)
             ·
              rw [if_pos c23] at H; have c23b0 := decide_eq_true c23; clear c23; obtain ⟨y341, hy341⟩ : ∃ y_ : List Int, y_ = (y338.set ((rd t329 (ji16)) : Int).toNat (rd t329 x8_1)) := ⟨_, rfl⟩; replace H : (spec_l91Map.l0 k1 ji5 t329 y341 (wrap64 (x8_1 + 2)) s0_0 t332) = some (r1, r2, r3) := hR hy341 H; have Ny341 := Az hy341; clear hy341; have H' := Az H; clear H
              try go_wp2
              have n0 := Az (Kd.R_drew HO_6.out); have n1 := Az (Kd.R_drew HO_7.out); have n2 := Az (blk_drew BK326.out); have n3 := Az (IsS73.drew HI0.out); have n4 := Az (keep_drew HK.out); have n5 := Az (below_drew1 HB.out); clear HO_6 HO_7 BK326 HI0 HK HB; have HO_6 := n0; have HO_7 := n1; have BK326 := n2; have HI0 := n3; have HK := n4; have HB := n5; clear n0 n1 n2 n3 n4 n5; obtain ⟨Ao26, co26, eo26⟩ := Kd.R_slice HO_6.out; (first | subst eo26 | (injection eo26 with f1_ f2_ f3_; have f4_ := f1_.symm; have f5_ := f3_.symm; clear f1_ f2_ f3_; subst f4_; subst f5_)); have p336 : 0 ≤ (x8_1 : Int) := oA; have q336 : x8_1 < (t329.length : Int) := oA; obtain ⟨ad336, e336, hx336_0⟩ := Kd.at_int (Kd.R_reads' HO_6.out).2.2 x8_1 p336 q336
              cases e336
              replace p336 := eq_true p336; replace q336 := eq_true q336; have p337 : 0 ≤ ((ji16) : Int) := oA; have q337 : (ji16) < (t329.length : Int) := oA; obtain ⟨ad337, e337, hx337_0⟩ := Kd.at_int (Kd.R_reads' HO_6.out).2.2 (ji16) p337 q337; obtain rfl : ad336 = ad337 := (by injection e337); replace p337 := eq_true p337; replace q337 := eq_true q337; have p21 : 0 ≤ ((rd t329 x8_1) : Int) := oA; have q21 : ((rd t329 x8_1) : Int) < ((x7_1.length : Int) : Int) := oA; obtain ⟨go21, co21, eo21, gb21, gl21, cl21, HG21⟩ := Kd.R_form HO_7.out (by omega); (first | cases eo21 | (injection eo21 with ea_ en_ ec_; (first | subst ea_ | (injection ea_ with ea_; subst ea_)); subst ec_; clear en_)); have GB21 := Az gb21; have GG21 := Az HG21; clear gb21 gl21 HG21; obtain ⟨hx21_0, hf21_0⟩ := Kd.R_celln 0 HO_7.out ((rd t329 x8_1) : Int) p21 q21; replace p21 := eq_true p21; replace q21 := eq_true q21; have HN0_go21 := Az (show g ≠ go21 from by have h_ := IsS73.own_ne HI0.out HO_7.out (by decide); intro e_; exact h_ (by rw [e_]; rfl)); have HP27 := Kd.R_putn HO_7.out ((rd t329 x8_1) : Int) (rd t329 (ji16)); rw [← Ny338.out] at HP27; have HQ27 := Az HP27; clear HP27
              refine start_ (n := 12) (S := fun w' => w'.cell? (ad336.add (x8_1).toNat) = some (.int .i64 (rd t329 x8_1)) ∧ w'.cell? (ad336.add ((ji16)).toNat) = some (.int .i64 (rd t329 (ji16)))) (ds := [11]) #[false, false, false, false, false, false, false, false, false, false, false, false] (by kernel_rfl) rfl rfl ⟨hx336_0, hx337_0⟩ (fun hHeld => ?_); refine with_tabW spec_l91Map.tab7 spec_l91Map.bits7 (fun HT_ HW_ => ?_)
              generalize wr.drew = w25 at HO_6 HO_7 BK326 HI0 HK HB GG21 HQ27 hf21_0 hx21_0 hx336_0 hx337_0 hHeld ⊢
              refine pure_ (i := 0) (N := some 30) (v := ?_) (a' := ?_) #[true, false, false, false, false, false, false, false, false, false, false, false] rfl rfl (any_of HT_.out (by kernel_rfl)) (fun _ _ _ h => h) (Or.inl ⟨by rfl, ?_⟩) ?_ ?_
              rotate_left
              ·
               intro w'
               go_simp
               with_reducible rfl
              rotate_left
              ·
               simp only [Act.put, List.setIfInBounds_toArray, List.set_cons_zero, List.set_cons_succ, i64_w, i32_w]
               rfl
              refine pure_ (i := 1) (N := some 31) (v := ?_) (a' := ?_) #[true, true, false, false, false, false, false, false, false, false, false, false] rfl rfl (any_of HT_.out (by kernel_rfl)) (fun _ _ _ h => h) (Or.inl ⟨by rfl, ?_⟩) ?_ ?_
              rotate_left
              ·
               intro w'
               go_simp
               with_reducible rfl
              rotate_left
              ·
               simp only [Act.put, List.setIfInBounds_toArray, List.set_cons_zero, List.set_cons_succ, i64_w, i32_w]
               rfl
              refine pure_ (i := 2) (N := some 32) (v := ?_) (a' := ?_) #[true, true, true, false, false, false, false, false, false, false, false, false] rfl rfl (any_of HT_.out (by kernel_rfl)) (fun _ _ _ h => h) (Or.inl ⟨by rfl, ?_⟩) ?_ ?_
              rotate_left
              ·
               intro w'
               go_simp
               with_reducible rfl
              rotate_left
              ·
               simp only [Act.put, List.setIfInBounds_toArray, List.set_cons_zero, List.set_cons_succ, i64_w, i32_w]
               rfl
              refine pure_ (i := 3) (N := some 33) (v := ?_) (a' := ?_) #[true, true, true, true, false, false, false, false, false, false, false, false] rfl rfl (any_of HT_.out (by kernel_rfl)) (fun _ _ _ h => h) (Or.inl ⟨by rfl, ?_⟩) ?_ ?_
              rotate_left
              ·
               intro w'
               go_simp
               with_reducible rfl
              rotate_left
              ·
               simp only [Act.put, List.setIfInBounds_toArray, List.set_cons_zero, List.set_cons_succ, i64_w, i32_w]
               rfl
              refine pure_ (i := 5) (N := some 35) (v := ?_) (a' := ?_) #[true, true, true, true, false, true, false, false, false, false, false, false] rfl rfl (any_of HT_.out (by kernel_rfl)) (fun _ _ _ h => h) (Or.inl ⟨by rfl, ?_⟩) ?_ ?_
              rotate_left
              ·
               intro w'
               go_simp
               with_reducible rfl
              rotate_left
              ·
               simp only [Act.put, List.setIfInBounds_toArray, List.set_cons_zero, List.set_cons_succ, i64_w, i32_w]
               rfl
              refine pure_ (i := 6) (N := some 36) (v := ?_) (a' := ?_) #[true, true, true, true, false, true, true, false, false, false, false, false] rfl rfl (any_of HT_.out (by kernel_rfl)) (fun _ _ _ h => h) (Or.inl ⟨by rfl, ?_⟩) ?_ ?_
              rotate_left
              ·
               intro w'
               go_simp
               with_reducible rfl
              rotate_left
              ·
               simp only [Act.put, List.setIfInBounds_toArray, List.set_cons_zero, List.set_cons_succ, i64_w, i32_w]
               rfl
              refine pure_ (i := 7) (N := some 37) (v := ?_) (a' := ?_) #[true, true, true, true, false, true, true, true, false, false, false, false] rfl rfl (any_of HT_.out (by kernel_rfl)) (fun _ _ _ h => h) (Or.inl ⟨by rfl, ?_⟩) ?_ ?_
              rotate_left
              ·
               intro w'
               go_simp
               with_reducible rfl
              rotate_left
              ·
               simp only [Act.put, List.setIfInBounds_toArray, List.set_cons_zero, List.set_cons_succ, i64_w, i32_w]
               rfl
              refine pure_ (i := 8) (N := some 38) (v := ?_) (a' := ?_) #[true, true, true, true, false, true, true, true, true, false, false, false] rfl rfl (any_of HT_.out (by kernel_rfl)) (fun _ _ _ h => h) (Or.inl ⟨by rfl, ?_⟩) ?_ ?_
              rotate_left
              ·
               intro w'
               go_simp
               with_reducible rfl
              rotate_left
              ·
               simp only [Act.put, List.setIfInBounds_toArray, List.set_cons_zero, List.set_cons_succ, i64_w, i32_w]
               rfl
              refine take_ (i := 4) (N := some 34) (v := ?_) (a' := ?_) #[true, true, true, true, true, true, true, true, true, false, false, false] rfl rfl (take_ofW HT_.out HW_.out (by kernel_rfl)) (fun _ _ _ h => h) (Or.inl ⟨by rfl, ?_⟩) hHeld ?_ ?_
              rotate_left
              ·
               rintro w' ⟨s0, s1⟩
               go_simp
               with_reducible rfl
              rotate_left
              ·
               simp only [Act.put, List.setIfInBounds_toArray, List.set_cons_zero, List.set_cons_succ, i64_w, i32_w]
               rfl
              refine take_ (i := 9) (N := some 39) (v := ?_) (a' := ?_) #[true, true, true, true, true, true, true, true, true, true, false, false] rfl rfl (take_ofW HT_.out HW_.out (by kernel_rfl)) (fun _ _ _ h => h) (Or.inl ⟨by rfl, ?_⟩) hHeld ?_ ?_
              rotate_left
              ·
               rintro w' ⟨s0, s1⟩
               go_simp
               with_reducible rfl
              rotate_left
              ·
               simp only [Act.put, List.setIfInBounds_toArray, List.set_cons_zero, List.set_cons_succ, i64_w, i32_w]
               rfl
              refine pure_ (i := 10) (N := some 40) (v := ?_) (a' := ?_) #[true, true, true, true, true, true, true, true, true, true, true, false] rfl rfl (any_of HT_.out (by kernel_rfl)) (fun _ _ _ h => h) (Or.inl ⟨by rfl, ?_⟩) ?_ ?_
              rotate_left
              ·
               intro w'
               go_simp
               with_reducible rfl
              rotate_left
              ·
               simp only [Act.put, List.setIfInBounds_toArray, List.set_cons_zero, List.set_cons_succ, i64_w, i32_w]
               rfl
              refine last_ (i := 11) (N := none) #[true, true, true, true, true, true, true, true, true, true, true, true] rfl rfl (one_of HT_.out (by kernel_rfl)) (by decide) (fun K hK => ?_)
              refine skip_ (w1 := ?_) (by rfl) rfl ?_ ?_
              rotate_left
              ·
               go_simp
               rfl
              refine hK.out _ _ ?_
              clear hK K
              refine done_ (done_of HT_.out (by kernel_rfl)) ?_
              try go_wp2
              have n0 : Aside0 (Kd.R (Kd.int .i64) 3 (w25.setCell ⟨go21, ((rd t329 x8_1) : Int).toNat, none⟩ (.int .i64 (rd t329 (ji16)))) w.heap.size (fun k_ => some k_ ≠ (.slice (some ⟨go21, 0, none⟩) x7_1.length co21 : Value).ownBlock) (.slice (some ad336) t329.length co26) t329) := ⟨by (with_reducible repeat (first | apply Kd.R_alloc | apply Kd.R_drewN | apply Kd.R_drew)); exact Kd.R_mono (Kd.R_far (p := ⟨go21, ((rd t329 x8_1) : Int).toNat, none⟩) (Kd.R_mono HO_6.out (fun k_ hk => (⟨hk, fun e_ => hk (by rw [e_]; rfl)⟩ : _ ∧ k_ ≠ go21))) (fun _ hk => hk.2) (.int .i64 (rd t329 (ji16)))) (fun _ hk => hk.1)⟩; have n1 : Aside0 (Kd.R (Kd.int .i64) 3 (w25.setCell ⟨go21, ((rd t329 x8_1) : Int).toNat, none⟩ (.int .i64 (rd t329 (ji16)))) w.heap.size (fun k_ => some k_ ≠ (.slice (some ad336) t329.length co26 : Value).ownBlock) (.slice (some ⟨go21, 0, none⟩) x7_1.length co21) y338) := ⟨rU HQ27.out⟩; have n2 : Aside0 ((w25.setCell ⟨go21, ((rd t329 x8_1) : Int).toNat, none⟩ (.int .i64 (rd t329 (ji16)))).heap[gb326]? = some (.cells #[.slice none 0 0, .slice none 0 0] 25 (0, 0))) := ⟨by (with_reducible repeat (first | refine blk_drewN ?_ _ | refine blk_drew ?_ | refine blk_alloc ?_ _)); refine blk_far ?_ (by have h_ := Kd.R_ne HO_7.out BK326.out (by decide); intro e_; exact h_ (by rw [e_]; rfl)) _; (with_reducible repeat (first | refine blk_drewN ?_ _ | refine blk_drew ?_ | refine blk_alloc ?_ _)); exact BK326.out⟩; have n3 : Aside0 (IsS73 w0 (w25.setCell ⟨go21, ((rd t329 x8_1) : Int).toNat, none⟩ (.int .i64 (rd t329 (ji16)))) g s0_0 t332) := ⟨by repeat (first | (with_reducible first | exact HI0.out | apply IsS73.alloc | apply IsS73.drewN | apply IsS73.drew | apply IsS73.set_1 | refine IsS73.far ?_ HN0_go21.out _ | refine IsS73.far ?_ NB0_326.out _) | exact HI0.out)⟩; have n4 : Aside0 (KeepBut w (w25.setCell ⟨go21, ((rd t329 x8_1) : Int).toNat, none⟩ (.int .i64 (rd t329 (ji16)))) g none) := ⟨by repeat (first | (with_reducible first | exact HK.out | apply KeepBut.set_ | apply keep_drewN | apply keep_drew | apply keep_alloc | refine keep_far ?_ GB21.out _ | refine keep_far ?_ GW326.out _) | exact HK.out)⟩; have n5 : Aside0 (Below w0.heap.size w0 (w25.setCell ⟨go21, ((rd t329 x8_1) : Int).toNat, none⟩ (.int .i64 (rd t329 (ji16))))) := ⟨by repeat (first | (with_reducible first | exact HB.out | apply below_alloc | apply pw_below_drewN | apply below_drew1 | refine below_set ?_ (Nat.le_trans HL.out GB21.out) | refine below_set ?_ (IsS73.ge HI0.out) | refine below_set ?_ GE326.out) | exact HB.out)⟩; (try clear HO_6); (try clear HO_7); (try clear BK326); (try clear HI0); (try clear HK); (try clear HB)
              generalize (w25.setCell ⟨go21, ((rd t329 x8_1) : Int).toNat, none⟩ (.int .i64 (rd t329 (ji16)))) = w28 at n0 n1 n2 n3 n4 n5 ⊢
              have HO_6 := n0; have HO_7 := n1; have BK326 := n2; have HI0 := n3; have HK := n4; have HB := n5; clear n0 n1 n2 n3 n4 n5; have n0 := Az (Kd.R_drew HO_6.out); have n1 := Az (Kd.R_drew HO_7.out); have n2 := Az (blk_drew BK326.out); have n3 := Az (IsS73.drew HI0.out); have n4 := Az (keep_drew HK.out); have n5 := Az (below_drew1 HB.out); clear HO_6 HO_7 BK326 HI0 HK HB; have HO_6 := n0; have HO_7 := n1; have BK326 := n2; have HI0 := n3; have HK := n4; have HB := n5; clear n0 n1 n2 n3 n4 n5; have p339 : 0 ≤ ((ji16) : Int) := oA; have q339 : (ji16) < (t329.length : Int) := oA; obtain ⟨ad339, e339, hx339_0⟩ := Kd.at_int (Kd.R_reads' HO_6.out).2.2 (ji16) p339 q339; obtain rfl : ad336 = ad339 := (by injection e339); replace p339 := eq_true p339; replace q339 := eq_true q339; have p340 : 0 ≤ (x8_1 : Int) := oA; have q340 : x8_1 < (t329.length : Int) := oA; obtain ⟨ad340, e340, hx340_0⟩ := Kd.at_int (Kd.R_reads' HO_6.out).2.2 x8_1 p340 q340; obtain rfl : ad336 = ad340 := (by injection e340); replace p340 := eq_true p340; replace q340 := eq_true q340; have p24 : 0 ≤ ((rd t329 (ji16)) : Int) := oA; have q24 : ((rd t329 (ji16)) : Int) < ((x7_1.length : Int) : Int) := oA; obtain ⟨hx24_0, hf24_0⟩ := Kd.R_celln 0 HO_7.out ((rd t329 (ji16)) : Int) p24 q24; replace p24 := eq_true p24; replace q24 := eq_true q24; have HN0_go21 := Az (show g ≠ go21 from by have h_ := IsS73.own_ne HI0.out HO_7.out (by decide); intro e_; exact h_ (by rw [e_]; rfl)); have HP30 := Kd.R_putn HO_7.out ((rd t329 (ji16)) : Int) (rd t329 x8_1); rw [← Ny341.out] at HP30; have HQ30 := Az HP30; clear HP30
              refine start_ (n := 12) (S := fun w' => w'.cell? (ad336.add ((ji16)).toNat) = some (.int .i64 (rd t329 (ji16))) ∧ w'.cell? (ad336.add (x8_1).toNat) = some (.int .i64 (rd t329 x8_1))) (ds := [11]) #[false, false, false, false, false, false, false, false, false, false, false, false] (by kernel_rfl) rfl rfl ⟨hx339_0, hx340_0⟩ (fun hHeld => ?_); refine with_tabW spec_l91Map.tab8 spec_l91Map.bits8 (fun HT_ HW_ => ?_)
              generalize w28.drew = w29 at HO_6 HO_7 BK326 HI0 HK HB HQ27 HQ30 hf24_0 hx24_0 hx339_0 hx340_0 hHeld ⊢
              refine pure_ (i := 0) (N := some 41) (v := ?_) (a' := ?_) #[true, false, false, false, false, false, false, false, false, false, false, false] rfl rfl (any_of HT_.out (by kernel_rfl)) (fun _ _ _ h => h) (Or.inl ⟨by rfl, ?_⟩) ?_ ?_
              rotate_left
              ·
               intro w'
               go_simp
               with_reducible rfl
              rotate_left
              ·
               simp only [Act.put, List.setIfInBounds_toArray, List.set_cons_zero, List.set_cons_succ, i64_w, i32_w]
               rfl
              refine pure_ (i := 1) (N := some 42) (v := ?_) (a' := ?_) #[true, true, false, false, false, false, false, false, false, false, false, false] rfl rfl (any_of HT_.out (by kernel_rfl)) (fun _ _ _ h => h) (Or.inl ⟨by rfl, ?_⟩) ?_ ?_
              rotate_left
              ·
               intro w'
               go_simp
               with_reducible rfl
              rotate_left
              ·
               simp only [Act.put, List.setIfInBounds_toArray, List.set_cons_zero, List.set_cons_succ, i64_w, i32_w]
               rfl
              refine pure_ (i := 2) (N := some 43) (v := ?_) (a' := ?_) #[true, true, true, false, false, false, false, false, false, false, false, false] rfl rfl (any_of HT_.out (by kernel_rfl)) (fun _ _ _ h => h) (Or.inl ⟨by rfl, ?_⟩) ?_ ?_
              rotate_left
              ·
               intro w'
               go_simp
               with_reducible rfl
              rotate_left
              ·
               simp only [Act.put, List.setIfInBounds_toArray, List.set_cons_zero, List.set_cons_succ, i64_w, i32_w]
               rfl
              refine pure_ (i := 3) (N := some 44) (v := ?_) (a' := ?_) #[true, true, true, true, false, false, false, false, false, false, false, false] rfl rfl (any_of HT_.out (by kernel_rfl)) (fun _ _ _ h => h) (Or.inl ⟨by rfl, ?_⟩) ?_ ?_
              rotate_left
              ·
               intro w'
               go_simp
               with_reducible rfl
              rotate_left
              ·
               simp only [Act.put, List.setIfInBounds_toArray, List.set_cons_zero, List.set_cons_succ, i64_w, i32_w]
               rfl
              refine pure_ (i := 4) (N := some 45) (v := ?_) (a' := ?_) #[true, true, true, true, true, false, false, false, false, false, false, false] rfl rfl (any_of HT_.out (by kernel_rfl)) (fun _ _ _ h => h) (Or.inl ⟨by rfl, ?_⟩) ?_ ?_
              rotate_left
              ·
               intro w'
               go_simp
               with_reducible rfl
              rotate_left
              ·
               simp only [Act.put, List.setIfInBounds_toArray, List.set_cons_zero, List.set_cons_succ, i64_w, i32_w]
               rfl
              refine pure_ (i := 6) (N := some 47) (v := ?_) (a' := ?_) #[true, true, true, true, true, false, true, false, false, false, false, false] rfl rfl (any_of HT_.out (by kernel_rfl)) (fun _ _ _ h => h) (Or.inl ⟨by rfl, ?_⟩) ?_ ?_
              rotate_left
              ·
               intro w'
               go_simp
               with_reducible rfl
              rotate_left
              ·
               simp only [Act.put, List.setIfInBounds_toArray, List.set_cons_zero, List.set_cons_succ, i64_w, i32_w]
               rfl
              refine pure_ (i := 7) (N := some 48) (v := ?_) (a' := ?_) #[true, true, true, true, true, false, true, true, false, false, false, false] rfl rfl (any_of HT_.out (by kernel_rfl)) (fun _ _ _ h => h) (Or.inl ⟨by rfl, ?_⟩) ?_ ?_
              rotate_left
              ·
               intro w'
               go_simp
               with_reducible rfl
              rotate_left
              ·
               simp only [Act.put, List.setIfInBounds_toArray, List.set_cons_zero, List.set_cons_succ, i64_w, i32_w]
               rfl
              refine pure_ (i := 8) (N := some 49) (v := ?_) (a' := ?_) #[true, true, true, true, true, false, true, true, true, false, false, false] rfl rfl (any_of HT_.out (by kernel_rfl)) (fun _ _ _ h => h) (Or.inl ⟨by rfl, ?_⟩) ?_ ?_
              rotate_left
              ·
               intro w'
               go_simp
               with_reducible rfl
              rotate_left
              ·
               simp only [Act.put, List.setIfInBounds_toArray, List.set_cons_zero, List.set_cons_succ, i64_w, i32_w]
               rfl
              refine take_ (i := 5) (N := some 46) (v := ?_) (a' := ?_) #[true, true, true, true, true, true, true, true, true, false, false, false] rfl rfl (take_ofW HT_.out HW_.out (by kernel_rfl)) (fun _ _ _ h => h) (Or.inl ⟨by rfl, ?_⟩) hHeld ?_ ?_
              rotate_left
              ·
               rintro w' ⟨s0, s1⟩
               go_simp
               with_reducible rfl
              rotate_left
              ·
               simp only [Act.put, List.setIfInBounds_toArray, List.set_cons_zero, List.set_cons_succ, i64_w, i32_w]
               rfl
              refine take_ (i := 9) (N := some 50) (v := ?_) (a' := ?_) #[true, true, true, true, true, true, true, true, true, true, false, false] rfl rfl (take_ofW HT_.out HW_.out (by kernel_rfl)) (fun _ _ _ h => h) (Or.inl ⟨by rfl, ?_⟩) hHeld ?_ ?_
              rotate_left
              ·
               rintro w' ⟨s0, s1⟩
               go_simp
               with_reducible rfl
              rotate_left
              ·
               simp only [Act.put, List.setIfInBounds_toArray, List.set_cons_zero, List.set_cons_succ, i64_w, i32_w]
               rfl
              refine pure_ (i := 10) (N := some 51) (v := ?_) (a' := ?_) #[true, true, true, true, true, true, true, true, true, true, true, false] rfl rfl (any_of HT_.out (by kernel_rfl)) (fun _ _ _ h => h) (Or.inl ⟨by rfl, ?_⟩) ?_ ?_
              rotate_left
              ·
               intro w'
               go_simp
               with_reducible rfl
              rotate_left
              ·
               simp only [Act.put, List.setIfInBounds_toArray, List.set_cons_zero, List.set_cons_succ, i64_w, i32_w]
               rfl
              refine last_ (i := 11) (N := none) #[true, true, true, true, true, true, true, true, true, true, true, true] rfl rfl (one_of HT_.out (by kernel_rfl)) (by decide) (fun K hK => ?_)
              refine skip_ (w1 := ?_) (by rfl) rfl ?_ ?_
              rotate_left
              ·
               go_simp
               rfl
              refine hK.out _ _ ?_
              clear hK K
              refine done_ (done_of HT_.out (by kernel_rfl)) ?_
              try go_wp2
              (first | go_roundg k1 | (refine Handed.intro k1 ?measure ?_; rotate_left; go_step; (try simp only [add_plain]); (repeat apply Exists.intro); refine ⟨?rel, rfl⟩))
              case measure => have := HK1.out; omega
              case rel => exact ⟨(y341), (wrap64 (x8_1 + 2)), rS, H', ⟨by have := HK1.out; omega⟩, ⟨by (with_reducible repeat (first | apply Kd.R_alloc | apply Kd.R_drewN | apply Kd.R_drew)); exact Kd.R_mono (Kd.R_far (p := ⟨go21, ((rd t329 (ji16)) : Int).toNat, none⟩) (Kd.R_mono HO_6.out (fun k_ hk => (⟨hk, fun e_ => hk (by rw [e_]; rfl)⟩ : _ ∧ k_ ≠ go21))) (fun _ hk => hk.2) (.int .i64 (rd t329 x8_1))) (fun _ hk => hk.1)⟩, ⟨rU HQ30.out⟩, ⟨by (with_reducible repeat (first | refine blk_drewN ?_ _ | refine blk_drew ?_ | refine blk_alloc ?_ _)); refine blk_far ?_ (by have h_ := Kd.R_ne HO_7.out BK326.out (by decide); intro e_; exact h_ (by rw [e_]; rfl)) _; (with_reducible repeat (first | refine blk_drewN ?_ _ | refine blk_drew ?_ | refine blk_alloc ?_ _)); exact BK326.out⟩, ⟨by repeat (first | (with_reducible first | exact HI0.out | apply IsS73.alloc | apply IsS73.drewN | apply IsS73.drew | apply IsS73.set_1 | refine IsS73.far ?_ HN0_go21.out _ | refine IsS73.far ?_ NB0_326.out _) | exact HI0.out)⟩, ⟨by repeat (first | (with_reducible first | exact HK.out | apply KeepBut.set_ | apply keep_drewN | apply keep_drew | apply keep_alloc | refine keep_far ?_ GB21.out _ | refine keep_far ?_ GW326.out _) | exact HK.out)⟩, ⟨by repeat (first | (with_reducible first | exact HB.out | apply below_alloc | apply pw_below_drewN | apply below_drew1 | refine below_set ?_ (Nat.le_trans HL.out GB21.out) | refine below_set ?_ (IsS73.ge HI0.out) | refine below_set ?_ GE326.out) | exact HB.out)⟩⟩
             ·
              rw [if_neg c23] at H
              exact absurd H (by simp)
            ·
             rw [if_neg c22] at H
             exact absurd H (by simp)
           ·
            rw [if_neg c20] at H
            exact absurd H (by simp)
          ·
           rw [if_neg c19] at H
           exact absurd H (by simp)
         ·
          rw [if_neg c18] at H
          exact absurd H (by simp)
        ·
         rw [if_neg c17] at H
         exact absurd H (by simp)
       ·
        rw [if_neg c15] at H
        exact absurd H (by simp)
      ·
       rw [if_neg c14] at H
       exact absurd H (by simp)
     ·
      rw [if_neg c13] at H; have c13b0 := decide_eq_false c13; clear c13; replace H := Option.bind_eq_some_iff.mp H; obtain ⟨⟨t342, t345⟩, A310, H⟩ := H; replace H : (spec_l91Map.l1 k1 ji5 0 s0_0 t345 t342 x7_1) = some (r1, r2, r3) := H; have A31 := Az A310; clear A310; have H' := Az H; clear H
      go_wp2_with (first | ((with_reducible refine gate_callee (f := 105) rfl ?_); refine goesL_ (some 54) rfl rfl Try.func105 (by kernel_rfl) rfl #[.pointer (some ⟨g, 0, none⟩), .int .i64 ji5] rfl (by (try simp only [List.map_toArray, List.map_cons, List.map_nil]); first | done | (simp only [hji5]; rfl) | rfl | (simp only [List.length_drop, List.length_take]; rfl)) ?_; (with_reducible refine (spec_l91Perm.calls k1 g s0_0 t332 ji5 t342 t345 w0 _ ?side1 ?side2 A31.out).mono ?_); (case side1 => repeat (first | (with_reducible first | exact HI0.out | apply IsS73.alloc | apply IsS73.drewN | apply IsS73.drew | apply IsS73.set_1 | refine IsS73.far ?_ NB0_326.out _) | exact HI0.out)); (case side2 => repeat (first | (with_reducible first | exact HB.out | apply below_alloc | apply pw_below_drewN | apply below_drew1 | refine below_set ?_ (IsS73.ge HI0.out) | refine below_set ?_ GE326.out) | exact HB.out)); rintro e w32 ⟨v343, rfl, ho0, hi, hb, hk⟩; refine ⟨_, rfl, ?_⟩; have n0 := Az (Kd.R_mono (Kd.R_told (Kd.R_oldK (IsS73.apart (show IsS73 w0 _ g s0_0 t332 from by repeat (first | (with_reducible first | exact HI0.out | apply IsS73.alloc | apply IsS73.drewN | apply IsS73.drew | apply IsS73.set_1 | refine IsS73.far ?_ NB0_326.out _) | exact HI0.out)) (rU HO_6.out) (by decide)) hk) (Kd.R_base ho0)) (fun _ h_ => h_.1)); have n1 := Az (Kd.R_mono (Kd.R_told (Kd.R_oldK (IsS73.apart (show IsS73 w0 _ g s0_0 t332 from by repeat (first | (with_reducible first | exact HI0.out | apply IsS73.alloc | apply IsS73.drewN | apply IsS73.drew | apply IsS73.set_1 | refine IsS73.far ?_ NB0_326.out _) | exact HI0.out)) (rU HO_7.out) (by decide)) hk) (Kd.R_base ho0)) (fun _ h_ => h_.1)); have n2 := Az (KeepBut.blk hk (g' := gb326) (o := .cells #[.slice none 0 0, .slice none 0 0] 25 (0, 0)) (kU BK326.out) NB326_0.out (by simp)); have n3 := Az (Kd.R_lower (Kd.R_new' (Kd.R_new' ho0 (Kd.R_lt (rU HO_6.out))) (Kd.R_lt (rU HO_7.out))) (keep_size (w := w) (g := g) (row := none) (by repeat (first | (with_reducible first | exact HK.out | apply KeepBut.set_ | apply keep_drewN | apply keep_drew | apply keep_alloc | refine keep_far ?_ GW326.out _) | exact HK.out)))); have n4 := Az (KeepBut.trans (by repeat (first | (with_reducible first | exact HK.out | apply KeepBut.set_ | apply keep_drewN | apply keep_drew | apply keep_alloc | refine keep_far ?_ GW326.out _) | exact HK.out)) hk (.inl rfl)); have n5 := Az (hb); have n6 := Az (hi); clear HO_6 HO_7 BK326 HK HB HI0; have HO_6 := n0; have HO_7 := n1; have BK326 := n2; have HO344 := n3; have HK := n4; have HB := n5; have HI0 := n6; clear n0 n1 n2 n3 n4 n5 n6; (try clear hb); (try clear hb2); (try clear hk); (try clear hi); (try clear ho0); obtain ⟨Ao33, co33, eo33⟩ := Kd.R_slice HO_7.out; subst eo33; obtain ⟨Ao34, co34, eo34⟩ := Kd.R_slice HO344.out; subst eo34) | ((with_reducible refine gate_dst (N := 9) rfl ?_); refine box_event ?hg (N := 9) ?hd (cs := #[.slice none 0 0, .slice none 0 0]) (t := 25) ?hr ?_; (case hd => rfl); (case hg => rfl); (case hr => first | (go_simp; done) | (go_simp; rfl)); intro gb346 hg w35 hbox hb; have n0 := Az (Kd.R_below (rU HO_6.out) hb); have n1 := Az (Kd.R_below (rU HO_7.out) hb); have n2 := Az (Kd.R_below (rU HO344.out) hb); have n3 := Az (blk_below (g := gb326) (o := .cells #[.slice none 0 0, .slice none 0 0] 25 (0, 0)) (kU BK326.out) hb); have n4 := Az (IsS73.below (by repeat (first | (with_reducible first | exact HI0.out | apply IsS73.alloc | apply IsS73.drewN | apply IsS73.drew | apply IsS73.set_1 | refine IsS73.far ?_ NB0_326.out _) | exact HI0.out)) hb); have n5 := Az (KeepBut.trans (by repeat (first | (with_reducible first | exact HK.out | apply KeepBut.set_ | apply keep_drewN | apply keep_drew | apply keep_alloc | refine keep_far ?_ GW326.out _) | exact HK.out)) (KeepBut.of_below hb g none) (.inl rfl)); have n6 := Az (below_step (by repeat (first | (with_reducible first | exact HB.out | apply below_alloc | apply pw_below_drewN | apply below_drew1 | refine below_set ?_ (IsS73.ge HI0.out) | refine below_set ?_ GE326.out) | exact HB.out)) hb); have n7 := Az (hbox); have n8 := Az ((by rw [hg]; exact (keep_size (w := w) (g := g) (row := none) (by repeat (first | (with_reducible first | exact HK.out | apply KeepBut.set_ | apply keep_drewN | apply keep_drew | apply keep_alloc | refine keep_far ?_ GW326.out _) | exact HK.out))) : w.heap.size ≤ gb346)); have n9 := Az ((Nat.le_trans HW0.out (by rw [hg]; exact (keep_size (w := w) (g := g) (row := none) (by repeat (first | (with_reducible first | exact HK.out | apply KeepBut.set_ | apply keep_drewN | apply keep_drew | apply keep_alloc | refine keep_far ?_ GW326.out _) | exact HK.out))) : w.heap.size ≤ gb346) : w0.heap.size ≤ gb346)); have n10 := Az ((by rw [hg]; exact Nat.ne_of_lt (blk_lt (g := gb326) (o := .cells #[.slice none 0 0, .slice none 0 0] 25 (0, 0)) (kU BK326.out)) : gb326 ≠ gb346)); have n11 := Az ((by rw [hg]; exact Nat.ne_of_gt (blk_lt (g := gb326) (o := .cells #[.slice none 0 0, .slice none 0 0] 25 (0, 0)) (kU BK326.out)) : gb346 ≠ gb326)); have n12 := Az ((by rw [hg]; exact Nat.ne_of_lt (IsS73.lt (show IsS73 w0 _ g s0_0 t345 from by repeat (first | (with_reducible first | exact HI0.out | apply IsS73.alloc | apply IsS73.drewN | apply IsS73.drew | apply IsS73.set_1 | refine IsS73.far ?_ NB0_326.out _) | exact HI0.out))) : g ≠ gb346)); have n13 := Az ((by rw [hg]; exact Nat.ne_of_gt (IsS73.lt (show IsS73 w0 _ g s0_0 t345 from by repeat (first | (with_reducible first | exact HI0.out | apply IsS73.alloc | apply IsS73.drewN | apply IsS73.drew | apply IsS73.set_1 | refine IsS73.far ?_ NB0_326.out _) | exact HI0.out))) : gb346 ≠ g)); clear HO_6 HO_7 HO344 BK326 HI0 HK HB; have HO_6 := n0; have HO_7 := n1; have HO344 := n2; have BK326 := n3; have HI0 := n4; have HK := n5; have HB := n6; have BK346 := n7; have GW346 := n8; have GE346 := n9; have NB326_346 := n10; have NB346_326 := n11; have NB0_346 := n12; have NB346_0 := n13; clear n0 n1 n2 n3 n4 n5 n6 n7 n8 n9 n10 n11 n12 n13 hb hbox hg; have hnb36 := NB346_326.out; have hnc36 := NB326_346.out; have hnb37 := NB346_0.out; have hnc37 := NB0_346.out; have hcz38_0 : w35.cell? ⟨gb346, 0, none⟩ = some (.slice none 0 0) := (blk_cell BK346.out 0).trans rfl; have hcz38_1 : w35.cell? ⟨gb346, 1, none⟩ = some (.slice none 0 0) := (blk_cell BK346.out 1).trans rfl; have hfz38_0 := blk_frozen BK346.out 0; have hfz38_1 := blk_frozen BK346.out 1))
      go_loopg [10] k1 (fun kq v10 w' => ∃ (x10_2 : Int) (xZ0_2 : List Int) (xZ1_2 : List Int) (uZ0 : Value) (uZ1 : Value), v10 = .int .i64 x10_2 ∧ Aside0 (spec_l91Map.l1 kq ji5 x10_2 s0_0 t345 xZ0_2 xZ1_2 = some (r1, r2, r3)) ∧ Aside0 (kq ≤ k1) ∧ Aside0 (Kd.Q (Kd.int .i64) 3 w' w.heap.size (fun k_ => some k_ ≠ (uZ1 : Value).ownBlock) uZ0 xZ0_2) ∧ Aside0 (Kd.R (Kd.int .i64) 3 w' w.heap.size (fun k_ => some k_ ≠ (uZ0 : Value).ownBlock) uZ1 xZ1_2) ∧ Aside0 (w'.heap[gb326]? = some (.cells #[(.slice none 0 0), (.slice none 0 0)] 25 (0, 0))) ∧ Aside0 (w'.heap[gb346]? = some (.cells #[uZ0, uZ1] 25 (0, 0))) ∧ Aside0 (IsS73 w0 w' g s0_0 t345) ∧ Aside0 (KeepBut w w' g none) ∧ Aside0 (Below w0.heap.size w0 w'))
      case atStart => exact ⟨(0), (t342), (x7_1), (.slice Ao34 t342.length co34), (.slice Ao33 x7_1.length co33), rS, H', ⟨Nat.le_refl _⟩, ⟨Kd.Q_of_R (by (with_reducible repeat (first | apply Kd.R_alloc | apply Kd.R_drewN | apply Kd.R_drew)); exact Kd.R_mono (Kd.R_far (p := ⟨gb346, 1, none⟩) (Kd.R_far (p := ⟨gb346, 0, none⟩) (Kd.R_types HO344.out BK346.out (by decide)) (fun _ hk => hk.2) (.slice Ao34 t342.length co34)) (fun _ hk => hk.2) (.slice Ao33 x7_1.length co33)) (fun _ hk => hk.1.2))⟩, ⟨by (with_reducible repeat (first | apply Kd.R_alloc | apply Kd.R_drewN | apply Kd.R_drew)); exact Kd.R_mono (Kd.R_far (p := ⟨gb346, 1, none⟩) (Kd.R_far (p := ⟨gb346, 0, none⟩) (Kd.R_types HO_7.out BK346.out (by decide)) (fun _ hk => hk.2) (.slice Ao34 t342.length co34)) (fun _ hk => hk.2) (.slice Ao33 x7_1.length co33)) (fun _ hk => hk.1.2)⟩, ⟨by (with_reducible repeat (first | refine blk_drewN ?_ _ | refine blk_drew ?_ | refine blk_alloc ?_ _)); refine blk_far ?_ NB326_346.out _; (with_reducible repeat (first | refine blk_drewN ?_ _ | refine blk_drew ?_ | refine blk_alloc ?_ _)); refine blk_far ?_ NB326_346.out _; (with_reducible repeat (first | refine blk_drewN ?_ _ | refine blk_drew ?_ | refine blk_alloc ?_ _)); exact BK326.out⟩, ⟨by (with_reducible repeat (first | refine blk_drewN ?_ _ | refine blk_drew ?_ | refine blk_alloc ?_ _)); refine blk_put (cs := #[.slice Ao34 t342.length co34, .slice none 0 0]) ?_ 1 _ rfl; (with_reducible repeat (first | refine blk_drewN ?_ _ | refine blk_drew ?_ | refine blk_alloc ?_ _)); refine blk_put (cs := #[.slice none 0 0, .slice none 0 0]) ?_ 0 _ rfl; (with_reducible repeat (first | refine blk_drewN ?_ _ | refine blk_drew ?_ | refine blk_alloc ?_ _)); exact BK346.out⟩, ⟨by repeat (first | (with_reducible first | exact HI0.out | apply IsS73.alloc | apply IsS73.drewN | apply IsS73.drew | apply IsS73.set_1 | refine IsS73.far ?_ NB0_326.out _ | refine IsS73.far ?_ NB0_346.out _) | exact HI0.out)⟩, ⟨by repeat (first | (with_reducible first | exact HK.out | apply KeepBut.set_ | apply keep_drewN | apply keep_drew | apply keep_alloc | refine keep_far ?_ GW326.out _ | refine keep_far ?_ GW346.out _) | exact HK.out)⟩, ⟨by repeat (first | (with_reducible first | exact HB.out | apply below_alloc | apply pw_below_drewN | apply below_drew1 | refine below_set ?_ (IsS73.ge HI0.out) | refine below_set ?_ GE326.out | refine below_set ?_ GE346.out) | exact HB.out)⟩⟩
      case round =>
       clear H'; (try clear c1); (try clear c2); (try clear p2); (try clear q2); (try clear hx2); (try clear hf2); (try clear c3); (try clear p3); (try clear q3); (try clear hx3); (try clear c6); (try clear c6b0); (try clear c6b1); (try clear p6); (try clear c7); (try clear c7b0); (try clear c7b1); (try clear c10); (try clear c13); (try clear c13b0); (try clear c14); (try clear c14b0); (try clear c15); (try clear c15b0); (try clear c17); (try clear c17b0); (try clear c18); (try clear c18b0); (try clear c19); (try clear c19b0); (try clear c20); (try clear c20b0); (try clear p21); (try clear q21); (try clear hx21); (try clear hf21); (try clear c22); (try clear c22b0); (try clear c23); (try clear c23b0); (try clear p24); (try clear q24); (try clear hx24); (try clear hf24); (try clear p33); (try clear q33); (try clear hx33); (try clear p34); (try clear q34); (try clear hx34); (try clear c36); (try clear c37); (try clear hcz38_0); (try clear hcz38_1); (try clear hfz38_0); (try clear hfz38_1); (try clear hx21_0); (try clear hx24_0); (try clear hx336_0); (try clear hx337_0); (try clear hx339_0); (try clear hx340_0); (try clear p2); (try clear p21); (try clear p24); (try clear p336); (try clear p337); (try clear p339); (try clear p340); (try clear p6); (try clear q21); (try clear q24); (try clear q336); (try clear q337); (try clear q339); (try clear q340); obtain ⟨x10_2, xZ0_2, xZ1_2, uZ0, uZ1, rfl, HA, HK2, HO_Z0, HO_Z1, BK326, BK346, HI0, HK, HB⟩ := hrel
       cases gk with
       | zero => exact absurd HA.out (by simp [spec_l91Map.l1])
       | succ k2 =>
        have H := HA.out; clear HA; simp only [spec_l91Map.l1] at H; have HC39 := Az H; clear H
        go_upto_region 11 with (fail)
        go_cut [64] (fun v64 wc => ∃ (kq : Nat) (x64_38 : Bool), v64 = .bool x64_38 ∧ Aside0 (spec_l91Map.j2 kq ji5 x10_2 x64_38 s0_0 t345 xZ0_2 xZ1_2 = some (r1, r2, r3)) ∧ Aside0 (kq ≤ k2) ∧ Aside0 (Kd.Q (Kd.int .i64) 3 wc w.heap.size (fun k_ => some k_ ≠ (uZ1 : Value).ownBlock) uZ0 xZ0_2) ∧ Aside0 (Kd.R (Kd.int .i64) 3 wc w.heap.size (fun k_ => some k_ ≠ (uZ0 : Value).ownBlock) uZ1 xZ1_2) ∧ Aside0 (wc.heap[gb326]? = some (.cells #[(.slice none 0 0), (.slice none 0 0)] 25 (0, 0))) ∧ Aside0 (wc.heap[gb346]? = some (.cells #[uZ0, uZ1] 25 (0, 0))) ∧ Aside0 (IsS73 w0 wc g s0_0 t345) ∧ Aside0 (KeepBut w wc g none) ∧ Aside0 (Below w0.heap.size w0 wc))
        case first =>
         have H := HC39.out; clear HC39
         by_cases c40 : x10_2 < ji5
         ·
          rw [if_pos c40] at H; have c40b0 := decide_eq_true c40; clear c40; (first | rw [c40b0] | (simp only [i64_w, i32_w]; rw [c40b0]) | skip); replace H := Option.bind_eq_some_iff.mp H; obtain ⟨t347, A410, H⟩ := H; replace H : (spec_l91Map.j2 k2 ji5 x10_2 (!t347) s0_0 t345 xZ0_2 xZ1_2) = some (r1, r2, r3) := H; have A41 := Az A410; clear A410; have H' := Az H; clear H; have hnb42 := NB346_326.out; have hnc42 := NB326_346.out; have hnb43 := NB346_0.out; have hnc43 := NB0_346.out; have hcz44_0 : wr.cell? ⟨gb346, 0, none⟩ = some (uZ0) := (blk_cell BK346.out 0).trans rfl; have hcz44_1 : wr.cell? ⟨gb346, 1, none⟩ = some (uZ1) := (blk_cell BK346.out 1).trans rfl; have hfz44_0 := blk_frozen BK346.out 0; have hfz44_1 := blk_frozen BK346.out 1; obtain ⟨Ao45, co45, eo45, _⟩ := Kd.Q_slice HO_Z0.out; subst eo45; obtain ⟨Ao46, co46, eo46⟩ := Kd.R_slice HO_Z1.out; subst eo46
          go_wp2_with (first | (go_at_call 61; (with_reducible refine (spec_MapValid.calls k2 _ _ xZ0_2 _ _ xZ1_2 t347 _ ?side1 ?side2 ?side3 ?side4 A41.out).mono ?_); (case side1 => exact cU ((Kd.Q_reads' HO_Z0.out).2.2)); (case side2 => exact (Kd.Q_reads' HO_Z0.out).2.1); (case side3 => exact cU ((Kd.R_reads' HO_Z1.out).2.2)); (case side4 => exact (Kd.R_reads' HO_Z1.out).2.1); rintro e w47 ⟨rfl, hb⟩; have n0 := Az (Kd.Q_below (qU HO_Z0.out) hb); have n1 := Az (Kd.R_below (rU HO_Z1.out) hb); have n2 := Az (blk_below (g := gb326) (o := .cells #[.slice none 0 0, .slice none 0 0] 25 (0, 0)) (kU BK326.out) hb); have n3 := Az (blk_below (g := gb346) (o := .cells #[.slice Ao45 xZ0_2.length co45, .slice Ao46 xZ1_2.length co46] 25 (0, 0)) (kU BK346.out) hb); have n4 := Az (IsS73.below (by repeat (first | (with_reducible first | exact HI0.out | apply IsS73.alloc | apply IsS73.drewN | apply IsS73.drew | apply IsS73.set_1 | refine IsS73.far ?_ NB0_326.out _ | refine IsS73.far ?_ NB0_346.out _) | exact HI0.out)) hb); have n5 := Az (KeepBut.trans (by repeat (first | (with_reducible first | exact HK.out | apply KeepBut.set_ | apply keep_drewN | apply keep_drew | apply keep_alloc | refine keep_far ?_ GW326.out _ | refine keep_far ?_ GW346.out _) | exact HK.out)) (KeepBut.of_below hb g none) (.inl rfl)); have n6 := Az (below_step (by repeat (first | (with_reducible first | exact HB.out | apply below_alloc | apply pw_below_drewN | apply below_drew1 | refine below_set ?_ (IsS73.ge HI0.out) | refine below_set ?_ GE326.out | refine below_set ?_ GE346.out) | exact HB.out)) hb); clear HO_Z0 HO_Z1 BK326 BK346 HI0 HK HB; have HO_Z0 := n0; have HO_Z1 := n1; have BK326 := n2; have BK346 := n3; have HI0 := n4; have HK := n5; have HB := n6; clear n0 n1 n2 n3 n4 n5 n6; (try clear hb); (try clear hb2); (try clear hk); (try clear hi)))
          go_meet
          case rel => exact ⟨_, (!t347), rS, H', ⟨by have := HK1.out; have := HK2.out; first | omega | exact Nat.le_refl _⟩, ⟨qU HO_Z0.out⟩, ⟨rU HO_Z1.out⟩, ⟨kU BK326.out⟩, ⟨kU BK346.out⟩, ⟨by repeat (first | (with_reducible first | exact HI0.out | apply IsS73.alloc | apply IsS73.drewN | apply IsS73.drew | apply IsS73.set_1 | refine IsS73.far ?_ NB0_326.out _ | refine IsS73.far ?_ NB0_346.out _) | exact HI0.out)⟩, ⟨by repeat (first | (with_reducible first | exact HK.out | apply KeepBut.set_ | apply keep_drewN | apply keep_drew | apply keep_alloc | refine keep_far ?_ GW326.out _ | refine keep_far ?_ GW346.out _) | exact HK.out)⟩, ⟨by repeat (first | (with_reducible first | exact HB.out | apply below_alloc | apply pw_below_drewN | apply below_drew1 | refine below_set ?_ (IsS73.ge HI0.out) | refine below_set ?_ GE326.out | refine below_set ?_ GE346.out) | exact HB.out)⟩⟩
         ·
          rw [if_neg c40] at H; have c40b0 := decide_eq_false c40; clear c40; (first | rw [c40b0] | (simp only [i64_w, i32_w]; rw [c40b0]) | skip); have H' := Az H; clear H
          go_wp2
          go_meet
          case rel => exact ⟨_, (false), rS, H', ⟨by have := HK1.out; have := HK2.out; first | omega | exact Nat.le_refl _⟩, ⟨qU HO_Z0.out⟩, ⟨rU HO_Z1.out⟩, ⟨kU BK326.out⟩, ⟨kU BK346.out⟩, ⟨by repeat (first | (with_reducible first | exact HI0.out | apply IsS73.alloc | apply IsS73.drewN | apply IsS73.drew | apply IsS73.set_1 | refine IsS73.far ?_ NB0_326.out _ | refine IsS73.far ?_ NB0_346.out _) | exact HI0.out)⟩, ⟨by repeat (first | (with_reducible first | exact HK.out | apply KeepBut.set_ | apply keep_drewN | apply keep_drew | apply keep_alloc | refine keep_far ?_ GW326.out _ | refine keep_far ?_ GW346.out _) | exact HK.out)⟩, ⟨by repeat (first | (with_reducible first | exact HB.out | apply below_alloc | apply pw_below_drewN | apply below_drew1 | refine below_set ?_ (IsS73.ge HI0.out) | refine below_set ?_ GE326.out | refine below_set ?_ GE346.out) | exact HB.out)⟩⟩
        case rest =>
         clear HC39; (try clear c1); (try clear c2); (try clear p2); (try clear q2); (try clear hx2); (try clear hf2); (try clear c3); (try clear p3); (try clear q3); (try clear hx3); (try clear c4); (try clear c6); (try clear c6b0); (try clear c6b1); (try clear p6); (try clear c7); (try clear c7b0); (try clear c7b1); (try clear c10); (try clear c13); (try clear c13b0); (try clear c14); (try clear c14b0); (try clear c15); (try clear c15b0); (try clear c17); (try clear c17b0); (try clear c18); (try clear c18b0); (try clear c19); (try clear c19b0); (try clear c20); (try clear c20b0); (try clear p21); (try clear q21); (try clear hx21); (try clear hf21); (try clear c22); (try clear c22b0); (try clear c23); (try clear c23b0); (try clear p24); (try clear q24); (try clear hx24); (try clear hf24); (try clear p33); (try clear q33); (try clear hx33); (try clear p34); (try clear q34); (try clear hx34); (try clear c36); (try clear c37); (try clear c40); (try clear c40b0); (try clear c42); (try clear c43); (try clear hcz38_0); (try clear hcz38_1); (try clear hcz44_0); (try clear hcz44_1); (try clear hfz38_0); (try clear hfz38_1); (try clear hfz44_0); (try clear hfz44_1); (try clear hx21_0); (try clear hx24_0); (try clear hx336_0); (try clear hx337_0); (try clear hx339_0); (try clear hx340_0); (try clear p2); (try clear p21); (try clear p24); (try clear p3); (try clear p33); (try clear p336); (try clear p337); (try clear p339); (try clear p34); (try clear p340); (try clear p6); (try clear q2); (try clear q21); (try clear q24); (try clear q3); (try clear q33); (try clear q336); (try clear q337); (try clear q339); (try clear q34); (try clear q340); obtain ⟨kq, x64_38, rfl, HA, HJ38, HO_Z0, HO_Z1, BK326, BK346, HI0, HK, HB⟩ := hcut
         cases kq with
         | zero => exact absurd HA.out (by simp [spec_l91Map.j2])
         | succ kj38 =>
          have H := HA.out; clear HA; simp only [spec_l91Map.j2] at H
          by_cases c48 : x64_38 = true
          ·
           subst c48
           have H1 : ((spec_l1Orbits.f kj38 xZ0_2 xZ1_2).bind fun t348 => (spec_l91Map.l2 kj38 ji5 x10_2 t348 0 s0_0 t345 xZ0_2 xZ1_2)) = some (r1, r2, r3) := by rw [if_pos rfl] at H; exact H
           clear H; have H := H1; clear H1; replace H := Option.bind_eq_some_iff.mp H; obtain ⟨t348, A490, H⟩ := H; replace H : (spec_l91Map.l2 kj38 ji5 x10_2 t348 0 s0_0 t345 xZ0_2 xZ1_2) = some (r1, r2, r3) := H; have A49 := Az A490; clear A490; have H' := Az H; clear H; have hnb50 := NB346_326.out; have hnc50 := NB326_346.out; have hnb51 := NB346_0.out; have hnc51 := NB0_346.out; have hcz52_0 : wc.cell? ⟨gb346, 0, none⟩ = some (uZ0) := (blk_cell BK346.out 0).trans rfl; have hcz52_1 : wc.cell? ⟨gb346, 1, none⟩ = some (uZ1) := (blk_cell BK346.out 1).trans rfl; have hfz52_0 := blk_frozen BK346.out 0; have hfz52_1 := blk_frozen BK346.out 1; obtain ⟨Ao53, co53, eo53, _⟩ := Kd.Q_slice HO_Z0.out; subst eo53; obtain ⟨Ao54, co54, eo54⟩ := Kd.R_slice HO_Z1.out; subst eo54
           go_wp2_with (first | ((with_reducible refine gate_callee (f := 99) rfl ?_); refine goesL_ (some 71) rfl rfl Try.func99 (by kernel_rfl) rfl #[.slice Ao53 xZ0_2.length co53, .slice Ao54 xZ1_2.length co54] rfl (by (try simp only [List.map_toArray, List.map_cons, List.map_nil]); first | done | rfl | (simp only [List.length_drop, List.length_take]; rfl)) ?_; (with_reducible refine (spec_l1Orbits.calls kj38 _ _ xZ0_2 _ _ xZ1_2 t348 _ ?side1 ?side2 ?side3 ?side4 A49.out).mono ?_); (case side1 => exact cU ((Kd.Q_reads' HO_Z0.out).2.2)); (case side2 => exact (Kd.Q_reads' HO_Z0.out).2.1); (case side3 => exact cU ((Kd.R_reads' HO_Z1.out).2.2)); (case side4 => exact (Kd.R_reads' HO_Z1.out).2.1); rintro e w55 ⟨v349, rfl, ho0, hb⟩; refine ⟨_, rfl, ?_⟩; have n0 := Az (Kd.Q_elder' (qU HO_Z0.out) (Kd.R_base ho0) hb); have n1 := Az (Kd.R_elder' (rU HO_Z1.out) (Kd.R_base ho0) hb); have n2 := Az (Kd.R_lower (Kd.R_new' (Kd.R_new' ho0 (Kd.Q_lt (qU HO_Z0.out))) (Kd.R_lt (rU HO_Z1.out))) (keep_size (w := w) (g := g) (row := none) (by repeat (first | (with_reducible first | exact HK.out | apply KeepBut.set_ | apply keep_drewN | apply keep_drew | apply keep_alloc | refine keep_far ?_ GW326.out _ | refine keep_far ?_ GW346.out _) | exact HK.out)))); have n3 := Az (blk_below (g := gb326) (o := .cells #[.slice none 0 0, .slice none 0 0] 25 (0, 0)) (kU BK326.out) hb); have n4 := Az (blk_below (g := gb346) (o := .cells #[.slice Ao53 xZ0_2.length co53, .slice Ao54 xZ1_2.length co54] 25 (0, 0)) (kU BK346.out) hb); have n5 := Az (IsS73.below (by repeat (first | (with_reducible first | exact HI0.out | apply IsS73.alloc | apply IsS73.drewN | apply IsS73.drew | apply IsS73.set_1 | refine IsS73.far ?_ NB0_326.out _ | refine IsS73.far ?_ NB0_346.out _) | exact HI0.out)) hb); have n6 := Az (KeepBut.trans (by repeat (first | (with_reducible first | exact HK.out | apply KeepBut.set_ | apply keep_drewN | apply keep_drew | apply keep_alloc | refine keep_far ?_ GW326.out _ | refine keep_far ?_ GW346.out _) | exact HK.out)) (KeepBut.of_below hb g none) (.inl rfl)); have n7 := Az (below_step (by repeat (first | (with_reducible first | exact HB.out | apply below_alloc | apply pw_below_drewN | apply below_drew1 | refine below_set ?_ (IsS73.ge HI0.out) | refine below_set ?_ GE326.out | refine below_set ?_ GE346.out) | exact HB.out)) hb); clear HO_Z0 HO_Z1 BK326 BK346 HI0 HK HB; have HO_Z0 := n0; have HO_Z1 := n1; have HO350 := n2; have BK326 := n3; have BK346 := n4; have HI0 := n5; have HK := n6; have HB := n7; clear n0 n1 n2 n3 n4 n5 n6 n7; (try clear hb); (try clear hb2); (try clear hk); (try clear hi); (try clear ho0)))
           go_loopg [12] kj38 (fun kq v12 w' => ∃ (x12_4 : Int), v12 = .int .i64 x12_4 ∧ Aside0 (spec_l91Map.l2 kq ji5 x10_2 t348 x12_4 s0_0 t345 xZ0_2 xZ1_2 = some (r1, r2, r3)) ∧ Aside0 (kq ≤ kj38) ∧ Aside0 (Kd.R (Kd.int .i64) 3 w' w.heap.size (fun k_ => some k_ ≠ ((.slice Ao53 xZ0_2.length co53) : Value).ownBlock ∧ some k_ ≠ ((.slice Ao54 xZ1_2.length co54) : Value).ownBlock) v349 t348) ∧ Aside0 (Kd.Q (Kd.int .i64) 3 w' w.heap.size (fun k_ => some k_ ≠ (v349 : Value).ownBlock ∧ some k_ ≠ ((.slice Ao54 xZ1_2.length co54) : Value).ownBlock) (.slice Ao53 xZ0_2.length co53) xZ0_2) ∧ Aside0 (Kd.R (Kd.int .i64) 3 w' w.heap.size (fun k_ => some k_ ≠ (v349 : Value).ownBlock ∧ some k_ ≠ ((.slice Ao53 xZ0_2.length co53) : Value).ownBlock) (.slice Ao54 xZ1_2.length co54) xZ1_2) ∧ Aside0 (w'.heap[gb326]? = some (.cells #[(.slice none 0 0), (.slice none 0 0)] 25 (0, 0))) ∧ Aside0 (w'.heap[gb346]? = some (.cells #[(.slice Ao53 xZ0_2.length co53), (.slice Ao54 xZ1_2.length co54)] 25 (0, 0))) ∧ Aside0 (IsS73 w0 w' g s0_0 t345) ∧ Aside0 (KeepBut w w' g none) ∧ Aside0 (Below w0.heap.size w0 w'))
           case atStart => exact ⟨(0), rS, H', ⟨Nat.le_refl _⟩, ⟨by (with_reducible repeat (first | apply Kd.R_alloc | apply Kd.R_drewN | apply Kd.R_drew)); exact Kd.R_mono HO350.out (fun _ hk => ⟨hk.1.2, hk.2⟩)⟩, ⟨by (with_reducible repeat (first | apply Kd.Q_alloc | apply Kd.Q_drewN | apply Kd.Q_drew)); exact Kd.Q_mono HO_Z0.out (fun _ hk => ⟨hk.2, hk.1⟩)⟩, ⟨by (with_reducible repeat (first | apply Kd.R_alloc | apply Kd.R_drewN | apply Kd.R_drew)); exact Kd.R_mono HO_Z1.out (fun _ hk => ⟨hk.2, hk.1⟩)⟩, ⟨kU BK326.out⟩, ⟨kU BK346.out⟩, ⟨by repeat (first | (with_reducible first | exact HI0.out | apply IsS73.alloc | apply IsS73.drewN | apply IsS73.drew | apply IsS73.set_1 | refine IsS73.far ?_ NB0_326.out _ | refine IsS73.far ?_ NB0_346.out _) | exact HI0.out)⟩, ⟨by repeat (first | (with_reducible first | exact HK.out | apply KeepBut.set_ | apply keep_drewN | apply keep_drew | apply keep_alloc | refine keep_far ?_ GW326.out _ | refine keep_far ?_ GW346.out _) | exact HK.out)⟩, ⟨by repeat (first | (with_reducible first | exact HB.out | apply below_alloc | apply pw_below_drewN | apply below_drew1 | refine below_set ?_ (IsS73.ge HI0.out) | refine below_set ?_ GE326.out | refine below_set ?_ GE346.out) | exact HB.out)⟩⟩
           case round =>
            clear H'; (try clear c1); (try clear c2); (try clear p2); (try clear q2); (try clear hx2); (try clear hf2); (try clear c3); (try clear p3); (try clear q3); (try clear hx3); (try clear c4); (try clear c5); (try clear c6); (try clear c6b0); (try clear c6b1); (try clear p6); (try clear c7); (try clear c7b0); (try clear c7b1); (try clear c9); (try clear c10); (try clear c13); (try clear c13b0); (try clear c14); (try clear c14b0); (try clear c15); (try clear c15b0); (try clear c17); (try clear c17b0); (try clear c18); (try clear c18b0); (try clear c19); (try clear c19b0); (try clear c20); (try clear c20b0); (try clear p21); (try clear q21); (try clear hx21); (try clear hf21); (try clear c22); (try clear c22b0); (try clear c23); (try clear c23b0); (try clear p24); (try clear q24); (try clear hx24); (try clear hf24); (try clear p33); (try clear q33); (try clear hx33); (try clear p34); (try clear q34); (try clear hx34); (try clear c36); (try clear c37); (try clear c40); (try clear c40b0); (try clear c42); (try clear c43); (try clear c48); (try clear c50); (try clear c51); (try clear hcz38_0); (try clear hcz38_1); (try clear hcz44_0); (try clear hcz44_1); (try clear hcz52_0); (try clear hcz52_1); (try clear hfz38_0); (try clear hfz38_1); (try clear hfz44_0); (try clear hfz44_1); (try clear hfz52_0); (try clear hfz52_1); (try clear hx21_0); (try clear hx24_0); (try clear hx336_0); (try clear hx337_0); (try clear hx339_0); (try clear hx340_0); (try clear p2); (try clear p21); (try clear p24); (try clear p3); (try clear p33); (try clear p336); (try clear p337); (try clear p339); (try clear p34); (try clear p340); (try clear p6); (try clear q2); (try clear q21); (try clear q24); (try clear q3); (try clear q33); (try clear q336); (try clear q337); (try clear q339); (try clear q34); (try clear q340); obtain ⟨x12_4, rfl, HA, HK4, HO_11, HO_Z0, HO_Z1, BK326, BK346, HI0, HK, HB⟩ := hrel
            cases gk with
            | zero => exact absurd HA.out (by simp [spec_l91Map.l2])
            | succ k4 =>
             have H := HA.out; clear HA; simp only [spec_l91Map.l2] at H
             by_cases c56 : 0 ≤ x12_4
             ·
              rw [if_pos c56] at H; have c56b0 := decide_eq_true c56; clear c56
              by_cases c57 : x12_4 < (t348.length : Int)
              ·
               rw [if_pos c57] at H; have c57b0 := decide_eq_true c57; clear c57
               by_cases c58 : (rd t348 x12_4) = 0
               ·
                rw [if_pos c58] at H; have c58b0 := beq_iff_eq.mpr c58; have c58b1 := bne_eq_false_iff_eq.mpr c58; clear c58; have H' := Az H; clear H; obtain ⟨Ao59, co59, eo59⟩ := Kd.R_slice HO_11.out; subst eo59; have p351 : 0 ≤ (x12_4 : Int) := oA; have q351 : x12_4 < (t348.length : Int) := oA; obtain ⟨ad351, e351, hx351_0⟩ := Kd.at_int (Kd.R_reads' HO_11.out).2.2 x12_4 p351 q351
                cases e351
                replace p351 := eq_true p351; replace q351 := eq_true q351
                go_wp2
                (first | go_roundg k4 | (refine Handed.intro k4 ?measure ?_; rotate_left; go_step; (try simp only [add_plain]); (repeat apply Exists.intro); refine ⟨?rel, rfl⟩))
                case measure => have := HK1.out; have := HK2.out; have := HJ38.out; have := HK4.out; omega
                case rel => exact ⟨(wrap64 (x12_4 + 1)), rS, H', ⟨by have := HK1.out; have := HK2.out; have := HJ38.out; have := HK4.out; omega⟩, ⟨rU HO_11.out⟩, ⟨qU HO_Z0.out⟩, ⟨rU HO_Z1.out⟩, ⟨kU BK326.out⟩, ⟨kU BK346.out⟩, ⟨by repeat (first | (with_reducible first | exact HI0.out | apply IsS73.alloc | apply IsS73.drewN | apply IsS73.drew | apply IsS73.set_1 | refine IsS73.far ?_ NB0_326.out _ | refine IsS73.far ?_ NB0_346.out _) | exact HI0.out)⟩, ⟨by repeat (first | (with_reducible first | exact HK.out | apply KeepBut.set_ | apply keep_drewN | apply keep_drew | apply keep_alloc | refine keep_far ?_ GW326.out _ | refine keep_far ?_ GW346.out _) | exact HK.out)⟩, ⟨by repeat (first | (with_reducible first | exact HB.out | apply below_alloc | apply pw_below_drewN | apply below_drew1 | refine below_set ?_ (IsS73.ge HI0.out) | refine below_set ?_ GE326.out | refine below_set ?_ GE346.out) | exact HB.out)⟩⟩
               ·
                rw [if_neg c58] at H; have c58b0 := beq_eq_false_iff_ne.mpr c58; have c58b1 := bne_iff_ne.mpr c58
                by_cases c60 : 0 < (xZ0_2.length : Int)
                ·
                 rw [if_pos c60] at H; have c60b0 := decide_eq_true c60; have c60b1 : decide (0 < xZ0_2.length) = true := decide_eq_true (by omega); clear c60
                 by_cases c61 : x12_4 < (xZ0_2.length : Int)
                 ·
                  rw [if_pos c61] at H; have c61b0 := decide_eq_true c61; clear c61; obtain ⟨y354, hy354⟩ : ∃ y_ : List Int, y_ = (xZ0_2.set (0 : Int).toNat (rd xZ0_2 x12_4)) := ⟨_, rfl⟩; replace H : (spec_l91Map.l1 k4 ji5 (wrap64 (x10_2 + 1)) s0_0 t345 (y354.set (x12_4 : Int).toNat (rd xZ0_2 0)) xZ1_2) = some (r1, r2, r3) := hR hy354 H; have Ny354 := Az hy354; clear hy354; obtain ⟨y355, hy355⟩ : ∃ y_ : List Int, y_ = (y354.set (x12_4 : Int).toNat (rd xZ0_2 0)) := ⟨_, rfl⟩; replace H : (spec_l91Map.l1 k4 ji5 (wrap64 (x10_2 + 1)) s0_0 t345 y355 xZ1_2) = some (r1, r2, r3) := hR hy355 H; have Ny355 := Az hy355; clear hy355; have H' := Az H; clear H; obtain ⟨Ao64, co64, eo64⟩ := Kd.R_slice HO_11.out; subst eo64; have p351 : 0 ≤ (x12_4 : Int) := oA; have q351 : x12_4 < (t348.length : Int) := oA; obtain ⟨ad351, e351, hx351_0⟩ := Kd.at_int (Kd.R_reads' HO_11.out).2.2 x12_4 p351 q351
                  cases e351
                  replace p351 := eq_true p351; replace q351 := eq_true q351; have hnb65 := NB346_326.out; have hnc65 := NB326_346.out; have hnb66 := NB346_0.out; have hnc66 := NB0_346.out; have hcz67_0 : wr.cell? ⟨gb346, 0, none⟩ = some (.slice Ao53 xZ0_2.length co53) := (blk_cell BK346.out 0).trans rfl; have hcz67_1 : wr.cell? ⟨gb346, 1, none⟩ = some (.slice Ao54 xZ1_2.length co54) := (blk_cell BK346.out 1).trans rfl; have hfz67_0 := blk_frozen BK346.out 0; have hfz67_1 := blk_frozen BK346.out 1; have p352 : 0 ≤ (0 : Int) := (by omega); have q352 : 0 < (xZ0_2.length : Int) := oA; obtain ⟨ad352, e352, hx352_0⟩ := Kd.at_int (Kd.Q_reads' HO_Z0.out).2.2 0 p352 q352
                  cases e352
                  have qi352 : (0 < xZ0_2.length) = True := eq_true (by omega); (try rw [show ((0 : Int)).toNat = 0 from rfl] at hx352_0); (try rw [Addr.add_zero'] at hx352_0); replace p352 := eq_true p352; replace q352 := eq_true q352
                  try go_wp2
                  have n0 := Az (Kd.R_drew HO_11.out); have n1 := Az (Kd.Q_drew HO_Z0.out); have n2 := Az (Kd.R_drew HO_Z1.out); have n3 := Az (blk_drew BK326.out); have n4 := Az (blk_drew BK346.out); have n5 := Az (IsS73.drew HI0.out); have n6 := Az (keep_drew HK.out); have n7 := Az (below_drew1 HB.out); clear HO_11 HO_Z0 HO_Z1 BK326 BK346 HI0 HK HB; have HO_11 := n0; have HO_Z0 := n1; have HO_Z1 := n2; have BK326 := n3; have BK346 := n4; have HI0 := n5; have HK := n6; have HB := n7; clear n0 n1 n2 n3 n4 n5 n6 n7; have p353 : 0 ≤ (x12_4 : Int) := oA; have q353 : x12_4 < (xZ0_2.length : Int) := oA; obtain ⟨ad353, e353, hx353_0⟩ := Kd.at_int (Kd.Q_reads' HO_Z0.out).2.2 x12_4 p353 q353; obtain rfl : ad352 = ad353 := (by injection e353); replace p353 := eq_true p353; replace q353 := eq_true q353; have p62 : 0 ≤ (0 : Int) := (by omega); have q62 : (0 : Int) < ((xZ0_2.length : Int) : Int) := oA; have qi62 : (0 < xZ0_2.length) = True := eq_true (by omega); obtain ⟨go62, oo62, co62, eo62, gb62, gl62, cl62, HG62⟩ := Kd.Q_form HO_Z0.out (by omega); (first | cases eo62 | (injection eo62 with ea_ en_ ec_; (first | subst ea_ | (injection ea_ with ea_; subst ea_)); subst ec_; clear en_)); have GB62 := Az gb62; have GG62 := Az HG62; clear gb62 gl62 HG62; (first | simp only [add_at] at hx352_0 | skip); (first | simp only [add_at] at hx353_0 | skip); obtain ⟨hx62_0, hf62_0⟩ := Kd.Q_cell 0 HO_Z0.out (0 : Int) p62 q62; (try rw [show ((0 : Int)).toNat = 0 from rfl] at hx62_0); (try simp only [Nat.reduceMul, Nat.zero_mul, Nat.zero_add, Nat.reduceAdd] at hx62_0); (try rw [show ((0 : Int)).toNat = 0 from rfl] at hf62_0); (try simp only [Nat.reduceMul, Nat.zero_mul, Nat.zero_add, Nat.reduceAdd] at hf62_0); replace p62 := eq_true p62; replace q62 := eq_true q62; have HN0_go62 := Az (show g ≠ go62 from by have h_ := IsS73.own_neQ HI0.out HO_Z0.out (by decide); intro e_; exact h_ (by rw [e_]; rfl)); have HP69 := (Kd.Q_putg HO_Z0.out (0 : Int) (by omega) (by have h_ : (0 : Int) < ((xZ0_2.length : Int) : Int) := oA; first | exact h_ | (have e_ := (Kd.Q_reads' HO_Z0.out).1; omega) | simpa using h_) (rd xZ0_2 x12_4)).1; rw [← Ny354.out] at HP69; have HQ69 := Az HP69; clear HP69
                  refine start_ (n := 9) (S := fun w' => w'.cell? ⟨gb346, 0, none⟩ = some (.slice (some ⟨go62, oo62, none⟩) xZ0_2.length co53) ∧ w'.cell? ⟨gb346, 1, none⟩ = some (.slice Ao54 xZ1_2.length co54) ∧ w'.cell? ⟨go62, oo62 + (x12_4).toNat, none⟩ = some (.int .i64 (rd xZ0_2 x12_4))) (ds := [8]) #[false, false, false, false, false, false, false, false, false] (by kernel_rfl) rfl rfl ⟨(blk_cell BK346.out 0).trans rfl, (blk_cell BK346.out 1).trans rfl, hx353_0⟩ (fun hHeld => ?_); refine with_tabW spec_l91Map.tab18 spec_l91Map.bits18 (fun HT_ HW_ => ?_)
                  generalize wr.drew = w68 at HO_11 HO_Z0 HO_Z1 BK326 BK346 HI0 HK HB GG62 HQ69 hf62_0 hx352_0 hx353_0 hx62_0 hHeld ⊢
                  refine pure_ (i := 0) (N := some 83) (v := ?_) (a' := ?_) #[true, false, false, false, false, false, false, false, false] rfl rfl (any_of HT_.out (by kernel_rfl)) (fun _ _ _ h => h) (Or.inl ⟨by rfl, ?_⟩) ?_ ?_
                  rotate_left
                  ·
                   intro w'
                   go_simp
                   with_reducible rfl
                  rotate_left
                  ·
                   simp only [Act.put, List.setIfInBounds_toArray, List.set_cons_zero, List.set_cons_succ, i64_w, i32_w]
                   rfl
                  refine pure_ (i := 2) (N := some 85) (v := ?_) (a' := ?_) #[true, false, true, false, false, false, false, false, false] rfl rfl (any_of HT_.out (by kernel_rfl)) (fun _ _ _ h => h) (Or.inl ⟨by rfl, ?_⟩) ?_ ?_
                  rotate_left
                  ·
                   intro w'
                   go_simp
                   with_reducible rfl
                  rotate_left
                  ·
                   simp only [Act.put, List.setIfInBounds_toArray, List.set_cons_zero, List.set_cons_succ, i64_w, i32_w]
                   rfl
                  refine pure_ (i := 4) (N := some 87) (v := ?_) (a' := ?_) #[true, false, true, false, true, false, false, false, false] rfl rfl (any_of HT_.out (by kernel_rfl)) (fun _ _ _ h => h) (Or.inl ⟨by rfl, ?_⟩) ?_ ?_
                  rotate_left
                  ·
                   intro w'
                   go_simp
                   with_reducible rfl
                  rotate_left
                  ·
                   simp only [Act.put, List.setIfInBounds_toArray, List.set_cons_zero, List.set_cons_succ, i64_w, i32_w]
                   rfl
                  refine take_ (i := 1) (N := some 84) (v := ?_) (a' := ?_) #[true, true, true, false, true, false, false, false, false] rfl rfl (take_ofW HT_.out HW_.out (by kernel_rfl)) (fun _ _ _ h => h) (Or.inl ⟨by rfl, ?_⟩) hHeld ?_ ?_
                  rotate_left
                  ·
                   rintro w' ⟨s0, s1, s2⟩
                   go_simp
                   with_reducible rfl
                  rotate_left
                  ·
                   simp only [Act.put, List.setIfInBounds_toArray, List.set_cons_zero, List.set_cons_succ, i64_w, i32_w]
                   rfl
                  refine take_ (i := 3) (N := some 86) (v := ?_) (a' := ?_) #[true, true, true, true, true, false, false, false, false] rfl rfl (take_ofW HT_.out HW_.out (by kernel_rfl)) (fun _ _ _ h => h) (Or.inl ⟨by rfl, ?_⟩) hHeld ?_ ?_
                  rotate_left
                  ·
                   rintro w' ⟨s0, s1, s2⟩
                   go_simp
                   with_reducible rfl
                  rotate_left
                  ·
                   simp only [Act.put, List.setIfInBounds_toArray, List.set_cons_zero, List.set_cons_succ, i64_w, i32_w]
                   rfl
                  refine pure_ (i := 5) (N := some 88) (v := ?_) (a' := ?_) #[true, true, true, true, true, true, false, false, false] rfl rfl (any_of HT_.out (by kernel_rfl)) (fun _ _ _ h => h) (Or.inl ⟨by rfl, ?_⟩) ?_ ?_
                  rotate_left
                  ·
                   intro w'
                   go_simp
                   with_reducible rfl
                  rotate_left
                  ·
                   simp only [Act.put, List.setIfInBounds_toArray, List.set_cons_zero, List.set_cons_succ, i64_w, i32_w]
                   rfl
                  refine take_ (i := 6) (N := some 89) (v := ?_) (a' := ?_) #[true, true, true, true, true, true, true, false, false] rfl rfl (take_ofW HT_.out HW_.out (by kernel_rfl)) (fun _ _ _ h => h) (Or.inl ⟨by rfl, ?_⟩) hHeld ?_ ?_
                  rotate_left
                  ·
                   rintro w' ⟨s0, s1, s2⟩
                   go_simp
                   with_reducible rfl
                  rotate_left
                  ·
                   simp only [Act.put, List.setIfInBounds_toArray, List.set_cons_zero, List.set_cons_succ, i64_w, i32_w]
                   rfl
                  refine pure_ (i := 7) (N := some 90) (v := ?_) (a' := ?_) #[true, true, true, true, true, true, true, true, false] rfl rfl (any_of HT_.out (by kernel_rfl)) (fun _ _ _ h => h) (Or.inl ⟨by rfl, ?_⟩) ?_ ?_
                  rotate_left
                  ·
                   intro w'
                   go_simp
                   with_reducible rfl
                  rotate_left
                  ·
                   simp only [Act.put, List.setIfInBounds_toArray, List.set_cons_zero, List.set_cons_succ, i64_w, i32_w]
                   rfl
                  refine last_ (i := 8) (N := none) #[true, true, true, true, true, true, true, true, true] rfl rfl (one_of HT_.out (by kernel_rfl)) (by decide) (fun K hK => ?_)
                  (try (obtain ⟨hyS_, hzS_⟩ := Kd.Q_cell 0 HO_Z0.out 0 (by omega) (oA); simp only [Int.toNat_zero, Nat.add_zero] at hyS_ hzS_))
                  refine skip_ (w1 := ?_) (by rfl) rfl ?_ ?_
                  rotate_left
                  ·
                   go_simp
                   rfl
                  refine hK.out _ _ ?_
                  clear hK K
                  refine done_ (done_of HT_.out (by kernel_rfl)) ?_
                  have n0 : Aside0 (Kd.R (Kd.int .i64) 3 (w68.setCell ⟨go62, oo62 + (0 : Int).toNat, none⟩ (.int .i64 (rd xZ0_2 x12_4))) w.heap.size (fun k_ => some k_ ≠ (.slice (some ⟨go62, oo62, none⟩) xZ0_2.length co53 : Value).ownBlock ∧ some k_ ≠ (.slice Ao54 xZ1_2.length co54 : Value).ownBlock) (.slice (some ad351) t348.length co64) t348) := ⟨by (with_reducible repeat (first | apply Kd.R_alloc | apply Kd.R_drewN | apply Kd.R_drew)); exact Kd.R_mono (Kd.R_far (p := ⟨go62, oo62 + (0 : Int).toNat, none⟩) (Kd.R_mono HO_11.out (fun k_ hk => (⟨hk, fun e_ => hk.1 (by rw [e_]; rfl)⟩ : _ ∧ k_ ≠ go62))) (fun _ hk => hk.2) (.int .i64 (rd xZ0_2 x12_4))) (fun _ hk => ⟨hk.1.1, hk.1.2⟩)⟩; have n1 : Aside0 (Kd.Q (Kd.int .i64) 3 (w68.setCell ⟨go62, oo62 + (0 : Int).toNat, none⟩ (.int .i64 (rd xZ0_2 x12_4))) w.heap.size (fun k_ => some k_ ≠ (.slice (some ad351) t348.length co64 : Value).ownBlock ∧ some k_ ≠ (.slice Ao54 xZ1_2.length co54 : Value).ownBlock) (.slice (some ⟨go62, oo62, none⟩) xZ0_2.length co53) y354) := ⟨qU HQ69.out⟩; have n2 : Aside0 (Kd.R (Kd.int .i64) 3 (w68.setCell ⟨go62, oo62 + (0 : Int).toNat, none⟩ (.int .i64 (rd xZ0_2 x12_4))) w.heap.size (fun k_ => some k_ ≠ (.slice (some ad351) t348.length co64 : Value).ownBlock ∧ some k_ ≠ (.slice (some ⟨go62, oo62, none⟩) xZ0_2.length co53 : Value).ownBlock) (.slice Ao54 xZ1_2.length co54) xZ1_2) := ⟨by (with_reducible repeat (first | apply Kd.R_alloc | apply Kd.R_drewN | apply Kd.R_drew)); exact Kd.R_mono (Kd.R_far (p := ⟨go62, oo62 + (0 : Int).toNat, none⟩) (Kd.R_mono HO_Z1.out (fun k_ hk => (⟨hk, fun e_ => hk.2 (by rw [e_]; rfl)⟩ : _ ∧ k_ ≠ go62))) (fun _ hk => hk.2) (.int .i64 (rd xZ0_2 x12_4))) (fun _ hk => ⟨hk.1.1, hk.1.2⟩)⟩; have n3 : Aside0 ((w68.setCell ⟨go62, oo62 + (0 : Int).toNat, none⟩ (.int .i64 (rd xZ0_2 x12_4))).heap[gb326]? = some (.cells #[.slice none 0 0, .slice none 0 0] 25 (0, 0))) := ⟨by (with_reducible repeat (first | refine blk_drewN ?_ _ | refine blk_drew ?_ | refine blk_alloc ?_ _)); refine blk_far ?_ (by have h_ := Kd.Q_ne HO_Z0.out BK326.out (by decide); intro e_; exact h_ (by rw [e_]; rfl)) _; (with_reducible repeat (first | refine blk_drewN ?_ _ | refine blk_drew ?_ | refine blk_alloc ?_ _)); exact BK326.out⟩; have n4 : Aside0 ((w68.setCell ⟨go62, oo62 + (0 : Int).toNat, none⟩ (.int .i64 (rd xZ0_2 x12_4))).heap[gb346]? = some (.cells #[.slice (some ⟨go62, oo62, none⟩) xZ0_2.length co53, .slice Ao54 xZ1_2.length co54] 25 (0, 0))) := ⟨by (with_reducible repeat (first | refine blk_drewN ?_ _ | refine blk_drew ?_ | refine blk_alloc ?_ _)); refine blk_far ?_ (by have h_ := Kd.Q_ne HO_Z0.out BK346.out (by decide); intro e_; exact h_ (by rw [e_]; rfl)) _; (with_reducible repeat (first | refine blk_drewN ?_ _ | refine blk_drew ?_ | refine blk_alloc ?_ _)); exact BK346.out⟩; have n5 : Aside0 (IsS73 w0 (w68.setCell ⟨go62, oo62 + (0 : Int).toNat, none⟩ (.int .i64 (rd xZ0_2 x12_4))) g s0_0 t345) := ⟨by repeat (first | (with_reducible first | exact HI0.out | apply IsS73.alloc | apply IsS73.drewN | apply IsS73.drew | apply IsS73.set_1 | refine IsS73.far ?_ HN0_go62.out _ | refine IsS73.far ?_ NB0_326.out _ | refine IsS73.far ?_ NB0_346.out _) | exact HI0.out)⟩; have n6 : Aside0 (KeepBut w (w68.setCell ⟨go62, oo62 + (0 : Int).toNat, none⟩ (.int .i64 (rd xZ0_2 x12_4))) g none) := ⟨by repeat (first | (with_reducible first | exact HK.out | apply KeepBut.set_ | apply keep_drewN | apply keep_drew | apply keep_alloc | refine keep_far ?_ GB62.out _ | refine keep_far ?_ GW326.out _ | refine keep_far ?_ GW346.out _) | exact HK.out)⟩; have n7 : Aside0 (Below w0.heap.size w0 (w68.setCell ⟨go62, oo62 + (0 : Int).toNat, none⟩ (.int .i64 (rd xZ0_2 x12_4)))) := ⟨by repeat (first | (with_reducible first | exact HB.out | apply below_alloc | apply pw_below_drewN | apply below_drew1 | refine below_set ?_ (Nat.le_trans HL.out GB62.out) | refine below_set ?_ (IsS73.ge HI0.out) | refine below_set ?_ GE326.out | refine below_set ?_ GE346.out) | exact HB.out)⟩; (try clear HO_11); (try clear HO_Z0); (try clear HO_Z1); (try clear BK326); (try clear BK346); (try clear HI0); (try clear HK); (try clear HB); (try simp only [Int.toNat_zero, Nat.add_zero] at n0 n1 n2 n3 n4 n5 n6 n7)
                  generalize (w68.setCell ⟨go62, oo62, none⟩ (.int .i64 (rd xZ0_2 x12_4))) = w70 at n0 n1 n2 n3 n4 n5 n6 n7 ⊢
                  have HO_11 := n0; have HO_Z0 := n1; have HO_Z1 := n2; have BK326 := n3; have BK346 := n4; have HI0 := n5; have HK := n6; have HB := n7; clear n0 n1 n2 n3 n4 n5 n6 n7; have hcz71_0 : w70.cell? ⟨gb346, 0, none⟩ = some (.slice (some ⟨go62, oo62, none⟩) xZ0_2.length co53) := (blk_cell BK346.out 0).trans rfl; have hcz71_1 : w70.cell? ⟨gb346, 1, none⟩ = some (.slice Ao54 xZ1_2.length co54) := (blk_cell BK346.out 1).trans rfl; have hfz71_0 := blk_frozen BK346.out 0; have hfz71_1 := blk_frozen BK346.out 1; have p63 : 0 ≤ (x12_4 : Int) := oA; have q63 : (x12_4 : Int) < ((xZ0_2.length : Int) : Int) := oA; obtain ⟨hx63_0, hf63_0⟩ := Kd.Q_cell 0 HO_Z0.out (x12_4 : Int) p63 q63; replace p63 := eq_true p63; replace q63 := eq_true q63; obtain ⟨hy72_, hz72_⟩ := Kd.Q_cell 0 HO_Z0.out (x12_4 : Int) (oA) (oA); have HP72 := Kd.Q_putg HO_Z0.out (x12_4 : Int) (oA) (by have h_ : (x12_4 : Int) < ((xZ0_2.length : Int) : Int) := oA; first | exact h_ | (have e_ := (Kd.Q_reads' HO_Z0.out).1; omega) | simpa using h_) (rd xZ0_2 0)
                  try go_wp2_with (first | ((with_reducible refine gate_store (t := 3) (p := 95) rfl ?_); refine store_event (t := 3) (p := 95) (v := ?vo_w73) (w1 := (w70.setCell ⟨go62, oo62 + (x12_4 : Int).toNat, none⟩ (.int .i64 (rd xZ0_2 0)))) ?hg ?ho ?hn ?hr ?_; (case ho => rfl); (case hg => rfl); (case hn => rfl); (case hr => first | (go_simp; done) | (go_simp; rfl)); intro w73 hw; have hg : w70.grownBy w73 (some go62) := (by rw [hw]; exact HP72.2); have hp_ : Kd.Q (Kd.int .i64) 3 w73 w.heap.size (fun k_ => some k_ ≠ (.slice (some ad351) t348.length co64 : Value).ownBlock ∧ some k_ ≠ (.slice Ao54 xZ1_2.length co54 : Value).ownBlock) (.slice (some ⟨go62, oo62, none⟩) xZ0_2.length co53) y355 := (by rw [hw, Ny355.out]; exact HP72.1); clear HP72; have n0 := Az (Kd.R_after (v := (.slice (some ⟨go62, oo62, none⟩) xZ0_2.length co53)) (v1 := (.slice (some ⟨go62, oo62, none⟩) xZ0_2.length co53)) (ok := (fun k_ => some k_ ≠ (.slice Ao54 xZ1_2.length co54 : Value).ownBlock)) (by (with_reducible repeat (first | apply Kd.R_alloc | apply Kd.R_drewN | apply Kd.R_drew)); exact Kd.R_mono HO_11.out (fun _ hk => ⟨hk.2, hk.1⟩)) hg (.inl rfl)); have n1 := Az (hp_); have n2 := Az (Kd.R_after (v := (.slice (some ⟨go62, oo62, none⟩) xZ0_2.length co53)) (v1 := (.slice (some ⟨go62, oo62, none⟩) xZ0_2.length co53)) (ok := (fun k_ => some k_ ≠ (.slice (some ad351) t348.length co64 : Value).ownBlock)) (rU HO_Z1.out) hg (.inl rfl)); have n3 := Az (blk_grown (g := gb326) (o := .cells #[.slice none 0 0, .slice none 0 0] 25 (0, 0)) (kU BK326.out) hg (Kd.Q_ne HO_Z0.out BK326.out (by decide))); have n4 := Az (blk_grown (g := gb346) (o := .cells #[.slice (some ⟨go62, oo62, none⟩) xZ0_2.length co53, .slice Ao54 xZ1_2.length co54] 25 (0, 0)) (kU BK346.out) hg (Kd.Q_ne HO_Z0.out BK346.out (by decide))); have n5 := Az (IsS73.grown (by repeat (first | (with_reducible first | exact HI0.out | apply IsS73.alloc | apply IsS73.drewN | apply IsS73.drew | apply IsS73.set_1 | refine IsS73.far ?_ NB0_326.out _ | refine IsS73.far ?_ NB0_346.out _) | exact HI0.out)) hg (IsS73.own_neQ HI0.out HO_Z0.out (by decide))); have n6 := Az ((by rw [hw]; exact below_set (HB.out) (Nat.le_trans HL.out GB62.out) : Below w0.heap.size w0 w73)); have n7 := Az (KeepBut.trans (by repeat (first | (with_reducible first | exact HK.out | apply KeepBut.set_ | apply keep_drewN | apply keep_drew | apply keep_alloc | refine keep_far ?_ GW326.out _ | refine keep_far ?_ GW346.out _) | exact HK.out)) (KeepBut.of_grown hg g) (Kd.Q_base2 HO_Z0.out)); clear HO_11 HO_Z0 HO_Z1 BK326 BK346 HI0 HB HK; have HO_11 := n0; have HO_Z0 := n1; have HO_Z1 := n2; have BK326 := n3; have BK346 := n4; have HI0 := n5; have HB := n6; have HK := n7; clear n0 n1 n2 n3 n4 n5 n6 n7; clear hg hw hp_))
                  (first | go_roundg k4 | (refine Handed.intro k4 ?measure ?_; rotate_left; go_step; (try simp only [add_plain]); (repeat apply Exists.intro); refine ⟨?rel, rfl⟩))
                  case measure => have := HK1.out; have := HK2.out; have := HJ38.out; have := HK4.out; omega
                  case rel => exact ⟨(wrap64 (x10_2 + 1)), (y355), (xZ1_2), (.slice (some ⟨go62, oo62, none⟩) xZ0_2.length co53), (.slice Ao54 xZ1_2.length co54), rS, H', ⟨by have := HK1.out; have := HK2.out; have := HJ38.out; have := HK4.out; omega⟩, ⟨by (with_reducible repeat (first | apply Kd.Q_alloc | apply Kd.Q_drewN | apply Kd.Q_drew)); exact Kd.Q_mono HO_Z0.out (fun _ hk => hk.2)⟩, ⟨by (with_reducible repeat (first | apply Kd.R_alloc | apply Kd.R_drewN | apply Kd.R_drew)); exact Kd.R_mono HO_Z1.out (fun _ hk => hk.2)⟩, ⟨kU BK326.out⟩, ⟨kU BK346.out⟩, ⟨by repeat (first | (with_reducible first | exact HI0.out | apply IsS73.alloc | apply IsS73.drewN | apply IsS73.drew | apply IsS73.set_1 | refine IsS73.far ?_ NB0_326.out _ | refine IsS73.far ?_ NB0_346.out _) | exact HI0.out)⟩, ⟨by repeat (first | (with_reducible first | exact HK.out | apply KeepBut.set_ | apply keep_drewN | apply keep_drew | apply keep_alloc | refine keep_far ?_ GW326.out _ | refine keep_far ?_ GW346.out _) | exact HK.out)⟩, ⟨by repeat (first | (with_reducible first | exact HB.out | apply below_alloc | apply pw_below_drewN | apply below_drew1 | refine below_set ?_ (IsS73.ge HI0.out) | refine below_set ?_ GE326.out | refine below_set ?_ GE346.out) | exact HB.out)⟩⟩
                 ·
                  rw [if_neg c61] at H
                  exact absurd H (by simp)
                ·
                 rw [if_neg c60] at H
                 exact absurd H (by simp)
              ·
               rw [if_neg c57] at H
               exact absurd H (by simp)
             ·
              rw [if_neg c56] at H
              exact absurd H (by simp)
          ·
           replace c48 := Bool.eq_false_iff.mpr c48; subst c48
           have H1 : ((spec_l6Rd_pick.f kj38 s0_0 t345 50).bind fun bt356 => (if bt356.1 = 0 then (if 0 < (xZ1_2.length : Int) then (some (xZ0_2, (xZ1_2.set (0 : Int).toNat 0), bt356.2)) else (none)) else (if bt356.1 = 1 then (if 1 ≤ (xZ0_2.length : Int) then (some ((xZ0_2.drop (1 : Int).toNat), xZ1_2, bt356.2)) else (none)) else (if bt356.1 = 2 then (if 0 < (xZ0_2.length : Int) then (some ((xZ0_2.set (0 : Int).toNat ji5), xZ1_2, bt356.2)) else (none)) else (some (xZ0_2, xZ1_2, bt356.2)))))) = some (r1, r2, r3) := by rw [if_neg (show ¬ (false = true) by decide)] at H; exact H
           clear H; have H := H1; clear H1; replace H := Option.bind_eq_some_iff.mp H; obtain ⟨⟨t356, t357⟩, A740, H⟩ := H; replace H : (if t356 = 0 then (if 0 < (xZ1_2.length : Int) then (some (xZ0_2, (xZ1_2.set (0 : Int).toNat 0), t357)) else (none)) else (if t356 = 1 then (if 1 ≤ (xZ0_2.length : Int) then (some ((xZ0_2.drop (1 : Int).toNat), xZ1_2, t357)) else (none)) else (if t356 = 2 then (if 0 < (xZ0_2.length : Int) then (some ((xZ0_2.set (0 : Int).toNat ji5), xZ1_2, t357)) else (none)) else (some (xZ0_2, xZ1_2, t357))))) = some (r1, r2, r3) := H; have A74 := Az A740; clear A740
           by_cases c75 : t356 = 0
           ·
            rw [if_pos c75] at H; have c75b0 := beq_iff_eq.mpr c75; have c75b1 := bne_eq_false_iff_eq.mpr c75; clear c75
            by_cases c76 : 0 < (xZ1_2.length : Int)
            ·
             rw [if_pos c76] at H; have c76b0 := decide_eq_true c76; have c76b1 : decide (0 < xZ1_2.length) = true := decide_eq_true (by omega); clear c76; obtain ⟨y358, hy358⟩ : ∃ y_ : List Int, y_ = (xZ1_2.set (0 : Int).toNat 0) := ⟨_, rfl⟩; replace H : (some (xZ0_2, y358, t357)) = some (r1, r2, r3) := hR hy358 H; have Ny358 := Az hy358; clear hy358; simp only [Option.some.injEq, Prod.mk.injEq] at H; obtain ⟨rfl, rfl, rfl⟩ := H
             go_wp2_with (first | ((with_reducible refine gate_callee (f := 71) rfl ?_); refine goesL_ (some 97) rfl rfl Try.func71 (by kernel_rfl) rfl #[.pointer (some ⟨g, 0, none⟩), .int .i64 50] rfl (by (try simp only [List.map_toArray, List.map_cons, List.map_nil]); first | done | rfl | (simp only [List.length_drop, List.length_take]; rfl)) ?_; (with_reducible refine (spec_l6Rd_pick.calls kj38 g s0_0 t345 50 t356 t357 w0 _ ?side1 ?side2 A74.out).mono ?_); (case side1 => repeat (first | (with_reducible first | exact HI0.out | apply IsS73.alloc | apply IsS73.drewN | apply IsS73.drew | apply IsS73.set_1 | refine IsS73.far ?_ NB0_326.out _ | refine IsS73.far ?_ NB0_346.out _) | exact HI0.out)); (case side2 => repeat (first | (with_reducible first | exact HB.out | apply below_alloc | apply pw_below_drewN | apply below_drew1 | refine below_set ?_ (IsS73.ge HI0.out) | refine below_set ?_ GE326.out | refine below_set ?_ GE346.out) | exact HB.out)); rintro e w78 ⟨rfl, hi, hb, hk⟩; refine ⟨_, rfl, ?_⟩; have n0 := Az (Kd.Q_mono (Kd.Q_keep (IsS73.apartQ (show IsS73 w0 _ g s0_0 t345 from by repeat (first | (with_reducible first | exact HI0.out | apply IsS73.alloc | apply IsS73.drewN | apply IsS73.drew | apply IsS73.set_1 | refine IsS73.far ?_ NB0_326.out _ | refine IsS73.far ?_ NB0_346.out _) | exact HI0.out)) (qU HO_Z0.out) (by decide)) hk (fun _ h => h.2)) (fun _ h => h.1)); have n1 := Az (Kd.R_mono (Kd.R_keep (IsS73.apart (show IsS73 w0 _ g s0_0 t345 from by repeat (first | (with_reducible first | exact HI0.out | apply IsS73.alloc | apply IsS73.drewN | apply IsS73.drew | apply IsS73.set_1 | refine IsS73.far ?_ NB0_326.out _ | refine IsS73.far ?_ NB0_346.out _) | exact HI0.out)) (rU HO_Z1.out) (by decide)) hk (fun _ h => h.2)) (fun _ h => h.1)); have n2 := Az (KeepBut.blk hk (g' := gb326) (o := .cells #[.slice none 0 0, .slice none 0 0] 25 (0, 0)) (kU BK326.out) NB326_0.out (by simp)); have n3 := Az (KeepBut.blk hk (g' := gb346) (o := .cells #[uZ0, uZ1] 25 (0, 0)) (kU BK346.out) NB346_0.out (by simp)); have n4 := Az (KeepBut.trans (by repeat (first | (with_reducible first | exact HK.out | apply KeepBut.set_ | apply keep_drewN | apply keep_drew | apply keep_alloc | refine keep_far ?_ GW326.out _ | refine keep_far ?_ GW346.out _) | exact HK.out)) hk (.inl rfl)); have n5 := Az (hb); have n6 := Az (hi); clear HO_Z0 HO_Z1 BK326 BK346 HK HB HI0; have HO_Z0 := n0; have HO_Z1 := n1; have BK326 := n2; have BK346 := n3; have HK := n4; have HB := n5; have HI0 := n6; clear n0 n1 n2 n3 n4 n5 n6; (try clear hb); (try clear hb2); (try clear hk); (try clear hi); have hnb79 := NB346_326.out; have hnc79 := NB326_346.out; have hnb80 := NB346_0.out; have hnc80 := NB0_346.out; have hcz81_0 : w78.cell? ⟨gb346, 0, none⟩ = some (uZ0) := (blk_cell BK346.out 0).trans rfl; have hcz81_1 : w78.cell? ⟨gb346, 1, none⟩ = some (uZ1) := (blk_cell BK346.out 1).trans rfl; have hfz81_0 := blk_frozen BK346.out 0; have hfz81_1 := blk_frozen BK346.out 1; have p77 : 0 ≤ (0 : Int) := (by omega); have q77 : (0 : Int) < ((xZ1_2.length : Int) : Int) := oA; have qi77 : (0 < xZ1_2.length) = True := eq_true (by omega); obtain ⟨go77, co77, eo77, gb77, gl77, cl77, HG77⟩ := Kd.R_form HO_Z1.out (by omega); (first | cases eo77 | (injection eo77 with ea_ en_ ec_; (first | subst ea_ | (injection ea_ with ea_; subst ea_)); subst ec_; clear en_)); have GB77 := Az gb77; have GG77 := Az HG77; clear gb77 gl77 HG77; obtain ⟨hx77_0, hf77_0⟩ := Kd.R_celln 0 HO_Z1.out (0 : Int) p77 q77; (try rw [show ((0 : Int)).toNat = 0 from rfl] at hx77_0); (try simp only [Nat.reduceMul, Nat.zero_mul, Nat.zero_add, Nat.reduceAdd] at hx77_0); (try rw [show ((0 : Int)).toNat = 0 from rfl] at hf77_0); (try simp only [Nat.reduceMul, Nat.zero_mul, Nat.zero_add, Nat.reduceAdd] at hf77_0); replace p77 := eq_true p77; replace q77 := eq_true q77; obtain ⟨hy82_, hz82_⟩ := Kd.R_celln 0 HO_Z1.out (0 : Int) (by omega) (oA); (try simp only [Int.reduceToNat, Int.toNat_zero, Int.toNat_ofNat, Nat.reduceMul, Nat.zero_mul, Nat.zero_add] at hy82_ hz82_); (try rw [show ((0 : Int)).toNat = 0 from rfl] at hy82_); (try rw [show ((0 : Int)).toNat = 0 from rfl] at hz82_); have HP82 := Kd.R_putg HO_Z1.out (0 : Int) 0) | ((with_reducible refine gate_store (t := 3) (p := 102) rfl ?_); refine store_event (t := 3) (p := 102) (v := ?vo_w83) (w1 := (w78.setCell ⟨go77, (0 : Int).toNat, none⟩ (.int .i64 0))) ?hg ?ho ?hn ?hr ?_; (case ho => rfl); (case hg => rfl); (case hn => rfl); (case hr => first | (go_simp; done) | (go_simp; rfl)); intro w83 hw; have hg : w78.grownBy w83 (some go77) := (by rw [hw]; exact HP82.2); have hp_ : Kd.R (Kd.int .i64) 3 w83 w.heap.size (fun k_ => some k_ ≠ (uZ0 : Value).ownBlock) (.slice (some ⟨go77, 0, none⟩) xZ1_2.length co77) y358 := (by rw [hw, Ny358.out]; exact HP82.1); clear HP82; have n0 := Az (Kd.Q_after (v := (.slice (some ⟨go77, 0, none⟩) xZ1_2.length co77)) (v1 := (.slice (some ⟨go77, 0, none⟩) xZ1_2.length co77)) (ok := (fun _ => True)) (by (with_reducible repeat (first | apply Kd.Q_alloc | apply Kd.Q_drewN | apply Kd.Q_drew)); exact Kd.Q_mono HO_Z0.out (fun _ hk => ⟨trivial, hk⟩)) hg (.inl rfl)); have n1 := Az (hp_); have n2 := Az (blk_grown (g := gb326) (o := .cells #[.slice none 0 0, .slice none 0 0] 25 (0, 0)) (kU BK326.out) hg (Kd.R_ne HO_Z1.out BK326.out (by decide))); have n3 := Az (blk_grown (g := gb346) (o := .cells #[uZ0, .slice (some ⟨go77, 0, none⟩) xZ1_2.length co77] 25 (0, 0)) (kU BK346.out) hg (Kd.R_ne HO_Z1.out BK346.out (by decide))); have n4 := Az (IsS73.grown (by repeat (first | (with_reducible first | exact HI0.out | apply IsS73.alloc | apply IsS73.drewN | apply IsS73.drew | apply IsS73.set_1 | refine IsS73.far ?_ NB0_326.out _ | refine IsS73.far ?_ NB0_346.out _) | exact HI0.out)) hg (IsS73.own_ne HI0.out HO_Z1.out (by decide))); have n5 := Az ((by rw [hw]; exact below_set (HB.out) (Nat.le_trans HL.out GB77.out) : Below w0.heap.size w0 w83)); have n6 := Az (KeepBut.trans (by repeat (first | (with_reducible first | exact HK.out | apply KeepBut.set_ | apply keep_drewN | apply keep_drew | apply keep_alloc | refine keep_far ?_ GW326.out _ | refine keep_far ?_ GW346.out _) | exact HK.out)) (KeepBut.of_grown hg g) (Kd.R_base2 HO_Z1.out)); clear HO_Z0 HO_Z1 BK326 BK346 HI0 HB HK; have HO_Z0 := n0; have HO_Z1 := n1; have BK326 := n2; have BK346 := n3; have HI0 := n4; have HB := n5; have HK := n6; clear n0 n1 n2 n3 n4 n5 n6 hg hw hp_; have hcz84_0 : w83.cell? ⟨gb346, 0, none⟩ = some (uZ0) := (blk_cell BK346.out 0).trans rfl; have hcz84_1 : w83.cell? ⟨gb346, 1, none⟩ = some (.slice (some ⟨go77, 0, none⟩) xZ1_2.length co77) := (blk_cell BK346.out 1).trans rfl; have hfz84_0 := blk_frozen BK346.out 0; have hfz84_1 := blk_frozen BK346.out 1; obtain ⟨Ao85, co85, eo85, _⟩ := Kd.Q_slice HO_Z0.out; subst eo85; have hnb86 := NB326_0.out; have hnc86 := NB0_326.out; have hcz87_0 : w83.cell? ⟨gb326, 0, none⟩ = some (.slice none 0 0) := (blk_cell BK326.out 0).trans rfl; have hcz87_1 : w83.cell? ⟨gb326, 1, none⟩ = some (.slice none 0 0) := (blk_cell BK326.out 1).trans rfl; have hfz87_0 := blk_frozen BK326.out 0; have hfz87_1 := blk_frozen BK326.out 1))
             refine bodyPost_ret (results_cell_row rfl _ _ gb326 25 #[.slice Ao85 xZ0_2.length co85, .slice (some ⟨go77, 0, none⟩) xZ1_2.length co77] (0, 0) _ rfl (by (with_reducible repeat (first | refine blk_drewN ?_ _ | refine blk_drew ?_ | refine blk_alloc ?_ _)); refine blk_put (cs := #[.slice Ao85 xZ0_2.length co85, .slice none 0 0]) ?_ 1 _ rfl; (with_reducible repeat (first | refine blk_drewN ?_ _ | refine blk_drew ?_ | refine blk_alloc ?_ _)); refine blk_put (cs := #[.slice none 0 0, .slice none 0 0]) ?_ 0 _ rfl; (with_reducible repeat (first | refine blk_drewN ?_ _ | refine blk_drew ?_ | refine blk_alloc ?_ _)); exact BK326.out) Try.underlying25 rfl (by kernel_rfl)) rfl ?_
             exact ⟨_, _, by first | rfl | (simp [errW_none, errW_some] <;> rfl) | (simp only [← hji5]; first | rfl | (simp [errW_none, errW_some] <;> rfl)) | (simp [*, errW_none, errW_some] <;> rfl), by (with_reducible repeat (first | apply Kd.Q_alloc | apply Kd.Q_drewN | apply Kd.Q_drew)); exact Kd.Q_mono (Kd.Q_far (p := ⟨gb326, 1, none⟩) (Kd.Q_far (p := ⟨gb326, 0, none⟩) (Kd.Q_types HO_Z0.out BK326.out (by decide)) (fun _ hk => hk.2) (.slice Ao85 xZ0_2.length co85)) (fun _ hk => hk.2) (.slice (some ⟨go77, 0, none⟩) xZ1_2.length co77)) (fun _ hk => hk.1.2), by (with_reducible repeat (first | apply Kd.R_alloc | apply Kd.R_drewN | apply Kd.R_drew)); exact Kd.R_mono (Kd.R_far (p := ⟨gb326, 1, none⟩) (Kd.R_far (p := ⟨gb326, 0, none⟩) (Kd.R_types HO_Z1.out BK326.out (by decide)) (fun _ hk => hk.2) (.slice Ao85 xZ0_2.length co85)) (fun _ hk => hk.2) (.slice (some ⟨go77, 0, none⟩) xZ1_2.length co77)) (fun _ hk => hk.1), by repeat (first | (with_reducible first | exact HI0.out | apply IsS73.alloc | apply IsS73.drewN | apply IsS73.drew | apply IsS73.set_1 | refine IsS73.far ?_ NB0_326.out _ | refine IsS73.far ?_ NB0_346.out _) | exact HI0.out), by repeat (first | (with_reducible first | exact HB.out | apply below_alloc | apply pw_below_drewN | apply below_drew1 | refine below_set ?_ (IsS73.ge HI0.out) | refine below_set ?_ GE326.out | refine below_set ?_ GE346.out) | exact HB.out), by repeat (first | (with_reducible first | exact HK.out | apply KeepBut.set_ | apply keep_drewN | apply keep_drew | apply keep_alloc | refine keep_far ?_ GW326.out _ | refine keep_far ?_ GW346.out _) | exact HK.out)⟩
            ·
             rw [if_neg c76] at H
             exact absurd H (by simp)
           ·
            rw [if_neg c75] at H; have c75b0 := beq_eq_false_iff_ne.mpr c75; have c75b1 := bne_iff_ne.mpr c75
            by_cases c88 : t356 = 1
            ·
             rw [if_pos c88] at H; have c88b0 := beq_iff_eq.mpr c88; have c88b1 := bne_eq_false_iff_eq.mpr c88; clear c88
             by_cases c89 : 1 ≤ (xZ0_2.length : Int)
             ·
              rw [if_pos c89] at H; have c89b0 := eq_true c89; have c89b1 := decide_eq_true c89; clear c89; obtain ⟨y359, hy359⟩ : ∃ y_ : List Int, y_ = (xZ0_2.drop (1 : Int).toNat) := ⟨_, rfl⟩; replace H : (some (y359, xZ1_2, t357)) = some (r1, r2, r3) := hR hy359 H; have Ny359 := Az hy359; clear hy359; simp only [Option.some.injEq, Prod.mk.injEq] at H; obtain ⟨rfl, rfl, rfl⟩ := H
              go_wp2_with (first | ((with_reducible refine gate_callee (f := 71) rfl ?_); refine goesL_ (some 97) rfl rfl Try.func71 (by kernel_rfl) rfl #[.pointer (some ⟨g, 0, none⟩), .int .i64 50] rfl (by (try simp only [List.map_toArray, List.map_cons, List.map_nil]); first | done | rfl | (simp only [List.length_drop, List.length_take]; rfl)) ?_; (with_reducible refine (spec_l6Rd_pick.calls kj38 g s0_0 t345 50 t356 t357 w0 _ ?side1 ?side2 A74.out).mono ?_); (case side1 => repeat (first | (with_reducible first | exact HI0.out | apply IsS73.alloc | apply IsS73.drewN | apply IsS73.drew | apply IsS73.set_1 | refine IsS73.far ?_ NB0_326.out _ | refine IsS73.far ?_ NB0_346.out _) | exact HI0.out)); (case side2 => repeat (first | (with_reducible first | exact HB.out | apply below_alloc | apply pw_below_drewN | apply below_drew1 | refine below_set ?_ (IsS73.ge HI0.out) | refine below_set ?_ GE326.out | refine below_set ?_ GE346.out) | exact HB.out)); rintro e w90 ⟨rfl, hi, hb, hk⟩; refine ⟨_, rfl, ?_⟩; have n0 := Az (Kd.Q_mono (Kd.Q_keep (IsS73.apartQ (show IsS73 w0 _ g s0_0 t345 from by repeat (first | (with_reducible first | exact HI0.out | apply IsS73.alloc | apply IsS73.drewN | apply IsS73.drew | apply IsS73.set_1 | refine IsS73.far ?_ NB0_326.out _ | refine IsS73.far ?_ NB0_346.out _) | exact HI0.out)) (qU HO_Z0.out) (by decide)) hk (fun _ h => h.2)) (fun _ h => h.1)); have n1 := Az (Kd.R_mono (Kd.R_keep (IsS73.apart (show IsS73 w0 _ g s0_0 t345 from by repeat (first | (with_reducible first | exact HI0.out | apply IsS73.alloc | apply IsS73.drewN | apply IsS73.drew | apply IsS73.set_1 | refine IsS73.far ?_ NB0_326.out _ | refine IsS73.far ?_ NB0_346.out _) | exact HI0.out)) (rU HO_Z1.out) (by decide)) hk (fun _ h => h.2)) (fun _ h => h.1)); have n2 := Az (KeepBut.blk hk (g' := gb326) (o := .cells #[.slice none 0 0, .slice none 0 0] 25 (0, 0)) (kU BK326.out) NB326_0.out (by simp)); have n3 := Az (KeepBut.blk hk (g' := gb346) (o := .cells #[uZ0, uZ1] 25 (0, 0)) (kU BK346.out) NB346_0.out (by simp)); have n4 := Az (KeepBut.trans (by repeat (first | (with_reducible first | exact HK.out | apply KeepBut.set_ | apply keep_drewN | apply keep_drew | apply keep_alloc | refine keep_far ?_ GW326.out _ | refine keep_far ?_ GW346.out _) | exact HK.out)) hk (.inl rfl)); have n5 := Az (hb); have n6 := Az (hi); clear HO_Z0 HO_Z1 BK326 BK346 HK HB HI0; have HO_Z0 := n0; have HO_Z1 := n1; have BK326 := n2; have BK346 := n3; have HK := n4; have HB := n5; have HI0 := n6; clear n0 n1 n2 n3 n4 n5 n6; (try clear hb); (try clear hb2); (try clear hk); (try clear hi); have hnb91 := NB346_326.out; have hnc91 := NB326_346.out; have hnb92 := NB346_0.out; have hnc92 := NB0_346.out; have hcz93_0 : w90.cell? ⟨gb346, 0, none⟩ = some (uZ0) := (blk_cell BK346.out 0).trans rfl; have hcz93_1 : w90.cell? ⟨gb346, 1, none⟩ = some (uZ1) := (blk_cell BK346.out 1).trans rfl; have hfz93_0 := blk_frozen BK346.out 0; have hfz93_1 := blk_frozen BK346.out 1; obtain ⟨Ao94, co94, eo94, _⟩ := Kd.Q_slice HO_Z0.out; subst eo94; have q95 : (1 : Int) ≤ ((xZ0_2.length : Int) : Int) := oA; obtain ⟨i095, hi095, _, hsz95, _⟩ := info_parts info3; have hcut95 := cut_from (P := Try.prog) 23 3 .i64 Try.underlying23 hi095 1 hsz95 Ao94 xZ0_2.length co94 1 (by omega) q95; have hr95 := Kd.Q_drop (k := (1 : Int).toNat) HO_Z0.out (by omega); obtain ⟨A95, hA95⟩ : ∃ A1, A1 = (if co94 = (1 : Int).toNat then Ao94 else (Ao94 : Option Addr).map (·.add ((1 : Int).toNat * 1))) := ⟨_, rfl⟩; obtain ⟨c95, hc95⟩ : ∃ c1, c1 = co94 - (1 : Int).toNat := ⟨_, rfl⟩; have hy95 : y359.length = xZ0_2.length - (1 : Int).toNat := (by rw [Ny359.out, List.length_drop]); rw [← Ny359.out] at hr95; rw [← hy95, ← hA95, ← hc95] at hcut95; replace hr95 : Kd.Q (Kd.int .i64) 3 w90 w.heap.size (fun k_ => some k_ ≠ (uZ1 : Value).ownBlock) (.slice A95 y359.length c95) y359 := (by rw [hA95, hc95, hy95]; exact hr95); have HE95 : Aside0 ((Value.slice A95 y359.length c95).ownBlock = (.slice Ao94 xZ0_2.length co94 : Value).ownBlock) := ⟨by rw [hA95]; split <;> (cases (Ao94 : Option Addr) <;> rfl)⟩; clear hy95 hi095 hsz95 HO_Z0 hA95 hc95; have HO361 := Az hr95; clear hr95; replace q95 := eq_true q95; have n_ := Az (Kd.R_mono (ok' := fun k_ => some k_ ≠ (.slice A95 y359.length c95 : Value).ownBlock) HO_Z1.out (fun k_ hk => (by rw [HE95.out]; exact hk))); clear HO_Z1; have HO_Z1 := n_; clear n_; have hnb96 := NB326_0.out; have hnc96 := NB0_326.out; have hcz97_0 : w90.cell? ⟨gb326, 0, none⟩ = some (.slice none 0 0) := (blk_cell BK326.out 0).trans rfl; have hcz97_1 : w90.cell? ⟨gb326, 1, none⟩ = some (.slice none 0 0) := (blk_cell BK326.out 1).trans rfl; have hfz97_0 := blk_frozen BK326.out 0; have hfz97_1 := blk_frozen BK326.out 1; obtain ⟨Ao98, co98, eo98⟩ := Kd.R_slice HO_Z1.out; subst eo98))
              refine bodyPost_ret (results_cell_row rfl _ _ gb326 25 #[.slice A95 y359.length c95, .slice Ao98 xZ1_2.length co98] (0, 0) _ rfl (by (with_reducible repeat (first | refine blk_drewN ?_ _ | refine blk_drew ?_ | refine blk_alloc ?_ _)); refine blk_put (cs := #[.slice A95 y359.length c95, .slice none 0 0]) ?_ 1 _ rfl; (with_reducible repeat (first | refine blk_drewN ?_ _ | refine blk_drew ?_ | refine blk_alloc ?_ _)); refine blk_put (cs := #[.slice none 0 0, .slice none 0 0]) ?_ 0 _ rfl; (with_reducible repeat (first | refine blk_drewN ?_ _ | refine blk_drew ?_ | refine blk_alloc ?_ _)); refine blk_far ?_ NB326_346.out _; (with_reducible repeat (first | refine blk_drewN ?_ _ | refine blk_drew ?_ | refine blk_alloc ?_ _)); exact BK326.out) Try.underlying25 rfl (by kernel_rfl)) rfl ?_
              exact ⟨_, _, by first | rfl | (simp [errW_none, errW_some] <;> rfl) | (simp only [← hji5]; first | rfl | (simp [errW_none, errW_some] <;> rfl)) | (simp [*, errW_none, errW_some] <;> rfl), by (with_reducible repeat (first | apply Kd.Q_alloc | apply Kd.Q_drewN | apply Kd.Q_drew)); exact Kd.Q_mono (Kd.Q_far (p := ⟨gb326, 1, none⟩) (Kd.Q_far (p := ⟨gb326, 0, none⟩) (Kd.Q_far (p := ⟨gb346, 0, none⟩) (Kd.Q_types (Kd.Q_types HO361.out BK346.out (by decide)) BK326.out (by decide)) (fun _ hk => hk.1.2) (.slice A95 y359.length c95)) (fun _ hk => hk.2) (.slice A95 y359.length c95)) (fun _ hk => hk.2) (.slice Ao98 xZ1_2.length co98)) (fun _ hk => hk.1.1), by (with_reducible repeat (first | apply Kd.R_alloc | apply Kd.R_drewN | apply Kd.R_drew)); exact Kd.R_mono (Kd.R_far (p := ⟨gb326, 1, none⟩) (Kd.R_far (p := ⟨gb326, 0, none⟩) (Kd.R_far (p := ⟨gb346, 0, none⟩) (Kd.R_types (Kd.R_types HO_Z1.out BK346.out (by decide)) BK326.out (by decide)) (fun _ hk => hk.1.2) (.slice A95 y359.length c95)) (fun _ hk => hk.2) (.slice A95 y359.length c95)) (fun _ hk => hk.2) (.slice Ao98 xZ1_2.length co98)) (fun _ hk => hk.1.1), by repeat (first | (with_reducible first | exact HI0.out | apply IsS73.alloc | apply IsS73.drewN | apply IsS73.drew | apply IsS73.set_1 | refine IsS73.far ?_ NB0_326.out _ | refine IsS73.far ?_ NB0_346.out _) | exact HI0.out), by repeat (first | (with_reducible first | exact HB.out | apply below_alloc | apply pw_below_drewN | apply below_drew1 | refine below_set ?_ (IsS73.ge HI0.out) | refine below_set ?_ GE326.out | refine below_set ?_ GE346.out) | exact HB.out), by repeat (first | (with_reducible first | exact HK.out | apply KeepBut.set_ | apply keep_drewN | apply keep_drew | apply keep_alloc | refine keep_far ?_ GW326.out _ | refine keep_far ?_ GW346.out _) | exact HK.out)⟩
             ·
              rw [if_neg c89] at H
              exact absurd H (by simp)
            ·
             rw [if_neg c88] at H; have c88b0 := beq_eq_false_iff_ne.mpr c88; have c88b1 := bne_iff_ne.mpr c88
             by_cases c99 : t356 = 2
             ·
              rw [if_pos c99] at H; have c99b0 := beq_iff_eq.mpr c99; have c99b1 := bne_eq_false_iff_eq.mpr c99; clear c99
              by_cases c100 : 0 < (xZ0_2.length : Int)
              ·
               rw [if_pos c100] at H; have c100b0 := decide_eq_true c100; have c100b1 : decide (0 < xZ0_2.length) = true := decide_eq_true (by omega); clear c100; obtain ⟨y362, hy362⟩ : ∃ y_ : List Int, y_ = (xZ0_2.set (0 : Int).toNat ji5) := ⟨_, rfl⟩; replace H : (some (y362, xZ1_2, t357)) = some (r1, r2, r3) := hR hy362 H; have Ny362 := Az hy362; clear hy362; simp only [Option.some.injEq, Prod.mk.injEq] at H; obtain ⟨rfl, rfl, rfl⟩ := H
               go_wp2_with (first | ((with_reducible refine gate_callee (f := 71) rfl ?_); refine goesL_ (some 97) rfl rfl Try.func71 (by kernel_rfl) rfl #[.pointer (some ⟨g, 0, none⟩), .int .i64 50] rfl (by (try simp only [List.map_toArray, List.map_cons, List.map_nil]); first | done | rfl | (simp only [List.length_drop, List.length_take]; rfl)) ?_; (with_reducible refine (spec_l6Rd_pick.calls kj38 g s0_0 t345 50 t356 t357 w0 _ ?side1 ?side2 A74.out).mono ?_); (case side1 => repeat (first | (with_reducible first | exact HI0.out | apply IsS73.alloc | apply IsS73.drewN | apply IsS73.drew | apply IsS73.set_1 | refine IsS73.far ?_ NB0_326.out _ | refine IsS73.far ?_ NB0_346.out _) | exact HI0.out)); (case side2 => repeat (first | (with_reducible first | exact HB.out | apply below_alloc | apply pw_below_drewN | apply below_drew1 | refine below_set ?_ (IsS73.ge HI0.out) | refine below_set ?_ GE326.out | refine below_set ?_ GE346.out) | exact HB.out)); rintro e w102 ⟨rfl, hi, hb, hk⟩; refine ⟨_, rfl, ?_⟩; have n0 := Az (Kd.Q_mono (Kd.Q_keep (IsS73.apartQ (show IsS73 w0 _ g s0_0 t345 from by repeat (first | (with_reducible first | exact HI0.out | apply IsS73.alloc | apply IsS73.drewN | apply IsS73.drew | apply IsS73.set_1 | refine IsS73.far ?_ NB0_326.out _ | refine IsS73.far ?_ NB0_346.out _) | exact HI0.out)) (qU HO_Z0.out) (by decide)) hk (fun _ h => h.2)) (fun _ h => h.1)); have n1 := Az (Kd.R_mono (Kd.R_keep (IsS73.apart (show IsS73 w0 _ g s0_0 t345 from by repeat (first | (with_reducible first | exact HI0.out | apply IsS73.alloc | apply IsS73.drewN | apply IsS73.drew | apply IsS73.set_1 | refine IsS73.far ?_ NB0_326.out _ | refine IsS73.far ?_ NB0_346.out _) | exact HI0.out)) (rU HO_Z1.out) (by decide)) hk (fun _ h => h.2)) (fun _ h => h.1)); have n2 := Az (KeepBut.blk hk (g' := gb326) (o := .cells #[.slice none 0 0, .slice none 0 0] 25 (0, 0)) (kU BK326.out) NB326_0.out (by simp)); have n3 := Az (KeepBut.blk hk (g' := gb346) (o := .cells #[uZ0, uZ1] 25 (0, 0)) (kU BK346.out) NB346_0.out (by simp)); have n4 := Az (KeepBut.trans (by repeat (first | (with_reducible first | exact HK.out | apply KeepBut.set_ | apply keep_drewN | apply keep_drew | apply keep_alloc | refine keep_far ?_ GW326.out _ | refine keep_far ?_ GW346.out _) | exact HK.out)) hk (.inl rfl)); have n5 := Az (hb); have n6 := Az (hi); clear HO_Z0 HO_Z1 BK326 BK346 HK HB HI0; have HO_Z0 := n0; have HO_Z1 := n1; have BK326 := n2; have BK346 := n3; have HK := n4; have HB := n5; have HI0 := n6; clear n0 n1 n2 n3 n4 n5 n6; (try clear hb); (try clear hb2); (try clear hk); (try clear hi); have hnb103 := NB346_326.out; have hnc103 := NB326_346.out; have hnb104 := NB346_0.out; have hnc104 := NB0_346.out; have hcz105_0 : w102.cell? ⟨gb346, 0, none⟩ = some (uZ0) := (blk_cell BK346.out 0).trans rfl; have hcz105_1 : w102.cell? ⟨gb346, 1, none⟩ = some (uZ1) := (blk_cell BK346.out 1).trans rfl; have hfz105_0 := blk_frozen BK346.out 0; have hfz105_1 := blk_frozen BK346.out 1; have p101 : 0 ≤ (0 : Int) := (by omega); have q101 : (0 : Int) < ((xZ0_2.length : Int) : Int) := oA; have qi101 : (0 < xZ0_2.length) = True := eq_true (by omega); obtain ⟨go101, oo101, co101, eo101, gb101, gl101, cl101, HG101⟩ := Kd.Q_form HO_Z0.out (by omega); (first | cases eo101 | (injection eo101 with ea_ en_ ec_; (first | subst ea_ | (injection ea_ with ea_; subst ea_)); subst ec_; clear en_)); have GB101 := Az gb101; have GG101 := Az HG101; clear gb101 gl101 HG101; obtain ⟨hx101_0, hf101_0⟩ := Kd.Q_cell 0 HO_Z0.out (0 : Int) p101 q101; (try rw [show ((0 : Int)).toNat = 0 from rfl] at hx101_0); (try simp only [Nat.reduceMul, Nat.zero_mul, Nat.zero_add, Nat.reduceAdd] at hx101_0); (try rw [show ((0 : Int)).toNat = 0 from rfl] at hf101_0); (try simp only [Nat.reduceMul, Nat.zero_mul, Nat.zero_add, Nat.reduceAdd] at hf101_0); replace p101 := eq_true p101; replace q101 := eq_true q101; obtain ⟨hy106_, hz106_⟩ := Kd.Q_cell 0 HO_Z0.out (0 : Int) (by omega) (oA); (try simp only [Int.reduceToNat, Int.toNat_zero, Int.toNat_ofNat, Nat.reduceMul, Nat.zero_mul, Nat.zero_add] at hy106_ hz106_); (try rw [show ((0 : Int)).toNat = 0 from rfl] at hy106_); (try rw [show ((0 : Int)).toNat = 0 from rfl] at hz106_); have HP106 := Kd.Q_putg HO_Z0.out (0 : Int) (by omega) (by have h_ : (0 : Int) < ((xZ0_2.length : Int) : Int) := oA; first | exact h_ | (have e_ := (Kd.Q_reads' HO_Z0.out).1; omega) | simpa using h_) ji5) | ((with_reducible refine gate_store (t := 3) (p := 114) rfl ?_); (try (obtain ⟨hyS_, hzS_⟩ := Kd.Q_cell 0 HO_Z0.out 0 (by omega) (oA); simp only [Int.toNat_zero, Nat.add_zero] at hyS_ hzS_)); refine store_event (t := 3) (p := 114) (v := ?vo_w107) (w1 := (w102.setCell ⟨go101, oo101 + (0 : Int).toNat, none⟩ (.int .i64 ji5))) ?hg ?ho ?hn ?hr ?_; (case ho => rfl); (case hg => rfl); (case hn => rfl); (case hr => first | (go_simp; done) | (go_simp; rfl)); intro w107 hw; have hg : w102.grownBy w107 (some go101) := (by rw [hw]; exact HP106.2); have hp_ : Kd.Q (Kd.int .i64) 3 w107 w.heap.size (fun k_ => some k_ ≠ (uZ1 : Value).ownBlock) (.slice (some ⟨go101, oo101, none⟩) xZ0_2.length co101) y362 := (by rw [hw, Ny362.out]; exact HP106.1); clear HP106; have n0 := Az (hp_); have n1 := Az (Kd.R_after (v := (.slice (some ⟨go101, oo101, none⟩) xZ0_2.length co101)) (v1 := (.slice (some ⟨go101, oo101, none⟩) xZ0_2.length co101)) (ok := (fun _ => True)) (by (with_reducible repeat (first | apply Kd.R_alloc | apply Kd.R_drewN | apply Kd.R_drew)); exact Kd.R_mono HO_Z1.out (fun _ hk => ⟨trivial, hk⟩)) hg (.inl rfl)); have n2 := Az (blk_grown (g := gb326) (o := .cells #[.slice none 0 0, .slice none 0 0] 25 (0, 0)) (kU BK326.out) hg (Kd.Q_ne HO_Z0.out BK326.out (by decide))); have n3 := Az (blk_grown (g := gb346) (o := .cells #[.slice (some ⟨go101, oo101, none⟩) xZ0_2.length co101, uZ1] 25 (0, 0)) (kU BK346.out) hg (Kd.Q_ne HO_Z0.out BK346.out (by decide))); have n4 := Az (IsS73.grown (by repeat (first | (with_reducible first | exact HI0.out | apply IsS73.alloc | apply IsS73.drewN | apply IsS73.drew | apply IsS73.set_1 | refine IsS73.far ?_ NB0_326.out _ | refine IsS73.far ?_ NB0_346.out _) | exact HI0.out)) hg (IsS73.own_neQ HI0.out HO_Z0.out (by decide))); have n5 := Az ((by rw [hw]; exact below_set (HB.out) (Nat.le_trans HL.out GB101.out) : Below w0.heap.size w0 w107)); have n6 := Az (KeepBut.trans (by repeat (first | (with_reducible first | exact HK.out | apply KeepBut.set_ | apply keep_drewN | apply keep_drew | apply keep_alloc | refine keep_far ?_ GW326.out _ | refine keep_far ?_ GW346.out _) | exact HK.out)) (KeepBut.of_grown hg g) (Kd.Q_base2 HO_Z0.out)); clear HO_Z0 HO_Z1 BK326 BK346 HI0 HB HK; have HO_Z0 := n0; have HO_Z1 := n1; have BK326 := n2; have BK346 := n3; have HI0 := n4; have HB := n5; have HK := n6; clear n0 n1 n2 n3 n4 n5 n6 hg hw hp_; have hcz108_0 : w107.cell? ⟨gb346, 0, none⟩ = some (.slice (some ⟨go101, oo101, none⟩) xZ0_2.length co101) := (blk_cell BK346.out 0).trans rfl; have hcz108_1 : w107.cell? ⟨gb346, 1, none⟩ = some (uZ1) := (blk_cell BK346.out 1).trans rfl; have hfz108_0 := blk_frozen BK346.out 0; have hfz108_1 := blk_frozen BK346.out 1; have hnb109 := NB326_0.out; have hnc109 := NB0_326.out; have hcz110_0 : w107.cell? ⟨gb326, 0, none⟩ = some (.slice none 0 0) := (blk_cell BK326.out 0).trans rfl; have hcz110_1 : w107.cell? ⟨gb326, 1, none⟩ = some (.slice none 0 0) := (blk_cell BK326.out 1).trans rfl; have hfz110_0 := blk_frozen BK326.out 0; have hfz110_1 := blk_frozen BK326.out 1; obtain ⟨Ao111, co111, eo111⟩ := Kd.R_slice HO_Z1.out; subst eo111))
               refine bodyPost_ret (results_cell_row rfl _ _ gb326 25 #[.slice (some ⟨go101, oo101, none⟩) xZ0_2.length co101, .slice Ao111 xZ1_2.length co111] (0, 0) _ rfl (by (with_reducible repeat (first | refine blk_drewN ?_ _ | refine blk_drew ?_ | refine blk_alloc ?_ _)); refine blk_put (cs := #[.slice (some ⟨go101, oo101, none⟩) xZ0_2.length co101, .slice none 0 0]) ?_ 1 _ rfl; (with_reducible repeat (first | refine blk_drewN ?_ _ | refine blk_drew ?_ | refine blk_alloc ?_ _)); refine blk_put (cs := #[.slice none 0 0, .slice none 0 0]) ?_ 0 _ rfl; (with_reducible repeat (first | refine blk_drewN ?_ _ | refine blk_drew ?_ | refine blk_alloc ?_ _)); exact BK326.out) Try.underlying25 rfl (by kernel_rfl)) rfl ?_
               exact ⟨_, _, by first | rfl | (simp [errW_none, errW_some] <;> rfl) | (simp only [← hji5]; first | rfl | (simp [errW_none, errW_some] <;> rfl)) | (simp [*, errW_none, errW_some] <;> rfl), by (with_reducible repeat (first | apply Kd.Q_alloc | apply Kd.Q_drewN | apply Kd.Q_drew)); exact Kd.Q_mono (Kd.Q_far (p := ⟨gb326, 1, none⟩) (Kd.Q_far (p := ⟨gb326, 0, none⟩) (Kd.Q_types HO_Z0.out BK326.out (by decide)) (fun _ hk => hk.2) (.slice (some ⟨go101, oo101, none⟩) xZ0_2.length co101)) (fun _ hk => hk.2) (.slice Ao111 xZ1_2.length co111)) (fun _ hk => hk.1), by (with_reducible repeat (first | apply Kd.R_alloc | apply Kd.R_drewN | apply Kd.R_drew)); exact Kd.R_mono (Kd.R_far (p := ⟨gb326, 1, none⟩) (Kd.R_far (p := ⟨gb326, 0, none⟩) (Kd.R_types HO_Z1.out BK326.out (by decide)) (fun _ hk => hk.2) (.slice (some ⟨go101, oo101, none⟩) xZ0_2.length co101)) (fun _ hk => hk.2) (.slice Ao111 xZ1_2.length co111)) (fun _ hk => hk.1.2), by repeat (first | (with_reducible first | exact HI0.out | apply IsS73.alloc | apply IsS73.drewN | apply IsS73.drew | apply IsS73.set_1 | refine IsS73.far ?_ NB0_326.out _ | refine IsS73.far ?_ NB0_346.out _) | exact HI0.out), by repeat (first | (with_reducible first | exact HB.out | apply below_alloc | apply pw_below_drewN | apply below_drew1 | refine below_set ?_ (IsS73.ge HI0.out) | refine below_set ?_ GE326.out | refine below_set ?_ GE346.out) | exact HB.out), by repeat (first | (with_reducible first | exact HK.out | apply KeepBut.set_ | apply keep_drewN | apply keep_drew | apply keep_alloc | refine keep_far ?_ GW326.out _ | refine keep_far ?_ GW346.out _) | exact HK.out)⟩
              ·
               rw [if_neg c100] at H
               exact absurd H (by simp)
             ·
              rw [if_neg c99] at H; have c99b0 := beq_eq_false_iff_ne.mpr c99; have c99b1 := bne_iff_ne.mpr c99; simp only [Option.some.injEq, Prod.mk.injEq] at H; obtain ⟨rfl, rfl, rfl⟩ := H
              go_wp2_with (first | ((with_reducible refine gate_callee (f := 71) rfl ?_); refine goesL_ (some 97) rfl rfl Try.func71 (by kernel_rfl) rfl #[.pointer (some ⟨g, 0, none⟩), .int .i64 50] rfl (by (try simp only [List.map_toArray, List.map_cons, List.map_nil]); first | done | rfl | (simp only [List.length_drop, List.length_take]; rfl)) ?_; (with_reducible refine (spec_l6Rd_pick.calls kj38 g s0_0 t345 50 t356 t357 w0 _ ?side1 ?side2 A74.out).mono ?_); (case side1 => repeat (first | (with_reducible first | exact HI0.out | apply IsS73.alloc | apply IsS73.drewN | apply IsS73.drew | apply IsS73.set_1 | refine IsS73.far ?_ NB0_326.out _ | refine IsS73.far ?_ NB0_346.out _) | exact HI0.out)); (case side2 => repeat (first | (with_reducible first | exact HB.out | apply below_alloc | apply pw_below_drewN | apply below_drew1 | refine below_set ?_ (IsS73.ge HI0.out) | refine below_set ?_ GE326.out | refine below_set ?_ GE346.out) | exact HB.out)); rintro e w112 ⟨rfl, hi, hb, hk⟩; refine ⟨_, rfl, ?_⟩; have n0 := Az (Kd.Q_mono (Kd.Q_keep (IsS73.apartQ (show IsS73 w0 _ g s0_0 t345 from by repeat (first | (with_reducible first | exact HI0.out | apply IsS73.alloc | apply IsS73.drewN | apply IsS73.drew | apply IsS73.set_1 | refine IsS73.far ?_ NB0_326.out _ | refine IsS73.far ?_ NB0_346.out _) | exact HI0.out)) (qU HO_Z0.out) (by decide)) hk (fun _ h => h.2)) (fun _ h => h.1)); have n1 := Az (Kd.R_mono (Kd.R_keep (IsS73.apart (show IsS73 w0 _ g s0_0 t345 from by repeat (first | (with_reducible first | exact HI0.out | apply IsS73.alloc | apply IsS73.drewN | apply IsS73.drew | apply IsS73.set_1 | refine IsS73.far ?_ NB0_326.out _ | refine IsS73.far ?_ NB0_346.out _) | exact HI0.out)) (rU HO_Z1.out) (by decide)) hk (fun _ h => h.2)) (fun _ h => h.1)); have n2 := Az (KeepBut.blk hk (g' := gb326) (o := .cells #[.slice none 0 0, .slice none 0 0] 25 (0, 0)) (kU BK326.out) NB326_0.out (by simp)); have n3 := Az (KeepBut.blk hk (g' := gb346) (o := .cells #[uZ0, uZ1] 25 (0, 0)) (kU BK346.out) NB346_0.out (by simp)); have n4 := Az (KeepBut.trans (by repeat (first | (with_reducible first | exact HK.out | apply KeepBut.set_ | apply keep_drewN | apply keep_drew | apply keep_alloc | refine keep_far ?_ GW326.out _ | refine keep_far ?_ GW346.out _) | exact HK.out)) hk (.inl rfl)); have n5 := Az (hb); have n6 := Az (hi); clear HO_Z0 HO_Z1 BK326 BK346 HK HB HI0; have HO_Z0 := n0; have HO_Z1 := n1; have BK326 := n2; have BK346 := n3; have HK := n4; have HB := n5; have HI0 := n6; clear n0 n1 n2 n3 n4 n5 n6; (try clear hb); (try clear hb2); (try clear hk); (try clear hi); have hnb113 := NB346_326.out; have hnc113 := NB326_346.out; have hnb114 := NB346_0.out; have hnc114 := NB0_346.out; have hcz115_0 : w112.cell? ⟨gb346, 0, none⟩ = some (uZ0) := (blk_cell BK346.out 0).trans rfl; have hcz115_1 : w112.cell? ⟨gb346, 1, none⟩ = some (uZ1) := (blk_cell BK346.out 1).trans rfl; have hfz115_0 := blk_frozen BK346.out 0; have hfz115_1 := blk_frozen BK346.out 1; obtain ⟨Ao116, co116, eo116, _⟩ := Kd.Q_slice HO_Z0.out; subst eo116; have hnb117 := NB326_0.out; have hnc117 := NB0_326.out; have hcz118_0 : w112.cell? ⟨gb326, 0, none⟩ = some (.slice none 0 0) := (blk_cell BK326.out 0).trans rfl; have hcz118_1 : w112.cell? ⟨gb326, 1, none⟩ = some (.slice none 0 0) := (blk_cell BK326.out 1).trans rfl; have hfz118_0 := blk_frozen BK326.out 0; have hfz118_1 := blk_frozen BK326.out 1; obtain ⟨Ao119, co119, eo119⟩ := Kd.R_slice HO_Z1.out; subst eo119))
              refine bodyPost_ret (results_cell_row rfl _ _ gb326 25 #[.slice Ao116 xZ0_2.length co116, .slice Ao119 xZ1_2.length co119] (0, 0) _ rfl (by (with_reducible repeat (first | refine blk_drewN ?_ _ | refine blk_drew ?_ | refine blk_alloc ?_ _)); refine blk_put (cs := #[.slice Ao116 xZ0_2.length co116, .slice none 0 0]) ?_ 1 _ rfl; (with_reducible repeat (first | refine blk_drewN ?_ _ | refine blk_drew ?_ | refine blk_alloc ?_ _)); refine blk_put (cs := #[.slice none 0 0, .slice none 0 0]) ?_ 0 _ rfl; (with_reducible repeat (first | refine blk_drewN ?_ _ | refine blk_drew ?_ | refine blk_alloc ?_ _)); exact BK326.out) Try.underlying25 rfl (by kernel_rfl)) rfl ?_
              exact ⟨_, _, by first | rfl | (simp [errW_none, errW_some] <;> rfl) | (simp only [← hji5]; first | rfl | (simp [errW_none, errW_some] <;> rfl)) | (simp [*, errW_none, errW_some] <;> rfl), by (with_reducible repeat (first | apply Kd.Q_alloc | apply Kd.Q_drewN | apply Kd.Q_drew)); exact Kd.Q_mono (Kd.Q_far (p := ⟨gb326, 1, none⟩) (Kd.Q_far (p := ⟨gb326, 0, none⟩) (Kd.Q_types HO_Z0.out BK326.out (by decide)) (fun _ hk => hk.2) (.slice Ao116 xZ0_2.length co116)) (fun _ hk => hk.2) (.slice Ao119 xZ1_2.length co119)) (fun _ hk => hk.1), by (with_reducible repeat (first | apply Kd.R_alloc | apply Kd.R_drewN | apply Kd.R_drew)); exact Kd.R_mono (Kd.R_far (p := ⟨gb326, 1, none⟩) (Kd.R_far (p := ⟨gb326, 0, none⟩) (Kd.R_types HO_Z1.out BK326.out (by decide)) (fun _ hk => hk.2) (.slice Ao116 xZ0_2.length co116)) (fun _ hk => hk.2) (.slice Ao119 xZ1_2.length co119)) (fun _ hk => hk.1), by repeat (first | (with_reducible first | exact HI0.out | apply IsS73.alloc | apply IsS73.drewN | apply IsS73.drew | apply IsS73.set_1 | refine IsS73.far ?_ NB0_326.out _ | refine IsS73.far ?_ NB0_346.out _) | exact HI0.out), by repeat (first | (with_reducible first | exact HB.out | apply below_alloc | apply pw_below_drewN | apply below_drew1 | refine below_set ?_ (IsS73.ge HI0.out) | refine below_set ?_ GE326.out | refine below_set ?_ GE346.out) | exact HB.out), by repeat (first | (with_reducible first | exact HK.out | apply KeepBut.set_ | apply keep_drewN | apply keep_drew | apply keep_alloc | refine keep_far ?_ GW326.out _ | refine keep_far ?_ GW346.out _) | exact HK.out)⟩
  ·
   rw [if_neg c7] at H
   exact absurd H (by simp)
 ·
  rw [if_neg c6] at H
  exact absurd H (by simp)
end Go.Proofs.Ytjgknblneokhlaa.PI
