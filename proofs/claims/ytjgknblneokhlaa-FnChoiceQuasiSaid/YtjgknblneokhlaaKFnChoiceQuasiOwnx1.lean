/- For every code: of the map and the choice that the statement draws, ChoiceQuasi of the program answers what the reference answers; where the choice is a quasi-tree, the rest is one of the dual map, the choice has one edge less than there are vertices and two more for each handle, and both genera together are the map's. There are no conditions. -/
import Derived.Test.YtjgknblneokhlaaKFnChoiceQCx6
import Derived.Deep.OwnRows
import Derived.Laws.Rows
import Derived.Test.YtjgknblneokhlaaRows
namespace Go.Proofs.Ytjgknblneokhlaa.PI
open Go.RowKit Go.Proofs.YtjgknblneokhlaaW.PrintWords Go.Proofs.YtjgknblneokhlaaW.PrintLast Go.Proofs.YtjgknblneokhlaaW.PrintMore
attribute [local go_sem] max2_int min2_int max_two min_two max_three min_three max_four min_four   -- for this text's walks alone
set_option linter.unusedVariables false
set_option linter.unusedSimpArgs false
def slices_Clone_int_int.f (l0 : List Int) : Option (List Int) := if l0.length < 17592186044416 then some l0 else none
set_option maxHeartbeats 8000000 in
set_option maxRecDepth 100000 in
theorem slices_Clone_int_int.calls (A0 : Option Addr) (c0 : Nat) (l0 : List Int) (r : List Int) (w : World) (hr0 : Kd.C (Kd.int .i64) w A0 l0.length l0) (hc0 : l0.length ≤ c0) (h : slices_Clone_int_int.f l0 = some r) :
  Calls Try.prog 68 #[.slice A0 l0.length c0] w fun e w' => ∃ v0_ : Value, e = .returned (v0_) ∧ Kd.R (Kd.int .i64) 3 w' w.heap.size (fun _ => True) v0_ r ∧ Below w.heap.size w w' := by
 have HR0 := Az hr0; have HC0 := Az hc0
 have hnil : A0 = none → l0 = [] := by
  intro e
  have h' := Kd.reads_of_C (d := (0 : Int)) hr0
  by_cases hn : 0 < l0.length
  ·
   obtain ⟨ad, e2, _⟩ := h'.2.2 hn; rw [e] at e2
   cases e2
  ·
   exact List.eq_nil_of_length_eq_zero (by omega)
 clear hr0 hc0; have HB := Az (Below.refl w.heap.size w)
 unfold slices_Clone_int_int.f at h
 by_cases c2 : l0.length < 17592186044416
 ·
  rw [if_pos c2] at h; have LMc2 := Az c2; clear c2; obtain rfl := Option.some.inj h; clear h
  cases A0 with
  | none =>
   obtain rfl := hnil rfl
   have he : ∀ w : World, (binOp .eql 23 (.slice none 0 c0) (.slice none 0 0)).run Try.prog w = .ok (.bool true) w := fun _ => rfl
   go_enter Try.func68, Try.ntmps68
   go_wp2
   go_ret
   exact ⟨_, rfl, Kd.R_nil _ _ _ _ _, HB.out⟩
  | some ad =>
   clear hnil
   have he : ∀ w : World, (binOp .eql 23 (.slice (some ad) l0.length c0) (.slice none 0 0)).run Try.prog w = .ok (.bool false) w := fun _ => rfl
   obtain ⟨y1, hy1⟩ : ∃ y_ : List Int, y_ = (([] : List Int)) := ⟨_, rfl⟩; obtain ⟨y2, hy2⟩ : ∃ y_ : List Int, y_ = (y1 ++ l0) := ⟨_, rfl⟩
   have e2 : y2 = l0 := by rw [hy2, hy1]; rfl
   have Ny1 := Az hy1; have Ny2 := Az hy2
   have hl1 : y1.length + l0.length < 17592186044416 := by rw [hy1]; have := LMc2.out; simpa using this
   have LMc3 := Az hl1; clear hy1 hy2 hl1
   go_enter Try.func68, Try.ntmps68
   go_wp2_with (first | ((with_reducible refine gate_dst (N := 5) rfl ?_); refine Kd.R_lit (Kd.int .i64) _ 3 ?hg (N := 5) ?hd (xs := ([] : List Int)) (inner := []) (ok := fun _ => True) (okp := fun _ => True) ?hr ?hp (fun _ hk => hk) trivial (Below.refl _ _) (Nat.le_refl _) (by simp) ?_; (case hd => rfl); (case hg => rfl); (case hr => first | (go_simp; done) | (go_simp; rfl)); (case hp => exact (Reps.none _ _)); intro v189 w3 ho4 hb hg_ hnew_; clear hg_ hnew_; (first | rw [← Ny1.out] at ho4 | (simp only [Int.reduceToNat] at ho4; rw [← Ny1.out] at ho4)); have n0 := Az (Kd.R_lower ho4 (below_size (bU0 HB.out))); have n1 := Az (below_step (bU0 HB.out) hb); clear HB; have HO190 := n0; have HB := n1; clear n0 n1; clear hb ho4) | ((with_reducible refine gate_builtin (b := .append) (xs := #[.tmp 5, .tmp 6]) rfl ?_); at_builtin; refine Kd.R_append_rows (Kd.int .i64) (w0 := w) w.heap.size rfl (.tmp 5) (.tmp 6) 23 3 (.int .i64 0) 8 rfl Try.underlying23 info3 rfl (by decide) (by omega) v189 y1 l0 _ _ _ (fun _ => True) (fun _ => False) rfl rfl ?aO ?aR (fun _ _ h => h) (fun _ h => h.elim) ?aF ?aB ?aS ?aL ?_; (case aR => exact cU (Kd.C_below HR0.out HB.out)); (case aB => exact (bU0 HB.out)); (case aF => exact (fun _ _ => trivial)); (case aO => exact (rU HO190.out)); (case aS => exact (below_size (bU0 HB.out))); (case aL => have := LMc3.out; omega); intro v192 w5 ho hb hg hat; rw [← Ny2.out, e2] at ho; have n0 := Az (hb); have n1 := Az (ho); clear HB HO190; have HB := n0; have HO193 := n1; clear n0 n1; clear ho hb hg hat))
   go_ret
   exact ⟨_, rE, rU HO193.out, bU0 HB.out⟩
 ·
  rw [if_neg c2] at h
  cases h
def impl_MapDual.f (k : Nat) (l0_0 : List Int) (l0_1 : List Int) : Option (List Int × List Int × Bool) := (impl_MapValid.f k l0_0 l0_1).bind fun t261 => (if t261 = true then ((impl_mul.f k l0_1 l0_0).bind fun t262 => ((slices_Clone_int_int.f l0_1).bind fun t265 => (some (t262, t265, true)))) else (some (([] : List Int), ([] : List Int), false)))
theorem impl_MapDual.tab3 : rtab .any (opsOf Try.f26 3) = impl_MapDual.T3 := by kernel_rfl
theorem impl_MapDual.bits3 : waitsOk impl_MapDual.T3.2 impl_MapDual.B3 = true := by kernel_rfl
set_option maxHeartbeats 8000000 in
set_option maxRecDepth 100000 in
theorem impl_MapDual.calls (k : Nat) (A0_0 : Option Addr) (c0_0 : Nat) (l0_0 : List Int) (A0_1 : Option Addr) (c0_1 : Nat) (l0_1 : List Int) (r1 : List Int) (r2 : List Int) (r3 : Bool) (w : World) (hr0_0 : Kd.C (Kd.int .i64) w A0_0 l0_0.length l0_0) (hc0_0 : l0_0.length ≤ c0_0) (hr0_1 : Kd.C (Kd.int .i64) w A0_1 l0_1.length l0_1) (hc0_1 : l0_1.length ≤ c0_1) (h : impl_MapDual.f k l0_0 l0_1 = some (r1, r2, r3)) :
  Calls Try.prog 26 #[.agg #[.slice A0_0 l0_0.length c0_0, .slice A0_1 l0_1.length c0_1]] w fun e w' => ∃ v0_ v1_ : Value, e = .returned (.tuple #[.agg #[v0_, v1_], .bool r3]) ∧ Kd.R (Kd.int .i64) 3 w' w.heap.size (fun k_ => some k_ ≠ (v1_ : Value).ownBlock) v0_ r1 ∧ Kd.R (Kd.int .i64) 3 w' w.heap.size (fun k_ => some k_ ≠ (v0_ : Value).ownBlock) v1_ r2 ∧ Below w.heap.size w w' := by
 have hu25 := Try.underlying25; have HR0_0 := Az hr0_0; have HC0_0 := Az hc0_0; clear hr0_0 hc0_0; have HR0_1 := Az hr0_1; have HC0_1 := Az hc0_1; clear hr0_1 hc0_1; have HB := Az (Below.refl w.heap.size w); have H : ((impl_MapValid.f k l0_0 l0_1).bind fun t261 => (if t261 = true then ((impl_mul.f k l0_1 l0_0).bind fun t262 => ((slices_Clone_int_int.f l0_1).bind fun t265 => (some (t262, t265, true)))) else (some (([] : List Int), ([] : List Int), false)))) = some (r1, r2, r3) := h; clear h; replace H := Option.bind_eq_some_iff.mp H; obtain ⟨t261, A20, H⟩ := H; replace H : (if t261 = true then ((impl_mul.f k l0_1 l0_0).bind fun t262 => ((slices_Clone_int_int.f l0_1).bind fun t265 => (some (t262, t265, true)))) else (some (([] : List Int), ([] : List Int), false))) = some (r1, r2, r3) := H; have A2 := Az A20; clear A20
 by_cases c3 : t261 = true
 ·
  subst c3
  have H1 : ((impl_mul.f k l0_1 l0_0).bind fun t262 => ((slices_Clone_int_int.f l0_1).bind fun t265 => (some (t262, t265, true)))) = some (r1, r2, r3) := by rw [if_pos rfl] at H; exact H
  clear H; have H := H1; clear H1; replace H := Option.bind_eq_some_iff.mp H; obtain ⟨t262, A40, H⟩ := H; replace H : ((slices_Clone_int_int.f l0_1).bind fun t265 => (some (t262, t265, true))) = some (r1, r2, r3) := H; have A4 := Az A40; clear A40; replace H := Option.bind_eq_some_iff.mp H; obtain ⟨t265, A50, H⟩ := H; replace H : (some (t262, t265, true)) = some (r1, r2, r3) := H; have A5 := Az A50; clear A50; simp only [Option.some.injEq, Prod.mk.injEq] at H; obtain ⟨rfl, rfl, rfl⟩ := H
  go_enter Try.func26, Try.ntmps26
  try go_wp2_with (first | ((with_reducible refine gate_dst (N := 1) rfl ?_); refine box_event ?hg (N := 1) ?hd (cs := #[.slice A0_0 l0_0.length c0_0, .slice A0_1 l0_1.length c0_1]) (t := 25) ?hr ?_; (case hd => rfl); (case hg => rfl); (case hr => first | (go_simp; done) | (go_simp; rfl)); intro gb259 hg w6 hbox hb; have n0 := Az (below_step (bU0 HB.out) hb); have n1 := Az (hbox); have n2 := Az ((by rw [hg]; exact (below_size (bU0 HB.out)) : w.heap.size ≤ gb259)); have n3 := n2; clear HB; have HB := n0; have BK259 := n1; have GW259 := n2; have GE259 := n3; clear n0 n1 n2 n3; clear hb hbox hg) | ((with_reducible refine gate_dst (N := 2) rfl ?_); refine box_event ?hg (N := 2) ?hd (cs := #[.slice none 0 0, .slice none 0 0]) (t := 25) ?hr ?_; (case hd => rfl); (case hg => rfl); (case hr => first | (go_simp; done) | (go_simp; rfl)); intro gb260 hg w7 hbox hb; have n0 := Az (blk_below (g := gb259) (o := .cells #[.slice A0_0 l0_0.length c0_0, .slice A0_1 l0_1.length c0_1] 25 (0, 0)) (kU BK259.out) hb); have n1 := Az (below_step (bU1 HB.out GE259.out) hb); have n2 := Az (hbox); have n3 := Az ((by rw [hg]; exact (below_size (bU1 HB.out GE259.out)) : w.heap.size ≤ gb260)); have n4 := n3; have n5 := Az ((by rw [hg]; exact Nat.ne_of_lt (blk_lt (g := gb259) (o := .cells #[.slice A0_0 l0_0.length c0_0, .slice A0_1 l0_1.length c0_1] 25 (0, 0)) (kU BK259.out)) : gb259 ≠ gb260)); have n6 := Az ((by rw [hg]; exact Nat.ne_of_gt (blk_lt (g := gb259) (o := .cells #[.slice A0_0 l0_0.length c0_0, .slice A0_1 l0_1.length c0_1] 25 (0, 0)) (kU BK259.out)) : gb260 ≠ gb259)); clear BK259 HB; have BK259 := n0; have HB := n1; have BK260 := n2; have GW260 := n3; have GE260 := n4; have NB259_260 := n5; have NB260_259 := n6; clear n0 n1 n2 n3 n4 n5 n6 hb hbox hg; have hnb8 := NB259_260.out; have hnc8 := NB260_259.out; have hcz9_0 : w7.cell? ⟨gb259, 0, none⟩ = some (.slice A0_0 l0_0.length c0_0) := (blk_cell BK259.out 0).trans rfl; have hcz9_1 : w7.cell? ⟨gb259, 1, none⟩ = some (.slice A0_1 l0_1.length c0_1) := (blk_cell BK259.out 1).trans rfl; have hfz9_0 := blk_frozen BK259.out 0; have hfz9_1 := blk_frozen BK259.out 1) | ((with_reducible refine gate_callee (f := 59) rfl ?_); refine goesL_ (some 5) rfl rfl Try.func59 (by kernel_rfl) rfl #[.agg #[.slice A0_0 l0_0.length c0_0, .slice A0_1 l0_1.length c0_1]] rfl (by (try simp only [List.map_toArray, List.map_cons, List.map_nil]); first | done | rfl | (simp only [List.length_drop, List.length_take]; rfl)) ?_; (with_reducible refine (impl_MapValid.calls k (fun k_ => k_ < w.heap.size) _ _ l0_0 (fun k_ => k_ < w.heap.size) _ _ l0_1 true _ ?side1 ?side2 A2.out).mono ?_); (case side1 => exact Kd.V_mk HC0_0.out (Kd.F_below (Kd.C_F (Kd.heap_int .i64) HR0_0.out) (bU2 HB.out GE259.out GE260.out))); (case side2 => exact Kd.V_mk HC0_1.out (Kd.F_below (Kd.C_F (Kd.heap_int .i64) HR0_1.out) (bU2 HB.out GE259.out GE260.out))); rintro e w10 ⟨rfl, hb⟩; refine ⟨_, rfl, ?_⟩; have n0 := Az (blk_below (g := gb259) (o := .cells #[.slice A0_0 l0_0.length c0_0, .slice A0_1 l0_1.length c0_1] 25 (0, 0)) (kU BK259.out) hb); have n1 := Az (blk_below (g := gb260) (o := .cells #[.slice none 0 0, .slice none 0 0] 25 (0, 0)) (kU BK260.out) hb); have n2 := Az (below_step (bU2 HB.out GE259.out GE260.out) hb); clear BK259 BK260 HB; have BK259 := n0; have BK260 := n1; have HB := n2; clear n0 n1 n2; (try clear hb); (try clear hb2); (try clear hk); (try clear hi)))
  have n0 := Az (blk_drew BK259.out); have n1 := Az (blk_drew BK260.out); have n2 := Az (below_drew1 HB.out); clear BK259 BK260 HB; have BK259 := n0; have BK260 := n1; have HB := n2; clear n0 n1 n2
  refine start_ (n := 11) (S := fun w' => w'.cell? ⟨gb259, 0, none⟩ = some (.slice A0_0 l0_0.length c0_0) ∧ w'.cell? ⟨gb259, 1, none⟩ = some (.slice A0_1 l0_1.length c0_1)) (ds := []) #[false, false, false, false, false, false, false, false, false, false, false] (by kernel_rfl) rfl rfl ⟨(blk_cell BK259.out 0).trans rfl, (blk_cell BK259.out 1).trans rfl⟩ (fun hHeld => ?_); refine with_tabW impl_MapDual.tab3 impl_MapDual.bits3 (fun HT_ HW_ => ?_)
  generalize w10.drew = w11 at BK259 BK260 HB hHeld ⊢
  refine pure_ (i := 0) (N := some 8) (v := ?_) (a' := ?_) #[true, false, false, false, false, false, false, false, false, false, false] rfl rfl (any_of HT_.out (by kernel_rfl)) (fun _ _ _ h => h) (Or.inl ⟨by rfl, ?_⟩) ?_ ?_
  rotate_left
  ·
   intro w'
   go_simp
   with_reducible rfl
  rotate_left
  ·
   simp only [Act.put, List.setIfInBounds_toArray, List.set_cons_zero, List.set_cons_succ, i64_w, i32_w]
   rfl
  refine pure_ (i := 2) (N := some 10) (v := ?_) (a' := ?_) #[true, false, true, false, false, false, false, false, false, false, false] rfl rfl (any_of HT_.out (by kernel_rfl)) (fun _ _ _ h => h) (Or.inl ⟨by rfl, ?_⟩) ?_ ?_
  rotate_left
  ·
   intro w'
   go_simp
   with_reducible rfl
  rotate_left
  ·
   simp only [Act.put, List.setIfInBounds_toArray, List.set_cons_zero, List.set_cons_succ, i64_w, i32_w]
   rfl
  refine pure_ (i := 5) (N := some 13) (v := ?_) (a' := ?_) #[true, false, true, false, false, true, false, false, false, false, false] rfl rfl (any_of HT_.out (by kernel_rfl)) (fun _ _ _ h => h) (Or.inl ⟨by rfl, ?_⟩) ?_ ?_
  rotate_left
  ·
   intro w'
   go_simp
   with_reducible rfl
  rotate_left
  ·
   simp only [Act.put, List.setIfInBounds_toArray, List.set_cons_zero, List.set_cons_succ, i64_w, i32_w]
   rfl
  refine take_ (i := 1) (N := some 9) (v := ?_) (a' := ?_) #[true, true, true, false, false, true, false, false, false, false, false] rfl rfl (take_ofW HT_.out HW_.out (by kernel_rfl)) (fun _ _ _ h => h) (Or.inl ⟨by rfl, ?_⟩) hHeld ?_ ?_
  rotate_left
  ·
   rintro w' ⟨s0, s1⟩
   go_simp
   with_reducible rfl
  rotate_left
  ·
   simp only [Act.put, List.setIfInBounds_toArray, List.set_cons_zero, List.set_cons_succ, i64_w, i32_w]
   rfl
  refine take_ (i := 3) (N := some 11) (v := ?_) (a' := ?_) #[true, true, true, true, false, true, false, false, false, false, false] rfl rfl (take_ofW HT_.out HW_.out (by kernel_rfl)) (fun _ _ _ h => h) (Or.inl ⟨by rfl, ?_⟩) hHeld ?_ ?_
  rotate_left
  ·
   rintro w' ⟨s0, s1⟩
   go_simp
   with_reducible rfl
  rotate_left
  ·
   simp only [Act.put, List.setIfInBounds_toArray, List.set_cons_zero, List.set_cons_succ, i64_w, i32_w]
   rfl
  refine take_ (i := 6) (N := some 14) (v := ?_) (a' := ?_) #[true, true, true, true, false, true, true, false, false, false, false] rfl rfl (take_ofW HT_.out HW_.out (by kernel_rfl)) (fun _ _ _ h => h) (Or.inl ⟨by rfl, ?_⟩) hHeld ?_ ?_
  rotate_left
  ·
   rintro w' ⟨s0, s1⟩
   go_simp
   with_reducible rfl
  rotate_left
  ·
   simp only [Act.put, List.setIfInBounds_toArray, List.set_cons_zero, List.set_cons_succ, i64_w, i32_w]
   rfl
  refine one_ (i := 4) (N := some 12) #[true, true, true, true, true, true, true, false, false, false, false] rfl rfl (one_of HT_.out (by kernel_rfl)) (by decide) (fun K hK => ?_)
  refine goes_ Try.func64 (by kernel_rfl) rfl #[.slice A0_1 l0_1.length c0_1, .slice A0_0 l0_0.length c0_0] (by rfl) rfl rfl (by (try simp only [List.map_toArray, List.map_cons, List.map_nil]); first | done | rfl | (simp only [List.length_drop, List.length_take]; rfl)) ?_
  with_reducible refine (impl_mul.calls k _ _ l0_1 _ _ l0_0 t262 _ ?side1 ?side2 ?side3 ?side4 A4.out).mono ?_
  (case side1 => exact cU (Kd.C_below HR0_1.out HB.out))
  (case side2 => exact HC0_1.out)
  (case side3 => exact cU (Kd.C_below HR0_0.out HB.out))
  (case side4 => exact HC0_0.out)
  rintro e w12 ⟨v263, rfl, ho0, hb⟩
  refine ⟨_, rfl, ?_⟩
  have n0 := Az (Kd.R_lower ho0 (below_size (bU2 HB.out GE259.out GE260.out))); have n1 := Az (blk_below (g := gb259) (o := .cells #[.slice A0_0 l0_0.length c0_0, .slice A0_1 l0_1.length c0_1] 25 (0, 0)) (kU BK259.out) hb); have n2 := Az (blk_below (g := gb260) (o := .cells #[.slice none 0 0, .slice none 0 0] 25 (0, 0)) (kU BK260.out) hb); have n3 := Az (below_step (bU2 HB.out GE259.out GE260.out) hb); clear BK259 BK260 HB; have HO264 := n0; have BK259 := n1; have BK260 := n2; have HB := n3; clear n0 n1 n2 n3; (try clear hb); (try clear hb2); (try clear hk); (try clear hi); (try clear ho0)
  refine hK.out _ _ ⟨(blk_cell BK259.out 0).trans rfl, (blk_cell BK259.out 1).trans rfl⟩ (fun hHeld => ?_)
  clear hK K
  refine norm_ (a' := ?_) ?_ ?_
  rotate_left
  ·
   show Act.put _ (some 12) _ = _
   simp only [Act.put, List.setIfInBounds_toArray, List.set_cons_zero, List.set_cons_succ, i64_w, i32_w]
   rfl
  refine one_ (i := 7) (N := some 15) #[true, true, true, true, true, true, true, true, false, false, false] rfl rfl (one_of HT_.out (by kernel_rfl)) (by decide) (fun K hK => ?_)
  refine goes_ Try.func68 (by kernel_rfl) rfl #[.slice A0_1 l0_1.length c0_1] (by rfl) rfl rfl (by (try simp only [List.map_toArray, List.map_cons, List.map_nil]); first | done | rfl | (simp only [List.length_drop, List.length_take]; rfl)) ?_
  with_reducible refine (slices_Clone_int_int.calls _ _ l0_1 t265 _ ?side1 ?side2 A5.out).mono ?_
  (case side1 => exact cU (Kd.C_below HR0_1.out HB.out))
  (case side2 => exact HC0_1.out)
  rintro e w13 ⟨v266, rfl, ho0, hb⟩
  refine ⟨_, rfl, ?_⟩
  have n0 := Az (Kd.R_elder' (rU HO264.out) (Kd.R_base ho0) hb); have n1 := Az (Kd.R_lower (Kd.R_new' ho0 (Kd.R_lt (rU HO264.out))) (below_size (bU2 HB.out GE259.out GE260.out))); have n2 := Az (blk_below (g := gb259) (o := .cells #[.slice A0_0 l0_0.length c0_0, .slice A0_1 l0_1.length c0_1] 25 (0, 0)) (kU BK259.out) hb); have n3 := Az (blk_below (g := gb260) (o := .cells #[.slice none 0 0, .slice none 0 0] 25 (0, 0)) (kU BK260.out) hb); have n4 := Az (below_step (bU2 HB.out GE259.out GE260.out) hb); clear HO264 BK259 BK260 HB; have HO264 := n0; have HO267 := n1; have BK259 := n2; have BK260 := n3; have HB := n4; clear n0 n1 n2 n3 n4; (try clear hb); (try clear hb2); (try clear hk); (try clear hi); (try clear ho0); obtain ⟨Ao14, co14, eo14⟩ := Kd.R_slice HO267.out; (first | subst eo14 | (injection eo14 with f1_ f2_ f3_; have f4_ := f1_.symm; have f5_ := f3_.symm; clear f1_ f2_ f3_; subst f4_; subst f5_)); obtain ⟨Ao15, co15, eo15⟩ := Kd.R_slice HO264.out; (first | subst eo15 | (injection eo15 with f1_ f2_ f3_; have f4_ := f1_.symm; have f5_ := f3_.symm; clear f1_ f2_ f3_; subst f4_; subst f5_))
  refine hK.out _ _ ⟨(blk_cell BK259.out 0).trans rfl, (blk_cell BK259.out 1).trans rfl⟩ (fun hHeld => ?_)
  clear hK K
  refine norm_ (a' := ?_) ?_ ?_
  rotate_left
  ·
   show Act.put _ (some 15) _ = _
   simp only [Act.put, List.setIfInBounds_toArray, List.set_cons_zero, List.set_cons_succ, i64_w, i32_w]
   rfl
  refine pure_ (i := 8) (N := some 16) (v := ?_) (a' := ?_) #[true, true, true, true, true, true, true, true, true, false, false] rfl rfl (any_of HT_.out (by kernel_rfl)) (fun _ _ _ h => h) (Or.inl ⟨by rfl, ?_⟩) ?_ ?_
  rotate_left
  ·
   intro w'
   go_simp
   with_reducible rfl
  rotate_left
  ·
   simp only [Act.put, List.setIfInBounds_toArray, List.set_cons_zero, List.set_cons_succ, i64_w, i32_w]
   rfl
  refine one_ (i := 9) (N := none) #[true, true, true, true, true, true, true, true, true, true, false] rfl rfl (one_of HT_.out (by kernel_rfl)) (by decide) (fun K hK => ?_)
  have hs16 : w13.cell? ⟨gb260, 0, none⟩ = some (.slice none 0 0) := (blk_cell BK260.out 0).trans rfl; have hfs16 := blk_frozen BK260.out 0; have hns16_0 := NB259_260.out; have hms16_0 := NB260_259.out; have hs17 : w13.cell? ⟨gb260, 1, none⟩ = some (.slice none 0 0) := (blk_cell BK260.out 1).trans rfl; have hfs17 := blk_frozen BK260.out 1; have hns17_0 := NB259_260.out; have hms17_0 := NB260_259.out
  refine skip_ (w1 := ?_) (by rfl) rfl ?_ ?_
  rotate_left
  ·
   go_simp
   rfl
  refine hK.out _ _ ⟨((cell_far (p := ⟨gb260, _, none⟩) NB259_260.out _).trans (((cell_far (p := ⟨gb260, _, none⟩) NB259_260.out _).trans (hHeld.1)))), ((cell_far (p := ⟨gb260, _, none⟩) NB259_260.out _).trans (((cell_far (p := ⟨gb260, _, none⟩) NB259_260.out _).trans (hHeld.2))))⟩ (fun hHeld => ?_)
  clear hK K
  refine pure_ (i := 10) (N := some 3) (v := ?_) (a' := ?_) #[true, true, true, true, true, true, true, true, true, true, true] rfl rfl (any_of HT_.out (by kernel_rfl)) (fun _ _ _ h => h) (Or.inl ⟨by rfl, ?_⟩) ?_ ?_
  rotate_left
  ·
   intro w'
   go_simp
   with_reducible rfl
  rotate_left
  ·
   simp only [Act.put, List.setIfInBounds_toArray, List.set_cons_zero, List.set_cons_succ, i64_w, i32_w]
   rfl
  refine done_ (done_of HT_.out (by kernel_rfl)) ?_
  try go_wp2
  refine bodyPost_ret (results_ct rfl _ _ gb260 25 #[.slice Ao15 t262.length co15, .slice Ao14 t265.length co14] (0, 0) _ rfl (by (with_reducible repeat (first | refine blk_drewN ?_ _ | refine blk_drew ?_ | refine blk_alloc ?_ _)); refine blk_put (cs := #[.slice Ao15 t262.length co15, .slice none 0 0]) ?_ 1 _ rfl; (with_reducible repeat (first | refine blk_drewN ?_ _ | refine blk_drew ?_ | refine blk_alloc ?_ _)); refine blk_put (cs := #[.slice none 0 0, .slice none 0 0]) ?_ 0 _ rfl; (with_reducible repeat (first | refine blk_drewN ?_ _ | refine blk_drew ?_ | refine blk_alloc ?_ _)); exact BK260.out) Try.underlying25 rfl (by kernel_rfl)) rfl ?_
  exact ⟨_, _, rE, by (with_reducible repeat (first | apply Kd.R_alloc | apply Kd.R_drewN | apply Kd.R_drew)); exact Kd.R_mono (Kd.R_far (p := ⟨gb260, 1, none⟩) (Kd.R_far (p := ⟨gb260, 0, none⟩) (Kd.R_types HO264.out BK260.out (by decide)) (fun _ hk => hk.2) (.slice Ao15 t262.length co15)) (fun _ hk => hk.2) (.slice Ao14 t265.length co14)) (fun _ hk => hk.1.2), by (with_reducible repeat (first | apply Kd.R_alloc | apply Kd.R_drewN | apply Kd.R_drew)); exact Kd.R_mono (Kd.R_far (p := ⟨gb260, 1, none⟩) (Kd.R_far (p := ⟨gb260, 0, none⟩) (Kd.R_types HO267.out BK260.out (by decide)) (fun _ hk => hk.2) (.slice Ao15 t262.length co15)) (fun _ hk => hk.2) (.slice Ao14 t265.length co14)) (fun _ hk => hk.1.2), bU2 HB.out GE259.out GE260.out⟩
 ·
  replace c3 := Bool.eq_false_iff.mpr c3; subst c3
  have H1 : (some (([] : List Int), ([] : List Int), false)) = some (r1, r2, r3) := by rw [if_neg (show ¬ (false = true) by decide)] at H; exact H
  clear H; have H := H1; clear H1; simp only [Option.some.injEq, Prod.mk.injEq] at H; obtain ⟨rfl, rfl, rfl⟩ := H
  go_enter Try.func26, Try.ntmps26
  go_wp2_with (first | ((with_reducible refine gate_dst (N := 1) rfl ?_); refine box_event ?hg (N := 1) ?hd (cs := #[.slice A0_0 l0_0.length c0_0, .slice A0_1 l0_1.length c0_1]) (t := 25) ?hr ?_; (case hd => rfl); (case hg => rfl); (case hr => first | (go_simp; done) | (go_simp; rfl)); intro gb259 hg w18 hbox hb; have n0 := Az (below_step (bU0 HB.out) hb); have n1 := Az (hbox); have n2 := Az ((by rw [hg]; exact (below_size (bU0 HB.out)) : w.heap.size ≤ gb259)); have n3 := n2; clear HB; have HB := n0; have BK259 := n1; have GW259 := n2; have GE259 := n3; clear n0 n1 n2 n3; clear hb hbox hg) | ((with_reducible refine gate_dst (N := 2) rfl ?_); refine box_event ?hg (N := 2) ?hd (cs := #[.slice none 0 0, .slice none 0 0]) (t := 25) ?hr ?_; (case hd => rfl); (case hg => rfl); (case hr => first | (go_simp; done) | (go_simp; rfl)); intro gb260 hg w19 hbox hb; have n0 := Az (blk_below (g := gb259) (o := .cells #[.slice A0_0 l0_0.length c0_0, .slice A0_1 l0_1.length c0_1] 25 (0, 0)) (kU BK259.out) hb); have n1 := Az (below_step (bU1 HB.out GE259.out) hb); have n2 := Az (hbox); have n3 := Az ((by rw [hg]; exact (below_size (bU1 HB.out GE259.out)) : w.heap.size ≤ gb260)); have n4 := n3; have n5 := Az ((by rw [hg]; exact Nat.ne_of_lt (blk_lt (g := gb259) (o := .cells #[.slice A0_0 l0_0.length c0_0, .slice A0_1 l0_1.length c0_1] 25 (0, 0)) (kU BK259.out)) : gb259 ≠ gb260)); have n6 := Az ((by rw [hg]; exact Nat.ne_of_gt (blk_lt (g := gb259) (o := .cells #[.slice A0_0 l0_0.length c0_0, .slice A0_1 l0_1.length c0_1] 25 (0, 0)) (kU BK259.out)) : gb260 ≠ gb259)); clear BK259 HB; have BK259 := n0; have HB := n1; have BK260 := n2; have GW260 := n3; have GE260 := n4; have NB259_260 := n5; have NB260_259 := n6; clear n0 n1 n2 n3 n4 n5 n6 hb hbox hg; have hnb20 := NB259_260.out; have hnc20 := NB260_259.out; have hcz21_0 : w19.cell? ⟨gb259, 0, none⟩ = some (.slice A0_0 l0_0.length c0_0) := (blk_cell BK259.out 0).trans rfl; have hcz21_1 : w19.cell? ⟨gb259, 1, none⟩ = some (.slice A0_1 l0_1.length c0_1) := (blk_cell BK259.out 1).trans rfl; have hfz21_0 := blk_frozen BK259.out 0; have hfz21_1 := blk_frozen BK259.out 1) | ((with_reducible refine gate_callee (f := 59) rfl ?_); refine goesL_ (some 5) rfl rfl Try.func59 (by kernel_rfl) rfl #[.agg #[.slice A0_0 l0_0.length c0_0, .slice A0_1 l0_1.length c0_1]] rfl (by (try simp only [List.map_toArray, List.map_cons, List.map_nil]); first | done | rfl | (simp only [List.length_drop, List.length_take]; rfl)) ?_; (with_reducible refine (impl_MapValid.calls k (fun k_ => k_ < w.heap.size) _ _ l0_0 (fun k_ => k_ < w.heap.size) _ _ l0_1 false _ ?side1 ?side2 A2.out).mono ?_); (case side1 => exact Kd.V_mk HC0_0.out (Kd.F_below (Kd.C_F (Kd.heap_int .i64) HR0_0.out) (bU2 HB.out GE259.out GE260.out))); (case side2 => exact Kd.V_mk HC0_1.out (Kd.F_below (Kd.C_F (Kd.heap_int .i64) HR0_1.out) (bU2 HB.out GE259.out GE260.out))); rintro e w22 ⟨rfl, hb⟩; refine ⟨_, rfl, ?_⟩; have n0 := Az (blk_below (g := gb259) (o := .cells #[.slice A0_0 l0_0.length c0_0, .slice A0_1 l0_1.length c0_1] 25 (0, 0)) (kU BK259.out) hb); have n1 := Az (blk_below (g := gb260) (o := .cells #[.slice none 0 0, .slice none 0 0] 25 (0, 0)) (kU BK260.out) hb); have n2 := Az (below_step (bU2 HB.out GE259.out GE260.out) hb); clear BK259 BK260 HB; have BK259 := n0; have BK260 := n1; have HB := n2; clear n0 n1 n2; (try clear hb); (try clear hb2); (try clear hk); (try clear hi); have hcz23_0 : w22.cell? ⟨gb260, 0, none⟩ = some (.slice none 0 0) := (blk_cell BK260.out 0).trans rfl; have hcz23_1 : w22.cell? ⟨gb260, 1, none⟩ = some (.slice none 0 0) := (blk_cell BK260.out 1).trans rfl; have hfz23_0 := blk_frozen BK260.out 0; have hfz23_1 := blk_frozen BK260.out 1))
  refine bodyPost_ret (results_ct rfl _ _ gb260 25 #[.slice none 0 0, .slice none 0 0] (0, 0) _ rfl (by (with_reducible repeat (first | refine blk_drewN ?_ _ | refine blk_drew ?_ | refine blk_alloc ?_ _)); refine blk_put (cs := #[.slice none 0 0, .slice none 0 0]) ?_ 1 _ rfl; (with_reducible repeat (first | refine blk_drewN ?_ _ | refine blk_drew ?_ | refine blk_alloc ?_ _)); refine blk_put (cs := #[.slice none 0 0, .slice none 0 0]) ?_ 0 _ rfl; (with_reducible repeat (first | refine blk_drewN ?_ _ | refine blk_drew ?_ | refine blk_alloc ?_ _)); exact BK260.out) Try.underlying25 rfl (by kernel_rfl)) rfl ?_
  exact ⟨_, _, rE, by first | exact Kd.R_nil _ _ _ _ _ | exact Kd.N_nil _ _ _ _ _ | exact Kd.V_nil _ _ _ _ _ | exact Kd.Q_nil _ _ _ _ _ | exact Kd.S_nil _ _ _ _ _, by first | exact Kd.R_nil _ _ _ _ _ | exact Kd.N_nil _ _ _ _ _ | exact Kd.V_nil _ _ _ _ _ | exact Kd.Q_nil _ _ _ _ _ | exact Kd.S_nil _ _ _ _ _, bU2 HB.out GE259.out GE260.out⟩
set_option maxHeartbeats 8000000 in
set_option maxRecDepth 100000 in
theorem impl_ChoiceQuasi.calls (k : Nat) (A0_0 : Option Addr) (c0_0 : Nat) (l0_0 : List Int) (A0_1 : Option Addr) (c0_1 : Nat) (l0_1 : List Int) (A1 : Option Addr) (c1 : Nat) (l1 : List Int) (r : Bool) (w : World) (hr0_0 : Kd.C (Kd.int .i64) w A0_0 l0_0.length l0_0) (hc0_0 : l0_0.length ≤ c0_0) (hr0_1 : Kd.C (Kd.int .i64) w A0_1 l0_1.length l0_1) (hc0_1 : l0_1.length ≤ c0_1) (hr1 : Kd.C (Kd.int .i64) w A1 l1.length l1) (hc1 : l1.length ≤ c1) (h : impl_ChoiceQuasi.f k l0_0 l0_1 l1 = some r) :
  Calls Try.prog 30 #[.agg #[.slice A0_0 l0_0.length c0_0, .slice A0_1 l0_1.length c0_1], .slice A1 l1.length c1] w fun e w' => e = .returned (.bool r) ∧ Below w.heap.size w w' := by
 have hu25 := Try.underlying25; have HR0_0 := Az hr0_0; have HC0_0 := Az hc0_0; clear hr0_0 hc0_0; have HR0_1 := Az hr0_1; have HC0_1 := Az hc0_1; clear hr0_1 hc0_1; have HR1 := Az hr1; have HC1 := Az hc1; clear hr1 hc1; have HB := Az (Below.refl w.heap.size w); have H : ((impl_ChoiceValid.f k l0_0 l0_1 l1).bind fun t269 => (if t269 = true then ((impl_ribbon.f k l0_0 l0_1 l1).bind fun t270 => (if 0 < (t270.length : Int) then (if (rd t270 0) = 1 then (if 1 < (t270.length : Int) then (some ((rd t270 1) == 1)) else (none)) else (some false)) else (none))) else (some false))) = some r := h; clear h; replace H := Option.bind_eq_some_iff.mp H; obtain ⟨t269, A30, H⟩ := H; replace H : (if t269 = true then ((impl_ribbon.f k l0_0 l0_1 l1).bind fun t270 => (if 0 < (t270.length : Int) then (if (rd t270 0) = 1 then (if 1 < (t270.length : Int) then (some ((rd t270 1) == 1)) else (none)) else (some false)) else (none))) else (some false)) = some r := H; have A3 := Az A30; clear A30
 by_cases c4 : t269 = true
 ·
  subst c4
  have H1 : ((impl_ribbon.f k l0_0 l0_1 l1).bind fun t270 => (if 0 < (t270.length : Int) then (if (rd t270 0) = 1 then (if 1 < (t270.length : Int) then (some ((rd t270 1) == 1)) else (none)) else (some false)) else (none))) = some r := by rw [if_pos rfl] at H; exact H
  clear H; have H := H1; clear H1; replace H := Option.bind_eq_some_iff.mp H; obtain ⟨t270, A50, H⟩ := H; replace H : (if 0 < (t270.length : Int) then (if (rd t270 0) = 1 then (if 1 < (t270.length : Int) then (some ((rd t270 1) == 1)) else (none)) else (some false)) else (none)) = some r := H; have A5 := Az A50; clear A50
  by_cases c6 : 0 < (t270.length : Int)
  ·
   rw [if_pos c6] at H; have c6b0 := decide_eq_true c6; have c6b1 : decide (0 < t270.length) = true := decide_eq_true (by omega); clear c6
   by_cases c7 : (rd t270 0) = 1
   ·
    rw [if_pos c7] at H; have c7b0 := beq_iff_eq.mpr c7; have c7b1 := bne_eq_false_iff_eq.mpr c7; clear c7
    by_cases c8 : 1 < (t270.length : Int)
    ·
     rw [if_pos c8] at H; have c8b0 := decide_eq_true c8; have c8b1 : decide (1 < t270.length) = true := decide_eq_true (by omega); clear c8; obtain rfl := Option.some.inj H
     go_enter Try.func30, Try.ntmps30
     go_wp2_with (first | ((with_reducible refine gate_dst (N := 2) rfl ?_); refine box_event ?hg (N := 2) ?hd (cs := #[.slice A0_0 l0_0.length c0_0, .slice A0_1 l0_1.length c0_1]) (t := 25) ?hr ?_; (case hd => rfl); (case hg => rfl); (case hr => first | (go_simp; done) | (go_simp; rfl)); intro gb268 hg w9 hbox hb; have n0 := Az (below_step (bU0 HB.out) hb); have n1 := Az (hbox); have n2 := Az ((by rw [hg]; exact (below_size (bU0 HB.out)) : w.heap.size ≤ gb268)); have n3 := n2; clear HB; have HB := n0; have BK268 := n1; have GW268 := n2; have GE268 := n3; clear n0 n1 n2 n3 hb hbox hg; have hcz10_0 : w9.cell? ⟨gb268, 0, none⟩ = some (.slice A0_0 l0_0.length c0_0) := (blk_cell BK268.out 0).trans rfl; have hcz10_1 : w9.cell? ⟨gb268, 1, none⟩ = some (.slice A0_1 l0_1.length c0_1) := (blk_cell BK268.out 1).trans rfl; have hfz10_0 := blk_frozen BK268.out 0; have hfz10_1 := blk_frozen BK268.out 1) | ((with_reducible refine gate_callee (f := 16) rfl ?_); refine goesL_ (some 8) rfl rfl Try.func16 (by kernel_rfl) rfl #[.agg #[.slice A0_0 l0_0.length c0_0, .slice A0_1 l0_1.length c0_1], .slice A1 l1.length c1] rfl (by (try simp only [List.map_toArray, List.map_cons, List.map_nil]); first | done | rfl | (simp only [List.length_drop, List.length_take]; rfl)) ?_; (with_reducible refine (impl_ChoiceValid.calls k _ _ l0_0 _ _ l0_1 _ _ l1 true _ ?side1 ?side2 ?side3 ?side4 ?side5 ?side6 A3.out).mono ?_); (case side1 => exact cU (Kd.C_below HR0_0.out HB.out)); (case side2 => exact HC0_0.out); (case side3 => exact cU (Kd.C_below HR0_1.out HB.out)); (case side4 => exact HC0_1.out); (case side5 => exact cU (Kd.C_below HR1.out HB.out)); (case side6 => exact HC1.out); rintro e w11 ⟨rfl, hb⟩; refine ⟨_, rfl, ?_⟩; have n0 := Az (blk_below (g := gb268) (o := .cells #[.slice A0_0 l0_0.length c0_0, .slice A0_1 l0_1.length c0_1] 25 (0, 0)) (kU BK268.out) hb); have n1 := Az (below_step (bU1 HB.out GE268.out) hb); clear BK268 HB; have BK268 := n0; have HB := n1; clear n0 n1; (try clear hb); (try clear hb2); (try clear hk); (try clear hi); have hcz12_0 : w11.cell? ⟨gb268, 0, none⟩ = some (.slice A0_0 l0_0.length c0_0) := (blk_cell BK268.out 0).trans rfl; have hcz12_1 : w11.cell? ⟨gb268, 1, none⟩ = some (.slice A0_1 l0_1.length c0_1) := (blk_cell BK268.out 1).trans rfl; have hfz12_0 := blk_frozen BK268.out 0; have hfz12_1 := blk_frozen BK268.out 1) | ((with_reducible refine gate_callee (f := 65) rfl ?_); refine goesL_ (some 12) rfl rfl Try.func65 (by kernel_rfl) rfl #[.agg #[.slice A0_0 l0_0.length c0_0, .slice A0_1 l0_1.length c0_1], .slice A1 l1.length c1] rfl (by (try simp only [List.map_toArray, List.map_cons, List.map_nil]); first | done | rfl | (simp only [List.length_drop, List.length_take]; rfl)) ?_; (with_reducible refine (impl_ribbon.calls k (fun k_ => k_ < w.heap.size) _ _ l0_0 _ _ l0_1 _ _ l1 t270 _ ?side1 ?side2 ?side3 ?side4 ?side5 A5.out).mono ?_); (case side1 => exact Kd.V_mk HC0_0.out (Kd.F_below (Kd.C_F (Kd.heap_int .i64) HR0_0.out) (bU1 HB.out GE268.out))); (case side2 => exact cU (Kd.C_below HR0_1.out HB.out)); (case side3 => exact HC0_1.out); (case side4 => exact cU (Kd.C_below HR1.out HB.out)); (case side5 => exact HC1.out); rintro e w13 ⟨v271, rfl, ho0, hb⟩; refine ⟨_, rfl, ?_⟩; have n0 := Az (Kd.R_lower (Kd.R_mono (ok' := fun k_ => True) ho0 (fun _ hk_ => trivial)) (below_size (bU1 HB.out GE268.out))); have n1 := Az (blk_below (g := gb268) (o := .cells #[.slice A0_0 l0_0.length c0_0, .slice A0_1 l0_1.length c0_1] 25 (0, 0)) (kU BK268.out) hb); have n2 := Az (below_step (bU1 HB.out GE268.out) hb); clear BK268 HB; have HO272 := n0; have BK268 := n1; have HB := n2; clear n0 n1 n2; (try clear hb); (try clear hb2); (try clear hk); (try clear hi); (try clear ho0); obtain ⟨Ao14, co14, eo14⟩ := Kd.R_slice HO272.out; subst eo14; have p273 : 0 ≤ (0 : Int) := (by omega); have q273 : 0 < (t270.length : Int) := oA; obtain ⟨ad273, e273, hx273_0⟩ := Kd.at_int (Kd.R_reads' HO272.out).2.2 0 p273 q273; cases e273; have qi273 : (0 < t270.length) = True := eq_true (by omega); (try rw [show ((0 : Int)).toNat = 0 from rfl] at hx273_0); (try rw [Addr.add_zero'] at hx273_0); replace p273 := eq_true p273; replace q273 := eq_true q273; have p274 : 0 ≤ (1 : Int) := (by omega); have q274 : 1 < (t270.length : Int) := oA; obtain ⟨ad274, e274, hx274_0⟩ := Kd.at_int (Kd.R_reads' HO272.out).2.2 1 p274 q274; obtain rfl : ad273 = ad274 := (by injection e274); (try simp only [show (1 : Int).toNat = 1 from rfl, Nat.reduceMul, Nat.reduceEqDiff, Go.Addr.add, ↓reduceIte] at hx274_0); have qi274 : (1 < t270.length) = True := eq_true (by omega); (try rw [show ((1 : Int)).toNat = 1 from rfl] at hx274_0); replace p274 := eq_true p274; replace q274 := eq_true q274))
     go_ret
     exact ⟨rE, bU1 HB.out GE268.out⟩
    ·
     rw [if_neg c8] at H
     exact absurd H (by simp)
   ·
    rw [if_neg c7] at H; have c7b0 := beq_eq_false_iff_ne.mpr c7; have c7b1 := bne_iff_ne.mpr c7; obtain rfl := Option.some.inj H
    go_enter Try.func30, Try.ntmps30
    go_wp2_with (first | ((with_reducible refine gate_dst (N := 2) rfl ?_); refine box_event ?hg (N := 2) ?hd (cs := #[.slice A0_0 l0_0.length c0_0, .slice A0_1 l0_1.length c0_1]) (t := 25) ?hr ?_; (case hd => rfl); (case hg => rfl); (case hr => first | (go_simp; done) | (go_simp; rfl)); intro gb268 hg w15 hbox hb; have n0 := Az (below_step (bU0 HB.out) hb); have n1 := Az (hbox); have n2 := Az ((by rw [hg]; exact (below_size (bU0 HB.out)) : w.heap.size ≤ gb268)); have n3 := n2; clear HB; have HB := n0; have BK268 := n1; have GW268 := n2; have GE268 := n3; clear n0 n1 n2 n3 hb hbox hg; have hcz16_0 : w15.cell? ⟨gb268, 0, none⟩ = some (.slice A0_0 l0_0.length c0_0) := (blk_cell BK268.out 0).trans rfl; have hcz16_1 : w15.cell? ⟨gb268, 1, none⟩ = some (.slice A0_1 l0_1.length c0_1) := (blk_cell BK268.out 1).trans rfl; have hfz16_0 := blk_frozen BK268.out 0; have hfz16_1 := blk_frozen BK268.out 1) | ((with_reducible refine gate_callee (f := 16) rfl ?_); refine goesL_ (some 8) rfl rfl Try.func16 (by kernel_rfl) rfl #[.agg #[.slice A0_0 l0_0.length c0_0, .slice A0_1 l0_1.length c0_1], .slice A1 l1.length c1] rfl (by (try simp only [List.map_toArray, List.map_cons, List.map_nil]); first | done | rfl | (simp only [List.length_drop, List.length_take]; rfl)) ?_; (with_reducible refine (impl_ChoiceValid.calls k _ _ l0_0 _ _ l0_1 _ _ l1 true _ ?side1 ?side2 ?side3 ?side4 ?side5 ?side6 A3.out).mono ?_); (case side1 => exact cU (Kd.C_below HR0_0.out HB.out)); (case side2 => exact HC0_0.out); (case side3 => exact cU (Kd.C_below HR0_1.out HB.out)); (case side4 => exact HC0_1.out); (case side5 => exact cU (Kd.C_below HR1.out HB.out)); (case side6 => exact HC1.out); rintro e w17 ⟨rfl, hb⟩; refine ⟨_, rfl, ?_⟩; have n0 := Az (blk_below (g := gb268) (o := .cells #[.slice A0_0 l0_0.length c0_0, .slice A0_1 l0_1.length c0_1] 25 (0, 0)) (kU BK268.out) hb); have n1 := Az (below_step (bU1 HB.out GE268.out) hb); clear BK268 HB; have BK268 := n0; have HB := n1; clear n0 n1; (try clear hb); (try clear hb2); (try clear hk); (try clear hi); have hcz18_0 : w17.cell? ⟨gb268, 0, none⟩ = some (.slice A0_0 l0_0.length c0_0) := (blk_cell BK268.out 0).trans rfl; have hcz18_1 : w17.cell? ⟨gb268, 1, none⟩ = some (.slice A0_1 l0_1.length c0_1) := (blk_cell BK268.out 1).trans rfl; have hfz18_0 := blk_frozen BK268.out 0; have hfz18_1 := blk_frozen BK268.out 1) | ((with_reducible refine gate_callee (f := 65) rfl ?_); refine goesL_ (some 12) rfl rfl Try.func65 (by kernel_rfl) rfl #[.agg #[.slice A0_0 l0_0.length c0_0, .slice A0_1 l0_1.length c0_1], .slice A1 l1.length c1] rfl (by (try simp only [List.map_toArray, List.map_cons, List.map_nil]); first | done | rfl | (simp only [List.length_drop, List.length_take]; rfl)) ?_; (with_reducible refine (impl_ribbon.calls k (fun k_ => k_ < w.heap.size) _ _ l0_0 _ _ l0_1 _ _ l1 t270 _ ?side1 ?side2 ?side3 ?side4 ?side5 A5.out).mono ?_); (case side1 => exact Kd.V_mk HC0_0.out (Kd.F_below (Kd.C_F (Kd.heap_int .i64) HR0_0.out) (bU1 HB.out GE268.out))); (case side2 => exact cU (Kd.C_below HR0_1.out HB.out)); (case side3 => exact HC0_1.out); (case side4 => exact cU (Kd.C_below HR1.out HB.out)); (case side5 => exact HC1.out); rintro e w19 ⟨v271, rfl, ho0, hb⟩; refine ⟨_, rfl, ?_⟩; have n0 := Az (Kd.R_lower (Kd.R_mono (ok' := fun k_ => True) ho0 (fun _ hk_ => trivial)) (below_size (bU1 HB.out GE268.out))); have n1 := Az (blk_below (g := gb268) (o := .cells #[.slice A0_0 l0_0.length c0_0, .slice A0_1 l0_1.length c0_1] 25 (0, 0)) (kU BK268.out) hb); have n2 := Az (below_step (bU1 HB.out GE268.out) hb); clear BK268 HB; have HO272 := n0; have BK268 := n1; have HB := n2; clear n0 n1 n2; (try clear hb); (try clear hb2); (try clear hk); (try clear hi); (try clear ho0); obtain ⟨Ao20, co20, eo20⟩ := Kd.R_slice HO272.out; subst eo20; have p273 : 0 ≤ (0 : Int) := (by omega); have q273 : 0 < (t270.length : Int) := oA; obtain ⟨ad273, e273, hx273_0⟩ := Kd.at_int (Kd.R_reads' HO272.out).2.2 0 p273 q273; cases e273; have qi273 : (0 < t270.length) = True := eq_true (by omega); (try rw [show ((0 : Int)).toNat = 0 from rfl] at hx273_0); (try rw [Addr.add_zero'] at hx273_0); replace p273 := eq_true p273; replace q273 := eq_true q273))
    go_ret
    exact ⟨rE, bU1 HB.out GE268.out⟩
  ·
   rw [if_neg c6] at H
   exact absurd H (by simp)
 ·
  replace c4 := Bool.eq_false_iff.mpr c4; subst c4
  have H1 : (some false) = some r := by rw [if_neg (show ¬ (false = true) by decide)] at H; exact H
  clear H; have H := H1; clear H1; obtain rfl := Option.some.inj H
  go_enter Try.func30, Try.ntmps30
  go_wp2_with (first | ((with_reducible refine gate_dst (N := 2) rfl ?_); refine box_event ?hg (N := 2) ?hd (cs := #[.slice A0_0 l0_0.length c0_0, .slice A0_1 l0_1.length c0_1]) (t := 25) ?hr ?_; (case hd => rfl); (case hg => rfl); (case hr => first | (go_simp; done) | (go_simp; rfl)); intro gb268 hg w21 hbox hb; have n0 := Az (below_step (bU0 HB.out) hb); have n1 := Az (hbox); have n2 := Az ((by rw [hg]; exact (below_size (bU0 HB.out)) : w.heap.size ≤ gb268)); have n3 := n2; clear HB; have HB := n0; have BK268 := n1; have GW268 := n2; have GE268 := n3; clear n0 n1 n2 n3 hb hbox hg; have hcz22_0 : w21.cell? ⟨gb268, 0, none⟩ = some (.slice A0_0 l0_0.length c0_0) := (blk_cell BK268.out 0).trans rfl; have hcz22_1 : w21.cell? ⟨gb268, 1, none⟩ = some (.slice A0_1 l0_1.length c0_1) := (blk_cell BK268.out 1).trans rfl; have hfz22_0 := blk_frozen BK268.out 0; have hfz22_1 := blk_frozen BK268.out 1) | ((with_reducible refine gate_callee (f := 16) rfl ?_); refine goesL_ (some 8) rfl rfl Try.func16 (by kernel_rfl) rfl #[.agg #[.slice A0_0 l0_0.length c0_0, .slice A0_1 l0_1.length c0_1], .slice A1 l1.length c1] rfl (by (try simp only [List.map_toArray, List.map_cons, List.map_nil]); first | done | rfl | (simp only [List.length_drop, List.length_take]; rfl)) ?_; (with_reducible refine (impl_ChoiceValid.calls k _ _ l0_0 _ _ l0_1 _ _ l1 false _ ?side1 ?side2 ?side3 ?side4 ?side5 ?side6 A3.out).mono ?_); (case side1 => exact cU (Kd.C_below HR0_0.out HB.out)); (case side2 => exact HC0_0.out); (case side3 => exact cU (Kd.C_below HR0_1.out HB.out)); (case side4 => exact HC0_1.out); (case side5 => exact cU (Kd.C_below HR1.out HB.out)); (case side6 => exact HC1.out); rintro e w23 ⟨rfl, hb⟩; refine ⟨_, rfl, ?_⟩; have n0 := Az (blk_below (g := gb268) (o := .cells #[.slice A0_0 l0_0.length c0_0, .slice A0_1 l0_1.length c0_1] 25 (0, 0)) (kU BK268.out) hb); have n1 := Az (below_step (bU1 HB.out GE268.out) hb); clear BK268 HB; have BK268 := n0; have HB := n1; clear n0 n1; (try clear hb); (try clear hb2); (try clear hk); (try clear hi)))
  go_ret
  exact ⟨rE, bU1 HB.out GE268.out⟩
def spec_DrawChoiceQuasi.f (k : Nat) (l0 : List Int) : Option (List Int × List Int × List Int) := (spec_l6Open.f l0).bind fun bt398 => ((spec_l92Choice.f k bt398.1 bt398.2).bind fun bt401 => (some (bt401.1, bt401.2.1, bt401.2.2.1)))
set_option maxHeartbeats 8000000 in
set_option maxRecDepth 100000 in
theorem spec_DrawChoiceQuasi.calls (k : Nat) (A0 : Option Addr) (c0 : Nat) (l0 : List Int) (r1 : List Int) (r2 : List Int) (r3 : List Int) (w : World) (hr0 : Kd.C (Kd.int .u8) w A0 l0.length l0) (hc0 : l0.length ≤ c0) (h : spec_DrawChoiceQuasi.f k l0 = some (r1, r2, r3)) :
  Calls Try.prog 34 #[.slice A0 l0.length c0] w fun e w' => ∃ v0_ v1_ v2_ : Value, e = .returned (.tuple #[.agg #[v0_, v1_], v2_]) ∧ Kd.Q (Kd.int .i64) 3 w' w.heap.size (fun k_ => some k_ ≠ (v1_ : Value).ownBlock ∧ some k_ ≠ (v2_ : Value).ownBlock) v0_ r1 ∧ Kd.R (Kd.int .i64) 3 w' w.heap.size (fun k_ => some k_ ≠ (v0_ : Value).ownBlock ∧ some k_ ≠ (v2_ : Value).ownBlock) v1_ r2 ∧ Kd.R (Kd.int .i64) 3 w' w.heap.size (fun k_ => some k_ ≠ (v0_ : Value).ownBlock ∧ some k_ ≠ (v1_ : Value).ownBlock) v2_ r3 ∧ Below w.heap.size w w' := by
 have hu25 := Try.underlying25; have HR0 := Az hr0; have HC0 := Az hc0; clear hr0 hc0; have HB := Az (Below.refl w.heap.size w); have H : ((spec_l6Open.f l0).bind fun bt398 => ((spec_l92Choice.f k bt398.1 bt398.2).bind fun bt401 => (some (bt401.1, bt401.2.1, bt401.2.2.1)))) = some (r1, r2, r3) := h; clear h; replace H := Option.bind_eq_some_iff.mp H; obtain ⟨⟨t398, t399⟩, A20, H⟩ := H; replace H : ((spec_l92Choice.f k t398 t399).bind fun bt401 => (some (bt401.1, bt401.2.1, bt401.2.2.1))) = some (r1, r2, r3) := H; have A2 := Az A20; clear A20; replace H := Option.bind_eq_some_iff.mp H; obtain ⟨⟨t401, t404, t407, t410⟩, A30, H⟩ := H; replace H : (some (t401, t404, t407)) = some (r1, r2, r3) := H; have A3 := Az A30; clear A30; simp only [Option.some.injEq, Prod.mk.injEq] at H; obtain ⟨rfl, rfl, rfl⟩ := H
 go_enter Try.func34, Try.ntmps34
 go_wp2_with (first | ((with_reducible refine gate_dst (N := 2) rfl ?_); refine box_event ?hg (N := 2) ?hd (cs := #[.slice none 0 0, .slice none 0 0]) (t := 25) ?hr ?_; (case hd => rfl); (case hg => rfl); (case hr => first | (go_simp; done) | (go_simp; rfl)); intro gb397 hg w4 hbox hb; have n0 := Az (below_step (bU0 HB.out) hb); have n1 := Az (hbox); have n2 := Az ((by rw [hg]; exact (below_size (bU0 HB.out)) : w.heap.size ≤ gb397)); have n3 := n2; clear HB; have HB := n0; have BK397 := n1; have GW397 := n2; have GE397 := n3; clear n0 n1 n2 n3; clear hb hbox hg) | ((with_reducible refine gate_callee (f := 58) rfl ?_); refine goesL_ (some 5) rfl rfl Try.func58 (by kernel_rfl) rfl #[.slice A0 l0.length c0] rfl (by (try simp only [List.map_toArray, List.map_cons, List.map_nil]); first | done | rfl | (simp only [List.length_drop, List.length_take]; rfl)) ?_; (with_reducible refine (spec_l6Open.calls _ _ l0 t398 t399 w _ ?side1 ?side2 ?side3 A2.out).mono ?_); (case side1 => repeat (first | (with_reducible first | exact HB.out | apply below_alloc | apply pw_below_drewN | apply below_drew1 | refine below_set ?_ GE397.out) | exact HB.out)); (case side2 => exact HR0.out); (case side3 => exact HC0.out); rintro e w5 ⟨g400, rfl, hi, hb, hb2⟩; refine ⟨_, rfl, ?_⟩; have n0 := Az (blk_below (g := gb397) (o := .cells #[.slice none 0 0, .slice none 0 0] 25 (0, 0)) (kU BK397.out) hb2); have n1 := Az (hb); have n2 := Az (hi); have n3 := Az (IsS73.ne_blk hi (blk_below (g := gb397) (o := .cells #[.slice none 0 0, .slice none 0 0] 25 (0, 0)) (kU BK397.out) hb2) (by decide)); have n4 := Az (Ne.symm (IsS73.ne_blk hi (blk_below (g := gb397) (o := .cells #[.slice none 0 0, .slice none 0 0] 25 (0, 0)) (kU BK397.out) hb2) (by decide))); clear BK397 HB; have BK397 := n0; have HB := n1; have HI400 := n2; have NB400_397 := n3; have NB397_400 := n4; clear n0 n1 n2 n3 n4; (try clear hb); (try clear hb2); (try clear hk); (try clear hi)) | ((with_reducible refine gate_callee (f := 57) rfl ?_); refine goesL_ (some 6) rfl rfl Try.func57 (by kernel_rfl) rfl #[.pointer (some ⟨g400, 0, none⟩)] rfl (by (try simp only [List.map_toArray, List.map_cons, List.map_nil]); first | done | rfl | (simp only [List.length_drop, List.length_take]; rfl)) ?_; (with_reducible refine (spec_l92Choice.calls k g400 t398 t399 t401 t404 t407 t410 w _ ?side1 ?side2 A3.out).mono ?_); (case side1 => repeat (first | (with_reducible first | exact HI400.out | apply IsS73.alloc | apply IsS73.drewN | apply IsS73.drew | apply IsS73.set_1 | refine IsS73.far ?_ NB400_397.out _) | exact HI400.out)); (case side2 => repeat (first | (with_reducible first | exact HB.out | apply below_alloc | apply pw_below_drewN | apply below_drew1 | refine below_set ?_ (IsS73.ge HI400.out) | refine below_set ?_ GE397.out) | exact HB.out)); rintro e w6 ⟨v402, v405, v408, rfl, ho0, ho1, ho2, hi, hb, hk⟩; refine ⟨_, rfl, ?_⟩; have n0 := Az (KeepBut.blk hk (g' := gb397) (o := .cells #[.slice none 0 0, .slice none 0 0] 25 (0, 0)) (kU BK397.out) NB397_400.out (by simp)); have n1 := Az (Kd.Q_lower ho0 (below_size (by repeat (first | (with_reducible first | exact HB.out | apply below_alloc | apply pw_below_drewN | apply below_drew1 | refine below_set ?_ (IsS73.ge HI400.out) | refine below_set ?_ GE397.out) | exact HB.out)))); have n2 := Az (Kd.R_lower ho1 (below_size (by repeat (first | (with_reducible first | exact HB.out | apply below_alloc | apply pw_below_drewN | apply below_drew1 | refine below_set ?_ (IsS73.ge HI400.out) | refine below_set ?_ GE397.out) | exact HB.out)))); have n3 := Az (Kd.R_lower ho2 (below_size (by repeat (first | (with_reducible first | exact HB.out | apply below_alloc | apply pw_below_drewN | apply below_drew1 | refine below_set ?_ (IsS73.ge HI400.out) | refine below_set ?_ GE397.out) | exact HB.out)))); have n4 := Az (hb); have n5 := Az (hi); clear BK397 HB HI400; have BK397 := n0; have HO403 := n1; have HO406 := n2; have HO409 := n3; have HB := n4; have HI400 := n5; clear n0 n1 n2 n3 n4 n5; (try clear hb); (try clear hb2); (try clear hk); (try clear hi); (try clear ho0); (try clear ho1); (try clear ho2); obtain ⟨Ao7, co7, eo7, _⟩ := Kd.Q_slice HO403.out; subst eo7; have hnb8 := NB397_400.out; have hnc8 := NB400_397.out; have hcz9_0 : w6.cell? ⟨gb397, 0, none⟩ = some (.slice none 0 0) := (blk_cell BK397.out 0).trans rfl; have hcz9_1 : w6.cell? ⟨gb397, 1, none⟩ = some (.slice none 0 0) := (blk_cell BK397.out 1).trans rfl; have hfz9_0 := blk_frozen BK397.out 0; have hfz9_1 := blk_frozen BK397.out 1; obtain ⟨Ao10, co10, eo10⟩ := Kd.R_slice HO406.out; subst eo10))
 refine bodyPost_ret (results_ct rfl _ _ gb397 25 #[.slice Ao7 t401.length co7, .slice Ao10 t404.length co10] (0, 0) _ rfl (by (with_reducible repeat (first | refine blk_drewN ?_ _ | refine blk_drew ?_ | refine blk_alloc ?_ _)); refine blk_put (cs := #[.slice Ao7 t401.length co7, .slice none 0 0]) ?_ 1 _ rfl; (with_reducible repeat (first | refine blk_drewN ?_ _ | refine blk_drew ?_ | refine blk_alloc ?_ _)); refine blk_put (cs := #[.slice none 0 0, .slice none 0 0]) ?_ 0 _ rfl; (with_reducible repeat (first | refine blk_drewN ?_ _ | refine blk_drew ?_ | refine blk_alloc ?_ _)); exact BK397.out) Try.underlying25 rfl (by kernel_rfl)) rfl ?_
 exact ⟨_, _, _, rE, by (with_reducible repeat (first | apply Kd.Q_alloc | apply Kd.Q_drewN | apply Kd.Q_drew)); exact Kd.Q_mono (Kd.Q_far (p := ⟨gb397, 1, none⟩) (Kd.Q_far (p := ⟨gb397, 0, none⟩) (Kd.Q_types HO403.out BK397.out (by decide)) (fun _ hk => hk.2) (.slice Ao7 t401.length co7)) (fun _ hk => hk.2) (.slice Ao10 t404.length co10)) (fun _ hk => ⟨hk.1.1, hk.1.2⟩), by (with_reducible repeat (first | apply Kd.R_alloc | apply Kd.R_drewN | apply Kd.R_drew)); exact Kd.R_mono (Kd.R_far (p := ⟨gb397, 1, none⟩) (Kd.R_far (p := ⟨gb397, 0, none⟩) (Kd.R_types HO406.out BK397.out (by decide)) (fun _ hk => hk.2) (.slice Ao7 t401.length co7)) (fun _ hk => hk.2) (.slice Ao10 t404.length co10)) (fun _ hk => ⟨hk.1.1, hk.1.2⟩), by (with_reducible repeat (first | apply Kd.R_alloc | apply Kd.R_drewN | apply Kd.R_drew)); exact Kd.R_mono (Kd.R_far (p := ⟨gb397, 1, none⟩) (Kd.R_far (p := ⟨gb397, 0, none⟩) (Kd.R_types HO409.out BK397.out (by decide)) (fun _ hk => hk.2) (.slice Ao7 t401.length co7)) (fun _ hk => hk.2) (.slice Ao10 t404.length co10)) (fun _ hk => ⟨hk.1.1, hk.1.2⟩), by repeat (first | (with_reducible first | exact HB.out | apply below_alloc | apply pw_below_drewN | apply below_drew1 | refine below_set ?_ (IsS73.ge HI400.out) | refine below_set ?_ GE397.out) | exact HB.out)⟩
set_option maxHeartbeats 8000000 in
set_option maxRecDepth 100000 in
theorem spec_l1Cycles.calls (k : Nat) (A0 : Option Addr) (c0 : Nat) (l0 : List Int) (r : List (List Int)) (w : World) (hr0 : Kd.C (Kd.int .i64) w A0 l0.length l0) (hc0 : l0.length ≤ c0) (h : spec_l1Cycles.f k l0 = some r) :
  Calls Try.prog 81 #[.slice A0 l0.length c0] w fun e w' => ∃ v0_ : Value, e = .returned (v0_) ∧ Kd.S (Kd.slice 3 (Kd.int .i64)) 23 w' w.heap.size (fun _ => True) v0_ r ∧ Below w.heap.size w w' := by
 have HR0 := Az hr0; have HC0 := Az hc0; clear hr0 hc0; have HB := Az (Below.refl w.heap.size w); have H : (if 0 ≤ (l0.length : Int) then (if ((l0.length : Int) : Int).toNat ≤ 281474976710656 then (spec_l1Cycles.l0 k l0 (([] : List (List Int))) (List.replicate ((l0.length : Int) : Int).toNat false) 0) else (none)) else (none)) = some r := h; clear h; obtain ⟨y416, hy416⟩ : ∃ y_ : List (List Int), y_ = (([] : List (List Int))) := ⟨_, rfl⟩; replace H : (if 0 ≤ (l0.length : Int) then (if ((l0.length : Int) : Int).toNat ≤ 281474976710656 then (spec_l1Cycles.l0 k l0 y416 (List.replicate ((l0.length : Int) : Int).toNat false) 0) else (none)) else (none)) = some r := hR hy416 H; have Ny416 := Az hy416; clear hy416
 by_cases c2 : 0 ≤ (l0.length : Int)
 ·
  rw [if_pos c2] at H; have c2b0 := eq_true c2; have c2b1 := decide_eq_true c2; clear c2
  by_cases c3 : ((l0.length : Int) : Int).toNat ≤ 281474976710656
  ·
   rw [if_pos c3] at H; have c3b0 := eq_true c3; have c3b1 := decide_eq_true c3; clear c3; obtain ⟨y419, hy419⟩ : ∃ y_ : List Bool, y_ = (List.replicate ((l0.length : Int) : Int).toNat false) := ⟨_, rfl⟩; replace H : (spec_l1Cycles.l0 k l0 y416 y419 0) = some r := hR hy419 H; have Ny419 := Az hy419; clear hy419; have H' := Az H; clear H
   go_enter Try.func81, Try.ntmps81
   go_wp2_with (first | ((with_reducible refine gate_dst (N := 8) rfl ?_); refine Kd.S_lit (Kd.slice 3 (Kd.int .i64)) _ 23 ?hg (N := 8) ?hd (xs := ([] : List (List Int))) (inner := []) (ok := fun _ => True) (okp := fun _ => True) ?hr ?hp (fun _ hk => hk) trivial (Below.refl _ _) (Nat.le_refl _) (by simp) ?_; (case hd => rfl); (case hg => rfl); (case hr => first | (go_simp; done) | (go_simp; rfl)); (case hp => exact (Reps.none _ _)); intro v417 w4 ho5 hb hg_ hnew_; clear hg_ hnew_; (first | rw [← Ny416.out] at ho5 | (simp only [Int.reduceToNat] at ho5; rw [← Ny416.out] at ho5)); have n0 := Az (Kd.S_lower ho5 (below_size (bU0 HB.out))); have n1 := Az (below_step (bU0 HB.out) hb); clear HB; have HO418 := n0; have HB := n1; clear n0 n1; clear hb ho5) | ((with_reducible refine gate_dst (N := 11) rfl ?_); refine Kd.R_make Kd.bool _ 4 rfl (N := 11) rfl 78 _ _ rfl (l0.length : Int) rfl rfl Try.underlying78 (.bool false) 1 info4 rfl (by decide) (by omega) false (ok := fun _ => True) (okp := fun _ => True) rfl (fun _ hk => hk) trivial (oA) (Nat.le_trans (Nat.mul_le_mul_right _ (oA : (l0.length : Int).toNat ≤ 281474976710656)) (by omega)) (Below.refl _ _) (Nat.le_refl _) ?_; intro v420 w6 ho7 hb hg_ hnew_; clear hg_ hnew_; (first | rw [← Ny419.out] at ho7 | (simp only [Int.reduceToNat] at ho7; rw [← Ny419.out] at ho7)); have n0 := Az (Kd.S_below (sU HO418.out) hb); have n1 := Az (Kd.R_lower ho7 (below_size (bU0 HB.out))); have n2 := Az (below_step (bU0 HB.out) hb); clear HO418 HB; have HO418 := n0; have HO421 := n1; have HB := n2; clear n0 n1 n2; clear hb ho7))
   go_loopg [3, 5] k (fun kq v3 v5 w' => ∃ (x3_1 : List (List Int)) (x4_1 : List Bool) (x5_1 : Int), v5 = .int .i64 x5_1 ∧ Aside0 (spec_l1Cycles.l0 kq l0 x3_1 x4_1 x5_1 = some r) ∧ Aside0 (kq ≤ k) ∧ Aside0 (Kd.S (Kd.slice 3 (Kd.int .i64)) 23 w' w.heap.size (fun _ => True) v3 x3_1) ∧ Aside0 (Kd.R Kd.bool 4 w' w.heap.size (fun _ => True) v420 x4_1) ∧ Aside0 (Below w.heap.size w w'))
   case atStart => exact ⟨(y416), (y419), (0), rS, H', ⟨Nat.le_refl _⟩, ⟨sU HO418.out⟩, ⟨rU HO421.out⟩, ⟨bU0 HB.out⟩⟩
   case round =>
    clear H'; (try clear c2); (try clear c2b0); (try clear c2b1); (try clear p2); (try clear c3); (try clear c3b0); (try clear c3b1); obtain ⟨x3_1, x4_1, x5_1, rfl, HA, HK1, HO_3, HO_4, HB⟩ := hrel
    cases gk with
    | zero => exact absurd HA.out (by simp [spec_l1Cycles.l0])
    | succ k1 =>
     have H := HA.out; clear HA; simp only [spec_l1Cycles.l0] at H
     by_cases c8 : x5_1 < (l0.length : Int)
     ·
      rw [if_pos c8] at H; have c8b0 := decide_eq_true c8; clear c8
      by_cases c9 : 0 ≤ x5_1
      ·
       rw [if_pos c9] at H; have c9b0 := decide_eq_true c9; clear c9
       by_cases c10 : x5_1 < (x4_1.length : Int)
       ·
        rw [if_pos c10] at H; have c10b0 := decide_eq_true c10; clear c10; obtain ⟨bq11, hbq11⟩ : ∃ b_ : Bool, b_ = (rdOf false x4_1 x5_1) := ⟨_, rfl⟩
        replace H : (if bq11 = true then (spec_l1Cycles.l0 k1 l0 x3_1 x4_1 (wrap64 (x5_1 + 1))) else (spec_l1Cycles.l1 k1 l0 x3_1 x4_1 x5_1 (([] : List Int)) x5_1)) = some r := by rw [← hbq11] at H; exact H
        have Nbq11 := Az hbq11; clear hbq11
        by_cases c12 : bq11 = true
        ·
         subst c12
         have H1 : (spec_l1Cycles.l0 k1 l0 x3_1 x4_1 (wrap64 (x5_1 + 1))) = some r := by rw [if_pos rfl] at H; exact H
         clear H; have H := H1; clear H1; have H' := Az H; clear H; obtain ⟨Ao13, co13, eo13⟩ := Kd.R_slice HO_4.out; subst eo13; have p422 : 0 ≤ (x5_1 : Int) := oA; have q422 : x5_1 < (x4_1.length : Int) := oA; obtain ⟨ad422, e422, hx422_0⟩ := Kd.at_bool (Kd.R_reads' HO_4.out).2.2 x5_1 p422 q422; (try rw [← Nbq11.out] at hx422_0)
         cases e422
         replace p422 := eq_true p422; replace q422 := eq_true q422
         go_wp2
         (first | go_roundg k1 | (refine Handed.intro k1 ?measure ?_; rotate_left; go_step; (try simp only [add_plain]); (repeat apply Exists.intro); refine ⟨?rel, rfl⟩))
         case measure => have := HK1.out; omega
         case rel => exact ⟨(x3_1), (x4_1), (wrap64 (x5_1 + 1)), rS, H', ⟨by have := HK1.out; omega⟩, ⟨sU HO_3.out⟩, ⟨rU HO_4.out⟩, ⟨bU0 HB.out⟩⟩
        ·
         replace c12 := Bool.eq_false_iff.mpr c12; subst c12
         have H1 : (spec_l1Cycles.l1 k1 l0 x3_1 x4_1 x5_1 (([] : List Int)) x5_1) = some r := by rw [if_neg (show ¬ (false = true) by decide)] at H; exact H
         clear H; have H := H1; clear H1; obtain ⟨y423, hy423⟩ : ∃ y_ : List Int, y_ = (([] : List Int)) := ⟨_, rfl⟩; replace H : (spec_l1Cycles.l1 k1 l0 x3_1 x4_1 x5_1 y423 x5_1) = some r := hR hy423 H; have Ny423 := Az hy423; clear hy423; have H' := Az H; clear H; obtain ⟨Ao14, co14, eo14⟩ := Kd.R_slice HO_4.out; subst eo14; have p422 : 0 ≤ (x5_1 : Int) := oA; have q422 : x5_1 < (x4_1.length : Int) := oA; obtain ⟨ad422, e422, hx422_0⟩ := Kd.at_bool (Kd.R_reads' HO_4.out).2.2 x5_1 p422 q422; (try rw [← Nbq11.out] at hx422_0)
         cases e422
         replace p422 := eq_true p422; replace q422 := eq_true q422
         go_wp2_with (first | ((with_reducible refine gate_dst (N := 22) rfl ?_); refine Kd.R_lit (Kd.int .i64) _ 3 ?hg (N := 22) ?hd (xs := ([] : List Int)) (inner := []) (ok := fun _ => True) (okp := fun _ => True) ?hr ?hp (fun _ hk => hk) trivial (Below.refl _ _) (Nat.le_refl _) (by simp) ?_; (case hd => rfl); (case hg => rfl); (case hr => first | (go_simp; done) | (go_simp; rfl)); (case hp => exact (Reps.none _ _)); intro v424 w15 ho16 hb hg_ hnew_; clear hg_ hnew_; (first | rw [← Ny423.out] at ho16 | (simp only [Int.reduceToNat] at ho16; rw [← Ny423.out] at ho16)); have n0 := Az (Kd.S_elder' (sU HO_3.out) (Kd.R_base ho16) hb); have n1 := Az (Kd.R_below (rU HO_4.out) hb); have n2 := Az (Kd.R_lower ho16 (below_size (bU0 HB.out))); have n3 := Az (below_step (bU0 HB.out) hb); clear HO_3 HO_4 HB; have HO_3 := n0; have HO_4 := n1; have HO425 := n2; have HB := n3; clear n0 n1 n2 n3; clear hb ho16))
         go_loopg [6, 7] k1 (fun kq v6 v7 w' => ∃ (x4_2 : List Bool) (x6_2 : List Int) (x7_2 : Int), v7 = .int .i64 x7_2 ∧ Aside0 (spec_l1Cycles.l1 kq l0 x3_1 x4_2 x5_1 x6_2 x7_2 = some r) ∧ Aside0 (kq ≤ k1) ∧ Aside0 (Kd.S (Kd.slice 3 (Kd.int .i64)) 23 w' w.heap.size (fun k_ => some k_ ≠ (v6 : Value).ownBlock) u3 x3_1) ∧ Aside0 (Kd.R Kd.bool 4 w' w.heap.size (fun _ => True) (.slice (some ad422) x4_1.length co14) x4_2) ∧ Aside0 (Kd.R (Kd.int .i64) 3 w' w.heap.size (fun _ => True) v6 x6_2) ∧ Aside0 (Below w.heap.size w w'))
         case atStart => exact ⟨(x4_1), (y423), (x5_1), rS, H', ⟨Nat.le_refl _⟩, ⟨by (with_reducible repeat (first | apply Kd.S_alloc | apply Kd.S_drewN | apply Kd.S_drew)); exact Kd.S_mono HO_3.out (fun _ hk => hk.2)⟩, ⟨rU HO_4.out⟩, ⟨rU HO425.out⟩, ⟨bU0 HB.out⟩⟩
         case round =>
          clear H'; (try clear c1); (try clear q1); (try clear c2); (try clear c2b0); (try clear c2b1); (try clear p2); (try clear c3); (try clear c3b0); (try clear c3b1); (try clear p4); (try clear q4); (try clear hx4); (try clear p6); (try clear c8); (try clear c8b0); (try clear c9); (try clear c9b0); (try clear c10); (try clear c10b0); (try clear q11); (try clear c12); (try clear hx422_0); (try clear p2); (try clear p422); (try clear q422); obtain ⟨x4_2, x6_2, x7_2, rfl, HA, HK2, HO_3, HO_4, HO_6, HB⟩ := hrel; have hl4_2 := (Kd.R_reads' HO_4.out).1; rw [hl4_2] at HO_4; (try simp only [hl4_2]); (try simp only [hl4_2] at HO_3); (try simp only [hl4_2] at HO_6)
          cases gk with
          | zero => exact absurd HA.out (by simp [spec_l1Cycles.l1])
          | succ k2 =>
           have H := HA.out; clear HA; simp only [spec_l1Cycles.l1] at H
           by_cases c17 : 0 ≤ x7_2
           ·
            rw [if_pos c17] at H; have c17b0 := decide_eq_true c17; clear c17
            by_cases c18 : x7_2 < (x4_2.length : Int)
            ·
             rw [if_pos c18] at H; have c18b0 := decide_eq_true c18; (try (have c18b0hl4_2 := c18b0; rw [hl4_2] at c18b0hl4_2)); clear c18; obtain ⟨bq19, hbq19⟩ : ∃ b_ : Bool, b_ = (rdOf false x4_2 x7_2) := ⟨_, rfl⟩
             replace H : (if bq19 = true then (if x3_1.length < 5864062014805 then (spec_l1Cycles.l0 k2 l0 (x3_1 ++ [x6_2]) x4_2 (wrap64 (x5_1 + 1))) else (none)) else (if x6_2.length < 17592186044416 then (if x7_2 < (l0.length : Int) then (spec_l1Cycles.l1 k2 l0 x3_1 (x4_2.set (x7_2 : Int).toNat true) x5_1 (x6_2 ++ [x7_2]) (rd l0 x7_2)) else (none)) else (none))) = some r := by rw [← hbq19] at H; exact H
             have Nbq19 := Az hbq19; clear hbq19
             by_cases c20 : bq19 = true
             ·
              subst c20
              have H1 : (if x3_1.length < 5864062014805 then (spec_l1Cycles.l0 k2 l0 (x3_1 ++ [x6_2]) x4_2 (wrap64 (x5_1 + 1))) else (none)) = some r := by rw [if_pos rfl] at H; exact H
              clear H; have H := H1; clear H1
              by_cases c21 : x3_1.length < 5864062014805
              ·
               rw [if_pos c21] at H; have LMc21 := Az c21; clear c21; obtain ⟨y427, hy427⟩ : ∃ y_ : List (List Int), y_ = (x3_1 ++ [x6_2]) := ⟨_, rfl⟩; replace H : (spec_l1Cycles.l0 k2 l0 y427 x4_2 (wrap64 (x5_1 + 1))) = some r := hR hy427 H; have Ny427 := Az hy427; clear hy427; have H' := Az H; clear H; have p426 : 0 ≤ (x7_2 : Int) := oA; have q426 : x7_2 < (x4_2.length : Int) := oA; obtain ⟨ad426, e426, hx426_0⟩ := Kd.at_bool (Kd.R_reads' HO_4.out).2.2 x7_2 p426 q426; (try rw [← Nbq11.out] at hx426_0); (try rw [← Nbq19.out] at hx426_0); obtain rfl : ad422 = ad426 := (by injection e426); replace p426 := eq_true p426; replace q426 := eq_true q426; obtain ⟨Ao23, co23, eo23⟩ := Kd.R_slice HO_6.out; subst eo23
               go_wp2_with (first | ((with_reducible refine gate_builtin (b := .append) (xs := #[.tmp 40, .tmp 42]) rfl ?_); at_builtin; refine Kd.S_append (Kd.slice 3 (Kd.int .i64)) (w0 := w) w.heap.size rfl (.tmp 40) (.tmp 42) 54 23 (.slice none 0 0) 24 rfl Try.underlying54 info23 rfl (by decide) (by omega) u3 x3_1 x6_2 [.slice Ao23 x6_2.length co23] (fun _ => True) (fun k_ => some k_ = (.slice Ao23 x6_2.length co23 : Value).ownBlock) rfl rfl ?aP (fun k_ hk_ => ((Kd.R_mono (ok' := fun k_ => ((fun _ => True)) k_ ∧ some k_ ≠ (u3 : Value).ownBlock) (Kd.R_apart' (HO_6.out) (Kd.S_typed HO_3.out) (by decide)) (fun k_ hk => ⟨trivial, hk.2⟩))).1 k_ hk_.symm) ?aF ?aO ?aB ?aS ?aL ?_; (case aP => exact Kd.M_row (Kd.R_mono (Kd.R_tight rfl (Kd.R_mono (ok' := fun k_ => ((fun _ => True)) k_ ∧ some k_ ≠ (u3 : Value).ownBlock) (Kd.R_apart' (HO_6.out) (Kd.S_typed HO_3.out) (by decide)) (fun k_ hk => ⟨trivial, hk.2⟩))) (fun _ h_ => h_))); (case aB => exact (bU0 HB.out)); (case aF => exact (fun _ _ => trivial)); (case aO => exact (by (with_reducible repeat (first | apply Kd.S_alloc | apply Kd.S_drewN | apply Kd.S_drew)); exact Kd.S_mono HO_3.out (fun k_ hk => ⟨trivial, fun e_ => hk e_⟩))); (case aS => exact (below_size (bU0 HB.out))); (case aL => have := LMc21.out; omega); intro v428 w22 ho hb hg hat; rw [← Ny427.out] at ho; have n0 := Az (Kd.R_over' (rU HO_4.out) (Kd.S_typed (sU HO_3.out)) (by decide) hg); have n1 := Az (hb); have n2 := Az (ho); clear HO_4 HB HO_3 HO_6; have HO_4 := n0; have HB := n1; have HO429 := n2; clear n0 n1 n2; clear ho hb hg hat))
               (try simp only [← hl4_2]); (first | go_roundg k2 | (refine Handed.intro k2 ?measure ?_; rotate_left; go_step; (try simp only [add_plain]); (repeat apply Exists.intro); refine ⟨?rel, rfl⟩))
               case measure => have := HK1.out; have := HK2.out; omega
               case rel => exact ⟨(y427), (x4_2), (wrap64 (x5_1 + 1)), rS, H', ⟨by have := HK1.out; have := HK2.out; omega⟩, ⟨by (try simp only [hl4_2]); (with_reducible repeat (first | apply Kd.S_alloc | apply Kd.S_drewN | apply Kd.S_drew)); exact HO429.out⟩, ⟨by (try simp only [hl4_2]); (with_reducible repeat (first | apply Kd.R_alloc | apply Kd.R_drewN | apply Kd.R_drew)); exact HO_4.out⟩, ⟨bU0 HB.out⟩⟩
              ·
               rw [if_neg c21] at H
               exact absurd H (by simp)
             ·
              replace c20 := Bool.eq_false_iff.mpr c20; subst c20
              have H1 : (if x6_2.length < 17592186044416 then (if x7_2 < (l0.length : Int) then (spec_l1Cycles.l1 k2 l0 x3_1 (x4_2.set (x7_2 : Int).toNat true) x5_1 (x6_2 ++ [x7_2]) (rd l0 x7_2)) else (none)) else (none)) = some r := by rw [if_neg (show ¬ (false = true) by decide)] at H; exact H
              clear H; have H := H1; clear H1; obtain ⟨y430, hy430⟩ : ∃ y_ : List Bool, y_ = (x4_2.set (x7_2 : Int).toNat true) := ⟨_, rfl⟩; replace H : (if x6_2.length < 17592186044416 then (if x7_2 < (l0.length : Int) then (spec_l1Cycles.l1 k2 l0 x3_1 y430 x5_1 (x6_2 ++ [x7_2]) (rd l0 x7_2)) else (none)) else (none)) = some r := hR hy430 H; have Ny430 := Az hy430; clear hy430
              by_cases c25 : x6_2.length < 17592186044416
              ·
               rw [if_pos c25] at H; have LMc25 := Az c25; clear c25; obtain ⟨y431, hy431⟩ : ∃ y_ : List Int, y_ = (x6_2 ++ [x7_2]) := ⟨_, rfl⟩; replace H : (if x7_2 < (l0.length : Int) then (spec_l1Cycles.l1 k2 l0 x3_1 y430 x5_1 y431 (rd l0 x7_2)) else (none)) = some r := hR hy431 H; have Ny431 := Az hy431; clear hy431
               by_cases c26 : x7_2 < (l0.length : Int)
               ·
                rw [if_pos c26] at H; have c26b0 := decide_eq_true c26; (try (have c26b0hl4_2 := c26b0; rw [hl4_2] at c26b0hl4_2)); clear c26; have H' := Az H; clear H; have p426 : 0 ≤ (x7_2 : Int) := oA; have q426 : x7_2 < (x4_2.length : Int) := oA; obtain ⟨ad426, e426, hx426_0⟩ := Kd.at_bool (Kd.R_reads' HO_4.out).2.2 x7_2 p426 q426; (try rw [← Nbq11.out] at hx426_0); (try rw [← Nbq19.out] at hx426_0); obtain rfl : ad422 = ad426 := (by injection e426); replace p426 := eq_true p426; replace q426 := eq_true q426; have p24 : 0 ≤ (x7_2 : Int) := oA; have q24 : (x7_2 : Int) < ((x4_2.length : Int) : Int) := oA; obtain ⟨go24, co24, eo24, gb24, gl24, cl24, HG24⟩ := Kd.R_form HO_4.out (by omega); (first | cases eo24 | (injection eo24 with ea_ en_ ec_; (first | subst ea_ | (injection ea_ with ea_; subst ea_)); subst ec_; clear en_)); have GB24 := Az gb24; have GG24 := Az HG24; clear gb24 gl24 HG24; (first | simp only [add_plain] at hx422_0 | skip); (first | simp only [add_plain] at hx426_0 | skip); obtain ⟨hx24_0, hf24_0⟩ := Kd.R_celln false HO_4.out (x7_2 : Int) p24 q24; replace p24 := eq_true p24; replace q24 := eq_true q24; obtain ⟨hy27_, hz27_⟩ := Kd.R_celln false HO_4.out (x7_2 : Int) (oA) (oA); have HP27 := Kd.R_putg HO_4.out (x7_2 : Int) true
                go_wp2_with (first | ((with_reducible refine gate_store (t := 4) (p := 35) rfl ?_); refine store_event (t := 4) (p := 35) (v := ?vo_w28) (w1 := (wr.setCell ⟨go24, (x7_2 : Int).toNat, none⟩ (.bool true))) ?hg ?ho ?hn ?hr ?_; (case ho => rfl); (case hg => rfl); (case hn => rfl); (case hr => first | (go_simp; done) | (go_simp; rfl)); intro w28 hw; have hg : wr.grownBy w28 (some go24) := (by rw [hw]; exact HP27.2); have hp_ : Kd.R Kd.bool 4 w28 w.heap.size (fun _ => True) (.slice (some ⟨go24, 0, none⟩) x4_2.length co14) y430 := (by rw [hw, Ny430.out]; exact HP27.1); clear HP27; have n0 := Az (Kd.S_over' (v := (.slice (some ⟨go24, 0, none⟩) x4_2.length co14)) (sU HO_3.out) (Kd.R_typed HO_4.out) (by decide) hg); have n1 := Az (hp_); have n2 := Az (Kd.R_over' (v := (.slice (some ⟨go24, 0, none⟩) x4_2.length co14)) (rU HO_6.out) (Kd.R_typed HO_4.out) (by decide) hg); have n3 := Az ((by rw [hw]; exact below_set (HB.out) GB24.out : Below w.heap.size w w28)); clear HO_3 HO_4 HO_6 HB; have HO_3 := n0; have HO_4 := n1; have HO_6 := n2; have HB := n3; clear n0 n1 n2 n3; clear hg hw hp_) | ((with_reducible refine gate_builtin (b := .append) (xs := #[.tmp 36, .tmp 38]) rfl ?_); at_builtin; refine Kd.R_append (Kd.int .i64) (w0 := w) w.heap.size rfl (.tmp 36) (.tmp 38) 23 3 (.int .i64 0) 8 rfl Try.underlying23 info3 rfl (by decide) (by omega) u6 x6_2 x7_2 [.int .i64 x7_2] (fun _ => True) (fun _ => False) rfl rfl ?aP (fun _ hk => hk.elim) ?aF ?aO ?aB ?aS ?aL ?_; (case aP => exact rfl); (case aB => exact (bU0 HB.out)); (case aF => exact (fun _ _ => trivial)); (case aO => exact (rU HO_6.out)); (case aS => exact (below_size (bU0 HB.out))); (case aL => have := LMc25.out; omega); intro v432 w29 ho hb hg hat; rw [← Ny431.out] at ho; have n0 := Az (Kd.S_after (ok := (fun _ => True)) (by (with_reducible repeat (first | apply Kd.S_alloc | apply Kd.S_drewN | apply Kd.S_drew)); exact Kd.S_mono HO_3.out (fun _ hk => ⟨trivial, hk⟩)) hg hat); have n1 := Az (Kd.R_over' (rU HO_4.out) (Kd.R_typed (rU HO_6.out)) (by decide) hg); have n2 := Az (hb); have n3 := Az (ho); clear HO_3 HO_4 HB HO_6; have HO_3 := n0; have HO_4 := n1; have HB := n2; have HO433 := n3; clear n0 n1 n2 n3 ho hb hg hat; have p434 : 0 ≤ (x7_2 : Int) := oA; have q434 : x7_2 < (l0.length : Int) := oA; obtain ⟨ad434, e434, hx434_0⟩ := Kd.at_int HR0.out x7_2 p434 q434; cases e434; replace hx434_0 := (HB.out.cell (World.block_lt_of_cell? w _ hx434_0)).trans hx434_0; replace p434 := eq_true p434; replace q434 := eq_true q434))
                (try simp only [← hl4_2]); (first | go_roundg k2 | (refine Handed.intro k2 ?measure ?_; rotate_left; go_step; (try simp only [add_plain]); (repeat apply Exists.intro); refine ⟨?rel, rfl⟩))
                case measure => have := HK1.out; have := HK2.out; omega
                case rel => exact ⟨(y430), (y431), (rd l0 x7_2), rS, H', ⟨by have := HK1.out; have := HK2.out; omega⟩, ⟨by (try simp only [hl4_2]); (with_reducible repeat (first | apply Kd.S_alloc | apply Kd.S_drewN | apply Kd.S_drew)); exact Kd.S_mono HO_3.out (fun _ hk => hk.2)⟩, ⟨by (try simp only [hl4_2]); (with_reducible repeat (first | apply Kd.R_alloc | apply Kd.R_drewN | apply Kd.R_drew)); exact HO_4.out⟩, ⟨by (try simp only [hl4_2]); (with_reducible repeat (first | apply Kd.R_alloc | apply Kd.R_drewN | apply Kd.R_drew)); exact HO433.out⟩, ⟨bU0 HB.out⟩⟩
               ·
                rw [if_neg c26] at H
                exact absurd H (by simp)
              ·
               rw [if_neg c25] at H
               exact absurd H (by simp)
            ·
             rw [if_neg c18] at H
             exact absurd H (by simp)
           ·
            rw [if_neg c17] at H
            exact absurd H (by simp)
       ·
        rw [if_neg c10] at H
        exact absurd H (by simp)
      ·
       rw [if_neg c9] at H
       exact absurd H (by simp)
     ·
      rw [if_neg c8] at H; have c8b0 := decide_eq_false c8; clear c8; obtain rfl := Option.some.inj H
      go_wp2
      go_ret
      exact ⟨_, rE, sU HO_3.out, bU0 HB.out⟩
  ·
   rw [if_neg c3] at H
   exact absurd H (by simp)
 ·
  rw [if_neg c2] at H
  exact absurd H (by simp)
set_option maxHeartbeats 8000000 in
set_option maxRecDepth 100000 in
theorem spec_l7Has.calls (k : Nat) (A0 : Option Addr) (c0 : Nat) (l0 : List Int) (a1 : Int) (r : Bool) (w : World) (hr0 : Kd.C (Kd.int .i64) w A0 l0.length l0) (hc0 : l0.length ≤ c0) (h : spec_l7Has.f k l0 a1 = some r) :
  Calls Try.prog 67 #[.slice A0 l0.length c0, .int .i64 a1] w fun e w' => e = .returned (.bool r) ∧ Drawn0 w w' := by
 have HR0 := Az hr0; have HC0 := Az hc0; clear hr0 hc0; have H : (spec_l7Has.l0 k l0 a1 0) = some r := h; clear h; have H' := Az H; clear H
 go_enter Try.func67, Try.ntmps67
 go_wp2
 go_loopg [5] k (fun kq v5 w' => ∃ (x5_1 : Int), v5 = .int .i64 x5_1 ∧ Aside0 (spec_l7Has.l0 kq l0 a1 x5_1 = some r) ∧ Aside0 (kq ≤ k) ∧ Drawn0 w w')
 case atStart => exact ⟨(0), rS, H', ⟨Nat.le_refl _⟩, by repeat (first | exact Drawn0.refl _ | apply Drawn0.step)⟩
 case round =>
  clear H'; (try clear p2); obtain ⟨x5_1, rfl, HA, HK1, ⟨m1, rfl⟩⟩ := hrel
  cases gk with
  | zero => exact absurd HA.out (by simp [spec_l7Has.l0])
  | succ k1 =>
   have H := HA.out; clear HA; simp only [spec_l7Has.l0] at H
   by_cases c3 : x5_1 < (l0.length : Int)
   ·
    rw [if_pos c3] at H; have c3b0 := decide_eq_true c3; clear c3
    by_cases c4 : 0 ≤ x5_1
    ·
     rw [if_pos c4] at H; have c4b0 := decide_eq_true c4; clear c4
     by_cases c5 : (rd l0 x5_1) = a1
     ·
      rw [if_pos c5] at H; have c5b0 := beq_iff_eq.mpr c5; have c5b1 := bne_eq_false_iff_eq.mpr c5; clear c5; obtain rfl := Option.some.inj H; have p435 : 0 ≤ (x5_1 : Int) := oA; have q435 : x5_1 < (l0.length : Int) := oA; obtain ⟨ad435, e435, hx435_0⟩ := Kd.at_int HR0.out x5_1 p435 q435
      cases e435
      replace p435 := eq_true p435; replace q435 := eq_true q435
      go_wp2
      go_ret
      exact ⟨by first | rfl | (simp; done) | (simp [*]; done), by repeat (first | exact Drawn0.refl _ | apply Drawn0.step)⟩
     ·
      rw [if_neg c5] at H; have c5b0 := beq_eq_false_iff_ne.mpr c5; have c5b1 := bne_iff_ne.mpr c5; have H' := Az H; clear H; have p435 : 0 ≤ (x5_1 : Int) := oA; have q435 : x5_1 < (l0.length : Int) := oA; obtain ⟨ad435, e435, hx435_0⟩ := Kd.at_int HR0.out x5_1 p435 q435
      cases e435
      replace p435 := eq_true p435; replace q435 := eq_true q435
      go_wp2
      (first | go_roundg k1 | (refine Handed.intro k1 ?measure ?_; rotate_left; go_step; (try simp only [add_plain]); (repeat apply Exists.intro); refine ⟨?rel, rfl⟩))
      case measure => have := HK1.out; omega
      case rel => exact ⟨(wrap64 (x5_1 + 1)), rS, H', ⟨by have := HK1.out; omega⟩, by repeat (first | exact Drawn0.refl _ | apply Drawn0.step)⟩
    ·
     rw [if_neg c4] at H
     exact absurd H (by simp)
   ·
    rw [if_neg c3] at H; have c3b0 := decide_eq_false c3; clear c3; obtain rfl := Option.some.inj H
    go_wp2
    go_ret
    exact ⟨by first | rfl | (simp; done) | (simp [*]; done), by repeat (first | exact Drawn0.refl _ | apply Drawn0.step)⟩
set_option maxHeartbeats 8000000 in
set_option maxRecDepth 100000 in
theorem spec_l7Edges.calls (k : Nat) (A0_0 : Option Addr) (c0_0 : Nat) (l0_0 : List Int) (A0_1 : Option Addr) (c0_1 : Nat) (l0_1 : List Int) (r : List Int) (w : World) (hr0_0 : Kd.C (Kd.int .i64) w A0_0 l0_0.length l0_0) (hc0_0 : l0_0.length ≤ c0_0) (hr0_1 : Kd.C (Kd.int .i64) w A0_1 l0_1.length l0_1) (hc0_1 : l0_1.length ≤ c0_1) (h : spec_l7Edges.f k l0_0 l0_1 = some r) :
  Calls Try.prog 107 #[.agg #[.slice A0_0 l0_0.length c0_0, .slice A0_1 l0_1.length c0_1]] w fun e w' => ∃ v0_ : Value, e = .returned (v0_) ∧ Kd.R (Kd.int .i64) 3 w' w.heap.size (fun _ => True) v0_ r ∧ Below w.heap.size w w' := by
 have hu25 := Try.underlying25; have HR0_0 := Az hr0_0; have HC0_0 := Az hc0_0; clear hr0_0 hc0_0; have HR0_1 := Az hr0_1; have HC0_1 := Az hc0_1; clear hr0_1 hc0_1; have HB := Az (Below.refl w.heap.size w); have H : (if 0 ≤ (l0_1.length : Int) then (if ((l0_1.length : Int) : Int).toNat ≤ 35184372088832 then (spec_l7Edges.l0 k (List.replicate ((l0_1.length : Int) : Int).toNat 0) 0 0 l0_0 l0_1) else (none)) else (none)) = some r := h; clear h
 by_cases c2 : 0 ≤ (l0_1.length : Int)
 ·
  rw [if_pos c2] at H; have c2b0 := eq_true c2; have c2b1 := decide_eq_true c2; clear c2
  by_cases c3 : ((l0_1.length : Int) : Int).toNat ≤ 35184372088832
  ·
   rw [if_pos c3] at H; have c3b0 := eq_true c3; have c3b1 := decide_eq_true c3; clear c3; obtain ⟨y437, hy437⟩ : ∃ y_ : List Int, y_ = (List.replicate ((l0_1.length : Int) : Int).toNat 0) := ⟨_, rfl⟩; replace H : (spec_l7Edges.l0 k y437 0 0 l0_0 l0_1) = some r := hR hy437 H; have Ny437 := Az hy437; clear hy437; have H' := Az H; clear H
   go_enter Try.func107, Try.ntmps107
   go_wp2_with (first | ((with_reducible refine gate_dst (N := 1) rfl ?_); refine box_event ?hg (N := 1) ?hd (cs := #[.slice A0_0 l0_0.length c0_0, .slice A0_1 l0_1.length c0_1]) (t := 25) ?hr ?_; (case hd => rfl); (case hg => rfl); (case hr => first | (go_simp; done) | (go_simp; rfl)); intro gb436 hg w4 hbox hb; have n0 := Az (below_step (bU0 HB.out) hb); have n1 := Az (hbox); have n2 := Az ((by rw [hg]; exact (below_size (bU0 HB.out)) : w.heap.size ≤ gb436)); have n3 := n2; clear HB; have HB := n0; have BK436 := n1; have GW436 := n2; have GE436 := n3; clear n0 n1 n2 n3 hb hbox hg; have hcz5_0 : w4.cell? ⟨gb436, 0, none⟩ = some (.slice A0_0 l0_0.length c0_0) := (blk_cell BK436.out 0).trans rfl; have hcz5_1 : w4.cell? ⟨gb436, 1, none⟩ = some (.slice A0_1 l0_1.length c0_1) := (blk_cell BK436.out 1).trans rfl; have hfz5_0 := blk_frozen BK436.out 0; have hfz5_1 := blk_frozen BK436.out 1) | ((with_reducible refine gate_dst (N := 9) rfl ?_); refine Kd.R_make (Kd.int .i64) _ 3 rfl (N := 9) rfl 23 _ _ rfl (l0_1.length : Int) rfl rfl Try.underlying23 (.int .i64 0) 8 info3 rfl (by decide) (by omega) 0 (ok := fun _ => True) (okp := fun _ => True) rfl (fun _ hk => hk) trivial (oA) (Nat.le_trans (Nat.mul_le_mul_right _ (oA : (l0_1.length : Int).toNat ≤ 35184372088832)) (by omega)) (Below.refl _ _) (Nat.le_refl _) ?_; intro v438 w6 ho7 hb hg_ hnew_; clear hg_ hnew_; (first | rw [← Ny437.out] at ho7 | (simp only [Int.reduceToNat] at ho7; rw [← Ny437.out] at ho7)); have n0 := Az (Kd.R_lower ho7 (below_size (bU1 HB.out GE436.out))); have n1 := Az (blk_below (g := gb436) (o := .cells #[.slice A0_0 l0_0.length c0_0, .slice A0_1 l0_1.length c0_1] 25 (0, 0)) (kU BK436.out) hb); have n2 := Az (below_step (bU1 HB.out GE436.out) hb); clear BK436 HB; have HO439 := n0; have BK436 := n1; have HB := n2; clear n0 n1 n2; clear hb ho7))
   go_loopg [4, 5] k (fun kq v4 v5 w' => ∃ (x3_1 : List Int) (x4_1 : Int) (x5_1 : Int), v4 = .int .i64 x4_1 ∧ v5 = .int .i64 x5_1 ∧ Aside0 (spec_l7Edges.l0 kq x3_1 x4_1 x5_1 l0_0 l0_1 = some r) ∧ Aside0 (kq ≤ k) ∧ Aside0 (Kd.R (Kd.int .i64) 3 w' w.heap.size (fun _ => True) v438 x3_1) ∧ Aside0 (w'.heap[gb436]? = some (.cells #[(.slice A0_0 l0_0.length c0_0), (.slice A0_1 l0_1.length c0_1)] 25 (0, 0))) ∧ Aside0 (Below w.heap.size w w'))
   case atStart => exact ⟨(y437), (0), (0), rS, rS, H', ⟨Nat.le_refl _⟩, ⟨rU HO439.out⟩, ⟨kU BK436.out⟩, ⟨bU1 HB.out GE436.out⟩⟩
   case round =>
    clear H'; (try clear c1); (try clear c2); (try clear c2b0); (try clear c2b1); (try clear p2); (try clear c3); (try clear c3b0); (try clear c3b1); (try clear hcz5_0); (try clear hcz5_1); (try clear hfz5_0); (try clear hfz5_1); obtain ⟨x3_1, x4_1, x5_1, rfl, rfl, HA, HK1, HO_3, BK436, HB⟩ := hrel
    cases gk with
    | zero => exact absurd HA.out (by simp [spec_l7Edges.l0])
    | succ k1 =>
     have H := HA.out; clear HA; simp only [spec_l7Edges.l0] at H
     by_cases c8 : x5_1 < (x3_1.length : Int)
     ·
      rw [if_pos c8] at H; have c8b0 := decide_eq_true c8; clear c8
      by_cases c9 : 0 ≤ x5_1
      ·
       rw [if_pos c9] at H; have c9b0 := decide_eq_true c9; clear c9
       by_cases c10 : x5_1 < (l0_1.length : Int)
       ·
        rw [if_pos c10] at H; have c10b0 := decide_eq_true c10; clear c10
        by_cases c11 : x5_1 < (rd l0_1 x5_1)
        ·
         rw [if_pos c11] at H; have c11b0 := decide_eq_true c11; clear c11; obtain ⟨y441, hy441⟩ : ∃ y_ : List Int, y_ = (x3_1.set (x5_1 : Int).toNat x4_1) := ⟨_, rfl⟩; replace H : (if 0 ≤ (rd l0_1 x5_1) then (if (rd l0_1 x5_1) < (x3_1.length : Int) then (spec_l7Edges.l0 k1 (y441.set ((rd l0_1 x5_1) : Int).toNat x4_1) (wrap64 (x4_1 + 1)) (wrap64 (x5_1 + 1)) l0_0 l0_1) else (none)) else (none)) = some r := hR hy441 H; have Ny441 := Az hy441; clear hy441
         by_cases c13 : 0 ≤ (rd l0_1 x5_1)
         ·
          rw [if_pos c13] at H; have c13b0 := decide_eq_true c13; clear c13
          by_cases c14 : (rd l0_1 x5_1) < (x3_1.length : Int)
          ·
           rw [if_pos c14] at H; have c14b0 := decide_eq_true c14; clear c14; obtain ⟨y443, hy443⟩ : ∃ y_ : List Int, y_ = (y441.set ((rd l0_1 x5_1) : Int).toNat x4_1) := ⟨_, rfl⟩; replace H : (spec_l7Edges.l0 k1 y443 (wrap64 (x4_1 + 1)) (wrap64 (x5_1 + 1)) l0_0 l0_1) = some r := hR hy443 H; have Ny443 := Az hy443; clear hy443; have H' := Az H; clear H; obtain ⟨Ao16, co16, eo16⟩ := Kd.R_slice HO_3.out; subst eo16; have hcz17_0 : wr.cell? ⟨gb436, 0, none⟩ = some (.slice A0_0 l0_0.length c0_0) := (blk_cell BK436.out 0).trans rfl; have hcz17_1 : wr.cell? ⟨gb436, 1, none⟩ = some (.slice A0_1 l0_1.length c0_1) := (blk_cell BK436.out 1).trans rfl; have hfz17_0 := blk_frozen BK436.out 0; have hfz17_1 := blk_frozen BK436.out 1; have p440 : 0 ≤ (x5_1 : Int) := oA; have q440 : x5_1 < (l0_1.length : Int) := oA; obtain ⟨ad440, e440, hx440_0⟩ := Kd.at_int HR0_1.out x5_1 p440 q440
           cases e440
           (try replace hx440_0 := (HB.out.cell (World.block_lt_of_cell? w _ hx440_0)).trans hx440_0); replace p440 := eq_true p440; replace q440 := eq_true q440; have p12 : 0 ≤ (x5_1 : Int) := oA; have q12 : (x5_1 : Int) < ((x3_1.length : Int) : Int) := oA; obtain ⟨go12, co12, eo12, gb12, gl12, cl12, HG12⟩ := Kd.R_form HO_3.out (by omega); (first | cases eo12 | (injection eo12 with ea_ en_ ec_; (first | subst ea_ | (injection ea_ with ea_; subst ea_)); subst ec_; clear en_)); have GB12 := Az gb12; have GG12 := Az HG12; clear gb12 gl12 HG12; obtain ⟨hx12_0, hf12_0⟩ := Kd.R_celln 0 HO_3.out (x5_1 : Int) p12 q12; replace p12 := eq_true p12; replace q12 := eq_true q12; obtain ⟨hy18_, hz18_⟩ := Kd.R_celln 0 HO_3.out (x5_1 : Int) (oA) (oA); have HP18 := Kd.R_putg HO_3.out (x5_1 : Int) x4_1
           go_wp2_with (first | ((with_reducible refine gate_store (t := 3) (p := 26) rfl ?_); refine store_event (t := 3) (p := 26) (v := ?vo_w19) (w1 := (wr.setCell ⟨go12, (x5_1 : Int).toNat, none⟩ (.int .i64 x4_1))) ?hg ?ho ?hn ?hr ?_; (case ho => rfl); (case hg => rfl); (case hn => rfl); (case hr => first | (go_simp; done) | (go_simp; rfl)); intro w19 hw; have hg : wr.grownBy w19 (some go12) := (by rw [hw]; exact HP18.2); have hp_ : Kd.R (Kd.int .i64) 3 w19 w.heap.size (fun _ => True) (.slice (some ⟨go12, 0, none⟩) x3_1.length co16) y441 := (by rw [hw, Ny441.out]; exact HP18.1); clear HP18; have n0 := Az (hp_); have n1 := Az (blk_grown (g := gb436) (o := .cells #[.slice A0_0 l0_0.length c0_0, .slice (some ad440) l0_1.length c0_1] 25 (0, 0)) (kU BK436.out) hg (Kd.R_ne HO_3.out BK436.out (by decide))); have n2 := Az ((by rw [hw]; exact below_set (HB.out) GB12.out : Below w.heap.size w w19)); clear HO_3 BK436 HB; have HO_3 := n0; have BK436 := n1; have HB := n2; clear n0 n1 n2 hg hw hp_; have hcz20_0 : w19.cell? ⟨gb436, 0, none⟩ = some (.slice A0_0 l0_0.length c0_0) := (blk_cell BK436.out 0).trans rfl; have hcz20_1 : w19.cell? ⟨gb436, 1, none⟩ = some (.slice (some ad440) l0_1.length c0_1) := (blk_cell BK436.out 1).trans rfl; have hfz20_0 := blk_frozen BK436.out 0; have hfz20_1 := blk_frozen BK436.out 1; have p442 : 0 ≤ (x5_1 : Int) := oA; have q442 : x5_1 < (l0_1.length : Int) := oA; obtain ⟨ad442, e442, hx442_0⟩ := Kd.at_int HR0_1.out x5_1 p442 q442; obtain rfl : ad440 = ad442 := (by injection e442); replace hx442_0 := (HB.out.cell (World.block_lt_of_cell? w _ hx442_0)).trans hx442_0; replace p442 := eq_true p442; replace q442 := eq_true q442; have p15 : 0 ≤ ((rd l0_1 x5_1) : Int) := oA; have q15 : ((rd l0_1 x5_1) : Int) < ((x3_1.length : Int) : Int) := oA; obtain ⟨hx15_0, hf15_0⟩ := Kd.R_celln 0 HO_3.out ((rd l0_1 x5_1) : Int) p15 q15; replace p15 := eq_true p15; replace q15 := eq_true q15; obtain ⟨hy21_, hz21_⟩ := Kd.R_celln 0 HO_3.out ((rd l0_1 x5_1) : Int) (oA) (oA); have HP21 := Kd.R_putg HO_3.out ((rd l0_1 x5_1) : Int) x4_1) | ((with_reducible refine gate_store (t := 3) (p := 34) rfl ?_); refine store_event (t := 3) (p := 34) (v := ?vo_w22) (w1 := (w19.setCell ⟨go12, ((rd l0_1 x5_1) : Int).toNat, none⟩ (.int .i64 x4_1))) ?hg ?ho ?hn ?hr ?_; (case ho => rfl); (case hg => rfl); (case hn => rfl); (case hr => first | (go_simp; done) | (go_simp; rfl)); intro w22 hw; have hg : w19.grownBy w22 (some go12) := (by rw [hw]; exact HP21.2); have hp_ : Kd.R (Kd.int .i64) 3 w22 w.heap.size (fun _ => True) (.slice (some ⟨go12, 0, none⟩) x3_1.length co16) y443 := (by rw [hw, Ny443.out]; exact HP21.1); clear HP21; have n0 := Az (hp_); have n1 := Az (blk_grown (g := gb436) (o := .cells #[.slice A0_0 l0_0.length c0_0, .slice (some ad440) l0_1.length c0_1] 25 (0, 0)) (kU BK436.out) hg (Kd.R_ne HO_3.out BK436.out (by decide))); have n2 := Az ((by rw [hw]; exact below_set (HB.out) GB12.out : Below w.heap.size w w22)); clear HO_3 BK436 HB; have HO_3 := n0; have BK436 := n1; have HB := n2; clear n0 n1 n2; clear hg hw hp_))
           (first | go_roundg k1 | (refine Handed.intro k1 ?measure ?_; rotate_left; go_step; (try simp only [add_plain]); (repeat apply Exists.intro); refine ⟨?rel, rfl⟩))
           case measure => have := HK1.out; omega
           case rel => exact ⟨(y443), (wrap64 (x4_1 + 1)), (wrap64 (x5_1 + 1)), rS, rS, H', ⟨by have := HK1.out; omega⟩, ⟨rU HO_3.out⟩, ⟨kU BK436.out⟩, ⟨bU1 HB.out GE436.out⟩⟩
          ·
           rw [if_neg c14] at H
           exact absurd H (by simp)
         ·
          rw [if_neg c13] at H
          exact absurd H (by simp)
        ·
         rw [if_neg c11] at H; have c11b0 := decide_eq_false c11; clear c11; have H' := Az H; clear H; obtain ⟨Ao23, co23, eo23⟩ := Kd.R_slice HO_3.out; subst eo23; have hcz24_0 : wr.cell? ⟨gb436, 0, none⟩ = some (.slice A0_0 l0_0.length c0_0) := (blk_cell BK436.out 0).trans rfl; have hcz24_1 : wr.cell? ⟨gb436, 1, none⟩ = some (.slice A0_1 l0_1.length c0_1) := (blk_cell BK436.out 1).trans rfl; have hfz24_0 := blk_frozen BK436.out 0; have hfz24_1 := blk_frozen BK436.out 1; have p440 : 0 ≤ (x5_1 : Int) := oA; have q440 : x5_1 < (l0_1.length : Int) := oA; obtain ⟨ad440, e440, hx440_0⟩ := Kd.at_int HR0_1.out x5_1 p440 q440
         cases e440
         (try replace hx440_0 := (HB.out.cell (World.block_lt_of_cell? w _ hx440_0)).trans hx440_0); replace p440 := eq_true p440; replace q440 := eq_true q440
         go_wp2
         (first | go_roundg k1 | (refine Handed.intro k1 ?measure ?_; rotate_left; go_step; (try simp only [add_plain]); (repeat apply Exists.intro); refine ⟨?rel, rfl⟩))
         case measure => have := HK1.out; omega
         case rel => exact ⟨(x3_1), (x4_1), (wrap64 (x5_1 + 1)), rS, rS, H', ⟨by have := HK1.out; omega⟩, ⟨rU HO_3.out⟩, ⟨kU BK436.out⟩, ⟨bU1 HB.out GE436.out⟩⟩
       ·
        rw [if_neg c10] at H
        exact absurd H (by simp)
      ·
       rw [if_neg c9] at H
       exact absurd H (by simp)
     ·
      rw [if_neg c8] at H; have c8b0 := decide_eq_false c8; clear c8; obtain rfl := Option.some.inj H; obtain ⟨Ao25, co25, eo25⟩ := Kd.R_slice HO_3.out; subst eo25
      go_wp2
      go_ret
      exact ⟨_, rE, rU HO_3.out, bU1 HB.out GE436.out⟩
  ·
   rw [if_neg c3] at H
   exact absurd H (by simp)
 ·
  rw [if_neg c2] at H
  exact absurd H (by simp)
set_option maxHeartbeats 8000000 in
set_option maxRecDepth 100000 in
theorem spec_l7Parts.calls (k : Nat) (A0_0 : Option Addr) (c0_0 : Nat) (l0_0 : List Int) (A0_1 : Option Addr) (c0_1 : Nat) (l0_1 : List Int) (A1 : Option Addr) (c1 : Nat) (l1 : List Int) (r : Int) (w : World) (hr0_0 : Kd.C (Kd.int .i64) w A0_0 l0_0.length l0_0) (hc0_0 : l0_0.length ≤ c0_0) (hr0_1 : Kd.C (Kd.int .i64) w A0_1 l0_1.length l0_1) (hc0_1 : l0_1.length ≤ c0_1) (hr1 : Kd.C (Kd.int .i64) w A1 l1.length l1) (hc1 : l1.length ≤ c1) (h : spec_l7Parts.f k l0_0 l0_1 l1 = some r) :
  Calls Try.prog 89 #[.agg #[.slice A0_0 l0_0.length c0_0, .slice A0_1 l0_1.length c0_1], .slice A1 l1.length c1] w fun e w' => e = .returned (.int .i64 r) ∧ Below w.heap.size w w' := by
 have hu25 := Try.underlying25; have HR0_0 := Az hr0_0; have HC0_0 := Az hc0_0; clear hr0_0 hc0_0; have HR0_1 := Az hr0_1; have HC0_1 := Az hc0_1; clear hr0_1 hc0_1; have HR1 := Az hr1; have HC1 := Az hc1; clear hr1 hc1; have HB := Az (Below.refl w.heap.size w); have H : ((spec_l1Same.f k (l0_1.length : Int)).bind fun t445 => ((spec_l7Edges.f k l0_0 l0_1).bind fun t448 => (spec_l7Parts.l0 k l1 t445 t448 0 l0_0 l0_1))) = some r := h; clear h; replace H := Option.bind_eq_some_iff.mp H; obtain ⟨t445, A30, H⟩ := H; replace H : ((spec_l7Edges.f k l0_0 l0_1).bind fun t448 => (spec_l7Parts.l0 k l1 t445 t448 0 l0_0 l0_1)) = some r := H; have A3 := Az A30; clear A30; replace H := Option.bind_eq_some_iff.mp H; obtain ⟨t448, A40, H⟩ := H; replace H : (spec_l7Parts.l0 k l1 t445 t448 0 l0_0 l0_1) = some r := H; have A4 := Az A40; clear A40; have H' := Az H; clear H
 go_enter Try.func89, Try.ntmps89
 go_wp2_with (first | ((with_reducible refine gate_dst (N := 2) rfl ?_); refine box_event ?hg (N := 2) ?hd (cs := #[.slice A0_0 l0_0.length c0_0, .slice A0_1 l0_1.length c0_1]) (t := 25) ?hr ?_; (case hd => rfl); (case hg => rfl); (case hr => first | (go_simp; done) | (go_simp; rfl)); intro gb444 hg w5 hbox hb; have n0 := Az (below_step (bU0 HB.out) hb); have n1 := Az (hbox); have n2 := Az ((by rw [hg]; exact (below_size (bU0 HB.out)) : w.heap.size ≤ gb444)); have n3 := n2; clear HB; have HB := n0; have BK444 := n1; have GW444 := n2; have GE444 := n3; clear n0 n1 n2 n3 hb hbox hg; have hcz6_0 : w5.cell? ⟨gb444, 0, none⟩ = some (.slice A0_0 l0_0.length c0_0) := (blk_cell BK444.out 0).trans rfl; have hcz6_1 : w5.cell? ⟨gb444, 1, none⟩ = some (.slice A0_1 l0_1.length c0_1) := (blk_cell BK444.out 1).trans rfl; have hfz6_0 := blk_frozen BK444.out 0; have hfz6_1 := blk_frozen BK444.out 1) | ((with_reducible refine gate_callee (f := 108) rfl ?_); refine goesL_ (some 14) rfl rfl Try.func108 (by kernel_rfl) rfl #[.int .i64 (l0_1.length : Int)] rfl (by (try simp only [List.map_toArray, List.map_cons, List.map_nil]); first | done | rfl | (simp only [List.length_drop, List.length_take]; rfl)) ?_; (with_reducible refine (spec_l1Same.calls k (l0_1.length : Int) t445 _ A3.out).mono ?_); rintro e w7 ⟨v446, rfl, ho0, hb⟩; refine ⟨_, rfl, ?_⟩; have n0 := Az (Kd.R_lower ho0 (below_size (bU1 HB.out GE444.out))); have n1 := Az (blk_below (g := gb444) (o := .cells #[.slice A0_0 l0_0.length c0_0, .slice A0_1 l0_1.length c0_1] 25 (0, 0)) (kU BK444.out) hb); have n2 := Az (below_step (bU1 HB.out GE444.out) hb); clear BK444 HB; have HO447 := n0; have BK444 := n1; have HB := n2; clear n0 n1 n2; (try clear hb); (try clear hb2); (try clear hk); (try clear hi); (try clear ho0); have hcz8_0 : w7.cell? ⟨gb444, 0, none⟩ = some (.slice A0_0 l0_0.length c0_0) := (blk_cell BK444.out 0).trans rfl; have hcz8_1 : w7.cell? ⟨gb444, 1, none⟩ = some (.slice A0_1 l0_1.length c0_1) := (blk_cell BK444.out 1).trans rfl; have hfz8_0 := blk_frozen BK444.out 0; have hfz8_1 := blk_frozen BK444.out 1) | ((with_reducible refine gate_callee (f := 107) rfl ?_); refine goesL_ (some 16) rfl rfl Try.func107 (by kernel_rfl) rfl #[.agg #[.slice A0_0 l0_0.length c0_0, .slice A0_1 l0_1.length c0_1]] rfl (by (try simp only [List.map_toArray, List.map_cons, List.map_nil]); first | done | rfl | (simp only [List.length_drop, List.length_take]; rfl)) ?_; (with_reducible refine (spec_l7Edges.calls k _ _ l0_0 _ _ l0_1 t448 _ ?side1 ?side2 ?side3 ?side4 A4.out).mono ?_); (case side1 => exact cU (Kd.C_below HR0_0.out HB.out)); (case side2 => exact HC0_0.out); (case side3 => exact cU (Kd.C_below HR0_1.out HB.out)); (case side4 => exact HC0_1.out); rintro e w9 ⟨v449, rfl, ho0, hb⟩; refine ⟨_, rfl, ?_⟩; have n0 := Az (Kd.R_elder' (rU HO447.out) (Kd.R_base ho0) hb); have n1 := Az (Kd.R_lower (Kd.R_new' ho0 (Kd.R_lt (rU HO447.out))) (below_size (bU1 HB.out GE444.out))); have n2 := Az (blk_below (g := gb444) (o := .cells #[.slice A0_0 l0_0.length c0_0, .slice A0_1 l0_1.length c0_1] 25 (0, 0)) (kU BK444.out) hb); have n3 := Az (below_step (bU1 HB.out GE444.out) hb); clear HO447 BK444 HB; have HO447 := n0; have HO450 := n1; have BK444 := n2; have HB := n3; clear n0 n1 n2 n3; (try clear hb); (try clear hb2); (try clear hk); (try clear hi); (try clear ho0)))
 go_loopg [7] k (fun kq v7 w' => ∃ (x5_1 : List Int) (x7_1 : Int), v7 = .int .i64 x7_1 ∧ Aside0 (spec_l7Parts.l0 kq l1 x5_1 t448 x7_1 l0_0 l0_1 = some r) ∧ Aside0 (kq ≤ k) ∧ Aside0 (Kd.R (Kd.int .i64) 3 w' w.heap.size (fun k_ => some k_ ≠ (v449 : Value).ownBlock) v446 x5_1) ∧ Aside0 (Kd.R (Kd.int .i64) 3 w' w.heap.size (fun k_ => some k_ ≠ (v446 : Value).ownBlock) v449 t448) ∧ Aside0 (w'.heap[gb444]? = some (.cells #[(.slice A0_0 l0_0.length c0_0), (.slice A0_1 l0_1.length c0_1)] 25 (0, 0))) ∧ Aside0 (Below w.heap.size w w'))
 case atStart => exact ⟨(t445), (0), rS, H', ⟨Nat.le_refl _⟩, ⟨by (with_reducible repeat (first | apply Kd.R_alloc | apply Kd.R_drewN | apply Kd.R_drew)); exact Kd.R_mono HO447.out (fun _ hk => hk.2)⟩, ⟨by (with_reducible repeat (first | apply Kd.R_alloc | apply Kd.R_drewN | apply Kd.R_drew)); exact Kd.R_mono HO450.out (fun _ hk => hk.2)⟩, ⟨kU BK444.out⟩, ⟨bU1 HB.out GE444.out⟩⟩
 case round =>
  clear H'; (try clear c1); (try clear p2); (try clear c8); (try clear hcz6_0); (try clear hcz6_1); (try clear hcz8_0); (try clear hcz8_1); (try clear hfz6_0); (try clear hfz6_1); (try clear hfz8_0); (try clear hfz8_1); obtain ⟨x5_1, x7_1, rfl, HA, HK1, HO_5, HO_6, BK444, HB⟩ := hrel
  cases gk with
  | zero => exact absurd HA.out (by simp [spec_l7Parts.l0])
  | succ k1 =>
   have H := HA.out; clear HA; simp only [spec_l7Parts.l0] at H
   by_cases c10 : x7_1 < (x5_1.length : Int)
   ·
    rw [if_pos c10] at H; have c10b0 := decide_eq_true c10; clear c10
    by_cases c11 : 0 ≤ x7_1
    ·
     rw [if_pos c11] at H; have c11b0 := decide_eq_true c11; clear c11
     by_cases c12 : x7_1 < (t448.length : Int)
     ·
      rw [if_pos c12] at H; have c12b0 := decide_eq_true c12; clear c12; replace H := Option.bind_eq_some_iff.mp H; obtain ⟨t452, A130, H⟩ := H; replace H : (if t452 = true then (if x7_1 < (l0_1.length : Int) then (spec_l7Parts.l0 k1 l1 (x5_1.set (x7_1 : Int).toNat (rd l0_1 x7_1)) t448 (wrap64 (x7_1 + 1)) l0_0 l0_1) else (none)) else (spec_l7Parts.l0 k1 l1 x5_1 t448 (wrap64 (x7_1 + 1)) l0_0 l0_1)) = some r := H; have A13 := Az A130; clear A130
      by_cases c14 : t452 = true
      ·
       subst c14
       have H1 : (if x7_1 < (l0_1.length : Int) then (spec_l7Parts.l0 k1 l1 (x5_1.set (x7_1 : Int).toNat (rd l0_1 x7_1)) t448 (wrap64 (x7_1 + 1)) l0_0 l0_1) else (none)) = some r := by rw [if_pos rfl] at H; exact H
       clear H; have H := H1; clear H1
       by_cases c15 : x7_1 < (l0_1.length : Int)
       ·
        rw [if_pos c15] at H; have c15b0 := decide_eq_true c15; clear c15; obtain ⟨y454, hy454⟩ : ∃ y_ : List Int, y_ = (x5_1.set (x7_1 : Int).toNat (rd l0_1 x7_1)) := ⟨_, rfl⟩; replace H : (spec_l7Parts.l0 k1 l1 y454 t448 (wrap64 (x7_1 + 1)) l0_0 l0_1) = some r := hR hy454 H; have Ny454 := Az hy454; clear hy454; have H' := Az H; clear H; obtain ⟨Ao17, co17, eo17⟩ := Kd.R_slice HO_5.out; subst eo17; obtain ⟨Ao18, co18, eo18⟩ := Kd.R_slice HO_6.out; subst eo18; have p451 : 0 ≤ (x7_1 : Int) := oA; have q451 : x7_1 < (t448.length : Int) := oA; obtain ⟨ad451, e451, hx451_0⟩ := Kd.at_int (Kd.R_reads' HO_6.out).2.2 x7_1 p451 q451
        cases e451
        replace p451 := eq_true p451; replace q451 := eq_true q451
        go_wp2_with (first | ((with_reducible refine gate_callee (f := 67) rfl ?_); refine goesL_ (some 28) rfl rfl Try.func67 (by kernel_rfl) rfl #[.slice A1 l1.length c1, .int .i64 (rd t448 x7_1)] rfl (by (try simp only [List.map_toArray, List.map_cons, List.map_nil]); first | done | rfl | (simp only [List.length_drop, List.length_take]; rfl)) ?_; (with_reducible refine (spec_l7Has.calls k1 _ _ l1 (rd t448 x7_1) true _ ?side1 ?side2 A13.out).mono ?_); (case side1 => exact cU (Kd.C_below HR1.out HB.out)); (case side2 => exact HC1.out); rintro e w' ⟨rfl, ⟨nd, rfl⟩⟩; refine ⟨_, rfl, ?_⟩; (try (rw [drewN_self wr]; generalize hq_ : World.drewN wr _ = wr; have n0 : Aside0 (Kd.R (Kd.int .i64) 3 wr w.heap.size (fun k_ => some k_ ≠ (.slice (some ad451) t448.length co18 : Value).ownBlock) (.slice Ao17 x5_1.length co17) x5_1) := ⟨by rw [← hq_]; exact (rU HO_5.out)⟩; have n1 : Aside0 (Kd.R (Kd.int .i64) 3 wr w.heap.size (fun k_ => some k_ ≠ (.slice Ao17 x5_1.length co17 : Value).ownBlock) (.slice (some ad451) t448.length co18) t448) := ⟨by rw [← hq_]; exact (rU HO_6.out)⟩; have n2 : Aside0 (wr.heap[gb444]? = some (.cells #[.slice A0_0 l0_0.length c0_0, .slice A0_1 l0_1.length c0_1] 25 (0, 0))) := ⟨by rw [← hq_]; exact (kU BK444.out)⟩; have n3 : Aside0 (Below w.heap.size w wr) := ⟨by rw [← hq_]; exact (bU1 HB.out GE444.out)⟩; clear HO_5 HO_6 BK444 HB hq_; have HO_5 := n0; have HO_6 := n1; have BK444 := n2; have HB := n3; clear n0 n1 n2 n3)); have hcz19_0 : wr.cell? ⟨gb444, 0, none⟩ = some (.slice A0_0 l0_0.length c0_0) := (blk_cell BK444.out 0).trans rfl; have hcz19_1 : wr.cell? ⟨gb444, 1, none⟩ = some (.slice A0_1 l0_1.length c0_1) := (blk_cell BK444.out 1).trans rfl; have hfz19_0 := blk_frozen BK444.out 0; have hfz19_1 := blk_frozen BK444.out 1; have p453 : 0 ≤ (x7_1 : Int) := oA; have q453 : x7_1 < (l0_1.length : Int) := oA; obtain ⟨ad453, e453, hx453_0⟩ := Kd.at_int HR0_1.out x7_1 p453 q453; cases e453; replace hx453_0 := (HB.out.cell (World.block_lt_of_cell? w _ hx453_0)).trans hx453_0; replace p453 := eq_true p453; replace q453 := eq_true q453; have p16 : 0 ≤ (x7_1 : Int) := oA; have q16 : (x7_1 : Int) < ((x5_1.length : Int) : Int) := oA; obtain ⟨go16, co16, eo16, gb16, gl16, cl16, HG16⟩ := Kd.R_form HO_5.out (by omega); (first | cases eo16 | (injection eo16 with ea_ en_ ec_; (first | subst ea_ | (injection ea_ with ea_; subst ea_)); subst ec_; clear en_)); have GB16 := Az gb16; have GG16 := Az HG16; clear gb16 gl16 HG16; obtain ⟨hx16_0, hf16_0⟩ := Kd.R_celln 0 HO_5.out (x7_1 : Int) p16 q16; replace p16 := eq_true p16; replace q16 := eq_true q16; obtain ⟨hy20_, hz20_⟩ := Kd.R_celln 0 HO_5.out (x7_1 : Int) (oA) (oA); have HP20 := Kd.R_putg HO_5.out (x7_1 : Int) (rd l0_1 x7_1)) | ((with_reducible refine gate_store (t := 3) (p := 36) rfl ?_); refine store_event (t := 3) (p := 36) (v := ?vo_w21) (w1 := (wr.setCell ⟨go16, (x7_1 : Int).toNat, none⟩ (.int .i64 (rd l0_1 x7_1)))) ?hg ?ho ?hn ?hr ?_; (case ho => rfl); (case hg => rfl); (case hn => rfl); (case hr => first | (go_simp; done) | (go_simp; rfl)); intro w21 hw; have hg : wr.grownBy w21 (some go16) := (by rw [hw]; exact HP20.2); have hp_ : Kd.R (Kd.int .i64) 3 w21 w.heap.size (fun k_ => some k_ ≠ (.slice (some ad451) t448.length co18 : Value).ownBlock) (.slice (some ⟨go16, 0, none⟩) x5_1.length co17) y454 := (by rw [hw, Ny454.out]; exact HP20.1); clear HP20; have n0 := Az (hp_); have n1 := Az (Kd.R_after (v := (.slice (some ⟨go16, 0, none⟩) x5_1.length co17)) (v1 := (.slice (some ⟨go16, 0, none⟩) x5_1.length co17)) (ok := (fun _ => True)) (by (with_reducible repeat (first | apply Kd.R_alloc | apply Kd.R_drewN | apply Kd.R_drew)); exact Kd.R_mono HO_6.out (fun _ hk => ⟨trivial, hk⟩)) hg (.inl rfl)); have n2 := Az (blk_grown (g := gb444) (o := .cells #[.slice A0_0 l0_0.length c0_0, .slice (some ad453) l0_1.length c0_1] 25 (0, 0)) (kU BK444.out) hg (Kd.R_ne HO_5.out BK444.out (by decide))); have n3 := Az ((by rw [hw]; exact below_set (HB.out) GB16.out : Below w.heap.size w w21)); clear HO_5 HO_6 BK444 HB; have HO_5 := n0; have HO_6 := n1; have BK444 := n2; have HB := n3; clear n0 n1 n2 n3; clear hg hw hp_))
        (first | go_roundg k1 | (refine Handed.intro k1 ?measure ?_; rotate_left; go_step; (try simp only [add_plain]); (repeat apply Exists.intro); refine ⟨?rel, rfl⟩))
        case measure => have := HK1.out; omega
        case rel => exact ⟨(y454), (wrap64 (x7_1 + 1)), rS, H', ⟨by have := HK1.out; omega⟩, ⟨rU HO_5.out⟩, ⟨by (with_reducible repeat (first | apply Kd.R_alloc | apply Kd.R_drewN | apply Kd.R_drew)); exact Kd.R_mono HO_6.out (fun _ hk => hk.2)⟩, ⟨kU BK444.out⟩, ⟨bU1 HB.out GE444.out⟩⟩
       ·
        rw [if_neg c15] at H
        exact absurd H (by simp)
      ·
       replace c14 := Bool.eq_false_iff.mpr c14; subst c14
       have H1 : (spec_l7Parts.l0 k1 l1 x5_1 t448 (wrap64 (x7_1 + 1)) l0_0 l0_1) = some r := by rw [if_neg (show ¬ (false = true) by decide)] at H; exact H
       clear H; have H := H1; clear H1; have H' := Az H; clear H; obtain ⟨Ao22, co22, eo22⟩ := Kd.R_slice HO_5.out; subst eo22; obtain ⟨Ao23, co23, eo23⟩ := Kd.R_slice HO_6.out; subst eo23; have p451 : 0 ≤ (x7_1 : Int) := oA; have q451 : x7_1 < (t448.length : Int) := oA; obtain ⟨ad451, e451, hx451_0⟩ := Kd.at_int (Kd.R_reads' HO_6.out).2.2 x7_1 p451 q451
       cases e451
       replace p451 := eq_true p451; replace q451 := eq_true q451
       go_wp2_with (first | ((with_reducible refine gate_callee (f := 67) rfl ?_); refine goesL_ (some 28) rfl rfl Try.func67 (by kernel_rfl) rfl #[.slice A1 l1.length c1, .int .i64 (rd t448 x7_1)] rfl (by (try simp only [List.map_toArray, List.map_cons, List.map_nil]); first | done | rfl | (simp only [List.length_drop, List.length_take]; rfl)) ?_; (with_reducible refine (spec_l7Has.calls k1 _ _ l1 (rd t448 x7_1) false _ ?side1 ?side2 A13.out).mono ?_); (case side1 => exact cU (Kd.C_below HR1.out HB.out)); (case side2 => exact HC1.out); rintro e w' ⟨rfl, ⟨nd, rfl⟩⟩; refine ⟨_, rfl, ?_⟩))
       (first | go_roundg k1 | (refine Handed.intro k1 ?measure ?_; rotate_left; go_step; (try simp only [add_plain]); (repeat apply Exists.intro); refine ⟨?rel, rfl⟩))
       case measure => have := HK1.out; omega
       case rel => exact ⟨(x5_1), (wrap64 (x7_1 + 1)), rS, H', ⟨by have := HK1.out; omega⟩, ⟨rU HO_5.out⟩, ⟨rU HO_6.out⟩, ⟨kU BK444.out⟩, ⟨bU1 HB.out GE444.out⟩⟩
     ·
      rw [if_neg c12] at H
      exact absurd H (by simp)
    ·
     rw [if_neg c11] at H
     exact absurd H (by simp)
   ·
    rw [if_neg c10] at H; have c10b0 := decide_eq_false c10; clear c10; replace H := Option.bind_eq_some_iff.mp H; obtain ⟨t455, A240, H⟩ := H; replace H : (spec_l7Parts.l1 k1 t455 0 0) = some r := H; have A24 := Az A240; clear A240; have H' := Az H; clear H; obtain ⟨Ao25, co25, eo25⟩ := Kd.R_slice HO_5.out; subst eo25; have hcz26_0 : wr.cell? ⟨gb444, 0, none⟩ = some (.slice A0_0 l0_0.length c0_0) := (blk_cell BK444.out 0).trans rfl; have hcz26_1 : wr.cell? ⟨gb444, 1, none⟩ = some (.slice A0_1 l0_1.length c0_1) := (blk_cell BK444.out 1).trans rfl; have hfz26_0 := blk_frozen BK444.out 0; have hfz26_1 := blk_frozen BK444.out 1
    go_wp2_with (first | ((with_reducible refine gate_callee (f := 99) rfl ?_); refine goesL_ (some 40) rfl rfl Try.func99 (by kernel_rfl) rfl #[.slice A0_0 l0_0.length c0_0, .slice Ao25 x5_1.length co25] rfl (by (try simp only [List.map_toArray, List.map_cons, List.map_nil]); first | done | rfl | (simp only [List.length_drop, List.length_take]; rfl)) ?_; (with_reducible refine (spec_l1Orbits.calls k1 _ _ l0_0 _ _ x5_1 t455 _ ?side1 ?side2 ?side3 ?side4 A24.out).mono ?_); (case side1 => exact cU (Kd.C_below HR0_0.out HB.out)); (case side2 => exact HC0_0.out); (case side3 => exact cU ((Kd.R_reads' HO_5.out).2.2)); (case side4 => exact (Kd.R_reads' HO_5.out).2.1); rintro e w27 ⟨v456, rfl, ho0, hb⟩; refine ⟨_, rfl, ?_⟩; have n0 := Az (Kd.R_elder' (rU HO_5.out) (Kd.R_base ho0) hb); have n1 := Az (Kd.R_elder' (rU HO_6.out) (Kd.R_base ho0) hb); have n2 := Az (Kd.R_lower (Kd.R_new' (Kd.R_new' ho0 (Kd.R_lt (rU HO_5.out))) (Kd.R_lt (rU HO_6.out))) (below_size (bU1 HB.out GE444.out))); have n3 := Az (blk_below (g := gb444) (o := .cells #[.slice A0_0 l0_0.length c0_0, .slice A0_1 l0_1.length c0_1] 25 (0, 0)) (kU BK444.out) hb); have n4 := Az (below_step (bU1 HB.out GE444.out) hb); clear HO_5 HO_6 BK444 HB; have HO_5 := n0; have HO_6 := n1; have HO457 := n2; have BK444 := n3; have HB := n4; clear n0 n1 n2 n3 n4; (try clear hb); (try clear hb2); (try clear hk); (try clear hi); (try clear ho0)))
    go_loopg [9, 10] k1 (fun kq v9 v10 w' => ∃ (x9_2 : Int) (x10_2 : Int), v9 = .int .i64 x9_2 ∧ v10 = .int .i64 x10_2 ∧ Aside0 (spec_l7Parts.l1 kq t455 x9_2 x10_2 = some r) ∧ Aside0 (kq ≤ k1) ∧ Aside0 (Kd.R (Kd.int .i64) 3 w' w.heap.size (fun _ => True) v456 t455) ∧ Aside0 (w'.heap[gb444]? = some (.cells #[(.slice A0_0 l0_0.length c0_0), (.slice A0_1 l0_1.length c0_1)] 25 (0, 0))) ∧ Aside0 (Below w.heap.size w w'))
    case atStart => exact ⟨(0), (0), rS, rS, H', ⟨Nat.le_refl _⟩, ⟨by (with_reducible repeat (first | apply Kd.R_alloc | apply Kd.R_drewN | apply Kd.R_drew)); exact Kd.R_mono HO457.out (fun _ hk => trivial)⟩, ⟨kU BK444.out⟩, ⟨bU1 HB.out GE444.out⟩⟩
    case round =>
     clear H'; (try clear c1); (try clear p1); (try clear q1); (try clear hx1); (try clear p2); (try clear p4); (try clear q4); (try clear hx4); (try clear c6); (try clear p6); (try clear c8); (try clear c9); (try clear c10); (try clear c10b0); (try clear c11); (try clear c11b0); (try clear c12); (try clear c12b0); (try clear c14); (try clear c15); (try clear c15b0); (try clear p16); (try clear q16); (try clear hx16); (try clear hf16); (try clear hcz19_0); (try clear hcz19_1); (try clear hcz26_0); (try clear hcz26_1); (try clear hcz6_0); (try clear hcz6_1); (try clear hcz8_0); (try clear hcz8_1); (try clear hfz19_0); (try clear hfz19_1); (try clear hfz26_0); (try clear hfz26_1); (try clear hfz6_0); (try clear hfz6_1); (try clear hfz8_0); (try clear hfz8_1); (try clear hx16_0); (try clear hx451_0); (try clear hx453_0); (try clear p16); (try clear p2); (try clear p451); (try clear p453); (try clear q16); (try clear q451); (try clear q453); obtain ⟨x9_2, x10_2, rfl, rfl, HA, HK2, HO_8, BK444, HB⟩ := hrel
     cases gk with
     | zero => exact absurd HA.out (by simp [spec_l7Parts.l1])
     | succ k2 =>
      have H := HA.out; clear HA; simp only [spec_l7Parts.l1] at H
      by_cases c28 : x10_2 < (t455.length : Int)
      ·
       rw [if_pos c28] at H; have c28b0 := decide_eq_true c28; clear c28
       by_cases c29 : 0 ≤ x10_2
       ·
        rw [if_pos c29] at H; have c29b0 := decide_eq_true c29; clear c29
        by_cases c30 : (rd t455 x10_2) = x10_2
        ·
         rw [if_pos c30] at H; have c30b0 := beq_iff_eq.mpr c30; have c30b1 := bne_eq_false_iff_eq.mpr c30; clear c30; have H' := Az H; clear H; obtain ⟨Ao31, co31, eo31⟩ := Kd.R_slice HO_8.out; subst eo31; have p458 : 0 ≤ (x10_2 : Int) := oA; have q458 : x10_2 < (t455.length : Int) := oA; obtain ⟨ad458, e458, hx458_0⟩ := Kd.at_int (Kd.R_reads' HO_8.out).2.2 x10_2 p458 q458
         cases e458
         replace p458 := eq_true p458; replace q458 := eq_true q458
         go_wp2
         (first | go_roundg k2 | (refine Handed.intro k2 ?measure ?_; rotate_left; go_step; (try simp only [add_plain]); (repeat apply Exists.intro); refine ⟨?rel, rfl⟩))
         case measure => have := HK1.out; have := HK2.out; omega
         case rel => exact ⟨(wrap64 (x9_2 + 1)), (wrap64 (x10_2 + 1)), rS, rS, H', ⟨by have := HK1.out; have := HK2.out; omega⟩, ⟨rU HO_8.out⟩, ⟨kU BK444.out⟩, ⟨bU1 HB.out GE444.out⟩⟩
        ·
         rw [if_neg c30] at H; have c30b0 := beq_eq_false_iff_ne.mpr c30; have c30b1 := bne_iff_ne.mpr c30; have H' := Az H; clear H; obtain ⟨Ao32, co32, eo32⟩ := Kd.R_slice HO_8.out; subst eo32; have p458 : 0 ≤ (x10_2 : Int) := oA; have q458 : x10_2 < (t455.length : Int) := oA; obtain ⟨ad458, e458, hx458_0⟩ := Kd.at_int (Kd.R_reads' HO_8.out).2.2 x10_2 p458 q458
         cases e458
         replace p458 := eq_true p458; replace q458 := eq_true q458
         go_wp2
         (first | go_roundg k2 | (refine Handed.intro k2 ?measure ?_; rotate_left; go_step; (try simp only [add_plain]); (repeat apply Exists.intro); refine ⟨?rel, rfl⟩))
         case measure => have := HK1.out; have := HK2.out; omega
         case rel => exact ⟨(x9_2), (wrap64 (x10_2 + 1)), rS, rS, H', ⟨by have := HK1.out; have := HK2.out; omega⟩, ⟨rU HO_8.out⟩, ⟨kU BK444.out⟩, ⟨bU1 HB.out GE444.out⟩⟩
       ·
        rw [if_neg c29] at H
        exact absurd H (by simp)
      ·
       rw [if_neg c28] at H; have c28b0 := decide_eq_false c28; clear c28; obtain rfl := Option.some.inj H; obtain ⟨Ao33, co33, eo33⟩ := Kd.R_slice HO_8.out; subst eo33
       go_wp2
       go_ret
       exact ⟨rE, bU1 HB.out GE444.out⟩
set_option maxHeartbeats 8000000 in
set_option maxRecDepth 100000 in
theorem spec_l7Sides.calls (k : Nat) (A0_0 : Option Addr) (c0_0 : Nat) (l0_0 : List Int) (A0_1 : Option Addr) (c0_1 : Nat) (l0_1 : List Int) (A1 : Option Addr) (c1 : Nat) (l1 : List Int) (r : Int) (w : World) (hr0_0 : Kd.C (Kd.int .i64) w A0_0 l0_0.length l0_0) (hc0_0 : l0_0.length ≤ c0_0) (hr0_1 : Kd.C (Kd.int .i64) w A0_1 l0_1.length l0_1) (hc0_1 : l0_1.length ≤ c0_1) (hr1 : Kd.C (Kd.int .i64) w A1 l1.length l1) (hc1 : l1.length ≤ c1) (h : spec_l7Sides.f k l0_0 l0_1 l1 = some r) :
  Calls Try.prog 104 #[.agg #[.slice A0_0 l0_0.length c0_0, .slice A0_1 l0_1.length c0_1], .slice A1 l1.length c1] w fun e w' => e = .returned (.int .i64 r) ∧ Below w.heap.size w w' := by
 have hu25 := Try.underlying25; have HR0_0 := Az hr0_0; have HC0_0 := Az hc0_0; clear hr0_0 hc0_0; have HR0_1 := Az hr0_1; have HC0_1 := Az hc0_1; clear hr0_1 hc0_1; have HR1 := Az hr1; have HC1 := Az hc1; clear hr1 hc1; have HB := Az (Below.refl w.heap.size w); have H : ((spec_l7Edges.f k l0_0 l0_1).bind fun t460 => ((spec_l1Same.f k (l0_1.length : Int)).bind fun t463 => ((spec_l1Cycles.f k l0_0).bind fun t466 => (spec_l7Sides.l0 k l1 t460 t463 0 t466 0 l0_0 l0_1)))) = some r := h; clear h; replace H := Option.bind_eq_some_iff.mp H; obtain ⟨t460, A30, H⟩ := H; replace H : ((spec_l1Same.f k (l0_1.length : Int)).bind fun t463 => ((spec_l1Cycles.f k l0_0).bind fun t466 => (spec_l7Sides.l0 k l1 t460 t463 0 t466 0 l0_0 l0_1))) = some r := H; have A3 := Az A30; clear A30; replace H := Option.bind_eq_some_iff.mp H; obtain ⟨t463, A40, H⟩ := H; replace H : ((spec_l1Cycles.f k l0_0).bind fun t466 => (spec_l7Sides.l0 k l1 t460 t463 0 t466 0 l0_0 l0_1)) = some r := H; have A4 := Az A40; clear A40; replace H := Option.bind_eq_some_iff.mp H; obtain ⟨t466, A50, H⟩ := H; replace H : (spec_l7Sides.l0 k l1 t460 t463 0 t466 0 l0_0 l0_1) = some r := H; have A5 := Az A50; clear A50; have H' := Az H; clear H
 go_enter Try.func104, Try.ntmps104
 go_wp2_with (first | ((with_reducible refine gate_dst (N := 2) rfl ?_); refine box_event ?hg (N := 2) ?hd (cs := #[.slice A0_0 l0_0.length c0_0, .slice A0_1 l0_1.length c0_1]) (t := 25) ?hr ?_; (case hd => rfl); (case hg => rfl); (case hr => first | (go_simp; done) | (go_simp; rfl)); intro gb459 hg w6 hbox hb; have n0 := Az (below_step (bU0 HB.out) hb); have n1 := Az (hbox); have n2 := Az ((by rw [hg]; exact (below_size (bU0 HB.out)) : w.heap.size ≤ gb459)); have n3 := n2; clear HB; have HB := n0; have BK459 := n1; have GW459 := n2; have GE459 := n3; clear n0 n1 n2 n3 hb hbox hg; have hcz7_0 : w6.cell? ⟨gb459, 0, none⟩ = some (.slice A0_0 l0_0.length c0_0) := (blk_cell BK459.out 0).trans rfl; have hcz7_1 : w6.cell? ⟨gb459, 1, none⟩ = some (.slice A0_1 l0_1.length c0_1) := (blk_cell BK459.out 1).trans rfl; have hfz7_0 := blk_frozen BK459.out 0; have hfz7_1 := blk_frozen BK459.out 1) | (go_at_call 107; (with_reducible refine (spec_l7Edges.calls k _ _ l0_0 _ _ l0_1 t460 _ ?side1 ?side2 ?side3 ?side4 A3.out).mono ?_); (case side1 => exact cU (Kd.C_below HR0_0.out HB.out)); (case side2 => exact HC0_0.out); (case side3 => exact cU (Kd.C_below HR0_1.out HB.out)); (case side4 => exact HC0_1.out); rintro e w8 ⟨v461, rfl, ho0, hb⟩; have n0 := Az (Kd.R_lower ho0 (below_size (bU1 HB.out GE459.out))); have n1 := Az (blk_below (g := gb459) (o := .cells #[.slice A0_0 l0_0.length c0_0, .slice A0_1 l0_1.length c0_1] 25 (0, 0)) (kU BK459.out) hb); have n2 := Az (below_step (bU1 HB.out GE459.out) hb); clear BK459 HB; have HO462 := n0; have BK459 := n1; have HB := n2; clear n0 n1 n2; (try clear hb); (try clear hb2); (try clear hk); (try clear hi); (try clear ho0); have hcz9_0 : w8.cell? ⟨gb459, 0, none⟩ = some (.slice A0_0 l0_0.length c0_0) := (blk_cell BK459.out 0).trans rfl; have hcz9_1 : w8.cell? ⟨gb459, 1, none⟩ = some (.slice A0_1 l0_1.length c0_1) := (blk_cell BK459.out 1).trans rfl; have hfz9_0 := blk_frozen BK459.out 0; have hfz9_1 := blk_frozen BK459.out 1) | (go_at_call 108; (with_reducible refine (spec_l1Same.calls k (l0_1.length : Int) t463 _ A4.out).mono ?_); rintro e w10 ⟨v464, rfl, ho0, hb⟩; have n0 := Az (Kd.R_elder' (rU HO462.out) (Kd.R_base ho0) hb); have n1 := Az (Kd.R_lower (Kd.R_new' ho0 (Kd.R_lt (rU HO462.out))) (below_size (bU1 HB.out GE459.out))); have n2 := Az (blk_below (g := gb459) (o := .cells #[.slice A0_0 l0_0.length c0_0, .slice A0_1 l0_1.length c0_1] 25 (0, 0)) (kU BK459.out) hb); have n3 := Az (below_step (bU1 HB.out GE459.out) hb); clear HO462 BK459 HB; have HO462 := n0; have HO465 := n1; have BK459 := n2; have HB := n3; clear n0 n1 n2 n3; (try clear hb); (try clear hb2); (try clear hk); (try clear hi); (try clear ho0); have hcz11_0 : w10.cell? ⟨gb459, 0, none⟩ = some (.slice A0_0 l0_0.length c0_0) := (blk_cell BK459.out 0).trans rfl; have hcz11_1 : w10.cell? ⟨gb459, 1, none⟩ = some (.slice A0_1 l0_1.length c0_1) := (blk_cell BK459.out 1).trans rfl; have hfz11_0 := blk_frozen BK459.out 0; have hfz11_1 := blk_frozen BK459.out 1) | (go_at_call 81; (with_reducible refine (spec_l1Cycles.calls k _ _ l0_0 t466 _ ?side1 ?side2 A5.out).mono ?_); (case side1 => exact cU (Kd.C_below HR0_0.out HB.out)); (case side2 => exact HC0_0.out); rintro e w12 ⟨v467, rfl, ho0, hb⟩; have n0 := Az (Kd.R_below (rU HO462.out) hb); have n1 := Az (Kd.R_below (rU HO465.out) hb); have n2 := Az (Kd.S_lower (Kd.S_new' (Kd.S_new' ho0 (Kd.R_lt (rU HO462.out))) (Kd.R_lt (rU HO465.out))) (below_size (bU1 HB.out GE459.out))); have n3 := Az (blk_below (g := gb459) (o := .cells #[.slice A0_0 l0_0.length c0_0, .slice A0_1 l0_1.length c0_1] 25 (0, 0)) (kU BK459.out) hb); have n4 := Az (below_step (bU1 HB.out GE459.out) hb); clear HO462 HO465 BK459 HB; have HO462 := n0; have HO465 := n1; have HO468 := n2; have BK459 := n3; have HB := n4; clear n0 n1 n2 n3 n4; (try clear hb); (try clear hb2); (try clear hk); (try clear hi); (try clear ho0)))
 repeat (go_quiet (fail); try go_wp2_with (fail))
 go_loopg [7, 9] k (fun kq v7 v9 w' => ∃ (x7_1 : Int) (x9_1 : Int), v7 = .int .i64 x7_1 ∧ v9 = .int .i64 x9_1 ∧ Aside0 (spec_l7Sides.l0 kq l1 t460 t463 x7_1 t466 x9_1 l0_0 l0_1 = some r) ∧ Aside0 (kq ≤ k) ∧ Aside0 (Kd.R (Kd.int .i64) 3 w' w.heap.size (fun k_ => some k_ ≠ (v464 : Value).ownBlock) v461 t460) ∧ Aside0 (Kd.R (Kd.int .i64) 3 w' w.heap.size (fun k_ => some k_ ≠ (v461 : Value).ownBlock) v464 t463) ∧ Aside0 (Kd.S (Kd.slice 3 (Kd.int .i64)) 23 w' w.heap.size (fun k_ => some k_ ≠ (v461 : Value).ownBlock ∧ some k_ ≠ (v464 : Value).ownBlock) v467 t466) ∧ Aside0 (w'.heap[gb459]? = some (.cells #[(.slice A0_0 l0_0.length c0_0), (.slice A0_1 l0_1.length c0_1)] 25 (0, 0))) ∧ Aside0 (Below w.heap.size w w'))
 case atStart => exact ⟨(0), (0), rS, rS, H', ⟨Nat.le_refl _⟩, ⟨by (with_reducible repeat (first | apply Kd.R_alloc | apply Kd.R_drewN | apply Kd.R_drew)); exact Kd.R_mono HO462.out (fun _ hk => hk.2)⟩, ⟨by (with_reducible repeat (first | apply Kd.R_alloc | apply Kd.R_drewN | apply Kd.R_drew)); exact Kd.R_mono HO465.out (fun _ hk => hk.2)⟩, ⟨by (with_reducible repeat (first | apply Kd.S_alloc | apply Kd.S_drewN | apply Kd.S_drew)); exact Kd.S_mono HO468.out (fun _ hk => ⟨hk.1.2, hk.2⟩)⟩, ⟨kU BK459.out⟩, ⟨bU1 HB.out GE459.out⟩⟩
 case round =>
  clear H'; (try clear c1); (try clear p2); (try clear c10); (try clear hcz11_0); (try clear hcz11_1); (try clear hcz7_0); (try clear hcz7_1); (try clear hcz9_0); (try clear hcz9_1); (try clear hfz11_0); (try clear hfz11_1); (try clear hfz7_0); (try clear hfz7_1); (try clear hfz9_0); (try clear hfz9_1); obtain ⟨x7_1, x9_1, rfl, rfl, HA, HK1, HO_5, HO_6, HO_8, BK459, HB⟩ := hrel
  cases gk with
  | zero => exact absurd HA.out (by simp [spec_l7Sides.l0])
  | succ k1 =>
   have H := HA.out; clear HA; simp only [spec_l7Sides.l0] at H
   by_cases c13 : x9_1 < (t466.length : Int)
   ·
    rw [if_pos c13] at H; have c13b0 := decide_eq_true c13; clear c13; have H' := Az H; clear H; obtain ⟨Ao14, co14, eo14⟩ := Kd.S_slice HO_8.out; subst eo14
    go_wp2
    repeat (go_quiet (fail); try go_wp2)
    go_loopg [10, 11] k1 (fun kq v10 v11 w' => ∃ (x10_2 : Int) (x11_2 : Int), v10 = .int .i64 x10_2 ∧ v11 = .int .i64 x11_2 ∧ Aside0 (spec_l7Sides.l1 kq l1 t460 t463 x7_1 t466 x9_1 x10_2 x11_2 l0_0 l0_1 = some r) ∧ Aside0 (kq ≤ k1) ∧ Aside0 (Kd.R (Kd.int .i64) 3 w' w.heap.size (fun k_ => some k_ ≠ (v464 : Value).ownBlock) v461 t460) ∧ Aside0 (Kd.R (Kd.int .i64) 3 w' w.heap.size (fun k_ => some k_ ≠ (v461 : Value).ownBlock) v464 t463) ∧ Aside0 (Kd.S (Kd.slice 3 (Kd.int .i64)) 23 w' w.heap.size (fun k_ => some k_ ≠ (v461 : Value).ownBlock ∧ some k_ ≠ (v464 : Value).ownBlock) (.slice Ao14 t466.length co14) t466) ∧ Aside0 (w'.heap[gb459]? = some (.cells #[(.slice A0_0 l0_0.length c0_0), (.slice A0_1 l0_1.length c0_1)] 25 (0, 0))) ∧ Aside0 (Below w.heap.size w w'))
    case atStart => exact ⟨(0), (0), rS, rS, H', ⟨Nat.le_refl _⟩, ⟨rU HO_5.out⟩, ⟨rU HO_6.out⟩, ⟨sU HO_8.out⟩, ⟨kU BK459.out⟩, ⟨bU1 HB.out GE459.out⟩⟩
    case round =>
     clear H'; (try clear c1); (try clear p2); (try clear c10); (try clear c13); (try clear c13b0); (try clear hcz11_0); (try clear hcz11_1); (try clear hcz7_0); (try clear hcz7_1); (try clear hcz9_0); (try clear hcz9_1); (try clear hfz11_0); (try clear hfz11_1); (try clear hfz7_0); (try clear hfz7_1); (try clear hfz9_0); (try clear hfz9_1); (try clear p2); obtain ⟨x10_2, x11_2, rfl, rfl, HA, HK2, HO_5, HO_6, HO_8, BK459, HB⟩ := hrel
     cases gk with
     | zero => exact absurd HA.out (by simp [spec_l7Sides.l1])
     | succ k2 =>
      have H := HA.out; clear HA; simp only [spec_l7Sides.l1] at H
      by_cases c15 : 0 ≤ x9_1
      ·
       rw [if_pos c15] at H; have c15b0 := decide_eq_true c15; clear c15
       by_cases c16 : x9_1 < (t466.length : Int)
       ·
        rw [if_pos c16] at H; have c16b0 := decide_eq_true c16; clear c16
        by_cases c17 : x11_2 < ((rd_L1 t466 x9_1).length : Int)
        ·
         rw [if_pos c17] at H; have c17b0 := decide_eq_true c17; clear c17
         by_cases c18 : 0 ≤ x11_2
         ·
          rw [if_pos c18] at H; have c18b0 := decide_eq_true c18; clear c18
          by_cases c19 : 0 ≤ (rd (rd_L1 t466 x9_1) x11_2)
          ·
           rw [if_pos c19] at H; have c19b0 := decide_eq_true c19; clear c19
           by_cases c20 : (rd (rd_L1 t466 x9_1) x11_2) < (t460.length : Int)
           ·
            rw [if_pos c20] at H; have c20b0 := decide_eq_true c20; clear c20; replace H := Option.bind_eq_some_iff.mp H; obtain ⟨t473, A210, H⟩ := H; replace H : (if t473 = true then (spec_l7Sides.l1 k2 l1 t460 t463 x7_1 t466 x9_1 (wrap64 (x10_2 + 1)) (wrap64 (x11_2 + 1)) l0_0 l0_1) else (spec_l7Sides.l1 k2 l1 t460 t463 x7_1 t466 x9_1 x10_2 (wrap64 (x11_2 + 1)) l0_0 l0_1)) = some r := H; have A21 := Az A210; clear A210
            by_cases c22 : t473 = true
            ·
             subst c22
             have H1 : (spec_l7Sides.l1 k2 l1 t460 t463 x7_1 t466 x9_1 (wrap64 (x10_2 + 1)) (wrap64 (x11_2 + 1)) l0_0 l0_1) = some r := by rw [if_pos rfl] at H; exact H
             clear H; have H := H1; clear H1; have H' := Az H; clear H; have p469 : 0 ≤ (x9_1 : Int) := oA; have q469 : x9_1 < (t466.length : Int) := oA; obtain ⟨ad469, A469_0, c469_0, e469, hx469_0, hl469_0, hi469_0⟩ := at_L1 (Kd.S_reads' HO_8.out).2.2 x9_1 p469 q469
             cases e469
             obtain ⟨ce469, hce469, hMe469, hcc469⟩ := Kd.S_get HO_8.out [] x9_1 p469 (by first | exact q469 | exact oA | (have e_ := (Kd.S_reads' HO_8.out).1; omega)); obtain ⟨ve469_0, rfl, ge469_0⟩ := hMe469; have hv469_0 := hcc469 0 _ rfl; rw [Nat.add_zero, show ((Kd.slice 3 (Kd.int .i64))).sz = 1 from rfl, Nat.mul_one] at hv469_0; replace hv469_0 := Option.some.inj (hv469_0.symm.trans hx469_0); rw [hv469_0] at ge469_0; have HL469_0 := Az (show Kd.R (Kd.int .i64) 3 _ _ _ _ (rd_L1 t466 x9_1) from ge469_0); clear hv469_0 ge469_0 hcc469 hce469; have HR469_0 := Az hi469_0; have HC469_0 := Az hl469_0; clear hi469_0 hl469_0; replace p469 := eq_true p469; replace q469 := eq_true q469; have p470 : 0 ≤ (x9_1 : Int) := oA; have q470 : x9_1 < (t466.length : Int) := oA; obtain ⟨ad470, A470_0, c470_0, e470, hx470_0, hl470_0, hi470_0⟩ := at_L1 (Kd.S_reads' HO_8.out).2.2 x9_1 p470 q470; obtain rfl : ad469 = ad470 := (by injection e470); obtain ⟨ce470, hce470, hMe470, hcc470⟩ := Kd.S_get HO_8.out [] x9_1 p470 (by first | exact q470 | exact oA | (have e_ := (Kd.S_reads' HO_8.out).1; omega)); obtain ⟨ve470_0, rfl, ge470_0⟩ := hMe470; have hv470_0 := hcc470 0 _ rfl; rw [Nat.add_zero, show ((Kd.slice 3 (Kd.int .i64))).sz = 1 from rfl, Nat.mul_one] at hv470_0; replace hv470_0 := Option.some.inj (hv470_0.symm.trans hx470_0); rw [hv470_0] at ge470_0; have HL470_0 := Az (show Kd.R (Kd.int .i64) 3 _ _ _ _ (rd_L1 t466 x9_1) from ge470_0); clear hv470_0 ge470_0 hcc470 hce470; have HR470_0 := Az hi470_0; have HC470_0 := Az hl470_0; clear hi470_0 hl470_0; replace p470 := eq_true p470; replace q470 := eq_true q470; have ea_ := Option.some.inj (hx469_0.symm.trans hx470_0); injection ea_ with ea_ en_ ec_; subst ea_; subst ec_; clear en_; have p471 : 0 ≤ (x11_2 : Int) := oA; have q471 : x11_2 < ((rd_L1 t466 x9_1).length : Int) := oA; obtain ⟨ad471, e471, hx471_0⟩ := Kd.at_int (by repeat (first | (with_reducible exact HR470_0.out) | (with_reducible refine Kd.C_alloc ?_ _) | (with_reducible refine Kd.C_drewN ?_ _) | (with_reducible refine Kd.C_drew ?_) | exact HR470_0.out)) x11_2 p471 q471
             cases e471
             replace p471 := eq_true p471; replace q471 := eq_true q471; obtain ⟨Ao23, co23, eo23⟩ := Kd.R_slice HO_5.out; subst eo23; have p472 : 0 ≤ ((rd (rd_L1 t466 x9_1) x11_2) : Int) := oA; have q472 : (rd (rd_L1 t466 x9_1) x11_2) < (t460.length : Int) := oA; obtain ⟨ad472, e472, hx472_0⟩ := Kd.at_int (Kd.R_reads' HO_5.out).2.2 (rd (rd_L1 t466 x9_1) x11_2) p472 q472
             cases e472
             replace p472 := eq_true p472; replace q472 := eq_true q472
             go_wp2_with (first | (go_at_call 67; (with_reducible refine (spec_l7Has.calls k2 _ _ l1 (rd t460 (rd (rd_L1 t466 x9_1) x11_2)) true _ ?side1 ?side2 A21.out).mono ?_); (case side1 => exact cU (Kd.C_below HR1.out HB.out)); (case side2 => exact HC1.out); rintro e w' ⟨rfl, ⟨nd, rfl⟩⟩; (try first | exact ⟨rfl, _, World.drewN_drewN _ _ _⟩ | exact ⟨rfl, _, Eq.trans (World.drewN_drewN _ _ _) (congrArg (World.drewN _) (Nat.add_assoc _ _ _))⟩)))
             repeat (go_quiet (fail); try go_wp2_with (fail))
             (first | go_roundg k2 | (refine Handed.intro k2 ?measure ?_; rotate_left; go_step; (try simp only [add_plain]); (repeat apply Exists.intro); refine ⟨?rel, rfl⟩))
             case measure => have := HK1.out; have := HK2.out; omega
             case rel => exact ⟨(wrap64 (x10_2 + 1)), (wrap64 (x11_2 + 1)), rS, rS, H', ⟨by have := HK1.out; have := HK2.out; omega⟩, ⟨rU HO_5.out⟩, ⟨rU HO_6.out⟩, ⟨sU HO_8.out⟩, ⟨kU BK459.out⟩, ⟨bU1 HB.out GE459.out⟩⟩
            ·
             replace c22 := Bool.eq_false_iff.mpr c22; subst c22
             have H1 : (spec_l7Sides.l1 k2 l1 t460 t463 x7_1 t466 x9_1 x10_2 (wrap64 (x11_2 + 1)) l0_0 l0_1) = some r := by rw [if_neg (show ¬ (false = true) by decide)] at H; exact H
             clear H; have H := H1; clear H1; have H' := Az H; clear H; have p469 : 0 ≤ (x9_1 : Int) := oA; have q469 : x9_1 < (t466.length : Int) := oA; obtain ⟨ad469, A469_0, c469_0, e469, hx469_0, hl469_0, hi469_0⟩ := at_L1 (Kd.S_reads' HO_8.out).2.2 x9_1 p469 q469
             cases e469
             obtain ⟨ce469, hce469, hMe469, hcc469⟩ := Kd.S_get HO_8.out [] x9_1 p469 (by first | exact q469 | exact oA | (have e_ := (Kd.S_reads' HO_8.out).1; omega)); obtain ⟨ve469_0, rfl, ge469_0⟩ := hMe469; have hv469_0 := hcc469 0 _ rfl; rw [Nat.add_zero, show ((Kd.slice 3 (Kd.int .i64))).sz = 1 from rfl, Nat.mul_one] at hv469_0; replace hv469_0 := Option.some.inj (hv469_0.symm.trans hx469_0); rw [hv469_0] at ge469_0; have HL469_0 := Az (show Kd.R (Kd.int .i64) 3 _ _ _ _ (rd_L1 t466 x9_1) from ge469_0); clear hv469_0 ge469_0 hcc469 hce469; have HR469_0 := Az hi469_0; have HC469_0 := Az hl469_0; clear hi469_0 hl469_0; replace p469 := eq_true p469; replace q469 := eq_true q469; have p470 : 0 ≤ (x9_1 : Int) := oA; have q470 : x9_1 < (t466.length : Int) := oA; obtain ⟨ad470, A470_0, c470_0, e470, hx470_0, hl470_0, hi470_0⟩ := at_L1 (Kd.S_reads' HO_8.out).2.2 x9_1 p470 q470; obtain rfl : ad469 = ad470 := (by injection e470); obtain ⟨ce470, hce470, hMe470, hcc470⟩ := Kd.S_get HO_8.out [] x9_1 p470 (by first | exact q470 | exact oA | (have e_ := (Kd.S_reads' HO_8.out).1; omega)); obtain ⟨ve470_0, rfl, ge470_0⟩ := hMe470; have hv470_0 := hcc470 0 _ rfl; rw [Nat.add_zero, show ((Kd.slice 3 (Kd.int .i64))).sz = 1 from rfl, Nat.mul_one] at hv470_0; replace hv470_0 := Option.some.inj (hv470_0.symm.trans hx470_0); rw [hv470_0] at ge470_0; have HL470_0 := Az (show Kd.R (Kd.int .i64) 3 _ _ _ _ (rd_L1 t466 x9_1) from ge470_0); clear hv470_0 ge470_0 hcc470 hce470; have HR470_0 := Az hi470_0; have HC470_0 := Az hl470_0; clear hi470_0 hl470_0; replace p470 := eq_true p470; replace q470 := eq_true q470; have ea_ := Option.some.inj (hx469_0.symm.trans hx470_0); injection ea_ with ea_ en_ ec_; subst ea_; subst ec_; clear en_; have p471 : 0 ≤ (x11_2 : Int) := oA; have q471 : x11_2 < ((rd_L1 t466 x9_1).length : Int) := oA; obtain ⟨ad471, e471, hx471_0⟩ := Kd.at_int (by repeat (first | (with_reducible exact HR470_0.out) | (with_reducible refine Kd.C_alloc ?_ _) | (with_reducible refine Kd.C_drewN ?_ _) | (with_reducible refine Kd.C_drew ?_) | exact HR470_0.out)) x11_2 p471 q471
             cases e471
             replace p471 := eq_true p471; replace q471 := eq_true q471; obtain ⟨Ao24, co24, eo24⟩ := Kd.R_slice HO_5.out; subst eo24; have p472 : 0 ≤ ((rd (rd_L1 t466 x9_1) x11_2) : Int) := oA; have q472 : (rd (rd_L1 t466 x9_1) x11_2) < (t460.length : Int) := oA; obtain ⟨ad472, e472, hx472_0⟩ := Kd.at_int (Kd.R_reads' HO_5.out).2.2 (rd (rd_L1 t466 x9_1) x11_2) p472 q472
             cases e472
             replace p472 := eq_true p472; replace q472 := eq_true q472
             go_wp2_with (first | (go_at_call 67; (with_reducible refine (spec_l7Has.calls k2 _ _ l1 (rd t460 (rd (rd_L1 t466 x9_1) x11_2)) false _ ?side1 ?side2 A21.out).mono ?_); (case side1 => exact cU (Kd.C_below HR1.out HB.out)); (case side2 => exact HC1.out); rintro e w' ⟨rfl, ⟨nd, rfl⟩⟩; (try first | exact ⟨rfl, _, World.drewN_drewN _ _ _⟩ | exact ⟨rfl, _, Eq.trans (World.drewN_drewN _ _ _) (congrArg (World.drewN _) (Nat.add_assoc _ _ _))⟩)))
             repeat (go_quiet (fail); try go_wp2_with (fail))
             (first | go_roundg k2 | (refine Handed.intro k2 ?measure ?_; rotate_left; go_step; (try simp only [add_plain]); (repeat apply Exists.intro); refine ⟨?rel, rfl⟩))
             case measure => have := HK1.out; have := HK2.out; omega
             case rel => exact ⟨(x10_2), (wrap64 (x11_2 + 1)), rS, rS, H', ⟨by have := HK1.out; have := HK2.out; omega⟩, ⟨rU HO_5.out⟩, ⟨rU HO_6.out⟩, ⟨sU HO_8.out⟩, ⟨kU BK459.out⟩, ⟨bU1 HB.out GE459.out⟩⟩
           ·
            rw [if_neg c20] at H
            exact absurd H (by simp)
          ·
           rw [if_neg c19] at H
           exact absurd H (by simp)
         ·
          rw [if_neg c18] at H
          exact absurd H (by simp)
        ·
         rw [if_neg c17] at H; have c17b0 := decide_eq_false c17; clear c17
         by_cases c25 : x10_2 = 0
         ·
          rw [if_pos c25] at H; have c25b0 := beq_iff_eq.mpr c25; have c25b1 := bne_eq_false_iff_eq.mpr c25; clear c25; have H' := Az H; clear H; have p469 : 0 ≤ (x9_1 : Int) := oA; have q469 : x9_1 < (t466.length : Int) := oA; obtain ⟨ad469, A469_0, c469_0, e469, hx469_0, hl469_0, hi469_0⟩ := at_L1 (Kd.S_reads' HO_8.out).2.2 x9_1 p469 q469
          cases e469
          obtain ⟨ce469, hce469, hMe469, hcc469⟩ := Kd.S_get HO_8.out [] x9_1 p469 (by first | exact q469 | exact oA | (have e_ := (Kd.S_reads' HO_8.out).1; omega)); obtain ⟨ve469_0, rfl, ge469_0⟩ := hMe469; have hv469_0 := hcc469 0 _ rfl; rw [Nat.add_zero, show ((Kd.slice 3 (Kd.int .i64))).sz = 1 from rfl, Nat.mul_one] at hv469_0; replace hv469_0 := Option.some.inj (hv469_0.symm.trans hx469_0); rw [hv469_0] at ge469_0; have HL469_0 := Az (show Kd.R (Kd.int .i64) 3 _ _ _ _ (rd_L1 t466 x9_1) from ge469_0); clear hv469_0 ge469_0 hcc469 hce469; have HR469_0 := Az hi469_0; have HC469_0 := Az hl469_0; clear hi469_0 hl469_0; replace p469 := eq_true p469; replace q469 := eq_true q469
          go_wp2
          repeat (go_quiet (fail); try go_wp2)
          (first | go_roundg k2 | (refine Handed.intro k2 ?measure ?_; rotate_left; go_step; (try simp only [add_plain]); (repeat apply Exists.intro); refine ⟨?rel, rfl⟩))
          case measure => have := HK1.out; have := HK2.out; omega
          case rel => exact ⟨(wrap64 (x7_1 + 1)), (wrap64 (x9_1 + 1)), rS, rS, H', ⟨by have := HK1.out; have := HK2.out; omega⟩, ⟨rU HO_5.out⟩, ⟨rU HO_6.out⟩, ⟨sU HO_8.out⟩, ⟨kU BK459.out⟩, ⟨bU1 HB.out GE459.out⟩⟩
         ·
          rw [if_neg c25] at H; have c25b0 := beq_eq_false_iff_ne.mpr c25; have c25b1 := bne_iff_ne.mpr c25; have H' := Az H; clear H; have p469 : 0 ≤ (x9_1 : Int) := oA; have q469 : x9_1 < (t466.length : Int) := oA; obtain ⟨ad469, A469_0, c469_0, e469, hx469_0, hl469_0, hi469_0⟩ := at_L1 (Kd.S_reads' HO_8.out).2.2 x9_1 p469 q469
          cases e469
          obtain ⟨ce469, hce469, hMe469, hcc469⟩ := Kd.S_get HO_8.out [] x9_1 p469 (by first | exact q469 | exact oA | (have e_ := (Kd.S_reads' HO_8.out).1; omega)); obtain ⟨ve469_0, rfl, ge469_0⟩ := hMe469; have hv469_0 := hcc469 0 _ rfl; rw [Nat.add_zero, show ((Kd.slice 3 (Kd.int .i64))).sz = 1 from rfl, Nat.mul_one] at hv469_0; replace hv469_0 := Option.some.inj (hv469_0.symm.trans hx469_0); rw [hv469_0] at ge469_0; have HL469_0 := Az (show Kd.R (Kd.int .i64) 3 _ _ _ _ (rd_L1 t466 x9_1) from ge469_0); clear hv469_0 ge469_0 hcc469 hce469; have HR469_0 := Az hi469_0; have HC469_0 := Az hl469_0; clear hi469_0 hl469_0; replace p469 := eq_true p469; replace q469 := eq_true q469
          go_wp2
          repeat (go_quiet (fail); try go_wp2)
          (first | go_roundg k2 | (refine Handed.intro k2 ?measure ?_; rotate_left; go_step; (try simp only [add_plain]); (repeat apply Exists.intro); refine ⟨?rel, rfl⟩))
          case measure => have := HK1.out; have := HK2.out; omega
          case rel => exact ⟨(x7_1), (wrap64 (x9_1 + 1)), rS, rS, H', ⟨by have := HK1.out; have := HK2.out; omega⟩, ⟨rU HO_5.out⟩, ⟨rU HO_6.out⟩, ⟨sU HO_8.out⟩, ⟨kU BK459.out⟩, ⟨bU1 HB.out GE459.out⟩⟩
       ·
        rw [if_neg c16] at H
        exact absurd H (by simp)
      ·
       rw [if_neg c15] at H
       exact absurd H (by simp)
   ·
    rw [if_neg c13] at H; have c13b0 := decide_eq_false c13; clear c13; have H' := Az H; clear H; obtain ⟨Ao26, co26, eo26⟩ := Kd.S_slice HO_8.out; subst eo26
    go_wp2
    repeat (go_quiet (fail); try go_wp2)
    go_loopg [12] k1 (fun kq v12 w' => ∃ (x6_2 : List Int) (x12_2 : Int), v12 = .int .i64 x12_2 ∧ Aside0 (spec_l7Sides.l2 kq l1 t460 x6_2 x7_1 x12_2 l0_0 l0_1 = some r) ∧ Aside0 (kq ≤ k1) ∧ Aside0 (Kd.R (Kd.int .i64) 3 w' w.heap.size (fun k_ => some k_ ≠ (v464 : Value).ownBlock) v461 t460) ∧ Aside0 (Kd.R (Kd.int .i64) 3 w' w.heap.size (fun k_ => some k_ ≠ (v461 : Value).ownBlock) v464 x6_2) ∧ Aside0 (w'.heap[gb459]? = some (.cells #[(.slice A0_0 l0_0.length c0_0), (.slice A0_1 l0_1.length c0_1)] 25 (0, 0))) ∧ Aside0 (Below w.heap.size w w'))
    case atStart => exact ⟨(t463), (0), rS, H', ⟨Nat.le_refl _⟩, ⟨rU HO_5.out⟩, ⟨rU HO_6.out⟩, ⟨kU BK459.out⟩, ⟨bU1 HB.out GE459.out⟩⟩
    case round =>
     clear H'; (try clear c1); (try clear c2); (try clear p2); (try clear c4); (try clear p4); (try clear q4); (try clear hx4); (try clear p6); (try clear c10); (try clear c13); (try clear c13b0); (try clear c15); (try clear c15b0); (try clear c16); (try clear c16b0); (try clear c17); (try clear c17b0); (try clear c18); (try clear c18b0); (try clear c19); (try clear c19b0); (try clear c20); (try clear c20b0); (try clear c22); (try clear c25); (try clear c25b0); (try clear c25b1); (try clear hcz11_0); (try clear hcz11_1); (try clear hcz7_0); (try clear hcz7_1); (try clear hcz9_0); (try clear hcz9_1); (try clear hfz11_0); (try clear hfz11_1); (try clear hfz7_0); (try clear hfz7_1); (try clear hfz9_0); (try clear hfz9_1); (try clear hx469_0); (try clear hx470_0); (try clear hx471_0); (try clear hx472_0); (try clear p2); (try clear p469); (try clear p470); (try clear p471); (try clear p472); (try clear q469); (try clear q470); (try clear q471); (try clear q472); obtain ⟨x6_2, x12_2, rfl, HA, HK2, HO_5, HO_6, BK459, HB⟩ := hrel
     cases gk with
     | zero => exact absurd HA.out (by simp [spec_l7Sides.l2])
     | succ k2 =>
      have H := HA.out; clear HA; simp only [spec_l7Sides.l2] at H
      by_cases c27 : x12_2 < (x6_2.length : Int)
      ·
       rw [if_pos c27] at H; have c27b0 := decide_eq_true c27; clear c27
       by_cases c28 : 0 ≤ x12_2
       ·
        rw [if_pos c28] at H; have c28b0 := decide_eq_true c28; clear c28
        by_cases c29 : x12_2 < (t460.length : Int)
        ·
         rw [if_pos c29] at H; have c29b0 := decide_eq_true c29; clear c29; replace H := Option.bind_eq_some_iff.mp H; obtain ⟨t478, A300, H⟩ := H; replace H : (if t478 = true then (if x12_2 < (l0_1.length : Int) then (if 0 ≤ (rd l0_1 x12_2) then (if (rd l0_1 x12_2) < (l0_0.length : Int) then (spec_l7Sides.l3 k2 l1 t460 x6_2 x7_1 x12_2 (rd l0_0 (rd l0_1 x12_2)) l0_0 l0_1) else (none)) else (none)) else (none)) else (spec_l7Sides.l2 k2 l1 t460 x6_2 x7_1 (wrap64 (x12_2 + 1)) l0_0 l0_1)) = some r := H; have A30 := Az A300; clear A300
         by_cases c31 : t478 = true
         ·
          subst c31
          have H1 : (if x12_2 < (l0_1.length : Int) then (if 0 ≤ (rd l0_1 x12_2) then (if (rd l0_1 x12_2) < (l0_0.length : Int) then (spec_l7Sides.l3 k2 l1 t460 x6_2 x7_1 x12_2 (rd l0_0 (rd l0_1 x12_2)) l0_0 l0_1) else (none)) else (none)) else (none)) = some r := by rw [if_pos rfl] at H; exact H
          clear H; have H := H1; clear H1
          by_cases c32 : x12_2 < (l0_1.length : Int)
          ·
           rw [if_pos c32] at H; have c32b0 := decide_eq_true c32; clear c32
           by_cases c33 : 0 ≤ (rd l0_1 x12_2)
           ·
            rw [if_pos c33] at H; have c33b0 := decide_eq_true c33; clear c33
            by_cases c34 : (rd l0_1 x12_2) < (l0_0.length : Int)
            ·
             rw [if_pos c34] at H; have c34b0 := decide_eq_true c34; clear c34; have H' := Az H; clear H; obtain ⟨Ao35, co35, eo35⟩ := Kd.R_slice HO_6.out; subst eo35; obtain ⟨Ao36, co36, eo36⟩ := Kd.R_slice HO_5.out; subst eo36; have p477 : 0 ≤ (x12_2 : Int) := oA; have q477 : x12_2 < (t460.length : Int) := oA; obtain ⟨ad477, e477, hx477_0⟩ := Kd.at_int (Kd.R_reads' HO_5.out).2.2 x12_2 p477 q477
             cases e477
             replace p477 := eq_true p477; replace q477 := eq_true q477
             go_wp2_with (first | (go_at_call 67; (with_reducible refine (spec_l7Has.calls k2 _ _ l1 (rd t460 x12_2) true _ ?side1 ?side2 A30.out).mono ?_); (case side1 => exact cU (Kd.C_below HR1.out HB.out)); (case side2 => exact HC1.out); rintro e w' ⟨rfl, ⟨nd, rfl⟩⟩; (try first | exact ⟨rfl, _, World.drewN_drewN _ _ _⟩ | exact ⟨rfl, _, Eq.trans (World.drewN_drewN _ _ _) (congrArg (World.drewN _) (Nat.add_assoc _ _ _))⟩); have hcz37_0 : wr.cell? ⟨gb459, 0, none⟩ = some (.slice A0_0 l0_0.length c0_0) := (blk_cell BK459.out 0).trans rfl; have hcz37_1 : wr.cell? ⟨gb459, 1, none⟩ = some (.slice A0_1 l0_1.length c0_1) := (blk_cell BK459.out 1).trans rfl; have hfz37_0 := blk_frozen BK459.out 0; have hfz37_1 := blk_frozen BK459.out 1; have p479 : 0 ≤ (x12_2 : Int) := oA; have q479 : x12_2 < (l0_1.length : Int) := oA; obtain ⟨ad479, e479, hx479_0⟩ := Kd.at_int HR0_1.out x12_2 p479 q479; cases e479; replace hx479_0 := (HB.out.cell (World.block_lt_of_cell? w _ hx479_0)).trans hx479_0; replace p479 := eq_true p479; replace q479 := eq_true q479; have p480 : 0 ≤ ((rd l0_1 x12_2) : Int) := oA; have q480 : (rd l0_1 x12_2) < (l0_0.length : Int) := oA; obtain ⟨ad480, e480, hx480_0⟩ := Kd.at_int HR0_0.out (rd l0_1 x12_2) p480 q480; cases e480; replace hx480_0 := (HB.out.cell (World.block_lt_of_cell? w _ hx480_0)).trans hx480_0; replace p480 := eq_true p480; replace q480 := eq_true q480))
             repeat (go_quiet (fail); try go_wp2_with (fail))
             go_loopg [13] k2 (fun kq v13 w' => ∃ (x13_3 : Int), v13 = .int .i64 x13_3 ∧ Aside0 (spec_l7Sides.l3 kq l1 t460 x6_2 x7_1 x12_2 x13_3 l0_0 l0_1 = some r) ∧ Aside0 (kq ≤ k2) ∧ Aside0 (Kd.R (Kd.int .i64) 3 w' w.heap.size (fun k_ => some k_ ≠ ((.slice Ao35 x6_2.length co35) : Value).ownBlock) (.slice (some ad477) t460.length co36) t460) ∧ Aside0 (Kd.R (Kd.int .i64) 3 w' w.heap.size (fun k_ => some k_ ≠ ((.slice (some ad477) t460.length co36) : Value).ownBlock) (.slice Ao35 x6_2.length co35) x6_2) ∧ Aside0 (w'.heap[gb459]? = some (.cells #[(.slice (some ad480) l0_0.length c0_0), (.slice (some ad479) l0_1.length c0_1)] 25 (0, 0))) ∧ Aside0 (Below w.heap.size w w'))
             case atStart => exact ⟨(rd l0_0 (rd l0_1 x12_2)), rS, H', ⟨Nat.le_refl _⟩, ⟨rU HO_5.out⟩, ⟨rU HO_6.out⟩, ⟨kU BK459.out⟩, ⟨bU1 HB.out GE459.out⟩⟩
             case round =>
              clear H'; (try clear c1); (try clear c2); (try clear p2); (try clear c3); (try clear c4); (try clear p4); (try clear q4); (try clear hx4); (try clear p6); (try clear c10); (try clear c13); (try clear c13b0); (try clear c15); (try clear c15b0); (try clear c16); (try clear c16b0); (try clear c17); (try clear c17b0); (try clear c18); (try clear c18b0); (try clear c19); (try clear c19b0); (try clear c20); (try clear c20b0); (try clear c22); (try clear c25); (try clear c25b0); (try clear c25b1); (try clear c27); (try clear c27b0); (try clear c28); (try clear c28b0); (try clear c29); (try clear c29b0); (try clear c31); (try clear c32); (try clear c32b0); (try clear c33); (try clear c33b0); (try clear c34); (try clear c34b0); (try clear hcz11_0); (try clear hcz11_1); (try clear hcz37_0); (try clear hcz37_1); (try clear hcz7_0); (try clear hcz7_1); (try clear hcz9_0); (try clear hcz9_1); (try clear hfz11_0); (try clear hfz11_1); (try clear hfz37_0); (try clear hfz37_1); (try clear hfz7_0); (try clear hfz7_1); (try clear hfz9_0); (try clear hfz9_1); (try clear hx469_0); (try clear hx470_0); (try clear hx471_0); (try clear hx472_0); (try clear hx477_0); (try clear hx479_0); (try clear hx480_0); (try clear p2); (try clear p4); (try clear p469); (try clear p470); (try clear p471); (try clear p472); (try clear p477); (try clear p479); (try clear p480); (try clear p6); (try clear q4); (try clear q469); (try clear q470); (try clear q471); (try clear q472); (try clear q477); (try clear q479); (try clear q480); obtain ⟨x13_3, rfl, HA, HK3, HO_5, HO_6, BK459, HB⟩ := hrel
              cases gk with
              | zero => exact absurd HA.out (by simp [spec_l7Sides.l3])
              | succ k3 =>
               have H := HA.out; clear HA; simp only [spec_l7Sides.l3] at H
               by_cases c38 : 0 ≤ x13_3
               ·
                rw [if_pos c38] at H; have c38b0 := decide_eq_true c38; clear c38
                by_cases c39 : x13_3 < (t460.length : Int)
                ·
                 rw [if_pos c39] at H; have c39b0 := decide_eq_true c39; clear c39; replace H := Option.bind_eq_some_iff.mp H; obtain ⟨t482, A400, H⟩ := H; replace H : (if t482 = true then (if 0 ≤ x12_2 then (if x12_2 < (x6_2.length : Int) then (spec_l7Sides.l2 k3 l1 t460 (x6_2.set (x12_2 : Int).toNat x13_3) x7_1 (wrap64 (x12_2 + 1)) l0_0 l0_1) else (none)) else (none)) else (if x13_3 < (l0_0.length : Int) then (spec_l7Sides.l3 k3 l1 t460 x6_2 x7_1 x12_2 (rd l0_0 x13_3) l0_0 l0_1) else (none))) = some r := H; have A40 := Az A400; clear A400
                 by_cases c41 : t482 = true
                 ·
                  subst c41
                  have H1 : (if 0 ≤ x12_2 then (if x12_2 < (x6_2.length : Int) then (spec_l7Sides.l2 k3 l1 t460 (x6_2.set (x12_2 : Int).toNat x13_3) x7_1 (wrap64 (x12_2 + 1)) l0_0 l0_1) else (none)) else (none)) = some r := by rw [if_pos rfl] at H; exact H
                  clear H; have H := H1; clear H1
                  by_cases c42 : 0 ≤ x12_2
                  ·
                   rw [if_pos c42] at H; have c42b0 := decide_eq_true c42; clear c42
                   by_cases c43 : x12_2 < (x6_2.length : Int)
                   ·
                    rw [if_pos c43] at H; have c43b0 := decide_eq_true c43; clear c43; obtain ⟨y483, hy483⟩ : ∃ y_ : List Int, y_ = (x6_2.set (x12_2 : Int).toNat x13_3) := ⟨_, rfl⟩; replace H : (spec_l7Sides.l2 k3 l1 t460 y483 x7_1 (wrap64 (x12_2 + 1)) l0_0 l0_1) = some r := hR hy483 H; have Ny483 := Az hy483; clear hy483; have H' := Az H; clear H; have p481 : 0 ≤ (x13_3 : Int) := oA; have q481 : x13_3 < (t460.length : Int) := oA; obtain ⟨ad481, e481, hx481_0⟩ := Kd.at_int (Kd.R_reads' HO_5.out).2.2 x13_3 p481 q481; obtain rfl : ad477 = ad481 := (by injection e481); replace p481 := eq_true p481; replace q481 := eq_true q481
                    go_wp2_with (first | (go_at_call 67; (with_reducible refine (spec_l7Has.calls k3 _ _ l1 (rd t460 x13_3) true _ ?side1 ?side2 A40.out).mono ?_); (case side1 => exact cU (Kd.C_below HR1.out HB.out)); (case side2 => exact HC1.out); rintro e w' ⟨rfl, ⟨nd, rfl⟩⟩; (try first | exact ⟨rfl, _, World.drewN_drewN _ _ _⟩ | exact ⟨rfl, _, Eq.trans (World.drewN_drewN _ _ _) (congrArg (World.drewN _) (Nat.add_assoc _ _ _))⟩); have p44 : 0 ≤ (x12_2 : Int) := oA; have q44 : (x12_2 : Int) < ((x6_2.length : Int) : Int) := oA; obtain ⟨go44, co44, eo44, gb44, gl44, cl44, HG44⟩ := Kd.R_form HO_6.out (by omega); (first | cases eo44 | (injection eo44 with ea_ en_ ec_; (first | subst ea_ | (injection ea_ with ea_; subst ea_)); subst ec_; clear en_)); have GB44 := Az gb44; have GG44 := Az HG44; clear gb44 gl44 HG44; obtain ⟨hx44_0, hf44_0⟩ := Kd.R_celln 0 HO_6.out (x12_2 : Int) p44 q44; replace p44 := eq_true p44; replace q44 := eq_true q44; obtain ⟨hy45_, hz45_⟩ := Kd.R_celln 0 HO_6.out (x12_2 : Int) (oA) (oA); have HP45 := Kd.R_putg HO_6.out (x12_2 : Int) x13_3) | ((with_reducible refine gate_store (t := 3) (p := 92) rfl ?_); (try (rw [drewN_self wr]; generalize hq_ : World.drewN wr _ = wr; have n0 := Az (Kd.R_at hq_ HO_5.out); have n1 := Az (Kd.R_at hq_ HO_6.out); have n2 := Az (blk_at hq_ BK459.out); have n3 := Az (below_at hq_ HB.out); clear hq_ HO_5 HO_6 BK459 HB; have HO_5 := n0; have HO_6 := n1; have BK459 := n2; have HB := n3; clear n0 n1 n2 n3; (try (obtain ⟨hy45_, hz45_⟩ := Kd.R_celln 0 HO_6.out (x12_2 : Int) (oA) (oA))); (try (have HP45 := Kd.R_putg HO_6.out (x12_2 : Int) x13_3)))); refine store_event (t := 3) (p := 92) (v := ?vo_w46) (w1 := (wr.setCell ⟨go44, (x12_2 : Int).toNat, none⟩ (.int .i64 x13_3))) ?hg ?ho ?hn ?hr ?_; (case ho => rfl); (case hg => rfl); (case hn => rfl); (case hr => first | (go_simp; done) | (go_simp; rfl)); intro w46 hw; have hg : wr.grownBy w46 (some go44) := (by rw [hw]; exact HP45.2); have hp_ : Kd.R (Kd.int .i64) 3 w46 w.heap.size (fun k_ => some k_ ≠ (.slice (some ad477) t460.length co36 : Value).ownBlock) (.slice (some ⟨go44, 0, none⟩) x6_2.length co35) y483 := (by rw [hw, Ny483.out]; exact HP45.1); clear HP45; have n0 := Az (Kd.R_after (v := (.slice (some ⟨go44, 0, none⟩) x6_2.length co35)) (v1 := (.slice (some ⟨go44, 0, none⟩) x6_2.length co35)) (ok := (fun _ => True)) (by (with_reducible repeat (first | apply Kd.R_alloc | apply Kd.R_drewN | apply Kd.R_drew)); exact Kd.R_mono HO_5.out (fun _ hk => ⟨trivial, hk⟩)) hg (.inl rfl)); have n1 := Az (hp_); have n2 := Az (blk_grown (g := gb459) (o := .cells #[.slice (some ad480) l0_0.length c0_0, .slice (some ad479) l0_1.length c0_1] 25 (0, 0)) (kU BK459.out) hg (Kd.R_ne HO_6.out BK459.out (by decide))); have n3 := Az ((by rw [hw]; exact below_set (HB.out) GB44.out : Below w.heap.size w w46)); clear HO_5 HO_6 BK459 HB; have HO_5 := n0; have HO_6 := n1; have BK459 := n2; have HB := n3; clear n0 n1 n2 n3; clear hg hw hp_))
                    repeat (go_quiet (fail); try go_wp2_with (fail))
                    (first | go_roundg k3 | (refine Handed.intro k3 ?measure ?_; rotate_left; go_step; (try simp only [add_plain]); (repeat apply Exists.intro); refine ⟨?rel, rfl⟩))
                    case measure => have := HK1.out; have := HK2.out; have := HK3.out; omega
                    case rel => exact ⟨(y483), (wrap64 (x12_2 + 1)), rS, H', ⟨by have := HK1.out; have := HK2.out; have := HK3.out; omega⟩, ⟨by (with_reducible repeat (first | apply Kd.R_alloc | apply Kd.R_drewN | apply Kd.R_drew)); exact Kd.R_mono HO_5.out (fun _ hk => hk.2)⟩, ⟨rU HO_6.out⟩, ⟨kU BK459.out⟩, ⟨bU1 HB.out GE459.out⟩⟩
                   ·
                    rw [if_neg c43] at H
                    exact absurd H (by simp)
                  ·
                   rw [if_neg c42] at H
                   exact absurd H (by simp)
                 ·
                  replace c41 := Bool.eq_false_iff.mpr c41; subst c41
                  have H1 : (if x13_3 < (l0_0.length : Int) then (spec_l7Sides.l3 k3 l1 t460 x6_2 x7_1 x12_2 (rd l0_0 x13_3) l0_0 l0_1) else (none)) = some r := by rw [if_neg (show ¬ (false = true) by decide)] at H; exact H
                  clear H; have H := H1; clear H1
                  by_cases c47 : x13_3 < (l0_0.length : Int)
                  ·
                   rw [if_pos c47] at H; have c47b0 := decide_eq_true c47; clear c47; have H' := Az H; clear H; have p481 : 0 ≤ (x13_3 : Int) := oA; have q481 : x13_3 < (t460.length : Int) := oA; obtain ⟨ad481, e481, hx481_0⟩ := Kd.at_int (Kd.R_reads' HO_5.out).2.2 x13_3 p481 q481; obtain rfl : ad477 = ad481 := (by injection e481); replace p481 := eq_true p481; replace q481 := eq_true q481
                   go_wp2_with (first | (go_at_call 67; (with_reducible refine (spec_l7Has.calls k3 _ _ l1 (rd t460 x13_3) false _ ?side1 ?side2 A40.out).mono ?_); (case side1 => exact cU (Kd.C_below HR1.out HB.out)); (case side2 => exact HC1.out); rintro e w' ⟨rfl, ⟨nd, rfl⟩⟩; (try first | exact ⟨rfl, _, World.drewN_drewN _ _ _⟩ | exact ⟨rfl, _, Eq.trans (World.drewN_drewN _ _ _) (congrArg (World.drewN _) (Nat.add_assoc _ _ _))⟩); have hcz48_0 : wr.cell? ⟨gb459, 0, none⟩ = some (.slice (some ad480) l0_0.length c0_0) := (blk_cell BK459.out 0).trans rfl; have hcz48_1 : wr.cell? ⟨gb459, 1, none⟩ = some (.slice (some ad479) l0_1.length c0_1) := (blk_cell BK459.out 1).trans rfl; have hfz48_0 := blk_frozen BK459.out 0; have hfz48_1 := blk_frozen BK459.out 1; have p484 : 0 ≤ (x13_3 : Int) := oA; have q484 : x13_3 < (l0_0.length : Int) := oA; obtain ⟨ad484, e484, hx484_0⟩ := Kd.at_int HR0_0.out x13_3 p484 q484; obtain rfl : ad480 = ad484 := (by injection e484); replace hx484_0 := (HB.out.cell (World.block_lt_of_cell? w _ hx484_0)).trans hx484_0; replace p484 := eq_true p484; replace q484 := eq_true q484))
                   repeat (go_quiet (fail); try go_wp2_with (fail))
                   (first | go_roundg k3 | (refine Handed.intro k3 ?measure ?_; rotate_left; go_step; (try simp only [add_plain]); (repeat apply Exists.intro); refine ⟨?rel, rfl⟩))
                   case measure => have := HK1.out; have := HK2.out; have := HK3.out; omega
                   case rel => exact ⟨(rd l0_0 x13_3), rS, H', ⟨by have := HK1.out; have := HK2.out; have := HK3.out; omega⟩, ⟨rU HO_5.out⟩, ⟨rU HO_6.out⟩, ⟨kU BK459.out⟩, ⟨bU1 HB.out GE459.out⟩⟩
                  ·
                   rw [if_neg c47] at H
                   exact absurd H (by simp)
                ·
                 rw [if_neg c39] at H
                 exact absurd H (by simp)
               ·
                rw [if_neg c38] at H
                exact absurd H (by simp)
            ·
             rw [if_neg c34] at H
             exact absurd H (by simp)
           ·
            rw [if_neg c33] at H
            exact absurd H (by simp)
          ·
           rw [if_neg c32] at H
           exact absurd H (by simp)
         ·
          replace c31 := Bool.eq_false_iff.mpr c31; subst c31
          have H1 : (spec_l7Sides.l2 k2 l1 t460 x6_2 x7_1 (wrap64 (x12_2 + 1)) l0_0 l0_1) = some r := by rw [if_neg (show ¬ (false = true) by decide)] at H; exact H
          clear H; have H := H1; clear H1; have H' := Az H; clear H; obtain ⟨Ao49, co49, eo49⟩ := Kd.R_slice HO_6.out; subst eo49; obtain ⟨Ao50, co50, eo50⟩ := Kd.R_slice HO_5.out; subst eo50; have p477 : 0 ≤ (x12_2 : Int) := oA; have q477 : x12_2 < (t460.length : Int) := oA; obtain ⟨ad477, e477, hx477_0⟩ := Kd.at_int (Kd.R_reads' HO_5.out).2.2 x12_2 p477 q477
          cases e477
          replace p477 := eq_true p477; replace q477 := eq_true q477
          go_wp2_with (first | (go_at_call 67; (with_reducible refine (spec_l7Has.calls k2 _ _ l1 (rd t460 x12_2) false _ ?side1 ?side2 A30.out).mono ?_); (case side1 => exact cU (Kd.C_below HR1.out HB.out)); (case side2 => exact HC1.out); rintro e w' ⟨rfl, ⟨nd, rfl⟩⟩; (try first | exact ⟨rfl, _, World.drewN_drewN _ _ _⟩ | exact ⟨rfl, _, Eq.trans (World.drewN_drewN _ _ _) (congrArg (World.drewN _) (Nat.add_assoc _ _ _))⟩)))
          repeat (go_quiet (fail); try go_wp2_with (fail))
          (first | go_roundg k2 | (refine Handed.intro k2 ?measure ?_; rotate_left; go_step; (try simp only [add_plain]); (repeat apply Exists.intro); refine ⟨?rel, rfl⟩))
          case measure => have := HK1.out; have := HK2.out; omega
          case rel => exact ⟨(x6_2), (wrap64 (x12_2 + 1)), rS, H', ⟨by have := HK1.out; have := HK2.out; omega⟩, ⟨rU HO_5.out⟩, ⟨rU HO_6.out⟩, ⟨kU BK459.out⟩, ⟨bU1 HB.out GE459.out⟩⟩
        ·
         rw [if_neg c29] at H
         exact absurd H (by simp)
       ·
        rw [if_neg c28] at H
        exact absurd H (by simp)
      ·
       rw [if_neg c27] at H; have c27b0 := decide_eq_false c27; clear c27; replace H := Option.bind_eq_some_iff.mp H; obtain ⟨t474, A510, H⟩ := H; replace H : (some (wrap64 ((wrap64 ((t474.length : Int) - (wrap64 ((x6_2.length : Int) - (wrap64 (2 * (l1.length : Int))))))) + x7_1))) = some r := H; have A51 := Az A510; clear A510; obtain rfl := Option.some.inj H; obtain ⟨Ao52, co52, eo52⟩ := Kd.R_slice HO_6.out; subst eo52
       go_wp2_with (first | (go_at_call 81; (with_reducible refine (spec_l1Cycles.calls k2 _ _ x6_2 t474 _ ?side1 ?side2 A51.out).mono ?_); (case side1 => exact cU ((Kd.R_reads' HO_6.out).2.2)); (case side2 => exact (Kd.R_reads' HO_6.out).2.1); rintro e w53 ⟨v475, rfl, ho0, hb⟩; have n0 := Az (Kd.R_below (rU HO_5.out) hb); have n1 := Az (Kd.R_below (rU HO_6.out) hb); have n2 := Az (Kd.S_lower (Kd.S_new' (Kd.S_new' ho0 (Kd.R_lt (rU HO_5.out))) (Kd.R_lt (rU HO_6.out))) (below_size (bU1 HB.out GE459.out))); have n3 := Az (blk_below (g := gb459) (o := .cells #[.slice A0_0 l0_0.length c0_0, .slice A0_1 l0_1.length c0_1] 25 (0, 0)) (kU BK459.out) hb); have n4 := Az (below_step (bU1 HB.out GE459.out) hb); clear HO_5 HO_6 BK459 HB; have HO_5 := n0; have HO_6 := n1; have HO476 := n2; have BK459 := n3; have HB := n4; clear n0 n1 n2 n3 n4; (try clear hb); (try clear hb2); (try clear hk); (try clear hi); (try clear ho0); obtain ⟨Ao54, co54, eo54⟩ := Kd.S_slice HO476.out; subst eo54))
       repeat (go_quiet (fail); try go_wp2_with (fail))
       go_ret
       exact ⟨rE, bU1 HB.out GE459.out⟩
set_option maxHeartbeats 8000000 in
set_option maxRecDepth 100000 in
theorem spec_l7Counts.calls (k : Nat) (A0_0 : Option Addr) (c0_0 : Nat) (l0_0 : List Int) (A0_1 : Option Addr) (c0_1 : Nat) (l0_1 : List Int) (A1 : Option Addr) (c1 : Nat) (l1 : List Int) (r : List Int) (w : World) (hr0_0 : Kd.C (Kd.int .i64) w A0_0 l0_0.length l0_0) (hc0_0 : l0_0.length ≤ c0_0) (hr0_1 : Kd.C (Kd.int .i64) w A0_1 l0_1.length l0_1) (hc0_1 : l0_1.length ≤ c0_1) (hr1 : Kd.C (Kd.int .i64) w A1 l1.length l1) (hc1 : l1.length ≤ c1) (h : spec_l7Counts.f k l0_0 l0_1 l1 = some r) :
  Calls Try.prog 69 #[.agg #[.slice A0_0 l0_0.length c0_0, .slice A0_1 l0_1.length c0_1], .slice A1 l1.length c1] w fun e w' => ∃ v0_ : Value, e = .returned (v0_) ∧ Kd.R (Kd.int .i64) 3 w' w.heap.size (fun _ => True) v0_ r ∧ Below w.heap.size w w' := by
 have hu25 := Try.underlying25; have HR0_0 := Az hr0_0; have HC0_0 := Az hc0_0; clear hr0_0 hc0_0; have HR0_1 := Az hr0_1; have HC0_1 := Az hc0_1; clear hr0_1 hc0_1; have HR1 := Az hr1; have HC1 := Az hc1; clear hr1 hc1; have HB := Az (Below.refl w.heap.size w); have H : ((spec_l7Parts.f k l0_0 l0_1 l1).bind fun t486 => ((spec_l7Sides.f k l0_0 l0_1 l1).bind fun t487 => ((spec_l1Cycles.f k l0_0).bind fun t488 => (some (([t486, t487, wrap64 ((t488.length : Int) - t486), wrap64 ((l1.length : Int) - (wrap64 ((t488.length : Int) - t486))), wrap64 (Int.tdiv (wrap64 ((wrap64 ((wrap64 ((wrap64 (2 * t486)) - (t488.length : Int))) + (l1.length : Int))) - t487)) 2)] : List Int)))))) = some r := h; clear h; replace H := Option.bind_eq_some_iff.mp H; obtain ⟨t486, A30, H⟩ := H; replace H : ((spec_l7Sides.f k l0_0 l0_1 l1).bind fun t487 => ((spec_l1Cycles.f k l0_0).bind fun t488 => (some (([t486, t487, wrap64 ((t488.length : Int) - t486), wrap64 ((l1.length : Int) - (wrap64 ((t488.length : Int) - t486))), wrap64 (Int.tdiv (wrap64 ((wrap64 ((wrap64 ((wrap64 (2 * t486)) - (t488.length : Int))) + (l1.length : Int))) - t487)) 2)] : List Int))))) = some r := H; have A3 := Az A30; clear A30; replace H := Option.bind_eq_some_iff.mp H; obtain ⟨t487, A40, H⟩ := H; replace H : ((spec_l1Cycles.f k l0_0).bind fun t488 => (some (([t486, t487, wrap64 ((t488.length : Int) - t486), wrap64 ((l1.length : Int) - (wrap64 ((t488.length : Int) - t486))), wrap64 (Int.tdiv (wrap64 ((wrap64 ((wrap64 ((wrap64 (2 * t486)) - (t488.length : Int))) + (l1.length : Int))) - t487)) 2)] : List Int)))) = some r := H; have A4 := Az A40; clear A40; replace H := Option.bind_eq_some_iff.mp H; obtain ⟨t488, A50, H⟩ := H; replace H : (some (([t486, t487, wrap64 ((t488.length : Int) - t486), wrap64 ((l1.length : Int) - (wrap64 ((t488.length : Int) - t486))), wrap64 (Int.tdiv (wrap64 ((wrap64 ((wrap64 ((wrap64 (2 * t486)) - (t488.length : Int))) + (l1.length : Int))) - t487)) 2)] : List Int))) = some r := H; have A5 := Az A50; clear A50; obtain ⟨y491, hy491⟩ : ∃ y_ : List Int, y_ = (([t486, t487, wrap64 ((t488.length : Int) - t486), wrap64 ((l1.length : Int) - (wrap64 ((t488.length : Int) - t486))), wrap64 (Int.tdiv (wrap64 ((wrap64 ((wrap64 ((wrap64 (2 * t486)) - (t488.length : Int))) + (l1.length : Int))) - t487)) 2)] : List Int)) := ⟨_, rfl⟩; replace H : (some y491) = some r := hR hy491 H; have Ny491 := Az hy491; clear hy491; obtain rfl := Option.some.inj H
 go_enter Try.func69, Try.ntmps69
 go_wp2_with (first | ((with_reducible refine gate_dst (N := 2) rfl ?_); refine box_event ?hg (N := 2) ?hd (cs := #[.slice A0_0 l0_0.length c0_0, .slice A0_1 l0_1.length c0_1]) (t := 25) ?hr ?_; (case hd => rfl); (case hg => rfl); (case hr => first | (go_simp; done) | (go_simp; rfl)); intro gb485 hg w6 hbox hb; have n0 := Az (below_step (bU0 HB.out) hb); have n1 := Az (hbox); have n2 := Az ((by rw [hg]; exact (below_size (bU0 HB.out)) : w.heap.size ≤ gb485)); have n3 := n2; clear HB; have HB := n0; have BK485 := n1; have GW485 := n2; have GE485 := n3; clear n0 n1 n2 n3 hb hbox hg; have hcz7_0 : w6.cell? ⟨gb485, 0, none⟩ = some (.slice A0_0 l0_0.length c0_0) := (blk_cell BK485.out 0).trans rfl; have hcz7_1 : w6.cell? ⟨gb485, 1, none⟩ = some (.slice A0_1 l0_1.length c0_1) := (blk_cell BK485.out 1).trans rfl; have hfz7_0 := blk_frozen BK485.out 0; have hfz7_1 := blk_frozen BK485.out 1) | ((with_reducible refine gate_callee (f := 89) rfl ?_); refine goesL_ (some 11) rfl rfl Try.func89 (by kernel_rfl) rfl #[.agg #[.slice A0_0 l0_0.length c0_0, .slice A0_1 l0_1.length c0_1], .slice A1 l1.length c1] rfl (by (try simp only [List.map_toArray, List.map_cons, List.map_nil]); first | done | rfl | (simp only [List.length_drop, List.length_take]; rfl)) ?_; (with_reducible refine (spec_l7Parts.calls k _ _ l0_0 _ _ l0_1 _ _ l1 t486 _ ?side1 ?side2 ?side3 ?side4 ?side5 ?side6 A3.out).mono ?_); (case side1 => exact cU (Kd.C_below HR0_0.out HB.out)); (case side2 => exact HC0_0.out); (case side3 => exact cU (Kd.C_below HR0_1.out HB.out)); (case side4 => exact HC0_1.out); (case side5 => exact cU (Kd.C_below HR1.out HB.out)); (case side6 => exact HC1.out); rintro e w8 ⟨rfl, hb⟩; refine ⟨_, rfl, ?_⟩; have n0 := Az (blk_below (g := gb485) (o := .cells #[.slice A0_0 l0_0.length c0_0, .slice A0_1 l0_1.length c0_1] 25 (0, 0)) (kU BK485.out) hb); have n1 := Az (below_step (bU1 HB.out GE485.out) hb); clear BK485 HB; have BK485 := n0; have HB := n1; clear n0 n1; (try clear hb); (try clear hb2); (try clear hk); (try clear hi); have hcz9_0 : w8.cell? ⟨gb485, 0, none⟩ = some (.slice A0_0 l0_0.length c0_0) := (blk_cell BK485.out 0).trans rfl; have hcz9_1 : w8.cell? ⟨gb485, 1, none⟩ = some (.slice A0_1 l0_1.length c0_1) := (blk_cell BK485.out 1).trans rfl; have hfz9_0 := blk_frozen BK485.out 0; have hfz9_1 := blk_frozen BK485.out 1) | ((with_reducible refine gate_callee (f := 104) rfl ?_); refine goesL_ (some 14) rfl rfl Try.func104 (by kernel_rfl) rfl #[.agg #[.slice A0_0 l0_0.length c0_0, .slice A0_1 l0_1.length c0_1], .slice A1 l1.length c1] rfl (by (try simp only [List.map_toArray, List.map_cons, List.map_nil]); first | done | rfl | (simp only [List.length_drop, List.length_take]; rfl)) ?_; (with_reducible refine (spec_l7Sides.calls k _ _ l0_0 _ _ l0_1 _ _ l1 t487 _ ?side1 ?side2 ?side3 ?side4 ?side5 ?side6 A4.out).mono ?_); (case side1 => exact cU (Kd.C_below HR0_0.out HB.out)); (case side2 => exact HC0_0.out); (case side3 => exact cU (Kd.C_below HR0_1.out HB.out)); (case side4 => exact HC0_1.out); (case side5 => exact cU (Kd.C_below HR1.out HB.out)); (case side6 => exact HC1.out); rintro e w10 ⟨rfl, hb⟩; refine ⟨_, rfl, ?_⟩; have n0 := Az (blk_below (g := gb485) (o := .cells #[.slice A0_0 l0_0.length c0_0, .slice A0_1 l0_1.length c0_1] 25 (0, 0)) (kU BK485.out) hb); have n1 := Az (below_step (bU1 HB.out GE485.out) hb); clear BK485 HB; have BK485 := n0; have HB := n1; clear n0 n1; (try clear hb); (try clear hb2); (try clear hk); (try clear hi); have hcz11_0 : w10.cell? ⟨gb485, 0, none⟩ = some (.slice A0_0 l0_0.length c0_0) := (blk_cell BK485.out 0).trans rfl; have hcz11_1 : w10.cell? ⟨gb485, 1, none⟩ = some (.slice A0_1 l0_1.length c0_1) := (blk_cell BK485.out 1).trans rfl; have hfz11_0 := blk_frozen BK485.out 0; have hfz11_1 := blk_frozen BK485.out 1) | ((with_reducible refine gate_callee (f := 81) rfl ?_); refine goesL_ (some 17) rfl rfl Try.func81 (by kernel_rfl) rfl #[.slice A0_0 l0_0.length c0_0] rfl (by (try simp only [List.map_toArray, List.map_cons, List.map_nil]); first | done | rfl | (simp only [List.length_drop, List.length_take]; rfl)) ?_; (with_reducible refine (spec_l1Cycles.calls k _ _ l0_0 t488 _ ?side1 ?side2 A5.out).mono ?_); (case side1 => exact cU (Kd.C_below HR0_0.out HB.out)); (case side2 => exact HC0_0.out); rintro e w12 ⟨v489, rfl, ho0, hb⟩; refine ⟨_, rfl, ?_⟩; have n0 := Az (Kd.S_lower ho0 (below_size (bU1 HB.out GE485.out))); have n1 := Az (blk_below (g := gb485) (o := .cells #[.slice A0_0 l0_0.length c0_0, .slice A0_1 l0_1.length c0_1] 25 (0, 0)) (kU BK485.out) hb); have n2 := Az (below_step (bU1 HB.out GE485.out) hb); clear BK485 HB; have HO490 := n0; have BK485 := n1; have HB := n2; clear n0 n1 n2; (try clear hb); (try clear hb2); (try clear hk); (try clear hi); (try clear ho0); obtain ⟨Ao13, co13, eo13⟩ := Kd.S_slice HO490.out; subst eo13) | ((with_reducible refine gate_dst (N := 39) rfl ?_); refine Kd.R_lit (Kd.int .i64) _ 3 ?hg (N := 39) ?hd (xs := ([t486, t487, wrap64 ((t488.length : Int) - t486), wrap64 ((l1.length : Int) - (wrap64 ((t488.length : Int) - t486))), wrap64 (Int.tdiv (wrap64 ((wrap64 ((wrap64 ((wrap64 (2 * t486)) - (t488.length : Int))) + (l1.length : Int))) - t487)) 2)] : List Int)) (inner := [.int .i64 t486, .int .i64 t487, .int .i64 (wrap64 ((t488.length : Int) - t486)), .int .i64 (wrap64 ((l1.length : Int) - (wrap64 ((t488.length : Int) - t486)))), .int .i64 (wrap64 (Int.tdiv (wrap64 ((wrap64 ((wrap64 ((wrap64 (2 * t486)) - (t488.length : Int))) + (l1.length : Int))) - t487)) 2))]) (ok := fun _ => True) (okp := fun _ => True) ?hr ?hp (fun _ hk => hk) trivial (Below.refl _ _) (Nat.le_refl _) (by simp) ?_; (case hd => rfl); (case hg => rfl); (case hr => first | (go_simp; done) | (go_simp; rfl)); (case hp => exact (Reps.one (show Kd.M (Kd.int .i64) _ _ _ t486 [.int .i64 t486] from rfl) (Reps.one (show Kd.M (Kd.int .i64) _ _ _ t487 [.int .i64 t487] from rfl) (Reps.one (show Kd.M (Kd.int .i64) _ _ _ (wrap64 ((t488.length : Int) - t486)) [.int .i64 (wrap64 ((t488.length : Int) - t486))] from rfl) (Reps.one (show Kd.M (Kd.int .i64) _ _ _ (wrap64 ((l1.length : Int) - (wrap64 ((t488.length : Int) - t486)))) [.int .i64 (wrap64 ((l1.length : Int) - (wrap64 ((t488.length : Int) - t486))))] from rfl) (Reps.one (show Kd.M (Kd.int .i64) _ _ _ (wrap64 (Int.tdiv (wrap64 ((wrap64 ((wrap64 ((wrap64 (2 * t486)) - (t488.length : Int))) + (l1.length : Int))) - t487)) 2)) [.int .i64 (wrap64 (Int.tdiv (wrap64 ((wrap64 ((wrap64 ((wrap64 (2 * t486)) - (t488.length : Int))) + (l1.length : Int))) - t487)) 2))] from rfl) (Reps.none _ _))))))); intro v492 w14 ho15 hb hg_ hnew_; clear hg_ hnew_; (first | rw [← Ny491.out] at ho15 | (simp only [Int.reduceToNat] at ho15; rw [← Ny491.out] at ho15)); have n0 := Az (Kd.S_elder' (sU HO490.out) (Kd.R_base ho15) hb); have n1 := Az (Kd.R_lower ho15 (below_size (bU1 HB.out GE485.out))); have n2 := Az (blk_below (g := gb485) (o := .cells #[.slice A0_0 l0_0.length c0_0, .slice A0_1 l0_1.length c0_1] 25 (0, 0)) (kU BK485.out) hb); have n3 := Az (below_step (bU1 HB.out GE485.out) hb); clear HO490 BK485 HB; have HO490 := n0; have HO493 := n1; have BK485 := n2; have HB := n3; clear n0 n1 n2 n3; clear hb ho15))
 go_ret
 exact ⟨_, rE, rU HO493.out, bU1 HB.out GE485.out⟩
def spec_ChoiceCounts.f (k : Nat) (l0_0 : List Int) (l0_1 : List Int) (l1 : List Int) : Option (List Int × Bool) := (spec_ChoiceValid.f k l0_0 l0_1 l1).bind fun t495 => (if t495 = true then ((spec_l7Counts.f k l0_0 l0_1 l1).bind fun t496 => (some (t496, true))) else (some ((([] : List Int)), false)))
set_option maxHeartbeats 8000000 in
set_option maxRecDepth 100000 in
theorem spec_ChoiceCounts.calls (k : Nat) (A0_0 : Option Addr) (c0_0 : Nat) (l0_0 : List Int) (A0_1 : Option Addr) (c0_1 : Nat) (l0_1 : List Int) (A1 : Option Addr) (c1 : Nat) (l1 : List Int) (r1 : List Int) (r2 : Bool) (w : World) (hr0_0 : Kd.C (Kd.int .i64) w A0_0 l0_0.length l0_0) (hc0_0 : l0_0.length ≤ c0_0) (hr0_1 : Kd.C (Kd.int .i64) w A0_1 l0_1.length l0_1) (hc0_1 : l0_1.length ≤ c0_1) (hr1 : Kd.C (Kd.int .i64) w A1 l1.length l1) (hc1 : l1.length ≤ c1) (h : spec_ChoiceCounts.f k l0_0 l0_1 l1 = some (r1, r2)) :
  Calls Try.prog 32 #[.agg #[.slice A0_0 l0_0.length c0_0, .slice A0_1 l0_1.length c0_1], .slice A1 l1.length c1] w fun e w' => ∃ v0_ : Value, e = .returned (.tuple #[v0_, .bool r2]) ∧ Kd.R (Kd.int .i64) 3 w' w.heap.size (fun _ => True) v0_ r1 ∧ Below w.heap.size w w' := by
 have hu25 := Try.underlying25; have HR0_0 := Az hr0_0; have HC0_0 := Az hc0_0; clear hr0_0 hc0_0; have HR0_1 := Az hr0_1; have HC0_1 := Az hc0_1; clear hr0_1 hc0_1; have HR1 := Az hr1; have HC1 := Az hc1; clear hr1 hc1; have HB := Az (Below.refl w.heap.size w); have H : ((spec_ChoiceValid.f k l0_0 l0_1 l1).bind fun t495 => (if t495 = true then ((spec_l7Counts.f k l0_0 l0_1 l1).bind fun t496 => (some (t496, true))) else (some ((([] : List Int)), false)))) = some (r1, r2) := h; clear h; replace H := Option.bind_eq_some_iff.mp H; obtain ⟨t495, A30, H⟩ := H; replace H : (if t495 = true then ((spec_l7Counts.f k l0_0 l0_1 l1).bind fun t496 => (some (t496, true))) else (some ((([] : List Int)), false))) = some (r1, r2) := H; have A3 := Az A30; clear A30
 by_cases c4 : t495 = true
 ·
  subst c4
  have H1 : ((spec_l7Counts.f k l0_0 l0_1 l1).bind fun t496 => (some (t496, true))) = some (r1, r2) := by rw [if_pos rfl] at H; exact H
  clear H; have H := H1; clear H1; replace H := Option.bind_eq_some_iff.mp H; obtain ⟨t496, A50, H⟩ := H; replace H : (some (t496, true)) = some (r1, r2) := H; have A5 := Az A50; clear A50; simp only [Option.some.injEq, Prod.mk.injEq] at H; obtain ⟨rfl, rfl⟩ := H
  go_enter Try.func32, Try.ntmps32
  go_wp2_with (first | ((with_reducible refine gate_dst (N := 2) rfl ?_); refine box_event ?hg (N := 2) ?hd (cs := #[.slice A0_0 l0_0.length c0_0, .slice A0_1 l0_1.length c0_1]) (t := 25) ?hr ?_; (case hd => rfl); (case hg => rfl); (case hr => first | (go_simp; done) | (go_simp; rfl)); intro gb494 hg w6 hbox hb; have n0 := Az (below_step (bU0 HB.out) hb); have n1 := Az (hbox); have n2 := Az ((by rw [hg]; exact (below_size (bU0 HB.out)) : w.heap.size ≤ gb494)); have n3 := n2; clear HB; have HB := n0; have BK494 := n1; have GW494 := n2; have GE494 := n3; clear n0 n1 n2 n3 hb hbox hg; have hcz7_0 : w6.cell? ⟨gb494, 0, none⟩ = some (.slice A0_0 l0_0.length c0_0) := (blk_cell BK494.out 0).trans rfl; have hcz7_1 : w6.cell? ⟨gb494, 1, none⟩ = some (.slice A0_1 l0_1.length c0_1) := (blk_cell BK494.out 1).trans rfl; have hfz7_0 := blk_frozen BK494.out 0; have hfz7_1 := blk_frozen BK494.out 1) | ((with_reducible refine gate_callee (f := 17) rfl ?_); refine goesL_ (some 8) rfl rfl Try.func17 (by kernel_rfl) rfl #[.agg #[.slice A0_0 l0_0.length c0_0, .slice A0_1 l0_1.length c0_1], .slice A1 l1.length c1] rfl (by (try simp only [List.map_toArray, List.map_cons, List.map_nil]); first | done | rfl | (simp only [List.length_drop, List.length_take]; rfl)) ?_; (with_reducible refine (spec_ChoiceValid.calls k _ _ l0_0 _ _ l0_1 _ _ l1 true _ ?side1 ?side2 ?side3 ?side4 ?side5 ?side6 A3.out).mono ?_); (case side1 => exact cU (Kd.C_below HR0_0.out HB.out)); (case side2 => exact HC0_0.out); (case side3 => exact cU (Kd.C_below HR0_1.out HB.out)); (case side4 => exact HC0_1.out); (case side5 => exact cU (Kd.C_below HR1.out HB.out)); (case side6 => exact HC1.out); rintro e w8 ⟨rfl, hb⟩; refine ⟨_, rfl, ?_⟩; have n0 := Az (blk_below (g := gb494) (o := .cells #[.slice A0_0 l0_0.length c0_0, .slice A0_1 l0_1.length c0_1] 25 (0, 0)) (kU BK494.out) hb); have n1 := Az (below_step (bU1 HB.out GE494.out) hb); clear BK494 HB; have BK494 := n0; have HB := n1; clear n0 n1; (try clear hb); (try clear hb2); (try clear hk); (try clear hi); have hcz9_0 : w8.cell? ⟨gb494, 0, none⟩ = some (.slice A0_0 l0_0.length c0_0) := (blk_cell BK494.out 0).trans rfl; have hcz9_1 : w8.cell? ⟨gb494, 1, none⟩ = some (.slice A0_1 l0_1.length c0_1) := (blk_cell BK494.out 1).trans rfl; have hfz9_0 := blk_frozen BK494.out 0; have hfz9_1 := blk_frozen BK494.out 1) | ((with_reducible refine gate_callee (f := 69) rfl ?_); refine goesL_ (some 13) rfl rfl Try.func69 (by kernel_rfl) rfl #[.agg #[.slice A0_0 l0_0.length c0_0, .slice A0_1 l0_1.length c0_1], .slice A1 l1.length c1] rfl (by (try simp only [List.map_toArray, List.map_cons, List.map_nil]); first | done | rfl | (simp only [List.length_drop, List.length_take]; rfl)) ?_; (with_reducible refine (spec_l7Counts.calls k _ _ l0_0 _ _ l0_1 _ _ l1 t496 _ ?side1 ?side2 ?side3 ?side4 ?side5 ?side6 A5.out).mono ?_); (case side1 => exact cU (Kd.C_below HR0_0.out HB.out)); (case side2 => exact HC0_0.out); (case side3 => exact cU (Kd.C_below HR0_1.out HB.out)); (case side4 => exact HC0_1.out); (case side5 => exact cU (Kd.C_below HR1.out HB.out)); (case side6 => exact HC1.out); rintro e w10 ⟨v497, rfl, ho0, hb⟩; refine ⟨_, rfl, ?_⟩; have n0 := Az (Kd.R_lower ho0 (below_size (bU1 HB.out GE494.out))); have n1 := Az (blk_below (g := gb494) (o := .cells #[.slice A0_0 l0_0.length c0_0, .slice A0_1 l0_1.length c0_1] 25 (0, 0)) (kU BK494.out) hb); have n2 := Az (below_step (bU1 HB.out GE494.out) hb); clear BK494 HB; have HO498 := n0; have BK494 := n1; have HB := n2; clear n0 n1 n2; (try clear hb); (try clear hb2); (try clear hk); (try clear hi); (try clear ho0)))
  go_ret2
  exact ⟨_, rE, rU HO498.out, bU1 HB.out GE494.out⟩
 ·
  replace c4 := Bool.eq_false_iff.mpr c4; subst c4
  have H1 : (some ((([] : List Int)), false)) = some (r1, r2) := by rw [if_neg (show ¬ (false = true) by decide)] at H; exact H
  clear H; have H := H1; clear H1; obtain ⟨y499, hy499⟩ : ∃ y_ : List Int, y_ = (([] : List Int)) := ⟨_, rfl⟩; replace H : (some (y499, false)) = some (r1, r2) := hR hy499 H; have Ny499 := Az hy499; clear hy499; simp only [Option.some.injEq, Prod.mk.injEq] at H; obtain ⟨rfl, rfl⟩ := H
  go_enter Try.func32, Try.ntmps32
  go_wp2_with (first | ((with_reducible refine gate_dst (N := 2) rfl ?_); refine box_event ?hg (N := 2) ?hd (cs := #[.slice A0_0 l0_0.length c0_0, .slice A0_1 l0_1.length c0_1]) (t := 25) ?hr ?_; (case hd => rfl); (case hg => rfl); (case hr => first | (go_simp; done) | (go_simp; rfl)); intro gb494 hg w11 hbox hb; have n0 := Az (below_step (bU0 HB.out) hb); have n1 := Az (hbox); have n2 := Az ((by rw [hg]; exact (below_size (bU0 HB.out)) : w.heap.size ≤ gb494)); have n3 := n2; clear HB; have HB := n0; have BK494 := n1; have GW494 := n2; have GE494 := n3; clear n0 n1 n2 n3 hb hbox hg; have hcz12_0 : w11.cell? ⟨gb494, 0, none⟩ = some (.slice A0_0 l0_0.length c0_0) := (blk_cell BK494.out 0).trans rfl; have hcz12_1 : w11.cell? ⟨gb494, 1, none⟩ = some (.slice A0_1 l0_1.length c0_1) := (blk_cell BK494.out 1).trans rfl; have hfz12_0 := blk_frozen BK494.out 0; have hfz12_1 := blk_frozen BK494.out 1) | ((with_reducible refine gate_callee (f := 17) rfl ?_); refine goesL_ (some 8) rfl rfl Try.func17 (by kernel_rfl) rfl #[.agg #[.slice A0_0 l0_0.length c0_0, .slice A0_1 l0_1.length c0_1], .slice A1 l1.length c1] rfl (by (try simp only [List.map_toArray, List.map_cons, List.map_nil]); first | done | rfl | (simp only [List.length_drop, List.length_take]; rfl)) ?_; (with_reducible refine (spec_ChoiceValid.calls k _ _ l0_0 _ _ l0_1 _ _ l1 false _ ?side1 ?side2 ?side3 ?side4 ?side5 ?side6 A3.out).mono ?_); (case side1 => exact cU (Kd.C_below HR0_0.out HB.out)); (case side2 => exact HC0_0.out); (case side3 => exact cU (Kd.C_below HR0_1.out HB.out)); (case side4 => exact HC0_1.out); (case side5 => exact cU (Kd.C_below HR1.out HB.out)); (case side6 => exact HC1.out); rintro e w13 ⟨rfl, hb⟩; refine ⟨_, rfl, ?_⟩; have n0 := Az (blk_below (g := gb494) (o := .cells #[.slice A0_0 l0_0.length c0_0, .slice A0_1 l0_1.length c0_1] 25 (0, 0)) (kU BK494.out) hb); have n1 := Az (below_step (bU1 HB.out GE494.out) hb); clear BK494 HB; have BK494 := n0; have HB := n1; clear n0 n1; (try clear hb); (try clear hb2); (try clear hk); (try clear hi)) | ((with_reducible refine gate_dst (N := 10) rfl ?_); refine Kd.R_lit (Kd.int .i64) _ 3 ?hg (N := 10) ?hd (xs := ([] : List Int)) (inner := []) (ok := fun _ => True) (okp := fun _ => True) ?hr ?hp (fun _ hk => hk) trivial (Below.refl _ _) (Nat.le_refl _) (by simp) ?_; (case hd => rfl); (case hg => rfl); (case hr => first | (go_simp; done) | (go_simp; rfl)); (case hp => exact (Reps.none _ _)); intro v500 w14 ho15 hb hg_ hnew_; clear hg_ hnew_; (first | rw [← Ny499.out] at ho15 | (simp only [Int.reduceToNat] at ho15; rw [← Ny499.out] at ho15)); have n0 := Az (Kd.R_lower ho15 (below_size (bU1 HB.out GE494.out))); have n1 := Az (blk_below (g := gb494) (o := .cells #[.slice A0_0 l0_0.length c0_0, .slice A0_1 l0_1.length c0_1] 25 (0, 0)) (kU BK494.out) hb); have n2 := Az (below_step (bU1 HB.out GE494.out) hb); clear BK494 HB; have HO501 := n0; have BK494 := n1; have HB := n2; clear n0 n1 n2; clear hb ho15))
  go_ret2
  exact ⟨_, rE, rU HO501.out, bU1 HB.out GE494.out⟩
def spec_ChoiceQuasi.f (k : Nat) (l0_0 : List Int) (l0_1 : List Int) (l1 : List Int) : Option (Bool) := (spec_ChoiceCounts.f k l0_0 l0_1 l1).bind fun bt503 => (if bt503.2 = true then (if 0 < (bt503.1.length : Int) then (if (rd bt503.1 0) = 1 then (if 1 < (bt503.1.length : Int) then (some ((rd bt503.1 1) == 1)) else (none)) else (some false)) else (none)) else (some false))
set_option maxHeartbeats 8000000 in
set_option maxRecDepth 100000 in
theorem spec_ChoiceQuasi.calls (k : Nat) (A0_0 : Option Addr) (c0_0 : Nat) (l0_0 : List Int) (A0_1 : Option Addr) (c0_1 : Nat) (l0_1 : List Int) (A1 : Option Addr) (c1 : Nat) (l1 : List Int) (r : Bool) (w : World) (hr0_0 : Kd.C (Kd.int .i64) w A0_0 l0_0.length l0_0) (hc0_0 : l0_0.length ≤ c0_0) (hr0_1 : Kd.C (Kd.int .i64) w A0_1 l0_1.length l0_1) (hc0_1 : l0_1.length ≤ c0_1) (hr1 : Kd.C (Kd.int .i64) w A1 l1.length l1) (hc1 : l1.length ≤ c1) (h : spec_ChoiceQuasi.f k l0_0 l0_1 l1 = some r) :
  Calls Try.prog 35 #[.agg #[.slice A0_0 l0_0.length c0_0, .slice A0_1 l0_1.length c0_1], .slice A1 l1.length c1] w fun e w' => e = .returned (.bool r) ∧ Below w.heap.size w w' := by
 have hu25 := Try.underlying25; have HR0_0 := Az hr0_0; have HC0_0 := Az hc0_0; clear hr0_0 hc0_0; have HR0_1 := Az hr0_1; have HC0_1 := Az hc0_1; clear hr0_1 hc0_1; have HR1 := Az hr1; have HC1 := Az hc1; clear hr1 hc1; have HB := Az (Below.refl w.heap.size w); have H : ((spec_ChoiceCounts.f k l0_0 l0_1 l1).bind fun bt503 => (if bt503.2 = true then (if 0 < (bt503.1.length : Int) then (if (rd bt503.1 0) = 1 then (if 1 < (bt503.1.length : Int) then (some ((rd bt503.1 1) == 1)) else (none)) else (some false)) else (none)) else (some false))) = some r := h; clear h; replace H := Option.bind_eq_some_iff.mp H; obtain ⟨⟨t503, t506⟩, A30, H⟩ := H; replace H : (if t506 = true then (if 0 < (t503.length : Int) then (if (rd t503 0) = 1 then (if 1 < (t503.length : Int) then (some ((rd t503 1) == 1)) else (none)) else (some false)) else (none)) else (some false)) = some r := H; have A3 := Az A30; clear A30
 by_cases c4 : t506 = true
 ·
  subst c4
  have H1 : (if 0 < (t503.length : Int) then (if (rd t503 0) = 1 then (if 1 < (t503.length : Int) then (some ((rd t503 1) == 1)) else (none)) else (some false)) else (none)) = some r := by rw [if_pos rfl] at H; exact H
  clear H; have H := H1; clear H1
  by_cases c5 : 0 < (t503.length : Int)
  ·
   rw [if_pos c5] at H; have c5b0 := decide_eq_true c5; have c5b1 : decide (0 < t503.length) = true := decide_eq_true (by omega); clear c5
   by_cases c6 : (rd t503 0) = 1
   ·
    rw [if_pos c6] at H; have c6b0 := beq_iff_eq.mpr c6; have c6b1 := bne_eq_false_iff_eq.mpr c6; clear c6
    by_cases c7 : 1 < (t503.length : Int)
    ·
     rw [if_pos c7] at H; have c7b0 := decide_eq_true c7; have c7b1 : decide (1 < t503.length) = true := decide_eq_true (by omega); clear c7; obtain rfl := Option.some.inj H
     go_enter Try.func35, Try.ntmps35
     go_wp2_with (first | ((with_reducible refine gate_dst (N := 2) rfl ?_); refine box_event ?hg (N := 2) ?hd (cs := #[.slice A0_0 l0_0.length c0_0, .slice A0_1 l0_1.length c0_1]) (t := 25) ?hr ?_; (case hd => rfl); (case hg => rfl); (case hr => first | (go_simp; done) | (go_simp; rfl)); intro gb502 hg w8 hbox hb; have n0 := Az (below_step (bU0 HB.out) hb); have n1 := Az (hbox); have n2 := Az ((by rw [hg]; exact (below_size (bU0 HB.out)) : w.heap.size ≤ gb502)); have n3 := n2; clear HB; have HB := n0; have BK502 := n1; have GW502 := n2; have GE502 := n3; clear n0 n1 n2 n3 hb hbox hg; have hcz9_0 : w8.cell? ⟨gb502, 0, none⟩ = some (.slice A0_0 l0_0.length c0_0) := (blk_cell BK502.out 0).trans rfl; have hcz9_1 : w8.cell? ⟨gb502, 1, none⟩ = some (.slice A0_1 l0_1.length c0_1) := (blk_cell BK502.out 1).trans rfl; have hfz9_0 := blk_frozen BK502.out 0; have hfz9_1 := blk_frozen BK502.out 1) | ((with_reducible refine gate_callee (f := 32) rfl ?_); refine goesL_ (some 10) rfl rfl Try.func32 (by kernel_rfl) rfl #[.agg #[.slice A0_0 l0_0.length c0_0, .slice A0_1 l0_1.length c0_1], .slice A1 l1.length c1] rfl (by (try simp only [List.map_toArray, List.map_cons, List.map_nil]); first | done | rfl | (simp only [List.length_drop, List.length_take]; rfl)) ?_; (with_reducible refine (spec_ChoiceCounts.calls k _ _ l0_0 _ _ l0_1 _ _ l1 t503 true _ ?side1 ?side2 ?side3 ?side4 ?side5 ?side6 A3.out).mono ?_); (case side1 => exact cU (Kd.C_below HR0_0.out HB.out)); (case side2 => exact HC0_0.out); (case side3 => exact cU (Kd.C_below HR0_1.out HB.out)); (case side4 => exact HC0_1.out); (case side5 => exact cU (Kd.C_below HR1.out HB.out)); (case side6 => exact HC1.out); rintro e w10 ⟨v504, rfl, ho0, hb⟩; refine ⟨_, rfl, ?_⟩; have n0 := Az (Kd.R_lower ho0 (below_size (bU1 HB.out GE502.out))); have n1 := Az (blk_below (g := gb502) (o := .cells #[.slice A0_0 l0_0.length c0_0, .slice A0_1 l0_1.length c0_1] 25 (0, 0)) (kU BK502.out) hb); have n2 := Az (below_step (bU1 HB.out GE502.out) hb); clear BK502 HB; have HO505 := n0; have BK502 := n1; have HB := n2; clear n0 n1 n2; (try clear hb); (try clear hb2); (try clear hk); (try clear hi); (try clear ho0); obtain ⟨Ao11, co11, eo11⟩ := Kd.R_slice HO505.out; subst eo11; have p507 : 0 ≤ (0 : Int) := (by omega); have q507 : 0 < (t503.length : Int) := oA; obtain ⟨ad507, e507, hx507_0⟩ := Kd.at_int (Kd.R_reads' HO505.out).2.2 0 p507 q507; cases e507; have qi507 : (0 < t503.length) = True := eq_true (by omega); (try rw [show ((0 : Int)).toNat = 0 from rfl] at hx507_0); (try rw [Addr.add_zero'] at hx507_0); replace p507 := eq_true p507; replace q507 := eq_true q507; have p508 : 0 ≤ (1 : Int) := (by omega); have q508 : 1 < (t503.length : Int) := oA; obtain ⟨ad508, e508, hx508_0⟩ := Kd.at_int (Kd.R_reads' HO505.out).2.2 1 p508 q508; obtain rfl : ad507 = ad508 := (by injection e508); (try simp only [show (1 : Int).toNat = 1 from rfl, Nat.reduceMul, Nat.reduceEqDiff, Go.Addr.add, ↓reduceIte] at hx508_0); have qi508 : (1 < t503.length) = True := eq_true (by omega); (try rw [show ((1 : Int)).toNat = 1 from rfl] at hx508_0); replace p508 := eq_true p508; replace q508 := eq_true q508))
     go_ret
     exact ⟨rE, bU1 HB.out GE502.out⟩
    ·
     rw [if_neg c7] at H
     exact absurd H (by simp)
   ·
    rw [if_neg c6] at H; have c6b0 := beq_eq_false_iff_ne.mpr c6; have c6b1 := bne_iff_ne.mpr c6; obtain rfl := Option.some.inj H
    go_enter Try.func35, Try.ntmps35
    go_wp2_with (first | ((with_reducible refine gate_dst (N := 2) rfl ?_); refine box_event ?hg (N := 2) ?hd (cs := #[.slice A0_0 l0_0.length c0_0, .slice A0_1 l0_1.length c0_1]) (t := 25) ?hr ?_; (case hd => rfl); (case hg => rfl); (case hr => first | (go_simp; done) | (go_simp; rfl)); intro gb502 hg w12 hbox hb; have n0 := Az (below_step (bU0 HB.out) hb); have n1 := Az (hbox); have n2 := Az ((by rw [hg]; exact (below_size (bU0 HB.out)) : w.heap.size ≤ gb502)); have n3 := n2; clear HB; have HB := n0; have BK502 := n1; have GW502 := n2; have GE502 := n3; clear n0 n1 n2 n3 hb hbox hg; have hcz13_0 : w12.cell? ⟨gb502, 0, none⟩ = some (.slice A0_0 l0_0.length c0_0) := (blk_cell BK502.out 0).trans rfl; have hcz13_1 : w12.cell? ⟨gb502, 1, none⟩ = some (.slice A0_1 l0_1.length c0_1) := (blk_cell BK502.out 1).trans rfl; have hfz13_0 := blk_frozen BK502.out 0; have hfz13_1 := blk_frozen BK502.out 1) | ((with_reducible refine gate_callee (f := 32) rfl ?_); refine goesL_ (some 10) rfl rfl Try.func32 (by kernel_rfl) rfl #[.agg #[.slice A0_0 l0_0.length c0_0, .slice A0_1 l0_1.length c0_1], .slice A1 l1.length c1] rfl (by (try simp only [List.map_toArray, List.map_cons, List.map_nil]); first | done | rfl | (simp only [List.length_drop, List.length_take]; rfl)) ?_; (with_reducible refine (spec_ChoiceCounts.calls k _ _ l0_0 _ _ l0_1 _ _ l1 t503 true _ ?side1 ?side2 ?side3 ?side4 ?side5 ?side6 A3.out).mono ?_); (case side1 => exact cU (Kd.C_below HR0_0.out HB.out)); (case side2 => exact HC0_0.out); (case side3 => exact cU (Kd.C_below HR0_1.out HB.out)); (case side4 => exact HC0_1.out); (case side5 => exact cU (Kd.C_below HR1.out HB.out)); (case side6 => exact HC1.out); rintro e w14 ⟨v504, rfl, ho0, hb⟩; refine ⟨_, rfl, ?_⟩; have n0 := Az (Kd.R_lower ho0 (below_size (bU1 HB.out GE502.out))); have n1 := Az (blk_below (g := gb502) (o := .cells #[.slice A0_0 l0_0.length c0_0, .slice A0_1 l0_1.length c0_1] 25 (0, 0)) (kU BK502.out) hb); have n2 := Az (below_step (bU1 HB.out GE502.out) hb); clear BK502 HB; have HO505 := n0; have BK502 := n1; have HB := n2; clear n0 n1 n2; (try clear hb); (try clear hb2); (try clear hk); (try clear hi); (try clear ho0); obtain ⟨Ao15, co15, eo15⟩ := Kd.R_slice HO505.out; subst eo15; have p507 : 0 ≤ (0 : Int) := (by omega); have q507 : 0 < (t503.length : Int) := oA; obtain ⟨ad507, e507, hx507_0⟩ := Kd.at_int (Kd.R_reads' HO505.out).2.2 0 p507 q507; cases e507; have qi507 : (0 < t503.length) = True := eq_true (by omega); (try rw [show ((0 : Int)).toNat = 0 from rfl] at hx507_0); (try rw [Addr.add_zero'] at hx507_0); replace p507 := eq_true p507; replace q507 := eq_true q507))
    go_ret
    exact ⟨rE, bU1 HB.out GE502.out⟩
  ·
   rw [if_neg c5] at H
   exact absurd H (by simp)
 ·
  replace c4 := Bool.eq_false_iff.mpr c4; subst c4
  have H1 : (some false) = some r := by rw [if_neg (show ¬ (false = true) by decide)] at H; exact H
  clear H; have H := H1; clear H1; obtain rfl := Option.some.inj H
  go_enter Try.func35, Try.ntmps35
  go_wp2_with (first | ((with_reducible refine gate_dst (N := 2) rfl ?_); refine box_event ?hg (N := 2) ?hd (cs := #[.slice A0_0 l0_0.length c0_0, .slice A0_1 l0_1.length c0_1]) (t := 25) ?hr ?_; (case hd => rfl); (case hg => rfl); (case hr => first | (go_simp; done) | (go_simp; rfl)); intro gb502 hg w16 hbox hb; have n0 := Az (below_step (bU0 HB.out) hb); have n1 := Az (hbox); have n2 := Az ((by rw [hg]; exact (below_size (bU0 HB.out)) : w.heap.size ≤ gb502)); have n3 := n2; clear HB; have HB := n0; have BK502 := n1; have GW502 := n2; have GE502 := n3; clear n0 n1 n2 n3 hb hbox hg; have hcz17_0 : w16.cell? ⟨gb502, 0, none⟩ = some (.slice A0_0 l0_0.length c0_0) := (blk_cell BK502.out 0).trans rfl; have hcz17_1 : w16.cell? ⟨gb502, 1, none⟩ = some (.slice A0_1 l0_1.length c0_1) := (blk_cell BK502.out 1).trans rfl; have hfz17_0 := blk_frozen BK502.out 0; have hfz17_1 := blk_frozen BK502.out 1) | ((with_reducible refine gate_callee (f := 32) rfl ?_); refine goesL_ (some 10) rfl rfl Try.func32 (by kernel_rfl) rfl #[.agg #[.slice A0_0 l0_0.length c0_0, .slice A0_1 l0_1.length c0_1], .slice A1 l1.length c1] rfl (by (try simp only [List.map_toArray, List.map_cons, List.map_nil]); first | done | rfl | (simp only [List.length_drop, List.length_take]; rfl)) ?_; (with_reducible refine (spec_ChoiceCounts.calls k _ _ l0_0 _ _ l0_1 _ _ l1 t503 false _ ?side1 ?side2 ?side3 ?side4 ?side5 ?side6 A3.out).mono ?_); (case side1 => exact cU (Kd.C_below HR0_0.out HB.out)); (case side2 => exact HC0_0.out); (case side3 => exact cU (Kd.C_below HR0_1.out HB.out)); (case side4 => exact HC0_1.out); (case side5 => exact cU (Kd.C_below HR1.out HB.out)); (case side6 => exact HC1.out); rintro e w18 ⟨v504, rfl, ho0, hb⟩; refine ⟨_, rfl, ?_⟩; have n0 := Az (Kd.R_lower ho0 (below_size (bU1 HB.out GE502.out))); have n1 := Az (blk_below (g := gb502) (o := .cells #[.slice A0_0 l0_0.length c0_0, .slice A0_1 l0_1.length c0_1] 25 (0, 0)) (kU BK502.out) hb); have n2 := Az (below_step (bU1 HB.out GE502.out) hb); clear BK502 HB; have HO505 := n0; have BK502 := n1; have HB := n2; clear n0 n1 n2; (try clear hb); (try clear hb2); (try clear hk); (try clear hi); (try clear ho0)))
  go_ret
  exact ⟨rE, bU1 HB.out GE502.out⟩
def laws_FnChoiceQuasi_up (L : List (Nat × Option Tmp)) (n : Nat) : Array Bool := ((List.range n).map (fun i => !(L.map Prod.fst).contains i)).toArray
section
variable {P : Program} {ops : Array Oper} {Q : Exit → Act → World → Prop} {md : Region.Mode} {S : World → Prop} {ds : List Nat}
theorem laws_FnChoiceQuasi_uS {i n : Nat} {N : Option Tmp} {L : List (Nat × Option Tmp)} {oi : Oper} {fuel : Nat} {a : Act} {w : World} (hi : ops[i]? = some oi) (hN : oi.dst = N) (hc : anyB md ops (laws_FnChoiceQuasi_up ((i, N) :: L) n) (laws_FnChoiceQuasi_up L n) i = true)
  (hQ : ∀ c a w, Q (.panic c) (a.put oi.dst undef) w → Q (.panic c) a w) (hw : Region.wanted oi (yielded ops a.tmps) = false) {a' : Act} (ha : a.put N undef = a')
  (h : wpAnyLast P md ops Q S ds fuel (laws_FnChoiceQuasi_up L n) a' w) : wpAnyLast P md ops Q S ds (fuel + 1) (laws_FnChoiceQuasi_up ((i, N) :: L) n) a w := pure_ (laws_FnChoiceQuasi_up L n) hi hN hc hQ (Or.inr ⟨hw, rfl⟩) ha h
theorem laws_FnChoiceQuasi_uP {i n : Nat} {N : Option Tmp} {L : List (Nat × Option Tmp)} {oi : Oper} {v : Value} {fuel : Nat} {a : Act} {w : World} (hi : ops[i]? = some oi) (hN : oi.dst = N) (hc : anyB md ops (laws_FnChoiceQuasi_up ((i, N) :: L) n) (laws_FnChoiceQuasi_up L n) i = true)
  (hQ : ∀ c a w, Q (.panic c) (a.put oi.dst v) w → Q (.panic c) a w) (hw : Region.wanted oi (yielded ops a.tmps) = true) (hy : ∀ w, (execOp a.eval oi).run P w = .ok (.value v) w) {a' : Act} (ha : a.put N v = a')
  (h : wpAnyLast P md ops Q S ds fuel (laws_FnChoiceQuasi_up L n) a' w) : wpAnyLast P md ops Q S ds (fuel + 1) (laws_FnChoiceQuasi_up ((i, N) :: L) n) a w := pure_ (laws_FnChoiceQuasi_up L n) hi hN hc hQ (Or.inl ⟨hw, hy⟩) ha h
theorem laws_FnChoiceQuasi_uT {i n : Nat} {N : Option Tmp} {L : List (Nat × Option Tmp)} {oi : Oper} {v : Value} {fuel : Nat} {a : Act} {w : World} (hi : ops[i]? = some oi) (hN : oi.dst = N) (hc : takeB md ops ds (laws_FnChoiceQuasi_up ((i, N) :: L) n) (laws_FnChoiceQuasi_up L n) i = true)
  (hQ : ∀ c a w, Q (.panic c) (a.put oi.dst v) w → Q (.panic c) a w) (hw : Region.wanted oi (yielded ops a.tmps) = true) (hy : ∀ w, S w → (execOp a.eval oi).run P w = .ok (.value v) w) (hS : S w) {a' : Act} (ha : a.put N v = a')
  (h : wpAnyLast P md ops Q S ds fuel (laws_FnChoiceQuasi_up L n) a' w) : wpAnyLast P md ops Q S ds (fuel + 1) (laws_FnChoiceQuasi_up ((i, N) :: L) n) a w := take_ (laws_FnChoiceQuasi_up L n) hi hN hc hQ (Or.inl ⟨hw, hy⟩) hS ha h
theorem laws_FnChoiceQuasi_uO {i n : Nat} {N : Option Tmp} {L : List (Nat × Option Tmp)} {oi : Oper} {fuel : Nat} {a : Act} {w : World} (hi : ops[i]? = some oi) (hN : oi.dst = N) (hc : readyB md ops (laws_FnChoiceQuasi_up ((i, N) :: L) n) (laws_FnChoiceQuasi_up L n) i = true) (hd : i ∉ ds)
  (h : ∀ K : Act → World → Prop, Shut (∀ a' w', S w' → (S w' → wpAnyLast P md ops Q S ds fuel (laws_FnChoiceQuasi_up L n) a' w') → K a' w') → if Region.wanted oi (yielded ops a.tmps) = true then Oper.wp P oi a w K Q else K (a.put N undef) w) :
  wpAnyLast P md ops Q S ds (fuel + 1) (laws_FnChoiceQuasi_up ((i, N) :: L) n) a w := one_ (laws_FnChoiceQuasi_up L n) hi hN hc hd h
end
def laws_FnChoiceQuasi.j0 : Nat → List Int → Bool → Bool → Bool → List Int → List Int → Option (Bool)
 | 0, _, _, _, _, _, _ => none
 | k + 1, x4, x5, x6, x37, xZ0, xZ1 => if x37 = true then (some (x5 == x6)) else ((impl_ChoiceRest.f k xZ0 xZ1 x4).bind fun bt521 => ((impl_MapDual.f k xZ0 xZ1).bind fun bt525 => ((impl_MapCounts.f k xZ0 xZ1).bind fun bt533 => ((impl_ChoiceCounts.f k xZ0 xZ1 x4).bind fun bt537 => ((impl_ChoiceCounts.f k bt525.1 bt525.2.1 bt521.1).bind fun bt541 => (if bt521.2 = true then (if bt525.2.2 = true then (if bt533.2 = true then (if bt537.2 = true then (if bt541.2 = true then ((impl_ChoiceQuasi.f k bt525.1 bt525.2.1 bt521.1).bind fun t545 => (if t545 = true then (if 0 < (bt533.1.length : Int) then (if 4 < (bt537.1.length : Int) then (if (x4.length : Int) = (wrap64 ((wrap64 ((rd bt533.1 0) - 1)) + (wrap64 (2 * (rd bt537.1 4))))) then (if 4 < (bt541.1.length : Int) then ((impl_MapGenus.f k xZ0 xZ1).bind fun t550 => (some ((wrap64 ((rd bt537.1 4) + (rd bt541.1 4))) == t550))) else (none)) else (some false)) else (none)) else (none)) else (some false))) else (some false)) else (some false)) else (some false)) else (some false)) else (some false)))))))
def laws_FnChoiceQuasi.f (k : Nat) (l0 : List Int) : Option (Bool) := if (l0.length : Int) > 1048576 then (some true) else ((spec_DrawChoiceQuasi.f k l0).bind fun bt509 => ((impl_ChoiceQuasi.f k bt509.1 bt509.2.1 bt509.2.2).bind fun t519 => ((spec_ChoiceQuasi.f k bt509.1 bt509.2.1 bt509.2.2).bind fun t520 => (if (t519 != t520) = true then (laws_FnChoiceQuasi.j0 k bt509.2.2 t519 t520 true bt509.1 bt509.2.1) else (laws_FnChoiceQuasi.j0 k bt509.2.2 t519 t520 (!t519) bt509.1 bt509.2.1)))))
def laws_FnChoiceQuasi.T13 : Bool × List (List Nat × List Nat) := (true, [([], []), ([0], [0]), ([1], [1]), ([1, 2], [1, 2]), ([3, 1], [3]), ([4], [4]), ([4, 5], [4, 5]), ([6, 4], [6]), ([7], [7]), ([7, 8], [7, 8]), ([9, 7], [9]), ([10], [10]), ([10, 11], [10, 11]), ([12, 10], [12]), ([13], [13]), ([13], [13]), ([14, 15, 13, 13], [13, 14, 15]), ([13, 16], [13, 16]), ([17, 16], [17]), ([18], [18]), ([19, 18], [18, 19]), ([18], [18]), ([21, 18], [18, 21]), ([22, 18], [18, 22]), ([23, 18], [18, 23]), ([18], [18]), ([25, 18], [18, 25]), ([26, 18], [18, 26]), ([27, 18], [18, 27]), ([24, 28, 18], [18, 24, 28]), ([20, 29, 18], [18, 20, 29]), ([18, 30], [18, 30]), ([31, 18], [31]), ([32], [32]), ([33, 32], [32, 33]), ([34, 32], [32, 34]), ([32], [32]), ([36, 32], [32, 36]), ([37, 32], [32, 37]), ([35, 38, 32], [32, 35, 38]), ([32], [32]), ([40, 32, 32], [32, 40]), ([39, 41, 32], [32, 39, 41]), ([32, 42], [32, 42]), ([43, 41, 0, 1, 2, 3, 4, 5, 6, 7, 8, 9, 10, 11, 12, 13, 14, 15, 16, 17, 18, 19, 20, 21, 22, 23, 24, 25, 26, 27, 28, 29, 30, 31, 32, 33, 34, 35, 36, 37, 38, 39, 40, 41, 42, 43], [43])])
def laws_FnChoiceQuasi.B13 : List Nat := [0, 1, 3, 7, 15, 31, 63, 127, 255, 511, 1023, 2047, 4095, 8191, 16383, 16383, 65535, 131071, 262143, 524287, 1048575, 524287, 2621439, 6815743, 15204351, 524287, 34078719, 101187583, 235405311, 535298047, 1073741823, 2147483647, 4294967295, 8589934591, 17179869183, 34359738367, 8589934591, 77309411327, 214748364799, 549755813887, 8589934591, 1108101562367, 4398046511103, 8796093022207, 17592186044415]
theorem laws_FnChoiceQuasi.tab13 : rtab .any (opsOf Try.f7 13) = laws_FnChoiceQuasi.T13 := by kernel_rfl
theorem laws_FnChoiceQuasi.bits13 : waitsOk laws_FnChoiceQuasi.T13.2 laws_FnChoiceQuasi.B13 = true := by kernel_rfl
set_option maxHeartbeats 8000000 in
set_option maxRecDepth 100000 in
theorem laws_FnChoiceQuasi.calls (k : Nat) (A0 : Option Addr) (c0 : Nat) (l0 : List Int) (r : Bool) (w : World) (hr0 : Kd.C (Kd.int .u8) w A0 l0.length l0) (hc0 : l0.length ≤ c0) (h : laws_FnChoiceQuasi.f k l0 = some r) :
  Calls Try.prog 7 #[.slice A0 l0.length c0] w fun e w' => e = .returned (.bool r) ∧ Below w.heap.size w w' := by
 have hu25 := Try.underlying25; have HR0 := Az hr0; have HC0 := Az hc0; clear hr0 hc0; have HB := Az (Below.refl w.heap.size w); have H : (if (l0.length : Int) > 1048576 then (some true) else ((spec_DrawChoiceQuasi.f k l0).bind fun bt509 => ((impl_ChoiceQuasi.f k bt509.1 bt509.2.1 bt509.2.2).bind fun t519 => ((spec_ChoiceQuasi.f k bt509.1 bt509.2.1 bt509.2.2).bind fun t520 => (if (t519 != t520) = true then (laws_FnChoiceQuasi.j0 k bt509.2.2 t519 t520 true bt509.1 bt509.2.1) else (laws_FnChoiceQuasi.j0 k bt509.2.2 t519 t520 (!t519) bt509.1 bt509.2.1)))))) = some r := h; clear h
 by_cases c2 : (l0.length : Int) > 1048576
 ·
  rw [if_pos c2] at H; have c2b0 := decide_eq_true c2; have c2b1 : decide (1048576 < l0.length) = true := decide_eq_true (by omega); clear c2; obtain rfl := Option.some.inj H
  go_enter Try.func7, Try.ntmps7
  go_wp2
  go_ret
  exact ⟨rE, bU0 HB.out⟩
 ·
  rw [if_neg c2] at H; have c2b0 := decide_eq_false c2; have c2b1 : decide (1048576 < l0.length) = false := decide_eq_false (by omega); clear c2; replace H := Option.bind_eq_some_iff.mp H; obtain ⟨⟨t509, t512, t515⟩, A30, H⟩ := H; replace H : ((impl_ChoiceQuasi.f k t509 t512 t515).bind fun t519 => ((spec_ChoiceQuasi.f k t509 t512 t515).bind fun t520 => (if (t519 != t520) = true then (laws_FnChoiceQuasi.j0 k t515 t519 t520 true t509 t512) else (laws_FnChoiceQuasi.j0 k t515 t519 t520 (!t519) t509 t512)))) = some r := H; have A3 := Az A30; clear A30; replace H := Option.bind_eq_some_iff.mp H; obtain ⟨t519, A40, H⟩ := H; replace H : ((spec_ChoiceQuasi.f k t509 t512 t515).bind fun t520 => (if (t519 != t520) = true then (laws_FnChoiceQuasi.j0 k t515 t519 t520 true t509 t512) else (laws_FnChoiceQuasi.j0 k t515 t519 t520 (!t519) t509 t512))) = some r := H; have A4 := Az A40; clear A40; replace H := Option.bind_eq_some_iff.mp H; obtain ⟨t520, A50, H⟩ := H; replace H : (if (t519 != t520) = true then (laws_FnChoiceQuasi.j0 k t515 t519 t520 true t509 t512) else (laws_FnChoiceQuasi.j0 k t515 t519 t520 (!t519) t509 t512)) = some r := H; have A5 := Az A50; clear A50; have HC6 := Az H; clear H
  go_enter Try.func7, Try.ntmps7
  go_upto_region 6 with (first | ((with_reducible refine gate_callee (f := 34) rfl ?_); refine goesL_ (some 22) rfl rfl Try.func34 (by kernel_rfl) rfl #[.slice A0 l0.length c0] rfl (by (try simp only [List.map_toArray, List.map_cons, List.map_nil]); first | done | rfl | (simp only [List.length_drop, List.length_take]; rfl)) ?_; (with_reducible refine (spec_DrawChoiceQuasi.calls k _ _ l0 t509 t512 t515 _ ?side1 ?side2 A3.out).mono ?_); (case side1 => exact cU (HR0.out)); (case side2 => exact HC0.out); rintro e w7 ⟨v510, v513, v516, rfl, ho0, ho1, ho2, hb⟩; refine ⟨_, rfl, ?_⟩; have n0 := Az (Kd.Q_lower ho0 (below_size (bU0 HB.out))); have n1 := Az (Kd.R_lower ho1 (below_size (bU0 HB.out))); have n2 := Az (Kd.R_lower ho2 (below_size (bU0 HB.out))); have n3 := Az (below_step (bU0 HB.out) hb); clear HB; have HO511 := n0; have HO514 := n1; have HO517 := n2; have HB := n3; clear n0 n1 n2 n3; (try clear hb); (try clear hb2); (try clear hk); (try clear hi); (try clear ho0); (try clear ho1); (try clear ho2)) | ((with_reducible refine gate_dst (N := 3) rfl ?_); (try (refine gate_guard (by rfl) ?_; dsimp only)); refine box_event ?hg (N := 3) ?hd (cs := #[.slice none 0 0, .slice none 0 0]) (t := 25) ?hr ?_; (case hd => rfl); (case hg => rfl); (case hr => first | (go_simp; done) | (go_simp; rfl)); intro gb518 hg w8 hbox hb; have n0 := Az (Kd.Q_below (qU HO511.out) hb); have n1 := Az (Kd.R_below (rU HO514.out) hb); have n2 := Az (Kd.R_below (rU HO517.out) hb); have n3 := Az (below_step (bU0 HB.out) hb); have n4 := Az (hbox); have n5 := Az ((by rw [hg]; exact (below_size (bU0 HB.out)) : w.heap.size ≤ gb518)); have n6 := n5; clear HO511 HO514 HO517 HB; have HO511 := n0; have HO514 := n1; have HO517 := n2; have HB := n3; have BK518 := n4; have GW518 := n5; have GE518 := n6; clear n0 n1 n2 n3 n4 n5 n6 hb hbox hg; obtain ⟨Ao9, co9, eo9, _⟩ := Kd.Q_slice HO511.out; subst eo9; have hcz10_0 : w8.cell? ⟨gb518, 0, none⟩ = some (.slice none 0 0) := (blk_cell BK518.out 0).trans rfl; have hcz10_1 : w8.cell? ⟨gb518, 1, none⟩ = some (.slice none 0 0) := (blk_cell BK518.out 1).trans rfl; have hfz10_0 := blk_frozen BK518.out 0; have hfz10_1 := blk_frozen BK518.out 1; obtain ⟨Ao11, co11, eo11⟩ := Kd.R_slice HO514.out; subst eo11; obtain ⟨Ao12, co12, eo12⟩ := Kd.R_slice HO517.out; subst eo12) | ((with_reducible refine gate_callee (f := 30) rfl ?_); refine goesL_ (some 27) rfl rfl Try.func30 (by kernel_rfl) rfl #[.agg #[.slice Ao9 t509.length co9, .slice Ao11 t512.length co11], .slice Ao12 t515.length co12] rfl (by (try simp only [List.map_toArray, List.map_cons, List.map_nil]); first | done | rfl | (simp only [List.length_drop, List.length_take]; rfl)) ?_; (with_reducible refine (impl_ChoiceQuasi.calls k _ _ t509 _ _ t512 _ _ t515 t519 _ ?side1 ?side2 ?side3 ?side4 ?side5 ?side6 A4.out).mono ?_); (case side1 => refine (Kd.Q_reads' (e := 3) (base := w.heap.size) (ok := fun k_ => (some k_ ≠ (.slice Ao11 t512.length co11 : Value).ownBlock ∧ some k_ ≠ (.slice Ao12 t515.length co12 : Value).ownBlock)) (n := t509.length) (c := co9) ?_).2.2; exact (by (with_reducible repeat (first | apply Kd.Q_alloc | apply Kd.Q_drewN | apply Kd.Q_drew)); exact (Kd.Q_mono (Kd.Q_far (p := ⟨gb518, 1, none⟩) (Kd.Q_far (p := ⟨gb518, 0, none⟩) (Kd.Q_types HO511.out BK518.out (by decide)) (fun _ hk => hk.2) (.slice Ao9 t509.length co9)) (fun _ hk => hk.2) (.slice Ao11 t512.length co11)) (fun _ h_ => h_.1)))); (case side2 => exact (Kd.Q_reads' HO511.out).2.1); (case side3 => refine (Kd.R_reads' (e := 3) (base := w.heap.size) (ok := fun k_ => (some k_ ≠ (.slice Ao9 t509.length co9 : Value).ownBlock ∧ some k_ ≠ (.slice Ao12 t515.length co12 : Value).ownBlock)) (n := t512.length) (c := co11) ?_).2.2; exact (by (with_reducible repeat (first | apply Kd.R_alloc | apply Kd.R_drewN | apply Kd.R_drew)); exact (Kd.R_mono (Kd.R_far (p := ⟨gb518, 1, none⟩) (Kd.R_far (p := ⟨gb518, 0, none⟩) (Kd.R_types HO514.out BK518.out (by decide)) (fun _ hk => hk.2) (.slice Ao9 t509.length co9)) (fun _ hk => hk.2) (.slice Ao11 t512.length co11)) (fun _ h_ => h_.1)))); (case side4 => exact (Kd.R_reads' HO514.out).2.1); (case side5 => refine (Kd.R_reads' (e := 3) (base := w.heap.size) (ok := fun k_ => (some k_ ≠ (.slice Ao9 t509.length co9 : Value).ownBlock ∧ some k_ ≠ (.slice Ao11 t512.length co11 : Value).ownBlock)) (n := t515.length) (c := co12) ?_).2.2; exact (by (with_reducible repeat (first | apply Kd.R_alloc | apply Kd.R_drewN | apply Kd.R_drew)); exact (Kd.R_mono (Kd.R_far (p := ⟨gb518, 1, none⟩) (Kd.R_far (p := ⟨gb518, 0, none⟩) (Kd.R_types HO517.out BK518.out (by decide)) (fun _ hk => hk.2) (.slice Ao9 t509.length co9)) (fun _ hk => hk.2) (.slice Ao11 t512.length co11)) (fun _ h_ => h_.1)))); (case side6 => exact (Kd.R_reads' HO517.out).2.1); rintro e w13 ⟨rfl, hb⟩; refine ⟨_, rfl, ?_⟩; have n0 := Az (Kd.Q_below (by (with_reducible repeat (first | apply Kd.Q_alloc | apply Kd.Q_drewN | apply Kd.Q_drew)); exact (Kd.Q_mono (Kd.Q_far (p := ⟨gb518, 1, none⟩) (Kd.Q_far (p := ⟨gb518, 0, none⟩) (Kd.Q_types HO511.out BK518.out (by decide)) (fun _ hk => hk.2) (.slice Ao9 t509.length co9)) (fun _ hk => hk.2) (.slice Ao11 t512.length co11)) (fun _ h_ => h_.1))) hb); have n1 := Az (Kd.R_below (by (with_reducible repeat (first | apply Kd.R_alloc | apply Kd.R_drewN | apply Kd.R_drew)); exact (Kd.R_mono (Kd.R_far (p := ⟨gb518, 1, none⟩) (Kd.R_far (p := ⟨gb518, 0, none⟩) (Kd.R_types HO514.out BK518.out (by decide)) (fun _ hk => hk.2) (.slice Ao9 t509.length co9)) (fun _ hk => hk.2) (.slice Ao11 t512.length co11)) (fun _ h_ => h_.1))) hb); have n2 := Az (Kd.R_below (by (with_reducible repeat (first | apply Kd.R_alloc | apply Kd.R_drewN | apply Kd.R_drew)); exact (Kd.R_mono (Kd.R_far (p := ⟨gb518, 1, none⟩) (Kd.R_far (p := ⟨gb518, 0, none⟩) (Kd.R_types HO517.out BK518.out (by decide)) (fun _ hk => hk.2) (.slice Ao9 t509.length co9)) (fun _ hk => hk.2) (.slice Ao11 t512.length co11)) (fun _ h_ => h_.1))) hb); have n3 := Az (blk_below (g := gb518) (o := .cells #[.slice Ao9 t509.length co9, .slice Ao11 t512.length co11] 25 (0, 0)) (by (with_reducible repeat (first | refine blk_drewN ?_ _ | refine blk_drew ?_ | refine blk_alloc ?_ _)); refine blk_put (cs := #[.slice Ao9 t509.length co9, .slice none 0 0]) ?_ 1 _ rfl; (with_reducible repeat (first | refine blk_drewN ?_ _ | refine blk_drew ?_ | refine blk_alloc ?_ _)); refine blk_put (cs := #[.slice none 0 0, .slice none 0 0]) ?_ 0 _ rfl; (with_reducible repeat (first | refine blk_drewN ?_ _ | refine blk_drew ?_ | refine blk_alloc ?_ _)); exact BK518.out) hb); have n4 := Az (below_step (bU1 HB.out GE518.out) hb); clear HO511 HO514 HO517 BK518 HB; have HO511 := n0; have HO514 := n1; have HO517 := n2; have BK518 := n3; have HB := n4; clear n0 n1 n2 n3 n4; (try clear hb); (try clear hb2); (try clear hk); (try clear hi); have hcz14_0 : w13.cell? ⟨gb518, 0, none⟩ = some (.slice Ao9 t509.length co9) := (blk_cell BK518.out 0).trans rfl; have hcz14_1 : w13.cell? ⟨gb518, 1, none⟩ = some (.slice Ao11 t512.length co11) := (blk_cell BK518.out 1).trans rfl; have hfz14_0 := blk_frozen BK518.out 0; have hfz14_1 := blk_frozen BK518.out 1) | ((with_reducible refine gate_callee (f := 35) rfl ?_); refine goesL_ (some 30) rfl rfl Try.func35 (by kernel_rfl) rfl #[.agg #[.slice Ao9 t509.length co9, .slice Ao11 t512.length co11], .slice Ao12 t515.length co12] rfl (by (try simp only [List.map_toArray, List.map_cons, List.map_nil]); first | done | rfl | (simp only [List.length_drop, List.length_take]; rfl)) ?_; (with_reducible refine (spec_ChoiceQuasi.calls k _ _ t509 _ _ t512 _ _ t515 t520 _ ?side1 ?side2 ?side3 ?side4 ?side5 ?side6 A5.out).mono ?_); (case side1 => exact cU ((Kd.Q_reads' HO511.out).2.2)); (case side2 => exact (Kd.Q_reads' HO511.out).2.1); (case side3 => exact cU ((Kd.R_reads' HO514.out).2.2)); (case side4 => exact (Kd.R_reads' HO514.out).2.1); (case side5 => exact cU ((Kd.R_reads' HO517.out).2.2)); (case side6 => exact (Kd.R_reads' HO517.out).2.1); rintro e w15 ⟨rfl, hb⟩; refine ⟨_, rfl, ?_⟩; have n0 := Az (Kd.Q_below (qU HO511.out) hb); have n1 := Az (Kd.R_below (rU HO514.out) hb); have n2 := Az (Kd.R_below (rU HO517.out) hb); have n3 := Az (blk_below (g := gb518) (o := .cells #[.slice Ao9 t509.length co9, .slice Ao11 t512.length co11] 25 (0, 0)) (kU BK518.out) hb); have n4 := Az (below_step (bU1 HB.out GE518.out) hb); clear HO511 HO514 HO517 BK518 HB; have HO511 := n0; have HO514 := n1; have HO517 := n2; have BK518 := n3; have HB := n4; clear n0 n1 n2 n3 n4; (try clear hb); (try clear hb2); (try clear hk); (try clear hi)))
  (try simp only [Act.put, List.setIfInBounds_toArray, List.set_cons_zero, List.set_cons_succ])
  go_cut [37] (fun v37 wc => ∃ (kq : Nat) (x37_5 : Bool), v37 = .bool x37_5 ∧ Aside0 (laws_FnChoiceQuasi.j0 kq t515 t519 t520 x37_5 t509 t512 = some r) ∧ Aside0 (kq ≤ k) ∧ Aside0 (Kd.R (Kd.int .i64) 3 wc w.heap.size (fun k_ => some k_ ≠ ((.slice Ao9 t509.length co9) : Value).ownBlock ∧ some k_ ≠ ((.slice Ao11 t512.length co11) : Value).ownBlock) (.slice Ao12 t515.length co12) t515) ∧ Aside0 (Kd.Q (Kd.int .i64) 3 wc w.heap.size (fun k_ => some k_ ≠ ((.slice Ao12 t515.length co12) : Value).ownBlock ∧ some k_ ≠ ((.slice Ao11 t512.length co11) : Value).ownBlock) (.slice Ao9 t509.length co9) t509) ∧ Aside0 (Kd.R (Kd.int .i64) 3 wc w.heap.size (fun k_ => some k_ ≠ ((.slice Ao12 t515.length co12) : Value).ownBlock ∧ some k_ ≠ ((.slice Ao9 t509.length co9) : Value).ownBlock) (.slice Ao11 t512.length co11) t512) ∧ Aside0 (wc.heap[gb518]? = some (.cells #[(.slice Ao9 t509.length co9), (.slice Ao11 t512.length co11)] 25 (0, 0))) ∧ Aside0 (Below w.heap.size w wc))
  case first =>
   have H := HC6.out; clear HC6
   by_cases c16 : (t519 != t520) = true
   ·
    rw [if_pos c16] at H; have c16b0 : (t519 != t520) = true := c16; (try (have c16b1 : decide (t519 = t520) = false := by simpa using c16)); (try (have c16b2 : (t519 == t520) = false := by simpa using c16)); (try (have c16b3 : ¬ (t519 = t520) := by simpa using c16)); clear c16; (first | rw [c16b0] | (simp only [i64_w, i32_w]; rw [c16b0]) | skip); have H' := Az H; clear H
    go_wp2
    go_meet
    case rel => exact ⟨_, (true), rS, H', ⟨by first | omega | exact Nat.le_refl _⟩, ⟨rU HO517.out⟩, ⟨by (with_reducible repeat (first | apply Kd.Q_alloc | apply Kd.Q_drewN | apply Kd.Q_drew)); exact Kd.Q_mono HO511.out (fun _ hk => ⟨hk.2, hk.1⟩)⟩, ⟨by (with_reducible repeat (first | apply Kd.R_alloc | apply Kd.R_drewN | apply Kd.R_drew)); exact Kd.R_mono HO514.out (fun _ hk => ⟨hk.2, hk.1⟩)⟩, ⟨kU BK518.out⟩, ⟨bU1 HB.out GE518.out⟩⟩
   ·
    rw [if_neg c16] at H
    have c16b0 : (t519 != t520) = false := by simpa using c16
    (try (have c16b1 : decide (t519 = t520) = true := by simpa using c16)); (try (have c16b2 : (t519 == t520) = true := by simpa using c16)); clear c16; (first | rw [c16b0] | (simp only [i64_w, i32_w]; rw [c16b0]) | skip); have H' := Az H; clear H
    go_wp2
    go_meet
    case rel => exact ⟨_, (!t519), rS, H', ⟨by first | omega | exact Nat.le_refl _⟩, ⟨rU HO517.out⟩, ⟨by (with_reducible repeat (first | apply Kd.Q_alloc | apply Kd.Q_drewN | apply Kd.Q_drew)); exact Kd.Q_mono HO511.out (fun _ hk => ⟨hk.2, hk.1⟩)⟩, ⟨by (with_reducible repeat (first | apply Kd.R_alloc | apply Kd.R_drewN | apply Kd.R_drew)); exact Kd.R_mono HO514.out (fun _ hk => ⟨hk.2, hk.1⟩)⟩, ⟨kU BK518.out⟩, ⟨bU1 HB.out GE518.out⟩⟩
  case rest =>
   clear HC6; (try clear c1); (try clear c2); (try clear c2b0); (try clear c2b1); (try clear p2); (try clear c3); (try clear c7); (try clear c16); (try clear c16b0); (try clear c16b1); (try clear c16b2); (try clear hcz10_0); (try clear hcz10_1); (try clear hcz14_0); (try clear hcz14_1); (try clear hfz10_0); (try clear hfz10_1); (try clear hfz14_0); (try clear hfz14_1); obtain ⟨kq, x37_5, rfl, HA, HJ5, HO_4, HO_Z0, HO_Z1, BK518, HB⟩ := hcut
   cases kq with
   | zero => exact absurd HA.out (by simp [laws_FnChoiceQuasi.j0])
   | succ kj5 =>
    have H := HA.out; clear HA; simp only [laws_FnChoiceQuasi.j0] at H
    by_cases c17 : x37_5 = true
    ·
     subst c17
     have H1 : (some (t519 == t520)) = some r := by rw [if_pos rfl] at H; exact H
     clear H; have H := H1; clear H1; obtain rfl := Option.some.inj H
     go_wp2
     go_ret
     exact ⟨rE, bU1 HB.out GE518.out⟩
    ·
     replace c17 := Bool.eq_false_iff.mpr c17; subst c17
     have H1 : ((impl_ChoiceRest.f kj5 t509 t512 t515).bind fun bt521 => ((impl_MapDual.f kj5 t509 t512).bind fun bt525 => ((impl_MapCounts.f kj5 t509 t512).bind fun bt533 => ((impl_ChoiceCounts.f kj5 t509 t512 t515).bind fun bt537 => ((impl_ChoiceCounts.f kj5 bt525.1 bt525.2.1 bt521.1).bind fun bt541 => (if bt521.2 = true then (if bt525.2.2 = true then (if bt533.2 = true then (if bt537.2 = true then (if bt541.2 = true then ((impl_ChoiceQuasi.f kj5 bt525.1 bt525.2.1 bt521.1).bind fun t545 => (if t545 = true then (if 0 < (bt533.1.length : Int) then (if 4 < (bt537.1.length : Int) then (if (t515.length : Int) = (wrap64 ((wrap64 ((rd bt533.1 0) - 1)) + (wrap64 (2 * (rd bt537.1 4))))) then (if 4 < (bt541.1.length : Int) then ((impl_MapGenus.f kj5 t509 t512).bind fun t550 => (some ((wrap64 ((rd bt537.1 4) + (rd bt541.1 4))) == t550))) else (none)) else (some false)) else (none)) else (none)) else (some false))) else (some false)) else (some false)) else (some false)) else (some false)) else (some false))))))) = some r := by rw [if_neg (show ¬ (false = true) by decide)] at H; exact H
     clear H; have H := H1; clear H1; replace H := Option.bind_eq_some_iff.mp H; obtain ⟨⟨t521, t524⟩, A180, H⟩ := H; replace H : ((impl_MapDual.f kj5 t509 t512).bind fun bt525 => ((impl_MapCounts.f kj5 t509 t512).bind fun bt533 => ((impl_ChoiceCounts.f kj5 t509 t512 t515).bind fun bt537 => ((impl_ChoiceCounts.f kj5 bt525.1 bt525.2.1 t521).bind fun bt541 => (if t524 = true then (if bt525.2.2 = true then (if bt533.2 = true then (if bt537.2 = true then (if bt541.2 = true then ((impl_ChoiceQuasi.f kj5 bt525.1 bt525.2.1 t521).bind fun t545 => (if t545 = true then (if 0 < (bt533.1.length : Int) then (if 4 < (bt537.1.length : Int) then (if (t515.length : Int) = (wrap64 ((wrap64 ((rd bt533.1 0) - 1)) + (wrap64 (2 * (rd bt537.1 4))))) then (if 4 < (bt541.1.length : Int) then ((impl_MapGenus.f kj5 t509 t512).bind fun t550 => (some ((wrap64 ((rd bt537.1 4) + (rd bt541.1 4))) == t550))) else (none)) else (some false)) else (none)) else (none)) else (some false))) else (some false)) else (some false)) else (some false)) else (some false)) else (some false)))))) = some r := H; have A18 := Az A180; clear A180; replace H := Option.bind_eq_some_iff.mp H; obtain ⟨⟨t525, t528, t531⟩, A190, H⟩ := H; replace H : ((impl_MapCounts.f kj5 t509 t512).bind fun bt533 => ((impl_ChoiceCounts.f kj5 t509 t512 t515).bind fun bt537 => ((impl_ChoiceCounts.f kj5 t525 t528 t521).bind fun bt541 => (if t524 = true then (if t531 = true then (if bt533.2 = true then (if bt537.2 = true then (if bt541.2 = true then ((impl_ChoiceQuasi.f kj5 t525 t528 t521).bind fun t545 => (if t545 = true then (if 0 < (bt533.1.length : Int) then (if 4 < (bt537.1.length : Int) then (if (t515.length : Int) = (wrap64 ((wrap64 ((rd bt533.1 0) - 1)) + (wrap64 (2 * (rd bt537.1 4))))) then (if 4 < (bt541.1.length : Int) then ((impl_MapGenus.f kj5 t509 t512).bind fun t550 => (some ((wrap64 ((rd bt537.1 4) + (rd bt541.1 4))) == t550))) else (none)) else (some false)) else (none)) else (none)) else (some false))) else (some false)) else (some false)) else (some false)) else (some false)) else (some false))))) = some r := H; have A19 := Az A190; clear A190; replace H := Option.bind_eq_some_iff.mp H; obtain ⟨⟨t533, t536⟩, A200, H⟩ := H; replace H : ((impl_ChoiceCounts.f kj5 t509 t512 t515).bind fun bt537 => ((impl_ChoiceCounts.f kj5 t525 t528 t521).bind fun bt541 => (if t524 = true then (if t531 = true then (if t536 = true then (if bt537.2 = true then (if bt541.2 = true then ((impl_ChoiceQuasi.f kj5 t525 t528 t521).bind fun t545 => (if t545 = true then (if 0 < (t533.length : Int) then (if 4 < (bt537.1.length : Int) then (if (t515.length : Int) = (wrap64 ((wrap64 ((rd t533 0) - 1)) + (wrap64 (2 * (rd bt537.1 4))))) then (if 4 < (bt541.1.length : Int) then ((impl_MapGenus.f kj5 t509 t512).bind fun t550 => (some ((wrap64 ((rd bt537.1 4) + (rd bt541.1 4))) == t550))) else (none)) else (some false)) else (none)) else (none)) else (some false))) else (some false)) else (some false)) else (some false)) else (some false)) else (some false)))) = some r := H; have A20 := Az A200; clear A200; replace H := Option.bind_eq_some_iff.mp H; obtain ⟨⟨t537, t540⟩, A210, H⟩ := H; replace H : ((impl_ChoiceCounts.f kj5 t525 t528 t521).bind fun bt541 => (if t524 = true then (if t531 = true then (if t536 = true then (if t540 = true then (if bt541.2 = true then ((impl_ChoiceQuasi.f kj5 t525 t528 t521).bind fun t545 => (if t545 = true then (if 0 < (t533.length : Int) then (if 4 < (t537.length : Int) then (if (t515.length : Int) = (wrap64 ((wrap64 ((rd t533 0) - 1)) + (wrap64 (2 * (rd t537 4))))) then (if 4 < (bt541.1.length : Int) then ((impl_MapGenus.f kj5 t509 t512).bind fun t550 => (some ((wrap64 ((rd t537 4) + (rd bt541.1 4))) == t550))) else (none)) else (some false)) else (none)) else (none)) else (some false))) else (some false)) else (some false)) else (some false)) else (some false)) else (some false))) = some r := H; have A21 := Az A210; clear A210; replace H := Option.bind_eq_some_iff.mp H; obtain ⟨⟨t541, t544⟩, A220, H⟩ := H; replace H : (if t524 = true then (if t531 = true then (if t536 = true then (if t540 = true then (if t544 = true then ((impl_ChoiceQuasi.f kj5 t525 t528 t521).bind fun t545 => (if t545 = true then (if 0 < (t533.length : Int) then (if 4 < (t537.length : Int) then (if (t515.length : Int) = (wrap64 ((wrap64 ((rd t533 0) - 1)) + (wrap64 (2 * (rd t537 4))))) then (if 4 < (t541.length : Int) then ((impl_MapGenus.f kj5 t509 t512).bind fun t550 => (some ((wrap64 ((rd t537 4) + (rd t541 4))) == t550))) else (none)) else (some false)) else (none)) else (none)) else (some false))) else (some false)) else (some false)) else (some false)) else (some false)) else (some false)) = some r := H; have A22 := Az A220; clear A220; have hcz35_0 : wc.cell? ⟨gb518, 0, none⟩ = some (.slice Ao9 t509.length co9) := (blk_cell BK518.out 0).trans rfl; have hcz35_1 : wc.cell? ⟨gb518, 1, none⟩ = some (.slice Ao11 t512.length co11) := (blk_cell BK518.out 1).trans rfl; have hfz35_0 := blk_frozen BK518.out 0; have hfz35_1 := blk_frozen BK518.out 1
     try go_wp2_with (first | ((with_reducible refine gate_callee (f := 18) rfl ?_); refine goesL_ (some 44) rfl rfl Try.func18 (by kernel_rfl) rfl #[.agg #[.slice Ao9 t509.length co9, .slice Ao11 t512.length co11], .slice Ao12 t515.length co12] rfl (by (try simp only [List.map_toArray, List.map_cons, List.map_nil]); first | done | rfl | (simp only [List.length_drop, List.length_take]; rfl)) ?_; (with_reducible refine (impl_ChoiceRest.calls kj5 _ _ t509 _ _ t512 _ _ t515 t521 t524 _ ?side1 ?side2 ?side3 ?side4 ?side5 ?side6 A18.out).mono ?_); (case side1 => exact cU ((Kd.Q_reads' HO_Z0.out).2.2)); (case side2 => exact (Kd.Q_reads' HO_Z0.out).2.1); (case side3 => exact cU ((Kd.R_reads' HO_Z1.out).2.2)); (case side4 => exact (Kd.R_reads' HO_Z1.out).2.1); (case side5 => exact cU ((Kd.R_reads' HO_4.out).2.2)); (case side6 => exact (Kd.R_reads' HO_4.out).2.1); rintro e w36 ⟨v522, rfl, ho0, hb⟩; refine ⟨_, rfl, ?_⟩; have n0 := Az (Kd.R_elder' (rU HO_4.out) (Kd.R_base ho0) hb); have n1 := Az (Kd.Q_elder' (qU HO_Z0.out) (Kd.R_base ho0) hb); have n2 := Az (Kd.R_elder' (rU HO_Z1.out) (Kd.R_base ho0) hb); have n3 := Az (Kd.R_lower (Kd.R_new' (Kd.R_new' (Kd.R_new' ho0 (Kd.R_lt (rU HO_4.out))) (Kd.Q_lt (qU HO_Z0.out))) (Kd.R_lt (rU HO_Z1.out))) (below_size (bU1 HB.out GE518.out))); have n4 := Az (blk_below (g := gb518) (o := .cells #[.slice Ao9 t509.length co9, .slice Ao11 t512.length co11] 25 (0, 0)) (kU BK518.out) hb); have n5 := Az (below_step (bU1 HB.out GE518.out) hb); clear HO_4 HO_Z0 HO_Z1 BK518 HB; have HO_4 := n0; have HO_Z0 := n1; have HO_Z1 := n2; have HO523 := n3; have BK518 := n4; have HB := n5; clear n0 n1 n2 n3 n4 n5; (try clear hb); (try clear hb2); (try clear hk); (try clear hi); (try clear ho0); have hcz37_0 : w36.cell? ⟨gb518, 0, none⟩ = some (.slice Ao9 t509.length co9) := (blk_cell BK518.out 0).trans rfl; have hcz37_1 : w36.cell? ⟨gb518, 1, none⟩ = some (.slice Ao11 t512.length co11) := (blk_cell BK518.out 1).trans rfl; have hfz37_0 := blk_frozen BK518.out 0; have hfz37_1 := blk_frozen BK518.out 1) | ((with_reducible refine gate_callee (f := 26) rfl ?_); refine goesL_ (some 49) rfl rfl Try.func26 (by kernel_rfl) rfl #[.agg #[.slice Ao9 t509.length co9, .slice Ao11 t512.length co11]] rfl (by (try simp only [List.map_toArray, List.map_cons, List.map_nil]); first | done | rfl | (simp only [List.length_drop, List.length_take]; rfl)) ?_; (with_reducible refine (impl_MapDual.calls kj5 _ _ t509 _ _ t512 t525 t528 t531 _ ?side1 ?side2 ?side3 ?side4 A19.out).mono ?_); (case side1 => exact cU ((Kd.Q_reads' HO_Z0.out).2.2)); (case side2 => exact (Kd.Q_reads' HO_Z0.out).2.1); (case side3 => exact cU ((Kd.R_reads' HO_Z1.out).2.2)); (case side4 => exact (Kd.R_reads' HO_Z1.out).2.1); rintro e w38 ⟨v526, v529, rfl, ho0, ho1, hb⟩; refine ⟨_, rfl, ?_⟩; have n0 := Az (Kd.R_mono (Kd.R_told (Kd.R_told (Kd.R_old (rU HO_4.out) hb) (Kd.R_base ho0)) (Kd.R_base ho1)) (fun _ h_ => h_.1)); have n1 := Az (Kd.Q_mono (Kd.Q_told (Kd.Q_told (Kd.Q_old (qU HO_Z0.out) hb) (Kd.R_base ho0)) (Kd.R_base ho1)) (fun _ h_ => h_.1)); have n2 := Az (Kd.R_mono (Kd.R_told (Kd.R_told (Kd.R_old (rU HO_Z1.out) hb) (Kd.R_base ho0)) (Kd.R_base ho1)) (fun _ h_ => h_.1)); have n3 := Az (Kd.R_mono (Kd.R_told (Kd.R_told (Kd.R_old (rU HO523.out) hb) (Kd.R_base ho0)) (Kd.R_base ho1)) (fun _ h_ => h_.1)); have n4 := Az (Kd.R_lower (Kd.R_new' (Kd.R_new' (Kd.R_new' (Kd.R_new' ho0 (Kd.R_lt (rU HO_4.out))) (Kd.Q_lt (qU HO_Z0.out))) (Kd.R_lt (rU HO_Z1.out))) (Kd.R_lt (rU HO523.out))) (below_size (bU1 HB.out GE518.out))); have n5 := Az (Kd.R_lower (Kd.R_new' (Kd.R_new' (Kd.R_new' (Kd.R_new' ho1 (Kd.R_lt (rU HO_4.out))) (Kd.Q_lt (qU HO_Z0.out))) (Kd.R_lt (rU HO_Z1.out))) (Kd.R_lt (rU HO523.out))) (below_size (bU1 HB.out GE518.out))); have n6 := Az (blk_below (g := gb518) (o := .cells #[.slice Ao9 t509.length co9, .slice Ao11 t512.length co11] 25 (0, 0)) (kU BK518.out) hb); have n7 := Az (below_step (bU1 HB.out GE518.out) hb); clear HO_4 HO_Z0 HO_Z1 HO523 BK518 HB; have HO_4 := n0; have HO_Z0 := n1; have HO_Z1 := n2; have HO523 := n3; have HO527 := n4; have HO530 := n5; have BK518 := n6; have HB := n7; clear n0 n1 n2 n3 n4 n5 n6 n7; (try clear hb); (try clear hb2); (try clear hk); (try clear hi); (try clear ho0); (try clear ho1)) | ((with_reducible refine gate_dst (N := 9) rfl ?_); (try (refine gate_guard (by rfl) ?_; dsimp only)); refine box_event ?hg (N := 9) ?hd (cs := #[.slice none 0 0, .slice none 0 0]) (t := 25) ?hr ?_; (case hd => rfl); (case hg => rfl); (case hr => first | (go_simp; done) | (go_simp; rfl)); intro gb532 hg w39 hbox hb; have n0 := Az (Kd.R_below (rU HO_4.out) hb); have n1 := Az (Kd.Q_below (qU HO_Z0.out) hb); have n2 := Az (Kd.R_below (rU HO_Z1.out) hb); have n3 := Az (Kd.R_below (rU HO523.out) hb); have n4 := Az (Kd.R_below (rU HO527.out) hb); have n5 := Az (Kd.R_below (rU HO530.out) hb); have n6 := Az (blk_below (g := gb518) (o := .cells #[.slice Ao9 t509.length co9, .slice Ao11 t512.length co11] 25 (0, 0)) (kU BK518.out) hb); have n7 := Az (below_step (bU1 HB.out GE518.out) hb); have n8 := Az (hbox); have n9 := Az ((by rw [hg]; exact (below_size (bU1 HB.out GE518.out)) : w.heap.size ≤ gb532)); have n10 := n9; have n11 := Az ((by rw [hg]; exact Nat.ne_of_lt (blk_lt (g := gb518) (o := .cells #[.slice Ao9 t509.length co9, .slice Ao11 t512.length co11] 25 (0, 0)) (kU BK518.out)) : gb518 ≠ gb532)); have n12 := Az ((by rw [hg]; exact Nat.ne_of_gt (blk_lt (g := gb518) (o := .cells #[.slice Ao9 t509.length co9, .slice Ao11 t512.length co11] 25 (0, 0)) (kU BK518.out)) : gb532 ≠ gb518)); clear HO_4 HO_Z0 HO_Z1 HO523 HO527 HO530 BK518 HB; have HO_4 := n0; have HO_Z0 := n1; have HO_Z1 := n2; have HO523 := n3; have HO527 := n4; have HO530 := n5; have BK518 := n6; have HB := n7; have BK532 := n8; have GW532 := n9; have GE532 := n10; have NB518_532 := n11; have NB532_518 := n12; clear n0 n1 n2 n3 n4 n5 n6 n7 n8 n9 n10 n11 n12 hb hbox hg; obtain ⟨Ao40, co40, eo40⟩ := Kd.R_slice HO527.out; subst eo40; have hnb41 := NB532_518.out; have hnc41 := NB518_532.out; have hcz42_0 : w39.cell? ⟨gb532, 0, none⟩ = some (.slice none 0 0) := (blk_cell BK532.out 0).trans rfl; have hcz42_1 : w39.cell? ⟨gb532, 1, none⟩ = some (.slice none 0 0) := (blk_cell BK532.out 1).trans rfl; have hfz42_0 := blk_frozen BK532.out 0; have hfz42_1 := blk_frozen BK532.out 1; obtain ⟨Ao43, co43, eo43⟩ := Kd.R_slice HO530.out; subst eo43; have hcz44_0 : w39.cell? ⟨gb518, 0, none⟩ = some (.slice Ao9 t509.length co9) := (blk_cell BK518.out 0).trans rfl; have hcz44_1 : w39.cell? ⟨gb518, 1, none⟩ = some (.slice Ao11 t512.length co11) := (blk_cell BK518.out 1).trans rfl; have hfz44_0 := blk_frozen BK518.out 0; have hfz44_1 := blk_frozen BK518.out 1) | ((with_reducible refine gate_callee (f := 19) rfl ?_); refine goesL_ (some 54) rfl rfl Try.func19 (by kernel_rfl) rfl #[.agg #[.slice Ao9 t509.length co9, .slice Ao11 t512.length co11]] rfl (by (try simp only [List.map_toArray, List.map_cons, List.map_nil]); first | done | rfl | (simp only [List.length_drop, List.length_take]; rfl)) ?_; (with_reducible refine (impl_MapCounts.calls kj5 _ _ t509 _ _ t512 t533 t536 _ ?side1 ?side2 ?side3 ?side4 A20.out).mono ?_); (case side1 => refine (Kd.Q_reads' (e := 3) (base := w.heap.size) (ok := fun k_ => ((((some k_ ≠ (.slice Ao12 t515.length co12 : Value).ownBlock ∧ some k_ ≠ (.slice Ao11 t512.length co11 : Value).ownBlock) ∧ some k_ ≠ (v522 : Value).ownBlock) ∧ some k_ ≠ (.slice Ao40 t525.length co40 : Value).ownBlock) ∧ some k_ ≠ (.slice Ao43 t528.length co43 : Value).ownBlock)) (n := t509.length) (c := co9) ?_).2.2; exact (by (with_reducible repeat (first | apply Kd.Q_alloc | apply Kd.Q_drewN | apply Kd.Q_drew)); exact (Kd.Q_mono (Kd.Q_far (p := ⟨gb532, 1, none⟩) (Kd.Q_far (p := ⟨gb532, 0, none⟩) (Kd.Q_types HO_Z0.out BK532.out (by decide)) (fun _ hk => hk.2) (.slice Ao40 t525.length co40)) (fun _ hk => hk.2) (.slice Ao43 t528.length co43)) (fun _ h_ => h_.1)))); (case side2 => exact (Kd.Q_reads' HO_Z0.out).2.1); (case side3 => refine (Kd.R_reads' (e := 3) (base := w.heap.size) (ok := fun k_ => ((((some k_ ≠ (.slice Ao12 t515.length co12 : Value).ownBlock ∧ some k_ ≠ (.slice Ao9 t509.length co9 : Value).ownBlock) ∧ some k_ ≠ (v522 : Value).ownBlock) ∧ some k_ ≠ (.slice Ao40 t525.length co40 : Value).ownBlock) ∧ some k_ ≠ (.slice Ao43 t528.length co43 : Value).ownBlock)) (n := t512.length) (c := co11) ?_).2.2; exact (by (with_reducible repeat (first | apply Kd.R_alloc | apply Kd.R_drewN | apply Kd.R_drew)); exact (Kd.R_mono (Kd.R_far (p := ⟨gb532, 1, none⟩) (Kd.R_far (p := ⟨gb532, 0, none⟩) (Kd.R_types HO_Z1.out BK532.out (by decide)) (fun _ hk => hk.2) (.slice Ao40 t525.length co40)) (fun _ hk => hk.2) (.slice Ao43 t528.length co43)) (fun _ h_ => h_.1)))); (case side4 => exact (Kd.R_reads' HO_Z1.out).2.1); rintro e w45 ⟨v534, rfl, ho0, hb⟩; refine ⟨_, rfl, ?_⟩; have n0 := Az (Kd.R_elder' (by (with_reducible repeat (first | apply Kd.R_alloc | apply Kd.R_drewN | apply Kd.R_drew)); exact (Kd.R_mono (Kd.R_far (p := ⟨gb532, 1, none⟩) (Kd.R_far (p := ⟨gb532, 0, none⟩) (Kd.R_types HO_4.out BK532.out (by decide)) (fun _ hk => hk.2) (.slice Ao40 t525.length co40)) (fun _ hk => hk.2) (.slice Ao43 t528.length co43)) (fun _ h_ => h_.1))) (Kd.R_base ho0) hb); have n1 := Az (Kd.Q_elder' (by (with_reducible repeat (first | apply Kd.Q_alloc | apply Kd.Q_drewN | apply Kd.Q_drew)); exact (Kd.Q_mono (Kd.Q_far (p := ⟨gb532, 1, none⟩) (Kd.Q_far (p := ⟨gb532, 0, none⟩) (Kd.Q_types HO_Z0.out BK532.out (by decide)) (fun _ hk => hk.2) (.slice Ao40 t525.length co40)) (fun _ hk => hk.2) (.slice Ao43 t528.length co43)) (fun _ h_ => h_.1))) (Kd.R_base ho0) hb); have n2 := Az (Kd.R_elder' (by (with_reducible repeat (first | apply Kd.R_alloc | apply Kd.R_drewN | apply Kd.R_drew)); exact (Kd.R_mono (Kd.R_far (p := ⟨gb532, 1, none⟩) (Kd.R_far (p := ⟨gb532, 0, none⟩) (Kd.R_types HO_Z1.out BK532.out (by decide)) (fun _ hk => hk.2) (.slice Ao40 t525.length co40)) (fun _ hk => hk.2) (.slice Ao43 t528.length co43)) (fun _ h_ => h_.1))) (Kd.R_base ho0) hb); have n3 := Az (Kd.R_elder' (by (with_reducible repeat (first | apply Kd.R_alloc | apply Kd.R_drewN | apply Kd.R_drew)); exact (Kd.R_mono (Kd.R_far (p := ⟨gb532, 1, none⟩) (Kd.R_far (p := ⟨gb532, 0, none⟩) (Kd.R_types HO523.out BK532.out (by decide)) (fun _ hk => hk.2) (.slice Ao40 t525.length co40)) (fun _ hk => hk.2) (.slice Ao43 t528.length co43)) (fun _ h_ => h_.1))) (Kd.R_base ho0) hb); have n4 := Az (Kd.R_elder' (by (with_reducible repeat (first | apply Kd.R_alloc | apply Kd.R_drewN | apply Kd.R_drew)); exact (Kd.R_mono (Kd.R_far (p := ⟨gb532, 1, none⟩) (Kd.R_far (p := ⟨gb532, 0, none⟩) (Kd.R_types HO527.out BK532.out (by decide)) (fun _ hk => hk.2) (.slice Ao40 t525.length co40)) (fun _ hk => hk.2) (.slice Ao43 t528.length co43)) (fun _ h_ => h_.1))) (Kd.R_base ho0) hb); have n5 := Az (Kd.R_elder' (by (with_reducible repeat (first | apply Kd.R_alloc | apply Kd.R_drewN | apply Kd.R_drew)); exact (Kd.R_mono (Kd.R_far (p := ⟨gb532, 1, none⟩) (Kd.R_far (p := ⟨gb532, 0, none⟩) (Kd.R_types HO530.out BK532.out (by decide)) (fun _ hk => hk.2) (.slice Ao40 t525.length co40)) (fun _ hk => hk.2) (.slice Ao43 t528.length co43)) (fun _ h_ => h_.1))) (Kd.R_base ho0) hb); have n6 := Az (Kd.R_lower (Kd.R_new' (Kd.R_new' (Kd.R_new' (Kd.R_new' (Kd.R_new' (Kd.R_new' ho0 (Kd.R_lt (by (with_reducible repeat (first | apply Kd.R_alloc | apply Kd.R_drewN | apply Kd.R_drew)); exact (Kd.R_mono (Kd.R_far (p := ⟨gb532, 1, none⟩) (Kd.R_far (p := ⟨gb532, 0, none⟩) (Kd.R_types HO_4.out BK532.out (by decide)) (fun _ hk => hk.2) (.slice Ao40 t525.length co40)) (fun _ hk => hk.2) (.slice Ao43 t528.length co43)) (fun _ h_ => h_.1))))) (Kd.Q_lt (by (with_reducible repeat (first | apply Kd.Q_alloc | apply Kd.Q_drewN | apply Kd.Q_drew)); exact (Kd.Q_mono (Kd.Q_far (p := ⟨gb532, 1, none⟩) (Kd.Q_far (p := ⟨gb532, 0, none⟩) (Kd.Q_types HO_Z0.out BK532.out (by decide)) (fun _ hk => hk.2) (.slice Ao40 t525.length co40)) (fun _ hk => hk.2) (.slice Ao43 t528.length co43)) (fun _ h_ => h_.1))))) (Kd.R_lt (by (with_reducible repeat (first | apply Kd.R_alloc | apply Kd.R_drewN | apply Kd.R_drew)); exact (Kd.R_mono (Kd.R_far (p := ⟨gb532, 1, none⟩) (Kd.R_far (p := ⟨gb532, 0, none⟩) (Kd.R_types HO_Z1.out BK532.out (by decide)) (fun _ hk => hk.2) (.slice Ao40 t525.length co40)) (fun _ hk => hk.2) (.slice Ao43 t528.length co43)) (fun _ h_ => h_.1))))) (Kd.R_lt (by (with_reducible repeat (first | apply Kd.R_alloc | apply Kd.R_drewN | apply Kd.R_drew)); exact (Kd.R_mono (Kd.R_far (p := ⟨gb532, 1, none⟩) (Kd.R_far (p := ⟨gb532, 0, none⟩) (Kd.R_types HO523.out BK532.out (by decide)) (fun _ hk => hk.2) (.slice Ao40 t525.length co40)) (fun _ hk => hk.2) (.slice Ao43 t528.length co43)) (fun _ h_ => h_.1))))) (Kd.R_lt (by (with_reducible repeat (first | apply Kd.R_alloc | apply Kd.R_drewN | apply Kd.R_drew)); exact (Kd.R_mono (Kd.R_far (p := ⟨gb532, 1, none⟩) (Kd.R_far (p := ⟨gb532, 0, none⟩) (Kd.R_types HO527.out BK532.out (by decide)) (fun _ hk => hk.2) (.slice Ao40 t525.length co40)) (fun _ hk => hk.2) (.slice Ao43 t528.length co43)) (fun _ h_ => h_.1))))) (Kd.R_lt (by (with_reducible repeat (first | apply Kd.R_alloc | apply Kd.R_drewN | apply Kd.R_drew)); exact (Kd.R_mono (Kd.R_far (p := ⟨gb532, 1, none⟩) (Kd.R_far (p := ⟨gb532, 0, none⟩) (Kd.R_types HO530.out BK532.out (by decide)) (fun _ hk => hk.2) (.slice Ao40 t525.length co40)) (fun _ hk => hk.2) (.slice Ao43 t528.length co43)) (fun _ h_ => h_.1))))) (below_size (bU2 HB.out GE518.out GE532.out))); have n7 := Az (blk_below (g := gb518) (o := .cells #[.slice Ao9 t509.length co9, .slice Ao11 t512.length co11] 25 (0, 0)) (by (with_reducible repeat (first | refine blk_drewN ?_ _ | refine blk_drew ?_ | refine blk_alloc ?_ _)); refine blk_far ?_ NB518_532.out _; (with_reducible repeat (first | refine blk_drewN ?_ _ | refine blk_drew ?_ | refine blk_alloc ?_ _)); refine blk_far ?_ NB518_532.out _; (with_reducible repeat (first | refine blk_drewN ?_ _ | refine blk_drew ?_ | refine blk_alloc ?_ _)); exact BK518.out) hb); have n8 := Az (blk_below (g := gb532) (o := .cells #[.slice Ao40 t525.length co40, .slice Ao43 t528.length co43] 25 (0, 0)) (by (with_reducible repeat (first | refine blk_drewN ?_ _ | refine blk_drew ?_ | refine blk_alloc ?_ _)); refine blk_put (cs := #[.slice Ao40 t525.length co40, .slice none 0 0]) ?_ 1 _ rfl; (with_reducible repeat (first | refine blk_drewN ?_ _ | refine blk_drew ?_ | refine blk_alloc ?_ _)); refine blk_put (cs := #[.slice none 0 0, .slice none 0 0]) ?_ 0 _ rfl; (with_reducible repeat (first | refine blk_drewN ?_ _ | refine blk_drew ?_ | refine blk_alloc ?_ _)); exact BK532.out) hb); have n9 := Az (below_step (bU2 HB.out GE518.out GE532.out) hb); clear HO_4 HO_Z0 HO_Z1 HO523 HO527 HO530 BK518 BK532 HB; have HO_4 := n0; have HO_Z0 := n1; have HO_Z1 := n2; have HO523 := n3; have HO527 := n4; have HO530 := n5; have HO535 := n6; have BK518 := n7; have BK532 := n8; have HB := n9; clear n0 n1 n2 n3 n4 n5 n6 n7 n8 n9; (try clear hb); (try clear hb2); (try clear hk); (try clear hi); (try clear ho0); have hcz46_0 : w45.cell? ⟨gb518, 0, none⟩ = some (.slice Ao9 t509.length co9) := (blk_cell BK518.out 0).trans rfl; have hcz46_1 : w45.cell? ⟨gb518, 1, none⟩ = some (.slice Ao11 t512.length co11) := (blk_cell BK518.out 1).trans rfl; have hfz46_0 := blk_frozen BK518.out 0; have hfz46_1 := blk_frozen BK518.out 1) | ((with_reducible refine gate_callee (f := 20) rfl ?_); refine goesL_ (some 60) rfl rfl Try.func20 (by kernel_rfl) rfl #[.agg #[.slice Ao9 t509.length co9, .slice Ao11 t512.length co11], .slice Ao12 t515.length co12] rfl (by (try simp only [List.map_toArray, List.map_cons, List.map_nil]); first | done | rfl | (simp only [List.length_drop, List.length_take]; rfl)) ?_; (with_reducible refine (impl_ChoiceCounts.calls kj5 _ _ t509 _ _ t512 _ _ t515 t537 t540 _ ?side1 ?side2 ?side3 ?side4 ?side5 ?side6 A21.out).mono ?_); (case side1 => exact cU ((Kd.Q_reads' HO_Z0.out).2.2)); (case side2 => exact (Kd.Q_reads' HO_Z0.out).2.1); (case side3 => exact cU ((Kd.R_reads' HO_Z1.out).2.2)); (case side4 => exact (Kd.R_reads' HO_Z1.out).2.1); (case side5 => exact cU ((Kd.R_reads' HO_4.out).2.2)); (case side6 => exact (Kd.R_reads' HO_4.out).2.1); rintro e w47 ⟨v538, rfl, ho0, hb⟩; refine ⟨_, rfl, ?_⟩; have n0 := Az (Kd.R_elder' (rU HO_4.out) (Kd.R_base ho0) hb); have n1 := Az (Kd.Q_elder' (qU HO_Z0.out) (Kd.R_base ho0) hb); have n2 := Az (Kd.R_elder' (rU HO_Z1.out) (Kd.R_base ho0) hb); have n3 := Az (Kd.R_elder' (rU HO523.out) (Kd.R_base ho0) hb); have n4 := Az (Kd.R_elder' (rU HO527.out) (Kd.R_base ho0) hb); have n5 := Az (Kd.R_elder' (rU HO530.out) (Kd.R_base ho0) hb); have n6 := Az (Kd.R_elder' (rU HO535.out) (Kd.R_base ho0) hb); have n7 := Az (Kd.R_lower (Kd.R_new' (Kd.R_new' (Kd.R_new' (Kd.R_new' (Kd.R_new' (Kd.R_new' (Kd.R_new' ho0 (Kd.R_lt (rU HO_4.out))) (Kd.Q_lt (qU HO_Z0.out))) (Kd.R_lt (rU HO_Z1.out))) (Kd.R_lt (rU HO523.out))) (Kd.R_lt (rU HO527.out))) (Kd.R_lt (rU HO530.out))) (Kd.R_lt (rU HO535.out))) (below_size (bU2 HB.out GE518.out GE532.out))); have n8 := Az (blk_below (g := gb518) (o := .cells #[.slice Ao9 t509.length co9, .slice Ao11 t512.length co11] 25 (0, 0)) (kU BK518.out) hb); have n9 := Az (blk_below (g := gb532) (o := .cells #[.slice Ao40 t525.length co40, .slice Ao43 t528.length co43] 25 (0, 0)) (kU BK532.out) hb); have n10 := Az (below_step (bU2 HB.out GE518.out GE532.out) hb); clear HO_4 HO_Z0 HO_Z1 HO523 HO527 HO530 HO535 BK518 BK532 HB; have HO_4 := n0; have HO_Z0 := n1; have HO_Z1 := n2; have HO523 := n3; have HO527 := n4; have HO530 := n5; have HO535 := n6; have HO539 := n7; have BK518 := n8; have BK532 := n9; have HB := n10; clear n0 n1 n2 n3 n4 n5 n6 n7 n8 n9 n10; (try clear hb); (try clear hb2); (try clear hk); (try clear hi); (try clear ho0); have hcz48_0 : w47.cell? ⟨gb532, 0, none⟩ = some (.slice Ao40 t525.length co40) := (blk_cell BK532.out 0).trans rfl; have hcz48_1 : w47.cell? ⟨gb532, 1, none⟩ = some (.slice Ao43 t528.length co43) := (blk_cell BK532.out 1).trans rfl; have hfz48_0 := blk_frozen BK532.out 0; have hfz48_1 := blk_frozen BK532.out 1; obtain ⟨Ao49, co49, eo49⟩ := Kd.R_slice HO523.out; subst eo49) | ((with_reducible refine gate_callee (f := 20) rfl ?_); refine goesL_ (some 66) rfl rfl Try.func20 (by kernel_rfl) rfl #[.agg #[.slice Ao40 t525.length co40, .slice Ao43 t528.length co43], .slice Ao49 t521.length co49] rfl (by (try simp only [List.map_toArray, List.map_cons, List.map_nil]); first | done | rfl | (simp only [List.length_drop, List.length_take]; rfl)) ?_; (with_reducible refine (impl_ChoiceCounts.calls kj5 _ _ t525 _ _ t528 _ _ t521 t541 t544 _ ?side1 ?side2 ?side3 ?side4 ?side5 ?side6 A22.out).mono ?_); (case side1 => exact cU ((Kd.R_reads' HO527.out).2.2)); (case side2 => exact (Kd.R_reads' HO527.out).2.1); (case side3 => exact cU ((Kd.R_reads' HO530.out).2.2)); (case side4 => exact (Kd.R_reads' HO530.out).2.1); (case side5 => exact cU ((Kd.R_reads' HO523.out).2.2)); (case side6 => exact (Kd.R_reads' HO523.out).2.1); rintro e w50 ⟨v542, rfl, ho0, hb⟩; refine ⟨_, rfl, ?_⟩; have n0 := Az (Kd.R_elder' (rU HO_4.out) (Kd.R_base ho0) hb); have n1 := Az (Kd.Q_elder' (qU HO_Z0.out) (Kd.R_base ho0) hb); have n2 := Az (Kd.R_elder' (rU HO_Z1.out) (Kd.R_base ho0) hb); have n3 := Az (Kd.R_elder' (rU HO523.out) (Kd.R_base ho0) hb); have n4 := Az (Kd.R_elder' (rU HO527.out) (Kd.R_base ho0) hb); have n5 := Az (Kd.R_elder' (rU HO530.out) (Kd.R_base ho0) hb); have n6 := Az (Kd.R_elder' (rU HO535.out) (Kd.R_base ho0) hb); have n7 := Az (Kd.R_elder' (rU HO539.out) (Kd.R_base ho0) hb); have n8 := Az (Kd.R_lower (Kd.R_new' (Kd.R_new' (Kd.R_new' (Kd.R_new' (Kd.R_new' (Kd.R_new' (Kd.R_new' (Kd.R_new' ho0 (Kd.R_lt (rU HO_4.out))) (Kd.Q_lt (qU HO_Z0.out))) (Kd.R_lt (rU HO_Z1.out))) (Kd.R_lt (rU HO523.out))) (Kd.R_lt (rU HO527.out))) (Kd.R_lt (rU HO530.out))) (Kd.R_lt (rU HO535.out))) (Kd.R_lt (rU HO539.out))) (below_size (bU2 HB.out GE518.out GE532.out))); have n9 := Az (blk_below (g := gb518) (o := .cells #[.slice Ao9 t509.length co9, .slice Ao11 t512.length co11] 25 (0, 0)) (kU BK518.out) hb); have n10 := Az (blk_below (g := gb532) (o := .cells #[.slice Ao40 t525.length co40, .slice Ao43 t528.length co43] 25 (0, 0)) (kU BK532.out) hb); have n11 := Az (below_step (bU2 HB.out GE518.out GE532.out) hb); clear HO_4 HO_Z0 HO_Z1 HO523 HO527 HO530 HO535 HO539 BK518 BK532 HB; have HO_4 := n0; have HO_Z0 := n1; have HO_Z1 := n2; have HO523 := n3; have HO527 := n4; have HO530 := n5; have HO535 := n6; have HO539 := n7; have HO543 := n8; have BK518 := n9; have BK532 := n10; have HB := n11; clear n0 n1 n2 n3 n4 n5 n6 n7 n8 n9 n10 n11; (try clear hb); (try clear hb2); (try clear hk); (try clear hi); (try clear ho0)))
     have n0 := Az (Kd.R_drew HO_4.out); have n1 := Az (Kd.Q_drew HO_Z0.out); have n2 := Az (Kd.R_drew HO_Z1.out); have n3 := Az (Kd.R_drew HO523.out); have n4 := Az (Kd.R_drew HO527.out); have n5 := Az (Kd.R_drew HO530.out); have n6 := Az (Kd.R_drew HO535.out); have n7 := Az (Kd.R_drew HO539.out); have n8 := Az (Kd.R_drew HO543.out); have n9 := Az (blk_drew BK518.out); have n10 := Az (blk_drew BK532.out); have n11 := Az (below_drew1 HB.out); clear HO_4 HO_Z0 HO_Z1 HO523 HO527 HO530 HO535 HO539 HO543 BK518 BK532 HB; have HO_4 := n0; have HO_Z0 := n1; have HO_Z1 := n2; have HO523 := n3; have HO527 := n4; have HO530 := n5; have HO535 := n6; have HO539 := n7; have HO543 := n8; have BK518 := n9; have BK532 := n10; have HB := n11; clear n0 n1 n2 n3 n4 n5 n6 n7 n8 n9 n10 n11
     by_cases c23 : t524 = true
     ·
      subst c23
      have H1 : (if t531 = true then (if t536 = true then (if t540 = true then (if t544 = true then ((impl_ChoiceQuasi.f kj5 t525 t528 t521).bind fun t545 => (if t545 = true then (if 0 < (t533.length : Int) then (if 4 < (t537.length : Int) then (if (t515.length : Int) = (wrap64 ((wrap64 ((rd t533 0) - 1)) + (wrap64 (2 * (rd t537 4))))) then (if 4 < (t541.length : Int) then ((impl_MapGenus.f kj5 t509 t512).bind fun t550 => (some ((wrap64 ((rd t537 4) + (rd t541 4))) == t550))) else (none)) else (some false)) else (none)) else (none)) else (some false))) else (some false)) else (some false)) else (some false)) else (some false)) = some r := by rw [if_pos rfl] at H; exact H
      clear H; have H := H1; clear H1
      by_cases c24 : t531 = true
      ·
       subst c24
       have H1 : (if t536 = true then (if t540 = true then (if t544 = true then ((impl_ChoiceQuasi.f kj5 t525 t528 t521).bind fun t545 => (if t545 = true then (if 0 < (t533.length : Int) then (if 4 < (t537.length : Int) then (if (t515.length : Int) = (wrap64 ((wrap64 ((rd t533 0) - 1)) + (wrap64 (2 * (rd t537 4))))) then (if 4 < (t541.length : Int) then ((impl_MapGenus.f kj5 t509 t512).bind fun t550 => (some ((wrap64 ((rd t537 4) + (rd t541 4))) == t550))) else (none)) else (some false)) else (none)) else (none)) else (some false))) else (some false)) else (some false)) else (some false)) = some r := by rw [if_pos rfl] at H; exact H
       clear H; have H := H1; clear H1
       by_cases c25 : t536 = true
       ·
        subst c25
        have H1 : (if t540 = true then (if t544 = true then ((impl_ChoiceQuasi.f kj5 t525 t528 t521).bind fun t545 => (if t545 = true then (if 0 < (t533.length : Int) then (if 4 < (t537.length : Int) then (if (t515.length : Int) = (wrap64 ((wrap64 ((rd t533 0) - 1)) + (wrap64 (2 * (rd t537 4))))) then (if 4 < (t541.length : Int) then ((impl_MapGenus.f kj5 t509 t512).bind fun t550 => (some ((wrap64 ((rd t537 4) + (rd t541 4))) == t550))) else (none)) else (some false)) else (none)) else (none)) else (some false))) else (some false)) else (some false)) = some r := by rw [if_pos rfl] at H; exact H
        clear H; have H := H1; clear H1
        by_cases c26 : t540 = true
        ·
         subst c26
         have H1 : (if t544 = true then ((impl_ChoiceQuasi.f kj5 t525 t528 t521).bind fun t545 => (if t545 = true then (if 0 < (t533.length : Int) then (if 4 < (t537.length : Int) then (if (t515.length : Int) = (wrap64 ((wrap64 ((rd t533 0) - 1)) + (wrap64 (2 * (rd t537 4))))) then (if 4 < (t541.length : Int) then ((impl_MapGenus.f kj5 t509 t512).bind fun t550 => (some ((wrap64 ((rd t537 4) + (rd t541 4))) == t550))) else (none)) else (some false)) else (none)) else (none)) else (some false))) else (some false)) = some r := by rw [if_pos rfl] at H; exact H
         clear H; have H := H1; clear H1
         by_cases c27 : t544 = true
         ·
          subst c27
          have H1 : ((impl_ChoiceQuasi.f kj5 t525 t528 t521).bind fun t545 => (if t545 = true then (if 0 < (t533.length : Int) then (if 4 < (t537.length : Int) then (if (t515.length : Int) = (wrap64 ((wrap64 ((rd t533 0) - 1)) + (wrap64 (2 * (rd t537 4))))) then (if 4 < (t541.length : Int) then ((impl_MapGenus.f kj5 t509 t512).bind fun t550 => (some ((wrap64 ((rd t537 4) + (rd t541 4))) == t550))) else (none)) else (some false)) else (none)) else (none)) else (some false))) = some r := by rw [if_pos rfl] at H; exact H
          clear H; have H := H1; clear H1; replace H := Option.bind_eq_some_iff.mp H; obtain ⟨t545, A280, H⟩ := H; replace H : (if t545 = true then (if 0 < (t533.length : Int) then (if 4 < (t537.length : Int) then (if (t515.length : Int) = (wrap64 ((wrap64 ((rd t533 0) - 1)) + (wrap64 (2 * (rd t537 4))))) then (if 4 < (t541.length : Int) then ((impl_MapGenus.f kj5 t509 t512).bind fun t550 => (some ((wrap64 ((rd t537 4) + (rd t541 4))) == t550))) else (none)) else (some false)) else (none)) else (none)) else (some false)) = some r := H; have A28 := Az A280; clear A280
          by_cases c29 : t545 = true
          ·
           subst c29
           have H1 : (if 0 < (t533.length : Int) then (if 4 < (t537.length : Int) then (if (t515.length : Int) = (wrap64 ((wrap64 ((rd t533 0) - 1)) + (wrap64 (2 * (rd t537 4))))) then (if 4 < (t541.length : Int) then ((impl_MapGenus.f kj5 t509 t512).bind fun t550 => (some ((wrap64 ((rd t537 4) + (rd t541 4))) == t550))) else (none)) else (some false)) else (none)) else (none)) = some r := by rw [if_pos rfl] at H; exact H
           clear H; have H := H1; clear H1
           by_cases c30 : 0 < (t533.length : Int)
           ·
            rw [if_pos c30] at H; have c30b0 := decide_eq_true c30; have c30b1 : decide (0 < t533.length) = true := decide_eq_true (by omega); clear c30
            by_cases c31 : 4 < (t537.length : Int)
            ·
             rw [if_pos c31] at H; have c31b0 := decide_eq_true c31; have c31b1 : decide (4 < t537.length) = true := decide_eq_true (by omega); clear c31
             by_cases c32 : (t515.length : Int) = (wrap64 ((wrap64 ((rd t533 0) - 1)) + (wrap64 (2 * (rd t537 4)))))
             ·
              rw [if_pos c32] at H; have c32b0 := beq_iff_eq.mpr c32; have c32b1 := bne_eq_false_iff_eq.mpr c32; clear c32
              by_cases c33 : 4 < (t541.length : Int)
              ·
               rw [if_pos c33] at H; have c33b0 := decide_eq_true c33; have c33b1 : decide (4 < t541.length) = true := decide_eq_true (by omega); clear c33; replace H := Option.bind_eq_some_iff.mp H; obtain ⟨t550, A340, H⟩ := H; replace H : (some ((wrap64 ((rd t537 4) + (rd t541 4))) == t550)) = some r := H; have A34 := Az A340; clear A340; obtain rfl := Option.some.inj H; obtain ⟨Ao53, co53, eo53⟩ := Kd.R_slice HO535.out; (first | subst eo53 | (injection eo53 with f1_ f2_ f3_; have f4_ := f1_.symm; have f5_ := f3_.symm; clear f1_ f2_ f3_; subst f4_; subst f5_)); have p546 : 0 ≤ (0 : Int) := (by omega); have q546 : 0 < (t533.length : Int) := oA; obtain ⟨ad546, e546, hx546_0⟩ := Kd.at_int (Kd.R_reads' HO535.out).2.2 0 p546 q546
               cases e546
               have qi546 : (0 < t533.length) = True := eq_true (by omega); (try rw [show ((0 : Int)).toNat = 0 from rfl] at hx546_0); (try rw [Addr.add_zero'] at hx546_0); replace p546 := eq_true p546; replace q546 := eq_true q546; obtain ⟨Ao54, co54, eo54⟩ := Kd.R_slice HO539.out; (first | subst eo54 | (injection eo54 with f1_ f2_ f3_; have f4_ := f1_.symm; have f5_ := f3_.symm; clear f1_ f2_ f3_; subst f4_; subst f5_)); have p547 : 0 ≤ (4 : Int) := (by omega); have q547 : 4 < (t537.length : Int) := oA; obtain ⟨ad547, e547, hx547_0⟩ := Kd.at_int (Kd.R_reads' HO539.out).2.2 4 p547 q547
               cases e547
               (try simp only [show (4 : Int).toNat = 4 from rfl, Nat.reduceMul, Nat.reduceEqDiff, Go.Addr.add, ↓reduceIte] at hx547_0); have qi547 : (4 < t537.length) = True := eq_true (by omega); (try rw [show ((4 : Int)).toNat = 4 from rfl] at hx547_0); replace p547 := eq_true p547; replace q547 := eq_true q547; have p548 : 0 ≤ (4 : Int) := (by omega); have q548 : 4 < (t537.length : Int) := oA; obtain ⟨ad548, e548, hx548_0⟩ := Kd.at_int (Kd.R_reads' HO539.out).2.2 4 p548 q548; obtain rfl : ad547 = ad548 := (by injection e548); (try simp only [show (4 : Int).toNat = 4 from rfl, Nat.reduceMul, Nat.reduceEqDiff, Go.Addr.add, ↓reduceIte] at hx548_0); have qi548 : (4 < t537.length) = True := eq_true (by omega); (try rw [show ((4 : Int)).toNat = 4 from rfl] at hx548_0); replace p548 := eq_true p548; replace q548 := eq_true q548; obtain ⟨Ao55, co55, eo55⟩ := Kd.R_slice HO543.out; (first | subst eo55 | (injection eo55 with f1_ f2_ f3_; have f4_ := f1_.symm; have f5_ := f3_.symm; clear f1_ f2_ f3_; subst f4_; subst f5_)); have p549 : 0 ≤ (4 : Int) := (by omega); have q549 : 4 < (t541.length : Int) := oA; obtain ⟨ad549, e549, hx549_0⟩ := Kd.at_int (Kd.R_reads' HO543.out).2.2 4 p549 q549
               cases e549
               (try simp only [show (4 : Int).toNat = 4 from rfl, Nat.reduceMul, Nat.reduceEqDiff, Go.Addr.add, ↓reduceIte] at hx549_0); have qi549 : (4 < t541.length) = True := eq_true (by omega); (try rw [show ((4 : Int)).toNat = 4 from rfl] at hx549_0); replace p549 := eq_true p549; replace q549 := eq_true q549
               refine start_ (n := 45) (S := fun w' => w'.cell? ⟨gb532, 0, none⟩ = some (.slice Ao40 t525.length co40) ∧ w'.cell? ⟨gb532, 1, none⟩ = some (.slice Ao43 t528.length co43) ∧ w'.cell? ⟨gb518, 0, none⟩ = some (.slice Ao9 t509.length co9) ∧ w'.cell? ⟨gb518, 1, none⟩ = some (.slice Ao11 t512.length co11) ∧ w'.cell? ad546 = some (.int .i64 (rd t533 0)) ∧ w'.cell? ⟨ad547.block, ad547.off + 4, none⟩ = some (.int .i64 (rd t537 4)) ∧ w'.cell? ⟨ad547.block, ad547.off + 4, none⟩ = some (.int .i64 (rd t537 4)) ∧ w'.cell? ⟨ad549.block, ad549.off + 4, none⟩ = some (.int .i64 (rd t541 4))) (ds := []) (laws_FnChoiceQuasi_up [(0, some 69), (1, some 70), (2, some 71), (3, some 72), (4, some 73), (5, some 74), (6, some 75), (7, some 76), (8, some 77), (9, some 78), (10, some 79), (11, some 80), (12, some 81), (13, some 82), (15, some 84), (14, some 83), (16, some 85), (17, some 86), (18, some 87), (19, some 88), (20, some 89), (21, some 90), (22, some 91), (25, some 94), (26, some 95), (23, some 92), (24, some 93), (27, some 96), (28, some 97), (29, some 98), (30, some 99), (31, some 100), (32, some 101), (33, some 102), (34, some 103), (36, some 105), (37, some 106), (35, some 104), (38, some 107), (39, some 108), (40, some 109), (41, some 110), (42, some 111), (43, some 112), (44, some 2)] 45) (by kernel_rfl) rfl rfl ⟨(blk_cell BK532.out 0).trans rfl, (blk_cell BK532.out 1).trans rfl, (blk_cell BK518.out 0).trans rfl, (blk_cell BK518.out 1).trans rfl, hx546_0, hx547_0, hx548_0, hx549_0⟩ (fun hHeld => ?_); refine with_tabW laws_FnChoiceQuasi.tab13 laws_FnChoiceQuasi.bits13 (fun HT_ HW_ => ?_)
               generalize w50.drew = w51 at HO_4 HO_Z0 HO_Z1 HO523 HO527 HO530 HO535 HO539 HO543 BK518 BK532 HB hx546_0 hx547_0 hx548_0 hx549_0 hHeld ⊢
               repeat (first | (refine laws_FnChoiceQuasi_uP rfl rfl (any_of HT_.out (by kernel_rfl)) (fun _ _ _ h => h) (by rfl) (v := ?_) (a' := ?_) ?_ ?_ ?_; rotate_left; (· intro w'; go_simp; with_reducible rfl); rotate_left; (· simp only [Act.put, List.setIfInBounds_toArray, List.set_cons_zero, List.set_cons_succ, i64_w, i32_w]; rfl)) | (refine laws_FnChoiceQuasi_uT rfl rfl (take_ofW HT_.out HW_.out (by kernel_rfl)) (fun _ _ _ h => h) (by rfl) (v := ?_) (a' := ?_) ?_ hHeld ?_ ?_; rotate_left; (· rintro w' ⟨s0, s1, s2, s3, s4, s5, s6, s7⟩; go_simp; with_reducible rfl); rotate_left; (· simp only [Act.put, List.setIfInBounds_toArray, List.set_cons_zero, List.set_cons_succ, i64_w, i32_w]; rfl)))
               refine laws_FnChoiceQuasi_uO rfl rfl (one_of HT_.out (by kernel_rfl)) (by decide) (fun K hK => ?_)
               refine goes_ Try.func30 (by kernel_rfl) rfl #[.agg #[.slice Ao40 t525.length co40, .slice Ao43 t528.length co43], .slice Ao49 t521.length co49] (by rfl) rfl rfl (by (try simp only [List.map_toArray, List.map_cons, List.map_nil]); first | done | rfl | (simp only [List.length_drop, List.length_take]; rfl)) ?_
               with_reducible refine (impl_ChoiceQuasi.calls kj5 _ _ t525 _ _ t528 _ _ t521 true _ ?side1 ?side2 ?side3 ?side4 ?side5 ?side6 A28.out).mono ?_
               (case side1 => exact cU ((Kd.R_reads' HO527.out).2.2))
               (case side2 => exact (Kd.R_reads' HO527.out).2.1)
               (case side3 => exact cU ((Kd.R_reads' HO530.out).2.2))
               (case side4 => exact (Kd.R_reads' HO530.out).2.1)
               (case side5 => exact cU ((Kd.R_reads' HO523.out).2.2))
               (case side6 => exact (Kd.R_reads' HO523.out).2.1)
               rintro e w52 ⟨rfl, hb⟩
               have HS4_ := (hb.cell (World.block_lt_of_cell? _ _ (hHeld.2.2.2.2.1))).trans (hHeld.2.2.2.2.1); have HS5_ := (hb.cell (World.block_lt_of_cell? _ _ (hHeld.2.2.2.2.2.1))).trans (hHeld.2.2.2.2.2.1); have HS6_ := (hb.cell (World.block_lt_of_cell? _ _ (hHeld.2.2.2.2.2.2.1))).trans (hHeld.2.2.2.2.2.2.1); have HS7_ := (hb.cell (World.block_lt_of_cell? _ _ (hHeld.2.2.2.2.2.2.2))).trans (hHeld.2.2.2.2.2.2.2)
               refine ⟨_, rfl, ?_⟩
               have n0 := Az (Kd.R_below (rU HO_4.out) hb); have n1 := Az (Kd.Q_below (qU HO_Z0.out) hb); have n2 := Az (Kd.R_below (rU HO_Z1.out) hb); have n3 := Az (Kd.R_below (rU HO523.out) hb); have n4 := Az (Kd.R_below (rU HO527.out) hb); have n5 := Az (Kd.R_below (rU HO530.out) hb); have n6 := Az (Kd.R_below (rU HO535.out) hb); have n7 := Az (Kd.R_below (rU HO539.out) hb); have n8 := Az (Kd.R_below (rU HO543.out) hb); have n9 := Az (blk_below (g := gb518) (o := .cells #[.slice Ao9 t509.length co9, .slice Ao11 t512.length co11] 25 (0, 0)) (kU BK518.out) hb); have n10 := Az (blk_below (g := gb532) (o := .cells #[.slice Ao40 t525.length co40, .slice Ao43 t528.length co43] 25 (0, 0)) (kU BK532.out) hb); have n11 := Az (below_step (bU2 HB.out GE518.out GE532.out) hb); clear HO_4 HO_Z0 HO_Z1 HO523 HO527 HO530 HO535 HO539 HO543 BK518 BK532 HB; have HO_4 := n0; have HO_Z0 := n1; have HO_Z1 := n2; have HO523 := n3; have HO527 := n4; have HO530 := n5; have HO535 := n6; have HO539 := n7; have HO543 := n8; have BK518 := n9; have BK532 := n10; have HB := n11; clear n0 n1 n2 n3 n4 n5 n6 n7 n8 n9 n10 n11; (try clear hb); (try clear hb2); (try clear hk); (try clear hi)
               refine hK.out _ _ ⟨(blk_cell BK532.out 0).trans rfl, (blk_cell BK532.out 1).trans rfl, (blk_cell BK518.out 0).trans rfl, (blk_cell BK518.out 1).trans rfl, HS4_, HS5_, HS6_, HS7_⟩ (fun hHeld => ?_)
               clear hK K
               refine norm_ (a' := ?_) ?_ ?_
               rotate_left
               ·
                show Act.put _ (some 85) _ = _
                simp only [Act.put, List.setIfInBounds_toArray, List.set_cons_zero, List.set_cons_succ, i64_w, i32_w]
                rfl
               repeat (first | (refine laws_FnChoiceQuasi_uP rfl rfl (any_of HT_.out (by kernel_rfl)) (fun _ _ _ h => h) (by rfl) (v := ?_) (a' := ?_) ?_ ?_ ?_; rotate_left; (· intro w'; go_simp; with_reducible rfl); rotate_left; (· simp only [Act.put, List.setIfInBounds_toArray, List.set_cons_zero, List.set_cons_succ, i64_w, i32_w]; rfl)) | (refine laws_FnChoiceQuasi_uT rfl rfl (take_ofW HT_.out HW_.out (by kernel_rfl)) (fun _ _ _ h => h) (by rfl) (v := ?_) (a' := ?_) ?_ hHeld ?_ ?_; rotate_left; (· rintro w' ⟨s0, s1, s2, s3, s4, s5, s6, s7⟩; go_simp; with_reducible rfl); rotate_left; (· simp only [Act.put, List.setIfInBounds_toArray, List.set_cons_zero, List.set_cons_succ, i64_w, i32_w]; rfl)))
               refine laws_FnChoiceQuasi_uO rfl rfl (one_of HT_.out (by kernel_rfl)) (by decide) (fun K hK => ?_)
               refine goes_ Try.func22 (by kernel_rfl) rfl #[.agg #[.slice Ao9 t509.length co9, .slice Ao11 t512.length co11]] (by rfl) rfl rfl (by (try simp only [List.map_toArray, List.map_cons, List.map_nil]); first | done | rfl | (simp only [List.length_drop, List.length_take]; rfl)) ?_
               with_reducible refine (impl_MapGenus.calls kj5 _ _ t509 _ _ t512 t550 _ ?side1 ?side2 ?side3 ?side4 A34.out).mono ?_
               (case side1 => exact cU ((Kd.Q_reads' HO_Z0.out).2.2))
               (case side2 => exact (Kd.Q_reads' HO_Z0.out).2.1)
               (case side3 => exact cU ((Kd.R_reads' HO_Z1.out).2.2))
               (case side4 => exact (Kd.R_reads' HO_Z1.out).2.1)
               rintro e w56 ⟨rfl, hb⟩
               have HS4_ := (hb.cell (World.block_lt_of_cell? _ _ (hHeld.2.2.2.2.1))).trans (hHeld.2.2.2.2.1); have HS5_ := (hb.cell (World.block_lt_of_cell? _ _ (hHeld.2.2.2.2.2.1))).trans (hHeld.2.2.2.2.2.1); have HS6_ := (hb.cell (World.block_lt_of_cell? _ _ (hHeld.2.2.2.2.2.2.1))).trans (hHeld.2.2.2.2.2.2.1); have HS7_ := (hb.cell (World.block_lt_of_cell? _ _ (hHeld.2.2.2.2.2.2.2))).trans (hHeld.2.2.2.2.2.2.2)
               refine ⟨_, rfl, ?_⟩
               have n0 := Az (Kd.R_below (rU HO_4.out) hb); have n1 := Az (Kd.Q_below (qU HO_Z0.out) hb); have n2 := Az (Kd.R_below (rU HO_Z1.out) hb); have n3 := Az (Kd.R_below (rU HO523.out) hb); have n4 := Az (Kd.R_below (rU HO527.out) hb); have n5 := Az (Kd.R_below (rU HO530.out) hb); have n6 := Az (Kd.R_below (rU HO535.out) hb); have n7 := Az (Kd.R_below (rU HO539.out) hb); have n8 := Az (Kd.R_below (rU HO543.out) hb); have n9 := Az (blk_below (g := gb518) (o := .cells #[.slice Ao9 t509.length co9, .slice Ao11 t512.length co11] 25 (0, 0)) (kU BK518.out) hb); have n10 := Az (blk_below (g := gb532) (o := .cells #[.slice Ao40 t525.length co40, .slice Ao43 t528.length co43] 25 (0, 0)) (kU BK532.out) hb); have n11 := Az (below_step (bU2 HB.out GE518.out GE532.out) hb); clear HO_4 HO_Z0 HO_Z1 HO523 HO527 HO530 HO535 HO539 HO543 BK518 BK532 HB; have HO_4 := n0; have HO_Z0 := n1; have HO_Z1 := n2; have HO523 := n3; have HO527 := n4; have HO530 := n5; have HO535 := n6; have HO539 := n7; have HO543 := n8; have BK518 := n9; have BK532 := n10; have HB := n11; clear n0 n1 n2 n3 n4 n5 n6 n7 n8 n9 n10 n11; (try clear hb); (try clear hb2); (try clear hk); (try clear hi)
               refine hK.out _ _ ⟨(blk_cell BK532.out 0).trans rfl, (blk_cell BK532.out 1).trans rfl, (blk_cell BK518.out 0).trans rfl, (blk_cell BK518.out 1).trans rfl, HS4_, HS5_, HS6_, HS7_⟩ (fun hHeld => ?_)
               clear hK K
               refine norm_ (a' := ?_) ?_ ?_
               rotate_left
               ·
                show Act.put _ (some 110) _ = _
                simp only [Act.put, List.setIfInBounds_toArray, List.set_cons_zero, List.set_cons_succ, i64_w, i32_w]
                rfl
               repeat (first | (refine laws_FnChoiceQuasi_uP rfl rfl (any_of HT_.out (by kernel_rfl)) (fun _ _ _ h => h) (by rfl) (v := ?_) (a' := ?_) ?_ ?_ ?_; rotate_left; (· intro w'; go_simp; with_reducible rfl); rotate_left; (· simp only [Act.put, List.setIfInBounds_toArray, List.set_cons_zero, List.set_cons_succ, i64_w, i32_w]; rfl)))
               refine done_ (done_of HT_.out (by kernel_rfl)) ?_
               try go_wp2
               go_ret
               exact ⟨rE, bU2 HB.out GE518.out GE532.out⟩
              ·
               rw [if_neg c33] at H
               exact absurd H (by simp)
             ·
              rw [if_neg c32] at H; have c32b0 := beq_eq_false_iff_ne.mpr c32; have c32b1 := bne_iff_ne.mpr c32; obtain rfl := Option.some.inj H; obtain ⟨Ao75, co75, eo75⟩ := Kd.R_slice HO535.out; (first | subst eo75 | (injection eo75 with f1_ f2_ f3_; have f4_ := f1_.symm; have f5_ := f3_.symm; clear f1_ f2_ f3_; subst f4_; subst f5_)); have p546 : 0 ≤ (0 : Int) := (by omega); have q546 : 0 < (t533.length : Int) := oA; obtain ⟨ad546, e546, hx546_0⟩ := Kd.at_int (Kd.R_reads' HO535.out).2.2 0 p546 q546
              cases e546
              have qi546 : (0 < t533.length) = True := eq_true (by omega); (try rw [show ((0 : Int)).toNat = 0 from rfl] at hx546_0); (try rw [Addr.add_zero'] at hx546_0); replace p546 := eq_true p546; replace q546 := eq_true q546; obtain ⟨Ao76, co76, eo76⟩ := Kd.R_slice HO539.out; (first | subst eo76 | (injection eo76 with f1_ f2_ f3_; have f4_ := f1_.symm; have f5_ := f3_.symm; clear f1_ f2_ f3_; subst f4_; subst f5_)); have p547 : 0 ≤ (4 : Int) := (by omega); have q547 : 4 < (t537.length : Int) := oA; obtain ⟨ad547, e547, hx547_0⟩ := Kd.at_int (Kd.R_reads' HO539.out).2.2 4 p547 q547
              cases e547
              (try simp only [show (4 : Int).toNat = 4 from rfl, Nat.reduceMul, Nat.reduceEqDiff, Go.Addr.add, ↓reduceIte] at hx547_0); have qi547 : (4 < t537.length) = True := eq_true (by omega); (try rw [show ((4 : Int)).toNat = 4 from rfl] at hx547_0); replace p547 := eq_true p547; replace q547 := eq_true q547
              refine start_ (n := 45) (S := fun w' => w'.cell? ⟨gb532, 0, none⟩ = some (.slice Ao40 t525.length co40) ∧ w'.cell? ⟨gb532, 1, none⟩ = some (.slice Ao43 t528.length co43) ∧ w'.cell? ad546 = some (.int .i64 (rd t533 0)) ∧ w'.cell? ⟨ad547.block, ad547.off + 4, none⟩ = some (.int .i64 (rd t537 4))) (ds := []) (laws_FnChoiceQuasi_up [(0, some 69), (1, some 70), (2, some 71), (3, some 72), (4, some 73), (5, some 74), (6, some 75), (7, some 76), (8, some 77), (9, some 78), (10, some 79), (11, some 80), (12, some 81), (13, some 82), (15, some 84), (14, some 83), (16, some 85), (17, some 86), (18, some 87), (19, some 88), (20, some 89), (21, some 90), (22, some 91), (25, some 94), (26, some 95), (23, some 92), (24, some 93), (27, some 96), (28, some 97), (29, some 98), (30, some 99), (31, some 100), (32, some 101), (33, some 102), (34, some 103), (35, some 104), (36, some 105), (37, some 106), (38, some 107), (39, some 108), (40, some 109), (41, some 110), (42, some 111), (43, some 112), (44, some 2)] 45) (by kernel_rfl) rfl rfl ⟨(blk_cell BK532.out 0).trans rfl, (blk_cell BK532.out 1).trans rfl, hx546_0, hx547_0⟩ (fun hHeld => ?_); refine with_tabW laws_FnChoiceQuasi.tab13 laws_FnChoiceQuasi.bits13 (fun HT_ HW_ => ?_)
              generalize w50.drew = w73 at HO_4 HO_Z0 HO_Z1 HO523 HO527 HO530 HO535 HO539 HO543 BK518 BK532 HB hx546_0 hx547_0 hHeld ⊢
              repeat (first | (refine laws_FnChoiceQuasi_uP rfl rfl (any_of HT_.out (by kernel_rfl)) (fun _ _ _ h => h) (by rfl) (v := ?_) (a' := ?_) ?_ ?_ ?_; rotate_left; (· intro w'; go_simp; with_reducible rfl); rotate_left; (· simp only [Act.put, List.setIfInBounds_toArray, List.set_cons_zero, List.set_cons_succ, i64_w, i32_w]; rfl)) | (refine laws_FnChoiceQuasi_uT rfl rfl (take_ofW HT_.out HW_.out (by kernel_rfl)) (fun _ _ _ h => h) (by rfl) (v := ?_) (a' := ?_) ?_ hHeld ?_ ?_; rotate_left; (· rintro w' ⟨s0, s1, s2, s3⟩; go_simp; with_reducible rfl); rotate_left; (· simp only [Act.put, List.setIfInBounds_toArray, List.set_cons_zero, List.set_cons_succ, i64_w, i32_w]; rfl)))
              refine laws_FnChoiceQuasi_uO rfl rfl (one_of HT_.out (by kernel_rfl)) (by decide) (fun K hK => ?_)
              refine goes_ Try.func30 (by kernel_rfl) rfl #[.agg #[.slice Ao40 t525.length co40, .slice Ao43 t528.length co43], .slice Ao49 t521.length co49] (by rfl) rfl rfl (by (try simp only [List.map_toArray, List.map_cons, List.map_nil]); first | done | rfl | (simp only [List.length_drop, List.length_take]; rfl)) ?_
              with_reducible refine (impl_ChoiceQuasi.calls kj5 _ _ t525 _ _ t528 _ _ t521 true _ ?side1 ?side2 ?side3 ?side4 ?side5 ?side6 A28.out).mono ?_
              (case side1 => exact cU ((Kd.R_reads' HO527.out).2.2))
              (case side2 => exact (Kd.R_reads' HO527.out).2.1)
              (case side3 => exact cU ((Kd.R_reads' HO530.out).2.2))
              (case side4 => exact (Kd.R_reads' HO530.out).2.1)
              (case side5 => exact cU ((Kd.R_reads' HO523.out).2.2))
              (case side6 => exact (Kd.R_reads' HO523.out).2.1)
              rintro e w74 ⟨rfl, hb⟩
              have HS2_ := (hb.cell (World.block_lt_of_cell? _ _ (hHeld.2.2.1))).trans (hHeld.2.2.1); have HS3_ := (hb.cell (World.block_lt_of_cell? _ _ (hHeld.2.2.2))).trans (hHeld.2.2.2)
              refine ⟨_, rfl, ?_⟩
              have n0 := Az (Kd.R_below (rU HO_4.out) hb); have n1 := Az (Kd.Q_below (qU HO_Z0.out) hb); have n2 := Az (Kd.R_below (rU HO_Z1.out) hb); have n3 := Az (Kd.R_below (rU HO523.out) hb); have n4 := Az (Kd.R_below (rU HO527.out) hb); have n5 := Az (Kd.R_below (rU HO530.out) hb); have n6 := Az (Kd.R_below (rU HO535.out) hb); have n7 := Az (Kd.R_below (rU HO539.out) hb); have n8 := Az (Kd.R_below (rU HO543.out) hb); have n9 := Az (blk_below (g := gb518) (o := .cells #[.slice Ao9 t509.length co9, .slice Ao11 t512.length co11] 25 (0, 0)) (kU BK518.out) hb); have n10 := Az (blk_below (g := gb532) (o := .cells #[.slice Ao40 t525.length co40, .slice Ao43 t528.length co43] 25 (0, 0)) (kU BK532.out) hb); have n11 := Az (below_step (bU2 HB.out GE518.out GE532.out) hb); clear HO_4 HO_Z0 HO_Z1 HO523 HO527 HO530 HO535 HO539 HO543 BK518 BK532 HB; have HO_4 := n0; have HO_Z0 := n1; have HO_Z1 := n2; have HO523 := n3; have HO527 := n4; have HO530 := n5; have HO535 := n6; have HO539 := n7; have HO543 := n8; have BK518 := n9; have BK532 := n10; have HB := n11; clear n0 n1 n2 n3 n4 n5 n6 n7 n8 n9 n10 n11; (try clear hb); (try clear hb2); (try clear hk); (try clear hi)
              refine hK.out _ _ ⟨(blk_cell BK532.out 0).trans rfl, (blk_cell BK532.out 1).trans rfl, HS2_, HS3_⟩ (fun hHeld => ?_)
              clear hK K
              refine norm_ (a' := ?_) ?_ ?_
              rotate_left
              ·
               show Act.put _ (some 85) _ = _
               simp only [Act.put, List.setIfInBounds_toArray, List.set_cons_zero, List.set_cons_succ, i64_w, i32_w]
               rfl
              repeat (first | (refine laws_FnChoiceQuasi_uS rfl rfl (any_of HT_.out (by kernel_rfl)) (fun _ _ _ h => h) (by rfl) (a' := ?_) ?_ ?_; rotate_left; (· simp only [Act.put, List.setIfInBounds_toArray, List.set_cons_zero, List.set_cons_succ, i64_w, i32_w]; rfl)) | (refine laws_FnChoiceQuasi_uP rfl rfl (any_of HT_.out (by kernel_rfl)) (fun _ _ _ h => h) (by rfl) (v := ?_) (a' := ?_) ?_ ?_ ?_; rotate_left; (· intro w'; go_simp; with_reducible rfl); rotate_left; (· simp only [Act.put, List.setIfInBounds_toArray, List.set_cons_zero, List.set_cons_succ, i64_w, i32_w]; rfl)) | (refine laws_FnChoiceQuasi_uT rfl rfl (take_ofW HT_.out HW_.out (by kernel_rfl)) (fun _ _ _ h => h) (by rfl) (v := ?_) (a' := ?_) ?_ hHeld ?_ ?_; rotate_left; (· rintro w' ⟨s0, s1, s2, s3⟩; go_simp; with_reducible rfl); rotate_left; (· simp only [Act.put, List.setIfInBounds_toArray, List.set_cons_zero, List.set_cons_succ, i64_w, i32_w]; rfl)))
              refine done_ (done_of HT_.out (by kernel_rfl)) ?_
              try go_wp2
              go_ret
              exact ⟨rE, bU2 HB.out GE518.out GE532.out⟩
            ·
             rw [if_neg c31] at H
             exact absurd H (by simp)
           ·
            rw [if_neg c30] at H
            exact absurd H (by simp)
          ·
           replace c29 := Bool.eq_false_iff.mpr c29; subst c29
           have H1 : (some false) = some r := by rw [if_neg (show ¬ (false = true) by decide)] at H; exact H
           clear H; have H := H1; clear H1; obtain rfl := Option.some.inj H
           refine start_ (n := 45) (S := fun w' => w'.cell? ⟨gb532, 0, none⟩ = some (.slice Ao40 t525.length co40) ∧ w'.cell? ⟨gb532, 1, none⟩ = some (.slice Ao43 t528.length co43)) (ds := []) (laws_FnChoiceQuasi_up [(0, some 69), (1, some 70), (2, some 71), (3, some 72), (4, some 73), (5, some 74), (6, some 75), (7, some 76), (8, some 77), (9, some 78), (10, some 79), (11, some 80), (12, some 81), (13, some 82), (15, some 84), (14, some 83), (16, some 85), (17, some 86), (18, some 87), (19, some 88), (20, some 89), (21, some 90), (22, some 91), (23, some 92), (24, some 93), (25, some 94), (26, some 95), (27, some 96), (28, some 97), (29, some 98), (30, some 99), (31, some 100), (32, some 101), (33, some 102), (34, some 103), (35, some 104), (36, some 105), (37, some 106), (38, some 107), (39, some 108), (40, some 109), (41, some 110), (42, some 111), (43, some 112), (44, some 2)] 45) (by kernel_rfl) rfl rfl ⟨(blk_cell BK532.out 0).trans rfl, (blk_cell BK532.out 1).trans rfl⟩ (fun hHeld => ?_); refine with_tabW laws_FnChoiceQuasi.tab13 laws_FnChoiceQuasi.bits13 (fun HT_ HW_ => ?_)
           generalize w50.drew = w93 at HO_4 HO_Z0 HO_Z1 HO523 HO527 HO530 HO535 HO539 HO543 BK518 BK532 HB hHeld ⊢
           repeat (first | (refine laws_FnChoiceQuasi_uP rfl rfl (any_of HT_.out (by kernel_rfl)) (fun _ _ _ h => h) (by rfl) (v := ?_) (a' := ?_) ?_ ?_ ?_; rotate_left; (· intro w'; go_simp; with_reducible rfl); rotate_left; (· simp only [Act.put, List.setIfInBounds_toArray, List.set_cons_zero, List.set_cons_succ, i64_w, i32_w]; rfl)) | (refine laws_FnChoiceQuasi_uT rfl rfl (take_ofW HT_.out HW_.out (by kernel_rfl)) (fun _ _ _ h => h) (by rfl) (v := ?_) (a' := ?_) ?_ hHeld ?_ ?_; rotate_left; (· rintro w' ⟨s0, s1⟩; go_simp; with_reducible rfl); rotate_left; (· simp only [Act.put, List.setIfInBounds_toArray, List.set_cons_zero, List.set_cons_succ, i64_w, i32_w]; rfl)))
           refine laws_FnChoiceQuasi_uO rfl rfl (one_of HT_.out (by kernel_rfl)) (by decide) (fun K hK => ?_)
           refine goes_ Try.func30 (by kernel_rfl) rfl #[.agg #[.slice Ao40 t525.length co40, .slice Ao43 t528.length co43], .slice Ao49 t521.length co49] (by rfl) rfl rfl (by (try simp only [List.map_toArray, List.map_cons, List.map_nil]); first | done | rfl | (simp only [List.length_drop, List.length_take]; rfl)) ?_
           with_reducible refine (impl_ChoiceQuasi.calls kj5 _ _ t525 _ _ t528 _ _ t521 false _ ?side1 ?side2 ?side3 ?side4 ?side5 ?side6 A28.out).mono ?_
           (case side1 => exact cU ((Kd.R_reads' HO527.out).2.2))
           (case side2 => exact (Kd.R_reads' HO527.out).2.1)
           (case side3 => exact cU ((Kd.R_reads' HO530.out).2.2))
           (case side4 => exact (Kd.R_reads' HO530.out).2.1)
           (case side5 => exact cU ((Kd.R_reads' HO523.out).2.2))
           (case side6 => exact (Kd.R_reads' HO523.out).2.1)
           rintro e w94 ⟨rfl, hb⟩
           refine ⟨_, rfl, ?_⟩
           have n0 := Az (Kd.R_below (rU HO_4.out) hb); have n1 := Az (Kd.Q_below (qU HO_Z0.out) hb); have n2 := Az (Kd.R_below (rU HO_Z1.out) hb); have n3 := Az (Kd.R_below (rU HO523.out) hb); have n4 := Az (Kd.R_below (rU HO527.out) hb); have n5 := Az (Kd.R_below (rU HO530.out) hb); have n6 := Az (Kd.R_below (rU HO535.out) hb); have n7 := Az (Kd.R_below (rU HO539.out) hb); have n8 := Az (Kd.R_below (rU HO543.out) hb); have n9 := Az (blk_below (g := gb518) (o := .cells #[.slice Ao9 t509.length co9, .slice Ao11 t512.length co11] 25 (0, 0)) (kU BK518.out) hb); have n10 := Az (blk_below (g := gb532) (o := .cells #[.slice Ao40 t525.length co40, .slice Ao43 t528.length co43] 25 (0, 0)) (kU BK532.out) hb); have n11 := Az (below_step (bU2 HB.out GE518.out GE532.out) hb); clear HO_4 HO_Z0 HO_Z1 HO523 HO527 HO530 HO535 HO539 HO543 BK518 BK532 HB; have HO_4 := n0; have HO_Z0 := n1; have HO_Z1 := n2; have HO523 := n3; have HO527 := n4; have HO530 := n5; have HO535 := n6; have HO539 := n7; have HO543 := n8; have BK518 := n9; have BK532 := n10; have HB := n11; clear n0 n1 n2 n3 n4 n5 n6 n7 n8 n9 n10 n11; (try clear hb); (try clear hb2); (try clear hk); (try clear hi)
           refine hK.out _ _ ⟨(blk_cell BK532.out 0).trans rfl, (blk_cell BK532.out 1).trans rfl⟩ (fun hHeld => ?_)
           clear hK K
           refine norm_ (a' := ?_) ?_ ?_
           rotate_left
           ·
            show Act.put _ (some 85) _ = _
            simp only [Act.put, List.setIfInBounds_toArray, List.set_cons_zero, List.set_cons_succ, i64_w, i32_w]
            rfl
           repeat (first | (refine laws_FnChoiceQuasi_uS rfl rfl (any_of HT_.out (by kernel_rfl)) (fun _ _ _ h => h) (by rfl) (a' := ?_) ?_ ?_; rotate_left; (· simp only [Act.put, List.setIfInBounds_toArray, List.set_cons_zero, List.set_cons_succ, i64_w, i32_w]; rfl)) | (refine laws_FnChoiceQuasi_uP rfl rfl (any_of HT_.out (by kernel_rfl)) (fun _ _ _ h => h) (by rfl) (v := ?_) (a' := ?_) ?_ ?_ ?_; rotate_left; (· intro w'; go_simp; with_reducible rfl); rotate_left; (· simp only [Act.put, List.setIfInBounds_toArray, List.set_cons_zero, List.set_cons_succ, i64_w, i32_w]; rfl)))
           refine done_ (done_of HT_.out (by kernel_rfl)) ?_
           try go_wp2
           go_ret
           exact ⟨rE, bU2 HB.out GE518.out GE532.out⟩
         ·
          replace c27 := Bool.eq_false_iff.mpr c27; subst c27
          have H1 : (some false) = some r := by rw [if_neg (show ¬ (false = true) by decide)] at H; exact H
          clear H; have H := H1; clear H1; obtain rfl := Option.some.inj H
          refine start_ (n := 45) (S := fun w' => True) (ds := []) (laws_FnChoiceQuasi_up [(0, some 69), (1, some 70), (2, some 71), (3, some 72), (4, some 73), (5, some 74), (6, some 75), (7, some 76), (8, some 77), (9, some 78), (10, some 79), (11, some 80), (12, some 81), (13, some 82), (14, some 83), (15, some 84), (16, some 85), (17, some 86), (18, some 87), (19, some 88), (20, some 89), (21, some 90), (22, some 91), (23, some 92), (24, some 93), (25, some 94), (26, some 95), (27, some 96), (28, some 97), (29, some 98), (30, some 99), (31, some 100), (32, some 101), (33, some 102), (34, some 103), (35, some 104), (36, some 105), (37, some 106), (38, some 107), (39, some 108), (40, some 109), (41, some 110), (42, some 111), (43, some 112), (44, some 2)] 45) (by kernel_rfl) rfl rfl trivial (fun hHeld => ?_); refine with_tabW laws_FnChoiceQuasi.tab13 laws_FnChoiceQuasi.bits13 (fun HT_ HW_ => ?_)
          generalize w50.drew = w111 at HO_4 HO_Z0 HO_Z1 HO523 HO527 HO530 HO535 HO539 HO543 BK518 BK532 HB hHeld ⊢
          repeat (first | (refine laws_FnChoiceQuasi_uS rfl rfl (any_of HT_.out (by kernel_rfl)) (fun _ _ _ h => h) (by rfl) (a' := ?_) ?_ ?_; rotate_left; (· simp only [Act.put, List.setIfInBounds_toArray, List.set_cons_zero, List.set_cons_succ, i64_w, i32_w]; rfl)) | (refine laws_FnChoiceQuasi_uP rfl rfl (any_of HT_.out (by kernel_rfl)) (fun _ _ _ h => h) (by rfl) (v := ?_) (a' := ?_) ?_ ?_ ?_; rotate_left; (· intro w'; go_simp; with_reducible rfl); rotate_left; (· simp only [Act.put, List.setIfInBounds_toArray, List.set_cons_zero, List.set_cons_succ, i64_w, i32_w]; rfl)))
          refine done_ (done_of HT_.out (by kernel_rfl)) ?_
          try go_wp2
          go_ret
          exact ⟨rE, bU2 HB.out GE518.out GE532.out⟩
        ·
         replace c26 := Bool.eq_false_iff.mpr c26; subst c26
         have H1 : (some false) = some r := by rw [if_neg (show ¬ (false = true) by decide)] at H; exact H
         clear H; have H := H1; clear H1; obtain rfl := Option.some.inj H
         refine start_ (n := 45) (S := fun w' => True) (ds := []) (laws_FnChoiceQuasi_up [(0, some 69), (1, some 70), (2, some 71), (3, some 72), (4, some 73), (5, some 74), (6, some 75), (7, some 76), (8, some 77), (9, some 78), (10, some 79), (11, some 80), (12, some 81), (13, some 82), (14, some 83), (15, some 84), (16, some 85), (17, some 86), (18, some 87), (19, some 88), (20, some 89), (21, some 90), (22, some 91), (23, some 92), (24, some 93), (25, some 94), (26, some 95), (27, some 96), (28, some 97), (29, some 98), (30, some 99), (31, some 100), (32, some 101), (33, some 102), (34, some 103), (35, some 104), (36, some 105), (37, some 106), (38, some 107), (39, some 108), (40, some 109), (41, some 110), (42, some 111), (43, some 112), (44, some 2)] 45) (by kernel_rfl) rfl rfl trivial (fun hHeld => ?_); refine with_tabW laws_FnChoiceQuasi.tab13 laws_FnChoiceQuasi.bits13 (fun HT_ HW_ => ?_)
         generalize w50.drew = w128 at HO_4 HO_Z0 HO_Z1 HO523 HO527 HO530 HO535 HO539 HO543 BK518 BK532 HB hHeld ⊢
         repeat (first | (refine laws_FnChoiceQuasi_uS rfl rfl (any_of HT_.out (by kernel_rfl)) (fun _ _ _ h => h) (by rfl) (a' := ?_) ?_ ?_; rotate_left; (· simp only [Act.put, List.setIfInBounds_toArray, List.set_cons_zero, List.set_cons_succ, i64_w, i32_w]; rfl)) | (refine laws_FnChoiceQuasi_uP rfl rfl (any_of HT_.out (by kernel_rfl)) (fun _ _ _ h => h) (by rfl) (v := ?_) (a' := ?_) ?_ ?_ ?_; rotate_left; (· intro w'; go_simp; with_reducible rfl); rotate_left; (· simp only [Act.put, List.setIfInBounds_toArray, List.set_cons_zero, List.set_cons_succ, i64_w, i32_w]; rfl)))
         refine done_ (done_of HT_.out (by kernel_rfl)) ?_
         try go_wp2
         go_ret
         exact ⟨rE, bU2 HB.out GE518.out GE532.out⟩
       ·
        replace c25 := Bool.eq_false_iff.mpr c25; subst c25
        have H1 : (some false) = some r := by rw [if_neg (show ¬ (false = true) by decide)] at H; exact H
        clear H; have H := H1; clear H1; obtain rfl := Option.some.inj H
        refine start_ (n := 45) (S := fun w' => True) (ds := []) (laws_FnChoiceQuasi_up [(0, some 69), (1, some 70), (2, some 71), (3, some 72), (4, some 73), (5, some 74), (6, some 75), (7, some 76), (8, some 77), (9, some 78), (10, some 79), (11, some 80), (12, some 81), (13, some 82), (14, some 83), (15, some 84), (16, some 85), (17, some 86), (18, some 87), (19, some 88), (20, some 89), (21, some 90), (22, some 91), (23, some 92), (24, some 93), (25, some 94), (26, some 95), (27, some 96), (28, some 97), (29, some 98), (30, some 99), (31, some 100), (32, some 101), (33, some 102), (34, some 103), (35, some 104), (36, some 105), (37, some 106), (38, some 107), (39, some 108), (40, some 109), (41, some 110), (42, some 111), (43, some 112), (44, some 2)] 45) (by kernel_rfl) rfl rfl trivial (fun hHeld => ?_); refine with_tabW laws_FnChoiceQuasi.tab13 laws_FnChoiceQuasi.bits13 (fun HT_ HW_ => ?_)
        generalize w50.drew = w145 at HO_4 HO_Z0 HO_Z1 HO523 HO527 HO530 HO535 HO539 HO543 BK518 BK532 HB hHeld ⊢
        repeat (first | (refine laws_FnChoiceQuasi_uS rfl rfl (any_of HT_.out (by kernel_rfl)) (fun _ _ _ h => h) (by rfl) (a' := ?_) ?_ ?_; rotate_left; (· simp only [Act.put, List.setIfInBounds_toArray, List.set_cons_zero, List.set_cons_succ, i64_w, i32_w]; rfl)) | (refine laws_FnChoiceQuasi_uP rfl rfl (any_of HT_.out (by kernel_rfl)) (fun _ _ _ h => h) (by rfl) (v := ?_) (a' := ?_) ?_ ?_ ?_; rotate_left; (· intro w'; go_simp; with_reducible rfl); rotate_left; (· simp only [Act.put, List.setIfInBounds_toArray, List.set_cons_zero, List.set_cons_succ, i64_w, i32_w]; rfl)))
        refine done_ (done_of HT_.out (by kernel_rfl)) ?_
        try go_wp2
        go_ret
        exact ⟨rE, bU2 HB.out GE518.out GE532.out⟩
      ·
       replace c24 := Bool.eq_false_iff.mpr c24; subst c24
       have H1 : (some false) = some r := by rw [if_neg (show ¬ (false = true) by decide)] at H; exact H
       clear H; have H := H1; clear H1; obtain rfl := Option.some.inj H
       refine start_ (n := 45) (S := fun w' => True) (ds := []) (laws_FnChoiceQuasi_up [(0, some 69), (1, some 70), (2, some 71), (3, some 72), (4, some 73), (5, some 74), (6, some 75), (7, some 76), (8, some 77), (9, some 78), (10, some 79), (11, some 80), (12, some 81), (13, some 82), (14, some 83), (15, some 84), (16, some 85), (17, some 86), (18, some 87), (19, some 88), (20, some 89), (21, some 90), (22, some 91), (23, some 92), (24, some 93), (25, some 94), (26, some 95), (27, some 96), (28, some 97), (29, some 98), (30, some 99), (31, some 100), (32, some 101), (33, some 102), (34, some 103), (35, some 104), (36, some 105), (37, some 106), (38, some 107), (39, some 108), (40, some 109), (41, some 110), (42, some 111), (43, some 112), (44, some 2)] 45) (by kernel_rfl) rfl rfl trivial (fun hHeld => ?_); refine with_tabW laws_FnChoiceQuasi.tab13 laws_FnChoiceQuasi.bits13 (fun HT_ HW_ => ?_)
       generalize w50.drew = w162 at HO_4 HO_Z0 HO_Z1 HO523 HO527 HO530 HO535 HO539 HO543 BK518 BK532 HB hHeld ⊢
       repeat (first | (refine laws_FnChoiceQuasi_uS rfl rfl (any_of HT_.out (by kernel_rfl)) (fun _ _ _ h => h) (by rfl) (a' := ?_) ?_ ?_; rotate_left; (· simp only [Act.put, List.setIfInBounds_toArray, List.set_cons_zero, List.set_cons_succ, i64_w, i32_w]; rfl)) | (refine laws_FnChoiceQuasi_uP rfl rfl (any_of HT_.out (by kernel_rfl)) (fun _ _ _ h => h) (by rfl) (v := ?_) (a' := ?_) ?_ ?_ ?_; rotate_left; (· intro w'; go_simp; with_reducible rfl); rotate_left; (· simp only [Act.put, List.setIfInBounds_toArray, List.set_cons_zero, List.set_cons_succ, i64_w, i32_w]; rfl)))
       refine done_ (done_of HT_.out (by kernel_rfl)) ?_
       try go_wp2
       go_ret
       exact ⟨rE, bU2 HB.out GE518.out GE532.out⟩
     ·
      replace c23 := Bool.eq_false_iff.mpr c23; subst c23
      have H1 : (some false) = some r := by rw [if_neg (show ¬ (false = true) by decide)] at H; exact H
      clear H; have H := H1; clear H1; obtain rfl := Option.some.inj H
      refine start_ (n := 45) (S := fun w' => True) (ds := []) (laws_FnChoiceQuasi_up [(0, some 69), (1, some 70), (2, some 71), (3, some 72), (4, some 73), (5, some 74), (6, some 75), (7, some 76), (8, some 77), (9, some 78), (10, some 79), (11, some 80), (12, some 81), (13, some 82), (14, some 83), (15, some 84), (16, some 85), (17, some 86), (18, some 87), (19, some 88), (20, some 89), (21, some 90), (22, some 91), (23, some 92), (24, some 93), (25, some 94), (26, some 95), (27, some 96), (28, some 97), (29, some 98), (30, some 99), (31, some 100), (32, some 101), (33, some 102), (34, some 103), (35, some 104), (36, some 105), (37, some 106), (38, some 107), (39, some 108), (40, some 109), (41, some 110), (42, some 111), (43, some 112), (44, some 2)] 45) (by kernel_rfl) rfl rfl trivial (fun hHeld => ?_); refine with_tabW laws_FnChoiceQuasi.tab13 laws_FnChoiceQuasi.bits13 (fun HT_ HW_ => ?_)
      generalize w50.drew = w179 at HO_4 HO_Z0 HO_Z1 HO523 HO527 HO530 HO535 HO539 HO543 BK518 BK532 HB hHeld ⊢
      repeat (first | (refine laws_FnChoiceQuasi_uS rfl rfl (any_of HT_.out (by kernel_rfl)) (fun _ _ _ h => h) (by rfl) (a' := ?_) ?_ ?_; rotate_left; (· simp only [Act.put, List.setIfInBounds_toArray, List.set_cons_zero, List.set_cons_succ, i64_w, i32_w]; rfl)) | (refine laws_FnChoiceQuasi_uP rfl rfl (any_of HT_.out (by kernel_rfl)) (fun _ _ _ h => h) (by rfl) (v := ?_) (a' := ?_) ?_ ?_ ?_; rotate_left; (· intro w'; go_simp; with_reducible rfl); rotate_left; (· simp only [Act.put, List.setIfInBounds_toArray, List.set_cons_zero, List.set_cons_succ, i64_w, i32_w]; rfl)))
      refine done_ (done_of HT_.out (by kernel_rfl)) ?_
      try go_wp2
      go_ret
      exact ⟨rE, bU2 HB.out GE518.out GE532.out⟩
def laws_FnChoiceQuasi.Pure : Prop := ∀ (l0 : List Int), l0.length ≤ maxLen → l0.length * 1 ≤ 140737488351232 → (∀ x ∈ l0, (Lit.int .u8 x).wf = true) → ∃ k, laws_FnChoiceQuasi.f k l0 = some true
theorem laws_FnChoiceQuasi.walk (P : laws_FnChoiceQuasi.Pure) (a0 : Option Addr) (len0 cap0 : Nat) (z0 : List Int) (w : World) (w0 : (a0 = none ∧ len0 = 0 ∧ cap0 = 0 ∧ z0 = []) ∨ ∃ x, a0 = some x ∧ len0 ≤ cap0 ∧ cap0 ≤ maxLen ∧ z0.length = cap0 ∧ (∀ i, i < z0.length → w.cell? (x.add i) = some (.int .u8 (z0.getD i 0))) ∧ ∀ n ∈ z0, (Lit.int .u8 n).wf = true) (y0 : len0 * 1 ≤ 140737488351232) :
  Calls Try.prog 7 #[.slice a0 len0 cap0] w fun e w' => e = .returned (.bool true) ∧ Below w.heap.size w w' := by
 obtain ⟨l0, rfl, hr0, hm0, hw0, hc0⟩ := ReadsInt.ofRowC w0; obtain ⟨k, h⟩ := P l0 hm0 y0 hw0
 refine (laws_FnChoiceQuasi.calls k _ _ l0 true w (Kd.C_of_reads (d := (0 : Int)) (h1 := fun _ => rfl) hr0) hc0 h).mono ?_
 rintro e w' ⟨rfl, hd⟩
 exact ⟨rfl, hd⟩
end Go.Proofs.Ytjgknblneokhlaa.PI

set_option linter.unusedVariables false
set_option linter.unusedSimpArgs false
namespace Go.Proofs.Ytjgknblneokhlaa.PI
open Go.RowKit Go.Proofs.YtjgknblneokhlaaW.PrintWords Go.Proofs.YtjgknblneokhlaaW.PrintLast Go.Proofs.YtjgknblneokhlaaW.PrintMore
theorem counts_both (t f c : List Int) (ht : t.length ≤ 1048576) (hf : f.length ≤ 1048576) (hc : c.length ≤ 1048576) : ∃ (P S V : Nat) (b : Bool), Ev (fun k => spec_ChoiceValid.f k t f c) b ∧ Ev (fun k => impl_ChoiceValid.f k t f c) b ∧ (b = true → Ev (fun k => spec_l7Counts.f k t f c) (fiveN P S V c.length) ∧ Ev (fun k => impl_ribbon.f k t f c) (fiveN P S V c.length)) := by
  obtain ⟨b, b1, b2, b3⟩ := choiceValid_both t f c ht hf hc
  cases b with
  | false => exact ⟨0, 0, 0, false, b1, b2, fun h => by cases h⟩
  | true =>
    have hv := b3.1 rfl
    obtain ⟨o, _, _, h2, h3⟩ := ribbon_both t f c t.length (ribOk_of t f c hv.1 hv.2 hc)
    exact ⟨_, _, _, true, b1, b2, fun _ => ⟨h2, h3⟩⟩
theorem specCounts_ev {t f c r : List Int} (b1 : Ev (fun k => spec_ChoiceValid.f k t f c) true) (h2 : Ev (fun k => spec_l7Counts.f k t f c) r) : Ev (fun k => spec_ChoiceCounts.f k t f c) (r, true) := by
  unfold spec_ChoiceCounts.f
  refine Ev.bind b1 ?_
  simp only [if_true]
  exact Ev.bind h2 (Ev.const rfl)
theorem specCounts_no {t f c : List Int} (b1 : Ev (fun k => spec_ChoiceValid.f k t f c) false) : Ev (fun k => spec_ChoiceCounts.f k t f c) ([], false) := by
  unfold spec_ChoiceCounts.f
  refine Ev.bind b1 ?_
  simp only [Bool.false_eq_true, if_false]
  exact Ev.const rfl
theorem five_len (P S V c : Int) : (fiveN P S V c).length = 5 := rfl
theorem choiceQuasi_both (t f c : List Int) (ht : t.length ≤ 1048576) (hf : f.length ≤ 1048576) (hc : c.length ≤ 1048576) : ∃ r : Bool, Ev (fun k => spec_ChoiceQuasi.f k t f c) r ∧ Ev (fun k => impl_ChoiceQuasi.f k t f c) r := by
  obtain ⟨P, S, V, b, b1, b2, b3⟩ := counts_both t f c ht hf hc
  unfold spec_ChoiceQuasi.f impl_ChoiceQuasi.f
  cases b with
  | true =>
    obtain ⟨h2, h3⟩ := b3 rfl
    have e0 : rd (fiveN P S V c.length) 0 = P := rfl
    by_cases hP : (P : Int) = 1
    · refine ⟨rd (fiveN P S V c.length) 1 == 1, ?_, ?_⟩
      · refine Ev.bind (specCounts_ev b1 h2) ?_
        simp only [if_true, five_len, e0, hP, show (0 : Int) < ((5 : Nat) : Int) by omega, show (1 : Int) < ((5 : Nat) : Int) by omega]
        exact Ev.const rfl
      · refine Ev.bind b2 ?_
        simp only [if_true]
        refine Ev.bind h3 ?_
        simp only [if_true, five_len, e0, hP, show (0 : Int) < ((5 : Nat) : Int) by omega, show (1 : Int) < ((5 : Nat) : Int) by omega]
        exact Ev.const rfl
    · refine ⟨false, ?_, ?_⟩
      · refine Ev.bind (specCounts_ev b1 h2) ?_
        simp only [if_true, five_len, e0, hP, if_false, show (0 : Int) < ((5 : Nat) : Int) by omega]
        exact Ev.const rfl
      · refine Ev.bind b2 ?_
        simp only [if_true]
        refine Ev.bind h3 ?_
        simp only [if_true, five_len, e0, hP, if_false, show (0 : Int) < ((5 : Nat) : Int) by omega]
        exact Ev.const rfl
  | false =>
    refine ⟨false, ?_, ?_⟩
    · refine Ev.bind (specCounts_no b1) ?_
      simp only [Bool.false_eq_true, if_false]
      exact Ev.const rfl
    · refine Ev.bind b2 ?_
      simp only [Bool.false_eq_true, if_false]
      exact Ev.const rfl
theorem dual_ok {t f : List Int} {n : Nat} (H : MapOk t f n) : MapOk (faces t f n) f n := by
  obtain ⟨hn, h1, ht, hti, hf, hfl, hcon⟩ := H
  refine ⟨hn, h1, faces_inR t f n ht hf, faces_inj t f n ht hti hf hfl, hf, hfl, fun i j hi hj S hS => hcon i j hi hj S fun p hp k hk => ?_⟩
  have sf := hS f (by simp)
  rcases List.mem_cons.1 hp with rfl | hp
  · have fr := hf.2 k hk
    have h2 := hS (faces p f n) (by simp) (rd f k).toNat (by omega)
    have e1 : (((rd f k).toNat : Nat) : Int) = rd f k := by omega
    rw [faces_rd p f n _ (by omega), e1, (hfl k hk).2] at h2
    exact (sf k hk).trans h2
  · rw [List.mem_singleton.1 hp]
    exact sf k hk
theorem chB_rest (f : List Int) (n : Nat) (hf : inR n f) (hfl : ∀ i : Nat, i < n → flipAt f i) (c : List Int) (d : Nat) (hd : d < n) : chB f n (restL c (edL f n).length) (d : Int) = !chB f n c (d : Int) := by
  obtain ⟨j, j1, j2⟩ := geL_lt f n hf hfl d hd
  unfold chB
  rw [j2]
  by_cases e : (j : Int) ∈ c
  · rw [decide_eq_true e]
    exact decide_eq_false fun z => by
      obtain ⟨q, _, e1, e2⟩ := (mem_restL _ _ _).1 z
      exact e2 (e1 ▸ e)
  · rw [decide_eq_false e]
    exact decide_eq_true ((mem_restL _ _ _).2 ⟨j, j1, rfl, e⟩)
theorem dual_sg (t f : List Int) (n : Nat) (H : MapOk t f n) (c : List Int) : sgL (faces t f n) f n (restL c (edL f n).length) = sgL t f n c := by
  obtain ⟨hn, h1, ht, hti, hf, hfl, hcon⟩ := H
  refine list_ext _ _ (by rw [sgL_len, sgL_len]) fun d hd => ?_
  rw [sgL_len] at hd
  have fr := hf.2 d hd
  have e1 : (((rd f d).toNat : Nat) : Int) = rd f d := by omega
  rw [sgL_rd _ f n _ d hd, sgL_rd t f n c d hd, flC_rd f n _ d hd, flC_rd f n c d hd, chB_rest f n hf hfl c d hd]
  cases chB f n c (d : Int) with
  | true =>
    simp only [Bool.not_true, Bool.false_eq_true, if_false, if_true]
    rw [faces_rd t f n d hd]
  | false =>
    simp only [Bool.not_false, Bool.false_eq_true, if_false, if_true]
    rw [← e1, faces_rd t f n _ (by omega), e1, (hfl d hd).2]
end Go.Proofs.Ytjgknblneokhlaa.PI

set_option linter.unusedVariables false
set_option linter.unusedSimpArgs false
namespace Go.Proofs.Ytjgknblneokhlaa.Pure
open Go.RowKit Go.Proofs.Ytjgknblneokhlaa.PI Go.Proofs.YtjgknblneokhlaaW.PrintWords Go.Proofs.YtjgknblneokhlaaW.PrintLast Go.Proofs.YtjgknblneokhlaaW.PrintMore
theorem drawQuasi_ev (l : List Int) (hb : ∀ x ∈ l, (Lit.int .u8 x).wf = true) : ∃ t f c : List Int, Ev (fun k => spec_DrawChoiceQuasi.f k l) (t, f, c) ∧ t.length ≤ 12 ∧ f.length ≤ 12 ∧ c.length ≤ 20 := by
  obtain ⟨l', e, h⟩ := open_ev l hb
  obtain ⟨t, f, c, p, e1, e2, e3, e4⟩ := l92Choice_ev l' h
  refine ⟨t, f, c, ?_, e2, e3, e4⟩
  unfold spec_DrawChoiceQuasi.f
  simp only [e, Option.bind_some]
  exact Ev.bind e1 (Ev.const rfl)
theorem mapDualQ_ev (t f : List Int) (hm : isMap t f) (ht : t.length ≤ 1048576) (hf : f.length ≤ 1048576) : Ev (fun k => impl_MapDual.f k t f) (faces t f t.length, f, true) := by
  obtain ⟨hn, h1, ht', hti, hf', hfl, hcon⟩ := mapOk_of t f hm
  obtain ⟨b, _, b2, b3⟩ := mapValid_both t f ht hf
  have hb : b = true := b3.2 hm
  subst hb
  have hc : slices_Clone_int_int.f f = some f := by
    unfold slices_Clone_int_int.f
    rw [if_pos (by omega)]
  unfold impl_MapDual.f
  refine Ev.bind b2 ?_
  simp only [if_true]
  refine Ev.bind (mulF_ev t f t.length hn ht' hf') ?_
  simp only [hc, Option.bind_some]
  exact Ev.const rfl
theorem one_part (t F : List Int) (n S P : Nat) (h1 : 1 ≤ n) (R : Nat → Nat → Prop) (hr : ∀ x y, R x y → Go.Proofs.Ytjgknblneokhlaa.PI.Reach [t, F] n x y) (hall : ∀ x y, x < n → y < n → R x y) (hP : Cl n (Go.Proofs.Ytjgknblneokhlaa.PI.Reach [t, F] n) P) : P = 1 := by
  have one : Cl n (Go.Proofs.Ytjgknblneokhlaa.PI.Reach [t, F] n) 1 := by
    refine ⟨[0], by simp, fun x => ?_, rfl⟩
    rw [List.mem_singleton]
    constructor
    · rintro rfl
      exact ⟨by omega, fun i hi _ => by omega⟩
    · rintro ⟨hx, hl⟩
      by_cases e : x = 0
      · exact e
      · exact absurd (hr _ _ (hall 0 x (by omega) hx)) (hl 0 (by omega))
  exact hP.uniq one
theorem one_class (n : Nat) (ps : List (List Int)) (h : Cl n (Go.Proofs.Ytjgknblneokhlaa.PI.Reach ps n) 1) (x y : Nat) (hx : x < n) (hy : y < n) : Go.Proofs.Ytjgknblneokhlaa.PI.Reach ps n x y := by
  obtain ⟨L, h1, h2, h3⟩ := h
  obtain ⟨z, rfl⟩ := List.length_eq_one_iff.1 h3
  have go : ∀ x, x < n → Go.Proofs.Ytjgknblneokhlaa.PI.Reach ps n z x := fun x hx => by
    obtain ⟨y, y1, y2, y3⟩ := lst_ex (Go.Proofs.Ytjgknblneokhlaa.PI.Reach ps n) (Go.Proofs.Ytjgknblneokhlaa.PI.Reach.refl ps n) (fun _ _ => Go.Proofs.Ytjgknblneokhlaa.PI.Reach.symm) (fun _ _ _ => Go.Proofs.Ytjgknblneokhlaa.PI.Reach.trans) x
    have : y ∈ [z] := (h2 y).2 ⟨by omega, y2⟩
    rw [List.mem_singleton] at this
    subst this
    exact y3
  exact (go x hx).symm.trans (go y hy)
theorem FnChoiceQuasi : laws_FnChoiceQuasi.Pure := by
  intro l hl _ hb
  by_cases c0 : (l.length : Int) > 1048576
  · exact ⟨0, by unfold laws_FnChoiceQuasi.f; rw [if_pos c0]⟩
  obtain ⟨t, f, c, d1, d2, d3, d4⟩ := drawQuasi_ev l hb
  have tl : t.length ≤ 1048576 := by omega
  have fl' : f.length ≤ 1048576 := by omega
  have cl : c.length ≤ 1048576 := by omega
  refine Ev.rounds (r := true) ?_
  unfold laws_FnChoiceQuasi.f
  simp only [c0, if_false]
  refine Ev.bind d1 ?_
  obtain ⟨b, e1, e2⟩ := choiceQuasi_both t f c tl fl' cl
  refine Ev.bind e2 ?_
  refine Ev.bind e1 ?_
  have hne : (b != b) = false := by simp
  simp only [hne, Bool.false_eq_true, if_false]
  refine Ev.s ?_
  cases b with
  | false =>
    simp only [laws_FnChoiceQuasi.j0, Bool.not_false, if_true, beq_self_eq_true]
    exact Ev.const rfl
  | true =>
    obtain ⟨bv, _, v2, v3⟩ := choiceValid_both t f c tl fl' cl
    have hv : bv = true := by
      cases bv with
      | true => rfl
      | false =>
        have : Ev (fun k => impl_ChoiceQuasi.f k t f c) false := by
          unfold impl_ChoiceQuasi.f
          refine Ev.bind v2 ?_
          simp only [Bool.false_eq_true, if_false]
          exact Ev.const rfl
        exact absurd (Ev.uniq e2 this) (by decide)
    obtain ⟨hm, hc0⟩ := v3.1 hv
    have hc := (choice_half t f c hm).1 hc0
    have H := mapOk_of t f hm
    obtain ⟨hn, h1, ht', hti, hf', hfl, hcon⟩ := id H
    obtain ⟨P, S, V, F, g, G, hP, hS, hV, hF, m1, m2, m3, m4, ⟨k1, k2, k3, k4, k5, k6⟩, t1, t2, t3, t4⟩ := told t f c hm hc tl fl'
    have hPS : P = 1 ∧ S = 1 := of_decide_eq_true (Ev.uniq t2 e2)
    obtain ⟨rfl, rfl⟩ := hPS
    obtain ⟨r, b, _, g2, gr, gb, gb'⟩ := choiceRest_both t f c tl fl' cl
    have hb2 : b = true := gb' ⟨hm, hc0⟩
    subst hb2
    have hr := (gb rfl).1
    have hh := edL_half f t.length hf' hfl
    have hlen := hf'.1
    have hHalf : f.length / 2 = (edL f t.length).length := by omega
    rw [hHalf] at hr
    subst hr
    have hrc : isChoice (restL c (edL f t.length).length) ((edL f t.length).length : Int) := restL_choice _ _
    have cnt := rest_count c (edL f t.length).length hc
    have hD := isMap_of (dual_ok H)
    have hfl2 := faces_len t f t.length
    have hDok := dual_ok H
    obtain ⟨P', S', V', F', g', G', hP', hS', hV', hF', n1, n2, n3, n4, ⟨q1, q2, q3, q4, q5, q6⟩, u1, u2, u3, u4⟩ := told (faces t f t.length) f (restL c (edL f t.length).length) hD (by rw [hfl2]; exact hrc) (by omega) (by omega)
    rw [hfl2] at hP' hS' hV' n4
    rw [dual_sg t f t.length H c] at hS'
    have eS : S' = 1 := hS'.uniq hS
    subst eS
    have eV : V' = F := hV'.uniq hF
    subst eV
    have eP : P' = 1 := by
      refine one_part _ _ t.length 1 P' h1 _ (fun x y h => ?_) (one_class _ _ hS) hP'
      have hg := sg_flC (faces t f t.length) f (restL c (edL f t.length).length) t.length hf' x y
      rw [dual_sg t f t.length H c] at hg
      exact hg h
    subst eP
    simp only [laws_FnChoiceQuasi.j0, Bool.not_true, Bool.false_eq_true, if_false]
    refine Ev.bind g2 ?_
    refine Ev.bind (mapDualQ_ev t f hm tl fl') ?_
    refine Ev.bind t3 ?_
    refine Ev.bind t1 ?_
    refine Ev.bind u1 ?_
    simp only [if_true]
    refine Ev.bind u2 ?_
    have r0 : rd (threeN V (edL f t.length).length V') 0 = V := rfl
    have r1 : rd (fiveG 1 1 V c.length g) 4 = g := rfl
    have r2 : rd (fiveG 1 1 V' (restL c (edL f t.length).length).length g') 4 = g' := rfl
    have r3 : (threeN V (edL f t.length).length V').length = 3 := rfl
    have r4 : ∀ P S V c g, (fiveG P S V c g).length = 5 := fun _ _ _ _ _ => rfl
    have w1 : wrap64 (wrap64 ((V : Int) - 1) + wrap64 (2 * (g : Int))) = (c.length : Int) := by
      rw [w64 (x := (V : Int) - 1) (by omega) (by omega), w64 (x := 2 * (g : Int)) (by omega) (by omega), w64 (by omega) (by omega)]
      omega
    have w2 : wrap64 ((g : Int) + (g' : Int)) = (G : Int) := by
      rw [w64 (by omega) (by omega)]
      omega
    simp only [r0, r1, r2, r3, r4, w1, w2, and_self, decide_true, if_true, show (0 : Int) < ((3 : Nat) : Int) by omega, show (4 : Int) < ((5 : Nat) : Int) by omega]
    exact Ev.bind t4 (Ev.const (by simp))
end Go.Proofs.Ytjgknblneokhlaa.Pure

namespace Go.Proofs.Ytjgknblneokhlaa.fnChoiceQuasi
open Go.ChangeShapes Go.WideShapes Go.ChangeAt Go.RowKit
open Go.ChangeMaps (open_string shut_string)
set_option linter.unusedVariables false
theorem own : ownKnob Try.prog.godebug = none := by kernel_rfl
theorem laidOut : laidOutB Try.prog = true := by kernel_rfl
def IsRow (k : IntKind) (w : World) (a : Option Addr) (len cap : Nat) (zs : List Int) : Prop :=
 (a = none ∧ len = 0 ∧ cap = 0 ∧ zs = []) ∨
 ∃ x, a = some x ∧ len ≤ cap ∧ cap ≤ maxLen ∧ zs.length = cap ∧ (∀ i, i < zs.length → w.cell? (x.add i) = some (.int k (zs.getD i 0))) ∧ ∀ n ∈ zs, (Lit.int k n).wf = true
set_option maxRecDepth 100000 in
theorem lifted (os : Os) (started : os.Started) (H : Type) (enc : TypeId × Value → H) :
  ReturnsInHanded {} Try.checked os 7 .any (Rows.fnChoiceQuasiSpec.pre6 enc Try.prog Try.f7 Rows.fnChoiceQuasiRow.domain false) (Rows.fnChoiceQuasiSpec.post enc Try.prog Try.f7 false true false false) := by
 refine returnsInHanded_of_change_sized (C := Try.checked) own started (by kernel_rfl) Try.func7
  (ChangeSpec.witness6 (enc := enc) (C := Try.checked) false ⟨#[], #[.slice none 0 0], []⟩ 8 (by kernel_rfl) (by kernel_rfl) (by kernel_rfl) (by kernel_rfl)) ?_
 intro W base args ds gs before hval0 hW hcnd hsz0 _
 have hsz : (DataW.weightsEach Try.prog (Try.f7.params.toList ++ Rows.fnChoiceQuasiSpec.plain.varTypes Try.prog) (ds ++ gs)).all (· ≤ reachBytes) = true := hsz0
 have hval : ∀ (j : Nat) t v, Try.f7.params[j]? = some t → args[j]? = some v → Value.okWide Try.prog W .any base t v := hval0
 have hW' := hW
 obtain ⟨p, q, hA0, hV, rfl, hfz, hnd⟩ := hW
 have hA : DataW.TrodAll enc Try.prog W 0 (fun _ => true) true Try.f7.params.toList args.toList ds p := hA0
 rw [Try.params7] at hA hval hsz
 obtain ⟨v0, vs0, d0, ds0, p0, q0, hargs, rfl, rfl, h0, r0⟩ := trodAll_cons hA
 obtain ⟨rfl, rfl, rfl⟩ := trodAll_nil r0
 obtain rfl : args = #[v0] := by cases args; simp_all
 obtain ⟨rfl, rfl⟩ := trodVars_none hV
 obtain ⟨a0, len0, cap0, rfl⟩ := okWide_slice Try.underlying22 (hval 0 22 v0 rfl rfl)
 have k0 := h0
 have lt0 : ∀ x ∈ p0, x.block < W.heap.size := by obtain ⟨m, hm⟩ := k0; exact DataW.trod_lt m _ _ _ hm
 obtain ⟨z0, w0⟩ : ∃ zs, IsRow .u8 W a0 len0 cap0 zs := by
  obtain ⟨fuel, hf⟩ := h0
  rcases open_ints Try.underlying22 Try.underlying5 (by kernel_rfl) hf with ⟨hcs, _⟩ | ⟨x, l, c, zs, hcs, _, hl, hm, hz, _, hcell, hwz⟩
  ·
   simp [Value.cells] at hcs
   obtain ⟨rfl, rfl, rfl⟩ := hcs
   exact ⟨[], .inl ⟨rfl, rfl, rfl, rfl⟩⟩
  ·
   simp [Value.cells] at hcs
   obtain ⟨rfl, rfl, rfl⟩ := hcs
   exact ⟨zs, .inr ⟨_, rfl, hl, hm, by simpa using hz, hcell, hwz⟩⟩
 have y0 : len0 * 1 ≤ 140737488351232 := Go.Proofs.YtjgknblneokhlaaW.PrintWords.sized_ints hsz (j := 0) (t := 22) rfl rfl Try.underlying22 Try.underlying5 (by kernel_rfl) (by kernel_rfl) h0
 clear hA0 hval0 hsz0 hsz
 refine (PI.laws_FnChoiceQuasi.walk Pure.FnChoiceQuasi a0 len0 cap0 z0 W w0 y0).mono fun e W' ⟨he, bel⟩ => ?_
 subst he
 exact ⟨_, rfl, _, _, _, [], _, [], hW', trodAll_mk1 (shut_bool Try.underlying4 _), (trodAll_cons_mk (Below.trod laidOut (by kernel_rfl) (of_decide_eq_true (by kernel_rfl)) k0 bel lt0) trodAll_mk0), rfl, bel.frame _, fun h => by cases h⟩
theorem over : Rows.fnChoiceQuasiRow.holds Try.pinned (OpenSpec.ofChange Rows.fnChoiceQuasiSpec) :=
 OpenClaim.holds_of_wide 7 Try.f7 rfl rfl rfl rfl rfl rfl rfl ⟨rfl, rfl, rfl, rfl, rfl⟩ rfl rfl rfl rfl rfl (by kernel_rfl) Try.func7 (by kernel_rfl)
  (of_decide_eq_true (by kernel_rfl)) (by unfold Func.isWrapper; first | (rw [if_pos (by decide +kernel)]; kernel_rfl) | (rw [if_neg (by decide +kernel)]; exact ⟨rfl, rfl⟩))
  (fun os started H enc _ => lifted os started H enc)
theorem proved : Rows.FnChoiceQuasiSaid := over
#print axioms proved
end Go.Proofs.Ytjgknblneokhlaa.fnChoiceQuasi
namespace Go.Proofs.Ytjgknblneokhlaa
theorem fnChoiceQuasi_holds : Rows.FnChoiceQuasiSaid := fnChoiceQuasi.proved
end Go.Proofs.Ytjgknblneokhlaa
