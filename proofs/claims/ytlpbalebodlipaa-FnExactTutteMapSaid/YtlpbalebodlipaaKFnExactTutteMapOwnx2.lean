/- For every map and root, TutteMap of the program answers what TutteMap of the reference answers, leaves the map as it was, and hands back memory of its own. There are no conditions. -/
import Derived.Test.YtlpbalebodlipaaKFnExactTutteMapOwnx1
namespace Go.Proofs.Ytlpbalebodlipaa.PH
open Go.RowKit Go.Proofs.YtlpbalebodlipaaW.PrintWords Go.Proofs.YtlpbalebodlipaaW.PrintLast Go.Proofs.YtlpbalebodlipaaW.PrintMore
attribute [local go_sem] max2_int min2_int max_two min_two max_three min_three max_four min_four   -- for this text's walks alone
set_option linter.unusedVariables false
set_option linter.unusedSimpArgs false
def impl_TutteMap_up (L : List (Nat × Option Tmp)) (n : Nat) : Array Bool := ((List.range n).map (fun i => !(L.map Prod.fst).contains i)).toArray
section
variable {P : Program} {ops : Array Oper} {Q : Exit → Act → World → Prop} {md : Region.Mode} {S : World → Prop} {ds : List Nat}
theorem impl_TutteMap_uP {i n : Nat} {N : Option Tmp} {L : List (Nat × Option Tmp)} {oi : Oper} {v : Value} {fuel : Nat} {a : Act} {w : World} (hi : ops[i]? = some oi) (hN : oi.dst = N) (hc : anyB md ops (impl_TutteMap_up ((i, N) :: L) n) (impl_TutteMap_up L n) i = true)
  (hQ : ∀ c a w, Q (.panic c) (a.put oi.dst v) w → Q (.panic c) a w) (hw : Region.wanted oi (yielded ops a.tmps) = true) (hy : ∀ w, (execOp a.eval oi).run P w = .ok (.value v) w) {a' : Act} (ha : a.put N v = a')
  (h : wpAnyLast P md ops Q S ds fuel (impl_TutteMap_up L n) a' w) : wpAnyLast P md ops Q S ds (fuel + 1) (impl_TutteMap_up ((i, N) :: L) n) a w := pure_ (impl_TutteMap_up L n) hi hN hc hQ (Or.inl ⟨hw, hy⟩) ha h
theorem impl_TutteMap_uT {i n : Nat} {N : Option Tmp} {L : List (Nat × Option Tmp)} {oi : Oper} {v : Value} {fuel : Nat} {a : Act} {w : World} (hi : ops[i]? = some oi) (hN : oi.dst = N) (hc : takeB md ops ds (impl_TutteMap_up ((i, N) :: L) n) (impl_TutteMap_up L n) i = true)
  (hQ : ∀ c a w, Q (.panic c) (a.put oi.dst v) w → Q (.panic c) a w) (hw : Region.wanted oi (yielded ops a.tmps) = true) (hy : ∀ w, S w → (execOp a.eval oi).run P w = .ok (.value v) w) (hS : S w) {a' : Act} (ha : a.put N v = a')
  (h : wpAnyLast P md ops Q S ds fuel (impl_TutteMap_up L n) a' w) : wpAnyLast P md ops Q S ds (fuel + 1) (impl_TutteMap_up ((i, N) :: L) n) a w := take_ (impl_TutteMap_up L n) hi hN hc hQ (Or.inl ⟨hw, hy⟩) hS ha h
theorem impl_TutteMap_uO {i n : Nat} {N : Option Tmp} {L : List (Nat × Option Tmp)} {oi : Oper} {fuel : Nat} {a : Act} {w : World} (hi : ops[i]? = some oi) (hN : oi.dst = N) (hc : readyB md ops (impl_TutteMap_up ((i, N) :: L) n) (impl_TutteMap_up L n) i = true) (hd : i ∉ ds)
  (h : ∀ K : Act → World → Prop, Shut (∀ a' w', S w' → (S w' → wpAnyLast P md ops Q S ds fuel (impl_TutteMap_up L n) a' w') → K a' w') → if Region.wanted oi (yielded ops a.tmps) = true then Oper.wp P oi a w K Q else K (a.put N undef) w) :
  wpAnyLast P md ops Q S ds (fuel + 1) (impl_TutteMap_up ((i, N) :: L) n) a w := one_ (impl_TutteMap_up L n) hi hN hc hd h
theorem impl_TutteMap_uL {i n : Nat} {N : Option Tmp} {L : List (Nat × Option Tmp)} {oi : Oper} {fuel : Nat} {a : Act} {w : World} (hi : ops[i]? = some oi) (hN : oi.dst = N) (hc : readyB md ops (impl_TutteMap_up ((i, N) :: L) n) (impl_TutteMap_up L n) i = true) (hd : i ∈ ds)
  (h : ∀ K : Act → World → Prop, Shut (∀ a' w', wpAnyLast P md ops Q S ds fuel (impl_TutteMap_up L n) a' w' → K a' w') → if Region.wanted oi (yielded ops a.tmps) = true then Oper.wp P oi a w K Q else K (a.put N undef) w) :
  wpAnyLast P md ops Q S ds (fuel + 1) (impl_TutteMap_up ((i, N) :: L) n) a w := last_ (impl_TutteMap_up L n) hi hN hc hd h
end
mutual
def impl_TutteMap.j0 : Nat → Int → Bool → List Int → List Int → Option (List Int × List Int × Bool)
 | 0, _, _, _, _ => none
 | k + 1, x1, x29, xZ0, xZ1 => if x29 = true then (some (([] : List Int), ([] : List Int), false)) else ((impl_distancesFrom.f k xZ0 xZ1 x1).bind fun t345 => (if 0 ≤ (t345.length : Int) then (if ((t345.length : Int) : Int).toNat ≤ 35184372088832 then (impl_TutteMap.l0 k t345 (List.replicate ((t345.length : Int) : Int).toNat 0) 0 xZ1 (xZ1.length : Int) 0 xZ0 xZ1) else (none)) else (none)))
def impl_TutteMap.l0 : Nat → List Int → List Int → Int → List Int → Int → Int → List Int → List Int → Option (List Int × List Int × Bool)
 | 0, _, _, _, _, _, _, _, _ => none
 | k + 1, x6, x7, x8, x38, x39, x40, xZ0, xZ1 => if x40 < x39 then (if 0 ≤ x40 then (if x40 < (x38.length : Int) then (if x40 < (x6.length : Int) then (if 0 ≤ (rd x38 x40) then (if (rd x38 x40) < (x6.length : Int) then (if (Int.tmod (rd x6 x40) 2) = (Int.tmod (rd x6 (rd x38 x40)) 2) then (some (([] : List Int), ([] : List Int), false)) else (if x40 < (x7.length : Int) then ((some (x7.set (x40 : Int).toNat x8 : List Int)).bind fun y354 => (if (Int.tmod (rd x6 x40) 2) = 0 then (impl_TutteMap.l0 k x6 y354 (wrap64 (x8 + 1)) x38 x39 (wrap64 (x40 + 1)) xZ0 xZ1) else (impl_TutteMap.l0 k x6 y354 x8 x38 x39 (wrap64 (x40 + 1)) xZ0 xZ1))) else (none))) else (none)) else (none)) else (none)) else (none)) else (none)) else ((impl_mul.f k xZ1 xZ0).bind fun t356 => ((impl_back.f k xZ0).bind fun t359 => (if 0 ≤ x8 then (if (x8 : Int).toNat ≤ 35184372088832 then (impl_TutteMap.l1 k x7 t356 t359 x6 (x6.length : Int) 0 xZ0 xZ1 (List.replicate (x8 : Int).toNat 0) (List.replicate (x8 : Int).toNat 0)) else (none)) else (none))))
def impl_TutteMap.l1 : Nat → List Int → List Int → List Int → List Int → Int → Int → List Int → List Int → List Int → List Int → Option (List Int × List Int × Bool)
 | 0, _, _, _, _, _, _, _, _, _, _ => none
 | k + 1, x7, x11, x12, x83, x84, x85, xZ0, xZ1, xZ2, xZ3 => if x85 < x84 then (if 0 ≤ x85 then (if x85 < (x83.length : Int) then (if (Int.tmod (rd x83 x85) 2) = 0 then (if x85 < (x7.length : Int) then (if x85 < (xZ0.length : Int) then (if 0 ≤ (rd xZ0 x85) then (if (rd xZ0 x85) < (x7.length : Int) then (if 0 ≤ (rd x7 x85) then (if (rd x7 x85) < (xZ2.length : Int) then (if (rd xZ0 x85) < (x11.length : Int) then (if 0 ≤ (rd x11 (rd xZ0 x85)) then (if (rd x11 (rd xZ0 x85)) < (x11.length : Int) then (if 0 ≤ (rd x11 (rd x11 (rd xZ0 x85))) then (if (rd x11 (rd x11 (rd xZ0 x85))) < (x12.length : Int) then (if 0 ≤ (rd x12 (rd x11 (rd x11 (rd xZ0 x85)))) then (if (rd x12 (rd x11 (rd x11 (rd xZ0 x85)))) < (x7.length : Int) then (if (rd x7 x85) < (xZ3.length : Int) then (impl_TutteMap.l1 k x7 x11 x12 x83 x84 (wrap64 (x85 + 1)) xZ0 xZ1 (xZ2.set ((rd x7 x85) : Int).toNat (rd x7 (rd xZ0 x85))) (xZ3.set ((rd x7 x85) : Int).toNat (rd x7 (rd x12 (rd x11 (rd x11 (rd xZ0 x85))))))) else (none)) else (none)) else (none)) else (none)) else (none)) else (none)) else (none)) else (none)) else (none)) else (none)) else (none)) else (none)) else (none)) else (none)) else (impl_TutteMap.l1 k x7 x11 x12 x83 x84 (wrap64 (x85 + 1)) xZ0 xZ1 xZ2 xZ3)) else (none)) else (none)) else (some (xZ2, xZ3, true))
end
def impl_TutteMap.f (k : Nat) (l0_0 : List Int) (l0_1 : List Int) (a1 : Int) : Option (List Int × List Int × Bool) := (impl_isQuad.f k l0_0 l0_1).bind fun t344 => (if t344 = true then (if a1 < 0 then (impl_TutteMap.j0 k a1 true l0_0 l0_1) else (impl_TutteMap.j0 k a1 (decide (a1 ≥ (l0_0.length : Int))) l0_0 l0_1)) else (impl_TutteMap.j0 k a1 true l0_0 l0_1))
def impl_TutteMap.T8 : Bool × List (List Nat × List Nat) := (true, [([], []), ([], []), ([0, 1], [0, 1]), ([2], [2]), ([3], [3]), ([], []), ([], []), ([5, 6], [5, 6]), ([7], [7]), ([8], [8]), ([4, 9], [4, 9])])
def impl_TutteMap.B8 : List Nat := [0, 0, 3, 7, 15, 0, 0, 96, 224, 480, 1023]
theorem impl_TutteMap.tab8 : rtab .any (opsOf Try.f53 8) = impl_TutteMap.T8 := by kernel_rfl
theorem impl_TutteMap.bits8 : waitsOk impl_TutteMap.T8.2 impl_TutteMap.B8 = true := by kernel_rfl
def impl_TutteMap.T14 : Bool × List (List Nat × List Nat) := (true, [([], []), ([0], [0]), ([], []), ([2], [2]), ([1, 3], [1, 3]), ([], []), ([5], [5]), ([6, 4], [6]), ([4, 7, 0, 1, 2, 3, 4], [4]), ([7, 8, 0, 1, 2, 3, 4, 5, 6, 7, 8], [7])])
def impl_TutteMap.B14 : List Nat := [0, 1, 0, 4, 15, 0, 32, 127, 255, 511]
theorem impl_TutteMap.tab14 : rtab .any (opsOf Try.f53 14) = impl_TutteMap.T14 := by kernel_rfl
theorem impl_TutteMap.bits14 : waitsOk impl_TutteMap.T14.2 impl_TutteMap.B14 = true := by kernel_rfl
def impl_TutteMap.T20 : Bool × List (List Nat × List Nat) := (true, [([], []), ([0], [0]), ([], []), ([], []), ([2, 3], [2, 3]), ([4], [4]), ([], []), ([], []), ([7], [7]), ([], []), ([8, 9], [8, 9]), ([10], [10]), ([6, 11], [6, 11]), ([12], [12]), ([1, 5, 0, 1, 2, 3, 4, 5, 6, 7, 8, 9, 10, 11, 12, 13], [1, 5]), ([14, 13, 0, 1, 2, 3, 4, 5, 6, 7, 8, 9, 10, 11, 12, 13], [13, 14])])
def impl_TutteMap.B20 : List Nat := [0, 1, 0, 0, 12, 28, 0, 0, 128, 0, 896, 1920, 4032, 8128, 16383, 32767]
theorem impl_TutteMap.tab20 : rtab .any (opsOf Try.f53 20) = impl_TutteMap.T20 := by kernel_rfl
theorem impl_TutteMap.bits20 : waitsOk impl_TutteMap.T20.2 impl_TutteMap.B20 = true := by kernel_rfl
def impl_TutteMap.T21 : Bool × List (List Nat × List Nat) := (true, [([], []), ([0], [0]), ([], []), ([], []), ([2, 3], [2, 3]), ([4], [4]), ([], []), ([], []), ([], []), ([], []), ([], []), ([10], [10]), ([], []), ([11, 12], [11, 12]), ([13], [13]), ([9, 14], [9, 14]), ([15], [15]), ([8, 16], [8, 16]), ([17], [17]), ([7, 18], [7, 18]), ([19], [19]), ([6, 20], [6, 20]), ([21], [21]), ([1, 5, 0, 1, 2, 3, 4, 5, 6, 7, 8, 9, 10, 11, 12, 13, 14, 15, 16, 17, 18, 19, 20, 21, 22], [1, 5]), ([23, 22, 0, 1, 2, 3, 4, 5, 6, 7, 8, 9, 10, 11, 12, 13, 14, 15, 16, 17, 18, 19, 20, 21, 22], [22, 23])])
def impl_TutteMap.B21 : List Nat := [0, 1, 0, 0, 12, 28, 0, 0, 0, 0, 0, 1024, 0, 7168, 15360, 32256, 65024, 130816, 261888, 524160, 1048448, 2097088, 4194240, 8388607, 16777215]
theorem impl_TutteMap.tab21 : rtab .any (opsOf Try.f53 21) = impl_TutteMap.T21 := by kernel_rfl
theorem impl_TutteMap.bits21 : waitsOk impl_TutteMap.T21.2 impl_TutteMap.B21 = true := by kernel_rfl
set_option maxHeartbeats 8000000 in
set_option maxRecDepth 100000 in
theorem impl_TutteMap.calls (k : Nat) (A0_0 : Option Addr) (c0_0 : Nat) (l0_0 : List Int) (A0_1 : Option Addr) (c0_1 : Nat) (l0_1 : List Int) (a1 : Int) (r1 : List Int) (r2 : List Int) (r3 : Bool) (w : World) (hr0_0 : Kd.C (Kd.int .i64) w A0_0 l0_0.length l0_0) (hc0_0 : l0_0.length ≤ c0_0) (hr0_1 : Kd.C (Kd.int .i64) w A0_1 l0_1.length l0_1) (hc0_1 : l0_1.length ≤ c0_1) (h : impl_TutteMap.f k l0_0 l0_1 a1 = some (r1, r2, r3)) :
  Calls Try.prog 53 #[.agg #[.slice A0_0 l0_0.length c0_0, .slice A0_1 l0_1.length c0_1], .int .i64 a1] w fun e w' => ∃ v0_ v1_ : Value, e = .returned (.tuple #[.agg #[v0_, v1_], .bool r3]) ∧ Kd.R (Kd.int .i64) 3 w' w.heap.size (fun k_ => some k_ ≠ (v1_ : Value).ownBlock) v0_ r1 ∧ Kd.R (Kd.int .i64) 3 w' w.heap.size (fun k_ => some k_ ≠ (v0_ : Value).ownBlock) v1_ r2 ∧ Below w.heap.size w w' := by
 have hu29 := Try.underlying29; have HR0_0 := Az hr0_0; have HC0_0 := Az hc0_0; clear hr0_0 hc0_0; have HR0_1 := Az hr0_1; have HC0_1 := Az hc0_1; clear hr0_1 hc0_1; have HB := Az (Below.refl w.heap.size w); have H : ((impl_isQuad.f k l0_0 l0_1).bind fun t344 => (if t344 = true then (if a1 < 0 then (impl_TutteMap.j0 k a1 true l0_0 l0_1) else (impl_TutteMap.j0 k a1 (decide (a1 ≥ (l0_0.length : Int))) l0_0 l0_1)) else (impl_TutteMap.j0 k a1 true l0_0 l0_1))) = some (r1, r2, r3) := h; clear h; have HC3 := Az H; clear H
 go_enter Try.func53, Try.ntmps53
 go_upto_region 1 with (first | ((with_reducible refine gate_dst (N := 2) rfl ?_); (try (refine gate_guard (by rfl) ?_; dsimp only)); refine box_event ?hg (N := 2) ?hd (cs := #[.slice A0_0 l0_0.length c0_0, .slice A0_1 l0_1.length c0_1]) (t := 29) ?hr ?_; (case hd => rfl); (case hg => rfl); (case hr => first | (go_simp; done) | (go_simp; rfl)); intro gb342 hg w4 hbox hb; have n0 := Az (below_step (bU0 HB.out) hb); have n1 := Az (hbox); have n2 := Az ((by rw [hg]; exact (below_size (bU0 HB.out)) : w.heap.size ≤ gb342)); have n3 := n2; clear HB; have HB := n0; have BK342 := n1; have GW342 := n2; have GE342 := n3; clear n0 n1 n2 n3; clear hb hbox hg) | ((with_reducible refine gate_dst (N := 4) rfl ?_); (try (refine gate_guard (by rfl) ?_; dsimp only)); refine box_event ?hg (N := 4) ?hd (cs := #[.slice none 0 0, .slice none 0 0]) (t := 29) ?hr ?_; (case hd => rfl); (case hg => rfl); (case hr => first | (go_simp; done) | (go_simp; rfl)); intro gb343 hg w5 hbox hb; have n0 := Az (blk_below (g := gb342) (o := .cells #[.slice A0_0 l0_0.length c0_0, .slice A0_1 l0_1.length c0_1] 29 (0, 0)) (kU BK342.out) hb); have n1 := Az (below_step (bU1 HB.out GE342.out) hb); have n2 := Az (hbox); have n3 := Az ((by rw [hg]; exact (below_size (bU1 HB.out GE342.out)) : w.heap.size ≤ gb343)); have n4 := n3; have n5 := Az ((by rw [hg]; exact Nat.ne_of_lt (blk_lt (g := gb342) (o := .cells #[.slice A0_0 l0_0.length c0_0, .slice A0_1 l0_1.length c0_1] 29 (0, 0)) (kU BK342.out)) : gb342 ≠ gb343)); have n6 := Az ((by rw [hg]; exact Nat.ne_of_gt (blk_lt (g := gb342) (o := .cells #[.slice A0_0 l0_0.length c0_0, .slice A0_1 l0_1.length c0_1] 29 (0, 0)) (kU BK342.out)) : gb343 ≠ gb342)); clear BK342 HB; have BK342 := n0; have HB := n1; have BK343 := n2; have GW343 := n3; have GE343 := n4; have NB342_343 := n5; have NB343_342 := n6; clear n0 n1 n2 n3 n4 n5 n6; clear hb hbox hg))
 (try simp only [Act.put, List.setIfInBounds_toArray, List.set_cons_zero, List.set_cons_succ])
 go_cut [29] (fun v29 wc => ∃ (kq : Nat) (x29_2 : Bool), v29 = .bool x29_2 ∧ Aside0 (impl_TutteMap.j0 kq a1 x29_2 l0_0 l0_1 = some (r1, r2, r3)) ∧ Aside0 (kq ≤ k) ∧ Aside0 (wc.heap[gb342]? = some (.cells #[(.slice A0_0 l0_0.length c0_0), (.slice A0_1 l0_1.length c0_1)] 29 (0, 0))) ∧ Aside0 (wc.heap[gb343]? = some (.cells #[(.slice none 0 0), (.slice none 0 0)] 29 (0, 0))) ∧ Aside0 (Below w.heap.size w wc))
 case first =>
  have H := HC3.out; clear HC3; replace H := Option.bind_eq_some_iff.mp H; obtain ⟨t344, A60, H⟩ := H; replace H : (if t344 = true then (if a1 < 0 then (impl_TutteMap.j0 k a1 true l0_0 l0_1) else (impl_TutteMap.j0 k a1 (decide (a1 ≥ (l0_0.length : Int))) l0_0 l0_1)) else (impl_TutteMap.j0 k a1 true l0_0 l0_1)) = some (r1, r2, r3) := H; have A6 := Az A60; clear A60
  by_cases c7 : t344 = true
  ·
   subst c7
   have H1 : (if a1 < 0 then (impl_TutteMap.j0 k a1 true l0_0 l0_1) else (impl_TutteMap.j0 k a1 (decide (a1 ≥ (l0_0.length : Int))) l0_0 l0_1)) = some (r1, r2, r3) := by rw [if_pos rfl] at H; exact H
   clear H; have H := H1; clear H1
   by_cases c8 : a1 < 0
   ·
    rw [if_pos c8] at H; have c8b0 := decide_eq_true c8; clear c8; (first | rw [c8b0] | (simp only [i64_w, i32_w]; rw [c8b0]) | skip); have H' := Az H; clear H; have hnb9 := NB342_343.out; have hnc9 := NB343_342.out; have hcz10_0 : w5.cell? ⟨gb342, 0, none⟩ = some (.slice A0_0 l0_0.length c0_0) := (blk_cell BK342.out 0).trans rfl; have hcz10_1 : w5.cell? ⟨gb342, 1, none⟩ = some (.slice A0_1 l0_1.length c0_1) := (blk_cell BK342.out 1).trans rfl; have hfz10_0 := blk_frozen BK342.out 0; have hfz10_1 := blk_frozen BK342.out 1
    go_wp2_with (first | ((with_reducible refine gate_callee (f := 89) rfl ?_); refine goesL_ (some 17) rfl rfl Try.func89 (by kernel_rfl) rfl #[.agg #[.slice A0_0 l0_0.length c0_0, .slice A0_1 l0_1.length c0_1]] rfl (by (try simp only [List.map_toArray, List.map_cons, List.map_nil]); first | done | rfl | (simp only [List.length_drop, List.length_take]; rfl)) ?_; (with_reducible refine (impl_isQuad.calls k _ _ l0_0 _ _ l0_1 true _ ?side1 ?side2 ?side3 ?side4 A6.out).mono ?_); (case side1 => exact cU (Kd.C_below HR0_0.out HB.out)); (case side2 => exact HC0_0.out); (case side3 => exact cU (Kd.C_below HR0_1.out HB.out)); (case side4 => exact HC0_1.out); rintro e w11 ⟨rfl, hb⟩; refine ⟨_, rfl, ?_⟩; have n0 := Az (blk_below (g := gb342) (o := .cells #[.slice A0_0 l0_0.length c0_0, .slice A0_1 l0_1.length c0_1] 29 (0, 0)) (kU BK342.out) hb); have n1 := Az (blk_below (g := gb343) (o := .cells #[.slice none 0 0, .slice none 0 0] 29 (0, 0)) (kU BK343.out) hb); have n2 := Az (below_step (bU2 HB.out GE342.out GE343.out) hb); clear BK342 BK343 HB; have BK342 := n0; have BK343 := n1; have HB := n2; clear n0 n1 n2; (try clear hb); (try clear hb2); (try clear hk); (try clear hi)))
    go_meet
    case rel => exact ⟨_, (true), rS, H', ⟨by first | omega | exact Nat.le_refl _⟩, ⟨kU BK342.out⟩, ⟨kU BK343.out⟩, ⟨bU2 HB.out GE342.out GE343.out⟩⟩
   ·
    rw [if_neg c8] at H; have c8b0 := decide_eq_false c8; clear c8; (first | rw [c8b0] | (simp only [i64_w, i32_w]; rw [c8b0]) | skip); have H' := Az H; clear H; have hnb12 := NB342_343.out; have hnc12 := NB343_342.out; have hcz13_0 : w5.cell? ⟨gb342, 0, none⟩ = some (.slice A0_0 l0_0.length c0_0) := (blk_cell BK342.out 0).trans rfl; have hcz13_1 : w5.cell? ⟨gb342, 1, none⟩ = some (.slice A0_1 l0_1.length c0_1) := (blk_cell BK342.out 1).trans rfl; have hfz13_0 := blk_frozen BK342.out 0; have hfz13_1 := blk_frozen BK342.out 1
    go_wp2_with (first | ((with_reducible refine gate_callee (f := 89) rfl ?_); refine goesL_ (some 17) rfl rfl Try.func89 (by kernel_rfl) rfl #[.agg #[.slice A0_0 l0_0.length c0_0, .slice A0_1 l0_1.length c0_1]] rfl (by (try simp only [List.map_toArray, List.map_cons, List.map_nil]); first | done | rfl | (simp only [List.length_drop, List.length_take]; rfl)) ?_; (with_reducible refine (impl_isQuad.calls k _ _ l0_0 _ _ l0_1 true _ ?side1 ?side2 ?side3 ?side4 A6.out).mono ?_); (case side1 => exact cU (Kd.C_below HR0_0.out HB.out)); (case side2 => exact HC0_0.out); (case side3 => exact cU (Kd.C_below HR0_1.out HB.out)); (case side4 => exact HC0_1.out); rintro e w14 ⟨rfl, hb⟩; refine ⟨_, rfl, ?_⟩; have n0 := Az (blk_below (g := gb342) (o := .cells #[.slice A0_0 l0_0.length c0_0, .slice A0_1 l0_1.length c0_1] 29 (0, 0)) (kU BK342.out) hb); have n1 := Az (blk_below (g := gb343) (o := .cells #[.slice none 0 0, .slice none 0 0] 29 (0, 0)) (kU BK343.out) hb); have n2 := Az (below_step (bU2 HB.out GE342.out GE343.out) hb); clear BK342 BK343 HB; have BK342 := n0; have BK343 := n1; have HB := n2; clear n0 n1 n2; (try clear hb); (try clear hb2); (try clear hk); (try clear hi); have hcz15_0 : w14.cell? ⟨gb342, 0, none⟩ = some (.slice A0_0 l0_0.length c0_0) := (blk_cell BK342.out 0).trans rfl; have hcz15_1 : w14.cell? ⟨gb342, 1, none⟩ = some (.slice A0_1 l0_1.length c0_1) := (blk_cell BK342.out 1).trans rfl; have hfz15_0 := blk_frozen BK342.out 0; have hfz15_1 := blk_frozen BK342.out 1))
    go_meet
    case rel => exact ⟨_, (decide (a1 ≥ (l0_0.length : Int))), rS, H', ⟨by first | omega | exact Nat.le_refl _⟩, ⟨kU BK342.out⟩, ⟨kU BK343.out⟩, ⟨bU2 HB.out GE342.out GE343.out⟩⟩
  ·
   replace c7 := Bool.eq_false_iff.mpr c7; subst c7
   have H1 : (impl_TutteMap.j0 k a1 true l0_0 l0_1) = some (r1, r2, r3) := by rw [if_neg (show ¬ (false = true) by decide)] at H; exact H
   clear H; have H := H1; clear H1; have H' := Az H; clear H; have hnb16 := NB342_343.out; have hnc16 := NB343_342.out; have hcz17_0 : w5.cell? ⟨gb342, 0, none⟩ = some (.slice A0_0 l0_0.length c0_0) := (blk_cell BK342.out 0).trans rfl; have hcz17_1 : w5.cell? ⟨gb342, 1, none⟩ = some (.slice A0_1 l0_1.length c0_1) := (blk_cell BK342.out 1).trans rfl; have hfz17_0 := blk_frozen BK342.out 0; have hfz17_1 := blk_frozen BK342.out 1
   go_wp2_with (first | ((with_reducible refine gate_callee (f := 89) rfl ?_); refine goesL_ (some 17) rfl rfl Try.func89 (by kernel_rfl) rfl #[.agg #[.slice A0_0 l0_0.length c0_0, .slice A0_1 l0_1.length c0_1]] rfl (by (try simp only [List.map_toArray, List.map_cons, List.map_nil]); first | done | rfl | (simp only [List.length_drop, List.length_take]; rfl)) ?_; (with_reducible refine (impl_isQuad.calls k _ _ l0_0 _ _ l0_1 false _ ?side1 ?side2 ?side3 ?side4 A6.out).mono ?_); (case side1 => exact cU (Kd.C_below HR0_0.out HB.out)); (case side2 => exact HC0_0.out); (case side3 => exact cU (Kd.C_below HR0_1.out HB.out)); (case side4 => exact HC0_1.out); rintro e w18 ⟨rfl, hb⟩; refine ⟨_, rfl, ?_⟩; have n0 := Az (blk_below (g := gb342) (o := .cells #[.slice A0_0 l0_0.length c0_0, .slice A0_1 l0_1.length c0_1] 29 (0, 0)) (kU BK342.out) hb); have n1 := Az (blk_below (g := gb343) (o := .cells #[.slice none 0 0, .slice none 0 0] 29 (0, 0)) (kU BK343.out) hb); have n2 := Az (below_step (bU2 HB.out GE342.out GE343.out) hb); clear BK342 BK343 HB; have BK342 := n0; have BK343 := n1; have HB := n2; clear n0 n1 n2; (try clear hb); (try clear hb2); (try clear hk); (try clear hi)))
   go_meet
   case rel => exact ⟨_, (true), rS, H', ⟨by first | omega | exact Nat.le_refl _⟩, ⟨kU BK342.out⟩, ⟨kU BK343.out⟩, ⟨bU2 HB.out GE342.out GE343.out⟩⟩
 case rest =>
  clear HC3; (try clear c1); (try clear p2); (try clear c5); (try clear c7); (try clear c8); (try clear c8b0); (try clear c9); (try clear c12); (try clear c16); (try clear hcz10_0); (try clear hcz10_1); (try clear hcz13_0); (try clear hcz13_1); (try clear hcz15_0); (try clear hcz15_1); (try clear hcz17_0); (try clear hcz17_1); (try clear hfz10_0); (try clear hfz10_1); (try clear hfz13_0); (try clear hfz13_1); (try clear hfz15_0); (try clear hfz15_1); (try clear hfz17_0); (try clear hfz17_1); obtain ⟨kq, x29_2, rfl, HA, HJ2, BK342, BK343, HB⟩ := hcut
  cases kq with
  | zero => exact absurd HA.out (by simp [impl_TutteMap.j0])
  | succ kj2 =>
   have H := HA.out; clear HA; simp only [impl_TutteMap.j0] at H
   by_cases c19 : x29_2 = true
   ·
    subst c19
    have H1 : (some (([] : List Int), ([] : List Int), false)) = some (r1, r2, r3) := by rw [if_pos rfl] at H; exact H
    clear H; have H := H1; clear H1; simp only [Option.some.injEq, Prod.mk.injEq] at H; obtain ⟨rfl, rfl, rfl⟩ := H; have hnb20 := NB343_342.out; have hnc20 := NB342_343.out; have hcz21_0 : wc.cell? ⟨gb343, 0, none⟩ = some (.slice none 0 0) := (blk_cell BK343.out 0).trans rfl; have hcz21_1 : wc.cell? ⟨gb343, 1, none⟩ = some (.slice none 0 0) := (blk_cell BK343.out 1).trans rfl; have hfz21_0 := blk_frozen BK343.out 0; have hfz21_1 := blk_frozen BK343.out 1
    go_wp2
    refine bodyPost_ret (results_ct rfl _ _ gb343 29 #[.slice none 0 0, .slice none 0 0] (0, 0) _ rfl (by (with_reducible repeat (first | refine blk_drewN ?_ _ | refine blk_drew ?_ | refine blk_alloc ?_ _)); refine blk_put (cs := #[.slice none 0 0, .slice none 0 0]) ?_ 1 _ rfl; (with_reducible repeat (first | refine blk_drewN ?_ _ | refine blk_drew ?_ | refine blk_alloc ?_ _)); refine blk_put (cs := #[.slice none 0 0, .slice none 0 0]) ?_ 0 _ rfl; (with_reducible repeat (first | refine blk_drewN ?_ _ | refine blk_drew ?_ | refine blk_alloc ?_ _)); exact BK343.out) Try.underlying29 rfl (by kernel_rfl)) rfl ?_
    exact ⟨_, _, rE, by first | exact Kd.R_nil _ _ _ _ _ | exact Kd.N_nil _ _ _ _ _ | exact Kd.V_nil _ _ _ _ _ | exact Kd.Q_nil _ _ _ _ _ | exact Kd.S_nil _ _ _ _ _, by first | exact Kd.R_nil _ _ _ _ _ | exact Kd.N_nil _ _ _ _ _ | exact Kd.V_nil _ _ _ _ _ | exact Kd.Q_nil _ _ _ _ _ | exact Kd.S_nil _ _ _ _ _, bU2 HB.out GE342.out GE343.out⟩
   ·
    replace c19 := Bool.eq_false_iff.mpr c19; subst c19
    have H1 : ((impl_distancesFrom.f kj2 l0_0 l0_1 a1).bind fun t345 => (if 0 ≤ (t345.length : Int) then (if ((t345.length : Int) : Int).toNat ≤ 35184372088832 then (impl_TutteMap.l0 kj2 t345 (List.replicate ((t345.length : Int) : Int).toNat 0) 0 l0_1 (l0_1.length : Int) 0 l0_0 l0_1) else (none)) else (none))) = some (r1, r2, r3) := by rw [if_neg (show ¬ (false = true) by decide)] at H; exact H
    clear H; have H := H1; clear H1; replace H := Option.bind_eq_some_iff.mp H; obtain ⟨t345, A220, H⟩ := H; replace H : (if 0 ≤ (t345.length : Int) then (if ((t345.length : Int) : Int).toNat ≤ 35184372088832 then (impl_TutteMap.l0 kj2 t345 (List.replicate ((t345.length : Int) : Int).toNat 0) 0 l0_1 (l0_1.length : Int) 0 l0_0 l0_1) else (none)) else (none)) = some (r1, r2, r3) := H; have A22 := Az A220; clear A220
    by_cases c23 : 0 ≤ (t345.length : Int)
    ·
     rw [if_pos c23] at H; have c23b0 := eq_true c23; have c23b1 := decide_eq_true c23; clear c23
     by_cases c24 : ((t345.length : Int) : Int).toNat ≤ 35184372088832
     ·
      rw [if_pos c24] at H; have c24b0 := eq_true c24; have c24b1 := decide_eq_true c24; clear c24; obtain ⟨y348, hy348⟩ : ∃ y_ : List Int, y_ = (List.replicate ((t345.length : Int) : Int).toNat 0) := ⟨_, rfl⟩; replace H : (impl_TutteMap.l0 kj2 t345 y348 0 l0_1 (l0_1.length : Int) 0 l0_0 l0_1) = some (r1, r2, r3) := hR hy348 H; have Ny348 := Az hy348; clear hy348; have H' := Az H; clear H; have hnb25 := NB342_343.out; have hnc25 := NB343_342.out; have hcz26_0 : wc.cell? ⟨gb342, 0, none⟩ = some (.slice A0_0 l0_0.length c0_0) := (blk_cell BK342.out 0).trans rfl; have hcz26_1 : wc.cell? ⟨gb342, 1, none⟩ = some (.slice A0_1 l0_1.length c0_1) := (blk_cell BK342.out 1).trans rfl; have hfz26_0 := blk_frozen BK342.out 0; have hfz26_1 := blk_frozen BK342.out 1
      go_wp2_with (first | ((with_reducible refine gate_callee (f := 88) rfl ?_); refine goesL_ (some 33) rfl rfl Try.func88 (by kernel_rfl) rfl #[.agg #[.slice A0_0 l0_0.length c0_0, .slice A0_1 l0_1.length c0_1], .int .i64 a1] rfl (by (try simp only [List.map_toArray, List.map_cons, List.map_nil]); first | done | rfl | (simp only [List.length_drop, List.length_take]; rfl)) ?_; (with_reducible refine (impl_distancesFrom.calls kj2 _ _ l0_0 _ _ l0_1 a1 t345 _ ?side1 ?side2 ?side3 ?side4 A22.out).mono ?_); (case side1 => exact cU (Kd.C_below HR0_0.out HB.out)); (case side2 => exact HC0_0.out); (case side3 => exact cU (Kd.C_below HR0_1.out HB.out)); (case side4 => exact HC0_1.out); rintro e w27 ⟨v346, rfl, ho0, hb⟩; refine ⟨_, rfl, ?_⟩; have n0 := Az (Kd.R_lower ho0 (below_size (bU2 HB.out GE342.out GE343.out))); have n1 := Az (blk_below (g := gb342) (o := .cells #[.slice A0_0 l0_0.length c0_0, .slice A0_1 l0_1.length c0_1] 29 (0, 0)) (kU BK342.out) hb); have n2 := Az (blk_below (g := gb343) (o := .cells #[.slice none 0 0, .slice none 0 0] 29 (0, 0)) (kU BK343.out) hb); have n3 := Az (below_step (bU2 HB.out GE342.out GE343.out) hb); clear BK342 BK343 HB; have HO347 := n0; have BK342 := n1; have BK343 := n2; have HB := n3; clear n0 n1 n2 n3; (try clear hb); (try clear hb2); (try clear hk); (try clear hi); (try clear ho0); obtain ⟨Ao28, co28, eo28⟩ := Kd.R_slice HO347.out; subst eo28) | ((with_reducible refine gate_dst (N := 36) rfl ?_); (try (refine gate_guard (by rfl) ?_; dsimp only)); refine Kd.R_make (Kd.int .i64) _ 3 rfl (N := 36) rfl 23 _ _ rfl (t345.length : Int) rfl rfl Try.underlying23 (.int .i64 0) 8 info3 rfl (by decide) (by omega) 0 (ok := fun _ => True) (okp := fun _ => True) rfl (fun _ hk => hk) trivial (oA) (Nat.le_trans (Nat.mul_le_mul_right _ (oA : (t345.length : Int).toNat ≤ 35184372088832)) (by omega)) (Below.refl _ _) (Nat.le_refl _) ?_; intro v349 w29 ho30 hb hg_ hnew_; clear hg_ hnew_; (first | rw [← Ny348.out] at ho30 | (simp only [Int.reduceToNat] at ho30; rw [← Ny348.out] at ho30)); have n0 := Az (Kd.R_elder' (rU HO347.out) (Kd.R_base ho30) hb); have n1 := Az (Kd.R_lower (Kd.R_new' ho30 (Kd.R_lt (rU HO347.out))) (below_size (bU2 HB.out GE342.out GE343.out))); have n2 := Az (blk_below (g := gb342) (o := .cells #[.slice A0_0 l0_0.length c0_0, .slice A0_1 l0_1.length c0_1] 29 (0, 0)) (kU BK342.out) hb); have n3 := Az (blk_below (g := gb343) (o := .cells #[.slice none 0 0, .slice none 0 0] 29 (0, 0)) (kU BK343.out) hb); have n4 := Az (below_step (bU2 HB.out GE342.out GE343.out) hb); clear HO347 BK342 BK343 HB; have HO347 := n0; have HO350 := n1; have BK342 := n2; have BK343 := n3; have HB := n4; clear n0 n1 n2 n3 n4 hb ho30; have hcz31_0 : w29.cell? ⟨gb342, 0, none⟩ = some (.slice A0_0 l0_0.length c0_0) := (blk_cell BK342.out 0).trans rfl; have hcz31_1 : w29.cell? ⟨gb342, 1, none⟩ = some (.slice A0_1 l0_1.length c0_1) := (blk_cell BK342.out 1).trans rfl; have hfz31_0 := blk_frozen BK342.out 0; have hfz31_1 := blk_frozen BK342.out 1))
      go_loopg [8, 40] kj2 (fun kq v8 v40 w' => ∃ (x7_2 : List Int) (x8_2 : Int) (x40_2 : Int), v8 = .int .i64 x8_2 ∧ v40 = .int .i64 x40_2 ∧ Aside0 (impl_TutteMap.l0 kq t345 x7_2 x8_2 l0_1 (l0_1.length : Int) x40_2 l0_0 l0_1 = some (r1, r2, r3)) ∧ Aside0 (kq ≤ kj2) ∧ Aside0 (Kd.R (Kd.int .i64) 3 w' w.heap.size (fun k_ => some k_ ≠ (v349 : Value).ownBlock) (.slice Ao28 t345.length co28) t345) ∧ Aside0 (Kd.R (Kd.int .i64) 3 w' w.heap.size (fun k_ => some k_ ≠ ((.slice Ao28 t345.length co28) : Value).ownBlock) v349 x7_2) ∧ Aside0 (w'.heap[gb342]? = some (.cells #[(.slice A0_0 l0_0.length c0_0), (.slice A0_1 l0_1.length c0_1)] 29 (0, 0))) ∧ Aside0 (w'.heap[gb343]? = some (.cells #[(.slice none 0 0), (.slice none 0 0)] 29 (0, 0))) ∧ Aside0 (Below w.heap.size w w'))
      case atStart => exact ⟨(y348), (0), (0), rS, rS, H', ⟨Nat.le_refl _⟩, ⟨by (with_reducible repeat (first | apply Kd.R_alloc | apply Kd.R_drewN | apply Kd.R_drew)); exact Kd.R_mono HO347.out (fun _ hk => hk.2)⟩, ⟨by (with_reducible repeat (first | apply Kd.R_alloc | apply Kd.R_drewN | apply Kd.R_drew)); exact Kd.R_mono HO350.out (fun _ hk => hk.2)⟩, ⟨kU BK342.out⟩, ⟨kU BK343.out⟩, ⟨bU2 HB.out GE342.out GE343.out⟩⟩
      case round =>
       clear H'; (try clear c1); (try clear c2); (try clear p2); (try clear c5); (try clear c7); (try clear c8); (try clear c8b0); (try clear c9); (try clear c12); (try clear c16); (try clear c19); (try clear c20); (try clear c23); (try clear c23b0); (try clear c23b1); (try clear c24); (try clear c24b0); (try clear c24b1); (try clear c25); (try clear hcz10_0); (try clear hcz10_1); (try clear hcz13_0); (try clear hcz13_1); (try clear hcz15_0); (try clear hcz15_1); (try clear hcz17_0); (try clear hcz17_1); (try clear hcz21_0); (try clear hcz21_1); (try clear hcz26_0); (try clear hcz26_1); (try clear hcz31_0); (try clear hcz31_1); (try clear hfz10_0); (try clear hfz10_1); (try clear hfz13_0); (try clear hfz13_1); (try clear hfz15_0); (try clear hfz15_1); (try clear hfz17_0); (try clear hfz17_1); (try clear hfz21_0); (try clear hfz21_1); (try clear hfz26_0); (try clear hfz26_1); (try clear hfz31_0); (try clear hfz31_1); (try clear p2); obtain ⟨x7_2, x8_2, x40_2, rfl, rfl, HA, HK2, HO_6, HO_7, BK342, BK343, HB⟩ := hrel
       cases gk with
       | zero => exact absurd HA.out (by simp [impl_TutteMap.l0])
       | succ k2 =>
        have H := HA.out; clear HA; simp only [impl_TutteMap.l0] at H
        by_cases c32 : x40_2 < (l0_1.length : Int)
        ·
         rw [if_pos c32] at H; have c32b0 := decide_eq_true c32; clear c32
         by_cases c33 : 0 ≤ x40_2
         ·
          rw [if_pos c33] at H; have c33b0 := decide_eq_true c33; clear c33
          by_cases c34 : x40_2 < (l0_1.length : Int)
          ·
           rw [if_pos c34] at H; have c34b0 := decide_eq_true c34; clear c34
           by_cases c35 : x40_2 < (t345.length : Int)
           ·
            rw [if_pos c35] at H; have c35b0 := decide_eq_true c35; clear c35
            by_cases c36 : 0 ≤ (rd l0_1 x40_2)
            ·
             rw [if_pos c36] at H; have c36b0 := decide_eq_true c36; clear c36
             by_cases c37 : (rd l0_1 x40_2) < (t345.length : Int)
             ·
              rw [if_pos c37] at H; have c37b0 := decide_eq_true c37; clear c37
              by_cases c38 : (Int.tmod (rd t345 x40_2) 2) = (Int.tmod (rd t345 (rd l0_1 x40_2)) 2)
              ·
               rw [if_pos c38] at H; have c38b0 := beq_iff_eq.mpr c38; have c38b1 := bne_eq_false_iff_eq.mpr c38; clear c38; simp only [Option.some.injEq, Prod.mk.injEq] at H; obtain ⟨rfl, rfl, rfl⟩ := H; have p351 : 0 ≤ (x40_2 : Int) := oA; have q351 : x40_2 < (l0_1.length : Int) := oA; obtain ⟨ad351, e351, hx351_0⟩ := Kd.at_int HR0_1.out x40_2 p351 q351
               cases e351
               (try replace hx351_0 := (HB.out.cell (World.block_lt_of_cell? w _ hx351_0)).trans hx351_0); replace p351 := eq_true p351; replace q351 := eq_true q351
               try go_wp2
               have n0 := Az (Kd.R_drew HO_6.out); have n1 := Az (Kd.R_drew HO_7.out); have n2 := Az (blk_drew BK342.out); have n3 := Az (blk_drew BK343.out); have n4 := Az (below_drew1 HB.out); clear HO_6 HO_7 BK342 BK343 HB; have HO_6 := n0; have HO_7 := n1; have BK342 := n2; have BK343 := n3; have HB := n4; clear n0 n1 n2 n3 n4; have p352 : 0 ≤ (x40_2 : Int) := oA; have q352 : x40_2 < (t345.length : Int) := oA; obtain ⟨ad352, e352, hx352_0⟩ := Kd.at_int (Kd.R_reads' HO_6.out).2.2 x40_2 p352 q352
               cases e352
               replace p352 := eq_true p352; replace q352 := eq_true q352; have p353 : 0 ≤ ((rd l0_1 x40_2) : Int) := oA; have q353 : (rd l0_1 x40_2) < (t345.length : Int) := oA; obtain ⟨ad353, e353, hx353_0⟩ := Kd.at_int (Kd.R_reads' HO_6.out).2.2 (rd l0_1 x40_2) p353 q353; obtain rfl : ad352 = ad353 := (by injection e353); replace p353 := eq_true p353; replace q353 := eq_true q353
               refine start_ (n := 11) (S := fun w' => w'.cell? (ad352.add (x40_2).toNat) = some (.int .i64 (rd t345 x40_2)) ∧ w'.cell? (ad352.add ((rd l0_1 x40_2)).toNat) = some (.int .i64 (rd t345 (rd l0_1 x40_2)))) (ds := []) (impl_TutteMap_up [(0, some 45), (1, some 46), (2, some 47), (5, some 50), (6, some 51), (7, some 52), (3, some 48), (4, some 49), (8, some 53), (9, some 54), (10, some 55)] 11) (by kernel_rfl) rfl rfl ⟨hx352_0, hx353_0⟩ (fun hHeld => ?_); refine with_tabW impl_TutteMap.tab8 impl_TutteMap.bits8 (fun HT_ HW_ => ?_)
               generalize wr.drew = w39 at HO_6 HO_7 BK342 BK343 HB hx352_0 hx353_0 hHeld ⊢
               repeat (first | (refine impl_TutteMap_uP rfl rfl (any_of HT_.out (by kernel_rfl)) (fun _ _ _ h => h) (by rfl) (v := ?_) (a' := ?_) ?_ ?_ ?_; rotate_left; (· intro w'; go_simp; with_reducible rfl); rotate_left; (· simp only [Act.put, List.setIfInBounds_toArray, List.set_cons_zero, List.set_cons_succ, i64_w, i32_w]; rfl)) | (refine impl_TutteMap_uT rfl rfl (take_ofW HT_.out HW_.out (by kernel_rfl)) (fun _ _ _ h => h) (by rfl) (v := ?_) (a' := ?_) ?_ hHeld ?_ ?_; rotate_left; (· rintro w' ⟨s0, s1⟩; go_simp; with_reducible rfl); rotate_left; (· simp only [Act.put, List.setIfInBounds_toArray, List.set_cons_zero, List.set_cons_succ, i64_w, i32_w]; rfl)))
               refine done_ (done_of HT_.out (by kernel_rfl)) ?_
               have hnb40 := NB343_342.out; have hnc40 := NB342_343.out; have hcz41_0 : w39.cell? ⟨gb343, 0, none⟩ = some (.slice none 0 0) := (blk_cell BK343.out 0).trans rfl; have hcz41_1 : w39.cell? ⟨gb343, 1, none⟩ = some (.slice none 0 0) := (blk_cell BK343.out 1).trans rfl; have hfz41_0 := blk_frozen BK343.out 0; have hfz41_1 := blk_frozen BK343.out 1
               try go_wp2
               refine bodyPost_ret (results_ct rfl _ _ gb343 29 #[.slice none 0 0, .slice none 0 0] (0, 0) _ rfl (by (with_reducible repeat (first | refine blk_drewN ?_ _ | refine blk_drew ?_ | refine blk_alloc ?_ _)); refine blk_put (cs := #[.slice none 0 0, .slice none 0 0]) ?_ 1 _ rfl; (with_reducible repeat (first | refine blk_drewN ?_ _ | refine blk_drew ?_ | refine blk_alloc ?_ _)); refine blk_put (cs := #[.slice none 0 0, .slice none 0 0]) ?_ 0 _ rfl; (with_reducible repeat (first | refine blk_drewN ?_ _ | refine blk_drew ?_ | refine blk_alloc ?_ _)); exact BK343.out) Try.underlying29 rfl (by kernel_rfl)) rfl ?_
               exact ⟨_, _, rE, by first | exact Kd.R_nil _ _ _ _ _ | exact Kd.N_nil _ _ _ _ _ | exact Kd.V_nil _ _ _ _ _ | exact Kd.Q_nil _ _ _ _ _ | exact Kd.S_nil _ _ _ _ _, by first | exact Kd.R_nil _ _ _ _ _ | exact Kd.N_nil _ _ _ _ _ | exact Kd.V_nil _ _ _ _ _ | exact Kd.Q_nil _ _ _ _ _ | exact Kd.S_nil _ _ _ _ _, bU2 HB.out GE342.out GE343.out⟩
              ·
               rw [if_neg c38] at H; have c38b0 := beq_eq_false_iff_ne.mpr c38; have c38b1 := bne_iff_ne.mpr c38
               by_cases c42 : x40_2 < (x7_2.length : Int)
               ·
                rw [if_pos c42] at H; have c42b0 := decide_eq_true c42; clear c42; obtain ⟨y354, hy354⟩ : ∃ y_ : List Int, y_ = (x7_2.set (x40_2 : Int).toNat x8_2) := ⟨_, rfl⟩; replace H : (if (Int.tmod (rd t345 x40_2) 2) = 0 then (impl_TutteMap.l0 k2 t345 y354 (wrap64 (x8_2 + 1)) l0_1 (l0_1.length : Int) (wrap64 (x40_2 + 1)) l0_0 l0_1) else (impl_TutteMap.l0 k2 t345 y354 x8_2 l0_1 (l0_1.length : Int) (wrap64 (x40_2 + 1)) l0_0 l0_1)) = some (r1, r2, r3) := hR hy354 H; have Ny354 := Az hy354; clear hy354
                by_cases c44 : (Int.tmod (rd t345 x40_2) 2) = 0
                ·
                 rw [if_pos c44] at H; have c44b0 := beq_iff_eq.mpr c44; have c44b1 := bne_eq_false_iff_eq.mpr c44; clear c44; have H' := Az H; clear H; have p351 : 0 ≤ (x40_2 : Int) := oA; have q351 : x40_2 < (l0_1.length : Int) := oA; obtain ⟨ad351, e351, hx351_0⟩ := Kd.at_int HR0_1.out x40_2 p351 q351
                 cases e351
                 (try replace hx351_0 := (HB.out.cell (World.block_lt_of_cell? w _ hx351_0)).trans hx351_0); replace p351 := eq_true p351; replace q351 := eq_true q351
                 try go_wp2
                 have n0 := Az (Kd.R_drew HO_6.out); have n1 := Az (Kd.R_drew HO_7.out); have n2 := Az (blk_drew BK342.out); have n3 := Az (blk_drew BK343.out); have n4 := Az (below_drew1 HB.out); clear HO_6 HO_7 BK342 BK343 HB; have HO_6 := n0; have HO_7 := n1; have BK342 := n2; have BK343 := n3; have HB := n4; clear n0 n1 n2 n3 n4; have p352 : 0 ≤ (x40_2 : Int) := oA; have q352 : x40_2 < (t345.length : Int) := oA; obtain ⟨ad352, e352, hx352_0⟩ := Kd.at_int (Kd.R_reads' HO_6.out).2.2 x40_2 p352 q352
                 cases e352
                 replace p352 := eq_true p352; replace q352 := eq_true q352; have p353 : 0 ≤ ((rd l0_1 x40_2) : Int) := oA; have q353 : (rd l0_1 x40_2) < (t345.length : Int) := oA; obtain ⟨ad353, e353, hx353_0⟩ := Kd.at_int (Kd.R_reads' HO_6.out).2.2 (rd l0_1 x40_2) p353 q353; obtain rfl : ad352 = ad353 := (by injection e353); replace p353 := eq_true p353; replace q353 := eq_true q353
                 refine start_ (n := 11) (S := fun w' => w'.cell? (ad352.add (x40_2).toNat) = some (.int .i64 (rd t345 x40_2)) ∧ w'.cell? (ad352.add ((rd l0_1 x40_2)).toNat) = some (.int .i64 (rd t345 (rd l0_1 x40_2)))) (ds := []) (impl_TutteMap_up [(0, some 45), (1, some 46), (2, some 47), (5, some 50), (6, some 51), (7, some 52), (3, some 48), (4, some 49), (8, some 53), (9, some 54), (10, some 55)] 11) (by kernel_rfl) rfl rfl ⟨hx352_0, hx353_0⟩ (fun hHeld => ?_); refine with_tabW impl_TutteMap.tab8 impl_TutteMap.bits8 (fun HT_ HW_ => ?_)
                 generalize wr.drew = w45 at HO_6 HO_7 BK342 BK343 HB hx352_0 hx353_0 hHeld ⊢
                 repeat (first | (refine impl_TutteMap_uP rfl rfl (any_of HT_.out (by kernel_rfl)) (fun _ _ _ h => h) (by rfl) (v := ?_) (a' := ?_) ?_ ?_ ?_; rotate_left; (· intro w'; go_simp; with_reducible rfl); rotate_left; (· simp only [Act.put, List.setIfInBounds_toArray, List.set_cons_zero, List.set_cons_succ, i64_w, i32_w]; rfl)) | (refine impl_TutteMap_uT rfl rfl (take_ofW HT_.out HW_.out (by kernel_rfl)) (fun _ _ _ h => h) (by rfl) (v := ?_) (a' := ?_) ?_ hHeld ?_ ?_; rotate_left; (· rintro w' ⟨s0, s1⟩; go_simp; with_reducible rfl); rotate_left; (· simp only [Act.put, List.setIfInBounds_toArray, List.set_cons_zero, List.set_cons_succ, i64_w, i32_w]; rfl)))
                 refine done_ (done_of HT_.out (by kernel_rfl)) ?_
                 have p43 : 0 ≤ (x40_2 : Int) := oA; have q43 : (x40_2 : Int) < ((x7_2.length : Int) : Int) := oA; obtain ⟨go43, co43, eo43, gb43, gl43, cl43, HG43⟩ := Kd.R_form HO_7.out (by omega); (first | cases eo43 | (injection eo43 with ea_ en_ ec_; (first | subst ea_ | (injection ea_ with ea_; subst ea_)); subst ec_; clear en_)); have GB43 := Az gb43; have GG43 := Az HG43; clear gb43 gl43 HG43; obtain ⟨hx43_0, hf43_0⟩ := Kd.R_celln 0 HO_7.out (x40_2 : Int) p43 q43; replace p43 := eq_true p43; replace q43 := eq_true q43; obtain ⟨hy46_, hz46_⟩ := Kd.R_celln 0 HO_7.out (x40_2 : Int) (oA) (oA); have HP46 := Kd.R_putg HO_7.out (x40_2 : Int) x8_2
                 try go_wp2_with (first | ((with_reducible refine gate_store (t := 3) (p := 60) rfl ?_); refine store_event (t := 3) (p := 60) (v := ?vo_w47) (w1 := (w45.setCell ⟨go43, (x40_2 : Int).toNat, none⟩ (.int .i64 x8_2))) ?hg ?ho ?hn ?hr ?_; (case ho => rfl); (case hg => rfl); (case hn => rfl); (case hr => first | (go_simp; done) | (go_simp; rfl)); intro w47 hw; have hg : w45.grownBy w47 (some go43) := (by rw [hw]; exact HP46.2); have hp_ : Kd.R (Kd.int .i64) 3 w47 w.heap.size (fun k_ => some k_ ≠ (.slice (some ad352) t345.length co28 : Value).ownBlock) (.slice (some ⟨go43, 0, none⟩) x7_2.length co43) y354 := (by rw [hw, Ny354.out]; exact HP46.1); clear HP46; have n0 := Az (Kd.R_after (v := (.slice (some ⟨go43, 0, none⟩) x7_2.length co43)) (v1 := (.slice (some ⟨go43, 0, none⟩) x7_2.length co43)) (ok := (fun _ => True)) (by (with_reducible repeat (first | apply Kd.R_alloc | apply Kd.R_drewN | apply Kd.R_drew)); exact Kd.R_mono HO_6.out (fun _ hk => ⟨trivial, hk⟩)) hg (.inl rfl)); have n1 := Az (hp_); have n2 := Az (blk_grown (g := gb342) (o := .cells #[.slice A0_0 l0_0.length c0_0, .slice (some ad351) l0_1.length c0_1] 29 (0, 0)) (kU BK342.out) hg (Kd.R_ne HO_7.out BK342.out (by decide))); have n3 := Az (blk_grown (g := gb343) (o := .cells #[.slice none 0 0, .slice none 0 0] 29 (0, 0)) (kU BK343.out) hg (Kd.R_ne HO_7.out BK343.out (by decide))); have n4 := Az ((by rw [hw]; exact below_set (HB.out) GB43.out : Below w.heap.size w w47)); clear HO_6 HO_7 BK342 BK343 HB; have HO_6 := n0; have HO_7 := n1; have BK342 := n2; have BK343 := n3; have HB := n4; clear n0 n1 n2 n3 n4 hg hw hp_; have p355 : 0 ≤ (x40_2 : Int) := oA; have q355 : x40_2 < (t345.length : Int) := oA; obtain ⟨ad355, e355, hx355_0⟩ := Kd.at_int (Kd.R_reads' HO_6.out).2.2 x40_2 p355 q355; obtain rfl : ad352 = ad355 := (by injection e355); replace p355 := eq_true p355; replace q355 := eq_true q355))
                 (first | go_roundg k2 | (refine Handed.intro k2 ?measure ?_; rotate_left; go_step; (try simp only [add_plain]); (repeat apply Exists.intro); refine ⟨?rel, rfl⟩))
                 case measure => have := HJ2.out; have := HK2.out; omega
                 case rel => exact ⟨(y354), (wrap64 (x8_2 + 1)), (wrap64 (x40_2 + 1)), rS, rS, H', ⟨by have := HJ2.out; have := HK2.out; omega⟩, ⟨by (with_reducible repeat (first | apply Kd.R_alloc | apply Kd.R_drewN | apply Kd.R_drew)); exact Kd.R_mono HO_6.out (fun _ hk => hk.2)⟩, ⟨rU HO_7.out⟩, ⟨kU BK342.out⟩, ⟨kU BK343.out⟩, ⟨bU2 HB.out GE342.out GE343.out⟩⟩
                ·
                 rw [if_neg c44] at H; have c44b0 := beq_eq_false_iff_ne.mpr c44; have c44b1 := bne_iff_ne.mpr c44; have H' := Az H; clear H; have p351 : 0 ≤ (x40_2 : Int) := oA; have q351 : x40_2 < (l0_1.length : Int) := oA; obtain ⟨ad351, e351, hx351_0⟩ := Kd.at_int HR0_1.out x40_2 p351 q351
                 cases e351
                 (try replace hx351_0 := (HB.out.cell (World.block_lt_of_cell? w _ hx351_0)).trans hx351_0); replace p351 := eq_true p351; replace q351 := eq_true q351
                 try go_wp2
                 have n0 := Az (Kd.R_drew HO_6.out); have n1 := Az (Kd.R_drew HO_7.out); have n2 := Az (blk_drew BK342.out); have n3 := Az (blk_drew BK343.out); have n4 := Az (below_drew1 HB.out); clear HO_6 HO_7 BK342 BK343 HB; have HO_6 := n0; have HO_7 := n1; have BK342 := n2; have BK343 := n3; have HB := n4; clear n0 n1 n2 n3 n4; have p352 : 0 ≤ (x40_2 : Int) := oA; have q352 : x40_2 < (t345.length : Int) := oA; obtain ⟨ad352, e352, hx352_0⟩ := Kd.at_int (Kd.R_reads' HO_6.out).2.2 x40_2 p352 q352
                 cases e352
                 replace p352 := eq_true p352; replace q352 := eq_true q352; have p353 : 0 ≤ ((rd l0_1 x40_2) : Int) := oA; have q353 : (rd l0_1 x40_2) < (t345.length : Int) := oA; obtain ⟨ad353, e353, hx353_0⟩ := Kd.at_int (Kd.R_reads' HO_6.out).2.2 (rd l0_1 x40_2) p353 q353; obtain rfl : ad352 = ad353 := (by injection e353); replace p353 := eq_true p353; replace q353 := eq_true q353
                 refine start_ (n := 11) (S := fun w' => w'.cell? (ad352.add (x40_2).toNat) = some (.int .i64 (rd t345 x40_2)) ∧ w'.cell? (ad352.add ((rd l0_1 x40_2)).toNat) = some (.int .i64 (rd t345 (rd l0_1 x40_2)))) (ds := []) (impl_TutteMap_up [(0, some 45), (1, some 46), (2, some 47), (5, some 50), (6, some 51), (7, some 52), (3, some 48), (4, some 49), (8, some 53), (9, some 54), (10, some 55)] 11) (by kernel_rfl) rfl rfl ⟨hx352_0, hx353_0⟩ (fun hHeld => ?_); refine with_tabW impl_TutteMap.tab8 impl_TutteMap.bits8 (fun HT_ HW_ => ?_)
                 generalize wr.drew = w48 at HO_6 HO_7 BK342 BK343 HB hx352_0 hx353_0 hHeld ⊢
                 repeat (first | (refine impl_TutteMap_uP rfl rfl (any_of HT_.out (by kernel_rfl)) (fun _ _ _ h => h) (by rfl) (v := ?_) (a' := ?_) ?_ ?_ ?_; rotate_left; (· intro w'; go_simp; with_reducible rfl); rotate_left; (· simp only [Act.put, List.setIfInBounds_toArray, List.set_cons_zero, List.set_cons_succ, i64_w, i32_w]; rfl)) | (refine impl_TutteMap_uT rfl rfl (take_ofW HT_.out HW_.out (by kernel_rfl)) (fun _ _ _ h => h) (by rfl) (v := ?_) (a' := ?_) ?_ hHeld ?_ ?_; rotate_left; (· rintro w' ⟨s0, s1⟩; go_simp; with_reducible rfl); rotate_left; (· simp only [Act.put, List.setIfInBounds_toArray, List.set_cons_zero, List.set_cons_succ, i64_w, i32_w]; rfl)))
                 refine done_ (done_of HT_.out (by kernel_rfl)) ?_
                 have p43 : 0 ≤ (x40_2 : Int) := oA; have q43 : (x40_2 : Int) < ((x7_2.length : Int) : Int) := oA; obtain ⟨go43, co43, eo43, gb43, gl43, cl43, HG43⟩ := Kd.R_form HO_7.out (by omega); (first | cases eo43 | (injection eo43 with ea_ en_ ec_; (first | subst ea_ | (injection ea_ with ea_; subst ea_)); subst ec_; clear en_)); have GB43 := Az gb43; have GG43 := Az HG43; clear gb43 gl43 HG43; obtain ⟨hx43_0, hf43_0⟩ := Kd.R_celln 0 HO_7.out (x40_2 : Int) p43 q43; replace p43 := eq_true p43; replace q43 := eq_true q43; obtain ⟨hy49_, hz49_⟩ := Kd.R_celln 0 HO_7.out (x40_2 : Int) (oA) (oA); have HP49 := Kd.R_putg HO_7.out (x40_2 : Int) x8_2
                 try go_wp2_with (first | ((with_reducible refine gate_store (t := 3) (p := 60) rfl ?_); refine store_event (t := 3) (p := 60) (v := ?vo_w50) (w1 := (w48.setCell ⟨go43, (x40_2 : Int).toNat, none⟩ (.int .i64 x8_2))) ?hg ?ho ?hn ?hr ?_; (case ho => rfl); (case hg => rfl); (case hn => rfl); (case hr => first | (go_simp; done) | (go_simp; rfl)); intro w50 hw; have hg : w48.grownBy w50 (some go43) := (by rw [hw]; exact HP49.2); have hp_ : Kd.R (Kd.int .i64) 3 w50 w.heap.size (fun k_ => some k_ ≠ (.slice (some ad352) t345.length co28 : Value).ownBlock) (.slice (some ⟨go43, 0, none⟩) x7_2.length co43) y354 := (by rw [hw, Ny354.out]; exact HP49.1); clear HP49; have n0 := Az (Kd.R_after (v := (.slice (some ⟨go43, 0, none⟩) x7_2.length co43)) (v1 := (.slice (some ⟨go43, 0, none⟩) x7_2.length co43)) (ok := (fun _ => True)) (by (with_reducible repeat (first | apply Kd.R_alloc | apply Kd.R_drewN | apply Kd.R_drew)); exact Kd.R_mono HO_6.out (fun _ hk => ⟨trivial, hk⟩)) hg (.inl rfl)); have n1 := Az (hp_); have n2 := Az (blk_grown (g := gb342) (o := .cells #[.slice A0_0 l0_0.length c0_0, .slice (some ad351) l0_1.length c0_1] 29 (0, 0)) (kU BK342.out) hg (Kd.R_ne HO_7.out BK342.out (by decide))); have n3 := Az (blk_grown (g := gb343) (o := .cells #[.slice none 0 0, .slice none 0 0] 29 (0, 0)) (kU BK343.out) hg (Kd.R_ne HO_7.out BK343.out (by decide))); have n4 := Az ((by rw [hw]; exact below_set (HB.out) GB43.out : Below w.heap.size w w50)); clear HO_6 HO_7 BK342 BK343 HB; have HO_6 := n0; have HO_7 := n1; have BK342 := n2; have BK343 := n3; have HB := n4; clear n0 n1 n2 n3 n4 hg hw hp_; have p355 : 0 ≤ (x40_2 : Int) := oA; have q355 : x40_2 < (t345.length : Int) := oA; obtain ⟨ad355, e355, hx355_0⟩ := Kd.at_int (Kd.R_reads' HO_6.out).2.2 x40_2 p355 q355; obtain rfl : ad352 = ad355 := (by injection e355); replace p355 := eq_true p355; replace q355 := eq_true q355))
                 (first | go_roundg k2 | (refine Handed.intro k2 ?measure ?_; rotate_left; go_step; (try simp only [add_plain]); (repeat apply Exists.intro); refine ⟨?rel, rfl⟩))
                 case measure => have := HJ2.out; have := HK2.out; omega
                 case rel => exact ⟨(y354), (x8_2), (wrap64 (x40_2 + 1)), rS, rS, H', ⟨by have := HJ2.out; have := HK2.out; omega⟩, ⟨by (with_reducible repeat (first | apply Kd.R_alloc | apply Kd.R_drewN | apply Kd.R_drew)); exact Kd.R_mono HO_6.out (fun _ hk => hk.2)⟩, ⟨rU HO_7.out⟩, ⟨kU BK342.out⟩, ⟨kU BK343.out⟩, ⟨bU2 HB.out GE342.out GE343.out⟩⟩
               ·
                rw [if_neg c42] at H
                exact absurd H (by simp)
             ·
              rw [if_neg c37] at H
              exact absurd H (by simp)
            ·
             rw [if_neg c36] at H
             exact absurd H (by simp)
           ·
            rw [if_neg c35] at H
            exact absurd H (by simp)
          ·
           rw [if_neg c34] at H
           exact absurd H (by simp)
         ·
          rw [if_neg c33] at H
          exact absurd H (by simp)
        ·
         rw [if_neg c32] at H; have c32b0 := decide_eq_false c32; clear c32; replace H := Option.bind_eq_some_iff.mp H; obtain ⟨t356, A510, H⟩ := H; replace H : ((impl_back.f k2 l0_0).bind fun t359 => (if 0 ≤ x8_2 then (if (x8_2 : Int).toNat ≤ 35184372088832 then (impl_TutteMap.l1 k2 x7_2 t356 t359 t345 (t345.length : Int) 0 l0_0 l0_1 (List.replicate (x8_2 : Int).toNat 0) (List.replicate (x8_2 : Int).toNat 0)) else (none)) else (none))) = some (r1, r2, r3) := H; have A51 := Az A510; clear A510; replace H := Option.bind_eq_some_iff.mp H; obtain ⟨t359, A520, H⟩ := H; replace H : (if 0 ≤ x8_2 then (if (x8_2 : Int).toNat ≤ 35184372088832 then (impl_TutteMap.l1 k2 x7_2 t356 t359 t345 (t345.length : Int) 0 l0_0 l0_1 (List.replicate (x8_2 : Int).toNat 0) (List.replicate (x8_2 : Int).toNat 0)) else (none)) else (none)) = some (r1, r2, r3) := H; have A52 := Az A520; clear A520
         by_cases c53 : 0 ≤ x8_2
         ·
          rw [if_pos c53] at H; have c53b0 := eq_true c53; have c53b1 := decide_eq_true c53; clear c53
          by_cases c54 : (x8_2 : Int).toNat ≤ 35184372088832
          ·
           rw [if_pos c54] at H; have c54b0 := eq_true c54; have c54b1 := decide_eq_true c54; clear c54; obtain ⟨y362, hy362⟩ : ∃ y_ : List Int, y_ = (List.replicate (x8_2 : Int).toNat 0) := ⟨_, rfl⟩; replace H : (impl_TutteMap.l1 k2 x7_2 t356 t359 t345 (t345.length : Int) 0 l0_0 l0_1 y362 (List.replicate (x8_2 : Int).toNat 0)) = some (r1, r2, r3) := hR hy362 H; have Ny362 := Az hy362; clear hy362; obtain ⟨y365, hy365⟩ : ∃ y_ : List Int, y_ = (List.replicate (x8_2 : Int).toNat 0) := ⟨_, rfl⟩; replace H : (impl_TutteMap.l1 k2 x7_2 t356 t359 t345 (t345.length : Int) 0 l0_0 l0_1 y362 y365) = some (r1, r2, r3) := hR hy365 H; have Ny365 := Az hy365; clear hy365; have H' := Az H; clear H
           try go_wp2
           have n0 := Az (Kd.R_drew HO_6.out); have n1 := Az (Kd.R_drew HO_7.out); have n2 := Az (blk_drew BK342.out); have n3 := Az (blk_drew BK343.out); have n4 := Az (below_drew1 HB.out); clear HO_6 HO_7 BK342 BK343 HB; have HO_6 := n0; have HO_7 := n1; have BK342 := n2; have BK343 := n3; have HB := n4; clear n0 n1 n2 n3 n4
           refine start_ (n := 10) (S := fun w' => w'.cell? ⟨gb342, 0, none⟩ = some (.slice A0_0 l0_0.length c0_0) ∧ w'.cell? ⟨gb342, 1, none⟩ = some (.slice A0_1 l0_1.length c0_1)) (ds := []) (impl_TutteMap_up [(0, some 70), (2, some 72), (5, some 75), (1, some 71), (3, some 73), (6, some 76), (4, some 74), (7, some 77), (8, some 11), (9, some 12)] 10) (by kernel_rfl) rfl rfl ⟨(blk_cell BK342.out 0).trans rfl, (blk_cell BK342.out 1).trans rfl⟩ (fun hHeld => ?_); refine with_tabW impl_TutteMap.tab14 impl_TutteMap.bits14 (fun HT_ HW_ => ?_)
           generalize wr.drew = w55 at HO_6 HO_7 BK342 BK343 HB hHeld ⊢
           repeat (first | (refine impl_TutteMap_uP rfl rfl (any_of HT_.out (by kernel_rfl)) (fun _ _ _ h => h) (by rfl) (v := ?_) (a' := ?_) ?_ ?_ ?_; rotate_left; (· intro w'; go_simp; with_reducible rfl); rotate_left; (· simp only [Act.put, List.setIfInBounds_toArray, List.set_cons_zero, List.set_cons_succ, i64_w, i32_w]; rfl)) | (refine impl_TutteMap_uT rfl rfl (take_ofW HT_.out HW_.out (by kernel_rfl)) (fun _ _ _ h => h) (by rfl) (v := ?_) (a' := ?_) ?_ hHeld ?_ ?_; rotate_left; (· rintro w' ⟨s0, s1⟩; go_simp; with_reducible rfl); rotate_left; (· simp only [Act.put, List.setIfInBounds_toArray, List.set_cons_zero, List.set_cons_succ, i64_w, i32_w]; rfl)))
           refine impl_TutteMap_uO rfl rfl (one_of HT_.out (by kernel_rfl)) (by decide) (fun K hK => ?_)
           refine goes_ Try.func68 (by kernel_rfl) rfl #[.slice A0_1 l0_1.length c0_1, .slice A0_0 l0_0.length c0_0] (by rfl) rfl rfl (by (try simp only [List.map_toArray, List.map_cons, List.map_nil]); first | done | rfl | (simp only [List.length_drop, List.length_take]; rfl)) ?_
           with_reducible refine (impl_mul.calls k2 _ _ l0_1 _ _ l0_0 t356 _ ?side1 ?side2 ?side3 ?side4 A51.out).mono ?_
           (case side1 => exact cU (Kd.C_below HR0_1.out HB.out))
           (case side2 => exact HC0_1.out)
           (case side3 => exact cU (Kd.C_below HR0_0.out HB.out))
           (case side4 => exact HC0_0.out)
           rintro e w56 ⟨v357, rfl, ho0, hb⟩
           refine ⟨_, rfl, ?_⟩
           have n0 := Az (Kd.R_elder' (rU HO_6.out) (Kd.R_base ho0) hb); have n1 := Az (Kd.R_elder' (rU HO_7.out) (Kd.R_base ho0) hb); have n2 := Az (Kd.R_lower (Kd.R_new' (Kd.R_new' ho0 (Kd.R_lt (rU HO_6.out))) (Kd.R_lt (rU HO_7.out))) (below_size (bU2 HB.out GE342.out GE343.out))); have n3 := Az (blk_below (g := gb342) (o := .cells #[.slice A0_0 l0_0.length c0_0, .slice A0_1 l0_1.length c0_1] 29 (0, 0)) (kU BK342.out) hb); have n4 := Az (blk_below (g := gb343) (o := .cells #[.slice none 0 0, .slice none 0 0] 29 (0, 0)) (kU BK343.out) hb); have n5 := Az (below_step (bU2 HB.out GE342.out GE343.out) hb); clear HO_6 HO_7 BK342 BK343 HB; have HO_6 := n0; have HO_7 := n1; have HO358 := n2; have BK342 := n3; have BK343 := n4; have HB := n5; clear n0 n1 n2 n3 n4 n5; (try clear hb); (try clear hb2); (try clear hk); (try clear hi); (try clear ho0)
           refine hK.out _ _ ⟨(blk_cell BK342.out 0).trans rfl, (blk_cell BK342.out 1).trans rfl⟩ (fun hHeld => ?_)
           clear hK K
           refine norm_ (a' := ?_) ?_ ?_
           rotate_left
           ·
            show Act.put _ (some 74) _ = _
            simp only [Act.put, List.setIfInBounds_toArray, List.set_cons_zero, List.set_cons_succ, i64_w, i32_w]
            rfl
           refine impl_TutteMap_uO rfl rfl (one_of HT_.out (by kernel_rfl)) (by decide) (fun K hK => ?_)
           refine goes_ Try.func94 (by kernel_rfl) rfl #[.slice A0_0 l0_0.length c0_0] (by rfl) rfl rfl (by (try simp only [List.map_toArray, List.map_cons, List.map_nil]); first | done | rfl | (simp only [List.length_drop, List.length_take]; rfl)) ?_
           with_reducible refine (impl_back.calls k2 _ _ l0_0 t359 _ ?side1 ?side2 A52.out).mono ?_
           (case side1 => exact cU (Kd.C_below HR0_0.out HB.out))
           (case side2 => exact HC0_0.out)
           rintro e w57 ⟨v360, rfl, ho0, hb⟩
           refine ⟨_, rfl, ?_⟩
           have n0 := Az (Kd.R_elder' (rU HO_6.out) (Kd.R_base ho0) hb); have n1 := Az (Kd.R_elder' (rU HO_7.out) (Kd.R_base ho0) hb); have n2 := Az (Kd.R_elder' (rU HO358.out) (Kd.R_base ho0) hb); have n3 := Az (Kd.R_lower (Kd.R_new' (Kd.R_new' (Kd.R_new' ho0 (Kd.R_lt (rU HO_6.out))) (Kd.R_lt (rU HO_7.out))) (Kd.R_lt (rU HO358.out))) (below_size (bU2 HB.out GE342.out GE343.out))); have n4 := Az (blk_below (g := gb342) (o := .cells #[.slice A0_0 l0_0.length c0_0, .slice A0_1 l0_1.length c0_1] 29 (0, 0)) (kU BK342.out) hb); have n5 := Az (blk_below (g := gb343) (o := .cells #[.slice none 0 0, .slice none 0 0] 29 (0, 0)) (kU BK343.out) hb); have n6 := Az (below_step (bU2 HB.out GE342.out GE343.out) hb); clear HO_6 HO_7 HO358 BK342 BK343 HB; have HO_6 := n0; have HO_7 := n1; have HO358 := n2; have HO361 := n3; have BK342 := n4; have BK343 := n5; have HB := n6; clear n0 n1 n2 n3 n4 n5 n6; (try clear hb); (try clear hb2); (try clear hk); (try clear hi); (try clear ho0)
           refine hK.out _ _ ⟨(blk_cell BK342.out 0).trans rfl, (blk_cell BK342.out 1).trans rfl⟩ (fun hHeld => ?_)
           clear hK K
           refine norm_ (a' := ?_) ?_ ?_
           rotate_left
           ·
            show Act.put _ (some 77) _ = _
            simp only [Act.put, List.setIfInBounds_toArray, List.set_cons_zero, List.set_cons_succ, i64_w, i32_w]
            rfl
           repeat (first | (refine impl_TutteMap_uP rfl rfl (any_of HT_.out (by kernel_rfl)) (fun _ _ _ h => h) (by rfl) (v := ?_) (a' := ?_) ?_ ?_ ?_; rotate_left; (· intro w'; go_simp; with_reducible rfl); rotate_left; (· simp only [Act.put, List.setIfInBounds_toArray, List.set_cons_zero, List.set_cons_succ, i64_w, i32_w]; rfl)))
           refine done_ (done_of HT_.out (by kernel_rfl)) ?_
           try go_wp2
           have n0 := Az (Kd.R_drew HO_6.out); have n1 := Az (Kd.R_drew HO_7.out); have n2 := Az (Kd.R_drew HO358.out); have n3 := Az (Kd.R_drew HO361.out); have n4 := Az (blk_drew BK342.out); have n5 := Az (blk_drew BK343.out); have n6 := Az (below_drew1 HB.out); clear HO_6 HO_7 HO358 HO361 BK342 BK343 HB; have HO_6 := n0; have HO_7 := n1; have HO358 := n2; have HO361 := n3; have BK342 := n4; have BK343 := n5; have HB := n6; clear n0 n1 n2 n3 n4 n5 n6
           refine start_ (n := 7) (S := fun w' => True) (ds := []) #[false, false, false, false, false, false, false] (by kernel_rfl) rfl rfl trivial (fun hHeld => ?_)
           generalize w57.drew = w58 at HO_6 HO_7 HO358 HO361 BK342 BK343 HB hHeld ⊢
           refine pure_ (i := 0) (N := some 78) (v := ?_) (a' := ?_) #[true, false, false, false, false, false, false] rfl rfl (by kernel_rfl) (fun _ _ _ h => h) (Or.inl ⟨by rfl, ?_⟩) ?_ ?_
           rotate_left
           ·
            intro w'
            go_simp
            with_reducible rfl
           rotate_left
           ·
            simp only [Act.put, List.setIfInBounds_toArray, List.set_cons_zero, List.set_cons_succ, i64_w, i32_w]
            rfl
           refine pure_ (i := 2) (N := some 80) (v := ?_) (a' := ?_) #[true, false, true, false, false, false, false] rfl rfl (by kernel_rfl) (fun _ _ _ h => h) (Or.inl ⟨by rfl, ?_⟩) ?_ ?_
           rotate_left
           ·
            intro w'
            go_simp
            with_reducible rfl
           rotate_left
           ·
            simp only [Act.put, List.setIfInBounds_toArray, List.set_cons_zero, List.set_cons_succ, i64_w, i32_w]
            rfl
           refine join_ (σ := Value × Value × Nat) 1 #[true, true, true, true, true, true, false] (fun s_ => [(79, s_.1), (81, s_.2.1), (13, .pointer (some ⟨s_.2.2, 0, none⟩)), (82, .agg #[s_.1, s_.2.1])]) (fun s_ w' => (Kd.R (Kd.int .i64) 3 w' w.heap.size (fun k_ => some k_ ≠ (v360 : Value).ownBlock ∧ some k_ ≠ (s_.1 : Value).ownBlock ∧ some k_ ≠ (s_.2.1 : Value).ownBlock ∧ some k_ ≠ (.slice Ao28 t345.length co28 : Value).ownBlock ∧ some k_ ≠ (v349 : Value).ownBlock) v357 t356) ∧ (Kd.R (Kd.int .i64) 3 w' w.heap.size (fun k_ => some k_ ≠ (v357 : Value).ownBlock ∧ some k_ ≠ (s_.1 : Value).ownBlock ∧ some k_ ≠ (s_.2.1 : Value).ownBlock ∧ some k_ ≠ (.slice Ao28 t345.length co28 : Value).ownBlock ∧ some k_ ≠ (v349 : Value).ownBlock) v360 t359) ∧ (Kd.R (Kd.int .i64) 3 w' w.heap.size (fun k_ => some k_ ≠ (v357 : Value).ownBlock ∧ some k_ ≠ (v360 : Value).ownBlock ∧ some k_ ≠ (s_.2.1 : Value).ownBlock ∧ some k_ ≠ (.slice Ao28 t345.length co28 : Value).ownBlock ∧ some k_ ≠ (v349 : Value).ownBlock) s_.1 y362) ∧ (Kd.R (Kd.int .i64) 3 w' w.heap.size (fun k_ => some k_ ≠ (v357 : Value).ownBlock ∧ some k_ ≠ (v360 : Value).ownBlock ∧ some k_ ≠ (s_.1 : Value).ownBlock ∧ some k_ ≠ (.slice Ao28 t345.length co28 : Value).ownBlock ∧ some k_ ≠ (v349 : Value).ownBlock) s_.2.1 y365) ∧ (Kd.R (Kd.int .i64) 3 w' w.heap.size (fun k_ => some k_ ≠ (v357 : Value).ownBlock ∧ some k_ ≠ (v360 : Value).ownBlock ∧ some k_ ≠ (s_.1 : Value).ownBlock ∧ some k_ ≠ (s_.2.1 : Value).ownBlock ∧ some k_ ≠ (v349 : Value).ownBlock) (.slice Ao28 t345.length co28) t345) ∧ (Kd.R (Kd.int .i64) 3 w' w.heap.size (fun k_ => some k_ ≠ (v357 : Value).ownBlock ∧ some k_ ≠ (v360 : Value).ownBlock ∧ some k_ ≠ (s_.1 : Value).ownBlock ∧ some k_ ≠ (s_.2.1 : Value).ownBlock ∧ some k_ ≠ (.slice Ao28 t345.length co28 : Value).ownBlock) v349 x7_2) ∧ (w'.heap[gb342]? = some (.cells #[.slice A0_0 l0_0.length c0_0, .slice A0_1 l0_1.length c0_1] 29 (0, 0))) ∧ (w'.heap[gb343]? = some (.cells #[.slice none 0 0, .slice none 0 0] 29 (0, 0))) ∧ (w'.heap[s_.2.2]? = some (.cells #[.slice none 0 0, .slice none 0 0] 29 (0, 0))) ∧ (w.heap.size ≤ s_.2.2) ∧ (w.heap.size ≤ s_.2.2) ∧ (gb342 ≠ s_.2.2) ∧ (s_.2.2 ≠ gb342) ∧ (gb343 ≠ s_.2.2) ∧ (s_.2.2 ≠ gb343) ∧ (Below w.heap.size w w')) ?_ ?_
           rotate_left
           ·
            intro hJ1_3_5
            refine join_ (σ := Value × Value) 2 #[true, true, true, true, true, false, false] (fun s_ => [(79, s_.1), (81, s_.2), (82, .agg #[s_.1, s_.2])]) (fun s_ w' => (Kd.R (Kd.int .i64) 3 w' w.heap.size (fun k_ => some k_ ≠ (v360 : Value).ownBlock ∧ some k_ ≠ (s_.1 : Value).ownBlock ∧ some k_ ≠ (s_.2 : Value).ownBlock ∧ some k_ ≠ (.slice Ao28 t345.length co28 : Value).ownBlock ∧ some k_ ≠ (v349 : Value).ownBlock) v357 t356) ∧ (Kd.R (Kd.int .i64) 3 w' w.heap.size (fun k_ => some k_ ≠ (v357 : Value).ownBlock ∧ some k_ ≠ (s_.1 : Value).ownBlock ∧ some k_ ≠ (s_.2 : Value).ownBlock ∧ some k_ ≠ (.slice Ao28 t345.length co28 : Value).ownBlock ∧ some k_ ≠ (v349 : Value).ownBlock) v360 t359) ∧ (Kd.R (Kd.int .i64) 3 w' w.heap.size (fun k_ => some k_ ≠ (v357 : Value).ownBlock ∧ some k_ ≠ (v360 : Value).ownBlock ∧ some k_ ≠ (s_.2 : Value).ownBlock ∧ some k_ ≠ (.slice Ao28 t345.length co28 : Value).ownBlock ∧ some k_ ≠ (v349 : Value).ownBlock) s_.1 y362) ∧ (Kd.R (Kd.int .i64) 3 w' w.heap.size (fun k_ => some k_ ≠ (v357 : Value).ownBlock ∧ some k_ ≠ (v360 : Value).ownBlock ∧ some k_ ≠ (s_.1 : Value).ownBlock ∧ some k_ ≠ (.slice Ao28 t345.length co28 : Value).ownBlock ∧ some k_ ≠ (v349 : Value).ownBlock) s_.2 y365) ∧ (Kd.R (Kd.int .i64) 3 w' w.heap.size (fun k_ => some k_ ≠ (v357 : Value).ownBlock ∧ some k_ ≠ (v360 : Value).ownBlock ∧ some k_ ≠ (s_.1 : Value).ownBlock ∧ some k_ ≠ (s_.2 : Value).ownBlock ∧ some k_ ≠ (v349 : Value).ownBlock) (.slice Ao28 t345.length co28) t345) ∧ (Kd.R (Kd.int .i64) 3 w' w.heap.size (fun k_ => some k_ ≠ (v357 : Value).ownBlock ∧ some k_ ≠ (v360 : Value).ownBlock ∧ some k_ ≠ (s_.1 : Value).ownBlock ∧ some k_ ≠ (s_.2 : Value).ownBlock ∧ some k_ ≠ (.slice Ao28 t345.length co28 : Value).ownBlock) v349 x7_2) ∧ (w'.heap[gb342]? = some (.cells #[.slice A0_0 l0_0.length c0_0, .slice A0_1 l0_1.length c0_1] 29 (0, 0))) ∧ (w'.heap[gb343]? = some (.cells #[.slice none 0 0, .slice none 0 0] 29 (0, 0))) ∧ (Below w.heap.size w w')) ?_ ?_
            rotate_left
            ·
             intro hJ1_3
             refine join_ (σ := Value × Nat) 3 #[true, true, true, false, false, true, false] (fun s_ => [(79, s_.1), (13, .pointer (some ⟨s_.2, 0, none⟩))]) (fun s_ w' => (Kd.R (Kd.int .i64) 3 w' w.heap.size (fun k_ => some k_ ≠ (v360 : Value).ownBlock ∧ some k_ ≠ (s_.1 : Value).ownBlock ∧ some k_ ≠ (.slice Ao28 t345.length co28 : Value).ownBlock ∧ some k_ ≠ (v349 : Value).ownBlock) v357 t356) ∧ (Kd.R (Kd.int .i64) 3 w' w.heap.size (fun k_ => some k_ ≠ (v357 : Value).ownBlock ∧ some k_ ≠ (s_.1 : Value).ownBlock ∧ some k_ ≠ (.slice Ao28 t345.length co28 : Value).ownBlock ∧ some k_ ≠ (v349 : Value).ownBlock) v360 t359) ∧ (Kd.R (Kd.int .i64) 3 w' w.heap.size (fun k_ => some k_ ≠ (v357 : Value).ownBlock ∧ some k_ ≠ (v360 : Value).ownBlock ∧ some k_ ≠ (.slice Ao28 t345.length co28 : Value).ownBlock ∧ some k_ ≠ (v349 : Value).ownBlock) s_.1 y362) ∧ (Kd.R (Kd.int .i64) 3 w' w.heap.size (fun k_ => some k_ ≠ (v357 : Value).ownBlock ∧ some k_ ≠ (v360 : Value).ownBlock ∧ some k_ ≠ (s_.1 : Value).ownBlock ∧ some k_ ≠ (v349 : Value).ownBlock) (.slice Ao28 t345.length co28) t345) ∧ (Kd.R (Kd.int .i64) 3 w' w.heap.size (fun k_ => some k_ ≠ (v357 : Value).ownBlock ∧ some k_ ≠ (v360 : Value).ownBlock ∧ some k_ ≠ (s_.1 : Value).ownBlock ∧ some k_ ≠ (.slice Ao28 t345.length co28 : Value).ownBlock) v349 x7_2) ∧ (w'.heap[gb342]? = some (.cells #[.slice A0_0 l0_0.length c0_0, .slice A0_1 l0_1.length c0_1] 29 (0, 0))) ∧ (w'.heap[gb343]? = some (.cells #[.slice none 0 0, .slice none 0 0] 29 (0, 0))) ∧ (w'.heap[s_.2]? = some (.cells #[.slice none 0 0, .slice none 0 0] 29 (0, 0))) ∧ (w.heap.size ≤ s_.2) ∧ (w.heap.size ≤ s_.2) ∧ (gb342 ≠ s_.2) ∧ (s_.2 ≠ gb342) ∧ (gb343 ≠ s_.2) ∧ (s_.2 ≠ gb343) ∧ (Below w.heap.size w w')) ?_ ?_
             rotate_left
             ·
              intro hJ1_5
              refine join_ (σ := Value × Nat) 3 #[true, false, true, true, false, true, false] (fun s_ => [(81, s_.1), (13, .pointer (some ⟨s_.2, 0, none⟩))]) (fun s_ w' => (Kd.R (Kd.int .i64) 3 w' w.heap.size (fun k_ => some k_ ≠ (v360 : Value).ownBlock ∧ some k_ ≠ (s_.1 : Value).ownBlock ∧ some k_ ≠ (.slice Ao28 t345.length co28 : Value).ownBlock ∧ some k_ ≠ (v349 : Value).ownBlock) v357 t356) ∧ (Kd.R (Kd.int .i64) 3 w' w.heap.size (fun k_ => some k_ ≠ (v357 : Value).ownBlock ∧ some k_ ≠ (s_.1 : Value).ownBlock ∧ some k_ ≠ (.slice Ao28 t345.length co28 : Value).ownBlock ∧ some k_ ≠ (v349 : Value).ownBlock) v360 t359) ∧ (Kd.R (Kd.int .i64) 3 w' w.heap.size (fun k_ => some k_ ≠ (v357 : Value).ownBlock ∧ some k_ ≠ (v360 : Value).ownBlock ∧ some k_ ≠ (.slice Ao28 t345.length co28 : Value).ownBlock ∧ some k_ ≠ (v349 : Value).ownBlock) s_.1 y365) ∧ (Kd.R (Kd.int .i64) 3 w' w.heap.size (fun k_ => some k_ ≠ (v357 : Value).ownBlock ∧ some k_ ≠ (v360 : Value).ownBlock ∧ some k_ ≠ (s_.1 : Value).ownBlock ∧ some k_ ≠ (v349 : Value).ownBlock) (.slice Ao28 t345.length co28) t345) ∧ (Kd.R (Kd.int .i64) 3 w' w.heap.size (fun k_ => some k_ ≠ (v357 : Value).ownBlock ∧ some k_ ≠ (v360 : Value).ownBlock ∧ some k_ ≠ (s_.1 : Value).ownBlock ∧ some k_ ≠ (.slice Ao28 t345.length co28 : Value).ownBlock) v349 x7_2) ∧ (w'.heap[gb342]? = some (.cells #[.slice A0_0 l0_0.length c0_0, .slice A0_1 l0_1.length c0_1] 29 (0, 0))) ∧ (w'.heap[gb343]? = some (.cells #[.slice none 0 0, .slice none 0 0] 29 (0, 0))) ∧ (w'.heap[s_.2]? = some (.cells #[.slice none 0 0, .slice none 0 0] 29 (0, 0))) ∧ (w.heap.size ≤ s_.2) ∧ (w.heap.size ≤ s_.2) ∧ (gb342 ≠ s_.2) ∧ (s_.2 ≠ gb342) ∧ (gb343 ≠ s_.2) ∧ (s_.2 ≠ gb343) ∧ (Below w.heap.size w w')) ?_ ?_
              rotate_left
              ·
               intro hJ3_5
               refine join_ (σ := Value) 4 #[true, true, true, false, false, false, false] (fun s_ => [(79, s_)]) (fun s_ w' => (Kd.R (Kd.int .i64) 3 w' w.heap.size (fun k_ => some k_ ≠ (v360 : Value).ownBlock ∧ some k_ ≠ (s_ : Value).ownBlock ∧ some k_ ≠ (.slice Ao28 t345.length co28 : Value).ownBlock ∧ some k_ ≠ (v349 : Value).ownBlock) v357 t356) ∧ (Kd.R (Kd.int .i64) 3 w' w.heap.size (fun k_ => some k_ ≠ (v357 : Value).ownBlock ∧ some k_ ≠ (s_ : Value).ownBlock ∧ some k_ ≠ (.slice Ao28 t345.length co28 : Value).ownBlock ∧ some k_ ≠ (v349 : Value).ownBlock) v360 t359) ∧ (Kd.R (Kd.int .i64) 3 w' w.heap.size (fun k_ => some k_ ≠ (v357 : Value).ownBlock ∧ some k_ ≠ (v360 : Value).ownBlock ∧ some k_ ≠ (.slice Ao28 t345.length co28 : Value).ownBlock ∧ some k_ ≠ (v349 : Value).ownBlock) s_ y362) ∧ (Kd.R (Kd.int .i64) 3 w' w.heap.size (fun k_ => some k_ ≠ (v357 : Value).ownBlock ∧ some k_ ≠ (v360 : Value).ownBlock ∧ some k_ ≠ (s_ : Value).ownBlock ∧ some k_ ≠ (v349 : Value).ownBlock) (.slice Ao28 t345.length co28) t345) ∧ (Kd.R (Kd.int .i64) 3 w' w.heap.size (fun k_ => some k_ ≠ (v357 : Value).ownBlock ∧ some k_ ≠ (v360 : Value).ownBlock ∧ some k_ ≠ (s_ : Value).ownBlock ∧ some k_ ≠ (.slice Ao28 t345.length co28 : Value).ownBlock) v349 x7_2) ∧ (w'.heap[gb342]? = some (.cells #[.slice A0_0 l0_0.length c0_0, .slice A0_1 l0_1.length c0_1] 29 (0, 0))) ∧ (w'.heap[gb343]? = some (.cells #[.slice none 0 0, .slice none 0 0] 29 (0, 0))) ∧ (Below w.heap.size w w')) ?_ ?_
               rotate_left
               ·
                intro hJ1
                refine join_ (σ := Value) 4 #[true, false, true, true, false, false, false] (fun s_ => [(81, s_)]) (fun s_ w' => (Kd.R (Kd.int .i64) 3 w' w.heap.size (fun k_ => some k_ ≠ (v360 : Value).ownBlock ∧ some k_ ≠ (s_ : Value).ownBlock ∧ some k_ ≠ (.slice Ao28 t345.length co28 : Value).ownBlock ∧ some k_ ≠ (v349 : Value).ownBlock) v357 t356) ∧ (Kd.R (Kd.int .i64) 3 w' w.heap.size (fun k_ => some k_ ≠ (v357 : Value).ownBlock ∧ some k_ ≠ (s_ : Value).ownBlock ∧ some k_ ≠ (.slice Ao28 t345.length co28 : Value).ownBlock ∧ some k_ ≠ (v349 : Value).ownBlock) v360 t359) ∧ (Kd.R (Kd.int .i64) 3 w' w.heap.size (fun k_ => some k_ ≠ (v357 : Value).ownBlock ∧ some k_ ≠ (v360 : Value).ownBlock ∧ some k_ ≠ (.slice Ao28 t345.length co28 : Value).ownBlock ∧ some k_ ≠ (v349 : Value).ownBlock) s_ y365) ∧ (Kd.R (Kd.int .i64) 3 w' w.heap.size (fun k_ => some k_ ≠ (v357 : Value).ownBlock ∧ some k_ ≠ (v360 : Value).ownBlock ∧ some k_ ≠ (s_ : Value).ownBlock ∧ some k_ ≠ (v349 : Value).ownBlock) (.slice Ao28 t345.length co28) t345) ∧ (Kd.R (Kd.int .i64) 3 w' w.heap.size (fun k_ => some k_ ≠ (v357 : Value).ownBlock ∧ some k_ ≠ (v360 : Value).ownBlock ∧ some k_ ≠ (s_ : Value).ownBlock ∧ some k_ ≠ (.slice Ao28 t345.length co28 : Value).ownBlock) v349 x7_2) ∧ (w'.heap[gb342]? = some (.cells #[.slice A0_0 l0_0.length c0_0, .slice A0_1 l0_1.length c0_1] 29 (0, 0))) ∧ (w'.heap[gb343]? = some (.cells #[.slice none 0 0, .slice none 0 0] 29 (0, 0))) ∧ (Below w.heap.size w w')) ?_ ?_
                rotate_left
                ·
                 intro hJ3
                 refine join_ (σ := Nat) 4 #[true, false, true, false, false, true, false] (fun s_ => [(13, .pointer (some ⟨s_, 0, none⟩))]) (fun s_ w' => (Kd.R (Kd.int .i64) 3 w' w.heap.size (fun k_ => some k_ ≠ (v360 : Value).ownBlock ∧ some k_ ≠ (.slice Ao28 t345.length co28 : Value).ownBlock ∧ some k_ ≠ (v349 : Value).ownBlock) v357 t356) ∧ (Kd.R (Kd.int .i64) 3 w' w.heap.size (fun k_ => some k_ ≠ (v357 : Value).ownBlock ∧ some k_ ≠ (.slice Ao28 t345.length co28 : Value).ownBlock ∧ some k_ ≠ (v349 : Value).ownBlock) v360 t359) ∧ (Kd.R (Kd.int .i64) 3 w' w.heap.size (fun k_ => some k_ ≠ (v357 : Value).ownBlock ∧ some k_ ≠ (v360 : Value).ownBlock ∧ some k_ ≠ (v349 : Value).ownBlock) (.slice Ao28 t345.length co28) t345) ∧ (Kd.R (Kd.int .i64) 3 w' w.heap.size (fun k_ => some k_ ≠ (v357 : Value).ownBlock ∧ some k_ ≠ (v360 : Value).ownBlock ∧ some k_ ≠ (.slice Ao28 t345.length co28 : Value).ownBlock) v349 x7_2) ∧ (w'.heap[gb342]? = some (.cells #[.slice A0_0 l0_0.length c0_0, .slice A0_1 l0_1.length c0_1] 29 (0, 0))) ∧ (w'.heap[gb343]? = some (.cells #[.slice none 0 0, .slice none 0 0] 29 (0, 0))) ∧ (w'.heap[s_]? = some (.cells #[.slice none 0 0, .slice none 0 0] 29 (0, 0))) ∧ (w.heap.size ≤ s_) ∧ (w.heap.size ≤ s_) ∧ (gb342 ≠ s_) ∧ (s_ ≠ gb342) ∧ (gb343 ≠ s_) ∧ (s_ ≠ gb343) ∧ (Below w.heap.size w w')) ?_ ?_
                 rotate_left
                 ·
                  intro hJ5
                  refine three_ (i := 1) (j := 3) (k := 5) (Ni := some 79) (Nj := some 81) (Nk := some 13) #[true, true, true, false, false, false, false] #[true, false, true, true, false, false, false] #[true, false, true, false, false, true, false] rfl rfl rfl rfl rfl rfl (by kernel_rfl) (by decide) (by decide) (by decide) (fun K hK => ?_) (fun K hK => ?_) (fun K hK => ?_)
                  ·
                   skip
                   refine Kd.R_make_step (Kd.int .i64) _ 3 (by rfl) (N := 79) rfl 23 _ _ rfl x8_2 rfl rfl Try.underlying23 (.int .i64 0) 8 info3 rfl (by decide) (by omega) 0 (ok := fun _ => True) (okp := fun _ => True) rfl (fun _ hk => hk) trivial (oA) (Nat.le_trans (Nat.mul_le_mul_right _ (oA : x8_2.toNat ≤ 35184372088832)) (by omega)) (Below.refl _ _) (Nat.le_refl _) ?_
                   intro v363 w59 ho60 hb hg_ hnew_
                   clear hg_ hnew_; (first | rw [← Ny362.out] at ho60 | (simp only [Int.reduceToNat] at ho60; rw [← Ny362.out] at ho60)); have n0 := Az (Kd.R_elder' (rU HO_6.out) (Kd.R_base ho60) hb); have n1 := Az (Kd.R_elder' (rU HO_7.out) (Kd.R_base ho60) hb); have n2 := Az (Kd.R_elder' (rU HO358.out) (Kd.R_base ho60) hb); have n3 := Az (Kd.R_elder' (rU HO361.out) (Kd.R_base ho60) hb); have n4 := Az (Kd.R_lower (Kd.R_new' (Kd.R_new' (Kd.R_new' (Kd.R_new' ho60 (Kd.R_lt (rU HO_6.out))) (Kd.R_lt (rU HO_7.out))) (Kd.R_lt (rU HO358.out))) (Kd.R_lt (rU HO361.out))) (below_size (bU2 HB.out GE342.out GE343.out))); have n5 := Az (blk_below (g := gb342) (o := .cells #[.slice A0_0 l0_0.length c0_0, .slice A0_1 l0_1.length c0_1] 29 (0, 0)) (kU BK342.out) hb); have n6 := Az (blk_below (g := gb343) (o := .cells #[.slice none 0 0, .slice none 0 0] 29 (0, 0)) (kU BK343.out) hb); have n7 := Az (below_step (bU2 HB.out GE342.out GE343.out) hb); clear HO_6 HO_7 HO358 HO361 BK342 BK343 HB; have HO_6 := n0; have HO_7 := n1; have HO358 := n2; have HO361 := n3; have HO364 := n4; have BK342 := n5; have BK343 := n6; have HB := n7; clear n0 n1 n2 n3 n4 n5 n6 n7 hb ho60
                   refine hK.out _ _ trivial (fun hHeld => ?_)
                   clear hK K
                   refine norm_ (a' := ?_) ?_ ?_
                   rotate_left
                   ·
                    show Act.put _ (some 79) _ = _
                    simp only [Act.put, List.setIfInBounds_toArray, List.set_cons_zero, List.set_cons_succ, i64_w, i32_w]
                    rfl
                   exact norm_ (by first | (simp only [putAll, Act.put, List.setIfInBounds_toArray, List.set_cons_zero, List.set_cons_succ]; done) | (simp only [putAll, Act.put, List.setIfInBounds_toArray, List.set_cons_zero, List.set_cons_succ]; rfl)) (hJ1 (v363) _ ⟨(by (with_reducible repeat (first | apply Kd.R_alloc | apply Kd.R_drewN | apply Kd.R_drew)); exact Kd.R_mono HO358.out (fun _ hk => ⟨hk.1.2, ⟨hk.2, ⟨hk.1.1.1.2, hk.1.1.2⟩⟩⟩)), (by (with_reducible repeat (first | apply Kd.R_alloc | apply Kd.R_drewN | apply Kd.R_drew)); exact Kd.R_mono HO361.out (fun _ hk => ⟨hk.1.2, ⟨hk.2, ⟨hk.1.1.1.2, hk.1.1.2⟩⟩⟩)), (by (with_reducible repeat (first | apply Kd.R_alloc | apply Kd.R_drewN | apply Kd.R_drew)); exact Kd.R_mono HO364.out (fun _ hk => ⟨hk.1.2, ⟨hk.2, ⟨hk.1.1.1.2, hk.1.1.2⟩⟩⟩)), (by (with_reducible repeat (first | apply Kd.R_alloc | apply Kd.R_drewN | apply Kd.R_drew)); exact Kd.R_mono HO_6.out (fun _ hk => ⟨hk.1.1.2, ⟨hk.1.2, ⟨hk.2, hk.1.1.1⟩⟩⟩)), (by (with_reducible repeat (first | apply Kd.R_alloc | apply Kd.R_drewN | apply Kd.R_drew)); exact Kd.R_mono HO_7.out (fun _ hk => ⟨hk.1.1.2, ⟨hk.1.2, ⟨hk.2, hk.1.1.1⟩⟩⟩)), (kU BK342.out), (kU BK343.out), (bU2 HB.out GE342.out GE343.out)⟩)
                  ·
                   skip
                   refine Kd.R_make_step (Kd.int .i64) _ 3 (by rfl) (N := 81) rfl 23 _ _ rfl x8_2 rfl rfl Try.underlying23 (.int .i64 0) 8 info3 rfl (by decide) (by omega) 0 (ok := fun _ => True) (okp := fun _ => True) rfl (fun _ hk => hk) trivial (oA) (Nat.le_trans (Nat.mul_le_mul_right _ (oA : x8_2.toNat ≤ 35184372088832)) (by omega)) (Below.refl _ _) (Nat.le_refl _) ?_
                   intro v366 w59 ho60 hb hg_ hnew_
                   clear hg_ hnew_; (first | rw [← Ny365.out] at ho60 | (simp only [Int.reduceToNat] at ho60; rw [← Ny365.out] at ho60)); have n0 := Az (Kd.R_elder' (rU HO_6.out) (Kd.R_base ho60) hb); have n1 := Az (Kd.R_elder' (rU HO_7.out) (Kd.R_base ho60) hb); have n2 := Az (Kd.R_elder' (rU HO358.out) (Kd.R_base ho60) hb); have n3 := Az (Kd.R_elder' (rU HO361.out) (Kd.R_base ho60) hb); have n4 := Az (Kd.R_lower (Kd.R_new' (Kd.R_new' (Kd.R_new' (Kd.R_new' ho60 (Kd.R_lt (rU HO_6.out))) (Kd.R_lt (rU HO_7.out))) (Kd.R_lt (rU HO358.out))) (Kd.R_lt (rU HO361.out))) (below_size (bU2 HB.out GE342.out GE343.out))); have n5 := Az (blk_below (g := gb342) (o := .cells #[.slice A0_0 l0_0.length c0_0, .slice A0_1 l0_1.length c0_1] 29 (0, 0)) (kU BK342.out) hb); have n6 := Az (blk_below (g := gb343) (o := .cells #[.slice none 0 0, .slice none 0 0] 29 (0, 0)) (kU BK343.out) hb); have n7 := Az (below_step (bU2 HB.out GE342.out GE343.out) hb); clear HO_6 HO_7 HO358 HO361 BK342 BK343 HB; have HO_6 := n0; have HO_7 := n1; have HO358 := n2; have HO361 := n3; have HO367 := n4; have BK342 := n5; have BK343 := n6; have HB := n7; clear n0 n1 n2 n3 n4 n5 n6 n7 hb ho60
                   refine hK.out _ _ trivial (fun hHeld => ?_)
                   clear hK K
                   refine norm_ (a' := ?_) ?_ ?_
                   rotate_left
                   ·
                    show Act.put _ (some 81) _ = _
                    simp only [Act.put, List.setIfInBounds_toArray, List.set_cons_zero, List.set_cons_succ, i64_w, i32_w]
                    rfl
                   exact norm_ (by first | (simp only [putAll, Act.put, List.setIfInBounds_toArray, List.set_cons_zero, List.set_cons_succ]; done) | (simp only [putAll, Act.put, List.setIfInBounds_toArray, List.set_cons_zero, List.set_cons_succ]; rfl)) (hJ3 (v366) _ ⟨(by (with_reducible repeat (first | apply Kd.R_alloc | apply Kd.R_drewN | apply Kd.R_drew)); exact Kd.R_mono HO358.out (fun _ hk => ⟨hk.1.2, ⟨hk.2, ⟨hk.1.1.1.2, hk.1.1.2⟩⟩⟩)), (by (with_reducible repeat (first | apply Kd.R_alloc | apply Kd.R_drewN | apply Kd.R_drew)); exact Kd.R_mono HO361.out (fun _ hk => ⟨hk.1.2, ⟨hk.2, ⟨hk.1.1.1.2, hk.1.1.2⟩⟩⟩)), (by (with_reducible repeat (first | apply Kd.R_alloc | apply Kd.R_drewN | apply Kd.R_drew)); exact Kd.R_mono HO367.out (fun _ hk => ⟨hk.1.2, ⟨hk.2, ⟨hk.1.1.1.2, hk.1.1.2⟩⟩⟩)), (by (with_reducible repeat (first | apply Kd.R_alloc | apply Kd.R_drewN | apply Kd.R_drew)); exact Kd.R_mono HO_6.out (fun _ hk => ⟨hk.1.1.2, ⟨hk.1.2, ⟨hk.2, hk.1.1.1⟩⟩⟩)), (by (with_reducible repeat (first | apply Kd.R_alloc | apply Kd.R_drewN | apply Kd.R_drew)); exact Kd.R_mono HO_7.out (fun _ hk => ⟨hk.1.1.2, ⟨hk.1.2, ⟨hk.2, hk.1.1.1⟩⟩⟩)), (kU BK342.out), (kU BK343.out), (bU2 HB.out GE342.out GE343.out)⟩)
                  ·
                   skip
                   refine box_step ?hg (N := 13) ?hd (cs := #[.slice none 0 0, .slice none 0 0]) (t := 29) ?hr ?_; (case hd => rfl); (case hg => rfl); (case hr => first | (go_simp; done) | (go_simp; rfl))
                   intro gb368 hg w59 hbox hb
                   have n0 := Az (Kd.R_below (rU HO_6.out) hb); have n1 := Az (Kd.R_below (rU HO_7.out) hb); have n2 := Az (Kd.R_below (rU HO358.out) hb); have n3 := Az (Kd.R_below (rU HO361.out) hb); have n4 := Az (blk_below (g := gb342) (o := .cells #[.slice A0_0 l0_0.length c0_0, .slice A0_1 l0_1.length c0_1] 29 (0, 0)) (kU BK342.out) hb); have n5 := Az (blk_below (g := gb343) (o := .cells #[.slice none 0 0, .slice none 0 0] 29 (0, 0)) (kU BK343.out) hb); have n6 := Az (below_step (bU2 HB.out GE342.out GE343.out) hb); have n7 := Az (hbox); have n8 := Az ((by rw [hg]; exact (below_size (bU2 HB.out GE342.out GE343.out)) : w.heap.size ≤ gb368)); have n9 := Az ((by rw [hg]; exact (below_size (bU2 HB.out GE342.out GE343.out)) : w.heap.size ≤ gb368)); have n10 := Az ((by rw [hg]; exact Nat.ne_of_lt (blk_lt (g := gb342) (o := .cells #[.slice A0_0 l0_0.length c0_0, .slice A0_1 l0_1.length c0_1] 29 (0, 0)) (kU BK342.out)) : gb342 ≠ gb368)); have n11 := Az ((by rw [hg]; exact Nat.ne_of_gt (blk_lt (g := gb342) (o := .cells #[.slice A0_0 l0_0.length c0_0, .slice A0_1 l0_1.length c0_1] 29 (0, 0)) (kU BK342.out)) : gb368 ≠ gb342)); have n12 := Az ((by rw [hg]; exact Nat.ne_of_lt (blk_lt (g := gb343) (o := .cells #[.slice none 0 0, .slice none 0 0] 29 (0, 0)) (kU BK343.out)) : gb343 ≠ gb368)); have n13 := Az ((by rw [hg]; exact Nat.ne_of_gt (blk_lt (g := gb343) (o := .cells #[.slice none 0 0, .slice none 0 0] 29 (0, 0)) (kU BK343.out)) : gb368 ≠ gb343)); clear HO_6 HO_7 HO358 HO361 BK342 BK343 HB; have HO_6 := n0; have HO_7 := n1; have HO358 := n2; have HO361 := n3; have BK342 := n4; have BK343 := n5; have HB := n6; have BK368 := n7; have GW368 := n8; have GE368 := n9; have NB342_368 := n10; have NB368_342 := n11; have NB343_368 := n12; have NB368_343 := n13; clear n0 n1 n2 n3 n4 n5 n6 n7 n8 n9 n10 n11 n12 n13 hb hbox hg
                   refine hK.out _ _ trivial (fun hHeld => ?_)
                   clear hK K
                   refine norm_ (a' := ?_) ?_ ?_
                   rotate_left
                   ·
                    show Act.put _ (some 13) _ = _
                    simp only [Act.put, List.setIfInBounds_toArray, List.set_cons_zero, List.set_cons_succ, i64_w, i32_w]
                    rfl
                   exact norm_ (by first | (simp only [putAll, Act.put, List.setIfInBounds_toArray, List.set_cons_zero, List.set_cons_succ]; done) | (simp only [putAll, Act.put, List.setIfInBounds_toArray, List.set_cons_zero, List.set_cons_succ]; rfl)) (hJ5 (gb368) _ ⟨(by (with_reducible repeat (first | apply Kd.R_alloc | apply Kd.R_drewN | apply Kd.R_drew)); exact Kd.R_mono HO358.out (fun _ hk => ⟨hk.2, ⟨hk.1.1.2, hk.1.2⟩⟩)), (by (with_reducible repeat (first | apply Kd.R_alloc | apply Kd.R_drewN | apply Kd.R_drew)); exact Kd.R_mono HO361.out (fun _ hk => ⟨hk.2, ⟨hk.1.1.2, hk.1.2⟩⟩)), (by (with_reducible repeat (first | apply Kd.R_alloc | apply Kd.R_drewN | apply Kd.R_drew)); exact Kd.R_mono HO_6.out (fun _ hk => ⟨hk.1.2, ⟨hk.2, hk.1.1⟩⟩)), (by (with_reducible repeat (first | apply Kd.R_alloc | apply Kd.R_drewN | apply Kd.R_drew)); exact Kd.R_mono HO_7.out (fun _ hk => ⟨hk.1.2, ⟨hk.2, hk.1.1⟩⟩)), (kU BK342.out), (kU BK343.out), (kU BK368.out), GW368.out, GE368.out, NB342_368.out, NB368_342.out, NB343_368.out, NB368_343.out, (bU3 HB.out GE342.out GE343.out GE368.out)⟩)
                 ·
                  skip
                  rintro gb368 w60 ⟨h0_, h1_, h2_, h3_, h4_, h5_, h6_, h7_, h8_, h9_, h10_, h11_, h12_, h13_⟩
                  have n0 : Aside0 (Kd.R (Kd.int .i64) 3 w60 w.heap.size (fun k_ => some k_ ≠ (v360 : Value).ownBlock ∧ some k_ ≠ (.slice Ao28 t345.length co28 : Value).ownBlock ∧ some k_ ≠ (v349 : Value).ownBlock) v357 t356) := ⟨h0_⟩; have n1 : Aside0 (Kd.R (Kd.int .i64) 3 w60 w.heap.size (fun k_ => some k_ ≠ (v357 : Value).ownBlock ∧ some k_ ≠ (.slice Ao28 t345.length co28 : Value).ownBlock ∧ some k_ ≠ (v349 : Value).ownBlock) v360 t359) := ⟨h1_⟩; have n2 : Aside0 (Kd.R (Kd.int .i64) 3 w60 w.heap.size (fun k_ => some k_ ≠ (v357 : Value).ownBlock ∧ some k_ ≠ (v360 : Value).ownBlock ∧ some k_ ≠ (v349 : Value).ownBlock) (.slice Ao28 t345.length co28) t345) := ⟨h2_⟩; have n3 : Aside0 (Kd.R (Kd.int .i64) 3 w60 w.heap.size (fun k_ => some k_ ≠ (v357 : Value).ownBlock ∧ some k_ ≠ (v360 : Value).ownBlock ∧ some k_ ≠ (.slice Ao28 t345.length co28 : Value).ownBlock) v349 x7_2) := ⟨h3_⟩; have n4 : Aside0 (w60.heap[gb342]? = some (.cells #[.slice A0_0 l0_0.length c0_0, .slice A0_1 l0_1.length c0_1] 29 (0, 0))) := ⟨h4_⟩; have n5 : Aside0 (w60.heap[gb343]? = some (.cells #[.slice none 0 0, .slice none 0 0] 29 (0, 0))) := ⟨h5_⟩; have n6 : Aside0 (w60.heap[gb368]? = some (.cells #[.slice none 0 0, .slice none 0 0] 29 (0, 0))) := ⟨h6_⟩; have n7 : Aside0 (w.heap.size ≤ gb368) := ⟨h7_⟩; have n8 : Aside0 (w.heap.size ≤ gb368) := ⟨h8_⟩; have n9 : Aside0 (gb342 ≠ gb368) := ⟨h9_⟩; have n10 : Aside0 (gb368 ≠ gb342) := ⟨h10_⟩; have n11 : Aside0 (gb343 ≠ gb368) := ⟨h11_⟩; have n12 : Aside0 (gb368 ≠ gb343) := ⟨h12_⟩; have n13 : Aside0 (Below w.heap.size w w60) := ⟨h13_⟩; clear HO_6 HO_7 HO358 HO361 BK342 BK343 HB h0_ h1_ h2_ h3_ h4_ h5_ h6_ h7_ h8_ h9_ h10_ h11_ h12_ h13_; have HO358 := n0; have HO361 := n1; have HO_6 := n2; have HO_7 := n3; have BK342 := n4; have BK343 := n5; have BK368 := n6; have GW368 := n7; have GE368 := n8; have NB342_368 := n9; have NB368_342 := n10; have NB343_368 := n11; have NB368_343 := n12; have HB := n13; clear n0 n1 n2 n3 n4 n5 n6 n7 n8 n9 n10 n11 n12 n13; have hHeld := trivial
                  refine norm_ (a' := ?_) ?_ ?_
                  rotate_left
                  ·
                   simp only [putAll, Act.put, List.setIfInBounds_toArray, List.set_cons_zero, List.set_cons_succ]
                   rfl
                  refine two_ (i := 1) (j := 3) (Ni := some 79) (Nj := some 81) #[true, true, true, false, false, true, false] #[true, false, true, true, false, true, false] rfl rfl rfl rfl (by kernel_rfl) (by decide) (by decide) (fun K hK => ?_) (fun K hK => ?_)
                  ·
                   skip
                   refine Kd.R_make_step (Kd.int .i64) _ 3 (by rfl) (N := 79) rfl 23 _ _ rfl x8_2 rfl rfl Try.underlying23 (.int .i64 0) 8 info3 rfl (by decide) (by omega) 0 (ok := fun _ => True) (okp := fun _ => True) rfl (fun _ hk => hk) trivial (oA) (Nat.le_trans (Nat.mul_le_mul_right _ (oA : x8_2.toNat ≤ 35184372088832)) (by omega)) (Below.refl _ _) (Nat.le_refl _) ?_
                   intro v363 w61 ho62 hb hg_ hnew_
                   clear hg_ hnew_; (first | rw [← Ny362.out] at ho62 | (simp only [Int.reduceToNat] at ho62; rw [← Ny362.out] at ho62)); have n0 := Az (Kd.R_elder' (rU HO_6.out) (Kd.R_base ho62) hb); have n1 := Az (Kd.R_elder' (rU HO_7.out) (Kd.R_base ho62) hb); have n2 := Az (Kd.R_elder' (rU HO358.out) (Kd.R_base ho62) hb); have n3 := Az (Kd.R_elder' (rU HO361.out) (Kd.R_base ho62) hb); have n4 := Az (Kd.R_lower (Kd.R_new' (Kd.R_new' (Kd.R_new' (Kd.R_new' ho62 (Kd.R_lt (rU HO_6.out))) (Kd.R_lt (rU HO_7.out))) (Kd.R_lt (rU HO358.out))) (Kd.R_lt (rU HO361.out))) (below_size (bU3 HB.out GE342.out GE343.out GE368.out))); have n5 := Az (blk_below (g := gb342) (o := .cells #[.slice A0_0 l0_0.length c0_0, .slice A0_1 l0_1.length c0_1] 29 (0, 0)) (kU BK342.out) hb); have n6 := Az (blk_below (g := gb343) (o := .cells #[.slice none 0 0, .slice none 0 0] 29 (0, 0)) (kU BK343.out) hb); have n7 := Az (blk_below (g := gb368) (o := .cells #[.slice none 0 0, .slice none 0 0] 29 (0, 0)) (kU BK368.out) hb); have n8 := Az (below_step (bU3 HB.out GE342.out GE343.out GE368.out) hb); clear HO_6 HO_7 HO358 HO361 BK342 BK343 BK368 HB; have HO_6 := n0; have HO_7 := n1; have HO358 := n2; have HO361 := n3; have HO364 := n4; have BK342 := n5; have BK343 := n6; have BK368 := n7; have HB := n8; clear n0 n1 n2 n3 n4 n5 n6 n7 n8 hb ho62
                   refine hK.out _ _ trivial (fun hHeld => ?_)
                   clear hK K
                   refine norm_ (a' := ?_) ?_ ?_
                   rotate_left
                   ·
                    show Act.put _ (some 79) _ = _
                    simp only [Act.put, List.setIfInBounds_toArray, List.set_cons_zero, List.set_cons_succ, i64_w, i32_w]
                    rfl
                   exact norm_ (by first | (simp only [putAll, Act.put, List.setIfInBounds_toArray, List.set_cons_zero, List.set_cons_succ]; done) | (simp only [putAll, Act.put, List.setIfInBounds_toArray, List.set_cons_zero, List.set_cons_succ]; rfl)) (hJ1_5 (v363, gb368) _ ⟨(by (with_reducible repeat (first | apply Kd.R_alloc | apply Kd.R_drewN | apply Kd.R_drew)); exact Kd.R_mono HO358.out (fun _ hk => ⟨hk.1.1, ⟨hk.2, ⟨hk.1.2.1, hk.1.2.2⟩⟩⟩)), (by (with_reducible repeat (first | apply Kd.R_alloc | apply Kd.R_drewN | apply Kd.R_drew)); exact Kd.R_mono HO361.out (fun _ hk => ⟨hk.1.1, ⟨hk.2, ⟨hk.1.2.1, hk.1.2.2⟩⟩⟩)), (by (with_reducible repeat (first | apply Kd.R_alloc | apply Kd.R_drewN | apply Kd.R_drew)); exact Kd.R_mono HO364.out (fun _ hk => ⟨hk.1.2, ⟨hk.2, ⟨hk.1.1.1.2, hk.1.1.2⟩⟩⟩)), (by (with_reducible repeat (first | apply Kd.R_alloc | apply Kd.R_drewN | apply Kd.R_drew)); exact Kd.R_mono HO_6.out (fun _ hk => ⟨hk.1.1, ⟨hk.1.2.1, ⟨hk.2, hk.1.2.2⟩⟩⟩)), (by (with_reducible repeat (first | apply Kd.R_alloc | apply Kd.R_drewN | apply Kd.R_drew)); exact Kd.R_mono HO_7.out (fun _ hk => ⟨hk.1.1, ⟨hk.1.2.1, ⟨hk.2, hk.1.2.2⟩⟩⟩)), (kU BK342.out), (kU BK343.out), (kU BK368.out), GW368.out, GE368.out, NB342_368.out, NB368_342.out, NB343_368.out, NB368_343.out, (bU3 HB.out GE342.out GE343.out GE368.out)⟩)
                  ·
                   skip
                   refine Kd.R_make_step (Kd.int .i64) _ 3 (by rfl) (N := 81) rfl 23 _ _ rfl x8_2 rfl rfl Try.underlying23 (.int .i64 0) 8 info3 rfl (by decide) (by omega) 0 (ok := fun _ => True) (okp := fun _ => True) rfl (fun _ hk => hk) trivial (oA) (Nat.le_trans (Nat.mul_le_mul_right _ (oA : x8_2.toNat ≤ 35184372088832)) (by omega)) (Below.refl _ _) (Nat.le_refl _) ?_
                   intro v366 w61 ho62 hb hg_ hnew_
                   clear hg_ hnew_; (first | rw [← Ny365.out] at ho62 | (simp only [Int.reduceToNat] at ho62; rw [← Ny365.out] at ho62)); have n0 := Az (Kd.R_elder' (rU HO_6.out) (Kd.R_base ho62) hb); have n1 := Az (Kd.R_elder' (rU HO_7.out) (Kd.R_base ho62) hb); have n2 := Az (Kd.R_elder' (rU HO358.out) (Kd.R_base ho62) hb); have n3 := Az (Kd.R_elder' (rU HO361.out) (Kd.R_base ho62) hb); have n4 := Az (Kd.R_lower (Kd.R_new' (Kd.R_new' (Kd.R_new' (Kd.R_new' ho62 (Kd.R_lt (rU HO_6.out))) (Kd.R_lt (rU HO_7.out))) (Kd.R_lt (rU HO358.out))) (Kd.R_lt (rU HO361.out))) (below_size (bU3 HB.out GE342.out GE343.out GE368.out))); have n5 := Az (blk_below (g := gb342) (o := .cells #[.slice A0_0 l0_0.length c0_0, .slice A0_1 l0_1.length c0_1] 29 (0, 0)) (kU BK342.out) hb); have n6 := Az (blk_below (g := gb343) (o := .cells #[.slice none 0 0, .slice none 0 0] 29 (0, 0)) (kU BK343.out) hb); have n7 := Az (blk_below (g := gb368) (o := .cells #[.slice none 0 0, .slice none 0 0] 29 (0, 0)) (kU BK368.out) hb); have n8 := Az (below_step (bU3 HB.out GE342.out GE343.out GE368.out) hb); clear HO_6 HO_7 HO358 HO361 BK342 BK343 BK368 HB; have HO_6 := n0; have HO_7 := n1; have HO358 := n2; have HO361 := n3; have HO367 := n4; have BK342 := n5; have BK343 := n6; have BK368 := n7; have HB := n8; clear n0 n1 n2 n3 n4 n5 n6 n7 n8 hb ho62
                   refine hK.out _ _ trivial (fun hHeld => ?_)
                   clear hK K
                   refine norm_ (a' := ?_) ?_ ?_
                   rotate_left
                   ·
                    show Act.put _ (some 81) _ = _
                    simp only [Act.put, List.setIfInBounds_toArray, List.set_cons_zero, List.set_cons_succ, i64_w, i32_w]
                    rfl
                   exact norm_ (by first | (simp only [putAll, Act.put, List.setIfInBounds_toArray, List.set_cons_zero, List.set_cons_succ]; done) | (simp only [putAll, Act.put, List.setIfInBounds_toArray, List.set_cons_zero, List.set_cons_succ]; rfl)) (hJ3_5 (v366, gb368) _ ⟨(by (with_reducible repeat (first | apply Kd.R_alloc | apply Kd.R_drewN | apply Kd.R_drew)); exact Kd.R_mono HO358.out (fun _ hk => ⟨hk.1.1, ⟨hk.2, ⟨hk.1.2.1, hk.1.2.2⟩⟩⟩)), (by (with_reducible repeat (first | apply Kd.R_alloc | apply Kd.R_drewN | apply Kd.R_drew)); exact Kd.R_mono HO361.out (fun _ hk => ⟨hk.1.1, ⟨hk.2, ⟨hk.1.2.1, hk.1.2.2⟩⟩⟩)), (by (with_reducible repeat (first | apply Kd.R_alloc | apply Kd.R_drewN | apply Kd.R_drew)); exact Kd.R_mono HO367.out (fun _ hk => ⟨hk.1.2, ⟨hk.2, ⟨hk.1.1.1.2, hk.1.1.2⟩⟩⟩)), (by (with_reducible repeat (first | apply Kd.R_alloc | apply Kd.R_drewN | apply Kd.R_drew)); exact Kd.R_mono HO_6.out (fun _ hk => ⟨hk.1.1, ⟨hk.1.2.1, ⟨hk.2, hk.1.2.2⟩⟩⟩)), (by (with_reducible repeat (first | apply Kd.R_alloc | apply Kd.R_drewN | apply Kd.R_drew)); exact Kd.R_mono HO_7.out (fun _ hk => ⟨hk.1.1, ⟨hk.1.2.1, ⟨hk.2, hk.1.2.2⟩⟩⟩)), (kU BK342.out), (kU BK343.out), (kU BK368.out), GW368.out, GE368.out, NB342_368.out, NB368_342.out, NB343_368.out, NB368_343.out, (bU3 HB.out GE342.out GE343.out GE368.out)⟩)
                ·
                 skip
                 rintro v366 w61 ⟨h0_, h1_, h2_, h3_, h4_, h5_, h6_, h7_⟩
                 have n0 : Aside0 (Kd.R (Kd.int .i64) 3 w61 w.heap.size (fun k_ => some k_ ≠ (v360 : Value).ownBlock ∧ some k_ ≠ (v366 : Value).ownBlock ∧ some k_ ≠ (.slice Ao28 t345.length co28 : Value).ownBlock ∧ some k_ ≠ (v349 : Value).ownBlock) v357 t356) := ⟨h0_⟩; have n1 : Aside0 (Kd.R (Kd.int .i64) 3 w61 w.heap.size (fun k_ => some k_ ≠ (v357 : Value).ownBlock ∧ some k_ ≠ (v366 : Value).ownBlock ∧ some k_ ≠ (.slice Ao28 t345.length co28 : Value).ownBlock ∧ some k_ ≠ (v349 : Value).ownBlock) v360 t359) := ⟨h1_⟩; have n2 : Aside0 (Kd.R (Kd.int .i64) 3 w61 w.heap.size (fun k_ => some k_ ≠ (v357 : Value).ownBlock ∧ some k_ ≠ (v360 : Value).ownBlock ∧ some k_ ≠ (.slice Ao28 t345.length co28 : Value).ownBlock ∧ some k_ ≠ (v349 : Value).ownBlock) v366 y365) := ⟨h2_⟩; have n3 : Aside0 (Kd.R (Kd.int .i64) 3 w61 w.heap.size (fun k_ => some k_ ≠ (v357 : Value).ownBlock ∧ some k_ ≠ (v360 : Value).ownBlock ∧ some k_ ≠ (v366 : Value).ownBlock ∧ some k_ ≠ (v349 : Value).ownBlock) (.slice Ao28 t345.length co28) t345) := ⟨h3_⟩; have n4 : Aside0 (Kd.R (Kd.int .i64) 3 w61 w.heap.size (fun k_ => some k_ ≠ (v357 : Value).ownBlock ∧ some k_ ≠ (v360 : Value).ownBlock ∧ some k_ ≠ (v366 : Value).ownBlock ∧ some k_ ≠ (.slice Ao28 t345.length co28 : Value).ownBlock) v349 x7_2) := ⟨h4_⟩; have n5 : Aside0 (w61.heap[gb342]? = some (.cells #[.slice A0_0 l0_0.length c0_0, .slice A0_1 l0_1.length c0_1] 29 (0, 0))) := ⟨h5_⟩; have n6 : Aside0 (w61.heap[gb343]? = some (.cells #[.slice none 0 0, .slice none 0 0] 29 (0, 0))) := ⟨h6_⟩; have n7 : Aside0 (Below w.heap.size w w61) := ⟨h7_⟩; clear HO_6 HO_7 HO358 HO361 BK342 BK343 HB h0_ h1_ h2_ h3_ h4_ h5_ h6_ h7_; have HO358 := n0; have HO361 := n1; have HO367 := n2; have HO_6 := n3; have HO_7 := n4; have BK342 := n5; have BK343 := n6; have HB := n7; clear n0 n1 n2 n3 n4 n5 n6 n7; have hHeld := trivial
                 refine norm_ (a' := ?_) ?_ ?_
                 rotate_left
                 ·
                  simp only [putAll, Act.put, List.setIfInBounds_toArray, List.set_cons_zero, List.set_cons_succ]
                  rfl
                 refine two_ (i := 1) (j := 5) (Ni := some 79) (Nj := some 13) #[true, true, true, true, false, false, false] #[true, false, true, true, false, true, false] rfl rfl rfl rfl (by kernel_rfl) (by decide) (by decide) (fun K hK => ?_) (fun K hK => ?_)
                 ·
                  skip
                  refine Kd.R_make_step (Kd.int .i64) _ 3 (by rfl) (N := 79) rfl 23 _ _ rfl x8_2 rfl rfl Try.underlying23 (.int .i64 0) 8 info3 rfl (by decide) (by omega) 0 (ok := fun _ => True) (okp := fun _ => True) rfl (fun _ hk => hk) trivial (oA) (Nat.le_trans (Nat.mul_le_mul_right _ (oA : x8_2.toNat ≤ 35184372088832)) (by omega)) (Below.refl _ _) (Nat.le_refl _) ?_
                  intro v363 w62 ho63 hb hg_ hnew_
                  clear hg_ hnew_; (first | rw [← Ny362.out] at ho63 | (simp only [Int.reduceToNat] at ho63; rw [← Ny362.out] at ho63)); have n0 := Az (Kd.R_elder' (rU HO_6.out) (Kd.R_base ho63) hb); have n1 := Az (Kd.R_elder' (rU HO_7.out) (Kd.R_base ho63) hb); have n2 := Az (Kd.R_elder' (rU HO358.out) (Kd.R_base ho63) hb); have n3 := Az (Kd.R_elder' (rU HO361.out) (Kd.R_base ho63) hb); have n4 := Az (Kd.R_elder' (rU HO367.out) (Kd.R_base ho63) hb); have n5 := Az (Kd.R_lower (Kd.R_new' (Kd.R_new' (Kd.R_new' (Kd.R_new' (Kd.R_new' ho63 (Kd.R_lt (rU HO_6.out))) (Kd.R_lt (rU HO_7.out))) (Kd.R_lt (rU HO358.out))) (Kd.R_lt (rU HO361.out))) (Kd.R_lt (rU HO367.out))) (below_size (bU2 HB.out GE342.out GE343.out))); have n6 := Az (blk_below (g := gb342) (o := .cells #[.slice A0_0 l0_0.length c0_0, .slice A0_1 l0_1.length c0_1] 29 (0, 0)) (kU BK342.out) hb); have n7 := Az (blk_below (g := gb343) (o := .cells #[.slice none 0 0, .slice none 0 0] 29 (0, 0)) (kU BK343.out) hb); have n8 := Az (below_step (bU2 HB.out GE342.out GE343.out) hb); clear HO_6 HO_7 HO358 HO361 HO367 BK342 BK343 HB; have HO_6 := n0; have HO_7 := n1; have HO358 := n2; have HO361 := n3; have HO367 := n4; have HO364 := n5; have BK342 := n6; have BK343 := n7; have HB := n8; clear n0 n1 n2 n3 n4 n5 n6 n7 n8 hb ho63; obtain ⟨Ao64, co64, eo64⟩ := Kd.R_slice HO367.out; (first | subst eo64 | (injection eo64 with f1_ f2_ f3_; have f4_ := f1_.symm; have f5_ := f3_.symm; clear f1_ f2_ f3_; subst f4_; subst f5_)); obtain ⟨Ao65, co65, eo65⟩ := Kd.R_slice HO364.out; (first | subst eo65 | (injection eo65 with f1_ f2_ f3_; have f4_ := f1_.symm; have f5_ := f3_.symm; clear f1_ f2_ f3_; subst f4_; subst f5_))
                  refine hK.out _ _ trivial (fun hHeld => ?_)
                  clear hK K
                  refine norm_ (a' := ?_) ?_ ?_
                  rotate_left
                  ·
                   show Act.put _ (some 79) _ = _
                   simp only [Act.put, List.setIfInBounds_toArray, List.set_cons_zero, List.set_cons_succ, i64_w, i32_w]
                   rfl
                  refine pure_ (i := 4) (N := some 82) (v := ?_) (a' := ?_) #[true, true, true, true, true, false, false] rfl rfl (by kernel_rfl) (fun _ _ _ h => h) (Or.inl ⟨by rfl, ?_⟩) ?_ ?_
                  rotate_left
                  ·
                   intro w'
                   go_simp
                   with_reducible rfl
                  rotate_left
                  ·
                   simp only [Act.put, List.setIfInBounds_toArray, List.set_cons_zero, List.set_cons_succ, i64_w, i32_w]
                   rfl
                  exact norm_ (by first | (simp only [putAll, Act.put, List.setIfInBounds_toArray, List.set_cons_zero, List.set_cons_succ]; done) | (simp only [putAll, Act.put, List.setIfInBounds_toArray, List.set_cons_zero, List.set_cons_succ]; rfl)) (hJ1_3 (.slice Ao65 y362.length co65, .slice Ao64 y365.length co64) _ ⟨(by (with_reducible repeat (first | apply Kd.R_alloc | apply Kd.R_drewN | apply Kd.R_drew)); exact Kd.R_mono HO358.out (fun _ hk => ⟨hk.1.1, ⟨hk.2, ⟨hk.1.2.1, ⟨hk.1.2.2.1, hk.1.2.2.2⟩⟩⟩⟩)), (by (with_reducible repeat (first | apply Kd.R_alloc | apply Kd.R_drewN | apply Kd.R_drew)); exact Kd.R_mono HO361.out (fun _ hk => ⟨hk.1.1, ⟨hk.2, ⟨hk.1.2.1, ⟨hk.1.2.2.1, hk.1.2.2.2⟩⟩⟩⟩)), (by (with_reducible repeat (first | apply Kd.R_alloc | apply Kd.R_drewN | apply Kd.R_drew)); exact Kd.R_mono HO364.out (fun _ hk => ⟨hk.1.1.2, ⟨hk.1.2, ⟨hk.2, ⟨hk.1.1.1.1.2, hk.1.1.1.2⟩⟩⟩⟩)), (by (with_reducible repeat (first | apply Kd.R_alloc | apply Kd.R_drewN | apply Kd.R_drew)); exact Kd.R_mono HO367.out (fun _ hk => ⟨hk.1.1, ⟨hk.1.2.1, ⟨hk.2, ⟨hk.1.2.2.1, hk.1.2.2.2⟩⟩⟩⟩)), (by (with_reducible repeat (first | apply Kd.R_alloc | apply Kd.R_drewN | apply Kd.R_drew)); exact Kd.R_mono HO_6.out (fun _ hk => ⟨hk.1.1, ⟨hk.1.2.1, ⟨hk.2, ⟨hk.1.2.2.1, hk.1.2.2.2⟩⟩⟩⟩)), (by (with_reducible repeat (first | apply Kd.R_alloc | apply Kd.R_drewN | apply Kd.R_drew)); exact Kd.R_mono HO_7.out (fun _ hk => ⟨hk.1.1, ⟨hk.1.2.1, ⟨hk.2, ⟨hk.1.2.2.1, hk.1.2.2.2⟩⟩⟩⟩)), (kU BK342.out), (kU BK343.out), (bU2 HB.out GE342.out GE343.out)⟩)
                 ·
                  skip
                  refine box_step ?hg (N := 13) ?hd (cs := #[.slice none 0 0, .slice none 0 0]) (t := 29) ?hr ?_; (case hd => rfl); (case hg => rfl); (case hr => first | (go_simp; done) | (go_simp; rfl))
                  intro gb368 hg w62 hbox hb
                  have n0 := Az (Kd.R_below (rU HO_6.out) hb); have n1 := Az (Kd.R_below (rU HO_7.out) hb); have n2 := Az (Kd.R_below (rU HO358.out) hb); have n3 := Az (Kd.R_below (rU HO361.out) hb); have n4 := Az (Kd.R_below (rU HO367.out) hb); have n5 := Az (blk_below (g := gb342) (o := .cells #[.slice A0_0 l0_0.length c0_0, .slice A0_1 l0_1.length c0_1] 29 (0, 0)) (kU BK342.out) hb); have n6 := Az (blk_below (g := gb343) (o := .cells #[.slice none 0 0, .slice none 0 0] 29 (0, 0)) (kU BK343.out) hb); have n7 := Az (below_step (bU2 HB.out GE342.out GE343.out) hb); have n8 := Az (hbox); have n9 := Az ((by rw [hg]; exact (below_size (bU2 HB.out GE342.out GE343.out)) : w.heap.size ≤ gb368)); have n10 := Az ((by rw [hg]; exact (below_size (bU2 HB.out GE342.out GE343.out)) : w.heap.size ≤ gb368)); have n11 := Az ((by rw [hg]; exact Nat.ne_of_lt (blk_lt (g := gb342) (o := .cells #[.slice A0_0 l0_0.length c0_0, .slice A0_1 l0_1.length c0_1] 29 (0, 0)) (kU BK342.out)) : gb342 ≠ gb368)); have n12 := Az ((by rw [hg]; exact Nat.ne_of_gt (blk_lt (g := gb342) (o := .cells #[.slice A0_0 l0_0.length c0_0, .slice A0_1 l0_1.length c0_1] 29 (0, 0)) (kU BK342.out)) : gb368 ≠ gb342)); have n13 := Az ((by rw [hg]; exact Nat.ne_of_lt (blk_lt (g := gb343) (o := .cells #[.slice none 0 0, .slice none 0 0] 29 (0, 0)) (kU BK343.out)) : gb343 ≠ gb368)); have n14 := Az ((by rw [hg]; exact Nat.ne_of_gt (blk_lt (g := gb343) (o := .cells #[.slice none 0 0, .slice none 0 0] 29 (0, 0)) (kU BK343.out)) : gb368 ≠ gb343)); clear HO_6 HO_7 HO358 HO361 HO367 BK342 BK343 HB; have HO_6 := n0; have HO_7 := n1; have HO358 := n2; have HO361 := n3; have HO367 := n4; have BK342 := n5; have BK343 := n6; have HB := n7; have BK368 := n8; have GW368 := n9; have GE368 := n10; have NB342_368 := n11; have NB368_342 := n12; have NB343_368 := n13; have NB368_343 := n14; clear n0 n1 n2 n3 n4 n5 n6 n7 n8 n9 n10 n11 n12 n13 n14 hb hbox hg
                  refine hK.out _ _ trivial (fun hHeld => ?_)
                  clear hK K
                  refine norm_ (a' := ?_) ?_ ?_
                  rotate_left
                  ·
                   show Act.put _ (some 13) _ = _
                   simp only [Act.put, List.setIfInBounds_toArray, List.set_cons_zero, List.set_cons_succ, i64_w, i32_w]
                   rfl
                  exact norm_ (by first | (simp only [putAll, Act.put, List.setIfInBounds_toArray, List.set_cons_zero, List.set_cons_succ]; done) | (simp only [putAll, Act.put, List.setIfInBounds_toArray, List.set_cons_zero, List.set_cons_succ]; rfl)) (hJ3_5 (v366, gb368) _ ⟨(rU HO358.out), (rU HO361.out), (rU HO367.out), (rU HO_6.out), (rU HO_7.out), (kU BK342.out), (kU BK343.out), (kU BK368.out), GW368.out, GE368.out, NB342_368.out, NB368_342.out, NB343_368.out, NB368_343.out, (bU3 HB.out GE342.out GE343.out GE368.out)⟩)
               ·
                skip
                rintro v363 w61 ⟨h0_, h1_, h2_, h3_, h4_, h5_, h6_, h7_⟩
                have n0 : Aside0 (Kd.R (Kd.int .i64) 3 w61 w.heap.size (fun k_ => some k_ ≠ (v360 : Value).ownBlock ∧ some k_ ≠ (v363 : Value).ownBlock ∧ some k_ ≠ (.slice Ao28 t345.length co28 : Value).ownBlock ∧ some k_ ≠ (v349 : Value).ownBlock) v357 t356) := ⟨h0_⟩; have n1 : Aside0 (Kd.R (Kd.int .i64) 3 w61 w.heap.size (fun k_ => some k_ ≠ (v357 : Value).ownBlock ∧ some k_ ≠ (v363 : Value).ownBlock ∧ some k_ ≠ (.slice Ao28 t345.length co28 : Value).ownBlock ∧ some k_ ≠ (v349 : Value).ownBlock) v360 t359) := ⟨h1_⟩; have n2 : Aside0 (Kd.R (Kd.int .i64) 3 w61 w.heap.size (fun k_ => some k_ ≠ (v357 : Value).ownBlock ∧ some k_ ≠ (v360 : Value).ownBlock ∧ some k_ ≠ (.slice Ao28 t345.length co28 : Value).ownBlock ∧ some k_ ≠ (v349 : Value).ownBlock) v363 y362) := ⟨h2_⟩; have n3 : Aside0 (Kd.R (Kd.int .i64) 3 w61 w.heap.size (fun k_ => some k_ ≠ (v357 : Value).ownBlock ∧ some k_ ≠ (v360 : Value).ownBlock ∧ some k_ ≠ (v363 : Value).ownBlock ∧ some k_ ≠ (v349 : Value).ownBlock) (.slice Ao28 t345.length co28) t345) := ⟨h3_⟩; have n4 : Aside0 (Kd.R (Kd.int .i64) 3 w61 w.heap.size (fun k_ => some k_ ≠ (v357 : Value).ownBlock ∧ some k_ ≠ (v360 : Value).ownBlock ∧ some k_ ≠ (v363 : Value).ownBlock ∧ some k_ ≠ (.slice Ao28 t345.length co28 : Value).ownBlock) v349 x7_2) := ⟨h4_⟩; have n5 : Aside0 (w61.heap[gb342]? = some (.cells #[.slice A0_0 l0_0.length c0_0, .slice A0_1 l0_1.length c0_1] 29 (0, 0))) := ⟨h5_⟩; have n6 : Aside0 (w61.heap[gb343]? = some (.cells #[.slice none 0 0, .slice none 0 0] 29 (0, 0))) := ⟨h6_⟩; have n7 : Aside0 (Below w.heap.size w w61) := ⟨h7_⟩; clear HO_6 HO_7 HO358 HO361 BK342 BK343 HB h0_ h1_ h2_ h3_ h4_ h5_ h6_ h7_; have HO358 := n0; have HO361 := n1; have HO364 := n2; have HO_6 := n3; have HO_7 := n4; have BK342 := n5; have BK343 := n6; have HB := n7; clear n0 n1 n2 n3 n4 n5 n6 n7; have hHeld := trivial
                refine norm_ (a' := ?_) ?_ ?_
                rotate_left
                ·
                 simp only [putAll, Act.put, List.setIfInBounds_toArray, List.set_cons_zero, List.set_cons_succ]
                 rfl
                refine two_ (i := 3) (j := 5) (Ni := some 81) (Nj := some 13) #[true, true, true, true, false, false, false] #[true, true, true, false, false, true, false] rfl rfl rfl rfl (by kernel_rfl) (by decide) (by decide) (fun K hK => ?_) (fun K hK => ?_)
                ·
                 skip
                 refine Kd.R_make_step (Kd.int .i64) _ 3 (by rfl) (N := 81) rfl 23 _ _ rfl x8_2 rfl rfl Try.underlying23 (.int .i64 0) 8 info3 rfl (by decide) (by omega) 0 (ok := fun _ => True) (okp := fun _ => True) rfl (fun _ hk => hk) trivial (oA) (Nat.le_trans (Nat.mul_le_mul_right _ (oA : x8_2.toNat ≤ 35184372088832)) (by omega)) (Below.refl _ _) (Nat.le_refl _) ?_
                 intro v366 w62 ho63 hb hg_ hnew_
                 clear hg_ hnew_; (first | rw [← Ny365.out] at ho63 | (simp only [Int.reduceToNat] at ho63; rw [← Ny365.out] at ho63)); have n0 := Az (Kd.R_elder' (rU HO_6.out) (Kd.R_base ho63) hb); have n1 := Az (Kd.R_elder' (rU HO_7.out) (Kd.R_base ho63) hb); have n2 := Az (Kd.R_elder' (rU HO358.out) (Kd.R_base ho63) hb); have n3 := Az (Kd.R_elder' (rU HO361.out) (Kd.R_base ho63) hb); have n4 := Az (Kd.R_elder' (rU HO364.out) (Kd.R_base ho63) hb); have n5 := Az (Kd.R_lower (Kd.R_new' (Kd.R_new' (Kd.R_new' (Kd.R_new' (Kd.R_new' ho63 (Kd.R_lt (rU HO_6.out))) (Kd.R_lt (rU HO_7.out))) (Kd.R_lt (rU HO358.out))) (Kd.R_lt (rU HO361.out))) (Kd.R_lt (rU HO364.out))) (below_size (bU2 HB.out GE342.out GE343.out))); have n6 := Az (blk_below (g := gb342) (o := .cells #[.slice A0_0 l0_0.length c0_0, .slice A0_1 l0_1.length c0_1] 29 (0, 0)) (kU BK342.out) hb); have n7 := Az (blk_below (g := gb343) (o := .cells #[.slice none 0 0, .slice none 0 0] 29 (0, 0)) (kU BK343.out) hb); have n8 := Az (below_step (bU2 HB.out GE342.out GE343.out) hb); clear HO_6 HO_7 HO358 HO361 HO364 BK342 BK343 HB; have HO_6 := n0; have HO_7 := n1; have HO358 := n2; have HO361 := n3; have HO364 := n4; have HO367 := n5; have BK342 := n6; have BK343 := n7; have HB := n8; clear n0 n1 n2 n3 n4 n5 n6 n7 n8 hb ho63; obtain ⟨Ao64, co64, eo64⟩ := Kd.R_slice HO367.out; (first | subst eo64 | (injection eo64 with f1_ f2_ f3_; have f4_ := f1_.symm; have f5_ := f3_.symm; clear f1_ f2_ f3_; subst f4_; subst f5_)); obtain ⟨Ao65, co65, eo65⟩ := Kd.R_slice HO364.out; (first | subst eo65 | (injection eo65 with f1_ f2_ f3_; have f4_ := f1_.symm; have f5_ := f3_.symm; clear f1_ f2_ f3_; subst f4_; subst f5_))
                 refine hK.out _ _ trivial (fun hHeld => ?_)
                 clear hK K
                 refine norm_ (a' := ?_) ?_ ?_
                 rotate_left
                 ·
                  show Act.put _ (some 81) _ = _
                  simp only [Act.put, List.setIfInBounds_toArray, List.set_cons_zero, List.set_cons_succ, i64_w, i32_w]
                  rfl
                 refine pure_ (i := 4) (N := some 82) (v := ?_) (a' := ?_) #[true, true, true, true, true, false, false] rfl rfl (by kernel_rfl) (fun _ _ _ h => h) (Or.inl ⟨by rfl, ?_⟩) ?_ ?_
                 rotate_left
                 ·
                  intro w'
                  go_simp
                  with_reducible rfl
                 rotate_left
                 ·
                  simp only [Act.put, List.setIfInBounds_toArray, List.set_cons_zero, List.set_cons_succ, i64_w, i32_w]
                  rfl
                 exact norm_ (by first | (simp only [putAll, Act.put, List.setIfInBounds_toArray, List.set_cons_zero, List.set_cons_succ]; done) | (simp only [putAll, Act.put, List.setIfInBounds_toArray, List.set_cons_zero, List.set_cons_succ]; rfl)) (hJ1_3 (.slice Ao65 y362.length co65, .slice Ao64 y365.length co64) _ ⟨(by (with_reducible repeat (first | apply Kd.R_alloc | apply Kd.R_drewN | apply Kd.R_drew)); exact Kd.R_mono HO358.out (fun _ hk => ⟨hk.1.1, ⟨hk.1.2.1, ⟨hk.2, ⟨hk.1.2.2.1, hk.1.2.2.2⟩⟩⟩⟩)), (by (with_reducible repeat (first | apply Kd.R_alloc | apply Kd.R_drewN | apply Kd.R_drew)); exact Kd.R_mono HO361.out (fun _ hk => ⟨hk.1.1, ⟨hk.1.2.1, ⟨hk.2, ⟨hk.1.2.2.1, hk.1.2.2.2⟩⟩⟩⟩)), (by (with_reducible repeat (first | apply Kd.R_alloc | apply Kd.R_drewN | apply Kd.R_drew)); exact Kd.R_mono HO364.out (fun _ hk => ⟨hk.1.1, ⟨hk.1.2.1, ⟨hk.2, ⟨hk.1.2.2.1, hk.1.2.2.2⟩⟩⟩⟩)), (by (with_reducible repeat (first | apply Kd.R_alloc | apply Kd.R_drewN | apply Kd.R_drew)); exact Kd.R_mono HO367.out (fun _ hk => ⟨hk.1.1.2, ⟨hk.1.2, ⟨hk.2, ⟨hk.1.1.1.1.2, hk.1.1.1.2⟩⟩⟩⟩)), (by (with_reducible repeat (first | apply Kd.R_alloc | apply Kd.R_drewN | apply Kd.R_drew)); exact Kd.R_mono HO_6.out (fun _ hk => ⟨hk.1.1, ⟨hk.1.2.1, ⟨hk.1.2.2.1, ⟨hk.2, hk.1.2.2.2⟩⟩⟩⟩)), (by (with_reducible repeat (first | apply Kd.R_alloc | apply Kd.R_drewN | apply Kd.R_drew)); exact Kd.R_mono HO_7.out (fun _ hk => ⟨hk.1.1, ⟨hk.1.2.1, ⟨hk.1.2.2.1, ⟨hk.2, hk.1.2.2.2⟩⟩⟩⟩)), (kU BK342.out), (kU BK343.out), (bU2 HB.out GE342.out GE343.out)⟩)
                ·
                 skip
                 refine box_step ?hg (N := 13) ?hd (cs := #[.slice none 0 0, .slice none 0 0]) (t := 29) ?hr ?_; (case hd => rfl); (case hg => rfl); (case hr => first | (go_simp; done) | (go_simp; rfl))
                 intro gb368 hg w62 hbox hb
                 have n0 := Az (Kd.R_below (rU HO_6.out) hb); have n1 := Az (Kd.R_below (rU HO_7.out) hb); have n2 := Az (Kd.R_below (rU HO358.out) hb); have n3 := Az (Kd.R_below (rU HO361.out) hb); have n4 := Az (Kd.R_below (rU HO364.out) hb); have n5 := Az (blk_below (g := gb342) (o := .cells #[.slice A0_0 l0_0.length c0_0, .slice A0_1 l0_1.length c0_1] 29 (0, 0)) (kU BK342.out) hb); have n6 := Az (blk_below (g := gb343) (o := .cells #[.slice none 0 0, .slice none 0 0] 29 (0, 0)) (kU BK343.out) hb); have n7 := Az (below_step (bU2 HB.out GE342.out GE343.out) hb); have n8 := Az (hbox); have n9 := Az ((by rw [hg]; exact (below_size (bU2 HB.out GE342.out GE343.out)) : w.heap.size ≤ gb368)); have n10 := Az ((by rw [hg]; exact (below_size (bU2 HB.out GE342.out GE343.out)) : w.heap.size ≤ gb368)); have n11 := Az ((by rw [hg]; exact Nat.ne_of_lt (blk_lt (g := gb342) (o := .cells #[.slice A0_0 l0_0.length c0_0, .slice A0_1 l0_1.length c0_1] 29 (0, 0)) (kU BK342.out)) : gb342 ≠ gb368)); have n12 := Az ((by rw [hg]; exact Nat.ne_of_gt (blk_lt (g := gb342) (o := .cells #[.slice A0_0 l0_0.length c0_0, .slice A0_1 l0_1.length c0_1] 29 (0, 0)) (kU BK342.out)) : gb368 ≠ gb342)); have n13 := Az ((by rw [hg]; exact Nat.ne_of_lt (blk_lt (g := gb343) (o := .cells #[.slice none 0 0, .slice none 0 0] 29 (0, 0)) (kU BK343.out)) : gb343 ≠ gb368)); have n14 := Az ((by rw [hg]; exact Nat.ne_of_gt (blk_lt (g := gb343) (o := .cells #[.slice none 0 0, .slice none 0 0] 29 (0, 0)) (kU BK343.out)) : gb368 ≠ gb343)); clear HO_6 HO_7 HO358 HO361 HO364 BK342 BK343 HB; have HO_6 := n0; have HO_7 := n1; have HO358 := n2; have HO361 := n3; have HO364 := n4; have BK342 := n5; have BK343 := n6; have HB := n7; have BK368 := n8; have GW368 := n9; have GE368 := n10; have NB342_368 := n11; have NB368_342 := n12; have NB343_368 := n13; have NB368_343 := n14; clear n0 n1 n2 n3 n4 n5 n6 n7 n8 n9 n10 n11 n12 n13 n14 hb hbox hg
                 refine hK.out _ _ trivial (fun hHeld => ?_)
                 clear hK K
                 refine norm_ (a' := ?_) ?_ ?_
                 rotate_left
                 ·
                  show Act.put _ (some 13) _ = _
                  simp only [Act.put, List.setIfInBounds_toArray, List.set_cons_zero, List.set_cons_succ, i64_w, i32_w]
                  rfl
                 exact norm_ (by first | (simp only [putAll, Act.put, List.setIfInBounds_toArray, List.set_cons_zero, List.set_cons_succ]; done) | (simp only [putAll, Act.put, List.setIfInBounds_toArray, List.set_cons_zero, List.set_cons_succ]; rfl)) (hJ1_5 (v363, gb368) _ ⟨(rU HO358.out), (rU HO361.out), (rU HO364.out), (rU HO_6.out), (rU HO_7.out), (kU BK342.out), (kU BK343.out), (kU BK368.out), GW368.out, GE368.out, NB342_368.out, NB368_342.out, NB343_368.out, NB368_343.out, (bU3 HB.out GE342.out GE343.out GE368.out)⟩)
              ·
               skip
               rintro ⟨v366, gb368⟩ w62 ⟨h0_, h1_, h2_, h3_, h4_, h5_, h6_, h7_, h8_, h9_, h10_, h11_, h12_, h13_, h14_⟩
               have n0 : Aside0 (Kd.R (Kd.int .i64) 3 w62 w.heap.size (fun k_ => some k_ ≠ (v360 : Value).ownBlock ∧ some k_ ≠ (v366 : Value).ownBlock ∧ some k_ ≠ (.slice Ao28 t345.length co28 : Value).ownBlock ∧ some k_ ≠ (v349 : Value).ownBlock) v357 t356) := ⟨h0_⟩; have n1 : Aside0 (Kd.R (Kd.int .i64) 3 w62 w.heap.size (fun k_ => some k_ ≠ (v357 : Value).ownBlock ∧ some k_ ≠ (v366 : Value).ownBlock ∧ some k_ ≠ (.slice Ao28 t345.length co28 : Value).ownBlock ∧ some k_ ≠ (v349 : Value).ownBlock) v360 t359) := ⟨h1_⟩; have n2 : Aside0 (Kd.R (Kd.int .i64) 3 w62 w.heap.size (fun k_ => some k_ ≠ (v357 : Value).ownBlock ∧ some k_ ≠ (v360 : Value).ownBlock ∧ some k_ ≠ (.slice Ao28 t345.length co28 : Value).ownBlock ∧ some k_ ≠ (v349 : Value).ownBlock) v366 y365) := ⟨h2_⟩; have n3 : Aside0 (Kd.R (Kd.int .i64) 3 w62 w.heap.size (fun k_ => some k_ ≠ (v357 : Value).ownBlock ∧ some k_ ≠ (v360 : Value).ownBlock ∧ some k_ ≠ (v366 : Value).ownBlock ∧ some k_ ≠ (v349 : Value).ownBlock) (.slice Ao28 t345.length co28) t345) := ⟨h3_⟩; have n4 : Aside0 (Kd.R (Kd.int .i64) 3 w62 w.heap.size (fun k_ => some k_ ≠ (v357 : Value).ownBlock ∧ some k_ ≠ (v360 : Value).ownBlock ∧ some k_ ≠ (v366 : Value).ownBlock ∧ some k_ ≠ (.slice Ao28 t345.length co28 : Value).ownBlock) v349 x7_2) := ⟨h4_⟩; have n5 : Aside0 (w62.heap[gb342]? = some (.cells #[.slice A0_0 l0_0.length c0_0, .slice A0_1 l0_1.length c0_1] 29 (0, 0))) := ⟨h5_⟩; have n6 : Aside0 (w62.heap[gb343]? = some (.cells #[.slice none 0 0, .slice none 0 0] 29 (0, 0))) := ⟨h6_⟩; have n7 : Aside0 (w62.heap[gb368]? = some (.cells #[.slice none 0 0, .slice none 0 0] 29 (0, 0))) := ⟨h7_⟩; have n8 : Aside0 (w.heap.size ≤ gb368) := ⟨h8_⟩; have n9 : Aside0 (w.heap.size ≤ gb368) := ⟨h9_⟩; have n10 : Aside0 (gb342 ≠ gb368) := ⟨h10_⟩; have n11 : Aside0 (gb368 ≠ gb342) := ⟨h11_⟩; have n12 : Aside0 (gb343 ≠ gb368) := ⟨h12_⟩; have n13 : Aside0 (gb368 ≠ gb343) := ⟨h13_⟩; have n14 : Aside0 (Below w.heap.size w w62) := ⟨h14_⟩; clear HO_6 HO_7 HO358 HO361 BK342 BK343 HB h0_ h1_ h2_ h3_ h4_ h5_ h6_ h7_ h8_ h9_ h10_ h11_ h12_ h13_ h14_; have HO358 := n0; have HO361 := n1; have HO367 := n2; have HO_6 := n3; have HO_7 := n4; have BK342 := n5; have BK343 := n6; have BK368 := n7; have GW368 := n8; have GE368 := n9; have NB342_368 := n10; have NB368_342 := n11; have NB343_368 := n12; have NB368_343 := n13; have HB := n14; clear n0 n1 n2 n3 n4 n5 n6 n7 n8 n9 n10 n11 n12 n13 n14; have hHeld := trivial
               refine norm_ (a' := ?_) ?_ ?_
               rotate_left
               ·
                simp only [putAll, Act.put, List.setIfInBounds_toArray, List.set_cons_zero, List.set_cons_succ]
                rfl
               refine one_ (i := 1) (N := some 79) #[true, true, true, true, false, true, false] rfl rfl (by kernel_rfl) (by decide) (fun K hK => ?_)
               refine Kd.R_make_step (Kd.int .i64) _ 3 (by rfl) (N := 79) rfl 23 _ _ rfl x8_2 rfl rfl Try.underlying23 (.int .i64 0) 8 info3 rfl (by decide) (by omega) 0 (ok := fun _ => True) (okp := fun _ => True) rfl (fun _ hk => hk) trivial (oA) (Nat.le_trans (Nat.mul_le_mul_right _ (oA : x8_2.toNat ≤ 35184372088832)) (by omega)) (Below.refl _ _) (Nat.le_refl _) ?_
               intro v363 w63 ho64 hb hg_ hnew_
               clear hg_ hnew_; (first | rw [← Ny362.out] at ho64 | (simp only [Int.reduceToNat] at ho64; rw [← Ny362.out] at ho64)); have n0 := Az (Kd.R_elder' (rU HO_6.out) (Kd.R_base ho64) hb); have n1 := Az (Kd.R_elder' (rU HO_7.out) (Kd.R_base ho64) hb); have n2 := Az (Kd.R_elder' (rU HO358.out) (Kd.R_base ho64) hb); have n3 := Az (Kd.R_elder' (rU HO361.out) (Kd.R_base ho64) hb); have n4 := Az (Kd.R_elder' (rU HO367.out) (Kd.R_base ho64) hb); have n5 := Az (Kd.R_lower (Kd.R_new' (Kd.R_new' (Kd.R_new' (Kd.R_new' (Kd.R_new' ho64 (Kd.R_lt (rU HO_6.out))) (Kd.R_lt (rU HO_7.out))) (Kd.R_lt (rU HO358.out))) (Kd.R_lt (rU HO361.out))) (Kd.R_lt (rU HO367.out))) (below_size (bU3 HB.out GE342.out GE343.out GE368.out))); have n6 := Az (blk_below (g := gb342) (o := .cells #[.slice A0_0 l0_0.length c0_0, .slice A0_1 l0_1.length c0_1] 29 (0, 0)) (kU BK342.out) hb); have n7 := Az (blk_below (g := gb343) (o := .cells #[.slice none 0 0, .slice none 0 0] 29 (0, 0)) (kU BK343.out) hb); have n8 := Az (blk_below (g := gb368) (o := .cells #[.slice none 0 0, .slice none 0 0] 29 (0, 0)) (kU BK368.out) hb); have n9 := Az (below_step (bU3 HB.out GE342.out GE343.out GE368.out) hb); clear HO_6 HO_7 HO358 HO361 HO367 BK342 BK343 BK368 HB; have HO_6 := n0; have HO_7 := n1; have HO358 := n2; have HO361 := n3; have HO367 := n4; have HO364 := n5; have BK342 := n6; have BK343 := n7; have BK368 := n8; have HB := n9; clear n0 n1 n2 n3 n4 n5 n6 n7 n8 n9 hb ho64; obtain ⟨Ao65, co65, eo65⟩ := Kd.R_slice HO367.out; (first | subst eo65 | (injection eo65 with f1_ f2_ f3_; have f4_ := f1_.symm; have f5_ := f3_.symm; clear f1_ f2_ f3_; subst f4_; subst f5_)); obtain ⟨Ao66, co66, eo66⟩ := Kd.R_slice HO364.out; (first | subst eo66 | (injection eo66 with f1_ f2_ f3_; have f4_ := f1_.symm; have f5_ := f3_.symm; clear f1_ f2_ f3_; subst f4_; subst f5_))
               refine hK.out _ _ trivial (fun hHeld => ?_)
               clear hK K
               refine norm_ (a' := ?_) ?_ ?_
               rotate_left
               ·
                show Act.put _ (some 79) _ = _
                simp only [Act.put, List.setIfInBounds_toArray, List.set_cons_zero, List.set_cons_succ, i64_w, i32_w]
                rfl
               refine pure_ (i := 4) (N := some 82) (v := ?_) (a' := ?_) #[true, true, true, true, true, true, false] rfl rfl (by kernel_rfl) (fun _ _ _ h => h) (Or.inl ⟨by rfl, ?_⟩) ?_ ?_
               rotate_left
               ·
                intro w'
                go_simp
                with_reducible rfl
               rotate_left
               ·
                simp only [Act.put, List.setIfInBounds_toArray, List.set_cons_zero, List.set_cons_succ, i64_w, i32_w]
                rfl
               exact norm_ (by first | (simp only [putAll, Act.put, List.setIfInBounds_toArray, List.set_cons_zero, List.set_cons_succ]; done) | (simp only [putAll, Act.put, List.setIfInBounds_toArray, List.set_cons_zero, List.set_cons_succ]; rfl)) (hJ1_3_5 (.slice Ao66 y362.length co66, .slice Ao65 y365.length co65, gb368) _ ⟨(by (with_reducible repeat (first | apply Kd.R_alloc | apply Kd.R_drewN | apply Kd.R_drew)); exact Kd.R_mono HO358.out (fun _ hk => ⟨hk.1.1, ⟨hk.2, ⟨hk.1.2.1, ⟨hk.1.2.2.1, hk.1.2.2.2⟩⟩⟩⟩)), (by (with_reducible repeat (first | apply Kd.R_alloc | apply Kd.R_drewN | apply Kd.R_drew)); exact Kd.R_mono HO361.out (fun _ hk => ⟨hk.1.1, ⟨hk.2, ⟨hk.1.2.1, ⟨hk.1.2.2.1, hk.1.2.2.2⟩⟩⟩⟩)), (by (with_reducible repeat (first | apply Kd.R_alloc | apply Kd.R_drewN | apply Kd.R_drew)); exact Kd.R_mono HO364.out (fun _ hk => ⟨hk.1.1.2, ⟨hk.1.2, ⟨hk.2, ⟨hk.1.1.1.1.2, hk.1.1.1.2⟩⟩⟩⟩)), (by (with_reducible repeat (first | apply Kd.R_alloc | apply Kd.R_drewN | apply Kd.R_drew)); exact Kd.R_mono HO367.out (fun _ hk => ⟨hk.1.1, ⟨hk.1.2.1, ⟨hk.2, ⟨hk.1.2.2.1, hk.1.2.2.2⟩⟩⟩⟩)), (by (with_reducible repeat (first | apply Kd.R_alloc | apply Kd.R_drewN | apply Kd.R_drew)); exact Kd.R_mono HO_6.out (fun _ hk => ⟨hk.1.1, ⟨hk.1.2.1, ⟨hk.2, ⟨hk.1.2.2.1, hk.1.2.2.2⟩⟩⟩⟩)), (by (with_reducible repeat (first | apply Kd.R_alloc | apply Kd.R_drewN | apply Kd.R_drew)); exact Kd.R_mono HO_7.out (fun _ hk => ⟨hk.1.1, ⟨hk.1.2.1, ⟨hk.2, ⟨hk.1.2.2.1, hk.1.2.2.2⟩⟩⟩⟩)), (kU BK342.out), (kU BK343.out), (kU BK368.out), GW368.out, GE368.out, NB342_368.out, NB368_342.out, NB343_368.out, NB368_343.out, (bU3 HB.out GE342.out GE343.out GE368.out)⟩)
             ·
              skip
              rintro ⟨v363, gb368⟩ w62 ⟨h0_, h1_, h2_, h3_, h4_, h5_, h6_, h7_, h8_, h9_, h10_, h11_, h12_, h13_, h14_⟩
              have n0 : Aside0 (Kd.R (Kd.int .i64) 3 w62 w.heap.size (fun k_ => some k_ ≠ (v360 : Value).ownBlock ∧ some k_ ≠ (v363 : Value).ownBlock ∧ some k_ ≠ (.slice Ao28 t345.length co28 : Value).ownBlock ∧ some k_ ≠ (v349 : Value).ownBlock) v357 t356) := ⟨h0_⟩; have n1 : Aside0 (Kd.R (Kd.int .i64) 3 w62 w.heap.size (fun k_ => some k_ ≠ (v357 : Value).ownBlock ∧ some k_ ≠ (v363 : Value).ownBlock ∧ some k_ ≠ (.slice Ao28 t345.length co28 : Value).ownBlock ∧ some k_ ≠ (v349 : Value).ownBlock) v360 t359) := ⟨h1_⟩; have n2 : Aside0 (Kd.R (Kd.int .i64) 3 w62 w.heap.size (fun k_ => some k_ ≠ (v357 : Value).ownBlock ∧ some k_ ≠ (v360 : Value).ownBlock ∧ some k_ ≠ (.slice Ao28 t345.length co28 : Value).ownBlock ∧ some k_ ≠ (v349 : Value).ownBlock) v363 y362) := ⟨h2_⟩; have n3 : Aside0 (Kd.R (Kd.int .i64) 3 w62 w.heap.size (fun k_ => some k_ ≠ (v357 : Value).ownBlock ∧ some k_ ≠ (v360 : Value).ownBlock ∧ some k_ ≠ (v363 : Value).ownBlock ∧ some k_ ≠ (v349 : Value).ownBlock) (.slice Ao28 t345.length co28) t345) := ⟨h3_⟩; have n4 : Aside0 (Kd.R (Kd.int .i64) 3 w62 w.heap.size (fun k_ => some k_ ≠ (v357 : Value).ownBlock ∧ some k_ ≠ (v360 : Value).ownBlock ∧ some k_ ≠ (v363 : Value).ownBlock ∧ some k_ ≠ (.slice Ao28 t345.length co28 : Value).ownBlock) v349 x7_2) := ⟨h4_⟩; have n5 : Aside0 (w62.heap[gb342]? = some (.cells #[.slice A0_0 l0_0.length c0_0, .slice A0_1 l0_1.length c0_1] 29 (0, 0))) := ⟨h5_⟩; have n6 : Aside0 (w62.heap[gb343]? = some (.cells #[.slice none 0 0, .slice none 0 0] 29 (0, 0))) := ⟨h6_⟩; have n7 : Aside0 (w62.heap[gb368]? = some (.cells #[.slice none 0 0, .slice none 0 0] 29 (0, 0))) := ⟨h7_⟩; have n8 : Aside0 (w.heap.size ≤ gb368) := ⟨h8_⟩; have n9 : Aside0 (w.heap.size ≤ gb368) := ⟨h9_⟩; have n10 : Aside0 (gb342 ≠ gb368) := ⟨h10_⟩; have n11 : Aside0 (gb368 ≠ gb342) := ⟨h11_⟩; have n12 : Aside0 (gb343 ≠ gb368) := ⟨h12_⟩; have n13 : Aside0 (gb368 ≠ gb343) := ⟨h13_⟩; have n14 : Aside0 (Below w.heap.size w w62) := ⟨h14_⟩; clear HO_6 HO_7 HO358 HO361 BK342 BK343 HB h0_ h1_ h2_ h3_ h4_ h5_ h6_ h7_ h8_ h9_ h10_ h11_ h12_ h13_ h14_; have HO358 := n0; have HO361 := n1; have HO364 := n2; have HO_6 := n3; have HO_7 := n4; have BK342 := n5; have BK343 := n6; have BK368 := n7; have GW368 := n8; have GE368 := n9; have NB342_368 := n10; have NB368_342 := n11; have NB343_368 := n12; have NB368_343 := n13; have HB := n14; clear n0 n1 n2 n3 n4 n5 n6 n7 n8 n9 n10 n11 n12 n13 n14; have hHeld := trivial
              refine norm_ (a' := ?_) ?_ ?_
              rotate_left
              ·
               simp only [putAll, Act.put, List.setIfInBounds_toArray, List.set_cons_zero, List.set_cons_succ]
               rfl
              refine one_ (i := 3) (N := some 81) #[true, true, true, true, false, true, false] rfl rfl (by kernel_rfl) (by decide) (fun K hK => ?_)
              refine Kd.R_make_step (Kd.int .i64) _ 3 (by rfl) (N := 81) rfl 23 _ _ rfl x8_2 rfl rfl Try.underlying23 (.int .i64 0) 8 info3 rfl (by decide) (by omega) 0 (ok := fun _ => True) (okp := fun _ => True) rfl (fun _ hk => hk) trivial (oA) (Nat.le_trans (Nat.mul_le_mul_right _ (oA : x8_2.toNat ≤ 35184372088832)) (by omega)) (Below.refl _ _) (Nat.le_refl _) ?_
              intro v366 w63 ho64 hb hg_ hnew_
              clear hg_ hnew_; (first | rw [← Ny365.out] at ho64 | (simp only [Int.reduceToNat] at ho64; rw [← Ny365.out] at ho64)); have n0 := Az (Kd.R_elder' (rU HO_6.out) (Kd.R_base ho64) hb); have n1 := Az (Kd.R_elder' (rU HO_7.out) (Kd.R_base ho64) hb); have n2 := Az (Kd.R_elder' (rU HO358.out) (Kd.R_base ho64) hb); have n3 := Az (Kd.R_elder' (rU HO361.out) (Kd.R_base ho64) hb); have n4 := Az (Kd.R_elder' (rU HO364.out) (Kd.R_base ho64) hb); have n5 := Az (Kd.R_lower (Kd.R_new' (Kd.R_new' (Kd.R_new' (Kd.R_new' (Kd.R_new' ho64 (Kd.R_lt (rU HO_6.out))) (Kd.R_lt (rU HO_7.out))) (Kd.R_lt (rU HO358.out))) (Kd.R_lt (rU HO361.out))) (Kd.R_lt (rU HO364.out))) (below_size (bU3 HB.out GE342.out GE343.out GE368.out))); have n6 := Az (blk_below (g := gb342) (o := .cells #[.slice A0_0 l0_0.length c0_0, .slice A0_1 l0_1.length c0_1] 29 (0, 0)) (kU BK342.out) hb); have n7 := Az (blk_below (g := gb343) (o := .cells #[.slice none 0 0, .slice none 0 0] 29 (0, 0)) (kU BK343.out) hb); have n8 := Az (blk_below (g := gb368) (o := .cells #[.slice none 0 0, .slice none 0 0] 29 (0, 0)) (kU BK368.out) hb); have n9 := Az (below_step (bU3 HB.out GE342.out GE343.out GE368.out) hb); clear HO_6 HO_7 HO358 HO361 HO364 BK342 BK343 BK368 HB; have HO_6 := n0; have HO_7 := n1; have HO358 := n2; have HO361 := n3; have HO364 := n4; have HO367 := n5; have BK342 := n6; have BK343 := n7; have BK368 := n8; have HB := n9; clear n0 n1 n2 n3 n4 n5 n6 n7 n8 n9 hb ho64; obtain ⟨Ao65, co65, eo65⟩ := Kd.R_slice HO367.out; (first | subst eo65 | (injection eo65 with f1_ f2_ f3_; have f4_ := f1_.symm; have f5_ := f3_.symm; clear f1_ f2_ f3_; subst f4_; subst f5_)); obtain ⟨Ao66, co66, eo66⟩ := Kd.R_slice HO364.out; (first | subst eo66 | (injection eo66 with f1_ f2_ f3_; have f4_ := f1_.symm; have f5_ := f3_.symm; clear f1_ f2_ f3_; subst f4_; subst f5_))
              refine hK.out _ _ trivial (fun hHeld => ?_)
              clear hK K
              refine norm_ (a' := ?_) ?_ ?_
              rotate_left
              ·
               show Act.put _ (some 81) _ = _
               simp only [Act.put, List.setIfInBounds_toArray, List.set_cons_zero, List.set_cons_succ, i64_w, i32_w]
               rfl
              refine pure_ (i := 4) (N := some 82) (v := ?_) (a' := ?_) #[true, true, true, true, true, true, false] rfl rfl (by kernel_rfl) (fun _ _ _ h => h) (Or.inl ⟨by rfl, ?_⟩) ?_ ?_
              rotate_left
              ·
               intro w'
               go_simp
               with_reducible rfl
              rotate_left
              ·
               simp only [Act.put, List.setIfInBounds_toArray, List.set_cons_zero, List.set_cons_succ, i64_w, i32_w]
               rfl
              exact norm_ (by first | (simp only [putAll, Act.put, List.setIfInBounds_toArray, List.set_cons_zero, List.set_cons_succ]; done) | (simp only [putAll, Act.put, List.setIfInBounds_toArray, List.set_cons_zero, List.set_cons_succ]; rfl)) (hJ1_3_5 (.slice Ao66 y362.length co66, .slice Ao65 y365.length co65, gb368) _ ⟨(by (with_reducible repeat (first | apply Kd.R_alloc | apply Kd.R_drewN | apply Kd.R_drew)); exact Kd.R_mono HO358.out (fun _ hk => ⟨hk.1.1, ⟨hk.1.2.1, ⟨hk.2, ⟨hk.1.2.2.1, hk.1.2.2.2⟩⟩⟩⟩)), (by (with_reducible repeat (first | apply Kd.R_alloc | apply Kd.R_drewN | apply Kd.R_drew)); exact Kd.R_mono HO361.out (fun _ hk => ⟨hk.1.1, ⟨hk.1.2.1, ⟨hk.2, ⟨hk.1.2.2.1, hk.1.2.2.2⟩⟩⟩⟩)), (by (with_reducible repeat (first | apply Kd.R_alloc | apply Kd.R_drewN | apply Kd.R_drew)); exact Kd.R_mono HO364.out (fun _ hk => ⟨hk.1.1, ⟨hk.1.2.1, ⟨hk.2, ⟨hk.1.2.2.1, hk.1.2.2.2⟩⟩⟩⟩)), (by (with_reducible repeat (first | apply Kd.R_alloc | apply Kd.R_drewN | apply Kd.R_drew)); exact Kd.R_mono HO367.out (fun _ hk => ⟨hk.1.1.2, ⟨hk.1.2, ⟨hk.2, ⟨hk.1.1.1.1.2, hk.1.1.1.2⟩⟩⟩⟩)), (by (with_reducible repeat (first | apply Kd.R_alloc | apply Kd.R_drewN | apply Kd.R_drew)); exact Kd.R_mono HO_6.out (fun _ hk => ⟨hk.1.1, ⟨hk.1.2.1, ⟨hk.1.2.2.1, ⟨hk.2, hk.1.2.2.2⟩⟩⟩⟩)), (by (with_reducible repeat (first | apply Kd.R_alloc | apply Kd.R_drewN | apply Kd.R_drew)); exact Kd.R_mono HO_7.out (fun _ hk => ⟨hk.1.1, ⟨hk.1.2.1, ⟨hk.1.2.2.1, ⟨hk.2, hk.1.2.2.2⟩⟩⟩⟩)), (kU BK342.out), (kU BK343.out), (kU BK368.out), GW368.out, GE368.out, NB342_368.out, NB368_342.out, NB343_368.out, NB368_343.out, (bU3 HB.out GE342.out GE343.out GE368.out)⟩)
            ·
             skip
             rintro ⟨v363, v366⟩ w65 ⟨h0_, h1_, h2_, h3_, h4_, h5_, h6_, h7_, h8_⟩
             have n0 : Aside0 (Kd.R (Kd.int .i64) 3 w65 w.heap.size (fun k_ => some k_ ≠ (v360 : Value).ownBlock ∧ some k_ ≠ (v363 : Value).ownBlock ∧ some k_ ≠ (v366 : Value).ownBlock ∧ some k_ ≠ (.slice Ao28 t345.length co28 : Value).ownBlock ∧ some k_ ≠ (v349 : Value).ownBlock) v357 t356) := ⟨h0_⟩; have n1 : Aside0 (Kd.R (Kd.int .i64) 3 w65 w.heap.size (fun k_ => some k_ ≠ (v357 : Value).ownBlock ∧ some k_ ≠ (v363 : Value).ownBlock ∧ some k_ ≠ (v366 : Value).ownBlock ∧ some k_ ≠ (.slice Ao28 t345.length co28 : Value).ownBlock ∧ some k_ ≠ (v349 : Value).ownBlock) v360 t359) := ⟨h1_⟩; have n2 : Aside0 (Kd.R (Kd.int .i64) 3 w65 w.heap.size (fun k_ => some k_ ≠ (v357 : Value).ownBlock ∧ some k_ ≠ (v360 : Value).ownBlock ∧ some k_ ≠ (v366 : Value).ownBlock ∧ some k_ ≠ (.slice Ao28 t345.length co28 : Value).ownBlock ∧ some k_ ≠ (v349 : Value).ownBlock) v363 y362) := ⟨h2_⟩; have n3 : Aside0 (Kd.R (Kd.int .i64) 3 w65 w.heap.size (fun k_ => some k_ ≠ (v357 : Value).ownBlock ∧ some k_ ≠ (v360 : Value).ownBlock ∧ some k_ ≠ (v363 : Value).ownBlock ∧ some k_ ≠ (.slice Ao28 t345.length co28 : Value).ownBlock ∧ some k_ ≠ (v349 : Value).ownBlock) v366 y365) := ⟨h3_⟩; have n4 : Aside0 (Kd.R (Kd.int .i64) 3 w65 w.heap.size (fun k_ => some k_ ≠ (v357 : Value).ownBlock ∧ some k_ ≠ (v360 : Value).ownBlock ∧ some k_ ≠ (v363 : Value).ownBlock ∧ some k_ ≠ (v366 : Value).ownBlock ∧ some k_ ≠ (v349 : Value).ownBlock) (.slice Ao28 t345.length co28) t345) := ⟨h4_⟩; have n5 : Aside0 (Kd.R (Kd.int .i64) 3 w65 w.heap.size (fun k_ => some k_ ≠ (v357 : Value).ownBlock ∧ some k_ ≠ (v360 : Value).ownBlock ∧ some k_ ≠ (v363 : Value).ownBlock ∧ some k_ ≠ (v366 : Value).ownBlock ∧ some k_ ≠ (.slice Ao28 t345.length co28 : Value).ownBlock) v349 x7_2) := ⟨h5_⟩; have n6 : Aside0 (w65.heap[gb342]? = some (.cells #[.slice A0_0 l0_0.length c0_0, .slice A0_1 l0_1.length c0_1] 29 (0, 0))) := ⟨h6_⟩; have n7 : Aside0 (w65.heap[gb343]? = some (.cells #[.slice none 0 0, .slice none 0 0] 29 (0, 0))) := ⟨h7_⟩; have n8 : Aside0 (Below w.heap.size w w65) := ⟨h8_⟩; clear HO_6 HO_7 HO358 HO361 BK342 BK343 HB h0_ h1_ h2_ h3_ h4_ h5_ h6_ h7_ h8_; have HO358 := n0; have HO361 := n1; have HO364 := n2; have HO367 := n3; have HO_6 := n4; have HO_7 := n5; have BK342 := n6; have BK343 := n7; have HB := n8; clear n0 n1 n2 n3 n4 n5 n6 n7 n8; have hHeld := trivial; obtain ⟨Ao66, co66, eo66⟩ := Kd.R_slice HO367.out; (first | subst eo66 | (injection eo66 with f1_ f2_ f3_; have f4_ := f1_.symm; have f5_ := f3_.symm; clear f1_ f2_ f3_; subst f4_; subst f5_)); obtain ⟨Ao67, co67, eo67⟩ := Kd.R_slice HO364.out; (first | subst eo67 | (injection eo67 with f1_ f2_ f3_; have f4_ := f1_.symm; have f5_ := f3_.symm; clear f1_ f2_ f3_; subst f4_; subst f5_))
             refine norm_ (a' := ?_) ?_ ?_
             rotate_left
             ·
              simp only [putAll, Act.put, List.setIfInBounds_toArray, List.set_cons_zero, List.set_cons_succ]
              rfl
             refine one_ (i := 5) (N := some 13) #[true, true, true, true, true, true, false] rfl rfl (by kernel_rfl) (by decide) (fun K hK => ?_)
             refine box_step ?hg (N := 13) ?hd (cs := #[.slice none 0 0, .slice none 0 0]) (t := 29) ?hr ?_; (case hd => rfl); (case hg => rfl); (case hr => first | (go_simp; done) | (go_simp; rfl))
             intro gb368 hg w68 hbox hb
             have n0 := Az (Kd.R_below (rU HO_6.out) hb); have n1 := Az (Kd.R_below (rU HO_7.out) hb); have n2 := Az (Kd.R_below (rU HO358.out) hb); have n3 := Az (Kd.R_below (rU HO361.out) hb); have n4 := Az (Kd.R_below (rU HO364.out) hb); have n5 := Az (Kd.R_below (rU HO367.out) hb); have n6 := Az (blk_below (g := gb342) (o := .cells #[.slice A0_0 l0_0.length c0_0, .slice A0_1 l0_1.length c0_1] 29 (0, 0)) (kU BK342.out) hb); have n7 := Az (blk_below (g := gb343) (o := .cells #[.slice none 0 0, .slice none 0 0] 29 (0, 0)) (kU BK343.out) hb); have n8 := Az (below_step (bU2 HB.out GE342.out GE343.out) hb); have n9 := Az (hbox); have n10 := Az ((by rw [hg]; exact (below_size (bU2 HB.out GE342.out GE343.out)) : w.heap.size ≤ gb368)); have n11 := Az ((by rw [hg]; exact (below_size (bU2 HB.out GE342.out GE343.out)) : w.heap.size ≤ gb368)); have n12 := Az ((by rw [hg]; exact Nat.ne_of_lt (blk_lt (g := gb342) (o := .cells #[.slice A0_0 l0_0.length c0_0, .slice A0_1 l0_1.length c0_1] 29 (0, 0)) (kU BK342.out)) : gb342 ≠ gb368)); have n13 := Az ((by rw [hg]; exact Nat.ne_of_gt (blk_lt (g := gb342) (o := .cells #[.slice A0_0 l0_0.length c0_0, .slice A0_1 l0_1.length c0_1] 29 (0, 0)) (kU BK342.out)) : gb368 ≠ gb342)); have n14 := Az ((by rw [hg]; exact Nat.ne_of_lt (blk_lt (g := gb343) (o := .cells #[.slice none 0 0, .slice none 0 0] 29 (0, 0)) (kU BK343.out)) : gb343 ≠ gb368)); have n15 := Az ((by rw [hg]; exact Nat.ne_of_gt (blk_lt (g := gb343) (o := .cells #[.slice none 0 0, .slice none 0 0] 29 (0, 0)) (kU BK343.out)) : gb368 ≠ gb343)); clear HO_6 HO_7 HO358 HO361 HO364 HO367 BK342 BK343 HB; have HO_6 := n0; have HO_7 := n1; have HO358 := n2; have HO361 := n3; have HO364 := n4; have HO367 := n5; have BK342 := n6; have BK343 := n7; have HB := n8; have BK368 := n9; have GW368 := n10; have GE368 := n11; have NB342_368 := n12; have NB368_342 := n13; have NB343_368 := n14; have NB368_343 := n15; clear n0 n1 n2 n3 n4 n5 n6 n7 n8 n9 n10 n11 n12 n13 n14 n15 hb hbox hg
             refine hK.out _ _ trivial (fun hHeld => ?_)
             clear hK K
             refine norm_ (a' := ?_) ?_ ?_
             rotate_left
             ·
              show Act.put _ (some 13) _ = _
              simp only [Act.put, List.setIfInBounds_toArray, List.set_cons_zero, List.set_cons_succ, i64_w, i32_w]
              rfl
             exact norm_ (by first | (simp only [putAll, Act.put, List.setIfInBounds_toArray, List.set_cons_zero, List.set_cons_succ]; done) | (simp only [putAll, Act.put, List.setIfInBounds_toArray, List.set_cons_zero, List.set_cons_succ]; rfl)) (hJ1_3_5 (.slice Ao67 y362.length co67, .slice Ao66 y365.length co66, gb368) _ ⟨(rU HO358.out), (rU HO361.out), (rU HO364.out), (rU HO367.out), (rU HO_6.out), (rU HO_7.out), (kU BK342.out), (kU BK343.out), (kU BK368.out), GW368.out, GE368.out, NB342_368.out, NB368_342.out, NB343_368.out, NB368_343.out, (bU3 HB.out GE342.out GE343.out GE368.out)⟩)
           rintro ⟨v363, v366, gb368⟩ w66 ⟨h0_, h1_, h2_, h3_, h4_, h5_, h6_, h7_, h8_, h9_, h10_, h11_, h12_, h13_, h14_, h15_⟩
           have n0 : Aside0 (Kd.R (Kd.int .i64) 3 w66 w.heap.size (fun k_ => some k_ ≠ (v360 : Value).ownBlock ∧ some k_ ≠ (v363 : Value).ownBlock ∧ some k_ ≠ (v366 : Value).ownBlock ∧ some k_ ≠ (.slice Ao28 t345.length co28 : Value).ownBlock ∧ some k_ ≠ (v349 : Value).ownBlock) v357 t356) := ⟨h0_⟩; have n1 : Aside0 (Kd.R (Kd.int .i64) 3 w66 w.heap.size (fun k_ => some k_ ≠ (v357 : Value).ownBlock ∧ some k_ ≠ (v363 : Value).ownBlock ∧ some k_ ≠ (v366 : Value).ownBlock ∧ some k_ ≠ (.slice Ao28 t345.length co28 : Value).ownBlock ∧ some k_ ≠ (v349 : Value).ownBlock) v360 t359) := ⟨h1_⟩; have n2 : Aside0 (Kd.R (Kd.int .i64) 3 w66 w.heap.size (fun k_ => some k_ ≠ (v357 : Value).ownBlock ∧ some k_ ≠ (v360 : Value).ownBlock ∧ some k_ ≠ (v366 : Value).ownBlock ∧ some k_ ≠ (.slice Ao28 t345.length co28 : Value).ownBlock ∧ some k_ ≠ (v349 : Value).ownBlock) v363 y362) := ⟨h2_⟩; have n3 : Aside0 (Kd.R (Kd.int .i64) 3 w66 w.heap.size (fun k_ => some k_ ≠ (v357 : Value).ownBlock ∧ some k_ ≠ (v360 : Value).ownBlock ∧ some k_ ≠ (v363 : Value).ownBlock ∧ some k_ ≠ (.slice Ao28 t345.length co28 : Value).ownBlock ∧ some k_ ≠ (v349 : Value).ownBlock) v366 y365) := ⟨h3_⟩; have n4 : Aside0 (Kd.R (Kd.int .i64) 3 w66 w.heap.size (fun k_ => some k_ ≠ (v357 : Value).ownBlock ∧ some k_ ≠ (v360 : Value).ownBlock ∧ some k_ ≠ (v363 : Value).ownBlock ∧ some k_ ≠ (v366 : Value).ownBlock ∧ some k_ ≠ (v349 : Value).ownBlock) (.slice Ao28 t345.length co28) t345) := ⟨h4_⟩; have n5 : Aside0 (Kd.R (Kd.int .i64) 3 w66 w.heap.size (fun k_ => some k_ ≠ (v357 : Value).ownBlock ∧ some k_ ≠ (v360 : Value).ownBlock ∧ some k_ ≠ (v363 : Value).ownBlock ∧ some k_ ≠ (v366 : Value).ownBlock ∧ some k_ ≠ (.slice Ao28 t345.length co28 : Value).ownBlock) v349 x7_2) := ⟨h5_⟩; have n6 : Aside0 (w66.heap[gb342]? = some (.cells #[.slice A0_0 l0_0.length c0_0, .slice A0_1 l0_1.length c0_1] 29 (0, 0))) := ⟨h6_⟩; have n7 : Aside0 (w66.heap[gb343]? = some (.cells #[.slice none 0 0, .slice none 0 0] 29 (0, 0))) := ⟨h7_⟩; have n8 : Aside0 (w66.heap[gb368]? = some (.cells #[.slice none 0 0, .slice none 0 0] 29 (0, 0))) := ⟨h8_⟩; have n9 : Aside0 (w.heap.size ≤ gb368) := ⟨h9_⟩; have n10 : Aside0 (w.heap.size ≤ gb368) := ⟨h10_⟩; have n11 : Aside0 (gb342 ≠ gb368) := ⟨h11_⟩; have n12 : Aside0 (gb368 ≠ gb342) := ⟨h12_⟩; have n13 : Aside0 (gb343 ≠ gb368) := ⟨h13_⟩; have n14 : Aside0 (gb368 ≠ gb343) := ⟨h14_⟩; have n15 : Aside0 (Below w.heap.size w w66) := ⟨h15_⟩; clear HO_6 HO_7 HO358 HO361 BK342 BK343 HB h0_ h1_ h2_ h3_ h4_ h5_ h6_ h7_ h8_ h9_ h10_ h11_ h12_ h13_ h14_ h15_; have HO358 := n0; have HO361 := n1; have HO364 := n2; have HO367 := n3; have HO_6 := n4; have HO_7 := n5; have BK342 := n6; have BK343 := n7; have BK368 := n8; have GW368 := n9; have GE368 := n10; have NB342_368 := n11; have NB368_342 := n12; have NB343_368 := n13; have NB368_343 := n14; have HB := n15; clear n0 n1 n2 n3 n4 n5 n6 n7 n8 n9 n10 n11 n12 n13 n14 n15; have hHeld := trivial; obtain ⟨Ao67, co67, eo67⟩ := Kd.R_slice HO367.out; (first | subst eo67 | (injection eo67 with f1_ f2_ f3_; have f4_ := f1_.symm; have f5_ := f3_.symm; clear f1_ f2_ f3_; subst f4_; subst f5_)); obtain ⟨Ao68, co68, eo68⟩ := Kd.R_slice HO364.out; (first | subst eo68 | (injection eo68 with f1_ f2_ f3_; have f4_ := f1_.symm; have f5_ := f3_.symm; clear f1_ f2_ f3_; subst f4_; subst f5_))
           refine norm_ (a' := ?_) ?_ ?_
           rotate_left
           ·
            simp only [putAll, Act.put, List.setIfInBounds_toArray, List.set_cons_zero, List.set_cons_succ]
            rfl
           refine one_ (i := 6) (N := none) #[true, true, true, true, true, true, true] rfl rfl (by kernel_rfl) (by decide) (fun K hK => ?_)
           have hs69 : w66.cell? ⟨gb368, 0, none⟩ = some (.slice none 0 0) := (blk_cell BK368.out 0).trans rfl; have hfs69 := blk_frozen BK368.out 0; have hns69_0 := NB342_368.out; have hns69_1 := NB343_368.out; have hms69_0 := NB368_342.out; have hms69_1 := NB368_343.out; have hs70 : w66.cell? ⟨gb368, 1, none⟩ = some (.slice none 0 0) := (blk_cell BK368.out 1).trans rfl; have hfs70 := blk_frozen BK368.out 1; have hns70_0 := NB342_368.out; have hns70_1 := NB343_368.out; have hms70_0 := NB368_342.out; have hms70_1 := NB368_343.out
           refine skip_ (w1 := ?_) (by rfl) rfl ?_ ?_
           rotate_left
           ·
            go_simp
            rfl
           refine hK.out _ _ trivial (fun hHeld => ?_)
           clear hK K
           refine done_ (by kernel_rfl) ?_
           try go_wp2
           go_loopg [85] k2 (fun kq v85 w' => ∃ (x7_3 : List Int) (x11_3 : List Int) (x12_3 : List Int) (x83_3 : List Int) (x85_3 : Int) (xZ2_3 : List Int) (xZ3_3 : List Int) (uZ2 : Value) (uZ3 : Value), v85 = .int .i64 x85_3 ∧ Aside0 (impl_TutteMap.l1 kq x7_3 x11_3 x12_3 x83_3 (t345.length : Int) x85_3 l0_0 l0_1 xZ2_3 xZ3_3 = some (r1, r2, r3)) ∧ Aside0 (kq ≤ k2) ∧ Aside0 (Kd.R (Kd.int .i64) 3 w' w.heap.size (fun k_ => some k_ ≠ (v357 : Value).ownBlock ∧ some k_ ≠ (v360 : Value).ownBlock ∧ some k_ ≠ ((.slice Ao28 t345.length co28) : Value).ownBlock ∧ some k_ ≠ (uZ2 : Value).ownBlock ∧ some k_ ≠ (uZ3 : Value).ownBlock) v349 x7_3) ∧ Aside0 (Kd.R (Kd.int .i64) 3 w' w.heap.size (fun k_ => some k_ ≠ (v349 : Value).ownBlock ∧ some k_ ≠ (v360 : Value).ownBlock ∧ some k_ ≠ ((.slice Ao28 t345.length co28) : Value).ownBlock ∧ some k_ ≠ (uZ2 : Value).ownBlock ∧ some k_ ≠ (uZ3 : Value).ownBlock) v357 x11_3) ∧ Aside0 (Kd.R (Kd.int .i64) 3 w' w.heap.size (fun k_ => some k_ ≠ (v349 : Value).ownBlock ∧ some k_ ≠ (v357 : Value).ownBlock ∧ some k_ ≠ ((.slice Ao28 t345.length co28) : Value).ownBlock ∧ some k_ ≠ (uZ2 : Value).ownBlock ∧ some k_ ≠ (uZ3 : Value).ownBlock) v360 x12_3) ∧ Aside0 (Kd.R (Kd.int .i64) 3 w' w.heap.size (fun k_ => some k_ ≠ (v349 : Value).ownBlock ∧ some k_ ≠ (v357 : Value).ownBlock ∧ some k_ ≠ (v360 : Value).ownBlock ∧ some k_ ≠ (uZ2 : Value).ownBlock ∧ some k_ ≠ (uZ3 : Value).ownBlock) (.slice Ao28 t345.length co28) x83_3) ∧ Aside0 (Kd.R (Kd.int .i64) 3 w' w.heap.size (fun k_ => some k_ ≠ (v349 : Value).ownBlock ∧ some k_ ≠ (v357 : Value).ownBlock ∧ some k_ ≠ (v360 : Value).ownBlock ∧ some k_ ≠ ((.slice Ao28 t345.length co28) : Value).ownBlock ∧ some k_ ≠ (uZ3 : Value).ownBlock) uZ2 xZ2_3) ∧ Aside0 (Kd.R (Kd.int .i64) 3 w' w.heap.size (fun k_ => some k_ ≠ (v349 : Value).ownBlock ∧ some k_ ≠ (v357 : Value).ownBlock ∧ some k_ ≠ (v360 : Value).ownBlock ∧ some k_ ≠ ((.slice Ao28 t345.length co28) : Value).ownBlock ∧ some k_ ≠ (uZ2 : Value).ownBlock) uZ3 xZ3_3) ∧ Aside0 (w'.heap[gb342]? = some (.cells #[(.slice A0_0 l0_0.length c0_0), (.slice A0_1 l0_1.length c0_1)] 29 (0, 0))) ∧ Aside0 (w'.heap[gb343]? = some (.cells #[(.slice none 0 0), (.slice none 0 0)] 29 (0, 0))) ∧ Aside0 (w'.heap[gb368]? = some (.cells #[uZ2, uZ3] 29 (0, 0))) ∧ Aside0 (Below w.heap.size w w'))
           case atStart => exact ⟨(x7_2), (t356), (t359), (t345), (0), (y362), (y365), (.slice Ao68 y362.length co68), (.slice Ao67 y365.length co67), rS, H', ⟨Nat.le_refl _⟩, ⟨by (with_reducible repeat (first | apply Kd.R_alloc | apply Kd.R_drewN | apply Kd.R_drew)); exact Kd.R_mono (Kd.R_far (p := ⟨gb368, 1, none⟩) (Kd.R_far (p := ⟨gb368, 0, none⟩) (Kd.R_types HO_7.out BK368.out (by decide)) (fun _ hk => hk.2) (.slice Ao68 y362.length co68)) (fun _ hk => hk.2) (.slice Ao67 y365.length co67)) (fun _ hk => ⟨hk.1.1, ⟨hk.1.2.1, ⟨hk.1.2.2.2.2, ⟨hk.1.2.2.1, hk.1.2.2.2.1⟩⟩⟩⟩)⟩, ⟨by (with_reducible repeat (first | apply Kd.R_alloc | apply Kd.R_drewN | apply Kd.R_drew)); exact Kd.R_mono (Kd.R_far (p := ⟨gb368, 1, none⟩) (Kd.R_far (p := ⟨gb368, 0, none⟩) (Kd.R_types HO358.out BK368.out (by decide)) (fun _ hk => hk.2) (.slice Ao68 y362.length co68)) (fun _ hk => hk.2) (.slice Ao67 y365.length co67)) (fun _ hk => ⟨hk.1.2.2.2.2, ⟨hk.1.1, ⟨hk.1.2.2.2.1, ⟨hk.1.2.1, hk.1.2.2.1⟩⟩⟩⟩)⟩, ⟨by (with_reducible repeat (first | apply Kd.R_alloc | apply Kd.R_drewN | apply Kd.R_drew)); exact Kd.R_mono (Kd.R_far (p := ⟨gb368, 1, none⟩) (Kd.R_far (p := ⟨gb368, 0, none⟩) (Kd.R_types HO361.out BK368.out (by decide)) (fun _ hk => hk.2) (.slice Ao68 y362.length co68)) (fun _ hk => hk.2) (.slice Ao67 y365.length co67)) (fun _ hk => ⟨hk.1.2.2.2.2, ⟨hk.1.1, ⟨hk.1.2.2.2.1, ⟨hk.1.2.1, hk.1.2.2.1⟩⟩⟩⟩)⟩, ⟨by (with_reducible repeat (first | apply Kd.R_alloc | apply Kd.R_drewN | apply Kd.R_drew)); exact Kd.R_mono (Kd.R_far (p := ⟨gb368, 1, none⟩) (Kd.R_far (p := ⟨gb368, 0, none⟩) (Kd.R_types HO_6.out BK368.out (by decide)) (fun _ hk => hk.2) (.slice Ao68 y362.length co68)) (fun _ hk => hk.2) (.slice Ao67 y365.length co67)) (fun _ hk => ⟨hk.1.2.2.2.2, ⟨hk.1.1, ⟨hk.1.2.1, ⟨hk.1.2.2.1, hk.1.2.2.2.1⟩⟩⟩⟩)⟩, ⟨by (with_reducible repeat (first | apply Kd.R_alloc | apply Kd.R_drewN | apply Kd.R_drew)); exact Kd.R_mono (Kd.R_far (p := ⟨gb368, 1, none⟩) (Kd.R_far (p := ⟨gb368, 0, none⟩) (Kd.R_types HO364.out BK368.out (by decide)) (fun _ hk => hk.2) (.slice Ao68 y362.length co68)) (fun _ hk => hk.2) (.slice Ao67 y365.length co67)) (fun _ hk => ⟨hk.1.2.2.2.2, ⟨hk.1.1, ⟨hk.1.2.1, ⟨hk.1.2.2.2.1, hk.1.2.2.1⟩⟩⟩⟩)⟩, ⟨by (with_reducible repeat (first | apply Kd.R_alloc | apply Kd.R_drewN | apply Kd.R_drew)); exact Kd.R_mono (Kd.R_far (p := ⟨gb368, 1, none⟩) (Kd.R_far (p := ⟨gb368, 0, none⟩) (Kd.R_types HO367.out BK368.out (by decide)) (fun _ hk => hk.2) (.slice Ao68 y362.length co68)) (fun _ hk => hk.2) (.slice Ao67 y365.length co67)) (fun _ hk => ⟨hk.1.2.2.2.2, ⟨hk.1.1, ⟨hk.1.2.1, ⟨hk.1.2.2.2.1, hk.1.2.2.1⟩⟩⟩⟩)⟩, ⟨by (with_reducible repeat (first | refine blk_drewN ?_ _ | refine blk_drew ?_ | refine blk_alloc ?_ _)); refine blk_far ?_ NB342_368.out _; (with_reducible repeat (first | refine blk_drewN ?_ _ | refine blk_drew ?_ | refine blk_alloc ?_ _)); refine blk_far ?_ NB342_368.out _; (with_reducible repeat (first | refine blk_drewN ?_ _ | refine blk_drew ?_ | refine blk_alloc ?_ _)); exact BK342.out⟩, ⟨by (with_reducible repeat (first | refine blk_drewN ?_ _ | refine blk_drew ?_ | refine blk_alloc ?_ _)); refine blk_far ?_ NB343_368.out _; (with_reducible repeat (first | refine blk_drewN ?_ _ | refine blk_drew ?_ | refine blk_alloc ?_ _)); refine blk_far ?_ NB343_368.out _; (with_reducible repeat (first | refine blk_drewN ?_ _ | refine blk_drew ?_ | refine blk_alloc ?_ _)); exact BK343.out⟩, ⟨by (with_reducible repeat (first | refine blk_drewN ?_ _ | refine blk_drew ?_ | refine blk_alloc ?_ _)); refine blk_put (cs := #[.slice Ao68 y362.length co68, .slice none 0 0]) ?_ 1 _ rfl; (with_reducible repeat (first | refine blk_drewN ?_ _ | refine blk_drew ?_ | refine blk_alloc ?_ _)); refine blk_put (cs := #[.slice none 0 0, .slice none 0 0]) ?_ 0 _ rfl; (with_reducible repeat (first | refine blk_drewN ?_ _ | refine blk_drew ?_ | refine blk_alloc ?_ _)); exact BK368.out⟩, ⟨bU3 HB.out GE342.out GE343.out GE368.out⟩⟩
           case round =>
            clear H'; (try clear p2); obtain ⟨x7_3, x11_3, x12_3, x83_3, x85_3, xZ2_3, xZ3_3, uZ2, uZ3, rfl, HA, HK3, HO_7, HO_11, HO_12, HO_83, HO_Z2, HO_Z3, BK342, BK343, BK368, HB⟩ := hrel; have hl83_3 := (Kd.R_reads' HO_83.out).1; rw [hl83_3] at HO_83; (try simp only [hl83_3]); (try simp only [hl83_3] at BK342); (try simp only [hl83_3] at BK343); (try simp only [hl83_3] at BK368); (try simp only [hl83_3] at HO_7); (try simp only [hl83_3] at HO_11); (try simp only [hl83_3] at HO_12); (try simp only [hl83_3] at HO_Z2); (try simp only [hl83_3] at HO_Z3)
            cases gk with
            | zero => exact absurd HA.out (by simp [impl_TutteMap.l1])
            | succ k3 =>
             have H := HA.out; clear HA; simp only [impl_TutteMap.l1] at H
             by_cases c71 : x85_3 < (t345.length : Int)
             ·
              rw [if_pos c71] at H; have c71b0 := decide_eq_true c71; (try (have c71b0hl83_3 := c71b0; rw [hl83_3] at c71b0hl83_3)); clear c71
              by_cases c72 : 0 ≤ x85_3
              ·
               rw [if_pos c72] at H; have c72b0 := decide_eq_true c72; clear c72
               by_cases c73 : x85_3 < (x83_3.length : Int)
               ·
                rw [if_pos c73] at H; have c73b0 := decide_eq_true c73; (try (have c73b0hl83_3 := c73b0; rw [hl83_3] at c73b0hl83_3)); clear c73
                by_cases c74 : (Int.tmod (rd x83_3 x85_3) 2) = 0
                ·
                 rw [if_pos c74] at H; have c74b0 := beq_iff_eq.mpr c74; have c74b1 := bne_eq_false_iff_eq.mpr c74; clear c74
                 by_cases c75 : x85_3 < (x7_3.length : Int)
                 ·
                  rw [if_pos c75] at H; have c75b0 := decide_eq_true c75; (try (have c75b0hl83_3 := c75b0; rw [hl83_3] at c75b0hl83_3)); clear c75
                  by_cases c76 : x85_3 < (l0_0.length : Int)
                  ·
                   rw [if_pos c76] at H; have c76b0 := decide_eq_true c76; (try (have c76b0hl83_3 := c76b0; rw [hl83_3] at c76b0hl83_3)); clear c76
                   by_cases c77 : 0 ≤ (rd l0_0 x85_3)
                   ·
                    rw [if_pos c77] at H; have c77b0 := decide_eq_true c77; clear c77
                    by_cases c78 : (rd l0_0 x85_3) < (x7_3.length : Int)
                    ·
                     rw [if_pos c78] at H; have c78b0 := decide_eq_true c78; (try (have c78b0hl83_3 := c78b0; rw [hl83_3] at c78b0hl83_3)); clear c78
                     by_cases c79 : 0 ≤ (rd x7_3 x85_3)
                     ·
                      rw [if_pos c79] at H; have c79b0 := decide_eq_true c79; clear c79
                      by_cases c80 : (rd x7_3 x85_3) < (xZ2_3.length : Int)
                      ·
                       rw [if_pos c80] at H; have c80b0 := decide_eq_true c80; (try (have c80b0hl83_3 := c80b0; rw [hl83_3] at c80b0hl83_3)); clear c80; obtain ⟨y373, hy373⟩ : ∃ y_ : List Int, y_ = (xZ2_3.set ((rd x7_3 x85_3) : Int).toNat (rd x7_3 (rd l0_0 x85_3))) := ⟨_, rfl⟩; replace H : (if (rd l0_0 x85_3) < (x11_3.length : Int) then (if 0 ≤ (rd x11_3 (rd l0_0 x85_3)) then (if (rd x11_3 (rd l0_0 x85_3)) < (x11_3.length : Int) then (if 0 ≤ (rd x11_3 (rd x11_3 (rd l0_0 x85_3))) then (if (rd x11_3 (rd x11_3 (rd l0_0 x85_3))) < (x12_3.length : Int) then (if 0 ≤ (rd x12_3 (rd x11_3 (rd x11_3 (rd l0_0 x85_3)))) then (if (rd x12_3 (rd x11_3 (rd x11_3 (rd l0_0 x85_3)))) < (x7_3.length : Int) then (if (rd x7_3 x85_3) < (xZ3_3.length : Int) then (impl_TutteMap.l1 k3 x7_3 x11_3 x12_3 x83_3 (t345.length : Int) (wrap64 (x85_3 + 1)) l0_0 l0_1 y373 (xZ3_3.set ((rd x7_3 x85_3) : Int).toNat (rd x7_3 (rd x12_3 (rd x11_3 (rd x11_3 (rd l0_0 x85_3))))))) else (none)) else (none)) else (none)) else (none)) else (none)) else (none)) else (none)) else (none)) = some (r1, r2, r3) := hR hy373 H; have Ny373 := Az hy373; clear hy373
                       by_cases c82 : (rd l0_0 x85_3) < (x11_3.length : Int)
                       ·
                        rw [if_pos c82] at H; have c82b0 := decide_eq_true c82; (try (have c82b0hl83_3 := c82b0; rw [hl83_3] at c82b0hl83_3)); clear c82
                        by_cases c83 : 0 ≤ (rd x11_3 (rd l0_0 x85_3))
                        ·
                         rw [if_pos c83] at H; have c83b0 := decide_eq_true c83; clear c83
                         by_cases c84 : (rd x11_3 (rd l0_0 x85_3)) < (x11_3.length : Int)
                         ·
                          rw [if_pos c84] at H; have c84b0 := decide_eq_true c84; (try (have c84b0hl83_3 := c84b0; rw [hl83_3] at c84b0hl83_3)); clear c84
                          by_cases c85 : 0 ≤ (rd x11_3 (rd x11_3 (rd l0_0 x85_3)))
                          ·
                           rw [if_pos c85] at H; have c85b0 := decide_eq_true c85; clear c85
                           by_cases c86 : (rd x11_3 (rd x11_3 (rd l0_0 x85_3))) < (x12_3.length : Int)
                           ·
                            rw [if_pos c86] at H; have c86b0 := decide_eq_true c86; (try (have c86b0hl83_3 := c86b0; rw [hl83_3] at c86b0hl83_3)); clear c86
                            by_cases c87 : 0 ≤ (rd x12_3 (rd x11_3 (rd x11_3 (rd l0_0 x85_3))))
                            ·
                             rw [if_pos c87] at H; have c87b0 := decide_eq_true c87; clear c87
                             by_cases c88 : (rd x12_3 (rd x11_3 (rd x11_3 (rd l0_0 x85_3)))) < (x7_3.length : Int)
                             ·
                              rw [if_pos c88] at H; have c88b0 := decide_eq_true c88; (try (have c88b0hl83_3 := c88b0; rw [hl83_3] at c88b0hl83_3)); clear c88
                              by_cases c89 : (rd x7_3 x85_3) < (xZ3_3.length : Int)
                              ·
                               rw [if_pos c89] at H; have c89b0 := decide_eq_true c89; (try (have c89b0hl83_3 := c89b0; rw [hl83_3] at c89b0hl83_3)); clear c89; obtain ⟨y380, hy380⟩ : ∃ y_ : List Int, y_ = (xZ3_3.set ((rd x7_3 x85_3) : Int).toNat (rd x7_3 (rd x12_3 (rd x11_3 (rd x11_3 (rd l0_0 x85_3)))))) := ⟨_, rfl⟩; replace H : (impl_TutteMap.l1 k3 x7_3 x11_3 x12_3 x83_3 (t345.length : Int) (wrap64 (x85_3 + 1)) l0_0 l0_1 y373 y380) = some (r1, r2, r3) := hR hy380 H; have Ny380 := Az hy380; clear hy380; have H' := Az H; clear H; have p369 : 0 ≤ (x85_3 : Int) := oA; have q369 : x85_3 < (x83_3.length : Int) := oA; obtain ⟨ad369, e369, hx369_0⟩ := Kd.at_int (Kd.R_reads' HO_83.out).2.2 x85_3 p369 q369
                               cases e369
                               replace p369 := eq_true p369; replace q369 := eq_true q369
                               try go_wp2
                               have n0 := Az (Kd.R_drew HO_7.out); have n1 := Az (Kd.R_drew HO_11.out); have n2 := Az (Kd.R_drew HO_12.out); have n3 := Az (Kd.R_drew HO_83.out); have n4 := Az (Kd.R_drew HO_Z2.out); have n5 := Az (Kd.R_drew HO_Z3.out); have n6 := Az (blk_drew BK342.out); have n7 := Az (blk_drew BK343.out); have n8 := Az (blk_drew BK368.out); have n9 := Az (below_drew1 HB.out); clear HO_7 HO_11 HO_12 HO_83 HO_Z2 HO_Z3 BK342 BK343 BK368 HB; have HO_7 := n0; have HO_11 := n1; have HO_12 := n2; have HO_83 := n3; have HO_Z2 := n4; have HO_Z3 := n5; have BK342 := n6; have BK343 := n7; have BK368 := n8; have HB := n9; clear n0 n1 n2 n3 n4 n5 n6 n7 n8 n9; obtain ⟨Ao92, co92, eo92⟩ := Kd.R_slice HO_7.out; (first | subst eo92 | (injection eo92 with f1_ f2_ f3_; have f4_ := f1_.symm; have f5_ := f3_.symm; clear f1_ f2_ f3_; subst f4_; subst f5_)); have p370 : 0 ≤ (x85_3 : Int) := oA; have q370 : x85_3 < (x7_3.length : Int) := oA; obtain ⟨ad370, e370, hx370_0⟩ := Kd.at_int (Kd.R_reads' HO_7.out).2.2 x85_3 p370 q370
                               cases e370
                               replace p370 := eq_true p370; replace q370 := eq_true q370; have p371 : 0 ≤ (x85_3 : Int) := oA; have q371 : x85_3 < (l0_0.length : Int) := oA; obtain ⟨ad371, e371, hx371_0⟩ := Kd.at_int HR0_0.out x85_3 p371 q371; have hw371_0 := hx371_0
                               cases e371
                               (try replace hx371_0 := (HB.out.cell (World.block_lt_of_cell? w _ hx371_0)).trans hx371_0); replace p371 := eq_true p371; replace q371 := eq_true q371; have p372 : 0 ≤ ((rd l0_0 x85_3) : Int) := oA; have q372 : (rd l0_0 x85_3) < (x7_3.length : Int) := oA; obtain ⟨ad372, e372, hx372_0⟩ := Kd.at_int (Kd.R_reads' HO_7.out).2.2 (rd l0_0 x85_3) p372 q372; obtain rfl : ad370 = ad372 := (by injection e372); replace p372 := eq_true p372; replace q372 := eq_true q372; have p81 : 0 ≤ ((rd x7_3 x85_3) : Int) := oA; have q81 : ((rd x7_3 x85_3) : Int) < ((xZ2_3.length : Int) : Int) := oA; obtain ⟨go81, co81, eo81, gb81, gl81, cl81, HG81⟩ := Kd.R_form HO_Z2.out (by omega); (first | cases eo81 | (injection eo81 with ea_ en_ ec_; (first | subst ea_ | (injection ea_ with ea_; subst ea_)); subst ec_; clear en_)); have GB81 := Az gb81; have GG81 := Az HG81; clear gb81 gl81 HG81; obtain ⟨hx81_0, hf81_0⟩ := Kd.R_celln 0 HO_Z2.out ((rd x7_3 x85_3) : Int) p81 q81; replace p81 := eq_true p81; replace q81 := eq_true q81; have HP93 := Kd.R_putn HO_Z2.out ((rd x7_3 x85_3) : Int) (rd x7_3 (rd l0_0 x85_3)); rw [← Ny373.out] at HP93; have HQ93 := Az HP93; clear HP93
                               refine start_ (n := 16) (S := fun w' => w'.cell? ⟨gb368, 0, none⟩ = some (.slice (some ⟨go81, 0, none⟩) xZ2_3.length co81) ∧ w'.cell? ⟨gb368, 1, none⟩ = some (uZ3) ∧ w'.cell? ⟨gb342, 0, none⟩ = some (.slice (some ad371) l0_0.length c0_0) ∧ w'.cell? ⟨gb342, 1, none⟩ = some (.slice A0_1 l0_1.length c0_1) ∧ w'.cell? (ad370.add (x85_3).toNat) = some (.int .i64 (rd x7_3 x85_3)) ∧ w'.cell? (ad371.add (x85_3).toNat) = some (.int .i64 (rd l0_0 x85_3)) ∧ w'.cell? (ad370.add ((rd l0_0 x85_3)).toNat) = some (.int .i64 (rd x7_3 (rd l0_0 x85_3)))) (ds := [15]) (impl_TutteMap_up [(0, some 93), (2, some 95), (3, some 96), (4, some 97), (6, some 99), (7, some 100), (9, some 102), (1, some 94), (5, some 98), (8, some 101), (10, some 103), (11, some 104), (12, some 105), (13, some 106), (14, some 107), (15, none)] 16) (by kernel_rfl) rfl rfl ⟨(blk_cell BK368.out 0).trans rfl, (blk_cell BK368.out 1).trans rfl, (blk_cell BK342.out 0).trans rfl, (blk_cell BK342.out 1).trans rfl, hx370_0, (by first | exact hw371_0 | exact (HB.out.cell (World.block_lt_of_cell? w _ hw371_0)).trans hw371_0), hx372_0⟩ (fun hHeld => ?_); refine with_tabW impl_TutteMap.tab20 impl_TutteMap.bits20 (fun HT_ HW_ => ?_)
                               generalize wr.drew = w91 at HO_7 HO_11 HO_12 HO_83 HO_Z2 HO_Z3 BK342 BK343 BK368 HB GG81 HQ93 hf81_0 hx370_0 hx371_0 hx372_0 hx81_0 hHeld ⊢
                               repeat (first | (refine impl_TutteMap_uP rfl rfl (any_of HT_.out (by kernel_rfl)) (fun _ _ _ h => h) (by rfl) (v := ?_) (a' := ?_) ?_ ?_ ?_; rotate_left; (· intro w'; go_simp; with_reducible rfl); rotate_left; (· simp only [Act.put, List.setIfInBounds_toArray, List.set_cons_zero, List.set_cons_succ, i64_w, i32_w]; rfl)) | (refine impl_TutteMap_uT rfl rfl (take_ofW HT_.out HW_.out (by kernel_rfl)) (fun _ _ _ h => h) (by rfl) (v := ?_) (a' := ?_) ?_ hHeld ?_ ?_; rotate_left; (· rintro w' ⟨s0, s1, s2, s3, s4, s5, s6⟩; go_simp; with_reducible rfl); rotate_left; (· simp only [Act.put, List.setIfInBounds_toArray, List.set_cons_zero, List.set_cons_succ, i64_w, i32_w]; rfl)))
                               refine impl_TutteMap_uL rfl rfl (one_of HT_.out (by kernel_rfl)) (by decide) (fun K hK => ?_)
                               refine skip_ (w1 := ?_) (by rfl) rfl ?_ ?_
                               rotate_left
                               ·
                                go_simp
                                rfl
                               refine hK.out _ _ ?_
                               clear hK K
                               refine done_ (done_of HT_.out (by kernel_rfl)) ?_
                               try go_wp2
                               have n0 : Aside0 (Kd.R (Kd.int .i64) 3 (w91.setCell ⟨go81, ((rd x7_3 x85_3) : Int).toNat, none⟩ (.int .i64 (rd x7_3 (rd l0_0 x85_3)))) w.heap.size (fun k_ => some k_ ≠ (v357 : Value).ownBlock ∧ some k_ ≠ (v360 : Value).ownBlock ∧ some k_ ≠ (.slice (some ad369) x83_3.length co28 : Value).ownBlock ∧ some k_ ≠ (.slice (some ⟨go81, 0, none⟩) xZ2_3.length co81 : Value).ownBlock ∧ some k_ ≠ (uZ3 : Value).ownBlock) (.slice (some ad370) x7_3.length co92) x7_3) := ⟨by (with_reducible repeat (first | apply Kd.R_alloc | apply Kd.R_drewN | apply Kd.R_drew)); exact Kd.R_mono (Kd.R_far (p := ⟨go81, ((rd x7_3 x85_3) : Int).toNat, none⟩) (Kd.R_mono HO_7.out (fun k_ hk => (⟨hk, fun e_ => hk.2.2.2.1 (by rw [e_]; rfl)⟩ : _ ∧ k_ ≠ go81))) (fun _ hk => hk.2) (.int .i64 (rd x7_3 (rd l0_0 x85_3)))) (fun _ hk => ⟨hk.1.1, ⟨hk.1.2.1, ⟨hk.1.2.2.1, ⟨hk.1.2.2.2.1, hk.1.2.2.2.2⟩⟩⟩⟩)⟩; have n1 : Aside0 (Kd.R (Kd.int .i64) 3 (w91.setCell ⟨go81, ((rd x7_3 x85_3) : Int).toNat, none⟩ (.int .i64 (rd x7_3 (rd l0_0 x85_3)))) w.heap.size (fun k_ => some k_ ≠ (.slice (some ad370) x7_3.length co92 : Value).ownBlock ∧ some k_ ≠ (v360 : Value).ownBlock ∧ some k_ ≠ (.slice (some ad369) x83_3.length co28 : Value).ownBlock ∧ some k_ ≠ (.slice (some ⟨go81, 0, none⟩) xZ2_3.length co81 : Value).ownBlock ∧ some k_ ≠ (uZ3 : Value).ownBlock) v357 x11_3) := ⟨by (with_reducible repeat (first | apply Kd.R_alloc | apply Kd.R_drewN | apply Kd.R_drew)); exact Kd.R_mono (Kd.R_far (p := ⟨go81, ((rd x7_3 x85_3) : Int).toNat, none⟩) (Kd.R_mono HO_11.out (fun k_ hk => (⟨hk, fun e_ => hk.2.2.2.1 (by rw [e_]; rfl)⟩ : _ ∧ k_ ≠ go81))) (fun _ hk => hk.2) (.int .i64 (rd x7_3 (rd l0_0 x85_3)))) (fun _ hk => ⟨hk.1.1, ⟨hk.1.2.1, ⟨hk.1.2.2.1, ⟨hk.1.2.2.2.1, hk.1.2.2.2.2⟩⟩⟩⟩)⟩; have n2 : Aside0 (Kd.R (Kd.int .i64) 3 (w91.setCell ⟨go81, ((rd x7_3 x85_3) : Int).toNat, none⟩ (.int .i64 (rd x7_3 (rd l0_0 x85_3)))) w.heap.size (fun k_ => some k_ ≠ (.slice (some ad370) x7_3.length co92 : Value).ownBlock ∧ some k_ ≠ (v357 : Value).ownBlock ∧ some k_ ≠ (.slice (some ad369) x83_3.length co28 : Value).ownBlock ∧ some k_ ≠ (.slice (some ⟨go81, 0, none⟩) xZ2_3.length co81 : Value).ownBlock ∧ some k_ ≠ (uZ3 : Value).ownBlock) v360 x12_3) := ⟨by (with_reducible repeat (first | apply Kd.R_alloc | apply Kd.R_drewN | apply Kd.R_drew)); exact Kd.R_mono (Kd.R_far (p := ⟨go81, ((rd x7_3 x85_3) : Int).toNat, none⟩) (Kd.R_mono HO_12.out (fun k_ hk => (⟨hk, fun e_ => hk.2.2.2.1 (by rw [e_]; rfl)⟩ : _ ∧ k_ ≠ go81))) (fun _ hk => hk.2) (.int .i64 (rd x7_3 (rd l0_0 x85_3)))) (fun _ hk => ⟨hk.1.1, ⟨hk.1.2.1, ⟨hk.1.2.2.1, ⟨hk.1.2.2.2.1, hk.1.2.2.2.2⟩⟩⟩⟩)⟩; have n3 : Aside0 (Kd.R (Kd.int .i64) 3 (w91.setCell ⟨go81, ((rd x7_3 x85_3) : Int).toNat, none⟩ (.int .i64 (rd x7_3 (rd l0_0 x85_3)))) w.heap.size (fun k_ => some k_ ≠ (.slice (some ad370) x7_3.length co92 : Value).ownBlock ∧ some k_ ≠ (v357 : Value).ownBlock ∧ some k_ ≠ (v360 : Value).ownBlock ∧ some k_ ≠ (.slice (some ⟨go81, 0, none⟩) xZ2_3.length co81 : Value).ownBlock ∧ some k_ ≠ (uZ3 : Value).ownBlock) (.slice (some ad369) x83_3.length co28) x83_3) := ⟨by (with_reducible repeat (first | apply Kd.R_alloc | apply Kd.R_drewN | apply Kd.R_drew)); exact Kd.R_mono (Kd.R_far (p := ⟨go81, ((rd x7_3 x85_3) : Int).toNat, none⟩) (Kd.R_mono HO_83.out (fun k_ hk => (⟨hk, fun e_ => hk.2.2.2.1 (by rw [e_]; rfl)⟩ : _ ∧ k_ ≠ go81))) (fun _ hk => hk.2) (.int .i64 (rd x7_3 (rd l0_0 x85_3)))) (fun _ hk => ⟨hk.1.1, ⟨hk.1.2.1, ⟨hk.1.2.2.1, ⟨hk.1.2.2.2.1, hk.1.2.2.2.2⟩⟩⟩⟩)⟩; have n4 : Aside0 (Kd.R (Kd.int .i64) 3 (w91.setCell ⟨go81, ((rd x7_3 x85_3) : Int).toNat, none⟩ (.int .i64 (rd x7_3 (rd l0_0 x85_3)))) w.heap.size (fun k_ => some k_ ≠ (.slice (some ad370) x7_3.length co92 : Value).ownBlock ∧ some k_ ≠ (v357 : Value).ownBlock ∧ some k_ ≠ (v360 : Value).ownBlock ∧ some k_ ≠ (.slice (some ad369) x83_3.length co28 : Value).ownBlock ∧ some k_ ≠ (uZ3 : Value).ownBlock) (.slice (some ⟨go81, 0, none⟩) xZ2_3.length co81) y373) := ⟨rU HQ93.out⟩; have n5 : Aside0 (Kd.R (Kd.int .i64) 3 (w91.setCell ⟨go81, ((rd x7_3 x85_3) : Int).toNat, none⟩ (.int .i64 (rd x7_3 (rd l0_0 x85_3)))) w.heap.size (fun k_ => some k_ ≠ (.slice (some ad370) x7_3.length co92 : Value).ownBlock ∧ some k_ ≠ (v357 : Value).ownBlock ∧ some k_ ≠ (v360 : Value).ownBlock ∧ some k_ ≠ (.slice (some ad369) x83_3.length co28 : Value).ownBlock ∧ some k_ ≠ (.slice (some ⟨go81, 0, none⟩) xZ2_3.length co81 : Value).ownBlock) uZ3 xZ3_3) := ⟨by (with_reducible repeat (first | apply Kd.R_alloc | apply Kd.R_drewN | apply Kd.R_drew)); exact Kd.R_mono (Kd.R_far (p := ⟨go81, ((rd x7_3 x85_3) : Int).toNat, none⟩) (Kd.R_mono HO_Z3.out (fun k_ hk => (⟨hk, fun e_ => hk.2.2.2.2 (by rw [e_]; rfl)⟩ : _ ∧ k_ ≠ go81))) (fun _ hk => hk.2) (.int .i64 (rd x7_3 (rd l0_0 x85_3)))) (fun _ hk => ⟨hk.1.1, ⟨hk.1.2.1, ⟨hk.1.2.2.1, ⟨hk.1.2.2.2.1, hk.1.2.2.2.2⟩⟩⟩⟩)⟩; have n6 : Aside0 ((w91.setCell ⟨go81, ((rd x7_3 x85_3) : Int).toNat, none⟩ (.int .i64 (rd x7_3 (rd l0_0 x85_3)))).heap[gb342]? = some (.cells #[.slice (some ad371) l0_0.length c0_0, .slice A0_1 l0_1.length c0_1] 29 (0, 0))) := ⟨by (with_reducible repeat (first | refine blk_drewN ?_ _ | refine blk_drew ?_ | refine blk_alloc ?_ _)); refine blk_far ?_ (by have h_ := Kd.R_ne HO_Z2.out BK342.out (by decide); intro e_; exact h_ (by rw [e_]; rfl)) _; (with_reducible repeat (first | refine blk_drewN ?_ _ | refine blk_drew ?_ | refine blk_alloc ?_ _)); exact BK342.out⟩; have n7 : Aside0 ((w91.setCell ⟨go81, ((rd x7_3 x85_3) : Int).toNat, none⟩ (.int .i64 (rd x7_3 (rd l0_0 x85_3)))).heap[gb343]? = some (.cells #[.slice none 0 0, .slice none 0 0] 29 (0, 0))) := ⟨by (with_reducible repeat (first | refine blk_drewN ?_ _ | refine blk_drew ?_ | refine blk_alloc ?_ _)); refine blk_far ?_ (by have h_ := Kd.R_ne HO_Z2.out BK343.out (by decide); intro e_; exact h_ (by rw [e_]; rfl)) _; (with_reducible repeat (first | refine blk_drewN ?_ _ | refine blk_drew ?_ | refine blk_alloc ?_ _)); exact BK343.out⟩; have n8 : Aside0 ((w91.setCell ⟨go81, ((rd x7_3 x85_3) : Int).toNat, none⟩ (.int .i64 (rd x7_3 (rd l0_0 x85_3)))).heap[gb368]? = some (.cells #[.slice (some ⟨go81, 0, none⟩) xZ2_3.length co81, uZ3] 29 (0, 0))) := ⟨by (with_reducible repeat (first | refine blk_drewN ?_ _ | refine blk_drew ?_ | refine blk_alloc ?_ _)); refine blk_far ?_ (by have h_ := Kd.R_ne HO_Z2.out BK368.out (by decide); intro e_; exact h_ (by rw [e_]; rfl)) _; (with_reducible repeat (first | refine blk_drewN ?_ _ | refine blk_drew ?_ | refine blk_alloc ?_ _)); exact BK368.out⟩; have n9 : Aside0 (Below w.heap.size w (w91.setCell ⟨go81, ((rd x7_3 x85_3) : Int).toNat, none⟩ (.int .i64 (rd x7_3 (rd l0_0 x85_3))))) := ⟨bU4 HB.out GB81.out GE342.out GE343.out GE368.out⟩; (try clear HO_7); (try clear HO_11); (try clear HO_12); (try clear HO_83); (try clear HO_Z2); (try clear HO_Z3); (try clear BK342); (try clear BK343); (try clear BK368); (try clear HB)
                               generalize (w91.setCell ⟨go81, ((rd x7_3 x85_3) : Int).toNat, none⟩ (.int .i64 (rd x7_3 (rd l0_0 x85_3)))) = w94 at n0 n1 n2 n3 n4 n5 n6 n7 n8 n9 ⊢
                               have HO_7 := n0; have HO_11 := n1; have HO_12 := n2; have HO_83 := n3; have HO_Z2 := n4; have HO_Z3 := n5; have BK342 := n6; have BK343 := n7; have BK368 := n8; have HB := n9; clear n0 n1 n2 n3 n4 n5 n6 n7 n8 n9; have n0 := Az (Kd.R_drew HO_7.out); have n1 := Az (Kd.R_drew HO_11.out); have n2 := Az (Kd.R_drew HO_12.out); have n3 := Az (Kd.R_drew HO_83.out); have n4 := Az (Kd.R_drew HO_Z2.out); have n5 := Az (Kd.R_drew HO_Z3.out); have n6 := Az (blk_drew BK342.out); have n7 := Az (blk_drew BK343.out); have n8 := Az (blk_drew BK368.out); have n9 := Az (below_drew1 HB.out); clear HO_7 HO_11 HO_12 HO_83 HO_Z2 HO_Z3 BK342 BK343 BK368 HB; have HO_7 := n0; have HO_11 := n1; have HO_12 := n2; have HO_83 := n3; have HO_Z2 := n4; have HO_Z3 := n5; have BK342 := n6; have BK343 := n7; have BK368 := n8; have HB := n9; clear n0 n1 n2 n3 n4 n5 n6 n7 n8 n9; have p374 : 0 ≤ (x85_3 : Int) := oA; have q374 : x85_3 < (x7_3.length : Int) := oA; obtain ⟨ad374, e374, hx374_0⟩ := Kd.at_int (Kd.R_reads' HO_7.out).2.2 x85_3 p374 q374; obtain rfl : ad370 = ad374 := (by injection e374); replace p374 := eq_true p374; replace q374 := eq_true q374; have p375 : 0 ≤ (x85_3 : Int) := oA; have q375 : x85_3 < (l0_0.length : Int) := oA; obtain ⟨ad375, e375, hx375_0⟩ := Kd.at_int HR0_0.out x85_3 p375 q375; have hw375_0 := hx375_0; obtain rfl : ad371 = ad375 := (by injection e375); (try replace hx375_0 := (HB.out.cell (World.block_lt_of_cell? w _ hx375_0)).trans hx375_0); replace p375 := eq_true p375; replace q375 := eq_true q375; obtain ⟨Ao96, co96, eo96⟩ := Kd.R_slice HO_11.out; (first | subst eo96 | (injection eo96 with f1_ f2_ f3_; have f4_ := f1_.symm; have f5_ := f3_.symm; clear f1_ f2_ f3_; subst f4_; subst f5_)); have p376 : 0 ≤ ((rd l0_0 x85_3) : Int) := oA; have q376 : (rd l0_0 x85_3) < (x11_3.length : Int) := oA; obtain ⟨ad376, e376, hx376_0⟩ := Kd.at_int (Kd.R_reads' HO_11.out).2.2 (rd l0_0 x85_3) p376 q376
                               cases e376
                               replace p376 := eq_true p376; replace q376 := eq_true q376; have p377 : 0 ≤ ((rd x11_3 (rd l0_0 x85_3)) : Int) := oA; have q377 : (rd x11_3 (rd l0_0 x85_3)) < (x11_3.length : Int) := oA; obtain ⟨ad377, e377, hx377_0⟩ := Kd.at_int (Kd.R_reads' HO_11.out).2.2 (rd x11_3 (rd l0_0 x85_3)) p377 q377; obtain rfl : ad376 = ad377 := (by injection e377); replace p377 := eq_true p377; replace q377 := eq_true q377; obtain ⟨Ao97, co97, eo97⟩ := Kd.R_slice HO_12.out; (first | subst eo97 | (injection eo97 with f1_ f2_ f3_; have f4_ := f1_.symm; have f5_ := f3_.symm; clear f1_ f2_ f3_; subst f4_; subst f5_)); have p378 : 0 ≤ ((rd x11_3 (rd x11_3 (rd l0_0 x85_3))) : Int) := oA; have q378 : (rd x11_3 (rd x11_3 (rd l0_0 x85_3))) < (x12_3.length : Int) := oA; obtain ⟨ad378, e378, hx378_0⟩ := Kd.at_int (Kd.R_reads' HO_12.out).2.2 (rd x11_3 (rd x11_3 (rd l0_0 x85_3))) p378 q378
                               cases e378
                               replace p378 := eq_true p378; replace q378 := eq_true q378; have p379 : 0 ≤ ((rd x12_3 (rd x11_3 (rd x11_3 (rd l0_0 x85_3)))) : Int) := oA; have q379 : (rd x12_3 (rd x11_3 (rd x11_3 (rd l0_0 x85_3)))) < (x7_3.length : Int) := oA; obtain ⟨ad379, e379, hx379_0⟩ := Kd.at_int (Kd.R_reads' HO_7.out).2.2 (rd x12_3 (rd x11_3 (rd x11_3 (rd l0_0 x85_3)))) p379 q379; obtain rfl : ad370 = ad379 := (by injection e379); replace p379 := eq_true p379; replace q379 := eq_true q379; have p90 : 0 ≤ ((rd x7_3 x85_3) : Int) := oA; have q90 : ((rd x7_3 x85_3) : Int) < ((xZ3_3.length : Int) : Int) := oA; obtain ⟨go90, co90, eo90, gb90, gl90, cl90, HG90⟩ := Kd.R_form HO_Z3.out (by omega); (first | cases eo90 | (injection eo90 with ea_ en_ ec_; (first | subst ea_ | (injection ea_ with ea_; subst ea_)); subst ec_; clear en_)); have GB90 := Az gb90; have GG90 := Az HG90; clear gb90 gl90 HG90; obtain ⟨hx90_0, hf90_0⟩ := Kd.R_celln 0 HO_Z3.out ((rd x7_3 x85_3) : Int) p90 q90; replace p90 := eq_true p90; replace q90 := eq_true q90; have HP98 := Kd.R_putn HO_Z3.out ((rd x7_3 x85_3) : Int) (rd x7_3 (rd x12_3 (rd x11_3 (rd x11_3 (rd l0_0 x85_3))))); rw [← Ny380.out] at HP98; have HQ98 := Az HP98; clear HP98
                               refine start_ (n := 25) (S := fun w' => w'.cell? ⟨gb368, 0, none⟩ = some (.slice (some ⟨go81, 0, none⟩) xZ2_3.length co81) ∧ w'.cell? ⟨gb368, 1, none⟩ = some (.slice (some ⟨go90, 0, none⟩) xZ3_3.length co90) ∧ w'.cell? ⟨gb342, 0, none⟩ = some (.slice (some ad371) l0_0.length c0_0) ∧ w'.cell? ⟨gb342, 1, none⟩ = some (.slice A0_1 l0_1.length c0_1) ∧ w'.cell? (ad370.add (x85_3).toNat) = some (.int .i64 (rd x7_3 x85_3)) ∧ w'.cell? (ad371.add (x85_3).toNat) = some (.int .i64 (rd l0_0 x85_3)) ∧ w'.cell? (ad376.add ((rd l0_0 x85_3)).toNat) = some (.int .i64 (rd x11_3 (rd l0_0 x85_3))) ∧ w'.cell? (ad376.add ((rd x11_3 (rd l0_0 x85_3))).toNat) = some (.int .i64 (rd x11_3 (rd x11_3 (rd l0_0 x85_3)))) ∧ w'.cell? (ad378.add ((rd x11_3 (rd x11_3 (rd l0_0 x85_3)))).toNat) = some (.int .i64 (rd x12_3 (rd x11_3 (rd x11_3 (rd l0_0 x85_3))))) ∧ w'.cell? (ad370.add ((rd x12_3 (rd x11_3 (rd x11_3 (rd l0_0 x85_3))))).toNat) = some (.int .i64 (rd x7_3 (rd x12_3 (rd x11_3 (rd x11_3 (rd l0_0 x85_3))))))) (ds := [24]) (impl_TutteMap_up [(0, some 108), (2, some 110), (3, some 111), (4, some 112), (6, some 114), (7, some 115), (8, some 116), (9, some 117), (10, some 118), (12, some 120), (1, some 109), (5, some 113), (11, some 119), (13, some 121), (14, some 122), (15, some 123), (16, some 124), (17, some 125), (18, some 126), (19, some 127), (20, some 128), (21, some 129), (22, some 130), (23, some 131), (24, none)] 25) (by kernel_rfl) rfl rfl ⟨(blk_cell BK368.out 0).trans rfl, (blk_cell BK368.out 1).trans rfl, (blk_cell BK342.out 0).trans rfl, (blk_cell BK342.out 1).trans rfl, hx374_0, (by first | exact hw375_0 | exact (HB.out.cell (World.block_lt_of_cell? w _ hw375_0)).trans hw375_0), hx376_0, hx377_0, hx378_0, hx379_0⟩ (fun hHeld => ?_); refine with_tabW impl_TutteMap.tab21 impl_TutteMap.bits21 (fun HT_ HW_ => ?_)
                               generalize w94.drew = w95 at HO_7 HO_11 HO_12 HO_83 HO_Z2 HO_Z3 BK342 BK343 BK368 HB GG90 HQ93 HQ98 hf90_0 hx374_0 hx375_0 hx376_0 hx377_0 hx378_0 hx379_0 hx90_0 hHeld ⊢
                               repeat (first | (refine impl_TutteMap_uP rfl rfl (any_of HT_.out (by kernel_rfl)) (fun _ _ _ h => h) (by rfl) (v := ?_) (a' := ?_) ?_ ?_ ?_; rotate_left; (· intro w'; go_simp; with_reducible rfl); rotate_left; (· simp only [Act.put, List.setIfInBounds_toArray, List.set_cons_zero, List.set_cons_succ, i64_w, i32_w]; rfl)) | (refine impl_TutteMap_uT rfl rfl (take_ofW HT_.out HW_.out (by kernel_rfl)) (fun _ _ _ h => h) (by rfl) (v := ?_) (a' := ?_) ?_ hHeld ?_ ?_; rotate_left; (· rintro w' ⟨s0, s1, s2, s3, s4, s5, s6, s7, s8, s9⟩; go_simp; with_reducible rfl); rotate_left; (· simp only [Act.put, List.setIfInBounds_toArray, List.set_cons_zero, List.set_cons_succ, i64_w, i32_w]; rfl)))
                               refine impl_TutteMap_uL rfl rfl (one_of HT_.out (by kernel_rfl)) (by decide) (fun K hK => ?_)
                               refine skip_ (w1 := ?_) (by rfl) rfl ?_ ?_
                               rotate_left
                               ·
                                go_simp
                                rfl
                               refine hK.out _ _ ?_
                               clear hK K
                               refine done_ (done_of HT_.out (by kernel_rfl)) ?_
                               try go_wp2
                               (try simp only [← hl83_3]); (first | go_roundg k3 | (refine Handed.intro k3 ?measure ?_; rotate_left; go_step; (try simp only [add_plain]); (repeat apply Exists.intro); refine ⟨?rel, rfl⟩))
                               case measure => have := HJ2.out; have := HK2.out; have := HK3.out; omega
                               case rel => exact ⟨(x7_3), (x11_3), (x12_3), (x83_3), (wrap64 (x85_3 + 1)), (y373), (y380), (.slice (some ⟨go81, 0, none⟩) xZ2_3.length co81), (.slice (some ⟨go90, 0, none⟩) xZ3_3.length co90), rS, H', ⟨by have := HJ2.out; have := HK2.out; have := HK3.out; omega⟩, ⟨by (try simp only [hl83_3]); (with_reducible repeat (first | apply Kd.R_alloc | apply Kd.R_drewN | apply Kd.R_drew)); exact Kd.R_mono (Kd.R_far (p := ⟨go90, ((rd x7_3 x85_3) : Int).toNat, none⟩) (Kd.R_mono HO_7.out (fun k_ hk => (⟨hk, fun e_ => hk.2.2.2.2 (by rw [e_]; rfl)⟩ : _ ∧ k_ ≠ go90))) (fun _ hk => hk.2) (.int .i64 (rd x7_3 (rd x12_3 (rd x11_3 (rd x11_3 (rd l0_0 x85_3))))))) (fun _ hk => ⟨hk.1.1, ⟨hk.1.2.1, ⟨hk.1.2.2.1, ⟨hk.1.2.2.2.1, hk.1.2.2.2.2⟩⟩⟩⟩)⟩, ⟨by (try simp only [hl83_3]); (with_reducible repeat (first | apply Kd.R_alloc | apply Kd.R_drewN | apply Kd.R_drew)); exact Kd.R_mono (Kd.R_far (p := ⟨go90, ((rd x7_3 x85_3) : Int).toNat, none⟩) (Kd.R_mono HO_11.out (fun k_ hk => (⟨hk, fun e_ => hk.2.2.2.2 (by rw [e_]; rfl)⟩ : _ ∧ k_ ≠ go90))) (fun _ hk => hk.2) (.int .i64 (rd x7_3 (rd x12_3 (rd x11_3 (rd x11_3 (rd l0_0 x85_3))))))) (fun _ hk => ⟨hk.1.1, ⟨hk.1.2.1, ⟨hk.1.2.2.1, ⟨hk.1.2.2.2.1, hk.1.2.2.2.2⟩⟩⟩⟩)⟩, ⟨by (try simp only [hl83_3]); (with_reducible repeat (first | apply Kd.R_alloc | apply Kd.R_drewN | apply Kd.R_drew)); exact Kd.R_mono (Kd.R_far (p := ⟨go90, ((rd x7_3 x85_3) : Int).toNat, none⟩) (Kd.R_mono HO_12.out (fun k_ hk => (⟨hk, fun e_ => hk.2.2.2.2 (by rw [e_]; rfl)⟩ : _ ∧ k_ ≠ go90))) (fun _ hk => hk.2) (.int .i64 (rd x7_3 (rd x12_3 (rd x11_3 (rd x11_3 (rd l0_0 x85_3))))))) (fun _ hk => ⟨hk.1.1, ⟨hk.1.2.1, ⟨hk.1.2.2.1, ⟨hk.1.2.2.2.1, hk.1.2.2.2.2⟩⟩⟩⟩)⟩, ⟨by (try simp only [hl83_3]); (with_reducible repeat (first | apply Kd.R_alloc | apply Kd.R_drewN | apply Kd.R_drew)); exact Kd.R_mono (Kd.R_far (p := ⟨go90, ((rd x7_3 x85_3) : Int).toNat, none⟩) (Kd.R_mono HO_83.out (fun k_ hk => (⟨hk, fun e_ => hk.2.2.2.2 (by rw [e_]; rfl)⟩ : _ ∧ k_ ≠ go90))) (fun _ hk => hk.2) (.int .i64 (rd x7_3 (rd x12_3 (rd x11_3 (rd x11_3 (rd l0_0 x85_3))))))) (fun _ hk => ⟨hk.1.1, ⟨hk.1.2.1, ⟨hk.1.2.2.1, ⟨hk.1.2.2.2.1, hk.1.2.2.2.2⟩⟩⟩⟩)⟩, ⟨by (try simp only [hl83_3]); (with_reducible repeat (first | apply Kd.R_alloc | apply Kd.R_drewN | apply Kd.R_drew)); exact Kd.R_mono (Kd.R_far (p := ⟨go90, ((rd x7_3 x85_3) : Int).toNat, none⟩) (Kd.R_mono HO_Z2.out (fun k_ hk => (⟨hk, fun e_ => hk.2.2.2.2 (by rw [e_]; rfl)⟩ : _ ∧ k_ ≠ go90))) (fun _ hk => hk.2) (.int .i64 (rd x7_3 (rd x12_3 (rd x11_3 (rd x11_3 (rd l0_0 x85_3))))))) (fun _ hk => ⟨hk.1.1, ⟨hk.1.2.1, ⟨hk.1.2.2.1, ⟨hk.1.2.2.2.1, hk.1.2.2.2.2⟩⟩⟩⟩)⟩, ⟨by (try simp only [hl83_3]); (with_reducible repeat (first | apply Kd.R_alloc | apply Kd.R_drewN | apply Kd.R_drew)); exact HQ98.out⟩, ⟨by (try simp only [hl83_3]); (with_reducible repeat (first | refine blk_drewN ?_ _ | refine blk_drew ?_ | refine blk_alloc ?_ _)); refine blk_far ?_ (by have h_ := Kd.R_ne HO_Z3.out BK342.out (by decide); intro e_; exact h_ (by rw [e_]; rfl)) _; (with_reducible repeat (first | refine blk_drewN ?_ _ | refine blk_drew ?_ | refine blk_alloc ?_ _)); exact BK342.out⟩, ⟨by (try simp only [hl83_3]); (with_reducible repeat (first | refine blk_drewN ?_ _ | refine blk_drew ?_ | refine blk_alloc ?_ _)); refine blk_far ?_ (by have h_ := Kd.R_ne HO_Z3.out BK343.out (by decide); intro e_; exact h_ (by rw [e_]; rfl)) _; (with_reducible repeat (first | refine blk_drewN ?_ _ | refine blk_drew ?_ | refine blk_alloc ?_ _)); exact BK343.out⟩, ⟨by (try simp only [hl83_3]); (with_reducible repeat (first | refine blk_drewN ?_ _ | refine blk_drew ?_ | refine blk_alloc ?_ _)); refine blk_far ?_ (by have h_ := Kd.R_ne HO_Z3.out BK368.out (by decide); intro e_; exact h_ (by rw [e_]; rfl)) _; (with_reducible repeat (first | refine blk_drewN ?_ _ | refine blk_drew ?_ | refine blk_alloc ?_ _)); exact BK368.out⟩, ⟨bU4 HB.out GB90.out GE342.out GE343.out GE368.out⟩⟩
                              ·
                               rw [if_neg c89] at H
                               exact absurd H (by simp)
                             ·
                              rw [if_neg c88] at H
                              exact absurd H (by simp)
                            ·
                             rw [if_neg c87] at H
                             exact absurd H (by simp)
                           ·
                            rw [if_neg c86] at H
                            exact absurd H (by simp)
                          ·
                           rw [if_neg c85] at H
                           exact absurd H (by simp)
                         ·
                          rw [if_neg c84] at H
                          exact absurd H (by simp)
                        ·
                         rw [if_neg c83] at H
                         exact absurd H (by simp)
                       ·
                        rw [if_neg c82] at H
                        exact absurd H (by simp)
                      ·
                       rw [if_neg c80] at H
                       exact absurd H (by simp)
                     ·
                      rw [if_neg c79] at H
                      exact absurd H (by simp)
                    ·
                     rw [if_neg c78] at H
                     exact absurd H (by simp)
                   ·
                    rw [if_neg c77] at H
                    exact absurd H (by simp)
                  ·
                   rw [if_neg c76] at H
                   exact absurd H (by simp)
                 ·
                  rw [if_neg c75] at H
                  exact absurd H (by simp)
                ·
                 rw [if_neg c74] at H; have c74b0 := beq_eq_false_iff_ne.mpr c74; have c74b1 := bne_iff_ne.mpr c74; have H' := Az H; clear H; have p369 : 0 ≤ (x85_3 : Int) := oA; have q369 : x85_3 < (x83_3.length : Int) := oA; obtain ⟨ad369, e369, hx369_0⟩ := Kd.at_int (Kd.R_reads' HO_83.out).2.2 x85_3 p369 q369
                 cases e369
                 replace p369 := eq_true p369; replace q369 := eq_true q369
                 go_wp2
                 (try simp only [← hl83_3]); (first | go_roundg k3 | (refine Handed.intro k3 ?measure ?_; rotate_left; go_step; (try simp only [add_plain]); (repeat apply Exists.intro); refine ⟨?rel, rfl⟩))
                 case measure => have := HJ2.out; have := HK2.out; have := HK3.out; omega
                 case rel => exact ⟨(x7_3), (x11_3), (x12_3), (x83_3), (wrap64 (x85_3 + 1)), (xZ2_3), (xZ3_3), (uZ2), (uZ3), rS, H', ⟨by have := HJ2.out; have := HK2.out; have := HK3.out; omega⟩, ⟨by (try simp only [hl83_3]); (with_reducible repeat (first | apply Kd.R_alloc | apply Kd.R_drewN | apply Kd.R_drew)); exact HO_7.out⟩, ⟨by (try simp only [hl83_3]); (with_reducible repeat (first | apply Kd.R_alloc | apply Kd.R_drewN | apply Kd.R_drew)); exact HO_11.out⟩, ⟨by (try simp only [hl83_3]); (with_reducible repeat (first | apply Kd.R_alloc | apply Kd.R_drewN | apply Kd.R_drew)); exact HO_12.out⟩, ⟨by (try simp only [hl83_3]); (with_reducible repeat (first | apply Kd.R_alloc | apply Kd.R_drewN | apply Kd.R_drew)); exact HO_83.out⟩, ⟨by (try simp only [hl83_3]); (with_reducible repeat (first | apply Kd.R_alloc | apply Kd.R_drewN | apply Kd.R_drew)); exact HO_Z2.out⟩, ⟨by (try simp only [hl83_3]); (with_reducible repeat (first | apply Kd.R_alloc | apply Kd.R_drewN | apply Kd.R_drew)); exact HO_Z3.out⟩, ⟨by (try simp only [hl83_3]); (with_reducible repeat (first | refine blk_drewN ?_ _ | refine blk_drew ?_ | refine blk_alloc ?_ _)); exact BK342.out⟩, ⟨by (try simp only [hl83_3]); (with_reducible repeat (first | refine blk_drewN ?_ _ | refine blk_drew ?_ | refine blk_alloc ?_ _)); exact BK343.out⟩, ⟨by (try simp only [hl83_3]); (with_reducible repeat (first | refine blk_drewN ?_ _ | refine blk_drew ?_ | refine blk_alloc ?_ _)); exact BK368.out⟩, ⟨bU3 HB.out GE342.out GE343.out GE368.out⟩⟩
               ·
                rw [if_neg c73] at H
                exact absurd H (by simp)
              ·
               rw [if_neg c72] at H
               exact absurd H (by simp)
             ·
              rw [if_neg c71] at H; have c71b0 := decide_eq_false c71; (try (have c71b0hl83_3 := c71b0; rw [hl83_3] at c71b0hl83_3)); clear c71; simp only [Option.some.injEq, Prod.mk.injEq] at H; obtain ⟨rfl, rfl, rfl⟩ := H; have hnb99 := NB368_342.out; have hnc99 := NB342_368.out; have hnb100 := NB368_343.out; have hnc100 := NB343_368.out; have hcz101_0 : wr.cell? ⟨gb368, 0, none⟩ = some (uZ2) := (blk_cell BK368.out 0).trans rfl; have hcz101_1 : wr.cell? ⟨gb368, 1, none⟩ = some (uZ3) := (blk_cell BK368.out 1).trans rfl; have hfz101_0 := blk_frozen BK368.out 0; have hfz101_1 := blk_frozen BK368.out 1; obtain ⟨Ao102, co102, eo102⟩ := Kd.R_slice HO_Z2.out; subst eo102; have hnb103 := NB343_342.out; have hnc103 := NB342_343.out; have hcz104_0 : wr.cell? ⟨gb343, 0, none⟩ = some (.slice none 0 0) := (blk_cell BK343.out 0).trans rfl; have hcz104_1 : wr.cell? ⟨gb343, 1, none⟩ = some (.slice none 0 0) := (blk_cell BK343.out 1).trans rfl; have hfz104_0 := blk_frozen BK343.out 0; have hfz104_1 := blk_frozen BK343.out 1; obtain ⟨Ao105, co105, eo105⟩ := Kd.R_slice HO_Z3.out; subst eo105
              go_wp2
              refine bodyPost_ret (results_ct rfl _ _ gb343 29 #[.slice Ao102 xZ2_3.length co102, .slice Ao105 xZ3_3.length co105] (0, 0) _ rfl (by (with_reducible repeat (first | refine blk_drewN ?_ _ | refine blk_drew ?_ | refine blk_alloc ?_ _)); refine blk_put (cs := #[.slice Ao102 xZ2_3.length co102, .slice none 0 0]) ?_ 1 _ rfl; (with_reducible repeat (first | refine blk_drewN ?_ _ | refine blk_drew ?_ | refine blk_alloc ?_ _)); refine blk_put (cs := #[.slice none 0 0, .slice none 0 0]) ?_ 0 _ rfl; (with_reducible repeat (first | refine blk_drewN ?_ _ | refine blk_drew ?_ | refine blk_alloc ?_ _)); exact BK343.out) Try.underlying29 rfl (by kernel_rfl)) rfl ?_
              exact ⟨_, _, rE, by (with_reducible repeat (first | apply Kd.R_alloc | apply Kd.R_drewN | apply Kd.R_drew)); exact Kd.R_mono (Kd.R_far (p := ⟨gb343, 1, none⟩) (Kd.R_far (p := ⟨gb343, 0, none⟩) (Kd.R_types HO_Z2.out BK343.out (by decide)) (fun _ hk => hk.2) (.slice Ao102 xZ2_3.length co102)) (fun _ hk => hk.2) (.slice Ao105 xZ3_3.length co105)) (fun _ hk => hk.1.2.2.2.2), by (with_reducible repeat (first | apply Kd.R_alloc | apply Kd.R_drewN | apply Kd.R_drew)); exact Kd.R_mono (Kd.R_far (p := ⟨gb343, 1, none⟩) (Kd.R_far (p := ⟨gb343, 0, none⟩) (Kd.R_types HO_Z3.out BK343.out (by decide)) (fun _ hk => hk.2) (.slice Ao102 xZ2_3.length co102)) (fun _ hk => hk.2) (.slice Ao105 xZ3_3.length co105)) (fun _ hk => hk.1.2.2.2.2), bU3 HB.out GE342.out GE343.out GE368.out⟩
          ·
           rw [if_neg c54] at H
           exact absurd H (by simp)
         ·
          rw [if_neg c53] at H
          exact absurd H (by simp)
     ·
      rw [if_neg c24] at H
      exact absurd H (by simp)
    ·
     rw [if_neg c23] at H
     exact absurd H (by simp)
def spec_l1Mul.l0 : Nat → List Int → List Int → List Int → Int → Option (List Int)
 | 0, _, _, _, _ => none
 | k + 1, x0, x1, x5, x6 => if x6 < (x0.length : Int) then (if 0 ≤ x6 then (if 0 ≤ (rd x0 x6) then (if (rd x0 x6) < (x1.length : Int) then (if x5.length < 17592186044416 then (spec_l1Mul.l0 k x0 x1 (x5 ++ [rd x1 (rd x0 x6)]) (wrap64 (x6 + 1))) else (none)) else (none)) else (none)) else (none)) else (some x5)
def spec_l1Mul.f (k : Nat) (l0 : List Int) (l1 : List Int) : Option (List Int) := spec_l1Mul.l0 k l0 l1 (([] : List Int)) 0
set_option maxHeartbeats 8000000 in
set_option maxRecDepth 100000 in
theorem spec_l1Mul.calls (k : Nat) (A0 : Option Addr) (c0 : Nat) (l0 : List Int) (A1 : Option Addr) (c1 : Nat) (l1 : List Int) (r : List Int) (w : World) (hr0 : Kd.C (Kd.int .i64) w A0 l0.length l0) (hc0 : l0.length ≤ c0) (hr1 : Kd.C (Kd.int .i64) w A1 l1.length l1) (hc1 : l1.length ≤ c1) (h : spec_l1Mul.f k l0 l1 = some r) :
  Calls Try.prog 119 #[.slice A0 l0.length c0, .slice A1 l1.length c1] w fun e w' => ∃ v0_ : Value, e = .returned (v0_) ∧ Kd.R (Kd.int .i64) 3 w' w.heap.size (fun _ => True) v0_ r ∧ Below w.heap.size w w' := by
 have HR0 := Az hr0; have HC0 := Az hc0; clear hr0 hc0; have HR1 := Az hr1; have HC1 := Az hc1; clear hr1 hc1; have HB := Az (Below.refl w.heap.size w); have H : (spec_l1Mul.l0 k l0 l1 (([] : List Int)) 0) = some r := h; clear h; obtain ⟨y381, hy381⟩ : ∃ y_ : List Int, y_ = (([] : List Int)) := ⟨_, rfl⟩; replace H : (spec_l1Mul.l0 k l0 l1 y381 0) = some r := hR hy381 H; have Ny381 := Az hy381; clear hy381; have H' := Az H; clear H
 go_enter Try.func119, Try.ntmps119
 go_wp2_with (first | ((with_reducible refine gate_dst (N := 7) rfl ?_); refine Kd.R_lit (Kd.int .i64) _ 3 ?hg (N := 7) ?hd (xs := ([] : List Int)) (inner := []) (ok := fun _ => True) (okp := fun _ => True) ?hr ?hp (fun _ hk => hk) trivial (Below.refl _ _) (Nat.le_refl _) (by simp) ?_; (case hd => rfl); (case hg => rfl); (case hr => first | (go_simp; done) | (go_simp; rfl)); (case hp => exact (Reps.none _ _)); intro v382 w3 ho4 hb hg_ hnew_; clear hg_ hnew_; (first | rw [← Ny381.out] at ho4 | (simp only [Int.reduceToNat] at ho4; rw [← Ny381.out] at ho4)); have n0 := Az (Kd.R_lower ho4 (below_size (bU0 HB.out))); have n1 := Az (below_step (bU0 HB.out) hb); clear HB; have HO383 := n0; have HB := n1; clear n0 n1; clear hb ho4))
 go_loopg [5, 6] k (fun kq v5 v6 w' => ∃ (x5_1 : List Int) (x6_1 : Int), v6 = .int .i64 x6_1 ∧ Aside0 (spec_l1Mul.l0 kq l0 l1 x5_1 x6_1 = some r) ∧ Aside0 (kq ≤ k) ∧ Aside0 (Kd.R (Kd.int .i64) 3 w' w.heap.size (fun _ => True) v5 x5_1) ∧ Aside0 (Below w.heap.size w w'))
 case atStart => exact ⟨(y381), (0), rS, H', ⟨Nat.le_refl _⟩, ⟨rU HO383.out⟩, ⟨bU0 HB.out⟩⟩
 case round =>
  clear H'; (try clear c1); (try clear p2); obtain ⟨x5_1, x6_1, rfl, HA, HK1, HO_5, HB⟩ := hrel
  cases gk with
  | zero => exact absurd HA.out (by simp [spec_l1Mul.l0])
  | succ k1 =>
   have H := HA.out; clear HA; simp only [spec_l1Mul.l0] at H
   by_cases c5 : x6_1 < (l0.length : Int)
   ·
    rw [if_pos c5] at H; have c5b0 := decide_eq_true c5; clear c5
    by_cases c6 : 0 ≤ x6_1
    ·
     rw [if_pos c6] at H; have c6b0 := decide_eq_true c6; clear c6
     by_cases c7 : 0 ≤ (rd l0 x6_1)
     ·
      rw [if_pos c7] at H; have c7b0 := decide_eq_true c7; clear c7
      by_cases c8 : (rd l0 x6_1) < (l1.length : Int)
      ·
       rw [if_pos c8] at H; have c8b0 := decide_eq_true c8; clear c8
       by_cases c9 : x5_1.length < 17592186044416
       ·
        rw [if_pos c9] at H; have LMc9 := Az c9; clear c9; obtain ⟨y386, hy386⟩ : ∃ y_ : List Int, y_ = (x5_1 ++ [rd l1 (rd l0 x6_1)]) := ⟨_, rfl⟩; replace H : (spec_l1Mul.l0 k1 l0 l1 y386 (wrap64 (x6_1 + 1))) = some r := hR hy386 H; have Ny386 := Az hy386; clear hy386; have H' := Az H; clear H; have p384 : 0 ≤ (x6_1 : Int) := oA; have q384 : x6_1 < (l0.length : Int) := oA; obtain ⟨ad384, e384, hx384_0⟩ := Kd.at_int HR0.out x6_1 p384 q384
        cases e384
        (try replace hx384_0 := (HB.out.cell (World.block_lt_of_cell? w _ hx384_0)).trans hx384_0); replace p384 := eq_true p384; replace q384 := eq_true q384; have p385 : 0 ≤ ((rd l0 x6_1) : Int) := oA; have q385 : (rd l0 x6_1) < (l1.length : Int) := oA; obtain ⟨ad385, e385, hx385_0⟩ := Kd.at_int HR1.out (rd l0 x6_1) p385 q385
        cases e385
        (try replace hx385_0 := (HB.out.cell (World.block_lt_of_cell? w _ hx385_0)).trans hx385_0); replace p385 := eq_true p385; replace q385 := eq_true q385
        go_wp2_with (first | ((with_reducible refine gate_builtin (b := .append) (xs := #[.tmp 14, .tmp 22]) rfl ?_); at_builtin; refine Kd.R_append (Kd.int .i64) (w0 := w) w.heap.size rfl (.tmp 14) (.tmp 22) 23 3 (.int .i64 0) 8 rfl Try.underlying23 info3 rfl (by decide) (by omega) u5 x5_1 (rd l1 (rd l0 x6_1)) [.int .i64 (rd l1 (rd l0 x6_1))] (fun _ => True) (fun _ => False) rfl rfl ?aP (fun _ hk => hk.elim) ?aF ?aO ?aB ?aS ?aL ?_; (case aP => exact rfl); (case aB => exact (bU0 HB.out)); (case aF => exact (fun _ _ => trivial)); (case aO => exact (rU HO_5.out)); (case aS => exact (below_size (bU0 HB.out))); (case aL => have := LMc9.out; omega); intro v387 w10 ho hb hg hat; rw [← Ny386.out] at ho; have n0 := Az (hb); have n1 := Az (ho); clear HB HO_5; have HB := n0; have HO388 := n1; clear n0 n1; clear ho hb hg hat))
        (first | go_roundg k1 | (refine Handed.intro k1 ?measure ?_; rotate_left; go_step; (try simp only [add_plain]); (repeat apply Exists.intro); refine ⟨?rel, rfl⟩))
        case measure => have := HK1.out; omega
        case rel => exact ⟨(y386), (wrap64 (x6_1 + 1)), rS, H', ⟨by have := HK1.out; omega⟩, ⟨rU HO388.out⟩, ⟨bU0 HB.out⟩⟩
       ·
        rw [if_neg c9] at H
        exact absurd H (by simp)
      ·
       rw [if_neg c8] at H
       exact absurd H (by simp)
     ·
      rw [if_neg c7] at H
      exact absurd H (by simp)
    ·
     rw [if_neg c6] at H
     exact absurd H (by simp)
   ·
    rw [if_neg c5] at H; have c5b0 := decide_eq_false c5; clear c5; obtain rfl := Option.some.inj H
    go_wp2
    go_ret
    exact ⟨_, rE, rU HO_5.out, bU0 HB.out⟩
def spec_l2Faces.f (k : Nat) (l0_0 : List Int) (l0_1 : List Int) : Option (List Int) := (spec_l1Mul.f k l0_1 l0_0).bind fun t390 => (some t390)
set_option maxHeartbeats 8000000 in
set_option maxRecDepth 100000 in
theorem spec_l2Faces.calls (k : Nat) (A0_0 : Option Addr) (c0_0 : Nat) (l0_0 : List Int) (A0_1 : Option Addr) (c0_1 : Nat) (l0_1 : List Int) (r : List Int) (w : World) (hr0_0 : Kd.C (Kd.int .i64) w A0_0 l0_0.length l0_0) (hc0_0 : l0_0.length ≤ c0_0) (hr0_1 : Kd.C (Kd.int .i64) w A0_1 l0_1.length l0_1) (hc0_1 : l0_1.length ≤ c0_1) (h : spec_l2Faces.f k l0_0 l0_1 = some r) :
  Calls Try.prog 99 #[.agg #[.slice A0_0 l0_0.length c0_0, .slice A0_1 l0_1.length c0_1]] w fun e w' => ∃ v0_ : Value, e = .returned (v0_) ∧ Kd.R (Kd.int .i64) 3 w' w.heap.size (fun _ => True) v0_ r ∧ Below w.heap.size w w' := by
 have hu29 := Try.underlying29; have HR0_0 := Az hr0_0; have HC0_0 := Az hc0_0; clear hr0_0 hc0_0; have HR0_1 := Az hr0_1; have HC0_1 := Az hc0_1; clear hr0_1 hc0_1; have HB := Az (Below.refl w.heap.size w); have H : ((spec_l1Mul.f k l0_1 l0_0).bind fun t390 => (some t390)) = some r := h; clear h; replace H := Option.bind_eq_some_iff.mp H; obtain ⟨t390, A20, H⟩ := H; replace H : (some t390) = some r := H; have A2 := Az A20; clear A20; obtain rfl := Option.some.inj H
 go_enter Try.func99, Try.ntmps99
 go_wp2_with (first | ((with_reducible refine gate_dst (N := 1) rfl ?_); refine box_event ?hg (N := 1) ?hd (cs := #[.slice A0_0 l0_0.length c0_0, .slice A0_1 l0_1.length c0_1]) (t := 29) ?hr ?_; (case hd => rfl); (case hg => rfl); (case hr => first | (go_simp; done) | (go_simp; rfl)); intro gb389 hg w3 hbox hb; have n0 := Az (below_step (bU0 HB.out) hb); have n1 := Az (hbox); have n2 := Az ((by rw [hg]; exact (below_size (bU0 HB.out)) : w.heap.size ≤ gb389)); have n3 := n2; clear HB; have HB := n0; have BK389 := n1; have GW389 := n2; have GE389 := n3; clear n0 n1 n2 n3 hb hbox hg; have hcz4_0 : w3.cell? ⟨gb389, 0, none⟩ = some (.slice A0_0 l0_0.length c0_0) := (blk_cell BK389.out 0).trans rfl; have hcz4_1 : w3.cell? ⟨gb389, 1, none⟩ = some (.slice A0_1 l0_1.length c0_1) := (blk_cell BK389.out 1).trans rfl; have hfz4_0 := blk_frozen BK389.out 0; have hfz4_1 := blk_frozen BK389.out 1) | ((with_reducible refine gate_callee (f := 119) rfl ?_); refine goesL_ (some 7) rfl rfl Try.func119 (by kernel_rfl) rfl #[.slice A0_1 l0_1.length c0_1, .slice A0_0 l0_0.length c0_0] rfl (by (try simp only [List.map_toArray, List.map_cons, List.map_nil]); first | done | rfl | (simp only [List.length_drop, List.length_take]; rfl)) ?_; (with_reducible refine (spec_l1Mul.calls k _ _ l0_1 _ _ l0_0 t390 _ ?side1 ?side2 ?side3 ?side4 A2.out).mono ?_); (case side1 => exact cU (Kd.C_below HR0_1.out HB.out)); (case side2 => exact HC0_1.out); (case side3 => exact cU (Kd.C_below HR0_0.out HB.out)); (case side4 => exact HC0_0.out); rintro e w5 ⟨v391, rfl, ho0, hb⟩; refine ⟨_, rfl, ?_⟩; have n0 := Az (Kd.R_lower ho0 (below_size (bU1 HB.out GE389.out))); have n1 := Az (blk_below (g := gb389) (o := .cells #[.slice A0_0 l0_0.length c0_0, .slice A0_1 l0_1.length c0_1] 29 (0, 0)) (kU BK389.out) hb); have n2 := Az (below_step (bU1 HB.out GE389.out) hb); clear BK389 HB; have HO392 := n0; have BK389 := n1; have HB := n2; clear n0 n1 n2; (try clear hb); (try clear hb2); (try clear hk); (try clear hi); (try clear ho0)))
 go_ret
 exact ⟨_, rE, rU HO392.out, bU1 HB.out GE389.out⟩
mutual
def spec_l1Cycles.l0 : Nat → List Int → List (List Int) → List Bool → Int → Option ((List (List Int)))
 | 0, _, _, _, _ => none
 | k + 1, x0, x3, x4, x5 => if x5 < (x0.length : Int) then (if 0 ≤ x5 then (if x5 < (x4.length : Int) then (if rdOf false x4 x5 = true then (spec_l1Cycles.l0 k x0 x3 x4 (wrap64 (x5 + 1))) else (spec_l1Cycles.l1 k x0 x3 x4 x5 (([] : List Int)) x5)) else (none)) else (none)) else (some x3)
def spec_l1Cycles.l1 : Nat → List Int → List (List Int) → List Bool → Int → List Int → Int → Option ((List (List Int)))
 | 0, _, _, _, _, _, _ => none
 | k + 1, x0, x3, x4, x5, x6, x7 => if 0 ≤ x7 then (if x7 < (x4.length : Int) then (if rdOf false x4 x7 = true then (if x3.length < 5864062014805 then (spec_l1Cycles.l0 k x0 (x3 ++ [x6]) x4 (wrap64 (x5 + 1))) else (none)) else (if x6.length < 17592186044416 then (if x7 < (x0.length : Int) then (spec_l1Cycles.l1 k x0 x3 (x4.set (x7 : Int).toNat true) x5 (x6 ++ [x7]) (rd x0 x7)) else (none)) else (none))) else (none)) else (none)
end
def spec_l1Cycles.f (k : Nat) (l0 : List Int) : Option ((List (List Int))) := if 0 ≤ (l0.length : Int) then (if ((l0.length : Int) : Int).toNat ≤ 281474976710656 then (spec_l1Cycles.l0 k l0 (([] : List (List Int))) (List.replicate ((l0.length : Int) : Int).toNat false) 0) else (none)) else (none)
set_option maxHeartbeats 8000000 in
set_option maxRecDepth 100000 in
theorem spec_l1Cycles.calls (k : Nat) (A0 : Option Addr) (c0 : Nat) (l0 : List Int) (r : List (List Int)) (w : World) (hr0 : Kd.C (Kd.int .i64) w A0 l0.length l0) (hc0 : l0.length ≤ c0) (h : spec_l1Cycles.f k l0 = some r) :
  Calls Try.prog 121 #[.slice A0 l0.length c0] w fun e w' => ∃ v0_ : Value, e = .returned (v0_) ∧ Kd.S (Kd.slice 3 (Kd.int .i64)) 23 w' w.heap.size (fun _ => True) v0_ r ∧ Below w.heap.size w w' := by
 have HR0 := Az hr0; have HC0 := Az hc0; clear hr0 hc0; have HB := Az (Below.refl w.heap.size w); have H : (if 0 ≤ (l0.length : Int) then (if ((l0.length : Int) : Int).toNat ≤ 281474976710656 then (spec_l1Cycles.l0 k l0 (([] : List (List Int))) (List.replicate ((l0.length : Int) : Int).toNat false) 0) else (none)) else (none)) = some r := h; clear h; obtain ⟨y393, hy393⟩ : ∃ y_ : List (List Int), y_ = (([] : List (List Int))) := ⟨_, rfl⟩; replace H : (if 0 ≤ (l0.length : Int) then (if ((l0.length : Int) : Int).toNat ≤ 281474976710656 then (spec_l1Cycles.l0 k l0 y393 (List.replicate ((l0.length : Int) : Int).toNat false) 0) else (none)) else (none)) = some r := hR hy393 H; have Ny393 := Az hy393; clear hy393
 by_cases c2 : 0 ≤ (l0.length : Int)
 ·
  rw [if_pos c2] at H; have c2b0 := eq_true c2; have c2b1 := decide_eq_true c2; clear c2
  by_cases c3 : ((l0.length : Int) : Int).toNat ≤ 281474976710656
  ·
   rw [if_pos c3] at H; have c3b0 := eq_true c3; have c3b1 := decide_eq_true c3; clear c3; obtain ⟨y396, hy396⟩ : ∃ y_ : List Bool, y_ = (List.replicate ((l0.length : Int) : Int).toNat false) := ⟨_, rfl⟩; replace H : (spec_l1Cycles.l0 k l0 y393 y396 0) = some r := hR hy396 H; have Ny396 := Az hy396; clear hy396; have H' := Az H; clear H
   go_enter Try.func121, Try.ntmps121
   go_wp2_with (first | ((with_reducible refine gate_dst (N := 8) rfl ?_); refine Kd.S_lit (Kd.slice 3 (Kd.int .i64)) _ 23 ?hg (N := 8) ?hd (xs := ([] : List (List Int))) (inner := []) (ok := fun _ => True) (okp := fun _ => True) ?hr ?hp (fun _ hk => hk) trivial (Below.refl _ _) (Nat.le_refl _) (by simp) ?_; (case hd => rfl); (case hg => rfl); (case hr => first | (go_simp; done) | (go_simp; rfl)); (case hp => exact (Reps.none _ _)); intro v394 w4 ho5 hb hg_ hnew_; clear hg_ hnew_; (first | rw [← Ny393.out] at ho5 | (simp only [Int.reduceToNat] at ho5; rw [← Ny393.out] at ho5)); have n0 := Az (Kd.S_lower ho5 (below_size (bU0 HB.out))); have n1 := Az (below_step (bU0 HB.out) hb); clear HB; have HO395 := n0; have HB := n1; clear n0 n1; clear hb ho5) | ((with_reducible refine gate_dst (N := 11) rfl ?_); refine Kd.R_make Kd.bool _ 4 rfl (N := 11) rfl 93 _ _ rfl (l0.length : Int) rfl rfl Try.underlying93 (.bool false) 1 info4 rfl (by decide) (by omega) false (ok := fun _ => True) (okp := fun _ => True) rfl (fun _ hk => hk) trivial (oA) (Nat.le_trans (Nat.mul_le_mul_right _ (oA : (l0.length : Int).toNat ≤ 281474976710656)) (by omega)) (Below.refl _ _) (Nat.le_refl _) ?_; intro v397 w6 ho7 hb hg_ hnew_; clear hg_ hnew_; (first | rw [← Ny396.out] at ho7 | (simp only [Int.reduceToNat] at ho7; rw [← Ny396.out] at ho7)); have n0 := Az (Kd.S_below (sU HO395.out) hb); have n1 := Az (Kd.R_lower ho7 (below_size (bU0 HB.out))); have n2 := Az (below_step (bU0 HB.out) hb); clear HO395 HB; have HO395 := n0; have HO398 := n1; have HB := n2; clear n0 n1 n2; clear hb ho7))
   go_loopg [3, 5] k (fun kq v3 v5 w' => ∃ (x3_1 : List (List Int)) (x4_1 : List Bool) (x5_1 : Int), v5 = .int .i64 x5_1 ∧ Aside0 (spec_l1Cycles.l0 kq l0 x3_1 x4_1 x5_1 = some r) ∧ Aside0 (kq ≤ k) ∧ Aside0 (Kd.S (Kd.slice 3 (Kd.int .i64)) 23 w' w.heap.size (fun _ => True) v3 x3_1) ∧ Aside0 (Kd.R Kd.bool 4 w' w.heap.size (fun _ => True) v397 x4_1) ∧ Aside0 (Below w.heap.size w w'))
   case atStart => exact ⟨(y393), (y396), (0), rS, H', ⟨Nat.le_refl _⟩, ⟨sU HO395.out⟩, ⟨rU HO398.out⟩, ⟨bU0 HB.out⟩⟩
   case round =>
    clear H'; (try clear c1); (try clear c2); (try clear c2b0); (try clear c2b1); (try clear p2); (try clear c3); (try clear c3b0); (try clear c3b1); obtain ⟨x3_1, x4_1, x5_1, rfl, HA, HK1, HO_3, HO_4, HB⟩ := hrel
    cases gk with
    | zero => exact absurd HA.out (by simp [spec_l1Cycles.l0])
    | succ k1 =>
     have H := HA.out; clear HA; simp only [spec_l1Cycles.l0] at H
     by_cases c8 : x5_1 < (l0.length : Int)
     ·
      rw [if_pos c8] at H; have c8b0 := decide_eq_true c8; clear c8
      by_cases c9 : 0 ≤ x5_1
      ·
       rw [if_pos c9] at H; have c9b0 := decide_eq_true c9; clear c9
       by_cases c10 : x5_1 < (x4_1.length : Int)
       ·
        rw [if_pos c10] at H; have c10b0 := decide_eq_true c10; clear c10; obtain ⟨bq11, hbq11⟩ : ∃ b_ : Bool, b_ = (rdOf false x4_1 x5_1) := ⟨_, rfl⟩
        replace H : (if bq11 = true then (spec_l1Cycles.l0 k1 l0 x3_1 x4_1 (wrap64 (x5_1 + 1))) else (spec_l1Cycles.l1 k1 l0 x3_1 x4_1 x5_1 (([] : List Int)) x5_1)) = some r := by rw [← hbq11] at H; exact H
        have Nbq11 := Az hbq11; clear hbq11
        by_cases c12 : bq11 = true
        ·
         subst c12
         have H1 : (spec_l1Cycles.l0 k1 l0 x3_1 x4_1 (wrap64 (x5_1 + 1))) = some r := by rw [if_pos rfl] at H; exact H
         clear H; have H := H1; clear H1; have H' := Az H; clear H; obtain ⟨Ao13, co13, eo13⟩ := Kd.R_slice HO_4.out; subst eo13; have p399 : 0 ≤ (x5_1 : Int) := oA; have q399 : x5_1 < (x4_1.length : Int) := oA; obtain ⟨ad399, e399, hx399_0⟩ := Kd.at_bool (Kd.R_reads' HO_4.out).2.2 x5_1 p399 q399; (try rw [← Nbq11.out] at hx399_0)
         cases e399
         replace p399 := eq_true p399; replace q399 := eq_true q399
         go_wp2
         (first | go_roundg k1 | (refine Handed.intro k1 ?measure ?_; rotate_left; go_step; (try simp only [add_plain]); (repeat apply Exists.intro); refine ⟨?rel, rfl⟩))
         case measure => have := HK1.out; omega
         case rel => exact ⟨(x3_1), (x4_1), (wrap64 (x5_1 + 1)), rS, H', ⟨by have := HK1.out; omega⟩, ⟨sU HO_3.out⟩, ⟨rU HO_4.out⟩, ⟨bU0 HB.out⟩⟩
        ·
         replace c12 := Bool.eq_false_iff.mpr c12; subst c12
         have H1 : (spec_l1Cycles.l1 k1 l0 x3_1 x4_1 x5_1 (([] : List Int)) x5_1) = some r := by rw [if_neg (show ¬ (false = true) by decide)] at H; exact H
         clear H; have H := H1; clear H1; obtain ⟨y400, hy400⟩ : ∃ y_ : List Int, y_ = (([] : List Int)) := ⟨_, rfl⟩; replace H : (spec_l1Cycles.l1 k1 l0 x3_1 x4_1 x5_1 y400 x5_1) = some r := hR hy400 H; have Ny400 := Az hy400; clear hy400; have H' := Az H; clear H; obtain ⟨Ao14, co14, eo14⟩ := Kd.R_slice HO_4.out; subst eo14; have p399 : 0 ≤ (x5_1 : Int) := oA; have q399 : x5_1 < (x4_1.length : Int) := oA; obtain ⟨ad399, e399, hx399_0⟩ := Kd.at_bool (Kd.R_reads' HO_4.out).2.2 x5_1 p399 q399; (try rw [← Nbq11.out] at hx399_0)
         cases e399
         replace p399 := eq_true p399; replace q399 := eq_true q399
         go_wp2_with (first | ((with_reducible refine gate_dst (N := 22) rfl ?_); refine Kd.R_lit (Kd.int .i64) _ 3 ?hg (N := 22) ?hd (xs := ([] : List Int)) (inner := []) (ok := fun _ => True) (okp := fun _ => True) ?hr ?hp (fun _ hk => hk) trivial (Below.refl _ _) (Nat.le_refl _) (by simp) ?_; (case hd => rfl); (case hg => rfl); (case hr => first | (go_simp; done) | (go_simp; rfl)); (case hp => exact (Reps.none _ _)); intro v401 w15 ho16 hb hg_ hnew_; clear hg_ hnew_; (first | rw [← Ny400.out] at ho16 | (simp only [Int.reduceToNat] at ho16; rw [← Ny400.out] at ho16)); have n0 := Az (Kd.S_elder' (sU HO_3.out) (Kd.R_base ho16) hb); have n1 := Az (Kd.R_below (rU HO_4.out) hb); have n2 := Az (Kd.R_lower ho16 (below_size (bU0 HB.out))); have n3 := Az (below_step (bU0 HB.out) hb); clear HO_3 HO_4 HB; have HO_3 := n0; have HO_4 := n1; have HO402 := n2; have HB := n3; clear n0 n1 n2 n3; clear hb ho16))
         go_loopg [6, 7] k1 (fun kq v6 v7 w' => ∃ (x4_2 : List Bool) (x6_2 : List Int) (x7_2 : Int), v7 = .int .i64 x7_2 ∧ Aside0 (spec_l1Cycles.l1 kq l0 x3_1 x4_2 x5_1 x6_2 x7_2 = some r) ∧ Aside0 (kq ≤ k1) ∧ Aside0 (Kd.S (Kd.slice 3 (Kd.int .i64)) 23 w' w.heap.size (fun k_ => some k_ ≠ (v6 : Value).ownBlock) u3 x3_1) ∧ Aside0 (Kd.R Kd.bool 4 w' w.heap.size (fun _ => True) (.slice (some ad399) x4_1.length co14) x4_2) ∧ Aside0 (Kd.R (Kd.int .i64) 3 w' w.heap.size (fun _ => True) v6 x6_2) ∧ Aside0 (Below w.heap.size w w'))
         case atStart => exact ⟨(x4_1), (y400), (x5_1), rS, H', ⟨Nat.le_refl _⟩, ⟨by (with_reducible repeat (first | apply Kd.S_alloc | apply Kd.S_drewN | apply Kd.S_drew)); exact Kd.S_mono HO_3.out (fun _ hk => hk.2)⟩, ⟨rU HO_4.out⟩, ⟨rU HO402.out⟩, ⟨bU0 HB.out⟩⟩
         case round =>
          clear H'; (try clear c1); (try clear q1); (try clear c2); (try clear c2b0); (try clear c2b1); (try clear p2); (try clear c3); (try clear c3b0); (try clear c3b1); (try clear p3); (try clear q3); (try clear hx3); (try clear p6); (try clear c8); (try clear c8b0); (try clear c9); (try clear c9b0); (try clear c10); (try clear c10b0); (try clear q11); (try clear c12); (try clear hx399_0); (try clear p2); (try clear p399); (try clear q399); obtain ⟨x4_2, x6_2, x7_2, rfl, HA, HK2, HO_3, HO_4, HO_6, HB⟩ := hrel; have hl4_2 := (Kd.R_reads' HO_4.out).1; rw [hl4_2] at HO_4; (try simp only [hl4_2]); (try simp only [hl4_2] at HO_3); (try simp only [hl4_2] at HO_6)
          cases gk with
          | zero => exact absurd HA.out (by simp [spec_l1Cycles.l1])
          | succ k2 =>
           have H := HA.out; clear HA; simp only [spec_l1Cycles.l1] at H
           by_cases c17 : 0 ≤ x7_2
           ·
            rw [if_pos c17] at H; have c17b0 := decide_eq_true c17; clear c17
            by_cases c18 : x7_2 < (x4_2.length : Int)
            ·
             rw [if_pos c18] at H; have c18b0 := decide_eq_true c18; (try (have c18b0hl4_2 := c18b0; rw [hl4_2] at c18b0hl4_2)); clear c18; obtain ⟨bq19, hbq19⟩ : ∃ b_ : Bool, b_ = (rdOf false x4_2 x7_2) := ⟨_, rfl⟩
             replace H : (if bq19 = true then (if x3_1.length < 5864062014805 then (spec_l1Cycles.l0 k2 l0 (x3_1 ++ [x6_2]) x4_2 (wrap64 (x5_1 + 1))) else (none)) else (if x6_2.length < 17592186044416 then (if x7_2 < (l0.length : Int) then (spec_l1Cycles.l1 k2 l0 x3_1 (x4_2.set (x7_2 : Int).toNat true) x5_1 (x6_2 ++ [x7_2]) (rd l0 x7_2)) else (none)) else (none))) = some r := by rw [← hbq19] at H; exact H
             have Nbq19 := Az hbq19; clear hbq19
             by_cases c20 : bq19 = true
             ·
              subst c20
              have H1 : (if x3_1.length < 5864062014805 then (spec_l1Cycles.l0 k2 l0 (x3_1 ++ [x6_2]) x4_2 (wrap64 (x5_1 + 1))) else (none)) = some r := by rw [if_pos rfl] at H; exact H
              clear H; have H := H1; clear H1
              by_cases c21 : x3_1.length < 5864062014805
              ·
               rw [if_pos c21] at H; have LMc21 := Az c21; clear c21; obtain ⟨y404, hy404⟩ : ∃ y_ : List (List Int), y_ = (x3_1 ++ [x6_2]) := ⟨_, rfl⟩; replace H : (spec_l1Cycles.l0 k2 l0 y404 x4_2 (wrap64 (x5_1 + 1))) = some r := hR hy404 H; have Ny404 := Az hy404; clear hy404; have H' := Az H; clear H; have p403 : 0 ≤ (x7_2 : Int) := oA; have q403 : x7_2 < (x4_2.length : Int) := oA; obtain ⟨ad403, e403, hx403_0⟩ := Kd.at_bool (Kd.R_reads' HO_4.out).2.2 x7_2 p403 q403; (try rw [← Nbq11.out] at hx403_0); (try rw [← Nbq19.out] at hx403_0); obtain rfl : ad399 = ad403 := (by injection e403); replace p403 := eq_true p403; replace q403 := eq_true q403; obtain ⟨Ao23, co23, eo23⟩ := Kd.R_slice HO_6.out; subst eo23
               go_wp2_with (first | ((with_reducible refine gate_builtin (b := .append) (xs := #[.tmp 40, .tmp 42]) rfl ?_); at_builtin; refine Kd.S_append (Kd.slice 3 (Kd.int .i64)) (w0 := w) w.heap.size rfl (.tmp 40) (.tmp 42) 82 23 (.slice none 0 0) 24 rfl Try.underlying82 info23 rfl (by decide) (by omega) u3 x3_1 x6_2 [.slice Ao23 x6_2.length co23] (fun _ => True) (fun k_ => some k_ = (.slice Ao23 x6_2.length co23 : Value).ownBlock) rfl rfl ?aP (fun k_ hk_ => ((Kd.R_mono (ok' := fun k_ => ((fun _ => True)) k_ ∧ some k_ ≠ (u3 : Value).ownBlock) (Kd.R_apart' (HO_6.out) (Kd.S_typed HO_3.out) (by decide)) (fun k_ hk => ⟨trivial, hk.2⟩))).1 k_ hk_.symm) ?aF ?aO ?aB ?aS ?aL ?_; (case aP => exact Kd.M_row (Kd.R_mono (Kd.R_tight rfl (Kd.R_mono (ok' := fun k_ => ((fun _ => True)) k_ ∧ some k_ ≠ (u3 : Value).ownBlock) (Kd.R_apart' (HO_6.out) (Kd.S_typed HO_3.out) (by decide)) (fun k_ hk => ⟨trivial, hk.2⟩))) (fun _ h_ => h_))); (case aB => exact (bU0 HB.out)); (case aF => exact (fun _ _ => trivial)); (case aO => exact (by (with_reducible repeat (first | apply Kd.S_alloc | apply Kd.S_drewN | apply Kd.S_drew)); exact Kd.S_mono HO_3.out (fun k_ hk => ⟨trivial, fun e_ => hk e_⟩))); (case aS => exact (below_size (bU0 HB.out))); (case aL => have := LMc21.out; omega); intro v405 w22 ho hb hg hat; rw [← Ny404.out] at ho; have n0 := Az (Kd.R_over' (rU HO_4.out) (Kd.S_typed (sU HO_3.out)) (by decide) hg); have n1 := Az (hb); have n2 := Az (ho); clear HO_4 HB HO_3 HO_6; have HO_4 := n0; have HB := n1; have HO406 := n2; clear n0 n1 n2; clear ho hb hg hat))
               (try simp only [← hl4_2]); (first | go_roundg k2 | (refine Handed.intro k2 ?measure ?_; rotate_left; go_step; (try simp only [add_plain]); (repeat apply Exists.intro); refine ⟨?rel, rfl⟩))
               case measure => have := HK1.out; have := HK2.out; omega
               case rel => exact ⟨(y404), (x4_2), (wrap64 (x5_1 + 1)), rS, H', ⟨by have := HK1.out; have := HK2.out; omega⟩, ⟨by (try simp only [hl4_2]); (with_reducible repeat (first | apply Kd.S_alloc | apply Kd.S_drewN | apply Kd.S_drew)); exact HO406.out⟩, ⟨by (try simp only [hl4_2]); (with_reducible repeat (first | apply Kd.R_alloc | apply Kd.R_drewN | apply Kd.R_drew)); exact HO_4.out⟩, ⟨bU0 HB.out⟩⟩
              ·
               rw [if_neg c21] at H
               exact absurd H (by simp)
             ·
              replace c20 := Bool.eq_false_iff.mpr c20; subst c20
              have H1 : (if x6_2.length < 17592186044416 then (if x7_2 < (l0.length : Int) then (spec_l1Cycles.l1 k2 l0 x3_1 (x4_2.set (x7_2 : Int).toNat true) x5_1 (x6_2 ++ [x7_2]) (rd l0 x7_2)) else (none)) else (none)) = some r := by rw [if_neg (show ¬ (false = true) by decide)] at H; exact H
              clear H; have H := H1; clear H1; obtain ⟨y407, hy407⟩ : ∃ y_ : List Bool, y_ = (x4_2.set (x7_2 : Int).toNat true) := ⟨_, rfl⟩; replace H : (if x6_2.length < 17592186044416 then (if x7_2 < (l0.length : Int) then (spec_l1Cycles.l1 k2 l0 x3_1 y407 x5_1 (x6_2 ++ [x7_2]) (rd l0 x7_2)) else (none)) else (none)) = some r := hR hy407 H; have Ny407 := Az hy407; clear hy407
              by_cases c25 : x6_2.length < 17592186044416
              ·
               rw [if_pos c25] at H; have LMc25 := Az c25; clear c25; obtain ⟨y408, hy408⟩ : ∃ y_ : List Int, y_ = (x6_2 ++ [x7_2]) := ⟨_, rfl⟩; replace H : (if x7_2 < (l0.length : Int) then (spec_l1Cycles.l1 k2 l0 x3_1 y407 x5_1 y408 (rd l0 x7_2)) else (none)) = some r := hR hy408 H; have Ny408 := Az hy408; clear hy408
               by_cases c26 : x7_2 < (l0.length : Int)
               ·
                rw [if_pos c26] at H; have c26b0 := decide_eq_true c26; (try (have c26b0hl4_2 := c26b0; rw [hl4_2] at c26b0hl4_2)); clear c26; have H' := Az H; clear H; have p403 : 0 ≤ (x7_2 : Int) := oA; have q403 : x7_2 < (x4_2.length : Int) := oA; obtain ⟨ad403, e403, hx403_0⟩ := Kd.at_bool (Kd.R_reads' HO_4.out).2.2 x7_2 p403 q403; (try rw [← Nbq11.out] at hx403_0); (try rw [← Nbq19.out] at hx403_0); obtain rfl : ad399 = ad403 := (by injection e403); replace p403 := eq_true p403; replace q403 := eq_true q403; have p24 : 0 ≤ (x7_2 : Int) := oA; have q24 : (x7_2 : Int) < ((x4_2.length : Int) : Int) := oA; obtain ⟨go24, co24, eo24, gb24, gl24, cl24, HG24⟩ := Kd.R_form HO_4.out (by omega); (first | cases eo24 | (injection eo24 with ea_ en_ ec_; (first | subst ea_ | (injection ea_ with ea_; subst ea_)); subst ec_; clear en_)); have GB24 := Az gb24; have GG24 := Az HG24; clear gb24 gl24 HG24; (first | simp only [add_plain] at hx399_0 | skip); (first | simp only [add_plain] at hx403_0 | skip); obtain ⟨hx24_0, hf24_0⟩ := Kd.R_celln false HO_4.out (x7_2 : Int) p24 q24; replace p24 := eq_true p24; replace q24 := eq_true q24; obtain ⟨hy27_, hz27_⟩ := Kd.R_celln false HO_4.out (x7_2 : Int) (oA) (oA); have HP27 := Kd.R_putg HO_4.out (x7_2 : Int) true
                go_wp2_with (first | ((with_reducible refine gate_store (t := 4) (p := 35) rfl ?_); refine store_event (t := 4) (p := 35) (v := ?vo_w28) (w1 := (wr.setCell ⟨go24, (x7_2 : Int).toNat, none⟩ (.bool true))) ?hg ?ho ?hn ?hr ?_; (case ho => rfl); (case hg => rfl); (case hn => rfl); (case hr => first | (go_simp; done) | (go_simp; rfl)); intro w28 hw; have hg : wr.grownBy w28 (some go24) := (by rw [hw]; exact HP27.2); have hp_ : Kd.R Kd.bool 4 w28 w.heap.size (fun _ => True) (.slice (some ⟨go24, 0, none⟩) x4_2.length co14) y407 := (by rw [hw, Ny407.out]; exact HP27.1); clear HP27; have n0 := Az (Kd.S_over' (v := (.slice (some ⟨go24, 0, none⟩) x4_2.length co14)) (sU HO_3.out) (Kd.R_typed HO_4.out) (by decide) hg); have n1 := Az (hp_); have n2 := Az (Kd.R_over' (v := (.slice (some ⟨go24, 0, none⟩) x4_2.length co14)) (rU HO_6.out) (Kd.R_typed HO_4.out) (by decide) hg); have n3 := Az ((by rw [hw]; exact below_set (HB.out) GB24.out : Below w.heap.size w w28)); clear HO_3 HO_4 HO_6 HB; have HO_3 := n0; have HO_4 := n1; have HO_6 := n2; have HB := n3; clear n0 n1 n2 n3; clear hg hw hp_) | ((with_reducible refine gate_builtin (b := .append) (xs := #[.tmp 36, .tmp 38]) rfl ?_); at_builtin; refine Kd.R_append (Kd.int .i64) (w0 := w) w.heap.size rfl (.tmp 36) (.tmp 38) 23 3 (.int .i64 0) 8 rfl Try.underlying23 info3 rfl (by decide) (by omega) u6 x6_2 x7_2 [.int .i64 x7_2] (fun _ => True) (fun _ => False) rfl rfl ?aP (fun _ hk => hk.elim) ?aF ?aO ?aB ?aS ?aL ?_; (case aP => exact rfl); (case aB => exact (bU0 HB.out)); (case aF => exact (fun _ _ => trivial)); (case aO => exact (rU HO_6.out)); (case aS => exact (below_size (bU0 HB.out))); (case aL => have := LMc25.out; omega); intro v409 w29 ho hb hg hat; rw [← Ny408.out] at ho; have n0 := Az (Kd.S_after (ok := (fun _ => True)) (by (with_reducible repeat (first | apply Kd.S_alloc | apply Kd.S_drewN | apply Kd.S_drew)); exact Kd.S_mono HO_3.out (fun _ hk => ⟨trivial, hk⟩)) hg hat); have n1 := Az (Kd.R_over' (rU HO_4.out) (Kd.R_typed (rU HO_6.out)) (by decide) hg); have n2 := Az (hb); have n3 := Az (ho); clear HO_3 HO_4 HB HO_6; have HO_3 := n0; have HO_4 := n1; have HB := n2; have HO410 := n3; clear n0 n1 n2 n3 ho hb hg hat; have p411 : 0 ≤ (x7_2 : Int) := oA; have q411 : x7_2 < (l0.length : Int) := oA; obtain ⟨ad411, e411, hx411_0⟩ := Kd.at_int HR0.out x7_2 p411 q411; cases e411; replace hx411_0 := (HB.out.cell (World.block_lt_of_cell? w _ hx411_0)).trans hx411_0; replace p411 := eq_true p411; replace q411 := eq_true q411))
                (try simp only [← hl4_2]); (first | go_roundg k2 | (refine Handed.intro k2 ?measure ?_; rotate_left; go_step; (try simp only [add_plain]); (repeat apply Exists.intro); refine ⟨?rel, rfl⟩))
                case measure => have := HK1.out; have := HK2.out; omega
                case rel => exact ⟨(y407), (y408), (rd l0 x7_2), rS, H', ⟨by have := HK1.out; have := HK2.out; omega⟩, ⟨by (try simp only [hl4_2]); (with_reducible repeat (first | apply Kd.S_alloc | apply Kd.S_drewN | apply Kd.S_drew)); exact Kd.S_mono HO_3.out (fun _ hk => hk.2)⟩, ⟨by (try simp only [hl4_2]); (with_reducible repeat (first | apply Kd.R_alloc | apply Kd.R_drewN | apply Kd.R_drew)); exact HO_4.out⟩, ⟨by (try simp only [hl4_2]); (with_reducible repeat (first | apply Kd.R_alloc | apply Kd.R_drewN | apply Kd.R_drew)); exact HO410.out⟩, ⟨bU0 HB.out⟩⟩
               ·
                rw [if_neg c26] at H
                exact absurd H (by simp)
              ·
               rw [if_neg c25] at H
               exact absurd H (by simp)
            ·
             rw [if_neg c18] at H
             exact absurd H (by simp)
           ·
            rw [if_neg c17] at H
            exact absurd H (by simp)
       ·
        rw [if_neg c10] at H
        exact absurd H (by simp)
      ·
       rw [if_neg c9] at H
       exact absurd H (by simp)
     ·
      rw [if_neg c8] at H; have c8b0 := decide_eq_false c8; clear c8; obtain rfl := Option.some.inj H
      go_wp2
      go_ret
      exact ⟨_, rE, sU HO_3.out, bU0 HB.out⟩
  ·
   rw [if_neg c3] at H
   exact absurd H (by simp)
 ·
  rw [if_neg c2] at H
  exact absurd H (by simp)
mutual
def spec_l1Type.l0 : Nat → List Int → List (List Int) → Int → Option (List Int)
 | 0, _, _, _ => none
 | k + 1, x3, x4, x5 => if x5 > 0 then (spec_l1Type.l1 k x3 x4 x5 0) else (some x3)
def spec_l1Type.l1 : Nat → List Int → List (List Int) → Int → Int → Option (List Int)
 | 0, _, _, _, _ => none
 | k + 1, x3, x4, x5, x6 => if x6 < (x4.length : Int) then (if 0 ≤ x6 then (if ((rd_L1 x4 x6).length : Int) = x5 then (if x3.length < 17592186044416 then (spec_l1Type.l1 k (x3 ++ [x5]) x4 x5 (wrap64 (x6 + 1))) else (none)) else (spec_l1Type.l1 k x3 x4 x5 (wrap64 (x6 + 1)))) else (none)) else (spec_l1Type.l0 k x3 x4 (wrap64 (x5 - 1)))
end
def spec_l1Type.f (k : Nat) (l0 : List Int) : Option (List Int) := (spec_l1Cycles.f k l0).bind fun t415 => (spec_l1Type.l0 k (([] : List Int)) t415 (l0.length : Int))
set_option maxHeartbeats 8000000 in
set_option maxRecDepth 100000 in
theorem spec_l1Type.calls (k : Nat) (A0 : Option Addr) (c0 : Nat) (l0 : List Int) (r : List Int) (w : World) (hr0 : Kd.C (Kd.int .i64) w A0 l0.length l0) (hc0 : l0.length ≤ c0) (h : spec_l1Type.f k l0 = some r) :
  Calls Try.prog 113 #[.slice A0 l0.length c0] w fun e w' => ∃ v0_ : Value, e = .returned (v0_) ∧ Kd.R (Kd.int .i64) 3 w' w.heap.size (fun _ => True) v0_ r ∧ Below w.heap.size w w' := by
 have HR0 := Az hr0; have HC0 := Az hc0; clear hr0 hc0; have HB := Az (Below.refl w.heap.size w); have H : ((spec_l1Cycles.f k l0).bind fun t415 => (spec_l1Type.l0 k (([] : List Int)) t415 (l0.length : Int))) = some r := h; clear h; obtain ⟨y412, hy412⟩ : ∃ y_ : List Int, y_ = (([] : List Int)) := ⟨_, rfl⟩; replace H : ((spec_l1Cycles.f k l0).bind fun t415 => (spec_l1Type.l0 k y412 t415 (l0.length : Int))) = some r := hR hy412 H; have Ny412 := Az hy412; clear hy412; replace H := Option.bind_eq_some_iff.mp H; obtain ⟨t415, A20, H⟩ := H; replace H : (spec_l1Type.l0 k y412 t415 (l0.length : Int)) = some r := H; have A2 := Az A20; clear A20; have H' := Az H; clear H
 go_enter Try.func113, Try.ntmps113
 go_wp2_with (first | ((with_reducible refine gate_dst (N := 7) rfl ?_); refine Kd.R_lit (Kd.int .i64) _ 3 ?hg (N := 7) ?hd (xs := ([] : List Int)) (inner := []) (ok := fun _ => True) (okp := fun _ => True) ?hr ?hp (fun _ hk => hk) trivial (Below.refl _ _) (Nat.le_refl _) (by simp) ?_; (case hd => rfl); (case hg => rfl); (case hr => first | (go_simp; done) | (go_simp; rfl)); (case hp => exact (Reps.none _ _)); intro v413 w3 ho4 hb hg_ hnew_; clear hg_ hnew_; (first | rw [← Ny412.out] at ho4 | (simp only [Int.reduceToNat] at ho4; rw [← Ny412.out] at ho4)); have n0 := Az (Kd.R_lower ho4 (below_size (bU0 HB.out))); have n1 := Az (below_step (bU0 HB.out) hb); clear HB; have HO414 := n0; have HB := n1; clear n0 n1; clear hb ho4) | ((with_reducible refine gate_callee (f := 121) rfl ?_); refine goesL_ (some 9) rfl rfl Try.func121 (by kernel_rfl) rfl #[.slice A0 l0.length c0] rfl (by (try simp only [List.map_toArray, List.map_cons, List.map_nil]); first | done | rfl | (simp only [List.length_drop, List.length_take]; rfl)) ?_; (with_reducible refine (spec_l1Cycles.calls k _ _ l0 t415 _ ?side1 ?side2 A2.out).mono ?_); (case side1 => exact cU (Kd.C_below HR0.out HB.out)); (case side2 => exact HC0.out); rintro e w5 ⟨v416, rfl, ho0, hb⟩; refine ⟨_, rfl, ?_⟩; have n0 := Az (Kd.R_below (rU HO414.out) hb); have n1 := Az (Kd.S_lower (Kd.S_new' ho0 (Kd.R_lt (rU HO414.out))) (below_size (bU0 HB.out))); have n2 := Az (below_step (bU0 HB.out) hb); clear HO414 HB; have HO414 := n0; have HO417 := n1; have HB := n2; clear n0 n1 n2; (try clear hb); (try clear hb2); (try clear hk); (try clear hi); (try clear ho0)))
 go_loopg [3, 5] k (fun kq v3 v5 w' => ∃ (x3_1 : List Int) (x5_1 : Int), v5 = .int .i64 x5_1 ∧ Aside0 (spec_l1Type.l0 kq x3_1 t415 x5_1 = some r) ∧ Aside0 (kq ≤ k) ∧ Aside0 (Kd.R (Kd.int .i64) 3 w' w.heap.size (fun _ => True) v3 x3_1) ∧ Aside0 (Kd.S (Kd.slice 3 (Kd.int .i64)) 23 w' w.heap.size (fun k_ => some k_ ≠ (v3 : Value).ownBlock) v416 t415) ∧ Aside0 (Below w.heap.size w w'))
 case atStart => exact ⟨(y412), ((l0.length : Int)), rS, H', ⟨Nat.le_refl _⟩, ⟨rU HO414.out⟩, ⟨by (with_reducible repeat (first | apply Kd.S_alloc | apply Kd.S_drewN | apply Kd.S_drew)); exact Kd.S_mono HO417.out (fun _ hk => hk.2)⟩, ⟨bU0 HB.out⟩⟩
 case round =>
  clear H'; (try clear c1); (try clear p2); obtain ⟨x3_1, x5_1, rfl, HA, HK1, HO_3, HO_4, HB⟩ := hrel
  cases gk with
  | zero => exact absurd HA.out (by simp [spec_l1Type.l0])
  | succ k1 =>
   have H := HA.out; clear HA; simp only [spec_l1Type.l0] at H
   by_cases c6 : x5_1 > 0
   ·
    rw [if_pos c6] at H; have c6b0 := decide_eq_true c6; clear c6; have H' := Az H; clear H
    go_wp2
    go_loopg [3, 6] k1 (fun kq v3 v6 w' => ∃ (x3_2 : List Int) (x6_2 : Int), v6 = .int .i64 x6_2 ∧ Aside0 (spec_l1Type.l1 kq x3_2 t415 x5_1 x6_2 = some r) ∧ Aside0 (kq ≤ k1) ∧ Aside0 (Kd.R (Kd.int .i64) 3 w' w.heap.size (fun _ => True) v3 x3_2) ∧ Aside0 (Kd.S (Kd.slice 3 (Kd.int .i64)) 23 w' w.heap.size (fun k_ => some k_ ≠ (v3 : Value).ownBlock) v416 t415) ∧ Aside0 (Below w.heap.size w w'))
    case atStart => exact ⟨(x3_1), (0), rS, H', ⟨Nat.le_refl _⟩, ⟨rU HO_3.out⟩, ⟨sU HO_4.out⟩, ⟨bU0 HB.out⟩⟩
    case round =>
     clear H'; (try clear c1); (try clear p2); (try clear c6); (try clear c6b0); (try clear p2); obtain ⟨x3_2, x6_2, rfl, HA, HK2, HO_3, HO_4, HB⟩ := hrel
     cases gk with
     | zero => exact absurd HA.out (by simp [spec_l1Type.l1])
     | succ k2 =>
      have H := HA.out; clear HA; simp only [spec_l1Type.l1] at H
      by_cases c7 : x6_2 < (t415.length : Int)
      ·
       rw [if_pos c7] at H; have c7b0 := decide_eq_true c7; clear c7
       by_cases c8 : 0 ≤ x6_2
       ·
        rw [if_pos c8] at H; have c8b0 := decide_eq_true c8; clear c8
        by_cases c9 : ((rd_L1 t415 x6_2).length : Int) = x5_1
        ·
         rw [if_pos c9] at H; have c9b0 := beq_iff_eq.mpr c9; have c9b1 := bne_eq_false_iff_eq.mpr c9; clear c9
         by_cases c10 : x3_2.length < 17592186044416
         ·
          rw [if_pos c10] at H; have LMc10 := Az c10; clear c10; obtain ⟨y419, hy419⟩ : ∃ y_ : List Int, y_ = (x3_2 ++ [x5_1]) := ⟨_, rfl⟩; replace H : (spec_l1Type.l1 k2 y419 t415 x5_1 (wrap64 (x6_2 + 1))) = some r := hR hy419 H; have Ny419 := Az hy419; clear hy419; have H' := Az H; clear H; obtain ⟨Ao11, co11, eo11⟩ := Kd.S_slice HO_4.out; subst eo11; have p418 : 0 ≤ (x6_2 : Int) := oA; have q418 : x6_2 < (t415.length : Int) := oA; obtain ⟨ad418, A418_0, c418_0, e418, hx418_0, hl418_0, hi418_0⟩ := at_L1 (Kd.S_reads' HO_4.out).2.2 x6_2 p418 q418
          cases e418
          obtain ⟨ce418, hce418, hMe418, hcc418⟩ := Kd.S_get HO_4.out [] x6_2 p418 (by first | exact q418 | exact oA | (have e_ := (Kd.S_reads' HO_4.out).1; omega)); obtain ⟨ve418_0, rfl, ge418_0⟩ := hMe418; have hv418_0 := hcc418 0 _ rfl; rw [Nat.add_zero, show ((Kd.slice 3 (Kd.int .i64))).sz = 1 from rfl, Nat.mul_one] at hv418_0; replace hv418_0 := Option.some.inj (hv418_0.symm.trans hx418_0); rw [hv418_0] at ge418_0; have HL418_0 := Az (show Kd.R (Kd.int .i64) 3 _ _ _ _ (rd_L1 t415 x6_2) from ge418_0); clear hv418_0 ge418_0 hcc418 hce418; have HR418_0 := Az hi418_0; have HC418_0 := Az hl418_0; clear hi418_0 hl418_0; replace p418 := eq_true p418; replace q418 := eq_true q418
          go_wp2_with (first | ((with_reducible refine gate_builtin (b := .append) (xs := #[.tmp 29, .tmp 31]) rfl ?_); at_builtin; refine Kd.R_append (Kd.int .i64) (w0 := w) w.heap.size rfl (.tmp 29) (.tmp 31) 23 3 (.int .i64 0) 8 rfl Try.underlying23 info3 rfl (by decide) (by omega) u3 x3_2 x5_1 [.int .i64 x5_1] (fun _ => True) (fun _ => False) rfl rfl ?aP (fun _ hk => hk.elim) ?aF ?aO ?aB ?aS ?aL ?_; (case aP => exact rfl); (case aB => exact (bU0 HB.out)); (case aF => exact (fun _ _ => trivial)); (case aO => exact (rU HO_3.out)); (case aS => exact (below_size (bU0 HB.out))); (case aL => have := LMc10.out; omega); intro v420 w12 ho hb hg hat; rw [← Ny419.out] at ho; have n0 := Az (Kd.S_after (ok := (fun _ => True)) (by (with_reducible repeat (first | apply Kd.S_alloc | apply Kd.S_drewN | apply Kd.S_drew)); exact Kd.S_mono HO_4.out (fun _ hk => ⟨trivial, hk⟩)) hg hat); have n1 := Az (Kd.R_after (ok := (fun k_ => some k_ ≠ (.slice (some ad418) t415.length co11 : Value).ownBlock)) (by (with_reducible repeat (first | apply Kd.R_alloc | apply Kd.R_drewN | apply Kd.R_drew)); exact Kd.R_mono HL418_0.out (fun _ hk => ⟨hk.2, hk.1⟩)) hg hat); have n2 := Az (hb); have n3 := Az (ho); clear HO_4 HL418_0 HB HO_3; have HO_4 := n0; have HL418_0 := n1; have HB := n2; have HO421 := n3; clear n0 n1 n2 n3; clear ho hb hg hat))
          (first | go_roundg k2 | (refine Handed.intro k2 ?measure ?_; rotate_left; go_step; (try simp only [add_plain]); (repeat apply Exists.intro); refine ⟨?rel, rfl⟩))
          case measure => have := HK1.out; have := HK2.out; omega
          case rel => exact ⟨(y419), (wrap64 (x6_2 + 1)), rS, H', ⟨by have := HK1.out; have := HK2.out; omega⟩, ⟨rU HO421.out⟩, ⟨by (with_reducible repeat (first | apply Kd.S_alloc | apply Kd.S_drewN | apply Kd.S_drew)); exact Kd.S_mono HO_4.out (fun _ hk => hk.2)⟩, ⟨bU0 HB.out⟩⟩
         ·
          rw [if_neg c10] at H
          exact absurd H (by simp)
        ·
         rw [if_neg c9] at H; have c9b0 := beq_eq_false_iff_ne.mpr c9; have c9b1 := bne_iff_ne.mpr c9; have H' := Az H; clear H; obtain ⟨Ao13, co13, eo13⟩ := Kd.S_slice HO_4.out; subst eo13; have p418 : 0 ≤ (x6_2 : Int) := oA; have q418 : x6_2 < (t415.length : Int) := oA; obtain ⟨ad418, A418_0, c418_0, e418, hx418_0, hl418_0, hi418_0⟩ := at_L1 (Kd.S_reads' HO_4.out).2.2 x6_2 p418 q418
         cases e418
         obtain ⟨ce418, hce418, hMe418, hcc418⟩ := Kd.S_get HO_4.out [] x6_2 p418 (by first | exact q418 | exact oA | (have e_ := (Kd.S_reads' HO_4.out).1; omega)); obtain ⟨ve418_0, rfl, ge418_0⟩ := hMe418; have hv418_0 := hcc418 0 _ rfl; rw [Nat.add_zero, show ((Kd.slice 3 (Kd.int .i64))).sz = 1 from rfl, Nat.mul_one] at hv418_0; replace hv418_0 := Option.some.inj (hv418_0.symm.trans hx418_0); rw [hv418_0] at ge418_0; have HL418_0 := Az (show Kd.R (Kd.int .i64) 3 _ _ _ _ (rd_L1 t415 x6_2) from ge418_0); clear hv418_0 ge418_0 hcc418 hce418; have HR418_0 := Az hi418_0; have HC418_0 := Az hl418_0; clear hi418_0 hl418_0; replace p418 := eq_true p418; replace q418 := eq_true q418
         go_wp2
         (first | go_roundg k2 | (refine Handed.intro k2 ?measure ?_; rotate_left; go_step; (try simp only [add_plain]); (repeat apply Exists.intro); refine ⟨?rel, rfl⟩))
         case measure => have := HK1.out; have := HK2.out; omega
         case rel => exact ⟨(x3_2), (wrap64 (x6_2 + 1)), rS, H', ⟨by have := HK1.out; have := HK2.out; omega⟩, ⟨rU HO_3.out⟩, ⟨sU HO_4.out⟩, ⟨bU0 HB.out⟩⟩
       ·
        rw [if_neg c8] at H
        exact absurd H (by simp)
      ·
       rw [if_neg c7] at H; have c7b0 := decide_eq_false c7; clear c7; have H' := Az H; clear H; obtain ⟨Ao14, co14, eo14⟩ := Kd.S_slice HO_4.out; subst eo14
       go_wp2
       (first | go_roundg k2 | (refine Handed.intro k2 ?measure ?_; rotate_left; go_step; (try simp only [add_plain]); (repeat apply Exists.intro); refine ⟨?rel, rfl⟩))
       case measure => have := HK1.out; have := HK2.out; omega
       case rel => exact ⟨(x3_2), (wrap64 (x5_1 - 1)), rS, H', ⟨by have := HK1.out; have := HK2.out; omega⟩, ⟨rU HO_3.out⟩, ⟨sU HO_4.out⟩, ⟨bU0 HB.out⟩⟩
   ·
    rw [if_neg c6] at H; have c6b0 := decide_eq_false c6; clear c6; obtain rfl := Option.some.inj H
    go_wp2
    go_ret
    exact ⟨_, rE, rU HO_3.out, bU0 HB.out⟩
def spec_l6qFour.l0 : Nat → List Int → Int → Option (Bool)
 | 0, _, _ => none
 | k + 1, x3, x4 => if x4 < (x3.length : Int) then (if 0 ≤ x4 then (if (rd x3 x4) = 4 then (spec_l6qFour.l0 k x3 (wrap64 (x4 + 1))) else (some false)) else (none)) else (some true)
def spec_l6qFour.f (k : Nat) (l0_0 : List Int) (l0_1 : List Int) : Option (Bool) := (spec_l2Faces.f k l0_0 l0_1).bind fun t423 => ((spec_l1Type.f k t423).bind fun t426 => (spec_l6qFour.l0 k t426 0))
set_option maxHeartbeats 8000000 in
set_option maxRecDepth 100000 in
theorem spec_l6qFour.calls (k : Nat) (A0_0 : Option Addr) (c0_0 : Nat) (l0_0 : List Int) (A0_1 : Option Addr) (c0_1 : Nat) (l0_1 : List Int) (r : Bool) (w : World) (hr0_0 : Kd.C (Kd.int .i64) w A0_0 l0_0.length l0_0) (hc0_0 : l0_0.length ≤ c0_0) (hr0_1 : Kd.C (Kd.int .i64) w A0_1 l0_1.length l0_1) (hc0_1 : l0_1.length ≤ c0_1) (h : spec_l6qFour.f k l0_0 l0_1 = some r) :
  Calls Try.prog 91 #[.agg #[.slice A0_0 l0_0.length c0_0, .slice A0_1 l0_1.length c0_1]] w fun e w' => e = .returned (.bool r) ∧ Below w.heap.size w w' := by
 have hu29 := Try.underlying29; have HR0_0 := Az hr0_0; have HC0_0 := Az hc0_0; clear hr0_0 hc0_0; have HR0_1 := Az hr0_1; have HC0_1 := Az hc0_1; clear hr0_1 hc0_1; have HB := Az (Below.refl w.heap.size w); have H : ((spec_l2Faces.f k l0_0 l0_1).bind fun t423 => ((spec_l1Type.f k t423).bind fun t426 => (spec_l6qFour.l0 k t426 0))) = some r := h; clear h; replace H := Option.bind_eq_some_iff.mp H; obtain ⟨t423, A20, H⟩ := H; replace H : ((spec_l1Type.f k t423).bind fun t426 => (spec_l6qFour.l0 k t426 0)) = some r := H; have A2 := Az A20; clear A20; replace H := Option.bind_eq_some_iff.mp H; obtain ⟨t426, A30, H⟩ := H; replace H : (spec_l6qFour.l0 k t426 0) = some r := H; have A3 := Az A30; clear A30; have H' := Az H; clear H
 go_enter Try.func91, Try.ntmps91
 go_wp2_with (first | ((with_reducible refine gate_dst (N := 1) rfl ?_); refine box_event ?hg (N := 1) ?hd (cs := #[.slice A0_0 l0_0.length c0_0, .slice A0_1 l0_1.length c0_1]) (t := 29) ?hr ?_; (case hd => rfl); (case hg => rfl); (case hr => first | (go_simp; done) | (go_simp; rfl)); intro gb422 hg w4 hbox hb; have n0 := Az (below_step (bU0 HB.out) hb); have n1 := Az (hbox); have n2 := Az ((by rw [hg]; exact (below_size (bU0 HB.out)) : w.heap.size ≤ gb422)); have n3 := n2; clear HB; have HB := n0; have BK422 := n1; have GW422 := n2; have GE422 := n3; clear n0 n1 n2 n3 hb hbox hg; have hcz5_0 : w4.cell? ⟨gb422, 0, none⟩ = some (.slice A0_0 l0_0.length c0_0) := (blk_cell BK422.out 0).trans rfl; have hcz5_1 : w4.cell? ⟨gb422, 1, none⟩ = some (.slice A0_1 l0_1.length c0_1) := (blk_cell BK422.out 1).trans rfl; have hfz5_0 := blk_frozen BK422.out 0; have hfz5_1 := blk_frozen BK422.out 1) | ((with_reducible refine gate_callee (f := 99) rfl ?_); refine goesL_ (some 6) rfl rfl Try.func99 (by kernel_rfl) rfl #[.agg #[.slice A0_0 l0_0.length c0_0, .slice A0_1 l0_1.length c0_1]] rfl (by (try simp only [List.map_toArray, List.map_cons, List.map_nil]); first | done | rfl | (simp only [List.length_drop, List.length_take]; rfl)) ?_; (with_reducible refine (spec_l2Faces.calls k _ _ l0_0 _ _ l0_1 t423 _ ?side1 ?side2 ?side3 ?side4 A2.out).mono ?_); (case side1 => exact cU (Kd.C_below HR0_0.out HB.out)); (case side2 => exact HC0_0.out); (case side3 => exact cU (Kd.C_below HR0_1.out HB.out)); (case side4 => exact HC0_1.out); rintro e w6 ⟨v424, rfl, ho0, hb⟩; refine ⟨_, rfl, ?_⟩; have n0 := Az (Kd.R_lower ho0 (below_size (bU1 HB.out GE422.out))); have n1 := Az (blk_below (g := gb422) (o := .cells #[.slice A0_0 l0_0.length c0_0, .slice A0_1 l0_1.length c0_1] 29 (0, 0)) (kU BK422.out) hb); have n2 := Az (below_step (bU1 HB.out GE422.out) hb); clear BK422 HB; have HO425 := n0; have BK422 := n1; have HB := n2; clear n0 n1 n2; (try clear hb); (try clear hb2); (try clear hk); (try clear hi); (try clear ho0); obtain ⟨Ao7, co7, eo7⟩ := Kd.R_slice HO425.out; subst eo7) | ((with_reducible refine gate_callee (f := 113) rfl ?_); refine goesL_ (some 7) rfl rfl Try.func113 (by kernel_rfl) rfl #[.slice Ao7 t423.length co7] rfl (by (try simp only [List.map_toArray, List.map_cons, List.map_nil]); first | done | rfl | (simp only [List.length_drop, List.length_take]; rfl)) ?_; (with_reducible refine (spec_l1Type.calls k _ _ t423 t426 _ ?side1 ?side2 A3.out).mono ?_); (case side1 => exact cU ((Kd.R_reads' HO425.out).2.2)); (case side2 => exact (Kd.R_reads' HO425.out).2.1); rintro e w8 ⟨v427, rfl, ho0, hb⟩; refine ⟨_, rfl, ?_⟩; have n0 := Az (Kd.R_elder' (rU HO425.out) (Kd.R_base ho0) hb); have n1 := Az (Kd.R_lower (Kd.R_new' ho0 (Kd.R_lt (rU HO425.out))) (below_size (bU1 HB.out GE422.out))); have n2 := Az (blk_below (g := gb422) (o := .cells #[.slice A0_0 l0_0.length c0_0, .slice A0_1 l0_1.length c0_1] 29 (0, 0)) (kU BK422.out) hb); have n3 := Az (below_step (bU1 HB.out GE422.out) hb); clear HO425 BK422 HB; have HO425 := n0; have HO428 := n1; have BK422 := n2; have HB := n3; clear n0 n1 n2 n3; (try clear hb); (try clear hb2); (try clear hk); (try clear hi); (try clear ho0)))
 go_loopg [4] k (fun kq v4 w' => ∃ (x4_1 : Int), v4 = .int .i64 x4_1 ∧ Aside0 (spec_l6qFour.l0 kq t426 x4_1 = some r) ∧ Aside0 (kq ≤ k) ∧ Aside0 (Kd.R (Kd.int .i64) 3 w' w.heap.size (fun _ => True) v427 t426) ∧ Aside0 (w'.heap[gb422]? = some (.cells #[(.slice A0_0 l0_0.length c0_0), (.slice A0_1 l0_1.length c0_1)] 29 (0, 0))) ∧ Aside0 (Below w.heap.size w w'))
 case atStart => exact ⟨(0), rS, H', ⟨Nat.le_refl _⟩, ⟨by (with_reducible repeat (first | apply Kd.R_alloc | apply Kd.R_drewN | apply Kd.R_drew)); exact Kd.R_mono HO428.out (fun _ hk => trivial)⟩, ⟨kU BK422.out⟩, ⟨bU1 HB.out GE422.out⟩⟩
 case round =>
  clear H'; (try clear c1); (try clear p2); (try clear hcz5_0); (try clear hcz5_1); (try clear hfz5_0); (try clear hfz5_1); obtain ⟨x4_1, rfl, HA, HK1, HO_3, BK422, HB⟩ := hrel
  cases gk with
  | zero => exact absurd HA.out (by simp [spec_l6qFour.l0])
  | succ k1 =>
   have H := HA.out; clear HA; simp only [spec_l6qFour.l0] at H
   by_cases c9 : x4_1 < (t426.length : Int)
   ·
    rw [if_pos c9] at H; have c9b0 := decide_eq_true c9; clear c9
    by_cases c10 : 0 ≤ x4_1
    ·
     rw [if_pos c10] at H; have c10b0 := decide_eq_true c10; clear c10
     by_cases c11 : (rd t426 x4_1) = 4
     ·
      rw [if_pos c11] at H; have c11b0 := beq_iff_eq.mpr c11; have c11b1 := bne_eq_false_iff_eq.mpr c11; clear c11; have H' := Az H; clear H; obtain ⟨Ao12, co12, eo12⟩ := Kd.R_slice HO_3.out; subst eo12; have p429 : 0 ≤ (x4_1 : Int) := oA; have q429 : x4_1 < (t426.length : Int) := oA; obtain ⟨ad429, e429, hx429_0⟩ := Kd.at_int (Kd.R_reads' HO_3.out).2.2 x4_1 p429 q429
      cases e429
      replace p429 := eq_true p429; replace q429 := eq_true q429
      go_wp2
      (first | go_roundg k1 | (refine Handed.intro k1 ?measure ?_; rotate_left; go_step; (try simp only [add_plain]); (repeat apply Exists.intro); refine ⟨?rel, rfl⟩))
      case measure => have := HK1.out; omega
      case rel => exact ⟨(wrap64 (x4_1 + 1)), rS, H', ⟨by have := HK1.out; omega⟩, ⟨rU HO_3.out⟩, ⟨kU BK422.out⟩, ⟨bU1 HB.out GE422.out⟩⟩
     ·
      rw [if_neg c11] at H; have c11b0 := beq_eq_false_iff_ne.mpr c11; have c11b1 := bne_iff_ne.mpr c11; obtain rfl := Option.some.inj H; obtain ⟨Ao13, co13, eo13⟩ := Kd.R_slice HO_3.out; subst eo13; have p429 : 0 ≤ (x4_1 : Int) := oA; have q429 : x4_1 < (t426.length : Int) := oA; obtain ⟨ad429, e429, hx429_0⟩ := Kd.at_int (Kd.R_reads' HO_3.out).2.2 x4_1 p429 q429
      cases e429
      replace p429 := eq_true p429; replace q429 := eq_true q429
      go_wp2
      go_ret
      exact ⟨rE, bU1 HB.out GE422.out⟩
    ·
     rw [if_neg c10] at H
     exact absurd H (by simp)
   ·
    rw [if_neg c9] at H; have c9b0 := decide_eq_false c9; clear c9; obtain rfl := Option.some.inj H; obtain ⟨Ao14, co14, eo14⟩ := Kd.R_slice HO_3.out; subst eo14
    go_wp2
    go_ret
    exact ⟨rE, bU1 HB.out GE422.out⟩
def spec_l6In.f (a0 : Int) (a1 : Int) (a2 : Int) : Option (Bool) := if a0 ≥ a1 then (some (decide (a0 ≤ a2))) else (some false)
set_option maxHeartbeats 8000000 in
set_option maxRecDepth 100000 in
theorem spec_l6In.calls (a0 : Int) (a1 : Int) (a2 : Int) (r : Bool) (w : World) (h : spec_l6In.f a0 a1 a2 = some r) :
  Calls Try.prog 63 #[.int .i64 a0, .int .i64 a1, .int .i64 a2] w fun e w' => e = .returned (.bool r) ∧ Drawn0 w w' := by
 have H : (if a0 ≥ a1 then (some (decide (a0 ≤ a2))) else (some false)) = some r := h; clear h
 by_cases c4 : a0 ≥ a1
 ·
  rw [if_pos c4] at H; have c4b0 := decide_eq_true c4; clear c4; obtain rfl := Option.some.inj H
  go_enter Try.func63, Try.ntmps63
  go_wp2
  go_ret
  exact ⟨by first | rfl | (simp; done) | (simp [*]; done), by repeat (first | exact Drawn0.refl _ | apply Drawn0.step)⟩
 ·
  rw [if_neg c4] at H; have c4b0 := decide_eq_false c4; clear c4; obtain rfl := Option.some.inj H
  go_enter Try.func63, Try.ntmps63
  go_wp2
  go_ret
  exact ⟨by first | rfl | (simp; done) | (simp [*]; done), by repeat (first | exact Drawn0.refl _ | apply Drawn0.step)⟩
mutual
def spec_PermValid.l0 : Nat → List Int → Int → Option (Bool)
 | 0, _, _ => none
 | k + 1, x0, x3 => if x3 < (x0.length : Int) then (if 0 ≤ x3 then ((spec_l6In.f (rd x0 x3) 0 (wrap64 ((x0.length : Int) - 1))).bind fun t432 => (if t432 = true then (spec_PermValid.l1 k x0 x3 0) else (some false))) else (none)) else ((spec_l6In.f (x0.length : Int) 1 12).bind fun t430 => (some t430))
def spec_PermValid.l1 : Nat → List Int → Int → Int → Option (Bool)
 | 0, _, _, _ => none
 | k + 1, x0, x3, x4 => if x4 < x3 then (if 0 ≤ x4 then (if x4 < (x0.length : Int) then (if 0 ≤ x3 then (if x3 < (x0.length : Int) then (if (rd x0 x4) = (rd x0 x3) then (some false) else (spec_PermValid.l1 k x0 x3 (wrap64 (x4 + 1)))) else (none)) else (none)) else (none)) else (none)) else (spec_PermValid.l0 k x0 (wrap64 (x3 + 1)))
end
def spec_PermValid.f (k : Nat) (l0 : List Int) : Option (Bool) := spec_PermValid.l0 k l0 0
set_option maxHeartbeats 8000000 in
set_option maxRecDepth 100000 in
theorem spec_PermValid.calls (k : Nat) (A0 : Option Addr) (c0 : Nat) (l0 : List Int) (r : Bool) (w : World) (hr0 : Kd.C (Kd.int .i64) w A0 l0.length l0) (hc0 : l0.length ≤ c0) (h : spec_PermValid.f k l0 = some r) :
  Calls Try.prog 125 #[.slice A0 l0.length c0] w fun e w' => e = .returned (.bool r) ∧ Drawn0 w w' := by
 have HR0 := Az hr0; have HC0 := Az hc0; clear hr0 hc0; have H : (spec_PermValid.l0 k l0 0) = some r := h; clear h; have H' := Az H; clear H
 go_enter Try.func125, Try.ntmps125
 go_wp2
 repeat (go_quiet (fail); try go_wp2)
 go_loopg [3] k (fun kq v3 w' => ∃ (x3_1 : Int), v3 = .int .i64 x3_1 ∧ Aside0 (spec_PermValid.l0 kq l0 x3_1 = some r) ∧ Aside0 (kq ≤ k) ∧ Drawn0 w w')
 case atStart => exact ⟨(0), rS, H', ⟨Nat.le_refl _⟩, by repeat (first | exact Drawn0.refl _ | apply Drawn0.step)⟩
 case round =>
  clear H'; (try clear c1); obtain ⟨x3_1, rfl, HA, HK1, ⟨m1, rfl⟩⟩ := hrel
  cases gk with
  | zero => exact absurd HA.out (by simp [spec_PermValid.l0])
  | succ k1 =>
   have H := HA.out; clear HA; simp only [spec_PermValid.l0] at H
   by_cases c2 : x3_1 < (l0.length : Int)
   ·
    rw [if_pos c2] at H; have c2b0 := decide_eq_true c2; clear c2
    by_cases c3 : 0 ≤ x3_1
    ·
     rw [if_pos c3] at H; have c3b0 := decide_eq_true c3; clear c3; replace H := Option.bind_eq_some_iff.mp H; obtain ⟨t432, A40, H⟩ := H; replace H : (if t432 = true then (spec_PermValid.l1 k1 l0 x3_1 0) else (some false)) = some r := H; have A4 := Az A40; clear A40
     by_cases c5 : t432 = true
     ·
      subst c5
      have H1 : (spec_PermValid.l1 k1 l0 x3_1 0) = some r := by rw [if_pos rfl] at H; exact H
      clear H; have H := H1; clear H1; have H' := Az H; clear H; have p431 : 0 ≤ (x3_1 : Int) := oA; have q431 : x3_1 < (l0.length : Int) := oA; obtain ⟨ad431, e431, hx431_0⟩ := Kd.at_int HR0.out x3_1 p431 q431
      cases e431
      replace p431 := eq_true p431; replace q431 := eq_true q431
      go_wp2_with (first | (go_at_call 63; (with_reducible refine (spec_l6In.calls (rd l0 x3_1) 0 (wrap64 ((l0.length : Int) - 1)) true _ A4.out).mono ?_); rintro e w' ⟨rfl, ⟨nd, rfl⟩⟩; (try first | exact ⟨rfl, _, World.drewN_drewN _ _ _⟩ | exact ⟨rfl, _, Eq.trans (World.drewN_drewN _ _ _) (congrArg (World.drewN _) (Nat.add_assoc _ _ _))⟩)))
      repeat (go_quiet (fail); try go_wp2_with (fail))
      go_loopg [4] k1 (fun kq v4 w' => ∃ (x4_2 : Int), v4 = .int .i64 x4_2 ∧ Aside0 (spec_PermValid.l1 kq l0 x3_1 x4_2 = some r) ∧ Aside0 (kq ≤ k1) ∧ Drawn0 w w')
      case atStart => exact ⟨(0), rS, H', ⟨Nat.le_refl _⟩, by repeat (first | exact Drawn0.refl _ | apply Drawn0.step)⟩
      case round =>
       clear H'; (try clear c1); (try clear c2); (try clear c2b0); (try clear p2); (try clear c3); (try clear c3b0); (try clear p4); (try clear q4); (try clear hx4); (try clear c5); (try clear hx431_0); (try clear p431); (try clear q431); obtain ⟨x4_2, rfl, HA, HK2, ⟨m2, rfl⟩⟩ := hrel
       cases gk with
       | zero => exact absurd HA.out (by simp [spec_PermValid.l1])
       | succ k2 =>
        have H := HA.out; clear HA; simp only [spec_PermValid.l1] at H
        by_cases c6 : x4_2 < x3_1
        ·
         rw [if_pos c6] at H; have c6b0 := decide_eq_true c6; clear c6
         by_cases c7 : 0 ≤ x4_2
         ·
          rw [if_pos c7] at H; have c7b0 := decide_eq_true c7; clear c7
          by_cases c8 : x4_2 < (l0.length : Int)
          ·
           rw [if_pos c8] at H; have c8b0 := decide_eq_true c8; clear c8
           by_cases c9 : 0 ≤ x3_1
           ·
            rw [if_pos c9] at H; have c9b0 := decide_eq_true c9; clear c9
            by_cases c10 : x3_1 < (l0.length : Int)
            ·
             rw [if_pos c10] at H; have c10b0 := decide_eq_true c10; clear c10
             by_cases c11 : (rd l0 x4_2) = (rd l0 x3_1)
             ·
              rw [if_pos c11] at H; have c11b0 := beq_iff_eq.mpr c11; have c11b1 := bne_eq_false_iff_eq.mpr c11; clear c11; obtain rfl := Option.some.inj H; have p433 : 0 ≤ (x4_2 : Int) := oA; have q433 : x4_2 < (l0.length : Int) := oA; obtain ⟨ad433, e433, hx433_0⟩ := Kd.at_int HR0.out x4_2 p433 q433; obtain rfl : ad431 = ad433 := (by injection e433); replace p433 := eq_true p433; replace q433 := eq_true q433; have p434 : 0 ≤ (x3_1 : Int) := oA; have q434 : x3_1 < (l0.length : Int) := oA; obtain ⟨ad434, e434, hx434_0⟩ := Kd.at_int HR0.out x3_1 p434 q434; obtain rfl : ad431 = ad434 := (by injection e434); replace p434 := eq_true p434; replace q434 := eq_true q434
              go_wp2
              repeat (go_quiet (fail); try go_wp2)
              go_ret
              exact ⟨by first | rfl | (simp; done) | (simp [*]; done), by repeat (first | exact Drawn0.refl _ | apply Drawn0.step)⟩
             ·
              rw [if_neg c11] at H; have c11b0 := beq_eq_false_iff_ne.mpr c11; have c11b1 := bne_iff_ne.mpr c11; have H' := Az H; clear H; have p433 : 0 ≤ (x4_2 : Int) := oA; have q433 : x4_2 < (l0.length : Int) := oA; obtain ⟨ad433, e433, hx433_0⟩ := Kd.at_int HR0.out x4_2 p433 q433; obtain rfl : ad431 = ad433 := (by injection e433); replace p433 := eq_true p433; replace q433 := eq_true q433; have p434 : 0 ≤ (x3_1 : Int) := oA; have q434 : x3_1 < (l0.length : Int) := oA; obtain ⟨ad434, e434, hx434_0⟩ := Kd.at_int HR0.out x3_1 p434 q434; obtain rfl : ad431 = ad434 := (by injection e434); replace p434 := eq_true p434; replace q434 := eq_true q434
              go_wp2
              repeat (go_quiet (fail); try go_wp2)
              (first | go_roundg k2 | (refine Handed.intro k2 ?measure ?_; rotate_left; go_step; (try simp only [add_plain]); (repeat apply Exists.intro); refine ⟨?rel, rfl⟩))
              case measure => have := HK1.out; have := HK2.out; omega
              case rel => exact ⟨(wrap64 (x4_2 + 1)), rS, H', ⟨by have := HK1.out; have := HK2.out; omega⟩, by repeat (first | exact Drawn0.refl _ | apply Drawn0.step)⟩
            ·
             rw [if_neg c10] at H
             exact absurd H (by simp)
           ·
            rw [if_neg c9] at H
            exact absurd H (by simp)
          ·
           rw [if_neg c8] at H
           exact absurd H (by simp)
         ·
          rw [if_neg c7] at H
          exact absurd H (by simp)
        ·
         rw [if_neg c6] at H; have c6b0 := decide_eq_false c6; clear c6; have H' := Az H; clear H
         go_wp2
         repeat (go_quiet (fail); try go_wp2)
         (first | go_roundg k2 | (refine Handed.intro k2 ?measure ?_; rotate_left; go_step; (try simp only [add_plain]); (repeat apply Exists.intro); refine ⟨?rel, rfl⟩))
         case measure => have := HK1.out; have := HK2.out; omega
         case rel => exact ⟨(wrap64 (x3_1 + 1)), rS, H', ⟨by have := HK1.out; have := HK2.out; omega⟩, by repeat (first | exact Drawn0.refl _ | apply Drawn0.step)⟩
     ·
      replace c5 := Bool.eq_false_iff.mpr c5; subst c5
      have H1 : (some false) = some r := by rw [if_neg (show ¬ (false = true) by decide)] at H; exact H
      clear H; have H := H1; clear H1; obtain rfl := Option.some.inj H; have p431 : 0 ≤ (x3_1 : Int) := oA; have q431 : x3_1 < (l0.length : Int) := oA; obtain ⟨ad431, e431, hx431_0⟩ := Kd.at_int HR0.out x3_1 p431 q431
      cases e431
      replace p431 := eq_true p431; replace q431 := eq_true q431
      go_wp2_with (first | (go_at_call 63; (with_reducible refine (spec_l6In.calls (rd l0 x3_1) 0 (wrap64 ((l0.length : Int) - 1)) false _ A4.out).mono ?_); rintro e w' ⟨rfl, ⟨nd, rfl⟩⟩; (try first | exact ⟨rfl, _, World.drewN_drewN _ _ _⟩ | exact ⟨rfl, _, Eq.trans (World.drewN_drewN _ _ _) (congrArg (World.drewN _) (Nat.add_assoc _ _ _))⟩)))
      repeat (go_quiet (fail); try go_wp2_with (fail))
      go_ret
      exact ⟨by first | rfl | (simp; done) | (simp [*]; done), by repeat (first | exact Drawn0.refl _ | apply Drawn0.step)⟩
    ·
     rw [if_neg c3] at H
     exact absurd H (by simp)
   ·
    rw [if_neg c2] at H; have c2b0 := decide_eq_false c2; clear c2; replace H := Option.bind_eq_some_iff.mp H; obtain ⟨t430, A120, H⟩ := H; replace H : (some t430) = some r := H; have A12 := Az A120; clear A120; obtain rfl := Option.some.inj H
    go_wp2_with (first | (go_at_call 63; (with_reducible refine (spec_l6In.calls (l0.length : Int) 1 12 t430 _ A12.out).mono ?_); rintro e w' ⟨rfl, ⟨nd, rfl⟩⟩; (try first | exact ⟨rfl, _, World.drewN_drewN _ _ _⟩ | exact ⟨rfl, _, Eq.trans (World.drewN_drewN _ _ _) (congrArg (World.drewN _) (Nat.add_assoc _ _ _))⟩)))
    repeat (go_quiet (fail); try go_wp2_with (fail))
    go_ret
    exact ⟨by first | rfl | (simp; done) | (simp [*]; done), by repeat (first | exact Drawn0.refl _ | apply Drawn0.step)⟩
def spec_l1Both.f (k : Nat) (l0 : List Int) (l1 : List Int) : Option (Bool) := (spec_PermValid.f k l0).bind fun t435 => (if t435 = true then ((spec_PermValid.f k l1).bind fun t436 => (if t436 = true then (some ((l0.length : Int) == (l1.length : Int))) else (some false))) else (some false))
set_option maxHeartbeats 8000000 in
set_option maxRecDepth 100000 in
theorem spec_l1Both.calls (k : Nat) (A0 : Option Addr) (c0 : Nat) (l0 : List Int) (A1 : Option Addr) (c1 : Nat) (l1 : List Int) (r : Bool) (w : World) (hr0 : Kd.C (Kd.int .i64) w A0 l0.length l0) (hc0 : l0.length ≤ c0) (hr1 : Kd.C (Kd.int .i64) w A1 l1.length l1) (hc1 : l1.length ≤ c1) (h : spec_l1Both.f k l0 l1 = some r) :
  Calls Try.prog 111 #[.slice A0 l0.length c0, .slice A1 l1.length c1] w fun e w' => e = .returned (.bool r) ∧ Drawn0 w w' := by
 have HR0 := Az hr0; have HC0 := Az hc0; clear hr0 hc0; have HR1 := Az hr1; have HC1 := Az hc1; clear hr1 hc1; have H : ((spec_PermValid.f k l0).bind fun t435 => (if t435 = true then ((spec_PermValid.f k l1).bind fun t436 => (if t436 = true then (some ((l0.length : Int) == (l1.length : Int))) else (some false))) else (some false))) = some r := h; clear h; replace H := Option.bind_eq_some_iff.mp H; obtain ⟨t435, A30, H⟩ := H; replace H : (if t435 = true then ((spec_PermValid.f k l1).bind fun t436 => (if t436 = true then (some ((l0.length : Int) == (l1.length : Int))) else (some false))) else (some false)) = some r := H; have A3 := Az A30; clear A30
 by_cases c4 : t435 = true
 ·
  subst c4
  have H1 : ((spec_PermValid.f k l1).bind fun t436 => (if t436 = true then (some ((l0.length : Int) == (l1.length : Int))) else (some false))) = some r := by rw [if_pos rfl] at H; exact H
  clear H; have H := H1; clear H1; replace H := Option.bind_eq_some_iff.mp H; obtain ⟨t436, A50, H⟩ := H; replace H : (if t436 = true then (some ((l0.length : Int) == (l1.length : Int))) else (some false)) = some r := H; have A5 := Az A50; clear A50
  by_cases c6 : t436 = true
  ·
   subst c6
   have H1 : (some ((l0.length : Int) == (l1.length : Int))) = some r := by rw [if_pos rfl] at H; exact H
   clear H; have H := H1; clear H1; obtain rfl := Option.some.inj H
   go_enter Try.func111, Try.ntmps111
   go_wp2_with (first | ((with_reducible refine gate_callee (f := 125) rfl ?_); refine goesL_ (some 6) rfl rfl Try.func125 (by kernel_rfl) rfl #[.slice A0 l0.length c0] rfl (by (try simp only [List.map_toArray, List.map_cons, List.map_nil]); first | done | rfl | (simp only [List.length_drop, List.length_take]; rfl)) ?_; (with_reducible refine (spec_PermValid.calls k _ _ l0 true _ ?side1 ?side2 A3.out).mono ?_); (case side1 => exact cU (HR0.out)); (case side2 => exact HC0.out); rintro e w' ⟨rfl, ⟨nd, rfl⟩⟩; refine ⟨_, rfl, ?_⟩) | (go_at_call 125; (with_reducible refine (spec_PermValid.calls k _ _ l1 true _ ?side1 ?side2 A5.out).mono ?_); (case side1 => exact cU (HR1.out)); (case side2 => exact HC1.out); rintro e w' ⟨rfl, ⟨nd, rfl⟩⟩))
   go_ret
   exact ⟨by first | rfl | (simp; done) | (simp [*]; done), by repeat (first | exact Drawn0.refl _ | apply Drawn0.step)⟩
  ·
   replace c6 := Bool.eq_false_iff.mpr c6; subst c6
   have H1 : (some false) = some r := by rw [if_neg (show ¬ (false = true) by decide)] at H; exact H
   clear H; have H := H1; clear H1; obtain rfl := Option.some.inj H
   go_enter Try.func111, Try.ntmps111
   go_wp2_with (first | ((with_reducible refine gate_callee (f := 125) rfl ?_); refine goesL_ (some 6) rfl rfl Try.func125 (by kernel_rfl) rfl #[.slice A0 l0.length c0] rfl (by (try simp only [List.map_toArray, List.map_cons, List.map_nil]); first | done | rfl | (simp only [List.length_drop, List.length_take]; rfl)) ?_; (with_reducible refine (spec_PermValid.calls k _ _ l0 true _ ?side1 ?side2 A3.out).mono ?_); (case side1 => exact cU (HR0.out)); (case side2 => exact HC0.out); rintro e w' ⟨rfl, ⟨nd, rfl⟩⟩; refine ⟨_, rfl, ?_⟩) | (go_at_call 125; (with_reducible refine (spec_PermValid.calls k _ _ l1 false _ ?side1 ?side2 A5.out).mono ?_); (case side1 => exact cU (HR1.out)); (case side2 => exact HC1.out); rintro e w' ⟨rfl, ⟨nd, rfl⟩⟩))
   go_ret
   exact ⟨by first | rfl | (simp; done) | (simp [*]; done), by repeat (first | exact Drawn0.refl _ | apply Drawn0.step)⟩
 ·
  replace c4 := Bool.eq_false_iff.mpr c4; subst c4
  have H1 : (some false) = some r := by rw [if_neg (show ¬ (false = true) by decide)] at H; exact H
  clear H; have H := H1; clear H1; obtain rfl := Option.some.inj H
  go_enter Try.func111, Try.ntmps111
  go_wp2_with (first | ((with_reducible refine gate_callee (f := 125) rfl ?_); refine goesL_ (some 6) rfl rfl Try.func125 (by kernel_rfl) rfl #[.slice A0 l0.length c0] rfl (by (try simp only [List.map_toArray, List.map_cons, List.map_nil]); first | done | rfl | (simp only [List.length_drop, List.length_take]; rfl)) ?_; (with_reducible refine (spec_PermValid.calls k _ _ l0 false _ ?side1 ?side2 A3.out).mono ?_); (case side1 => exact cU (HR0.out)); (case side2 => exact HC0.out); rintro e w' ⟨rfl, ⟨nd, rfl⟩⟩; refine ⟨_, rfl, ?_⟩))
  go_ret
  exact ⟨by first | rfl | (simp; done) | (simp [*]; done), by repeat (first | exact Drawn0.refl _ | apply Drawn0.step)⟩
def spec_l1Same.l0 : Nat → Int → List Int → Int → Option (List Int)
 | 0, _, _, _ => none
 | k + 1, x0, x3, x4 => if x4 < x0 then (if x3.length < 17592186044416 then (spec_l1Same.l0 k x0 (x3 ++ [x4]) (wrap64 (x4 + 1))) else (none)) else (some x3)
def spec_l1Same.f (k : Nat) (a0 : Int) : Option (List Int) := spec_l1Same.l0 k a0 (([] : List Int)) 0
set_option maxHeartbeats 8000000 in
set_option maxRecDepth 100000 in
theorem spec_l1Same.calls (k : Nat) (a0 : Int) (r : List Int) (w : World) (h : spec_l1Same.f k a0 = some r) :
  Calls Try.prog 126 #[.int .i64 a0] w fun e w' => ∃ v0_ : Value, e = .returned (v0_) ∧ Kd.R (Kd.int .i64) 3 w' w.heap.size (fun _ => True) v0_ r ∧ Below w.heap.size w w' := by
 have HB := Az (Below.refl w.heap.size w); have H : (spec_l1Same.l0 k a0 (([] : List Int)) 0) = some r := h; clear h; obtain ⟨y437, hy437⟩ : ∃ y_ : List Int, y_ = (([] : List Int)) := ⟨_, rfl⟩; replace H : (spec_l1Same.l0 k a0 y437 0) = some r := hR hy437 H; have Ny437 := Az hy437; clear hy437; have H' := Az H; clear H
 go_enter Try.func126, Try.ntmps126
 go_wp2_with (first | ((with_reducible refine gate_dst (N := 5) rfl ?_); refine Kd.R_lit (Kd.int .i64) _ 3 ?hg (N := 5) ?hd (xs := ([] : List Int)) (inner := []) (ok := fun _ => True) (okp := fun _ => True) ?hr ?hp (fun _ hk => hk) trivial (Below.refl _ _) (Nat.le_refl _) (by simp) ?_; (case hd => rfl); (case hg => rfl); (case hr => first | (go_simp; done) | (go_simp; rfl)); (case hp => exact (Reps.none _ _)); intro v438 w2 ho3 hb hg_ hnew_; clear hg_ hnew_; (first | rw [← Ny437.out] at ho3 | (simp only [Int.reduceToNat] at ho3; rw [← Ny437.out] at ho3)); have n0 := Az (Kd.R_lower ho3 (below_size (bU0 HB.out))); have n1 := Az (below_step (bU0 HB.out) hb); clear HB; have HO439 := n0; have HB := n1; clear n0 n1; clear hb ho3))
 go_loopg [3, 4] k (fun kq v3 v4 w' => ∃ (x3_1 : List Int) (x4_1 : Int), v4 = .int .i64 x4_1 ∧ Aside0 (spec_l1Same.l0 kq a0 x3_1 x4_1 = some r) ∧ Aside0 (kq ≤ k) ∧ Aside0 (Kd.R (Kd.int .i64) 3 w' w.heap.size (fun _ => True) v3 x3_1) ∧ Aside0 (Below w.heap.size w w'))
 case atStart => exact ⟨(y437), (0), rS, H', ⟨Nat.le_refl _⟩, ⟨rU HO439.out⟩, ⟨bU0 HB.out⟩⟩
 case round =>
  clear H'; (try clear c1); (try clear p2); obtain ⟨x3_1, x4_1, rfl, HA, HK1, HO_3, HB⟩ := hrel
  cases gk with
  | zero => exact absurd HA.out (by simp [spec_l1Same.l0])
  | succ k1 =>
   have H := HA.out; clear HA; simp only [spec_l1Same.l0] at H
   by_cases c4 : x4_1 < a0
   ·
    rw [if_pos c4] at H; have c4b0 := decide_eq_true c4; clear c4
    by_cases c5 : x3_1.length < 17592186044416
    ·
     rw [if_pos c5] at H; have LMc5 := Az c5; clear c5; obtain ⟨y440, hy440⟩ : ∃ y_ : List Int, y_ = (x3_1 ++ [x4_1]) := ⟨_, rfl⟩; replace H : (spec_l1Same.l0 k1 a0 y440 (wrap64 (x4_1 + 1))) = some r := hR hy440 H; have Ny440 := Az hy440; clear hy440; have H' := Az H; clear H
     go_wp2_with (first | ((with_reducible refine gate_builtin (b := .append) (xs := #[.tmp 11, .tmp 13]) rfl ?_); at_builtin; refine Kd.R_append (Kd.int .i64) (w0 := w) w.heap.size rfl (.tmp 11) (.tmp 13) 23 3 (.int .i64 0) 8 rfl Try.underlying23 info3 rfl (by decide) (by omega) u3 x3_1 x4_1 [.int .i64 x4_1] (fun _ => True) (fun _ => False) rfl rfl ?aP (fun _ hk => hk.elim) ?aF ?aO ?aB ?aS ?aL ?_; (case aP => exact rfl); (case aB => exact (bU0 HB.out)); (case aF => exact (fun _ _ => trivial)); (case aO => exact (rU HO_3.out)); (case aS => exact (below_size (bU0 HB.out))); (case aL => have := LMc5.out; omega); intro v441 w6 ho hb hg hat; rw [← Ny440.out] at ho; have n0 := Az (hb); have n1 := Az (ho); clear HB HO_3; have HB := n0; have HO442 := n1; clear n0 n1; clear ho hb hg hat))
     (first | go_roundg k1 | (refine Handed.intro k1 ?measure ?_; rotate_left; go_step; (try simp only [add_plain]); (repeat apply Exists.intro); refine ⟨?rel, rfl⟩))
     case measure => have := HK1.out; omega
     case rel => exact ⟨(y440), (wrap64 (x4_1 + 1)), rS, H', ⟨by have := HK1.out; omega⟩, ⟨rU HO442.out⟩, ⟨bU0 HB.out⟩⟩
    ·
     rw [if_neg c5] at H
     exact absurd H (by simp)
   ·
    rw [if_neg c4] at H; have c4b0 := decide_eq_false c4; clear c4; obtain rfl := Option.some.inj H
    go_wp2
    go_ret
    exact ⟨_, rE, rU HO_3.out, bU0 HB.out⟩
end Go.Proofs.Ytlpbalebodlipaa.PH
