/- For every list of bytes, the law FnLabelsFar answers true: for the tree that it draws, TreeQuad of the program answers what the reference answers, and the labels of a valid tree's corners are the distances from the point, one more than above the least. There are no conditions. -/
import Derived.Test.YtlpbalebodlipaaKFnLabelsFarOwnx1
namespace Go.Proofs.Ytlpbalebodlipaa.PK
open Go.RowKit Go.Proofs.YtlpbalebodlipaaW.PrintWords Go.Proofs.YtlpbalebodlipaaW.PrintLast Go.Proofs.YtlpbalebodlipaaW.PrintMore
attribute [local go_sem] max2_int min2_int max_two min_two max_three min_three max_four min_four   -- for this text's walks alone
set_option linter.unusedVariables false
set_option linter.unusedSimpArgs false
def spec_TreeQuad_up (L : List (Nat × Option Tmp)) (n : Nat) : Array Bool := ((List.range n).map (fun i => !(L.map Prod.fst).contains i)).toArray
section
variable {P : Program} {ops : Array Oper} {Q : Exit → Act → World → Prop} {md : Region.Mode} {S : World → Prop} {ds : List Nat}
theorem spec_TreeQuad_uP {i n : Nat} {N : Option Tmp} {L : List (Nat × Option Tmp)} {oi : Oper} {v : Value} {fuel : Nat} {a : Act} {w : World} (hi : ops[i]? = some oi) (hN : oi.dst = N) (hc : anyB md ops (spec_TreeQuad_up ((i, N) :: L) n) (spec_TreeQuad_up L n) i = true)
  (hQ : ∀ c a w, Q (.panic c) (a.put oi.dst v) w → Q (.panic c) a w) (hw : Region.wanted oi (yielded ops a.tmps) = true) (hy : ∀ w, (execOp a.eval oi).run P w = .ok (.value v) w) {a' : Act} (ha : a.put N v = a')
  (h : wpAnyLast P md ops Q S ds fuel (spec_TreeQuad_up L n) a' w) : wpAnyLast P md ops Q S ds (fuel + 1) (spec_TreeQuad_up ((i, N) :: L) n) a w := pure_ (spec_TreeQuad_up L n) hi hN hc hQ (Or.inl ⟨hw, hy⟩) ha h
theorem spec_TreeQuad_uT {i n : Nat} {N : Option Tmp} {L : List (Nat × Option Tmp)} {oi : Oper} {v : Value} {fuel : Nat} {a : Act} {w : World} (hi : ops[i]? = some oi) (hN : oi.dst = N) (hc : takeB md ops ds (spec_TreeQuad_up ((i, N) :: L) n) (spec_TreeQuad_up L n) i = true)
  (hQ : ∀ c a w, Q (.panic c) (a.put oi.dst v) w → Q (.panic c) a w) (hw : Region.wanted oi (yielded ops a.tmps) = true) (hy : ∀ w, S w → (execOp a.eval oi).run P w = .ok (.value v) w) (hS : S w) {a' : Act} (ha : a.put N v = a')
  (h : wpAnyLast P md ops Q S ds fuel (spec_TreeQuad_up L n) a' w) : wpAnyLast P md ops Q S ds (fuel + 1) (spec_TreeQuad_up ((i, N) :: L) n) a w := take_ (spec_TreeQuad_up L n) hi hN hc hQ (Or.inl ⟨hw, hy⟩) hS ha h
theorem spec_TreeQuad_uO {i n : Nat} {N : Option Tmp} {L : List (Nat × Option Tmp)} {oi : Oper} {fuel : Nat} {a : Act} {w : World} (hi : ops[i]? = some oi) (hN : oi.dst = N) (hc : readyB md ops (spec_TreeQuad_up ((i, N) :: L) n) (spec_TreeQuad_up L n) i = true) (hd : i ∉ ds)
  (h : ∀ K : Act → World → Prop, Shut (∀ a' w', S w' → (S w' → wpAnyLast P md ops Q S ds fuel (spec_TreeQuad_up L n) a' w') → K a' w') → if Region.wanted oi (yielded ops a.tmps) = true then Oper.wp P oi a w K Q else K (a.put N undef) w) :
  wpAnyLast P md ops Q S ds (fuel + 1) (spec_TreeQuad_up ((i, N) :: L) n) a w := one_ (spec_TreeQuad_up L n) hi hN hc hd h
end
mutual
def spec_TreeQuad.l0 : Nat → List Int → List Int → Int → Int → List Int → List Int → Option (List Int × List Int × Int × Bool)
 | 0, _, _, _, _, _, _ => none
 | k + 1, x5, x8, x9, x11, xZ0, xZ1 => if x11 ≤ (wrap64 (Int.tdiv x9 2)) then (spec_TreeQuad.l1 k x5 x8 x9 x11 (([] : List Int)) 0 xZ0 xZ1) else (spec_TreeQuad.l3 k x8 (([] : List Int)) (wrap64 (x9 - 1)) xZ0 xZ1)
def spec_TreeQuad.l1 : Nat → List Int → List Int → Int → Int → List Int → Int → List Int → List Int → Option (List Int × List Int × Int × Bool)
 | 0, _, _, _, _, _, _, _, _ => none
 | k + 1, x5, x8, x9, x11, x12, x13, xZ0, xZ1 => if x13 < x9 then (if 0 ≤ x13 then (if x13 < (x5.length : Int) then (if (rd x5 x13) = x11 then (spec_TreeQuad.l2 k x5 x8 x9 x11 x12 x13 1 xZ0 xZ1) else (spec_TreeQuad.l1 k x5 x8 x9 x11 x12 (wrap64 (x13 + 1)) xZ0 xZ1)) else (none)) else (none)) else ((spec_l6qRing.f k xZ0 x12).bind fun t200 => (spec_TreeQuad.l0 k x5 x8 x9 (wrap64 (x11 + 1)) t200 xZ1))
def spec_TreeQuad.l2 : Nat → List Int → List Int → Int → Int → List Int → Int → Int → List Int → List Int → Option (List Int × List Int × Int × Bool)
 | 0, _, _, _, _, _, _, _, _, _ => none
 | k + 1, x5, x8, x9, x11, x12, x13, x14, xZ0, xZ1 => if x14 < x9 then (if x9 = 0 then (none) else (if 0 ≤ (Int.tmod (wrap64 ((wrap64 (x13 - x14)) + x9)) x9) then (if (Int.tmod (wrap64 ((wrap64 (x13 - x14)) + x9)) x9) < (x8.length : Int) then (if (rd x8 (Int.tmod (wrap64 ((wrap64 (x13 - x14)) + x9)) x9)) = x13 then (if x12.length < 17592186044416 then (spec_TreeQuad.l2 k x5 x8 x9 x11 (x12 ++ [wrap64 ((wrap64 (2 * (Int.tmod (wrap64 ((wrap64 (x13 - x14)) + x9)) x9))) + 1)]) x13 (wrap64 (x14 + 1)) xZ0 xZ1) else (none)) else (spec_TreeQuad.l2 k x5 x8 x9 x11 x12 x13 (wrap64 (x14 + 1)) xZ0 xZ1)) else (none)) else (none))) else (if x12.length < 17592186044416 then (spec_TreeQuad.l1 k x5 x8 x9 x11 (x12 ++ [wrap64 (2 * x13)]) (wrap64 (x13 + 1)) xZ0 xZ1) else (none))
def spec_TreeQuad.l3 : Nat → List Int → List Int → Int → List Int → List Int → Option (List Int × List Int × Int × Bool)
 | 0, _, _, _, _, _ => none
 | k + 1, x8, x16, x17, xZ0, xZ1 => if x17 ≥ 0 then (if 0 ≤ x17 then (if x17 < (x8.length : Int) then (if (rd x8 x17) < 0 then (if x16.length < 17592186044416 then (spec_TreeQuad.l3 k x8 (x16 ++ [wrap64 ((wrap64 (2 * x17)) + 1)]) (wrap64 (x17 - 1)) xZ0 xZ1) else (none)) else (spec_TreeQuad.l3 k x8 x16 (wrap64 (x17 - 1)) xZ0 xZ1)) else (none)) else (none)) else ((spec_l6qRing.f k xZ0 x16).bind fun t216 => (if 0 ≤ (wrap64 ((x16.length : Int) - 1)) then (if (wrap64 ((x16.length : Int) - 1)) < (x16.length : Int) then (some (t216, xZ1, rd x16 (wrap64 ((x16.length : Int) - 1)), true)) else (none)) else (none)))
end
def spec_TreeQuad.f (k : Nat) (a0_0 : ByteArray) (l0_1 : List Int) : Option (List Int × List Int × Int × Bool) := (spec_TreeValid.f k a0_0 l0_1).bind fun t177 => (if t177 = true then ((spec_l6qWalk.f k a0_0 l0_1).bind fun bt178 => ((spec_l6qNext.f k bt178.2.1).bind fun t187 => (if 0 ≤ (wrap64 (2 * (t187.length : Int))) then (if (wrap64 (2 * (t187.length : Int)) : Int).toNat ≤ 35184372088832 then ((spec_l3Flip.f k (t187.length : Int)).bind fun t193 => (spec_TreeQuad.l0 k bt178.1 t187 (t187.length : Int) 0 (List.replicate (wrap64 (2 * (t187.length : Int)) : Int).toNat 0) t193)) else (none)) else (none)))) else (some (([] : List Int), ([] : List Int), 0, false)))
theorem spec_TreeQuad.mono_l : ∀ k, (∀ y0 y1 y2 y3 y4 y5, LeO (spec_TreeQuad.l0 k y0 y1 y2 y3 y4 y5) (spec_TreeQuad.l0 (k + 1) y0 y1 y2 y3 y4 y5)) ∧ (∀ y0 y1 y2 y3 y4 y5 y6 y7, LeO (spec_TreeQuad.l1 k y0 y1 y2 y3 y4 y5 y6 y7) (spec_TreeQuad.l1 (k + 1) y0 y1 y2 y3 y4 y5 y6 y7)) ∧ (∀ y0 y1 y2 y3 y4 y5 y6 y7 y8, LeO (spec_TreeQuad.l2 k y0 y1 y2 y3 y4 y5 y6 y7 y8) (spec_TreeQuad.l2 (k + 1) y0 y1 y2 y3 y4 y5 y6 y7 y8)) ∧ (∀ y0 y1 y2 y3 y4, LeO (spec_TreeQuad.l3 k y0 y1 y2 y3 y4) (spec_TreeQuad.l3 (k + 1) y0 y1 y2 y3 y4))
 | 0 => ⟨fun _ _ _ _ _ _ r h => by simp [spec_TreeQuad.l0] at h, fun _ _ _ _ _ _ _ _ r h => by simp [spec_TreeQuad.l1] at h, fun _ _ _ _ _ _ _ _ _ r h => by simp [spec_TreeQuad.l2] at h, fun _ _ _ _ _ r h => by simp [spec_TreeQuad.l3] at h⟩
 | k + 1 => by
  obtain ⟨ih0, ih1, ih2, ih3⟩ := spec_TreeQuad.mono_l k
  refine ⟨?_, ?_, ?_, ?_⟩
  ·
   intro y0 y1 y2 y3 y4 y5
   unfold spec_TreeQuad.l0
   repeat' first
   | (with_reducible exact ih0 _ _ _ _ _ _)
   | (with_reducible exact ih1 _ _ _ _ _ _ _ _)
   | (with_reducible exact ih2 _ _ _ _ _ _ _ _ _)
   | (with_reducible exact ih3 _ _ _ _ _)
   | (with_reducible exact spec_TreeValid.mono _ _ _)
   | (with_reducible exact spec_l3Flip.mono _ _)
   | (with_reducible exact spec_l6qNext.mono _ _)
   | (with_reducible exact spec_l6qRing.mono _ _ _)
   | (with_reducible exact spec_l6qWalk.mono _ _ _)
   | (with_reducible exact LeO.refl _)
   | (with_reducible exact LeO.none _)
   | (with_reducible refine LeO.ite ?_ ?_)
   | (with_reducible refine LeO.bind ?_ (fun _ => ?_))
   | exact ih0 _ _ _ _ _ _
   | exact ih1 _ _ _ _ _ _ _ _
   | exact ih2 _ _ _ _ _ _ _ _ _
   | exact ih3 _ _ _ _ _
   | exact spec_TreeValid.mono _ _ _
   | exact spec_l3Flip.mono _ _
   | exact spec_l6qNext.mono _ _
   | exact spec_l6qRing.mono _ _ _
   | exact spec_l6qWalk.mono _ _ _
   | exact LeO.none _
   | refine LeO.ite ?_ ?_
   | refine LeO.bind ?_ (fun _ => ?_)
  ·
   intro y0 y1 y2 y3 y4 y5 y6 y7
   unfold spec_TreeQuad.l1
   repeat' first
   | (with_reducible exact ih0 _ _ _ _ _ _)
   | (with_reducible exact ih1 _ _ _ _ _ _ _ _)
   | (with_reducible exact ih2 _ _ _ _ _ _ _ _ _)
   | (with_reducible exact ih3 _ _ _ _ _)
   | (with_reducible exact spec_TreeValid.mono _ _ _)
   | (with_reducible exact spec_l3Flip.mono _ _)
   | (with_reducible exact spec_l6qNext.mono _ _)
   | (with_reducible exact spec_l6qRing.mono _ _ _)
   | (with_reducible exact spec_l6qWalk.mono _ _ _)
   | (with_reducible exact LeO.refl _)
   | (with_reducible exact LeO.none _)
   | (with_reducible refine LeO.ite ?_ ?_)
   | (with_reducible refine LeO.bind ?_ (fun _ => ?_))
   | exact ih0 _ _ _ _ _ _
   | exact ih1 _ _ _ _ _ _ _ _
   | exact ih2 _ _ _ _ _ _ _ _ _
   | exact ih3 _ _ _ _ _
   | exact spec_TreeValid.mono _ _ _
   | exact spec_l3Flip.mono _ _
   | exact spec_l6qNext.mono _ _
   | exact spec_l6qRing.mono _ _ _
   | exact spec_l6qWalk.mono _ _ _
   | exact LeO.none _
   | refine LeO.ite ?_ ?_
   | refine LeO.bind ?_ (fun _ => ?_)
  ·
   intro y0 y1 y2 y3 y4 y5 y6 y7 y8
   unfold spec_TreeQuad.l2
   repeat' first
   | (with_reducible exact ih0 _ _ _ _ _ _)
   | (with_reducible exact ih1 _ _ _ _ _ _ _ _)
   | (with_reducible exact ih2 _ _ _ _ _ _ _ _ _)
   | (with_reducible exact ih3 _ _ _ _ _)
   | (with_reducible exact spec_TreeValid.mono _ _ _)
   | (with_reducible exact spec_l3Flip.mono _ _)
   | (with_reducible exact spec_l6qNext.mono _ _)
   | (with_reducible exact spec_l6qRing.mono _ _ _)
   | (with_reducible exact spec_l6qWalk.mono _ _ _)
   | (with_reducible exact LeO.refl _)
   | (with_reducible exact LeO.none _)
   | (with_reducible refine LeO.ite ?_ ?_)
   | (with_reducible refine LeO.bind ?_ (fun _ => ?_))
   | exact ih0 _ _ _ _ _ _
   | exact ih1 _ _ _ _ _ _ _ _
   | exact ih2 _ _ _ _ _ _ _ _ _
   | exact ih3 _ _ _ _ _
   | exact spec_TreeValid.mono _ _ _
   | exact spec_l3Flip.mono _ _
   | exact spec_l6qNext.mono _ _
   | exact spec_l6qRing.mono _ _ _
   | exact spec_l6qWalk.mono _ _ _
   | exact LeO.none _
   | refine LeO.ite ?_ ?_
   | refine LeO.bind ?_ (fun _ => ?_)
  ·
   intro y0 y1 y2 y3 y4
   unfold spec_TreeQuad.l3
   repeat' first
   | (with_reducible exact ih0 _ _ _ _ _ _)
   | (with_reducible exact ih1 _ _ _ _ _ _ _ _)
   | (with_reducible exact ih2 _ _ _ _ _ _ _ _ _)
   | (with_reducible exact ih3 _ _ _ _ _)
   | (with_reducible exact spec_TreeValid.mono _ _ _)
   | (with_reducible exact spec_l3Flip.mono _ _)
   | (with_reducible exact spec_l6qNext.mono _ _)
   | (with_reducible exact spec_l6qRing.mono _ _ _)
   | (with_reducible exact spec_l6qWalk.mono _ _ _)
   | (with_reducible exact LeO.refl _)
   | (with_reducible exact LeO.none _)
   | (with_reducible refine LeO.ite ?_ ?_)
   | (with_reducible refine LeO.bind ?_ (fun _ => ?_))
   | exact ih0 _ _ _ _ _ _
   | exact ih1 _ _ _ _ _ _ _ _
   | exact ih2 _ _ _ _ _ _ _ _ _
   | exact ih3 _ _ _ _ _
   | exact spec_TreeValid.mono _ _ _
   | exact spec_l3Flip.mono _ _
   | exact spec_l6qNext.mono _ _
   | exact spec_l6qRing.mono _ _ _
   | exact spec_l6qWalk.mono _ _ _
   | exact LeO.none _
   | refine LeO.ite ?_ ?_
   | refine LeO.bind ?_ (fun _ => ?_)
theorem spec_TreeQuad.mono : ∀ a0 a1 k, LeO (spec_TreeQuad.f k a0 a1) (spec_TreeQuad.f (k + 1) a0 a1) := by
 intro a0 a1 k
 obtain ⟨ih0, ih1, ih2, ih3⟩ := spec_TreeQuad.mono_l k
 unfold spec_TreeQuad.f
 repeat' first
   | (with_reducible exact ih0 _ _ _ _ _ _)
   | (with_reducible exact ih1 _ _ _ _ _ _ _ _)
   | (with_reducible exact ih2 _ _ _ _ _ _ _ _ _)
   | (with_reducible exact ih3 _ _ _ _ _)
   | (with_reducible exact spec_TreeValid.mono _ _ _)
   | (with_reducible exact spec_l3Flip.mono _ _)
   | (with_reducible exact spec_l6qNext.mono _ _)
   | (with_reducible exact spec_l6qRing.mono _ _ _)
   | (with_reducible exact spec_l6qWalk.mono _ _ _)
   | (with_reducible exact LeO.refl _)
   | (with_reducible exact LeO.none _)
   | (with_reducible refine LeO.ite ?_ ?_)
   | (with_reducible refine LeO.bind ?_ (fun _ => ?_))
   | exact ih0 _ _ _ _ _ _
   | exact ih1 _ _ _ _ _ _ _ _
   | exact ih2 _ _ _ _ _ _ _ _ _
   | exact ih3 _ _ _ _ _
   | exact spec_TreeValid.mono _ _ _
   | exact spec_l3Flip.mono _ _
   | exact spec_l6qNext.mono _ _
   | exact spec_l6qRing.mono _ _ _
   | exact spec_l6qWalk.mono _ _ _
   | exact LeO.none _
   | refine LeO.ite ?_ ?_
   | refine LeO.bind ?_ (fun _ => ?_)
def spec_TreeQuad.T6 : Bool × List (List Nat × List Nat) := (true, [([], []), ([0], [0]), ([1, 1], [1]), ([], []), ([3], [3]), ([2, 4], [2, 4]), ([], []), ([6, 5, 4, 0, 1, 2, 3, 4, 5, 6], [5, 6])])
def spec_TreeQuad.B6 : List Nat := [0, 1, 3, 0, 8, 31, 0, 127]
theorem spec_TreeQuad.tab6 : rtab .any (opsOf Try.f21 6) = spec_TreeQuad.T6 := by kernel_rfl
theorem spec_TreeQuad.bits6 : waitsOk spec_TreeQuad.T6.2 spec_TreeQuad.B6 = true := by kernel_rfl
def spec_TreeQuad.T30 : Bool × List (List Nat × List Nat) := (true, [([], []), ([], []), ([], []), ([2], [2]), ([3], [3]), ([1, 4], [1, 4]), ([5], [5]), ([0, 0], [0]), ([6, 7, 0, 1, 2, 3, 4, 5, 6, 7], [6]), ([8, 0, 1, 2, 3, 4, 5, 6, 7, 8], [])])
def spec_TreeQuad.B30 : List Nat := [0, 0, 0, 4, 12, 30, 62, 1, 255, 511]
theorem spec_TreeQuad.tab30 : rtab .any (opsOf Try.f21 30) = spec_TreeQuad.T30 := by kernel_rfl
theorem spec_TreeQuad.bits30 : waitsOk spec_TreeQuad.T30.2 spec_TreeQuad.B30 = true := by kernel_rfl
set_option maxHeartbeats 8000000 in
set_option maxRecDepth 100000 in
theorem spec_TreeQuad.calls (k : Nat) (a0_0 : ByteArray) (A0_1 : Option Addr) (c0_1 : Nat) (l0_1 : List Int) (r1 : List Int) (r2 : List Int) (r3 : Int) (r4 : Bool) (w : World) (hr0_1 : Kd.C (Kd.int .i64) w A0_1 l0_1.length l0_1) (hc0_1 : l0_1.length ≤ c0_1) (h : spec_TreeQuad.f k a0_0 l0_1 = some (r1, r2, r3, r4)) :
  Calls Try.prog 21 #[.agg #[.string a0_0, .slice A0_1 l0_1.length c0_1]] w fun e w' => ∃ v0_ v1_ : Value, e = .returned (.tuple #[.agg #[v0_, v1_], .int .i64 r3, .bool r4]) ∧ Kd.R (Kd.int .i64) 3 w' w.heap.size (fun k_ => some k_ ≠ (v1_ : Value).ownBlock) v0_ r1 ∧ Kd.R (Kd.int .i64) 3 w' w.heap.size (fun k_ => some k_ ≠ (v0_ : Value).ownBlock) v1_ r2 ∧ Below w.heap.size w w' := by
 have hu25 := Try.underlying25; have hu29 := Try.underlying29; have HR0_1 := Az hr0_1; have HC0_1 := Az hc0_1; clear hr0_1 hc0_1; have HB := Az (Below.refl w.heap.size w); have H : ((spec_TreeValid.f k a0_0 l0_1).bind fun t177 => (if t177 = true then ((spec_l6qWalk.f k a0_0 l0_1).bind fun bt178 => ((spec_l6qNext.f k bt178.2.1).bind fun t187 => (if 0 ≤ (wrap64 (2 * (t187.length : Int))) then (if (wrap64 (2 * (t187.length : Int)) : Int).toNat ≤ 35184372088832 then ((spec_l3Flip.f k (t187.length : Int)).bind fun t193 => (spec_TreeQuad.l0 k bt178.1 t187 (t187.length : Int) 0 (List.replicate (wrap64 (2 * (t187.length : Int)) : Int).toNat 0) t193)) else (none)) else (none)))) else (some (([] : List Int), ([] : List Int), 0, false)))) = some (r1, r2, r3, r4) := h; clear h; replace H := Option.bind_eq_some_iff.mp H; obtain ⟨t177, A20, H⟩ := H; replace H : (if t177 = true then ((spec_l6qWalk.f k a0_0 l0_1).bind fun bt178 => ((spec_l6qNext.f k bt178.2.1).bind fun t187 => (if 0 ≤ (wrap64 (2 * (t187.length : Int))) then (if (wrap64 (2 * (t187.length : Int)) : Int).toNat ≤ 35184372088832 then ((spec_l3Flip.f k (t187.length : Int)).bind fun t193 => (spec_TreeQuad.l0 k bt178.1 t187 (t187.length : Int) 0 (List.replicate (wrap64 (2 * (t187.length : Int)) : Int).toNat 0) t193)) else (none)) else (none)))) else (some (([] : List Int), ([] : List Int), 0, false))) = some (r1, r2, r3, r4) := H; have A2 := Az A20; clear A20
 by_cases c3 : t177 = true
 ·
  subst c3
  have H1 : ((spec_l6qWalk.f k a0_0 l0_1).bind fun bt178 => ((spec_l6qNext.f k bt178.2.1).bind fun t187 => (if 0 ≤ (wrap64 (2 * (t187.length : Int))) then (if (wrap64 (2 * (t187.length : Int)) : Int).toNat ≤ 35184372088832 then ((spec_l3Flip.f k (t187.length : Int)).bind fun t193 => (spec_TreeQuad.l0 k bt178.1 t187 (t187.length : Int) 0 (List.replicate (wrap64 (2 * (t187.length : Int)) : Int).toNat 0) t193)) else (none)) else (none)))) = some (r1, r2, r3, r4) := by rw [if_pos rfl] at H; exact H
  clear H; have H := H1; clear H1; replace H := Option.bind_eq_some_iff.mp H; obtain ⟨⟨t178, t181, t184⟩, A40, H⟩ := H; replace H : ((spec_l6qNext.f k t181).bind fun t187 => (if 0 ≤ (wrap64 (2 * (t187.length : Int))) then (if (wrap64 (2 * (t187.length : Int)) : Int).toNat ≤ 35184372088832 then ((spec_l3Flip.f k (t187.length : Int)).bind fun t193 => (spec_TreeQuad.l0 k t178 t187 (t187.length : Int) 0 (List.replicate (wrap64 (2 * (t187.length : Int)) : Int).toNat 0) t193)) else (none)) else (none))) = some (r1, r2, r3, r4) := H; have A4 := Az A40; clear A40; replace H := Option.bind_eq_some_iff.mp H; obtain ⟨t187, A50, H⟩ := H; replace H : (if 0 ≤ (wrap64 (2 * (t187.length : Int))) then (if (wrap64 (2 * (t187.length : Int)) : Int).toNat ≤ 35184372088832 then ((spec_l3Flip.f k (t187.length : Int)).bind fun t193 => (spec_TreeQuad.l0 k t178 t187 (t187.length : Int) 0 (List.replicate (wrap64 (2 * (t187.length : Int)) : Int).toNat 0) t193)) else (none)) else (none)) = some (r1, r2, r3, r4) := H; have A5 := Az A50; clear A50; obtain ⟨ji6, hji6⟩ : ∃ j_ : Int, (wrap64 (2 * (t187.length : Int))) = j_ := ⟨_, rfl⟩
  replace H : (if 0 ≤ (ji6) then (if (ji6 : Int).toNat ≤ 35184372088832 then ((spec_l3Flip.f k (t187.length : Int)).bind fun t193 => (spec_TreeQuad.l0 k t178 t187 (t187.length : Int) 0 (List.replicate (ji6 : Int).toNat 0) t193)) else (none)) else (none)) = some (r1, r2, r3, r4) := by first | (rw [hji6] at H; exact H) | (simp only [hji6] at H ⊢; exact H)
  (try rw [hji6] at A2); (try rw [hji6] at A4); (try rw [hji6] at A5); have hji6w : (IntKind.i64.wrap (2 * (t187.length : Int))) = ji6 := (i64_w _).trans hji6
  by_cases c7 : 0 ≤ (ji6)
  ·
   rw [if_pos c7] at H; have c7b0 := eq_true c7; have c7b1 := decide_eq_true c7; clear c7
   by_cases c8 : (ji6 : Int).toNat ≤ 35184372088832
   ·
    rw [if_pos c8] at H; have c8b0 := eq_true c8; have c8b1 := decide_eq_true c8; clear c8; obtain ⟨y190, hy190⟩ : ∃ y_ : List Int, y_ = (List.replicate (ji6 : Int).toNat 0) := ⟨_, rfl⟩; replace H : ((spec_l3Flip.f k (t187.length : Int)).bind fun t193 => (spec_TreeQuad.l0 k t178 t187 (t187.length : Int) 0 y190 t193)) = some (r1, r2, r3, r4) := hR hy190 H; have Ny190 := Az hy190; clear hy190; replace H := Option.bind_eq_some_iff.mp H; obtain ⟨t193, A90, H⟩ := H; replace H : (spec_TreeQuad.l0 k t178 t187 (t187.length : Int) 0 y190 t193) = some (r1, r2, r3, r4) := H; have A9 := Az A90; clear A90; have H' := Az H; clear H
    go_enter Try.func21, Try.ntmps21
    try go_wp2_with (first | ((with_reducible refine gate_dst (N := 1) rfl ?_); refine box_event ?hg (N := 1) ?hd (cs := #[.string a0_0, .slice A0_1 l0_1.length c0_1]) (t := 25) ?hr ?_; (case hd => rfl); (case hg => rfl); (case hr => first | (go_simp; done) | (go_simp; rfl)); intro gb175 hg w10 hbox hb; have n0 := Az (below_step (bU0 HB.out) hb); have n1 := Az (hbox); have n2 := Az ((by rw [hg]; exact (below_size (bU0 HB.out)) : w.heap.size ≤ gb175)); have n3 := n2; clear HB; have HB := n0; have BK175 := n1; have GW175 := n2; have GE175 := n3; clear n0 n1 n2 n3; clear hb hbox hg) | ((with_reducible refine gate_dst (N := 2) rfl ?_); refine box_event ?hg (N := 2) ?hd (cs := #[.slice none 0 0, .slice none 0 0]) (t := 29) ?hr ?_; (case hd => rfl); (case hg => rfl); (case hr => first | (go_simp; done) | (go_simp; rfl)); intro gb176 hg w11 hbox hb; have n0 := Az (blk_below (g := gb175) (o := .cells #[.string a0_0, .slice A0_1 l0_1.length c0_1] 25 (0, 0)) (kU BK175.out) hb); have n1 := Az (below_step (bU1 HB.out GE175.out) hb); have n2 := Az (hbox); have n3 := Az ((by rw [hg]; exact (below_size (bU1 HB.out GE175.out)) : w.heap.size ≤ gb176)); have n4 := n3; have n5 := Az ((by rw [hg]; exact Nat.ne_of_lt (blk_lt (g := gb175) (o := .cells #[.string a0_0, .slice A0_1 l0_1.length c0_1] 25 (0, 0)) (kU BK175.out)) : gb175 ≠ gb176)); have n6 := Az ((by rw [hg]; exact Nat.ne_of_gt (blk_lt (g := gb175) (o := .cells #[.string a0_0, .slice A0_1 l0_1.length c0_1] 25 (0, 0)) (kU BK175.out)) : gb176 ≠ gb175)); clear BK175 HB; have BK175 := n0; have HB := n1; have BK176 := n2; have GW176 := n3; have GE176 := n4; have NB175_176 := n5; have NB176_175 := n6; clear n0 n1 n2 n3 n4 n5 n6 hb hbox hg; have hnb12 := NB175_176.out; have hnc12 := NB176_175.out; have hcz13_0 : w11.cell? ⟨gb175, 0, none⟩ = some (.string a0_0) := (blk_cell BK175.out 0).trans rfl; have hcz13_1 : w11.cell? ⟨gb175, 1, none⟩ = some (.slice A0_1 l0_1.length c0_1) := (blk_cell BK175.out 1).trans rfl; have hfz13_0 := blk_frozen BK175.out 0; have hfz13_1 := blk_frozen BK175.out 1) | ((with_reducible refine gate_callee (f := 17) rfl ?_); refine goesL_ (some 19) rfl rfl Try.func17 (by kernel_rfl) rfl #[.agg #[.string a0_0, .slice A0_1 l0_1.length c0_1]] rfl (by (try simp only [List.map_toArray, List.map_cons, List.map_nil]); first | done | rfl | (simp only [List.length_drop, List.length_take]; rfl)) ?_; (with_reducible refine (spec_TreeValid.calls k a0_0 _ _ l0_1 true _ ?side1 ?side2 A2.out).mono ?_); (case side1 => exact cU (Kd.C_below HR0_1.out HB.out)); (case side2 => exact HC0_1.out); rintro e w14 ⟨rfl, hb⟩; refine ⟨_, rfl, ?_⟩; have n0 := Az (blk_below (g := gb175) (o := .cells #[.string a0_0, .slice A0_1 l0_1.length c0_1] 25 (0, 0)) (kU BK175.out) hb); have n1 := Az (blk_below (g := gb176) (o := .cells #[.slice none 0 0, .slice none 0 0] 29 (0, 0)) (kU BK176.out) hb); have n2 := Az (below_step (bU2 HB.out GE175.out GE176.out) hb); clear BK175 BK176 HB; have BK175 := n0; have BK176 := n1; have HB := n2; clear n0 n1 n2; (try clear hb); (try clear hb2); (try clear hk); (try clear hi); have hcz15_0 : w14.cell? ⟨gb175, 0, none⟩ = some (.string a0_0) := (blk_cell BK175.out 0).trans rfl; have hcz15_1 : w14.cell? ⟨gb175, 1, none⟩ = some (.slice A0_1 l0_1.length c0_1) := (blk_cell BK175.out 1).trans rfl; have hfz15_0 := blk_frozen BK175.out 0; have hfz15_1 := blk_frozen BK175.out 1) | ((with_reducible refine gate_callee (f := 70) rfl ?_); refine goesL_ (some 24) rfl rfl Try.func70 (by kernel_rfl) rfl #[.agg #[.string a0_0, .slice A0_1 l0_1.length c0_1]] rfl (by (try simp only [List.map_toArray, List.map_cons, List.map_nil]); first | done | rfl | (simp only [List.length_drop, List.length_take]; rfl)) ?_; (with_reducible refine (spec_l6qWalk.calls k a0_0 _ _ l0_1 t178 t181 t184 _ ?side1 ?side2 A4.out).mono ?_); (case side1 => exact cU (Kd.C_below HR0_1.out HB.out)); (case side2 => exact HC0_1.out); rintro e w16 ⟨v179, v182, v185, rfl, ho0, ho1, ho2, hb⟩; refine ⟨_, rfl, ?_⟩; have n0 := Az (Kd.R_lower ho0 (below_size (bU2 HB.out GE175.out GE176.out))); have n1 := Az (Kd.R_lower ho1 (below_size (bU2 HB.out GE175.out GE176.out))); have n2 := Az (Kd.R_lower ho2 (below_size (bU2 HB.out GE175.out GE176.out))); have n3 := Az (blk_below (g := gb175) (o := .cells #[.string a0_0, .slice A0_1 l0_1.length c0_1] 25 (0, 0)) (kU BK175.out) hb); have n4 := Az (blk_below (g := gb176) (o := .cells #[.slice none 0 0, .slice none 0 0] 29 (0, 0)) (kU BK176.out) hb); have n5 := Az (below_step (bU2 HB.out GE175.out GE176.out) hb); clear BK175 BK176 HB; have HO180 := n0; have HO183 := n1; have HO186 := n2; have BK175 := n3; have BK176 := n4; have HB := n5; clear n0 n1 n2 n3 n4 n5; (try clear hb); (try clear hb2); (try clear hk); (try clear hi); (try clear ho0); (try clear ho1); (try clear ho2); obtain ⟨Ao17, co17, eo17⟩ := Kd.R_slice HO183.out; subst eo17) | ((with_reducible refine gate_callee (f := 71) rfl ?_); refine goesL_ (some 29) rfl rfl Try.func71 (by kernel_rfl) rfl #[.slice Ao17 t181.length co17] rfl (by (try simp only [List.map_toArray, List.map_cons, List.map_nil]); first | done | rfl | (simp only [List.length_drop, List.length_take]; rfl)) ?_; (with_reducible refine (spec_l6qNext.calls k _ _ t181 t187 _ ?side1 ?side2 A5.out).mono ?_); (case side1 => exact cU ((Kd.R_reads' HO183.out).2.2)); (case side2 => exact (Kd.R_reads' HO183.out).2.1); rintro e w18 ⟨v188, rfl, ho0, hb⟩; refine ⟨_, rfl, ?_⟩; have n0 := Az (Kd.R_elder' (rU HO180.out) (Kd.R_base ho0) hb); have n1 := Az (Kd.R_elder' (rU HO183.out) (Kd.R_base ho0) hb); have n2 := Az (Kd.R_elder' (rU HO186.out) (Kd.R_base ho0) hb); have n3 := Az (Kd.R_lower (Kd.R_new' (Kd.R_new' (Kd.R_new' ho0 (Kd.R_lt (rU HO180.out))) (Kd.R_lt (rU HO183.out))) (Kd.R_lt (rU HO186.out))) (below_size (bU2 HB.out GE175.out GE176.out))); have n4 := Az (blk_below (g := gb175) (o := .cells #[.string a0_0, .slice A0_1 l0_1.length c0_1] 25 (0, 0)) (kU BK175.out) hb); have n5 := Az (blk_below (g := gb176) (o := .cells #[.slice none 0 0, .slice none 0 0] 29 (0, 0)) (kU BK176.out) hb); have n6 := Az (below_step (bU2 HB.out GE175.out GE176.out) hb); clear HO180 HO183 HO186 BK175 BK176 HB; have HO180 := n0; have HO183 := n1; have HO186 := n2; have HO189 := n3; have BK175 := n4; have BK176 := n5; have HB := n6; clear n0 n1 n2 n3 n4 n5 n6; (try clear hb); (try clear hb2); (try clear hk); (try clear hi); (try clear ho0); obtain ⟨Ao19, co19, eo19⟩ := Kd.R_slice HO189.out; subst eo19))
    have n0 := Az (Kd.R_drew HO180.out); have n1 := Az (Kd.R_drew HO183.out); have n2 := Az (Kd.R_drew HO186.out); have n3 := Az (Kd.R_drew HO189.out); have n4 := Az (blk_drew BK175.out); have n5 := Az (blk_drew BK176.out); have n6 := Az (below_drew1 HB.out); clear HO180 HO183 HO186 HO189 BK175 BK176 HB; have HO180 := n0; have HO183 := n1; have HO186 := n2; have HO189 := n3; have BK175 := n4; have BK176 := n5; have HB := n6; clear n0 n1 n2 n3 n4 n5 n6
    refine start_ (n := 8) (S := fun w' => True) (ds := []) #[false, false, false, false, false, false, false, false] (by kernel_rfl) rfl rfl trivial (fun hHeld => ?_); refine with_tabW spec_TreeQuad.tab6 spec_TreeQuad.bits6 (fun HT_ HW_ => ?_)
    generalize w18.drew = w20 at HO180 HO183 HO186 HO189 BK175 BK176 HB hHeld ⊢
    refine pure_ (i := 0) (N := some 32) (v := ?_) (a' := ?_) #[true, false, false, false, false, false, false, false] rfl rfl (any_of HT_.out (by kernel_rfl)) (fun _ _ _ h => h) (Or.inl ⟨by rfl, ?_⟩) ?_ ?_
    rotate_left
    ·
     intro w'
     go_simp
     with_reducible rfl
    rotate_left
    ·
     simp only [Act.put, List.setIfInBounds_toArray, List.set_cons_zero, List.set_cons_succ, i64_w, i32_w]
     rfl
    refine pure_ (i := 1) (N := some 33) (v := ?_) (a' := ?_) #[true, true, false, false, false, false, false, false] rfl rfl (any_of HT_.out (by kernel_rfl)) (fun _ _ _ h => h) (Or.inl ⟨by rfl, ?_⟩) ?_ ?_
    rotate_left
    ·
     intro w'
     go_simp
     with_reducible rfl
    rotate_left
    ·
     simp only [Act.put, List.setIfInBounds_toArray, List.set_cons_zero, List.set_cons_succ, i64_w, i32_w]
     rfl
    refine pure_ (i := 3) (N := some 35) (v := ?_) (a' := ?_) #[true, true, false, true, false, false, false, false] rfl rfl (any_of HT_.out (by kernel_rfl)) (fun _ _ _ h => h) (Or.inl ⟨by rfl, ?_⟩) ?_ ?_
    rotate_left
    ·
     intro w'
     go_simp
     with_reducible rfl
    rotate_left
    ·
     simp only [Act.put, List.setIfInBounds_toArray, List.set_cons_zero, List.set_cons_succ, i64_w, i32_w]
     rfl
    refine join_ (σ := Value × Value × Nat) 1 #[true, true, true, true, true, true, true, false] (fun s_ => [(34, s_.1), (36, s_.2.1), (10, .pointer (some ⟨s_.2.2, 0, none⟩)), (37, .agg #[s_.1, s_.2.1])]) (fun s_ w' => (Kd.R (Kd.int .i64) 3 w' w.heap.size (fun k_ => some k_ ≠ (.slice Ao17 t181.length co17 : Value).ownBlock ∧ some k_ ≠ (v185 : Value).ownBlock ∧ some k_ ≠ (.slice Ao19 t187.length co19 : Value).ownBlock ∧ some k_ ≠ (s_.1 : Value).ownBlock ∧ some k_ ≠ (s_.2.1 : Value).ownBlock) v179 t178) ∧ (Kd.R (Kd.int .i64) 3 w' w.heap.size (fun k_ => some k_ ≠ (v179 : Value).ownBlock ∧ some k_ ≠ (v185 : Value).ownBlock ∧ some k_ ≠ (.slice Ao19 t187.length co19 : Value).ownBlock ∧ some k_ ≠ (s_.1 : Value).ownBlock ∧ some k_ ≠ (s_.2.1 : Value).ownBlock) (.slice Ao17 t181.length co17) t181) ∧ (Kd.R (Kd.int .i64) 3 w' w.heap.size (fun k_ => some k_ ≠ (v179 : Value).ownBlock ∧ some k_ ≠ (.slice Ao17 t181.length co17 : Value).ownBlock ∧ some k_ ≠ (.slice Ao19 t187.length co19 : Value).ownBlock ∧ some k_ ≠ (s_.1 : Value).ownBlock ∧ some k_ ≠ (s_.2.1 : Value).ownBlock) v185 t184) ∧ (Kd.R (Kd.int .i64) 3 w' w.heap.size (fun k_ => some k_ ≠ (v179 : Value).ownBlock ∧ some k_ ≠ (.slice Ao17 t181.length co17 : Value).ownBlock ∧ some k_ ≠ (v185 : Value).ownBlock ∧ some k_ ≠ (s_.1 : Value).ownBlock ∧ some k_ ≠ (s_.2.1 : Value).ownBlock) (.slice Ao19 t187.length co19) t187) ∧ (Kd.R (Kd.int .i64) 3 w' w.heap.size (fun k_ => some k_ ≠ (v179 : Value).ownBlock ∧ some k_ ≠ (.slice Ao17 t181.length co17 : Value).ownBlock ∧ some k_ ≠ (v185 : Value).ownBlock ∧ some k_ ≠ (.slice Ao19 t187.length co19 : Value).ownBlock ∧ some k_ ≠ (s_.2.1 : Value).ownBlock) s_.1 y190) ∧ (Kd.R (Kd.int .i64) 3 w' w.heap.size (fun k_ => some k_ ≠ (v179 : Value).ownBlock ∧ some k_ ≠ (.slice Ao17 t181.length co17 : Value).ownBlock ∧ some k_ ≠ (v185 : Value).ownBlock ∧ some k_ ≠ (.slice Ao19 t187.length co19 : Value).ownBlock ∧ some k_ ≠ (s_.1 : Value).ownBlock) s_.2.1 t193) ∧ (w'.heap[gb175]? = some (.cells #[.string a0_0, .slice A0_1 l0_1.length c0_1] 25 (0, 0))) ∧ (w'.heap[gb176]? = some (.cells #[.slice none 0 0, .slice none 0 0] 29 (0, 0))) ∧ (w'.heap[s_.2.2]? = some (.cells #[.slice none 0 0, .slice none 0 0] 29 (0, 0))) ∧ (w.heap.size ≤ s_.2.2) ∧ (w.heap.size ≤ s_.2.2) ∧ (gb175 ≠ s_.2.2) ∧ (s_.2.2 ≠ gb175) ∧ (gb176 ≠ s_.2.2) ∧ (s_.2.2 ≠ gb176) ∧ (Below w.heap.size w w')) ?_ ?_
    rotate_left
    ·
     intro hJ2_4_6
     refine join_ (σ := Value × Value) 2 #[true, true, true, true, true, true, false, false] (fun s_ => [(34, s_.1), (36, s_.2), (37, .agg #[s_.1, s_.2])]) (fun s_ w' => (Kd.R (Kd.int .i64) 3 w' w.heap.size (fun k_ => some k_ ≠ (.slice Ao17 t181.length co17 : Value).ownBlock ∧ some k_ ≠ (v185 : Value).ownBlock ∧ some k_ ≠ (.slice Ao19 t187.length co19 : Value).ownBlock ∧ some k_ ≠ (s_.1 : Value).ownBlock ∧ some k_ ≠ (s_.2 : Value).ownBlock) v179 t178) ∧ (Kd.R (Kd.int .i64) 3 w' w.heap.size (fun k_ => some k_ ≠ (v179 : Value).ownBlock ∧ some k_ ≠ (v185 : Value).ownBlock ∧ some k_ ≠ (.slice Ao19 t187.length co19 : Value).ownBlock ∧ some k_ ≠ (s_.1 : Value).ownBlock ∧ some k_ ≠ (s_.2 : Value).ownBlock) (.slice Ao17 t181.length co17) t181) ∧ (Kd.R (Kd.int .i64) 3 w' w.heap.size (fun k_ => some k_ ≠ (v179 : Value).ownBlock ∧ some k_ ≠ (.slice Ao17 t181.length co17 : Value).ownBlock ∧ some k_ ≠ (.slice Ao19 t187.length co19 : Value).ownBlock ∧ some k_ ≠ (s_.1 : Value).ownBlock ∧ some k_ ≠ (s_.2 : Value).ownBlock) v185 t184) ∧ (Kd.R (Kd.int .i64) 3 w' w.heap.size (fun k_ => some k_ ≠ (v179 : Value).ownBlock ∧ some k_ ≠ (.slice Ao17 t181.length co17 : Value).ownBlock ∧ some k_ ≠ (v185 : Value).ownBlock ∧ some k_ ≠ (s_.1 : Value).ownBlock ∧ some k_ ≠ (s_.2 : Value).ownBlock) (.slice Ao19 t187.length co19) t187) ∧ (Kd.R (Kd.int .i64) 3 w' w.heap.size (fun k_ => some k_ ≠ (v179 : Value).ownBlock ∧ some k_ ≠ (.slice Ao17 t181.length co17 : Value).ownBlock ∧ some k_ ≠ (v185 : Value).ownBlock ∧ some k_ ≠ (.slice Ao19 t187.length co19 : Value).ownBlock ∧ some k_ ≠ (s_.2 : Value).ownBlock) s_.1 y190) ∧ (Kd.R (Kd.int .i64) 3 w' w.heap.size (fun k_ => some k_ ≠ (v179 : Value).ownBlock ∧ some k_ ≠ (.slice Ao17 t181.length co17 : Value).ownBlock ∧ some k_ ≠ (v185 : Value).ownBlock ∧ some k_ ≠ (.slice Ao19 t187.length co19 : Value).ownBlock ∧ some k_ ≠ (s_.1 : Value).ownBlock) s_.2 t193) ∧ (w'.heap[gb175]? = some (.cells #[.string a0_0, .slice A0_1 l0_1.length c0_1] 25 (0, 0))) ∧ (w'.heap[gb176]? = some (.cells #[.slice none 0 0, .slice none 0 0] 29 (0, 0))) ∧ (Below w.heap.size w w')) ?_ ?_
     rotate_left
     ·
      intro hJ2_4
      refine join_ (σ := Value × Nat) 3 #[true, true, true, true, false, false, true, false] (fun s_ => [(34, s_.1), (10, .pointer (some ⟨s_.2, 0, none⟩))]) (fun s_ w' => (Kd.R (Kd.int .i64) 3 w' w.heap.size (fun k_ => some k_ ≠ (.slice Ao17 t181.length co17 : Value).ownBlock ∧ some k_ ≠ (v185 : Value).ownBlock ∧ some k_ ≠ (.slice Ao19 t187.length co19 : Value).ownBlock ∧ some k_ ≠ (s_.1 : Value).ownBlock) v179 t178) ∧ (Kd.R (Kd.int .i64) 3 w' w.heap.size (fun k_ => some k_ ≠ (v179 : Value).ownBlock ∧ some k_ ≠ (v185 : Value).ownBlock ∧ some k_ ≠ (.slice Ao19 t187.length co19 : Value).ownBlock ∧ some k_ ≠ (s_.1 : Value).ownBlock) (.slice Ao17 t181.length co17) t181) ∧ (Kd.R (Kd.int .i64) 3 w' w.heap.size (fun k_ => some k_ ≠ (v179 : Value).ownBlock ∧ some k_ ≠ (.slice Ao17 t181.length co17 : Value).ownBlock ∧ some k_ ≠ (.slice Ao19 t187.length co19 : Value).ownBlock ∧ some k_ ≠ (s_.1 : Value).ownBlock) v185 t184) ∧ (Kd.R (Kd.int .i64) 3 w' w.heap.size (fun k_ => some k_ ≠ (v179 : Value).ownBlock ∧ some k_ ≠ (.slice Ao17 t181.length co17 : Value).ownBlock ∧ some k_ ≠ (v185 : Value).ownBlock ∧ some k_ ≠ (s_.1 : Value).ownBlock) (.slice Ao19 t187.length co19) t187) ∧ (Kd.R (Kd.int .i64) 3 w' w.heap.size (fun k_ => some k_ ≠ (v179 : Value).ownBlock ∧ some k_ ≠ (.slice Ao17 t181.length co17 : Value).ownBlock ∧ some k_ ≠ (v185 : Value).ownBlock ∧ some k_ ≠ (.slice Ao19 t187.length co19 : Value).ownBlock) s_.1 y190) ∧ (w'.heap[gb175]? = some (.cells #[.string a0_0, .slice A0_1 l0_1.length c0_1] 25 (0, 0))) ∧ (w'.heap[gb176]? = some (.cells #[.slice none 0 0, .slice none 0 0] 29 (0, 0))) ∧ (w'.heap[s_.2]? = some (.cells #[.slice none 0 0, .slice none 0 0] 29 (0, 0))) ∧ (w.heap.size ≤ s_.2) ∧ (w.heap.size ≤ s_.2) ∧ (gb175 ≠ s_.2) ∧ (s_.2 ≠ gb175) ∧ (gb176 ≠ s_.2) ∧ (s_.2 ≠ gb176) ∧ (Below w.heap.size w w')) ?_ ?_
      rotate_left
      ·
       intro hJ2_6
       refine join_ (σ := Value × Nat) 3 #[true, true, false, true, true, false, true, false] (fun s_ => [(36, s_.1), (10, .pointer (some ⟨s_.2, 0, none⟩))]) (fun s_ w' => (Kd.R (Kd.int .i64) 3 w' w.heap.size (fun k_ => some k_ ≠ (.slice Ao17 t181.length co17 : Value).ownBlock ∧ some k_ ≠ (v185 : Value).ownBlock ∧ some k_ ≠ (.slice Ao19 t187.length co19 : Value).ownBlock ∧ some k_ ≠ (s_.1 : Value).ownBlock) v179 t178) ∧ (Kd.R (Kd.int .i64) 3 w' w.heap.size (fun k_ => some k_ ≠ (v179 : Value).ownBlock ∧ some k_ ≠ (v185 : Value).ownBlock ∧ some k_ ≠ (.slice Ao19 t187.length co19 : Value).ownBlock ∧ some k_ ≠ (s_.1 : Value).ownBlock) (.slice Ao17 t181.length co17) t181) ∧ (Kd.R (Kd.int .i64) 3 w' w.heap.size (fun k_ => some k_ ≠ (v179 : Value).ownBlock ∧ some k_ ≠ (.slice Ao17 t181.length co17 : Value).ownBlock ∧ some k_ ≠ (.slice Ao19 t187.length co19 : Value).ownBlock ∧ some k_ ≠ (s_.1 : Value).ownBlock) v185 t184) ∧ (Kd.R (Kd.int .i64) 3 w' w.heap.size (fun k_ => some k_ ≠ (v179 : Value).ownBlock ∧ some k_ ≠ (.slice Ao17 t181.length co17 : Value).ownBlock ∧ some k_ ≠ (v185 : Value).ownBlock ∧ some k_ ≠ (s_.1 : Value).ownBlock) (.slice Ao19 t187.length co19) t187) ∧ (Kd.R (Kd.int .i64) 3 w' w.heap.size (fun k_ => some k_ ≠ (v179 : Value).ownBlock ∧ some k_ ≠ (.slice Ao17 t181.length co17 : Value).ownBlock ∧ some k_ ≠ (v185 : Value).ownBlock ∧ some k_ ≠ (.slice Ao19 t187.length co19 : Value).ownBlock) s_.1 t193) ∧ (w'.heap[gb175]? = some (.cells #[.string a0_0, .slice A0_1 l0_1.length c0_1] 25 (0, 0))) ∧ (w'.heap[gb176]? = some (.cells #[.slice none 0 0, .slice none 0 0] 29 (0, 0))) ∧ (w'.heap[s_.2]? = some (.cells #[.slice none 0 0, .slice none 0 0] 29 (0, 0))) ∧ (w.heap.size ≤ s_.2) ∧ (w.heap.size ≤ s_.2) ∧ (gb175 ≠ s_.2) ∧ (s_.2 ≠ gb175) ∧ (gb176 ≠ s_.2) ∧ (s_.2 ≠ gb176) ∧ (Below w.heap.size w w')) ?_ ?_
       rotate_left
       ·
        intro hJ4_6
        refine join_ (σ := Value) 4 #[true, true, true, true, false, false, false, false] (fun s_ => [(34, s_)]) (fun s_ w' => (Kd.R (Kd.int .i64) 3 w' w.heap.size (fun k_ => some k_ ≠ (.slice Ao17 t181.length co17 : Value).ownBlock ∧ some k_ ≠ (v185 : Value).ownBlock ∧ some k_ ≠ (.slice Ao19 t187.length co19 : Value).ownBlock ∧ some k_ ≠ (s_ : Value).ownBlock) v179 t178) ∧ (Kd.R (Kd.int .i64) 3 w' w.heap.size (fun k_ => some k_ ≠ (v179 : Value).ownBlock ∧ some k_ ≠ (v185 : Value).ownBlock ∧ some k_ ≠ (.slice Ao19 t187.length co19 : Value).ownBlock ∧ some k_ ≠ (s_ : Value).ownBlock) (.slice Ao17 t181.length co17) t181) ∧ (Kd.R (Kd.int .i64) 3 w' w.heap.size (fun k_ => some k_ ≠ (v179 : Value).ownBlock ∧ some k_ ≠ (.slice Ao17 t181.length co17 : Value).ownBlock ∧ some k_ ≠ (.slice Ao19 t187.length co19 : Value).ownBlock ∧ some k_ ≠ (s_ : Value).ownBlock) v185 t184) ∧ (Kd.R (Kd.int .i64) 3 w' w.heap.size (fun k_ => some k_ ≠ (v179 : Value).ownBlock ∧ some k_ ≠ (.slice Ao17 t181.length co17 : Value).ownBlock ∧ some k_ ≠ (v185 : Value).ownBlock ∧ some k_ ≠ (s_ : Value).ownBlock) (.slice Ao19 t187.length co19) t187) ∧ (Kd.R (Kd.int .i64) 3 w' w.heap.size (fun k_ => some k_ ≠ (v179 : Value).ownBlock ∧ some k_ ≠ (.slice Ao17 t181.length co17 : Value).ownBlock ∧ some k_ ≠ (v185 : Value).ownBlock ∧ some k_ ≠ (.slice Ao19 t187.length co19 : Value).ownBlock) s_ y190) ∧ (w'.heap[gb175]? = some (.cells #[.string a0_0, .slice A0_1 l0_1.length c0_1] 25 (0, 0))) ∧ (w'.heap[gb176]? = some (.cells #[.slice none 0 0, .slice none 0 0] 29 (0, 0))) ∧ (Below w.heap.size w w')) ?_ ?_
        rotate_left
        ·
         intro hJ2
         refine join_ (σ := Value) 4 #[true, true, false, true, true, false, false, false] (fun s_ => [(36, s_)]) (fun s_ w' => (Kd.R (Kd.int .i64) 3 w' w.heap.size (fun k_ => some k_ ≠ (.slice Ao17 t181.length co17 : Value).ownBlock ∧ some k_ ≠ (v185 : Value).ownBlock ∧ some k_ ≠ (.slice Ao19 t187.length co19 : Value).ownBlock ∧ some k_ ≠ (s_ : Value).ownBlock) v179 t178) ∧ (Kd.R (Kd.int .i64) 3 w' w.heap.size (fun k_ => some k_ ≠ (v179 : Value).ownBlock ∧ some k_ ≠ (v185 : Value).ownBlock ∧ some k_ ≠ (.slice Ao19 t187.length co19 : Value).ownBlock ∧ some k_ ≠ (s_ : Value).ownBlock) (.slice Ao17 t181.length co17) t181) ∧ (Kd.R (Kd.int .i64) 3 w' w.heap.size (fun k_ => some k_ ≠ (v179 : Value).ownBlock ∧ some k_ ≠ (.slice Ao17 t181.length co17 : Value).ownBlock ∧ some k_ ≠ (.slice Ao19 t187.length co19 : Value).ownBlock ∧ some k_ ≠ (s_ : Value).ownBlock) v185 t184) ∧ (Kd.R (Kd.int .i64) 3 w' w.heap.size (fun k_ => some k_ ≠ (v179 : Value).ownBlock ∧ some k_ ≠ (.slice Ao17 t181.length co17 : Value).ownBlock ∧ some k_ ≠ (v185 : Value).ownBlock ∧ some k_ ≠ (s_ : Value).ownBlock) (.slice Ao19 t187.length co19) t187) ∧ (Kd.R (Kd.int .i64) 3 w' w.heap.size (fun k_ => some k_ ≠ (v179 : Value).ownBlock ∧ some k_ ≠ (.slice Ao17 t181.length co17 : Value).ownBlock ∧ some k_ ≠ (v185 : Value).ownBlock ∧ some k_ ≠ (.slice Ao19 t187.length co19 : Value).ownBlock) s_ t193) ∧ (w'.heap[gb175]? = some (.cells #[.string a0_0, .slice A0_1 l0_1.length c0_1] 25 (0, 0))) ∧ (w'.heap[gb176]? = some (.cells #[.slice none 0 0, .slice none 0 0] 29 (0, 0))) ∧ (Below w.heap.size w w')) ?_ ?_
         rotate_left
         ·
          intro hJ4
          refine join_ (σ := Nat) 4 #[true, true, false, true, false, false, true, false] (fun s_ => [(10, .pointer (some ⟨s_, 0, none⟩))]) (fun s_ w' => (Kd.R (Kd.int .i64) 3 w' w.heap.size (fun k_ => some k_ ≠ (.slice Ao17 t181.length co17 : Value).ownBlock ∧ some k_ ≠ (v185 : Value).ownBlock ∧ some k_ ≠ (.slice Ao19 t187.length co19 : Value).ownBlock) v179 t178) ∧ (Kd.R (Kd.int .i64) 3 w' w.heap.size (fun k_ => some k_ ≠ (v179 : Value).ownBlock ∧ some k_ ≠ (v185 : Value).ownBlock ∧ some k_ ≠ (.slice Ao19 t187.length co19 : Value).ownBlock) (.slice Ao17 t181.length co17) t181) ∧ (Kd.R (Kd.int .i64) 3 w' w.heap.size (fun k_ => some k_ ≠ (v179 : Value).ownBlock ∧ some k_ ≠ (.slice Ao17 t181.length co17 : Value).ownBlock ∧ some k_ ≠ (.slice Ao19 t187.length co19 : Value).ownBlock) v185 t184) ∧ (Kd.R (Kd.int .i64) 3 w' w.heap.size (fun k_ => some k_ ≠ (v179 : Value).ownBlock ∧ some k_ ≠ (.slice Ao17 t181.length co17 : Value).ownBlock ∧ some k_ ≠ (v185 : Value).ownBlock) (.slice Ao19 t187.length co19) t187) ∧ (w'.heap[gb175]? = some (.cells #[.string a0_0, .slice A0_1 l0_1.length c0_1] 25 (0, 0))) ∧ (w'.heap[gb176]? = some (.cells #[.slice none 0 0, .slice none 0 0] 29 (0, 0))) ∧ (w'.heap[s_]? = some (.cells #[.slice none 0 0, .slice none 0 0] 29 (0, 0))) ∧ (w.heap.size ≤ s_) ∧ (w.heap.size ≤ s_) ∧ (gb175 ≠ s_) ∧ (s_ ≠ gb175) ∧ (gb176 ≠ s_) ∧ (s_ ≠ gb176) ∧ (Below w.heap.size w w')) ?_ ?_
          rotate_left
          ·
           intro hJ6
           refine three_ (i := 2) (j := 4) (k := 6) (Ni := some 34) (Nj := some 36) (Nk := some 10) #[true, true, true, true, false, false, false, false] #[true, true, false, true, true, false, false, false] #[true, true, false, true, false, false, true, false] rfl rfl rfl rfl rfl rfl (three_of HT_.out (by kernel_rfl)) (by decide) (by decide) (by decide) (fun K hK => ?_) (fun K hK => ?_) (fun K hK => ?_)
           ·
            skip
            refine Kd.R_make_step (Kd.int .i64) _ 3 (by rfl) (N := 34) rfl 23 _ _ rfl ji6 rfl rfl Try.underlying23 (.int .i64 0) 8 info3 rfl (by decide) (by omega) 0 (ok := fun _ => True) (okp := fun _ => True) rfl (fun _ hk => hk) trivial (oA) (Nat.le_trans (Nat.mul_le_mul_right _ (oA : ji6.toNat ≤ 35184372088832)) (by omega)) (Below.refl _ _) (Nat.le_refl _) ?_
            intro v191 w21 ho22 hb hg_ hnew_
            clear hg_ hnew_; (first | rw [← Ny190.out] at ho22 | (simp only [Int.reduceToNat] at ho22; rw [← Ny190.out] at ho22)); have n0 := Az (Kd.R_elder' (rU HO180.out) (Kd.R_base ho22) hb); have n1 := Az (Kd.R_elder' (rU HO183.out) (Kd.R_base ho22) hb); have n2 := Az (Kd.R_elder' (rU HO186.out) (Kd.R_base ho22) hb); have n3 := Az (Kd.R_elder' (rU HO189.out) (Kd.R_base ho22) hb); have n4 := Az (Kd.R_lower (Kd.R_new' (Kd.R_new' (Kd.R_new' (Kd.R_new' ho22 (Kd.R_lt (rU HO180.out))) (Kd.R_lt (rU HO183.out))) (Kd.R_lt (rU HO186.out))) (Kd.R_lt (rU HO189.out))) (below_size (bU2 HB.out GE175.out GE176.out))); have n5 := Az (blk_below (g := gb175) (o := .cells #[.string a0_0, .slice A0_1 l0_1.length c0_1] 25 (0, 0)) (kU BK175.out) hb); have n6 := Az (blk_below (g := gb176) (o := .cells #[.slice none 0 0, .slice none 0 0] 29 (0, 0)) (kU BK176.out) hb); have n7 := Az (below_step (bU2 HB.out GE175.out GE176.out) hb); clear HO180 HO183 HO186 HO189 BK175 BK176 HB; have HO180 := n0; have HO183 := n1; have HO186 := n2; have HO189 := n3; have HO192 := n4; have BK175 := n5; have BK176 := n6; have HB := n7; clear n0 n1 n2 n3 n4 n5 n6 n7 hb ho22
            refine hK.out _ _ trivial (fun hHeld => ?_)
            clear hK K
            refine norm_ (a' := ?_) ?_ ?_
            rotate_left
            ·
             show Act.put _ (some 34) _ = _
             simp only [Act.put, List.setIfInBounds_toArray, List.set_cons_zero, List.set_cons_succ, i64_w, i32_w]
             rfl
            exact norm_ (by first | (simp only [putAll, Act.put, List.setIfInBounds_toArray, List.set_cons_zero, List.set_cons_succ]; done) | (simp only [putAll, Act.put, List.setIfInBounds_toArray, List.set_cons_zero, List.set_cons_succ]; rfl)) (hJ2 (v191) _ ⟨(by (with_reducible repeat (first | apply Kd.R_alloc | apply Kd.R_drewN | apply Kd.R_drew)); exact Kd.R_mono HO180.out (fun _ hk => ⟨hk.1.1.1, ⟨hk.1.1.2, ⟨hk.1.2, hk.2⟩⟩⟩)), (by (with_reducible repeat (first | apply Kd.R_alloc | apply Kd.R_drewN | apply Kd.R_drew)); exact Kd.R_mono HO183.out (fun _ hk => ⟨hk.1.1.1, ⟨hk.1.1.2, ⟨hk.1.2, hk.2⟩⟩⟩)), (by (with_reducible repeat (first | apply Kd.R_alloc | apply Kd.R_drewN | apply Kd.R_drew)); exact Kd.R_mono HO186.out (fun _ hk => ⟨hk.1.1.1, ⟨hk.1.1.2, ⟨hk.1.2, hk.2⟩⟩⟩)), (by (with_reducible repeat (first | apply Kd.R_alloc | apply Kd.R_drewN | apply Kd.R_drew)); exact Kd.R_mono HO189.out (fun _ hk => ⟨hk.1.1.1.2, ⟨hk.1.1.2, ⟨hk.1.2, hk.2⟩⟩⟩)), (by (with_reducible repeat (first | apply Kd.R_alloc | apply Kd.R_drewN | apply Kd.R_drew)); exact Kd.R_mono HO192.out (fun _ hk => ⟨hk.1.1.1.2, ⟨hk.1.1.2, ⟨hk.1.2, hk.2⟩⟩⟩)), (kU BK175.out), (kU BK176.out), (bU2 HB.out GE175.out GE176.out)⟩)
           ·
            skip
            refine goes_ Try.func72 (by kernel_rfl) rfl #[.int .i64 (t187.length : Int)] (by rfl) rfl rfl (by (try simp only [List.map_toArray, List.map_cons, List.map_nil]); first | done | rfl | (simp only [List.length_drop, List.length_take]; rfl)) ?_
            with_reducible refine (spec_l3Flip.calls k (t187.length : Int) t193 _ A9.out).mono ?_
            rintro e w21 ⟨v194, rfl, ho0, hb⟩
            refine ⟨_, rfl, ?_⟩
            have n0 := Az (Kd.R_elder' (rU HO180.out) (Kd.R_base ho0) hb); have n1 := Az (Kd.R_elder' (rU HO183.out) (Kd.R_base ho0) hb); have n2 := Az (Kd.R_elder' (rU HO186.out) (Kd.R_base ho0) hb); have n3 := Az (Kd.R_elder' (rU HO189.out) (Kd.R_base ho0) hb); have n4 := Az (Kd.R_lower (Kd.R_new' (Kd.R_new' (Kd.R_new' (Kd.R_new' ho0 (Kd.R_lt (rU HO180.out))) (Kd.R_lt (rU HO183.out))) (Kd.R_lt (rU HO186.out))) (Kd.R_lt (rU HO189.out))) (below_size (bU2 HB.out GE175.out GE176.out))); have n5 := Az (blk_below (g := gb175) (o := .cells #[.string a0_0, .slice A0_1 l0_1.length c0_1] 25 (0, 0)) (kU BK175.out) hb); have n6 := Az (blk_below (g := gb176) (o := .cells #[.slice none 0 0, .slice none 0 0] 29 (0, 0)) (kU BK176.out) hb); have n7 := Az (below_step (bU2 HB.out GE175.out GE176.out) hb); clear HO180 HO183 HO186 HO189 BK175 BK176 HB; have HO180 := n0; have HO183 := n1; have HO186 := n2; have HO189 := n3; have HO195 := n4; have BK175 := n5; have BK176 := n6; have HB := n7; clear n0 n1 n2 n3 n4 n5 n6 n7; (try clear hb); (try clear hb2); (try clear hk); (try clear hi); (try clear ho0)
            refine hK.out _ _ trivial (fun hHeld => ?_)
            clear hK K
            refine norm_ (a' := ?_) ?_ ?_
            rotate_left
            ·
             show Act.put _ (some 36) _ = _
             simp only [Act.put, List.setIfInBounds_toArray, List.set_cons_zero, List.set_cons_succ, i64_w, i32_w]
             rfl
            exact norm_ (by first | (simp only [putAll, Act.put, List.setIfInBounds_toArray, List.set_cons_zero, List.set_cons_succ]; done) | (simp only [putAll, Act.put, List.setIfInBounds_toArray, List.set_cons_zero, List.set_cons_succ]; rfl)) (hJ4 (v194) _ ⟨(by (with_reducible repeat (first | apply Kd.R_alloc | apply Kd.R_drewN | apply Kd.R_drew)); exact Kd.R_mono HO180.out (fun _ hk => ⟨hk.1.1.1, ⟨hk.1.1.2, ⟨hk.1.2, hk.2⟩⟩⟩)), (by (with_reducible repeat (first | apply Kd.R_alloc | apply Kd.R_drewN | apply Kd.R_drew)); exact Kd.R_mono HO183.out (fun _ hk => ⟨hk.1.1.1, ⟨hk.1.1.2, ⟨hk.1.2, hk.2⟩⟩⟩)), (by (with_reducible repeat (first | apply Kd.R_alloc | apply Kd.R_drewN | apply Kd.R_drew)); exact Kd.R_mono HO186.out (fun _ hk => ⟨hk.1.1.1, ⟨hk.1.1.2, ⟨hk.1.2, hk.2⟩⟩⟩)), (by (with_reducible repeat (first | apply Kd.R_alloc | apply Kd.R_drewN | apply Kd.R_drew)); exact Kd.R_mono HO189.out (fun _ hk => ⟨hk.1.1.1.2, ⟨hk.1.1.2, ⟨hk.1.2, hk.2⟩⟩⟩)), (by (with_reducible repeat (first | apply Kd.R_alloc | apply Kd.R_drewN | apply Kd.R_drew)); exact Kd.R_mono HO195.out (fun _ hk => ⟨hk.1.1.1.2, ⟨hk.1.1.2, ⟨hk.1.2, hk.2⟩⟩⟩)), (kU BK175.out), (kU BK176.out), (bU2 HB.out GE175.out GE176.out)⟩)
           ·
            skip
            refine box_step ?hg (N := 10) ?hd (cs := #[.slice none 0 0, .slice none 0 0]) (t := 29) ?hr ?_; (case hd => rfl); (case hg => rfl); (case hr => first | (go_simp; done) | (go_simp; rfl))
            intro gb196 hg w21 hbox hb
            have n0 := Az (Kd.R_below (rU HO180.out) hb); have n1 := Az (Kd.R_below (rU HO183.out) hb); have n2 := Az (Kd.R_below (rU HO186.out) hb); have n3 := Az (Kd.R_below (rU HO189.out) hb); have n4 := Az (blk_below (g := gb175) (o := .cells #[.string a0_0, .slice A0_1 l0_1.length c0_1] 25 (0, 0)) (kU BK175.out) hb); have n5 := Az (blk_below (g := gb176) (o := .cells #[.slice none 0 0, .slice none 0 0] 29 (0, 0)) (kU BK176.out) hb); have n6 := Az (below_step (bU2 HB.out GE175.out GE176.out) hb); have n7 := Az (hbox); have n8 := Az ((by rw [hg]; exact (below_size (bU2 HB.out GE175.out GE176.out)) : w.heap.size ≤ gb196)); have n9 := Az ((by rw [hg]; exact (below_size (bU2 HB.out GE175.out GE176.out)) : w.heap.size ≤ gb196)); have n10 := Az ((by rw [hg]; exact Nat.ne_of_lt (blk_lt (g := gb175) (o := .cells #[.string a0_0, .slice A0_1 l0_1.length c0_1] 25 (0, 0)) (kU BK175.out)) : gb175 ≠ gb196)); have n11 := Az ((by rw [hg]; exact Nat.ne_of_gt (blk_lt (g := gb175) (o := .cells #[.string a0_0, .slice A0_1 l0_1.length c0_1] 25 (0, 0)) (kU BK175.out)) : gb196 ≠ gb175)); have n12 := Az ((by rw [hg]; exact Nat.ne_of_lt (blk_lt (g := gb176) (o := .cells #[.slice none 0 0, .slice none 0 0] 29 (0, 0)) (kU BK176.out)) : gb176 ≠ gb196)); have n13 := Az ((by rw [hg]; exact Nat.ne_of_gt (blk_lt (g := gb176) (o := .cells #[.slice none 0 0, .slice none 0 0] 29 (0, 0)) (kU BK176.out)) : gb196 ≠ gb176)); clear HO180 HO183 HO186 HO189 BK175 BK176 HB; have HO180 := n0; have HO183 := n1; have HO186 := n2; have HO189 := n3; have BK175 := n4; have BK176 := n5; have HB := n6; have BK196 := n7; have GW196 := n8; have GE196 := n9; have NB175_196 := n10; have NB196_175 := n11; have NB176_196 := n12; have NB196_176 := n13; clear n0 n1 n2 n3 n4 n5 n6 n7 n8 n9 n10 n11 n12 n13 hb hbox hg
            refine hK.out _ _ trivial (fun hHeld => ?_)
            clear hK K
            refine norm_ (a' := ?_) ?_ ?_
            rotate_left
            ·
             show Act.put _ (some 10) _ = _
             simp only [Act.put, List.setIfInBounds_toArray, List.set_cons_zero, List.set_cons_succ, i64_w, i32_w]
             rfl
            exact norm_ (by first | (simp only [putAll, Act.put, List.setIfInBounds_toArray, List.set_cons_zero, List.set_cons_succ]; done) | (simp only [putAll, Act.put, List.setIfInBounds_toArray, List.set_cons_zero, List.set_cons_succ]; rfl)) (hJ6 (gb196) _ ⟨(by (with_reducible repeat (first | apply Kd.R_alloc | apply Kd.R_drewN | apply Kd.R_drew)); exact Kd.R_mono HO180.out (fun _ hk => ⟨hk.1.1, ⟨hk.1.2, hk.2⟩⟩)), (by (with_reducible repeat (first | apply Kd.R_alloc | apply Kd.R_drewN | apply Kd.R_drew)); exact Kd.R_mono HO183.out (fun _ hk => ⟨hk.1.1, ⟨hk.1.2, hk.2⟩⟩)), (by (with_reducible repeat (first | apply Kd.R_alloc | apply Kd.R_drewN | apply Kd.R_drew)); exact Kd.R_mono HO186.out (fun _ hk => ⟨hk.1.1, ⟨hk.1.2, hk.2⟩⟩)), (by (with_reducible repeat (first | apply Kd.R_alloc | apply Kd.R_drewN | apply Kd.R_drew)); exact Kd.R_mono HO189.out (fun _ hk => ⟨hk.1.1.2, ⟨hk.1.2, hk.2⟩⟩)), (kU BK175.out), (kU BK176.out), (kU BK196.out), GW196.out, GE196.out, NB175_196.out, NB196_175.out, NB176_196.out, NB196_176.out, (bU3 HB.out GE175.out GE176.out GE196.out)⟩)
          ·
           skip
           rintro gb196 w22 ⟨h0_, h1_, h2_, h3_, h4_, h5_, h6_, h7_, h8_, h9_, h10_, h11_, h12_, h13_⟩
           have n0 : Aside0 (Kd.R (Kd.int .i64) 3 w22 w.heap.size (fun k_ => some k_ ≠ (.slice Ao17 t181.length co17 : Value).ownBlock ∧ some k_ ≠ (v185 : Value).ownBlock ∧ some k_ ≠ (.slice Ao19 t187.length co19 : Value).ownBlock) v179 t178) := ⟨h0_⟩; have n1 : Aside0 (Kd.R (Kd.int .i64) 3 w22 w.heap.size (fun k_ => some k_ ≠ (v179 : Value).ownBlock ∧ some k_ ≠ (v185 : Value).ownBlock ∧ some k_ ≠ (.slice Ao19 t187.length co19 : Value).ownBlock) (.slice Ao17 t181.length co17) t181) := ⟨h1_⟩; have n2 : Aside0 (Kd.R (Kd.int .i64) 3 w22 w.heap.size (fun k_ => some k_ ≠ (v179 : Value).ownBlock ∧ some k_ ≠ (.slice Ao17 t181.length co17 : Value).ownBlock ∧ some k_ ≠ (.slice Ao19 t187.length co19 : Value).ownBlock) v185 t184) := ⟨h2_⟩; have n3 : Aside0 (Kd.R (Kd.int .i64) 3 w22 w.heap.size (fun k_ => some k_ ≠ (v179 : Value).ownBlock ∧ some k_ ≠ (.slice Ao17 t181.length co17 : Value).ownBlock ∧ some k_ ≠ (v185 : Value).ownBlock) (.slice Ao19 t187.length co19) t187) := ⟨h3_⟩; have n4 : Aside0 (w22.heap[gb175]? = some (.cells #[.string a0_0, .slice A0_1 l0_1.length c0_1] 25 (0, 0))) := ⟨h4_⟩; have n5 : Aside0 (w22.heap[gb176]? = some (.cells #[.slice none 0 0, .slice none 0 0] 29 (0, 0))) := ⟨h5_⟩; have n6 : Aside0 (w22.heap[gb196]? = some (.cells #[.slice none 0 0, .slice none 0 0] 29 (0, 0))) := ⟨h6_⟩; have n7 : Aside0 (w.heap.size ≤ gb196) := ⟨h7_⟩; have n8 : Aside0 (w.heap.size ≤ gb196) := ⟨h8_⟩; have n9 : Aside0 (gb175 ≠ gb196) := ⟨h9_⟩; have n10 : Aside0 (gb196 ≠ gb175) := ⟨h10_⟩; have n11 : Aside0 (gb176 ≠ gb196) := ⟨h11_⟩; have n12 : Aside0 (gb196 ≠ gb176) := ⟨h12_⟩; have n13 : Aside0 (Below w.heap.size w w22) := ⟨h13_⟩; clear HO180 HO183 HO186 HO189 BK175 BK176 HB h0_ h1_ h2_ h3_ h4_ h5_ h6_ h7_ h8_ h9_ h10_ h11_ h12_ h13_; have HO180 := n0; have HO183 := n1; have HO186 := n2; have HO189 := n3; have BK175 := n4; have BK176 := n5; have BK196 := n6; have GW196 := n7; have GE196 := n8; have NB175_196 := n9; have NB196_175 := n10; have NB176_196 := n11; have NB196_176 := n12; have HB := n13; clear n0 n1 n2 n3 n4 n5 n6 n7 n8 n9 n10 n11 n12 n13; have hHeld := trivial
           refine norm_ (a' := ?_) ?_ ?_
           rotate_left
           ·
            simp only [putAll, Act.put, List.setIfInBounds_toArray, List.set_cons_zero, List.set_cons_succ]
            rfl
           refine two_ (i := 2) (j := 4) (Ni := some 34) (Nj := some 36) #[true, true, true, true, false, false, true, false] #[true, true, false, true, true, false, true, false] rfl rfl rfl rfl (two_of HT_.out (by kernel_rfl)) (by decide) (by decide) (fun K hK => ?_) (fun K hK => ?_)
           ·
            skip
            refine Kd.R_make_step (Kd.int .i64) _ 3 (by rfl) (N := 34) rfl 23 _ _ rfl ji6 rfl rfl Try.underlying23 (.int .i64 0) 8 info3 rfl (by decide) (by omega) 0 (ok := fun _ => True) (okp := fun _ => True) rfl (fun _ hk => hk) trivial (oA) (Nat.le_trans (Nat.mul_le_mul_right _ (oA : ji6.toNat ≤ 35184372088832)) (by omega)) (Below.refl _ _) (Nat.le_refl _) ?_
            intro v191 w23 ho24 hb hg_ hnew_
            clear hg_ hnew_; (first | rw [← Ny190.out] at ho24 | (simp only [Int.reduceToNat] at ho24; rw [← Ny190.out] at ho24)); have n0 := Az (Kd.R_elder' (rU HO180.out) (Kd.R_base ho24) hb); have n1 := Az (Kd.R_elder' (rU HO183.out) (Kd.R_base ho24) hb); have n2 := Az (Kd.R_elder' (rU HO186.out) (Kd.R_base ho24) hb); have n3 := Az (Kd.R_elder' (rU HO189.out) (Kd.R_base ho24) hb); have n4 := Az (Kd.R_lower (Kd.R_new' (Kd.R_new' (Kd.R_new' (Kd.R_new' ho24 (Kd.R_lt (rU HO180.out))) (Kd.R_lt (rU HO183.out))) (Kd.R_lt (rU HO186.out))) (Kd.R_lt (rU HO189.out))) (below_size (bU3 HB.out GE175.out GE176.out GE196.out))); have n5 := Az (blk_below (g := gb175) (o := .cells #[.string a0_0, .slice A0_1 l0_1.length c0_1] 25 (0, 0)) (kU BK175.out) hb); have n6 := Az (blk_below (g := gb176) (o := .cells #[.slice none 0 0, .slice none 0 0] 29 (0, 0)) (kU BK176.out) hb); have n7 := Az (blk_below (g := gb196) (o := .cells #[.slice none 0 0, .slice none 0 0] 29 (0, 0)) (kU BK196.out) hb); have n8 := Az (below_step (bU3 HB.out GE175.out GE176.out GE196.out) hb); clear HO180 HO183 HO186 HO189 BK175 BK176 BK196 HB; have HO180 := n0; have HO183 := n1; have HO186 := n2; have HO189 := n3; have HO192 := n4; have BK175 := n5; have BK176 := n6; have BK196 := n7; have HB := n8; clear n0 n1 n2 n3 n4 n5 n6 n7 n8 hb ho24
            refine hK.out _ _ trivial (fun hHeld => ?_)
            clear hK K
            refine norm_ (a' := ?_) ?_ ?_
            rotate_left
            ·
             show Act.put _ (some 34) _ = _
             simp only [Act.put, List.setIfInBounds_toArray, List.set_cons_zero, List.set_cons_succ, i64_w, i32_w]
             rfl
            exact norm_ (by first | (simp only [putAll, Act.put, List.setIfInBounds_toArray, List.set_cons_zero, List.set_cons_succ]; done) | (simp only [putAll, Act.put, List.setIfInBounds_toArray, List.set_cons_zero, List.set_cons_succ]; rfl)) (hJ2_6 (v191, gb196) _ ⟨(by (with_reducible repeat (first | apply Kd.R_alloc | apply Kd.R_drewN | apply Kd.R_drew)); exact Kd.R_mono HO180.out (fun _ hk => ⟨hk.1.1, ⟨hk.1.2.1, ⟨hk.1.2.2, hk.2⟩⟩⟩)), (by (with_reducible repeat (first | apply Kd.R_alloc | apply Kd.R_drewN | apply Kd.R_drew)); exact Kd.R_mono HO183.out (fun _ hk => ⟨hk.1.1, ⟨hk.1.2.1, ⟨hk.1.2.2, hk.2⟩⟩⟩)), (by (with_reducible repeat (first | apply Kd.R_alloc | apply Kd.R_drewN | apply Kd.R_drew)); exact Kd.R_mono HO186.out (fun _ hk => ⟨hk.1.1, ⟨hk.1.2.1, ⟨hk.1.2.2, hk.2⟩⟩⟩)), (by (with_reducible repeat (first | apply Kd.R_alloc | apply Kd.R_drewN | apply Kd.R_drew)); exact Kd.R_mono HO189.out (fun _ hk => ⟨hk.1.1, ⟨hk.1.2.1, ⟨hk.1.2.2, hk.2⟩⟩⟩)), (by (with_reducible repeat (first | apply Kd.R_alloc | apply Kd.R_drewN | apply Kd.R_drew)); exact Kd.R_mono HO192.out (fun _ hk => ⟨hk.1.1.1.2, ⟨hk.1.1.2, ⟨hk.1.2, hk.2⟩⟩⟩)), (kU BK175.out), (kU BK176.out), (kU BK196.out), GW196.out, GE196.out, NB175_196.out, NB196_175.out, NB176_196.out, NB196_176.out, (bU3 HB.out GE175.out GE176.out GE196.out)⟩)
           ·
            skip
            refine goes_ Try.func72 (by kernel_rfl) rfl #[.int .i64 (t187.length : Int)] (by rfl) rfl rfl (by (try simp only [List.map_toArray, List.map_cons, List.map_nil]); first | done | rfl | (simp only [List.length_drop, List.length_take]; rfl)) ?_
            with_reducible refine (spec_l3Flip.calls k (t187.length : Int) t193 _ A9.out).mono ?_
            rintro e w23 ⟨v194, rfl, ho0, hb⟩
            refine ⟨_, rfl, ?_⟩
            have n0 := Az (Kd.R_elder' (rU HO180.out) (Kd.R_base ho0) hb); have n1 := Az (Kd.R_elder' (rU HO183.out) (Kd.R_base ho0) hb); have n2 := Az (Kd.R_elder' (rU HO186.out) (Kd.R_base ho0) hb); have n3 := Az (Kd.R_elder' (rU HO189.out) (Kd.R_base ho0) hb); have n4 := Az (Kd.R_lower (Kd.R_new' (Kd.R_new' (Kd.R_new' (Kd.R_new' ho0 (Kd.R_lt (rU HO180.out))) (Kd.R_lt (rU HO183.out))) (Kd.R_lt (rU HO186.out))) (Kd.R_lt (rU HO189.out))) (below_size (bU3 HB.out GE175.out GE176.out GE196.out))); have n5 := Az (blk_below (g := gb175) (o := .cells #[.string a0_0, .slice A0_1 l0_1.length c0_1] 25 (0, 0)) (kU BK175.out) hb); have n6 := Az (blk_below (g := gb176) (o := .cells #[.slice none 0 0, .slice none 0 0] 29 (0, 0)) (kU BK176.out) hb); have n7 := Az (blk_below (g := gb196) (o := .cells #[.slice none 0 0, .slice none 0 0] 29 (0, 0)) (kU BK196.out) hb); have n8 := Az (below_step (bU3 HB.out GE175.out GE176.out GE196.out) hb); clear HO180 HO183 HO186 HO189 BK175 BK176 BK196 HB; have HO180 := n0; have HO183 := n1; have HO186 := n2; have HO189 := n3; have HO195 := n4; have BK175 := n5; have BK176 := n6; have BK196 := n7; have HB := n8; clear n0 n1 n2 n3 n4 n5 n6 n7 n8; (try clear hb); (try clear hb2); (try clear hk); (try clear hi); (try clear ho0)
            refine hK.out _ _ trivial (fun hHeld => ?_)
            clear hK K
            refine norm_ (a' := ?_) ?_ ?_
            rotate_left
            ·
             show Act.put _ (some 36) _ = _
             simp only [Act.put, List.setIfInBounds_toArray, List.set_cons_zero, List.set_cons_succ, i64_w, i32_w]
             rfl
            exact norm_ (by first | (simp only [putAll, Act.put, List.setIfInBounds_toArray, List.set_cons_zero, List.set_cons_succ]; done) | (simp only [putAll, Act.put, List.setIfInBounds_toArray, List.set_cons_zero, List.set_cons_succ]; rfl)) (hJ4_6 (v194, gb196) _ ⟨(by (with_reducible repeat (first | apply Kd.R_alloc | apply Kd.R_drewN | apply Kd.R_drew)); exact Kd.R_mono HO180.out (fun _ hk => ⟨hk.1.1, ⟨hk.1.2.1, ⟨hk.1.2.2, hk.2⟩⟩⟩)), (by (with_reducible repeat (first | apply Kd.R_alloc | apply Kd.R_drewN | apply Kd.R_drew)); exact Kd.R_mono HO183.out (fun _ hk => ⟨hk.1.1, ⟨hk.1.2.1, ⟨hk.1.2.2, hk.2⟩⟩⟩)), (by (with_reducible repeat (first | apply Kd.R_alloc | apply Kd.R_drewN | apply Kd.R_drew)); exact Kd.R_mono HO186.out (fun _ hk => ⟨hk.1.1, ⟨hk.1.2.1, ⟨hk.1.2.2, hk.2⟩⟩⟩)), (by (with_reducible repeat (first | apply Kd.R_alloc | apply Kd.R_drewN | apply Kd.R_drew)); exact Kd.R_mono HO189.out (fun _ hk => ⟨hk.1.1, ⟨hk.1.2.1, ⟨hk.1.2.2, hk.2⟩⟩⟩)), (by (with_reducible repeat (first | apply Kd.R_alloc | apply Kd.R_drewN | apply Kd.R_drew)); exact Kd.R_mono HO195.out (fun _ hk => ⟨hk.1.1.1.2, ⟨hk.1.1.2, ⟨hk.1.2, hk.2⟩⟩⟩)), (kU BK175.out), (kU BK176.out), (kU BK196.out), GW196.out, GE196.out, NB175_196.out, NB196_175.out, NB176_196.out, NB196_176.out, (bU3 HB.out GE175.out GE176.out GE196.out)⟩)
         ·
          skip
          rintro v194 w22 ⟨h0_, h1_, h2_, h3_, h4_, h5_, h6_, h7_⟩
          have n0 : Aside0 (Kd.R (Kd.int .i64) 3 w22 w.heap.size (fun k_ => some k_ ≠ (.slice Ao17 t181.length co17 : Value).ownBlock ∧ some k_ ≠ (v185 : Value).ownBlock ∧ some k_ ≠ (.slice Ao19 t187.length co19 : Value).ownBlock ∧ some k_ ≠ (v194 : Value).ownBlock) v179 t178) := ⟨h0_⟩; have n1 : Aside0 (Kd.R (Kd.int .i64) 3 w22 w.heap.size (fun k_ => some k_ ≠ (v179 : Value).ownBlock ∧ some k_ ≠ (v185 : Value).ownBlock ∧ some k_ ≠ (.slice Ao19 t187.length co19 : Value).ownBlock ∧ some k_ ≠ (v194 : Value).ownBlock) (.slice Ao17 t181.length co17) t181) := ⟨h1_⟩; have n2 : Aside0 (Kd.R (Kd.int .i64) 3 w22 w.heap.size (fun k_ => some k_ ≠ (v179 : Value).ownBlock ∧ some k_ ≠ (.slice Ao17 t181.length co17 : Value).ownBlock ∧ some k_ ≠ (.slice Ao19 t187.length co19 : Value).ownBlock ∧ some k_ ≠ (v194 : Value).ownBlock) v185 t184) := ⟨h2_⟩; have n3 : Aside0 (Kd.R (Kd.int .i64) 3 w22 w.heap.size (fun k_ => some k_ ≠ (v179 : Value).ownBlock ∧ some k_ ≠ (.slice Ao17 t181.length co17 : Value).ownBlock ∧ some k_ ≠ (v185 : Value).ownBlock ∧ some k_ ≠ (v194 : Value).ownBlock) (.slice Ao19 t187.length co19) t187) := ⟨h3_⟩; have n4 : Aside0 (Kd.R (Kd.int .i64) 3 w22 w.heap.size (fun k_ => some k_ ≠ (v179 : Value).ownBlock ∧ some k_ ≠ (.slice Ao17 t181.length co17 : Value).ownBlock ∧ some k_ ≠ (v185 : Value).ownBlock ∧ some k_ ≠ (.slice Ao19 t187.length co19 : Value).ownBlock) v194 t193) := ⟨h4_⟩; have n5 : Aside0 (w22.heap[gb175]? = some (.cells #[.string a0_0, .slice A0_1 l0_1.length c0_1] 25 (0, 0))) := ⟨h5_⟩; have n6 : Aside0 (w22.heap[gb176]? = some (.cells #[.slice none 0 0, .slice none 0 0] 29 (0, 0))) := ⟨h6_⟩; have n7 : Aside0 (Below w.heap.size w w22) := ⟨h7_⟩; clear HO180 HO183 HO186 HO189 BK175 BK176 HB h0_ h1_ h2_ h3_ h4_ h5_ h6_ h7_; have HO180 := n0; have HO183 := n1; have HO186 := n2; have HO189 := n3; have HO195 := n4; have BK175 := n5; have BK176 := n6; have HB := n7; clear n0 n1 n2 n3 n4 n5 n6 n7; have hHeld := trivial
          refine norm_ (a' := ?_) ?_ ?_
          rotate_left
          ·
           simp only [putAll, Act.put, List.setIfInBounds_toArray, List.set_cons_zero, List.set_cons_succ]
           rfl
          refine two_ (i := 2) (j := 6) (Ni := some 34) (Nj := some 10) #[true, true, true, true, true, false, false, false] #[true, true, false, true, true, false, true, false] rfl rfl rfl rfl (two_of HT_.out (by kernel_rfl)) (by decide) (by decide) (fun K hK => ?_) (fun K hK => ?_)
          ·
           skip
           refine Kd.R_make_step (Kd.int .i64) _ 3 (by rfl) (N := 34) rfl 23 _ _ rfl ji6 rfl rfl Try.underlying23 (.int .i64 0) 8 info3 rfl (by decide) (by omega) 0 (ok := fun _ => True) (okp := fun _ => True) rfl (fun _ hk => hk) trivial (oA) (Nat.le_trans (Nat.mul_le_mul_right _ (oA : ji6.toNat ≤ 35184372088832)) (by omega)) (Below.refl _ _) (Nat.le_refl _) ?_
           intro v191 w23 ho24 hb hg_ hnew_
           clear hg_ hnew_; (first | rw [← Ny190.out] at ho24 | (simp only [Int.reduceToNat] at ho24; rw [← Ny190.out] at ho24)); have n0 := Az (Kd.R_elder' (rU HO180.out) (Kd.R_base ho24) hb); have n1 := Az (Kd.R_elder' (rU HO183.out) (Kd.R_base ho24) hb); have n2 := Az (Kd.R_elder' (rU HO186.out) (Kd.R_base ho24) hb); have n3 := Az (Kd.R_elder' (rU HO189.out) (Kd.R_base ho24) hb); have n4 := Az (Kd.R_elder' (rU HO195.out) (Kd.R_base ho24) hb); have n5 := Az (Kd.R_lower (Kd.R_new' (Kd.R_new' (Kd.R_new' (Kd.R_new' (Kd.R_new' ho24 (Kd.R_lt (rU HO180.out))) (Kd.R_lt (rU HO183.out))) (Kd.R_lt (rU HO186.out))) (Kd.R_lt (rU HO189.out))) (Kd.R_lt (rU HO195.out))) (below_size (bU2 HB.out GE175.out GE176.out))); have n6 := Az (blk_below (g := gb175) (o := .cells #[.string a0_0, .slice A0_1 l0_1.length c0_1] 25 (0, 0)) (kU BK175.out) hb); have n7 := Az (blk_below (g := gb176) (o := .cells #[.slice none 0 0, .slice none 0 0] 29 (0, 0)) (kU BK176.out) hb); have n8 := Az (below_step (bU2 HB.out GE175.out GE176.out) hb); clear HO180 HO183 HO186 HO189 HO195 BK175 BK176 HB; have HO180 := n0; have HO183 := n1; have HO186 := n2; have HO189 := n3; have HO195 := n4; have HO192 := n5; have BK175 := n6; have BK176 := n7; have HB := n8; clear n0 n1 n2 n3 n4 n5 n6 n7 n8 hb ho24; obtain ⟨Ao25, co25, eo25⟩ := Kd.R_slice HO195.out; (first | subst eo25 | (injection eo25 with f1_ f2_ f3_; have f4_ := f1_.symm; have f5_ := f3_.symm; clear f1_ f2_ f3_; subst f4_; subst f5_)); obtain ⟨Ao26, co26, eo26⟩ := Kd.R_slice HO192.out; (first | subst eo26 | (injection eo26 with f1_ f2_ f3_; have f4_ := f1_.symm; have f5_ := f3_.symm; clear f1_ f2_ f3_; subst f4_; subst f5_))
           refine hK.out _ _ trivial (fun hHeld => ?_)
           clear hK K
           refine norm_ (a' := ?_) ?_ ?_
           rotate_left
           ·
            show Act.put _ (some 34) _ = _
            simp only [Act.put, List.setIfInBounds_toArray, List.set_cons_zero, List.set_cons_succ, i64_w, i32_w]
            rfl
           refine pure_ (i := 5) (N := some 37) (v := ?_) (a' := ?_) #[true, true, true, true, true, true, false, false] rfl rfl (any_of HT_.out (by kernel_rfl)) (fun _ _ _ h => h) (Or.inl ⟨by rfl, ?_⟩) ?_ ?_
           rotate_left
           ·
            intro w'
            go_simp
            with_reducible rfl
           rotate_left
           ·
            simp only [Act.put, List.setIfInBounds_toArray, List.set_cons_zero, List.set_cons_succ, i64_w, i32_w]
            rfl
           exact norm_ (by first | (simp only [putAll, Act.put, List.setIfInBounds_toArray, List.set_cons_zero, List.set_cons_succ]; done) | (simp only [putAll, Act.put, List.setIfInBounds_toArray, List.set_cons_zero, List.set_cons_succ]; rfl)) (hJ2_4 (.slice Ao26 y190.length co26, .slice Ao25 t193.length co25) _ ⟨(by (with_reducible repeat (first | apply Kd.R_alloc | apply Kd.R_drewN | apply Kd.R_drew)); exact Kd.R_mono HO180.out (fun _ hk => ⟨hk.1.1, ⟨hk.1.2.1, ⟨hk.1.2.2.1, ⟨hk.2, hk.1.2.2.2⟩⟩⟩⟩)), (by (with_reducible repeat (first | apply Kd.R_alloc | apply Kd.R_drewN | apply Kd.R_drew)); exact Kd.R_mono HO183.out (fun _ hk => ⟨hk.1.1, ⟨hk.1.2.1, ⟨hk.1.2.2.1, ⟨hk.2, hk.1.2.2.2⟩⟩⟩⟩)), (by (with_reducible repeat (first | apply Kd.R_alloc | apply Kd.R_drewN | apply Kd.R_drew)); exact Kd.R_mono HO186.out (fun _ hk => ⟨hk.1.1, ⟨hk.1.2.1, ⟨hk.1.2.2.1, ⟨hk.2, hk.1.2.2.2⟩⟩⟩⟩)), (by (with_reducible repeat (first | apply Kd.R_alloc | apply Kd.R_drewN | apply Kd.R_drew)); exact Kd.R_mono HO189.out (fun _ hk => ⟨hk.1.1, ⟨hk.1.2.1, ⟨hk.1.2.2.1, ⟨hk.2, hk.1.2.2.2⟩⟩⟩⟩)), (by (with_reducible repeat (first | apply Kd.R_alloc | apply Kd.R_drewN | apply Kd.R_drew)); exact Kd.R_mono HO192.out (fun _ hk => ⟨hk.1.1.1.1.2, ⟨hk.1.1.1.2, ⟨hk.1.1.2, ⟨hk.1.2, hk.2⟩⟩⟩⟩)), (by (with_reducible repeat (first | apply Kd.R_alloc | apply Kd.R_drewN | apply Kd.R_drew)); exact Kd.R_mono HO195.out (fun _ hk => ⟨hk.1.1, ⟨hk.1.2.1, ⟨hk.1.2.2.1, ⟨hk.1.2.2.2, hk.2⟩⟩⟩⟩)), (kU BK175.out), (kU BK176.out), (bU2 HB.out GE175.out GE176.out)⟩)
          ·
           skip
           refine box_step ?hg (N := 10) ?hd (cs := #[.slice none 0 0, .slice none 0 0]) (t := 29) ?hr ?_; (case hd => rfl); (case hg => rfl); (case hr => first | (go_simp; done) | (go_simp; rfl))
           intro gb196 hg w23 hbox hb
           have n0 := Az (Kd.R_below (rU HO180.out) hb); have n1 := Az (Kd.R_below (rU HO183.out) hb); have n2 := Az (Kd.R_below (rU HO186.out) hb); have n3 := Az (Kd.R_below (rU HO189.out) hb); have n4 := Az (Kd.R_below (rU HO195.out) hb); have n5 := Az (blk_below (g := gb175) (o := .cells #[.string a0_0, .slice A0_1 l0_1.length c0_1] 25 (0, 0)) (kU BK175.out) hb); have n6 := Az (blk_below (g := gb176) (o := .cells #[.slice none 0 0, .slice none 0 0] 29 (0, 0)) (kU BK176.out) hb); have n7 := Az (below_step (bU2 HB.out GE175.out GE176.out) hb); have n8 := Az (hbox); have n9 := Az ((by rw [hg]; exact (below_size (bU2 HB.out GE175.out GE176.out)) : w.heap.size ≤ gb196)); have n10 := Az ((by rw [hg]; exact (below_size (bU2 HB.out GE175.out GE176.out)) : w.heap.size ≤ gb196)); have n11 := Az ((by rw [hg]; exact Nat.ne_of_lt (blk_lt (g := gb175) (o := .cells #[.string a0_0, .slice A0_1 l0_1.length c0_1] 25 (0, 0)) (kU BK175.out)) : gb175 ≠ gb196)); have n12 := Az ((by rw [hg]; exact Nat.ne_of_gt (blk_lt (g := gb175) (o := .cells #[.string a0_0, .slice A0_1 l0_1.length c0_1] 25 (0, 0)) (kU BK175.out)) : gb196 ≠ gb175)); have n13 := Az ((by rw [hg]; exact Nat.ne_of_lt (blk_lt (g := gb176) (o := .cells #[.slice none 0 0, .slice none 0 0] 29 (0, 0)) (kU BK176.out)) : gb176 ≠ gb196)); have n14 := Az ((by rw [hg]; exact Nat.ne_of_gt (blk_lt (g := gb176) (o := .cells #[.slice none 0 0, .slice none 0 0] 29 (0, 0)) (kU BK176.out)) : gb196 ≠ gb176)); clear HO180 HO183 HO186 HO189 HO195 BK175 BK176 HB; have HO180 := n0; have HO183 := n1; have HO186 := n2; have HO189 := n3; have HO195 := n4; have BK175 := n5; have BK176 := n6; have HB := n7; have BK196 := n8; have GW196 := n9; have GE196 := n10; have NB175_196 := n11; have NB196_175 := n12; have NB176_196 := n13; have NB196_176 := n14; clear n0 n1 n2 n3 n4 n5 n6 n7 n8 n9 n10 n11 n12 n13 n14 hb hbox hg
           refine hK.out _ _ trivial (fun hHeld => ?_)
           clear hK K
           refine norm_ (a' := ?_) ?_ ?_
           rotate_left
           ·
            show Act.put _ (some 10) _ = _
            simp only [Act.put, List.setIfInBounds_toArray, List.set_cons_zero, List.set_cons_succ, i64_w, i32_w]
            rfl
           exact norm_ (by first | (simp only [putAll, Act.put, List.setIfInBounds_toArray, List.set_cons_zero, List.set_cons_succ]; done) | (simp only [putAll, Act.put, List.setIfInBounds_toArray, List.set_cons_zero, List.set_cons_succ]; rfl)) (hJ4_6 (v194, gb196) _ ⟨(rU HO180.out), (rU HO183.out), (rU HO186.out), (rU HO189.out), (rU HO195.out), (kU BK175.out), (kU BK176.out), (kU BK196.out), GW196.out, GE196.out, NB175_196.out, NB196_175.out, NB176_196.out, NB196_176.out, (bU3 HB.out GE175.out GE176.out GE196.out)⟩)
        ·
         skip
         rintro v191 w23 ⟨h0_, h1_, h2_, h3_, h4_, h5_, h6_, h7_⟩
         have n0 : Aside0 (Kd.R (Kd.int .i64) 3 w23 w.heap.size (fun k_ => some k_ ≠ (.slice Ao17 t181.length co17 : Value).ownBlock ∧ some k_ ≠ (v185 : Value).ownBlock ∧ some k_ ≠ (.slice Ao19 t187.length co19 : Value).ownBlock ∧ some k_ ≠ (v191 : Value).ownBlock) v179 t178) := ⟨h0_⟩; have n1 : Aside0 (Kd.R (Kd.int .i64) 3 w23 w.heap.size (fun k_ => some k_ ≠ (v179 : Value).ownBlock ∧ some k_ ≠ (v185 : Value).ownBlock ∧ some k_ ≠ (.slice Ao19 t187.length co19 : Value).ownBlock ∧ some k_ ≠ (v191 : Value).ownBlock) (.slice Ao17 t181.length co17) t181) := ⟨h1_⟩; have n2 : Aside0 (Kd.R (Kd.int .i64) 3 w23 w.heap.size (fun k_ => some k_ ≠ (v179 : Value).ownBlock ∧ some k_ ≠ (.slice Ao17 t181.length co17 : Value).ownBlock ∧ some k_ ≠ (.slice Ao19 t187.length co19 : Value).ownBlock ∧ some k_ ≠ (v191 : Value).ownBlock) v185 t184) := ⟨h2_⟩; have n3 : Aside0 (Kd.R (Kd.int .i64) 3 w23 w.heap.size (fun k_ => some k_ ≠ (v179 : Value).ownBlock ∧ some k_ ≠ (.slice Ao17 t181.length co17 : Value).ownBlock ∧ some k_ ≠ (v185 : Value).ownBlock ∧ some k_ ≠ (v191 : Value).ownBlock) (.slice Ao19 t187.length co19) t187) := ⟨h3_⟩; have n4 : Aside0 (Kd.R (Kd.int .i64) 3 w23 w.heap.size (fun k_ => some k_ ≠ (v179 : Value).ownBlock ∧ some k_ ≠ (.slice Ao17 t181.length co17 : Value).ownBlock ∧ some k_ ≠ (v185 : Value).ownBlock ∧ some k_ ≠ (.slice Ao19 t187.length co19 : Value).ownBlock) v191 y190) := ⟨h4_⟩; have n5 : Aside0 (w23.heap[gb175]? = some (.cells #[.string a0_0, .slice A0_1 l0_1.length c0_1] 25 (0, 0))) := ⟨h5_⟩; have n6 : Aside0 (w23.heap[gb176]? = some (.cells #[.slice none 0 0, .slice none 0 0] 29 (0, 0))) := ⟨h6_⟩; have n7 : Aside0 (Below w.heap.size w w23) := ⟨h7_⟩; clear HO180 HO183 HO186 HO189 BK175 BK176 HB h0_ h1_ h2_ h3_ h4_ h5_ h6_ h7_; have HO180 := n0; have HO183 := n1; have HO186 := n2; have HO189 := n3; have HO192 := n4; have BK175 := n5; have BK176 := n6; have HB := n7; clear n0 n1 n2 n3 n4 n5 n6 n7; have hHeld := trivial
         refine norm_ (a' := ?_) ?_ ?_
         rotate_left
         ·
          simp only [putAll, Act.put, List.setIfInBounds_toArray, List.set_cons_zero, List.set_cons_succ]
          rfl
         refine two_ (i := 4) (j := 6) (Ni := some 36) (Nj := some 10) #[true, true, true, true, true, false, false, false] #[true, true, true, true, false, false, true, false] rfl rfl rfl rfl (two_of HT_.out (by kernel_rfl)) (by decide) (by decide) (fun K hK => ?_) (fun K hK => ?_)
         ·
          skip
          refine goes_ Try.func72 (by kernel_rfl) rfl #[.int .i64 (t187.length : Int)] (by rfl) rfl rfl (by (try simp only [List.map_toArray, List.map_cons, List.map_nil]); first | done | rfl | (simp only [List.length_drop, List.length_take]; rfl)) ?_
          with_reducible refine (spec_l3Flip.calls k (t187.length : Int) t193 _ A9.out).mono ?_
          rintro e w24 ⟨v194, rfl, ho0, hb⟩
          refine ⟨_, rfl, ?_⟩
          have n0 := Az (Kd.R_elder' (rU HO180.out) (Kd.R_base ho0) hb); have n1 := Az (Kd.R_elder' (rU HO183.out) (Kd.R_base ho0) hb); have n2 := Az (Kd.R_elder' (rU HO186.out) (Kd.R_base ho0) hb); have n3 := Az (Kd.R_elder' (rU HO189.out) (Kd.R_base ho0) hb); have n4 := Az (Kd.R_elder' (rU HO192.out) (Kd.R_base ho0) hb); have n5 := Az (Kd.R_lower (Kd.R_new' (Kd.R_new' (Kd.R_new' (Kd.R_new' (Kd.R_new' ho0 (Kd.R_lt (rU HO180.out))) (Kd.R_lt (rU HO183.out))) (Kd.R_lt (rU HO186.out))) (Kd.R_lt (rU HO189.out))) (Kd.R_lt (rU HO192.out))) (below_size (bU2 HB.out GE175.out GE176.out))); have n6 := Az (blk_below (g := gb175) (o := .cells #[.string a0_0, .slice A0_1 l0_1.length c0_1] 25 (0, 0)) (kU BK175.out) hb); have n7 := Az (blk_below (g := gb176) (o := .cells #[.slice none 0 0, .slice none 0 0] 29 (0, 0)) (kU BK176.out) hb); have n8 := Az (below_step (bU2 HB.out GE175.out GE176.out) hb); clear HO180 HO183 HO186 HO189 HO192 BK175 BK176 HB; have HO180 := n0; have HO183 := n1; have HO186 := n2; have HO189 := n3; have HO192 := n4; have HO195 := n5; have BK175 := n6; have BK176 := n7; have HB := n8; clear n0 n1 n2 n3 n4 n5 n6 n7 n8; (try clear hb); (try clear hb2); (try clear hk); (try clear hi); (try clear ho0); obtain ⟨Ao25, co25, eo25⟩ := Kd.R_slice HO195.out; (first | subst eo25 | (injection eo25 with f1_ f2_ f3_; have f4_ := f1_.symm; have f5_ := f3_.symm; clear f1_ f2_ f3_; subst f4_; subst f5_)); obtain ⟨Ao26, co26, eo26⟩ := Kd.R_slice HO192.out; (first | subst eo26 | (injection eo26 with f1_ f2_ f3_; have f4_ := f1_.symm; have f5_ := f3_.symm; clear f1_ f2_ f3_; subst f4_; subst f5_))
          refine hK.out _ _ trivial (fun hHeld => ?_)
          clear hK K
          refine norm_ (a' := ?_) ?_ ?_
          rotate_left
          ·
           show Act.put _ (some 36) _ = _
           simp only [Act.put, List.setIfInBounds_toArray, List.set_cons_zero, List.set_cons_succ, i64_w, i32_w]
           rfl
          refine pure_ (i := 5) (N := some 37) (v := ?_) (a' := ?_) #[true, true, true, true, true, true, false, false] rfl rfl (any_of HT_.out (by kernel_rfl)) (fun _ _ _ h => h) (Or.inl ⟨by rfl, ?_⟩) ?_ ?_
          rotate_left
          ·
           intro w'
           go_simp
           with_reducible rfl
          rotate_left
          ·
           simp only [Act.put, List.setIfInBounds_toArray, List.set_cons_zero, List.set_cons_succ, i64_w, i32_w]
           rfl
          exact norm_ (by first | (simp only [putAll, Act.put, List.setIfInBounds_toArray, List.set_cons_zero, List.set_cons_succ]; done) | (simp only [putAll, Act.put, List.setIfInBounds_toArray, List.set_cons_zero, List.set_cons_succ]; rfl)) (hJ2_4 (.slice Ao26 y190.length co26, .slice Ao25 t193.length co25) _ ⟨(by (with_reducible repeat (first | apply Kd.R_alloc | apply Kd.R_drewN | apply Kd.R_drew)); exact Kd.R_mono HO180.out (fun _ hk => ⟨hk.1.1, ⟨hk.1.2.1, ⟨hk.1.2.2.1, ⟨hk.1.2.2.2, hk.2⟩⟩⟩⟩)), (by (with_reducible repeat (first | apply Kd.R_alloc | apply Kd.R_drewN | apply Kd.R_drew)); exact Kd.R_mono HO183.out (fun _ hk => ⟨hk.1.1, ⟨hk.1.2.1, ⟨hk.1.2.2.1, ⟨hk.1.2.2.2, hk.2⟩⟩⟩⟩)), (by (with_reducible repeat (first | apply Kd.R_alloc | apply Kd.R_drewN | apply Kd.R_drew)); exact Kd.R_mono HO186.out (fun _ hk => ⟨hk.1.1, ⟨hk.1.2.1, ⟨hk.1.2.2.1, ⟨hk.1.2.2.2, hk.2⟩⟩⟩⟩)), (by (with_reducible repeat (first | apply Kd.R_alloc | apply Kd.R_drewN | apply Kd.R_drew)); exact Kd.R_mono HO189.out (fun _ hk => ⟨hk.1.1, ⟨hk.1.2.1, ⟨hk.1.2.2.1, ⟨hk.1.2.2.2, hk.2⟩⟩⟩⟩)), (by (with_reducible repeat (first | apply Kd.R_alloc | apply Kd.R_drewN | apply Kd.R_drew)); exact Kd.R_mono HO192.out (fun _ hk => ⟨hk.1.1, ⟨hk.1.2.1, ⟨hk.1.2.2.1, ⟨hk.1.2.2.2, hk.2⟩⟩⟩⟩)), (by (with_reducible repeat (first | apply Kd.R_alloc | apply Kd.R_drewN | apply Kd.R_drew)); exact Kd.R_mono HO195.out (fun _ hk => ⟨hk.1.1.1.1.2, ⟨hk.1.1.1.2, ⟨hk.1.1.2, ⟨hk.1.2, hk.2⟩⟩⟩⟩)), (kU BK175.out), (kU BK176.out), (bU2 HB.out GE175.out GE176.out)⟩)
         ·
          skip
          refine box_step ?hg (N := 10) ?hd (cs := #[.slice none 0 0, .slice none 0 0]) (t := 29) ?hr ?_; (case hd => rfl); (case hg => rfl); (case hr => first | (go_simp; done) | (go_simp; rfl))
          intro gb196 hg w24 hbox hb
          have n0 := Az (Kd.R_below (rU HO180.out) hb); have n1 := Az (Kd.R_below (rU HO183.out) hb); have n2 := Az (Kd.R_below (rU HO186.out) hb); have n3 := Az (Kd.R_below (rU HO189.out) hb); have n4 := Az (Kd.R_below (rU HO192.out) hb); have n5 := Az (blk_below (g := gb175) (o := .cells #[.string a0_0, .slice A0_1 l0_1.length c0_1] 25 (0, 0)) (kU BK175.out) hb); have n6 := Az (blk_below (g := gb176) (o := .cells #[.slice none 0 0, .slice none 0 0] 29 (0, 0)) (kU BK176.out) hb); have n7 := Az (below_step (bU2 HB.out GE175.out GE176.out) hb); have n8 := Az (hbox); have n9 := Az ((by rw [hg]; exact (below_size (bU2 HB.out GE175.out GE176.out)) : w.heap.size ≤ gb196)); have n10 := Az ((by rw [hg]; exact (below_size (bU2 HB.out GE175.out GE176.out)) : w.heap.size ≤ gb196)); have n11 := Az ((by rw [hg]; exact Nat.ne_of_lt (blk_lt (g := gb175) (o := .cells #[.string a0_0, .slice A0_1 l0_1.length c0_1] 25 (0, 0)) (kU BK175.out)) : gb175 ≠ gb196)); have n12 := Az ((by rw [hg]; exact Nat.ne_of_gt (blk_lt (g := gb175) (o := .cells #[.string a0_0, .slice A0_1 l0_1.length c0_1] 25 (0, 0)) (kU BK175.out)) : gb196 ≠ gb175)); have n13 := Az ((by rw [hg]; exact Nat.ne_of_lt (blk_lt (g := gb176) (o := .cells #[.slice none 0 0, .slice none 0 0] 29 (0, 0)) (kU BK176.out)) : gb176 ≠ gb196)); have n14 := Az ((by rw [hg]; exact Nat.ne_of_gt (blk_lt (g := gb176) (o := .cells #[.slice none 0 0, .slice none 0 0] 29 (0, 0)) (kU BK176.out)) : gb196 ≠ gb176)); clear HO180 HO183 HO186 HO189 HO192 BK175 BK176 HB; have HO180 := n0; have HO183 := n1; have HO186 := n2; have HO189 := n3; have HO192 := n4; have BK175 := n5; have BK176 := n6; have HB := n7; have BK196 := n8; have GW196 := n9; have GE196 := n10; have NB175_196 := n11; have NB196_175 := n12; have NB176_196 := n13; have NB196_176 := n14; clear n0 n1 n2 n3 n4 n5 n6 n7 n8 n9 n10 n11 n12 n13 n14 hb hbox hg
          refine hK.out _ _ trivial (fun hHeld => ?_)
          clear hK K
          refine norm_ (a' := ?_) ?_ ?_
          rotate_left
          ·
           show Act.put _ (some 10) _ = _
           simp only [Act.put, List.setIfInBounds_toArray, List.set_cons_zero, List.set_cons_succ, i64_w, i32_w]
           rfl
          exact norm_ (by first | (simp only [putAll, Act.put, List.setIfInBounds_toArray, List.set_cons_zero, List.set_cons_succ]; done) | (simp only [putAll, Act.put, List.setIfInBounds_toArray, List.set_cons_zero, List.set_cons_succ]; rfl)) (hJ2_6 (v191, gb196) _ ⟨(rU HO180.out), (rU HO183.out), (rU HO186.out), (rU HO189.out), (rU HO192.out), (kU BK175.out), (kU BK176.out), (kU BK196.out), GW196.out, GE196.out, NB175_196.out, NB196_175.out, NB176_196.out, NB196_176.out, (bU3 HB.out GE175.out GE176.out GE196.out)⟩)
       ·
        skip
        rintro ⟨v194, gb196⟩ w23 ⟨h0_, h1_, h2_, h3_, h4_, h5_, h6_, h7_, h8_, h9_, h10_, h11_, h12_, h13_, h14_⟩
        have n0 : Aside0 (Kd.R (Kd.int .i64) 3 w23 w.heap.size (fun k_ => some k_ ≠ (.slice Ao17 t181.length co17 : Value).ownBlock ∧ some k_ ≠ (v185 : Value).ownBlock ∧ some k_ ≠ (.slice Ao19 t187.length co19 : Value).ownBlock ∧ some k_ ≠ (v194 : Value).ownBlock) v179 t178) := ⟨h0_⟩; have n1 : Aside0 (Kd.R (Kd.int .i64) 3 w23 w.heap.size (fun k_ => some k_ ≠ (v179 : Value).ownBlock ∧ some k_ ≠ (v185 : Value).ownBlock ∧ some k_ ≠ (.slice Ao19 t187.length co19 : Value).ownBlock ∧ some k_ ≠ (v194 : Value).ownBlock) (.slice Ao17 t181.length co17) t181) := ⟨h1_⟩; have n2 : Aside0 (Kd.R (Kd.int .i64) 3 w23 w.heap.size (fun k_ => some k_ ≠ (v179 : Value).ownBlock ∧ some k_ ≠ (.slice Ao17 t181.length co17 : Value).ownBlock ∧ some k_ ≠ (.slice Ao19 t187.length co19 : Value).ownBlock ∧ some k_ ≠ (v194 : Value).ownBlock) v185 t184) := ⟨h2_⟩; have n3 : Aside0 (Kd.R (Kd.int .i64) 3 w23 w.heap.size (fun k_ => some k_ ≠ (v179 : Value).ownBlock ∧ some k_ ≠ (.slice Ao17 t181.length co17 : Value).ownBlock ∧ some k_ ≠ (v185 : Value).ownBlock ∧ some k_ ≠ (v194 : Value).ownBlock) (.slice Ao19 t187.length co19) t187) := ⟨h3_⟩; have n4 : Aside0 (Kd.R (Kd.int .i64) 3 w23 w.heap.size (fun k_ => some k_ ≠ (v179 : Value).ownBlock ∧ some k_ ≠ (.slice Ao17 t181.length co17 : Value).ownBlock ∧ some k_ ≠ (v185 : Value).ownBlock ∧ some k_ ≠ (.slice Ao19 t187.length co19 : Value).ownBlock) v194 t193) := ⟨h4_⟩; have n5 : Aside0 (w23.heap[gb175]? = some (.cells #[.string a0_0, .slice A0_1 l0_1.length c0_1] 25 (0, 0))) := ⟨h5_⟩; have n6 : Aside0 (w23.heap[gb176]? = some (.cells #[.slice none 0 0, .slice none 0 0] 29 (0, 0))) := ⟨h6_⟩; have n7 : Aside0 (w23.heap[gb196]? = some (.cells #[.slice none 0 0, .slice none 0 0] 29 (0, 0))) := ⟨h7_⟩; have n8 : Aside0 (w.heap.size ≤ gb196) := ⟨h8_⟩; have n9 : Aside0 (w.heap.size ≤ gb196) := ⟨h9_⟩; have n10 : Aside0 (gb175 ≠ gb196) := ⟨h10_⟩; have n11 : Aside0 (gb196 ≠ gb175) := ⟨h11_⟩; have n12 : Aside0 (gb176 ≠ gb196) := ⟨h12_⟩; have n13 : Aside0 (gb196 ≠ gb176) := ⟨h13_⟩; have n14 : Aside0 (Below w.heap.size w w23) := ⟨h14_⟩; clear HO180 HO183 HO186 HO189 BK175 BK176 HB h0_ h1_ h2_ h3_ h4_ h5_ h6_ h7_ h8_ h9_ h10_ h11_ h12_ h13_ h14_; have HO180 := n0; have HO183 := n1; have HO186 := n2; have HO189 := n3; have HO195 := n4; have BK175 := n5; have BK176 := n6; have BK196 := n7; have GW196 := n8; have GE196 := n9; have NB175_196 := n10; have NB196_175 := n11; have NB176_196 := n12; have NB196_176 := n13; have HB := n14; clear n0 n1 n2 n3 n4 n5 n6 n7 n8 n9 n10 n11 n12 n13 n14; have hHeld := trivial
        refine norm_ (a' := ?_) ?_ ?_
        rotate_left
        ·
         simp only [putAll, Act.put, List.setIfInBounds_toArray, List.set_cons_zero, List.set_cons_succ]
         rfl
        refine one_ (i := 2) (N := some 34) #[true, true, true, true, true, false, true, false] rfl rfl (one_of HT_.out (by kernel_rfl)) (by decide) (fun K hK => ?_)
        refine Kd.R_make_step (Kd.int .i64) _ 3 (by rfl) (N := 34) rfl 23 _ _ rfl ji6 rfl rfl Try.underlying23 (.int .i64 0) 8 info3 rfl (by decide) (by omega) 0 (ok := fun _ => True) (okp := fun _ => True) rfl (fun _ hk => hk) trivial (oA) (Nat.le_trans (Nat.mul_le_mul_right _ (oA : ji6.toNat ≤ 35184372088832)) (by omega)) (Below.refl _ _) (Nat.le_refl _) ?_
        intro v191 w24 ho25 hb hg_ hnew_
        clear hg_ hnew_; (first | rw [← Ny190.out] at ho25 | (simp only [Int.reduceToNat] at ho25; rw [← Ny190.out] at ho25)); have n0 := Az (Kd.R_elder' (rU HO180.out) (Kd.R_base ho25) hb); have n1 := Az (Kd.R_elder' (rU HO183.out) (Kd.R_base ho25) hb); have n2 := Az (Kd.R_elder' (rU HO186.out) (Kd.R_base ho25) hb); have n3 := Az (Kd.R_elder' (rU HO189.out) (Kd.R_base ho25) hb); have n4 := Az (Kd.R_elder' (rU HO195.out) (Kd.R_base ho25) hb); have n5 := Az (Kd.R_lower (Kd.R_new' (Kd.R_new' (Kd.R_new' (Kd.R_new' (Kd.R_new' ho25 (Kd.R_lt (rU HO180.out))) (Kd.R_lt (rU HO183.out))) (Kd.R_lt (rU HO186.out))) (Kd.R_lt (rU HO189.out))) (Kd.R_lt (rU HO195.out))) (below_size (bU3 HB.out GE175.out GE176.out GE196.out))); have n6 := Az (blk_below (g := gb175) (o := .cells #[.string a0_0, .slice A0_1 l0_1.length c0_1] 25 (0, 0)) (kU BK175.out) hb); have n7 := Az (blk_below (g := gb176) (o := .cells #[.slice none 0 0, .slice none 0 0] 29 (0, 0)) (kU BK176.out) hb); have n8 := Az (blk_below (g := gb196) (o := .cells #[.slice none 0 0, .slice none 0 0] 29 (0, 0)) (kU BK196.out) hb); have n9 := Az (below_step (bU3 HB.out GE175.out GE176.out GE196.out) hb); clear HO180 HO183 HO186 HO189 HO195 BK175 BK176 BK196 HB; have HO180 := n0; have HO183 := n1; have HO186 := n2; have HO189 := n3; have HO195 := n4; have HO192 := n5; have BK175 := n6; have BK176 := n7; have BK196 := n8; have HB := n9; clear n0 n1 n2 n3 n4 n5 n6 n7 n8 n9 hb ho25; obtain ⟨Ao26, co26, eo26⟩ := Kd.R_slice HO195.out; (first | subst eo26 | (injection eo26 with f1_ f2_ f3_; have f4_ := f1_.symm; have f5_ := f3_.symm; clear f1_ f2_ f3_; subst f4_; subst f5_)); obtain ⟨Ao27, co27, eo27⟩ := Kd.R_slice HO192.out; (first | subst eo27 | (injection eo27 with f1_ f2_ f3_; have f4_ := f1_.symm; have f5_ := f3_.symm; clear f1_ f2_ f3_; subst f4_; subst f5_))
        refine hK.out _ _ trivial (fun hHeld => ?_)
        clear hK K
        refine norm_ (a' := ?_) ?_ ?_
        rotate_left
        ·
         show Act.put _ (some 34) _ = _
         simp only [Act.put, List.setIfInBounds_toArray, List.set_cons_zero, List.set_cons_succ, i64_w, i32_w]
         rfl
        refine pure_ (i := 5) (N := some 37) (v := ?_) (a' := ?_) #[true, true, true, true, true, true, true, false] rfl rfl (any_of HT_.out (by kernel_rfl)) (fun _ _ _ h => h) (Or.inl ⟨by rfl, ?_⟩) ?_ ?_
        rotate_left
        ·
         intro w'
         go_simp
         with_reducible rfl
        rotate_left
        ·
         simp only [Act.put, List.setIfInBounds_toArray, List.set_cons_zero, List.set_cons_succ, i64_w, i32_w]
         rfl
        exact norm_ (by first | (simp only [putAll, Act.put, List.setIfInBounds_toArray, List.set_cons_zero, List.set_cons_succ]; done) | (simp only [putAll, Act.put, List.setIfInBounds_toArray, List.set_cons_zero, List.set_cons_succ]; rfl)) (hJ2_4_6 (.slice Ao27 y190.length co27, .slice Ao26 t193.length co26, gb196) _ ⟨(by (with_reducible repeat (first | apply Kd.R_alloc | apply Kd.R_drewN | apply Kd.R_drew)); exact Kd.R_mono HO180.out (fun _ hk => ⟨hk.1.1, ⟨hk.1.2.1, ⟨hk.1.2.2.1, ⟨hk.2, hk.1.2.2.2⟩⟩⟩⟩)), (by (with_reducible repeat (first | apply Kd.R_alloc | apply Kd.R_drewN | apply Kd.R_drew)); exact Kd.R_mono HO183.out (fun _ hk => ⟨hk.1.1, ⟨hk.1.2.1, ⟨hk.1.2.2.1, ⟨hk.2, hk.1.2.2.2⟩⟩⟩⟩)), (by (with_reducible repeat (first | apply Kd.R_alloc | apply Kd.R_drewN | apply Kd.R_drew)); exact Kd.R_mono HO186.out (fun _ hk => ⟨hk.1.1, ⟨hk.1.2.1, ⟨hk.1.2.2.1, ⟨hk.2, hk.1.2.2.2⟩⟩⟩⟩)), (by (with_reducible repeat (first | apply Kd.R_alloc | apply Kd.R_drewN | apply Kd.R_drew)); exact Kd.R_mono HO189.out (fun _ hk => ⟨hk.1.1, ⟨hk.1.2.1, ⟨hk.1.2.2.1, ⟨hk.2, hk.1.2.2.2⟩⟩⟩⟩)), (by (with_reducible repeat (first | apply Kd.R_alloc | apply Kd.R_drewN | apply Kd.R_drew)); exact Kd.R_mono HO192.out (fun _ hk => ⟨hk.1.1.1.1.2, ⟨hk.1.1.1.2, ⟨hk.1.1.2, ⟨hk.1.2, hk.2⟩⟩⟩⟩)), (by (with_reducible repeat (first | apply Kd.R_alloc | apply Kd.R_drewN | apply Kd.R_drew)); exact Kd.R_mono HO195.out (fun _ hk => ⟨hk.1.1, ⟨hk.1.2.1, ⟨hk.1.2.2.1, ⟨hk.1.2.2.2, hk.2⟩⟩⟩⟩)), (kU BK175.out), (kU BK176.out), (kU BK196.out), GW196.out, GE196.out, NB175_196.out, NB196_175.out, NB176_196.out, NB196_176.out, (bU3 HB.out GE175.out GE176.out GE196.out)⟩)
      ·
       skip
       rintro ⟨v191, gb196⟩ w24 ⟨h0_, h1_, h2_, h3_, h4_, h5_, h6_, h7_, h8_, h9_, h10_, h11_, h12_, h13_, h14_⟩
       have n0 : Aside0 (Kd.R (Kd.int .i64) 3 w24 w.heap.size (fun k_ => some k_ ≠ (.slice Ao17 t181.length co17 : Value).ownBlock ∧ some k_ ≠ (v185 : Value).ownBlock ∧ some k_ ≠ (.slice Ao19 t187.length co19 : Value).ownBlock ∧ some k_ ≠ (v191 : Value).ownBlock) v179 t178) := ⟨h0_⟩; have n1 : Aside0 (Kd.R (Kd.int .i64) 3 w24 w.heap.size (fun k_ => some k_ ≠ (v179 : Value).ownBlock ∧ some k_ ≠ (v185 : Value).ownBlock ∧ some k_ ≠ (.slice Ao19 t187.length co19 : Value).ownBlock ∧ some k_ ≠ (v191 : Value).ownBlock) (.slice Ao17 t181.length co17) t181) := ⟨h1_⟩; have n2 : Aside0 (Kd.R (Kd.int .i64) 3 w24 w.heap.size (fun k_ => some k_ ≠ (v179 : Value).ownBlock ∧ some k_ ≠ (.slice Ao17 t181.length co17 : Value).ownBlock ∧ some k_ ≠ (.slice Ao19 t187.length co19 : Value).ownBlock ∧ some k_ ≠ (v191 : Value).ownBlock) v185 t184) := ⟨h2_⟩; have n3 : Aside0 (Kd.R (Kd.int .i64) 3 w24 w.heap.size (fun k_ => some k_ ≠ (v179 : Value).ownBlock ∧ some k_ ≠ (.slice Ao17 t181.length co17 : Value).ownBlock ∧ some k_ ≠ (v185 : Value).ownBlock ∧ some k_ ≠ (v191 : Value).ownBlock) (.slice Ao19 t187.length co19) t187) := ⟨h3_⟩; have n4 : Aside0 (Kd.R (Kd.int .i64) 3 w24 w.heap.size (fun k_ => some k_ ≠ (v179 : Value).ownBlock ∧ some k_ ≠ (.slice Ao17 t181.length co17 : Value).ownBlock ∧ some k_ ≠ (v185 : Value).ownBlock ∧ some k_ ≠ (.slice Ao19 t187.length co19 : Value).ownBlock) v191 y190) := ⟨h4_⟩; have n5 : Aside0 (w24.heap[gb175]? = some (.cells #[.string a0_0, .slice A0_1 l0_1.length c0_1] 25 (0, 0))) := ⟨h5_⟩; have n6 : Aside0 (w24.heap[gb176]? = some (.cells #[.slice none 0 0, .slice none 0 0] 29 (0, 0))) := ⟨h6_⟩; have n7 : Aside0 (w24.heap[gb196]? = some (.cells #[.slice none 0 0, .slice none 0 0] 29 (0, 0))) := ⟨h7_⟩; have n8 : Aside0 (w.heap.size ≤ gb196) := ⟨h8_⟩; have n9 : Aside0 (w.heap.size ≤ gb196) := ⟨h9_⟩; have n10 : Aside0 (gb175 ≠ gb196) := ⟨h10_⟩; have n11 : Aside0 (gb196 ≠ gb175) := ⟨h11_⟩; have n12 : Aside0 (gb176 ≠ gb196) := ⟨h12_⟩; have n13 : Aside0 (gb196 ≠ gb176) := ⟨h13_⟩; have n14 : Aside0 (Below w.heap.size w w24) := ⟨h14_⟩; clear HO180 HO183 HO186 HO189 BK175 BK176 HB h0_ h1_ h2_ h3_ h4_ h5_ h6_ h7_ h8_ h9_ h10_ h11_ h12_ h13_ h14_; have HO180 := n0; have HO183 := n1; have HO186 := n2; have HO189 := n3; have HO192 := n4; have BK175 := n5; have BK176 := n6; have BK196 := n7; have GW196 := n8; have GE196 := n9; have NB175_196 := n10; have NB196_175 := n11; have NB176_196 := n12; have NB196_176 := n13; have HB := n14; clear n0 n1 n2 n3 n4 n5 n6 n7 n8 n9 n10 n11 n12 n13 n14; have hHeld := trivial
       refine norm_ (a' := ?_) ?_ ?_
       rotate_left
       ·
        simp only [putAll, Act.put, List.setIfInBounds_toArray, List.set_cons_zero, List.set_cons_succ]
        rfl
       refine one_ (i := 4) (N := some 36) #[true, true, true, true, true, false, true, false] rfl rfl (one_of HT_.out (by kernel_rfl)) (by decide) (fun K hK => ?_)
       refine goes_ Try.func72 (by kernel_rfl) rfl #[.int .i64 (t187.length : Int)] (by rfl) rfl rfl (by (try simp only [List.map_toArray, List.map_cons, List.map_nil]); first | done | rfl | (simp only [List.length_drop, List.length_take]; rfl)) ?_
       with_reducible refine (spec_l3Flip.calls k (t187.length : Int) t193 _ A9.out).mono ?_
       rintro e w25 ⟨v194, rfl, ho0, hb⟩
       refine ⟨_, rfl, ?_⟩
       have n0 := Az (Kd.R_elder' (rU HO180.out) (Kd.R_base ho0) hb); have n1 := Az (Kd.R_elder' (rU HO183.out) (Kd.R_base ho0) hb); have n2 := Az (Kd.R_elder' (rU HO186.out) (Kd.R_base ho0) hb); have n3 := Az (Kd.R_elder' (rU HO189.out) (Kd.R_base ho0) hb); have n4 := Az (Kd.R_elder' (rU HO192.out) (Kd.R_base ho0) hb); have n5 := Az (Kd.R_lower (Kd.R_new' (Kd.R_new' (Kd.R_new' (Kd.R_new' (Kd.R_new' ho0 (Kd.R_lt (rU HO180.out))) (Kd.R_lt (rU HO183.out))) (Kd.R_lt (rU HO186.out))) (Kd.R_lt (rU HO189.out))) (Kd.R_lt (rU HO192.out))) (below_size (bU3 HB.out GE175.out GE176.out GE196.out))); have n6 := Az (blk_below (g := gb175) (o := .cells #[.string a0_0, .slice A0_1 l0_1.length c0_1] 25 (0, 0)) (kU BK175.out) hb); have n7 := Az (blk_below (g := gb176) (o := .cells #[.slice none 0 0, .slice none 0 0] 29 (0, 0)) (kU BK176.out) hb); have n8 := Az (blk_below (g := gb196) (o := .cells #[.slice none 0 0, .slice none 0 0] 29 (0, 0)) (kU BK196.out) hb); have n9 := Az (below_step (bU3 HB.out GE175.out GE176.out GE196.out) hb); clear HO180 HO183 HO186 HO189 HO192 BK175 BK176 BK196 HB; have HO180 := n0; have HO183 := n1; have HO186 := n2; have HO189 := n3; have HO192 := n4; have HO195 := n5; have BK175 := n6; have BK176 := n7; have BK196 := n8; have HB := n9; clear n0 n1 n2 n3 n4 n5 n6 n7 n8 n9; (try clear hb); (try clear hb2); (try clear hk); (try clear hi); (try clear ho0); obtain ⟨Ao26, co26, eo26⟩ := Kd.R_slice HO195.out; (first | subst eo26 | (injection eo26 with f1_ f2_ f3_; have f4_ := f1_.symm; have f5_ := f3_.symm; clear f1_ f2_ f3_; subst f4_; subst f5_)); obtain ⟨Ao27, co27, eo27⟩ := Kd.R_slice HO192.out; (first | subst eo27 | (injection eo27 with f1_ f2_ f3_; have f4_ := f1_.symm; have f5_ := f3_.symm; clear f1_ f2_ f3_; subst f4_; subst f5_))
       refine hK.out _ _ trivial (fun hHeld => ?_)
       clear hK K
       refine norm_ (a' := ?_) ?_ ?_
       rotate_left
       ·
        show Act.put _ (some 36) _ = _
        simp only [Act.put, List.setIfInBounds_toArray, List.set_cons_zero, List.set_cons_succ, i64_w, i32_w]
        rfl
       refine pure_ (i := 5) (N := some 37) (v := ?_) (a' := ?_) #[true, true, true, true, true, true, true, false] rfl rfl (any_of HT_.out (by kernel_rfl)) (fun _ _ _ h => h) (Or.inl ⟨by rfl, ?_⟩) ?_ ?_
       rotate_left
       ·
        intro w'
        go_simp
        with_reducible rfl
       rotate_left
       ·
        simp only [Act.put, List.setIfInBounds_toArray, List.set_cons_zero, List.set_cons_succ, i64_w, i32_w]
        rfl
       exact norm_ (by first | (simp only [putAll, Act.put, List.setIfInBounds_toArray, List.set_cons_zero, List.set_cons_succ]; done) | (simp only [putAll, Act.put, List.setIfInBounds_toArray, List.set_cons_zero, List.set_cons_succ]; rfl)) (hJ2_4_6 (.slice Ao27 y190.length co27, .slice Ao26 t193.length co26, gb196) _ ⟨(by (with_reducible repeat (first | apply Kd.R_alloc | apply Kd.R_drewN | apply Kd.R_drew)); exact Kd.R_mono HO180.out (fun _ hk => ⟨hk.1.1, ⟨hk.1.2.1, ⟨hk.1.2.2.1, ⟨hk.1.2.2.2, hk.2⟩⟩⟩⟩)), (by (with_reducible repeat (first | apply Kd.R_alloc | apply Kd.R_drewN | apply Kd.R_drew)); exact Kd.R_mono HO183.out (fun _ hk => ⟨hk.1.1, ⟨hk.1.2.1, ⟨hk.1.2.2.1, ⟨hk.1.2.2.2, hk.2⟩⟩⟩⟩)), (by (with_reducible repeat (first | apply Kd.R_alloc | apply Kd.R_drewN | apply Kd.R_drew)); exact Kd.R_mono HO186.out (fun _ hk => ⟨hk.1.1, ⟨hk.1.2.1, ⟨hk.1.2.2.1, ⟨hk.1.2.2.2, hk.2⟩⟩⟩⟩)), (by (with_reducible repeat (first | apply Kd.R_alloc | apply Kd.R_drewN | apply Kd.R_drew)); exact Kd.R_mono HO189.out (fun _ hk => ⟨hk.1.1, ⟨hk.1.2.1, ⟨hk.1.2.2.1, ⟨hk.1.2.2.2, hk.2⟩⟩⟩⟩)), (by (with_reducible repeat (first | apply Kd.R_alloc | apply Kd.R_drewN | apply Kd.R_drew)); exact Kd.R_mono HO192.out (fun _ hk => ⟨hk.1.1, ⟨hk.1.2.1, ⟨hk.1.2.2.1, ⟨hk.1.2.2.2, hk.2⟩⟩⟩⟩)), (by (with_reducible repeat (first | apply Kd.R_alloc | apply Kd.R_drewN | apply Kd.R_drew)); exact Kd.R_mono HO195.out (fun _ hk => ⟨hk.1.1.1.1.2, ⟨hk.1.1.1.2, ⟨hk.1.1.2, ⟨hk.1.2, hk.2⟩⟩⟩⟩)), (kU BK175.out), (kU BK176.out), (kU BK196.out), GW196.out, GE196.out, NB175_196.out, NB196_175.out, NB176_196.out, NB196_176.out, (bU3 HB.out GE175.out GE176.out GE196.out)⟩)
     ·
      skip
      rintro ⟨v191, v194⟩ w26 ⟨h0_, h1_, h2_, h3_, h4_, h5_, h6_, h7_, h8_⟩
      have n0 : Aside0 (Kd.R (Kd.int .i64) 3 w26 w.heap.size (fun k_ => some k_ ≠ (.slice Ao17 t181.length co17 : Value).ownBlock ∧ some k_ ≠ (v185 : Value).ownBlock ∧ some k_ ≠ (.slice Ao19 t187.length co19 : Value).ownBlock ∧ some k_ ≠ (v191 : Value).ownBlock ∧ some k_ ≠ (v194 : Value).ownBlock) v179 t178) := ⟨h0_⟩; have n1 : Aside0 (Kd.R (Kd.int .i64) 3 w26 w.heap.size (fun k_ => some k_ ≠ (v179 : Value).ownBlock ∧ some k_ ≠ (v185 : Value).ownBlock ∧ some k_ ≠ (.slice Ao19 t187.length co19 : Value).ownBlock ∧ some k_ ≠ (v191 : Value).ownBlock ∧ some k_ ≠ (v194 : Value).ownBlock) (.slice Ao17 t181.length co17) t181) := ⟨h1_⟩; have n2 : Aside0 (Kd.R (Kd.int .i64) 3 w26 w.heap.size (fun k_ => some k_ ≠ (v179 : Value).ownBlock ∧ some k_ ≠ (.slice Ao17 t181.length co17 : Value).ownBlock ∧ some k_ ≠ (.slice Ao19 t187.length co19 : Value).ownBlock ∧ some k_ ≠ (v191 : Value).ownBlock ∧ some k_ ≠ (v194 : Value).ownBlock) v185 t184) := ⟨h2_⟩; have n3 : Aside0 (Kd.R (Kd.int .i64) 3 w26 w.heap.size (fun k_ => some k_ ≠ (v179 : Value).ownBlock ∧ some k_ ≠ (.slice Ao17 t181.length co17 : Value).ownBlock ∧ some k_ ≠ (v185 : Value).ownBlock ∧ some k_ ≠ (v191 : Value).ownBlock ∧ some k_ ≠ (v194 : Value).ownBlock) (.slice Ao19 t187.length co19) t187) := ⟨h3_⟩; have n4 : Aside0 (Kd.R (Kd.int .i64) 3 w26 w.heap.size (fun k_ => some k_ ≠ (v179 : Value).ownBlock ∧ some k_ ≠ (.slice Ao17 t181.length co17 : Value).ownBlock ∧ some k_ ≠ (v185 : Value).ownBlock ∧ some k_ ≠ (.slice Ao19 t187.length co19 : Value).ownBlock ∧ some k_ ≠ (v194 : Value).ownBlock) v191 y190) := ⟨h4_⟩; have n5 : Aside0 (Kd.R (Kd.int .i64) 3 w26 w.heap.size (fun k_ => some k_ ≠ (v179 : Value).ownBlock ∧ some k_ ≠ (.slice Ao17 t181.length co17 : Value).ownBlock ∧ some k_ ≠ (v185 : Value).ownBlock ∧ some k_ ≠ (.slice Ao19 t187.length co19 : Value).ownBlock ∧ some k_ ≠ (v191 : Value).ownBlock) v194 t193) := ⟨h5_⟩; have n6 : Aside0 (w26.heap[gb175]? = some (.cells #[.string a0_0, .slice A0_1 l0_1.length c0_1] 25 (0, 0))) := ⟨h6_⟩; have n7 : Aside0 (w26.heap[gb176]? = some (.cells #[.slice none 0 0, .slice none 0 0] 29 (0, 0))) := ⟨h7_⟩; have n8 : Aside0 (Below w.heap.size w w26) := ⟨h8_⟩; clear HO180 HO183 HO186 HO189 BK175 BK176 HB h0_ h1_ h2_ h3_ h4_ h5_ h6_ h7_ h8_; have HO180 := n0; have HO183 := n1; have HO186 := n2; have HO189 := n3; have HO192 := n4; have HO195 := n5; have BK175 := n6; have BK176 := n7; have HB := n8; clear n0 n1 n2 n3 n4 n5 n6 n7 n8; have hHeld := trivial; obtain ⟨Ao27, co27, eo27⟩ := Kd.R_slice HO195.out; (first | subst eo27 | (injection eo27 with f1_ f2_ f3_; have f4_ := f1_.symm; have f5_ := f3_.symm; clear f1_ f2_ f3_; subst f4_; subst f5_)); obtain ⟨Ao28, co28, eo28⟩ := Kd.R_slice HO192.out; (first | subst eo28 | (injection eo28 with f1_ f2_ f3_; have f4_ := f1_.symm; have f5_ := f3_.symm; clear f1_ f2_ f3_; subst f4_; subst f5_))
      refine norm_ (a' := ?_) ?_ ?_
      rotate_left
      ·
       simp only [putAll, Act.put, List.setIfInBounds_toArray, List.set_cons_zero, List.set_cons_succ]
       rfl
      refine one_ (i := 6) (N := some 10) #[true, true, true, true, true, true, true, false] rfl rfl (one_of HT_.out (by kernel_rfl)) (by decide) (fun K hK => ?_)
      refine box_step ?hg (N := 10) ?hd (cs := #[.slice none 0 0, .slice none 0 0]) (t := 29) ?hr ?_; (case hd => rfl); (case hg => rfl); (case hr => first | (go_simp; done) | (go_simp; rfl))
      intro gb196 hg w29 hbox hb
      have n0 := Az (Kd.R_below (rU HO180.out) hb); have n1 := Az (Kd.R_below (rU HO183.out) hb); have n2 := Az (Kd.R_below (rU HO186.out) hb); have n3 := Az (Kd.R_below (rU HO189.out) hb); have n4 := Az (Kd.R_below (rU HO192.out) hb); have n5 := Az (Kd.R_below (rU HO195.out) hb); have n6 := Az (blk_below (g := gb175) (o := .cells #[.string a0_0, .slice A0_1 l0_1.length c0_1] 25 (0, 0)) (kU BK175.out) hb); have n7 := Az (blk_below (g := gb176) (o := .cells #[.slice none 0 0, .slice none 0 0] 29 (0, 0)) (kU BK176.out) hb); have n8 := Az (below_step (bU2 HB.out GE175.out GE176.out) hb); have n9 := Az (hbox); have n10 := Az ((by rw [hg]; exact (below_size (bU2 HB.out GE175.out GE176.out)) : w.heap.size ≤ gb196)); have n11 := Az ((by rw [hg]; exact (below_size (bU2 HB.out GE175.out GE176.out)) : w.heap.size ≤ gb196)); have n12 := Az ((by rw [hg]; exact Nat.ne_of_lt (blk_lt (g := gb175) (o := .cells #[.string a0_0, .slice A0_1 l0_1.length c0_1] 25 (0, 0)) (kU BK175.out)) : gb175 ≠ gb196)); have n13 := Az ((by rw [hg]; exact Nat.ne_of_gt (blk_lt (g := gb175) (o := .cells #[.string a0_0, .slice A0_1 l0_1.length c0_1] 25 (0, 0)) (kU BK175.out)) : gb196 ≠ gb175)); have n14 := Az ((by rw [hg]; exact Nat.ne_of_lt (blk_lt (g := gb176) (o := .cells #[.slice none 0 0, .slice none 0 0] 29 (0, 0)) (kU BK176.out)) : gb176 ≠ gb196)); have n15 := Az ((by rw [hg]; exact Nat.ne_of_gt (blk_lt (g := gb176) (o := .cells #[.slice none 0 0, .slice none 0 0] 29 (0, 0)) (kU BK176.out)) : gb196 ≠ gb176)); clear HO180 HO183 HO186 HO189 HO192 HO195 BK175 BK176 HB; have HO180 := n0; have HO183 := n1; have HO186 := n2; have HO189 := n3; have HO192 := n4; have HO195 := n5; have BK175 := n6; have BK176 := n7; have HB := n8; have BK196 := n9; have GW196 := n10; have GE196 := n11; have NB175_196 := n12; have NB196_175 := n13; have NB176_196 := n14; have NB196_176 := n15; clear n0 n1 n2 n3 n4 n5 n6 n7 n8 n9 n10 n11 n12 n13 n14 n15 hb hbox hg
      refine hK.out _ _ trivial (fun hHeld => ?_)
      clear hK K
      refine norm_ (a' := ?_) ?_ ?_
      rotate_left
      ·
       show Act.put _ (some 10) _ = _
       simp only [Act.put, List.setIfInBounds_toArray, List.set_cons_zero, List.set_cons_succ, i64_w, i32_w]
       rfl
      exact norm_ (by first | (simp only [putAll, Act.put, List.setIfInBounds_toArray, List.set_cons_zero, List.set_cons_succ]; done) | (simp only [putAll, Act.put, List.setIfInBounds_toArray, List.set_cons_zero, List.set_cons_succ]; rfl)) (hJ2_4_6 (.slice Ao28 y190.length co28, .slice Ao27 t193.length co27, gb196) _ ⟨(rU HO180.out), (rU HO183.out), (rU HO186.out), (rU HO189.out), (rU HO192.out), (rU HO195.out), (kU BK175.out), (kU BK176.out), (kU BK196.out), GW196.out, GE196.out, NB175_196.out, NB196_175.out, NB176_196.out, NB196_176.out, (bU3 HB.out GE175.out GE176.out GE196.out)⟩)
    rintro ⟨v191, v194, gb196⟩ w27 ⟨h0_, h1_, h2_, h3_, h4_, h5_, h6_, h7_, h8_, h9_, h10_, h11_, h12_, h13_, h14_, h15_⟩
    have n0 : Aside0 (Kd.R (Kd.int .i64) 3 w27 w.heap.size (fun k_ => some k_ ≠ (.slice Ao17 t181.length co17 : Value).ownBlock ∧ some k_ ≠ (v185 : Value).ownBlock ∧ some k_ ≠ (.slice Ao19 t187.length co19 : Value).ownBlock ∧ some k_ ≠ (v191 : Value).ownBlock ∧ some k_ ≠ (v194 : Value).ownBlock) v179 t178) := ⟨h0_⟩; have n1 : Aside0 (Kd.R (Kd.int .i64) 3 w27 w.heap.size (fun k_ => some k_ ≠ (v179 : Value).ownBlock ∧ some k_ ≠ (v185 : Value).ownBlock ∧ some k_ ≠ (.slice Ao19 t187.length co19 : Value).ownBlock ∧ some k_ ≠ (v191 : Value).ownBlock ∧ some k_ ≠ (v194 : Value).ownBlock) (.slice Ao17 t181.length co17) t181) := ⟨h1_⟩; have n2 : Aside0 (Kd.R (Kd.int .i64) 3 w27 w.heap.size (fun k_ => some k_ ≠ (v179 : Value).ownBlock ∧ some k_ ≠ (.slice Ao17 t181.length co17 : Value).ownBlock ∧ some k_ ≠ (.slice Ao19 t187.length co19 : Value).ownBlock ∧ some k_ ≠ (v191 : Value).ownBlock ∧ some k_ ≠ (v194 : Value).ownBlock) v185 t184) := ⟨h2_⟩; have n3 : Aside0 (Kd.R (Kd.int .i64) 3 w27 w.heap.size (fun k_ => some k_ ≠ (v179 : Value).ownBlock ∧ some k_ ≠ (.slice Ao17 t181.length co17 : Value).ownBlock ∧ some k_ ≠ (v185 : Value).ownBlock ∧ some k_ ≠ (v191 : Value).ownBlock ∧ some k_ ≠ (v194 : Value).ownBlock) (.slice Ao19 t187.length co19) t187) := ⟨h3_⟩; have n4 : Aside0 (Kd.R (Kd.int .i64) 3 w27 w.heap.size (fun k_ => some k_ ≠ (v179 : Value).ownBlock ∧ some k_ ≠ (.slice Ao17 t181.length co17 : Value).ownBlock ∧ some k_ ≠ (v185 : Value).ownBlock ∧ some k_ ≠ (.slice Ao19 t187.length co19 : Value).ownBlock ∧ some k_ ≠ (v194 : Value).ownBlock) v191 y190) := ⟨h4_⟩; have n5 : Aside0 (Kd.R (Kd.int .i64) 3 w27 w.heap.size (fun k_ => some k_ ≠ (v179 : Value).ownBlock ∧ some k_ ≠ (.slice Ao17 t181.length co17 : Value).ownBlock ∧ some k_ ≠ (v185 : Value).ownBlock ∧ some k_ ≠ (.slice Ao19 t187.length co19 : Value).ownBlock ∧ some k_ ≠ (v191 : Value).ownBlock) v194 t193) := ⟨h5_⟩; have n6 : Aside0 (w27.heap[gb175]? = some (.cells #[.string a0_0, .slice A0_1 l0_1.length c0_1] 25 (0, 0))) := ⟨h6_⟩; have n7 : Aside0 (w27.heap[gb176]? = some (.cells #[.slice none 0 0, .slice none 0 0] 29 (0, 0))) := ⟨h7_⟩; have n8 : Aside0 (w27.heap[gb196]? = some (.cells #[.slice none 0 0, .slice none 0 0] 29 (0, 0))) := ⟨h8_⟩; have n9 : Aside0 (w.heap.size ≤ gb196) := ⟨h9_⟩; have n10 : Aside0 (w.heap.size ≤ gb196) := ⟨h10_⟩; have n11 : Aside0 (gb175 ≠ gb196) := ⟨h11_⟩; have n12 : Aside0 (gb196 ≠ gb175) := ⟨h12_⟩; have n13 : Aside0 (gb176 ≠ gb196) := ⟨h13_⟩; have n14 : Aside0 (gb196 ≠ gb176) := ⟨h14_⟩; have n15 : Aside0 (Below w.heap.size w w27) := ⟨h15_⟩; clear HO180 HO183 HO186 HO189 BK175 BK176 HB h0_ h1_ h2_ h3_ h4_ h5_ h6_ h7_ h8_ h9_ h10_ h11_ h12_ h13_ h14_ h15_; have HO180 := n0; have HO183 := n1; have HO186 := n2; have HO189 := n3; have HO192 := n4; have HO195 := n5; have BK175 := n6; have BK176 := n7; have BK196 := n8; have GW196 := n9; have GE196 := n10; have NB175_196 := n11; have NB196_175 := n12; have NB176_196 := n13; have NB196_176 := n14; have HB := n15; clear n0 n1 n2 n3 n4 n5 n6 n7 n8 n9 n10 n11 n12 n13 n14 n15; have hHeld := trivial; obtain ⟨Ao28, co28, eo28⟩ := Kd.R_slice HO195.out; (first | subst eo28 | (injection eo28 with f1_ f2_ f3_; have f4_ := f1_.symm; have f5_ := f3_.symm; clear f1_ f2_ f3_; subst f4_; subst f5_)); obtain ⟨Ao29, co29, eo29⟩ := Kd.R_slice HO192.out; (first | subst eo29 | (injection eo29 with f1_ f2_ f3_; have f4_ := f1_.symm; have f5_ := f3_.symm; clear f1_ f2_ f3_; subst f4_; subst f5_))
    refine norm_ (a' := ?_) ?_ ?_
    rotate_left
    ·
     simp only [putAll, Act.put, List.setIfInBounds_toArray, List.set_cons_zero, List.set_cons_succ]
     rfl
    refine one_ (i := 7) (N := none) #[true, true, true, true, true, true, true, true] rfl rfl (one_of HT_.out (by kernel_rfl)) (by decide) (fun K hK => ?_)
    have hs30 : w27.cell? ⟨gb196, 0, none⟩ = some (.slice none 0 0) := (blk_cell BK196.out 0).trans rfl; have hfs30 := blk_frozen BK196.out 0; have hns30_0 := NB175_196.out; have hns30_1 := NB176_196.out; have hms30_0 := NB196_175.out; have hms30_1 := NB196_176.out; have hs31 : w27.cell? ⟨gb196, 1, none⟩ = some (.slice none 0 0) := (blk_cell BK196.out 1).trans rfl; have hfs31 := blk_frozen BK196.out 1; have hns31_0 := NB175_196.out; have hns31_1 := NB176_196.out; have hms31_0 := NB196_175.out; have hms31_1 := NB196_176.out
    refine skip_ (w1 := ?_) (by rfl) rfl ?_ ?_
    rotate_left
    ·
     go_simp
     rfl
    refine hK.out _ _ trivial (fun hHeld => ?_)
    clear hK K
    refine done_ (done_of HT_.out (by kernel_rfl)) ?_
    try go_wp2
    go_loopg [11] k (fun kq v11 w' => ∃ (x5_1 : List Int) (x8_1 : List Int) (x11_1 : Int) (xZ0_1 : List Int) (xZ1_1 : List Int) (uZ0 : Value) (uZ1 : Value), v11 = .int .i64 x11_1 ∧ Aside0 (spec_TreeQuad.l0 kq x5_1 x8_1 (t187.length : Int) x11_1 xZ0_1 xZ1_1 = some (r1, r2, r3, r4)) ∧ Aside0 (kq ≤ k) ∧ Aside0 (Kd.R (Kd.int .i64) 3 w' w.heap.size (fun k_ => some k_ ≠ ((.slice Ao19 t187.length co19) : Value).ownBlock ∧ some k_ ≠ (uZ0 : Value).ownBlock ∧ some k_ ≠ (uZ1 : Value).ownBlock) v179 x5_1) ∧ Aside0 (Kd.R (Kd.int .i64) 3 w' w.heap.size (fun k_ => some k_ ≠ (v179 : Value).ownBlock ∧ some k_ ≠ (uZ0 : Value).ownBlock ∧ some k_ ≠ (uZ1 : Value).ownBlock) (.slice Ao19 t187.length co19) x8_1) ∧ Aside0 (Kd.R (Kd.int .i64) 3 w' w.heap.size (fun k_ => some k_ ≠ (v179 : Value).ownBlock ∧ some k_ ≠ ((.slice Ao19 t187.length co19) : Value).ownBlock ∧ some k_ ≠ (uZ1 : Value).ownBlock) uZ0 xZ0_1) ∧ Aside0 (Kd.R (Kd.int .i64) 3 w' w.heap.size (fun k_ => some k_ ≠ (v179 : Value).ownBlock ∧ some k_ ≠ ((.slice Ao19 t187.length co19) : Value).ownBlock ∧ some k_ ≠ (uZ0 : Value).ownBlock) uZ1 xZ1_1) ∧ Aside0 (w'.heap[gb175]? = some (.cells #[.string a0_0, (.slice A0_1 l0_1.length c0_1)] 25 (0, 0))) ∧ Aside0 (w'.heap[gb176]? = some (.cells #[(.slice none 0 0), (.slice none 0 0)] 29 (0, 0))) ∧ Aside0 (w'.heap[gb196]? = some (.cells #[uZ0, uZ1] 29 (0, 0))) ∧ Aside0 (Below w.heap.size w w'))
    case atStart => exact ⟨(t178), (t187), (0), (y190), (t193), (.slice Ao29 y190.length co29), (.slice Ao28 t193.length co28), rS, H', ⟨Nat.le_refl _⟩, ⟨by (with_reducible repeat (first | apply Kd.R_alloc | apply Kd.R_drewN | apply Kd.R_drew)); exact Kd.R_mono (Kd.R_far (p := ⟨gb196, 1, none⟩) (Kd.R_far (p := ⟨gb196, 0, none⟩) (Kd.R_types HO180.out BK196.out (by decide)) (fun _ hk => hk.2) (.slice Ao29 y190.length co29)) (fun _ hk => hk.2) (.slice Ao28 t193.length co28)) (fun _ hk => ⟨hk.1.2.2.1, ⟨hk.1.2.2.2.1, hk.1.2.2.2.2⟩⟩)⟩, ⟨by (with_reducible repeat (first | apply Kd.R_alloc | apply Kd.R_drewN | apply Kd.R_drew)); exact Kd.R_mono (Kd.R_far (p := ⟨gb196, 1, none⟩) (Kd.R_far (p := ⟨gb196, 0, none⟩) (Kd.R_types HO189.out BK196.out (by decide)) (fun _ hk => hk.2) (.slice Ao29 y190.length co29)) (fun _ hk => hk.2) (.slice Ao28 t193.length co28)) (fun _ hk => ⟨hk.1.1, ⟨hk.1.2.2.2.1, hk.1.2.2.2.2⟩⟩)⟩, ⟨by (with_reducible repeat (first | apply Kd.R_alloc | apply Kd.R_drewN | apply Kd.R_drew)); exact Kd.R_mono (Kd.R_far (p := ⟨gb196, 1, none⟩) (Kd.R_far (p := ⟨gb196, 0, none⟩) (Kd.R_types HO192.out BK196.out (by decide)) (fun _ hk => hk.2) (.slice Ao29 y190.length co29)) (fun _ hk => hk.2) (.slice Ao28 t193.length co28)) (fun _ hk => ⟨hk.1.1, ⟨hk.1.2.2.2.1, hk.1.2.2.2.2⟩⟩)⟩, ⟨by (with_reducible repeat (first | apply Kd.R_alloc | apply Kd.R_drewN | apply Kd.R_drew)); exact Kd.R_mono (Kd.R_far (p := ⟨gb196, 1, none⟩) (Kd.R_far (p := ⟨gb196, 0, none⟩) (Kd.R_types HO195.out BK196.out (by decide)) (fun _ hk => hk.2) (.slice Ao29 y190.length co29)) (fun _ hk => hk.2) (.slice Ao28 t193.length co28)) (fun _ hk => ⟨hk.1.1, ⟨hk.1.2.2.2.1, hk.1.2.2.2.2⟩⟩)⟩, ⟨by (with_reducible repeat (first | refine blk_drewN ?_ _ | refine blk_drew ?_ | refine blk_alloc ?_ _)); refine blk_far ?_ NB175_196.out _; (with_reducible repeat (first | refine blk_drewN ?_ _ | refine blk_drew ?_ | refine blk_alloc ?_ _)); refine blk_far ?_ NB175_196.out _; (with_reducible repeat (first | refine blk_drewN ?_ _ | refine blk_drew ?_ | refine blk_alloc ?_ _)); exact BK175.out⟩, ⟨by (with_reducible repeat (first | refine blk_drewN ?_ _ | refine blk_drew ?_ | refine blk_alloc ?_ _)); refine blk_far ?_ NB176_196.out _; (with_reducible repeat (first | refine blk_drewN ?_ _ | refine blk_drew ?_ | refine blk_alloc ?_ _)); refine blk_far ?_ NB176_196.out _; (with_reducible repeat (first | refine blk_drewN ?_ _ | refine blk_drew ?_ | refine blk_alloc ?_ _)); exact BK176.out⟩, ⟨by (with_reducible repeat (first | refine blk_drewN ?_ _ | refine blk_drew ?_ | refine blk_alloc ?_ _)); refine blk_put (cs := #[.slice Ao29 y190.length co29, .slice none 0 0]) ?_ 1 _ rfl; (with_reducible repeat (first | refine blk_drewN ?_ _ | refine blk_drew ?_ | refine blk_alloc ?_ _)); refine blk_put (cs := #[.slice none 0 0, .slice none 0 0]) ?_ 0 _ rfl; (with_reducible repeat (first | refine blk_drewN ?_ _ | refine blk_drew ?_ | refine blk_alloc ?_ _)); exact BK196.out⟩, ⟨bU3 HB.out GE175.out GE176.out GE196.out⟩⟩
    case round =>
     clear H'; (try clear p2); (try clear c7); obtain ⟨x5_1, x8_1, x11_1, xZ0_1, xZ1_1, uZ0, uZ1, rfl, HA, HK1, HO_5, HO_8, HO_Z0, HO_Z1, BK175, BK176, BK196, HB⟩ := hrel; have hl8_1 := (Kd.R_reads' HO_8.out).1; rw [hl8_1] at HO_8; (try simp only [hl8_1]); (try simp only [hl8_1] at BK175); (try simp only [hl8_1] at BK176); (try simp only [hl8_1] at BK196); (try simp only [hl8_1] at HO_5); (try simp only [hl8_1] at HO_Z0); (try simp only [hl8_1] at HO_Z1)
     cases gk with
     | zero => exact absurd HA.out (by simp [spec_TreeQuad.l0])
     | succ k1 =>
      have H := HA.out; clear HA; simp only [spec_TreeQuad.l0] at H
      by_cases c32 : x11_1 ≤ (wrap64 (Int.tdiv (t187.length : Int) 2))
      ·
       rw [if_pos c32] at H; have c32b0 := decide_eq_true c32; (try (have c32b0hl8_1 := c32b0; rw [hl8_1] at c32b0hl8_1)); (try (have c32b0dhl8_1 := c32b0hl8_1; rw [Int.tdiv_eq_ediv_of_nonneg (Int.natCast_nonneg _)] at c32b0dhl8_1)); clear c32; obtain ⟨y197, hy197⟩ : ∃ y_ : List Int, y_ = (([] : List Int)) := ⟨_, rfl⟩; replace H : (spec_TreeQuad.l1 k1 x5_1 x8_1 (t187.length : Int) x11_1 y197 0 xZ0_1 xZ1_1) = some (r1, r2, r3, r4) := hR hy197 H; have Ny197 := Az hy197; clear hy197; have H' := Az H; clear H
       go_wp2_with (first | ((with_reducible refine gate_dst (N := 44) rfl ?_); refine Kd.R_lit (Kd.int .i64) _ 3 ?hg (N := 44) ?hd (xs := ([] : List Int)) (inner := []) (ok := fun _ => True) (okp := fun _ => True) ?hr ?hp (fun _ hk => hk) trivial (Below.refl _ _) (Nat.le_refl _) (by simp) ?_; (case hd => rfl); (case hg => rfl); (case hr => first | (go_simp; done) | (go_simp; rfl)); (case hp => exact (Reps.none _ _)); intro v198 w33 ho34 hb hg_ hnew_; clear hg_ hnew_; (first | rw [← Ny197.out] at ho34 | (simp only [Int.reduceToNat] at ho34; rw [← Ny197.out] at ho34)); have n0 := Az (Kd.R_elder' (rU HO_5.out) (Kd.R_base ho34) hb); have n1 := Az (Kd.R_elder' (rU HO_8.out) (Kd.R_base ho34) hb); have n2 := Az (Kd.R_elder' (rU HO_Z0.out) (Kd.R_base ho34) hb); have n3 := Az (Kd.R_elder' (rU HO_Z1.out) (Kd.R_base ho34) hb); have n4 := Az (Kd.R_lower (Kd.R_new' (Kd.R_new' (Kd.R_new' (Kd.R_new' ho34 (Kd.R_lt (rU HO_5.out))) (Kd.R_lt (rU HO_8.out))) (Kd.R_lt (rU HO_Z0.out))) (Kd.R_lt (rU HO_Z1.out))) (below_size (bU3 HB.out GE175.out GE176.out GE196.out))); have n5 := Az (blk_below (g := gb175) (o := .cells #[.string a0_0, .slice A0_1 l0_1.length c0_1] 25 (0, 0)) (kU BK175.out) hb); have n6 := Az (blk_below (g := gb176) (o := .cells #[.slice none 0 0, .slice none 0 0] 29 (0, 0)) (kU BK176.out) hb); have n7 := Az (blk_below (g := gb196) (o := .cells #[uZ0, uZ1] 29 (0, 0)) (kU BK196.out) hb); have n8 := Az (below_step (bU3 HB.out GE175.out GE176.out GE196.out) hb); clear HO_5 HO_8 HO_Z0 HO_Z1 BK175 BK176 BK196 HB; have HO_5 := n0; have HO_8 := n1; have HO_Z0 := n2; have HO_Z1 := n3; have HO199 := n4; have BK175 := n5; have BK176 := n6; have BK196 := n7; have HB := n8; clear n0 n1 n2 n3 n4 n5 n6 n7 n8; clear hb ho34))
       go_loopg [12, 13] k1 (fun kq v12 v13 w' => ∃ (x12_2 : List Int) (x13_2 : Int), v13 = .int .i64 x13_2 ∧ Aside0 (spec_TreeQuad.l1 kq x5_1 x8_1 (t187.length : Int) x11_1 x12_2 x13_2 xZ0_1 xZ1_1 = some (r1, r2, r3, r4)) ∧ Aside0 (kq ≤ k1) ∧ Aside0 (Kd.R (Kd.int .i64) 3 w' w.heap.size (fun k_ => some k_ ≠ ((.slice Ao19 x8_1.length co19) : Value).ownBlock ∧ some k_ ≠ (v12 : Value).ownBlock ∧ some k_ ≠ (uZ0 : Value).ownBlock ∧ some k_ ≠ (uZ1 : Value).ownBlock) v179 x5_1) ∧ Aside0 (Kd.R (Kd.int .i64) 3 w' w.heap.size (fun k_ => some k_ ≠ (v179 : Value).ownBlock ∧ some k_ ≠ (v12 : Value).ownBlock ∧ some k_ ≠ (uZ0 : Value).ownBlock ∧ some k_ ≠ (uZ1 : Value).ownBlock) (.slice Ao19 x8_1.length co19) x8_1) ∧ Aside0 (Kd.R (Kd.int .i64) 3 w' w.heap.size (fun k_ => some k_ ≠ (v179 : Value).ownBlock ∧ some k_ ≠ ((.slice Ao19 x8_1.length co19) : Value).ownBlock ∧ some k_ ≠ (uZ0 : Value).ownBlock ∧ some k_ ≠ (uZ1 : Value).ownBlock) v12 x12_2) ∧ Aside0 (Kd.R (Kd.int .i64) 3 w' w.heap.size (fun k_ => some k_ ≠ (v179 : Value).ownBlock ∧ some k_ ≠ ((.slice Ao19 x8_1.length co19) : Value).ownBlock ∧ some k_ ≠ (v12 : Value).ownBlock ∧ some k_ ≠ (uZ1 : Value).ownBlock) uZ0 xZ0_1) ∧ Aside0 (Kd.R (Kd.int .i64) 3 w' w.heap.size (fun k_ => some k_ ≠ (v179 : Value).ownBlock ∧ some k_ ≠ ((.slice Ao19 x8_1.length co19) : Value).ownBlock ∧ some k_ ≠ (v12 : Value).ownBlock ∧ some k_ ≠ (uZ0 : Value).ownBlock) uZ1 xZ1_1) ∧ Aside0 (w'.heap[gb175]? = some (.cells #[.string a0_0, (.slice A0_1 l0_1.length c0_1)] 25 (0, 0))) ∧ Aside0 (w'.heap[gb176]? = some (.cells #[(.slice none 0 0), (.slice none 0 0)] 29 (0, 0))) ∧ Aside0 (w'.heap[gb196]? = some (.cells #[uZ0, uZ1] 29 (0, 0))) ∧ Aside0 (Below w.heap.size w w'))
       case atStart => exact ⟨(y197), (0), rS, H', ⟨Nat.le_refl _⟩, ⟨by (try simp only [hl8_1]); (with_reducible repeat (first | apply Kd.R_alloc | apply Kd.R_drewN | apply Kd.R_drew)); exact Kd.R_mono HO_5.out (fun _ hk => ⟨hk.1.1, ⟨hk.2, ⟨hk.1.2.1, hk.1.2.2⟩⟩⟩)⟩, ⟨by (try simp only [hl8_1]); (with_reducible repeat (first | apply Kd.R_alloc | apply Kd.R_drewN | apply Kd.R_drew)); exact Kd.R_mono HO_8.out (fun _ hk => ⟨hk.1.1, ⟨hk.2, ⟨hk.1.2.1, hk.1.2.2⟩⟩⟩)⟩, ⟨by (try simp only [hl8_1]); (with_reducible repeat (first | apply Kd.R_alloc | apply Kd.R_drewN | apply Kd.R_drew)); exact Kd.R_mono HO199.out (fun _ hk => ⟨hk.1.1.1.2, ⟨hk.1.1.2, ⟨hk.1.2, hk.2⟩⟩⟩)⟩, ⟨by (try simp only [hl8_1]); (with_reducible repeat (first | apply Kd.R_alloc | apply Kd.R_drewN | apply Kd.R_drew)); exact Kd.R_mono HO_Z0.out (fun _ hk => ⟨hk.1.1, ⟨hk.1.2.1, ⟨hk.2, hk.1.2.2⟩⟩⟩)⟩, ⟨by (try simp only [hl8_1]); (with_reducible repeat (first | apply Kd.R_alloc | apply Kd.R_drewN | apply Kd.R_drew)); exact Kd.R_mono HO_Z1.out (fun _ hk => ⟨hk.1.1, ⟨hk.1.2.1, ⟨hk.2, hk.1.2.2⟩⟩⟩)⟩, ⟨by (try simp only [hl8_1]); (with_reducible repeat (first | refine blk_drewN ?_ _ | refine blk_drew ?_ | refine blk_alloc ?_ _)); exact BK175.out⟩, ⟨by (try simp only [hl8_1]); (with_reducible repeat (first | refine blk_drewN ?_ _ | refine blk_drew ?_ | refine blk_alloc ?_ _)); exact BK176.out⟩, ⟨by (try simp only [hl8_1]); (with_reducible repeat (first | refine blk_drewN ?_ _ | refine blk_drew ?_ | refine blk_alloc ?_ _)); exact BK196.out⟩, ⟨bU3 HB.out GE175.out GE176.out GE196.out⟩⟩
       case round =>
        clear H'; (try clear p2); (try clear c3); (try clear p6); (try clear c7); (try clear c32); (try clear c32b0); (try clear p2); obtain ⟨x12_2, x13_2, rfl, HA, HK2, HO_5, HO_8, HO_12, HO_Z0, HO_Z1, BK175, BK176, BK196, HB⟩ := hrel
        cases gk with
        | zero => exact absurd HA.out (by simp [spec_TreeQuad.l1])
        | succ k2 =>
         have H := HA.out; clear HA; simp only [spec_TreeQuad.l1] at H
         by_cases c35 : x13_2 < (t187.length : Int)
         ·
          rw [if_pos c35] at H; have c35b0 := decide_eq_true c35; (try (have c35b0hl8_1 := c35b0; rw [hl8_1] at c35b0hl8_1)); clear c35
          by_cases c36 : 0 ≤ x13_2
          ·
           rw [if_pos c36] at H; have c36b0 := decide_eq_true c36; clear c36
           by_cases c37 : x13_2 < (x5_1.length : Int)
           ·
            rw [if_pos c37] at H; have c37b0 := decide_eq_true c37; (try (have c37b0hl8_1 := c37b0; rw [hl8_1] at c37b0hl8_1)); clear c37
            by_cases c38 : (rd x5_1 x13_2) = x11_1
            ·
             rw [if_pos c38] at H; have c38b0 := beq_iff_eq.mpr c38; have c38b1 := bne_eq_false_iff_eq.mpr c38; clear c38; have H' := Az H; clear H; obtain ⟨Ao39, co39, eo39⟩ := Kd.R_slice HO_5.out; subst eo39; have p201 : 0 ≤ (x13_2 : Int) := oA; have q201 : x13_2 < (x5_1.length : Int) := oA; obtain ⟨ad201, e201, hx201_0⟩ := Kd.at_int (Kd.R_reads' HO_5.out).2.2 x13_2 p201 q201
             cases e201
             replace p201 := eq_true p201; replace q201 := eq_true q201
             go_wp2
             go_loopg [12, 14] k2 (fun kq v12 v14 w' => ∃ (x12_3 : List Int) (x14_3 : Int), v14 = .int .i64 x14_3 ∧ Aside0 (spec_TreeQuad.l2 kq x5_1 x8_1 (t187.length : Int) x11_1 x12_3 x13_2 x14_3 xZ0_1 xZ1_1 = some (r1, r2, r3, r4)) ∧ Aside0 (kq ≤ k2) ∧ Aside0 (Kd.R (Kd.int .i64) 3 w' w.heap.size (fun k_ => some k_ ≠ ((.slice Ao19 x8_1.length co19) : Value).ownBlock ∧ some k_ ≠ (v12 : Value).ownBlock ∧ some k_ ≠ (uZ0 : Value).ownBlock ∧ some k_ ≠ (uZ1 : Value).ownBlock) (.slice (some ad201) x5_1.length co39) x5_1) ∧ Aside0 (Kd.R (Kd.int .i64) 3 w' w.heap.size (fun k_ => some k_ ≠ ((.slice (some ad201) x5_1.length co39) : Value).ownBlock ∧ some k_ ≠ (v12 : Value).ownBlock ∧ some k_ ≠ (uZ0 : Value).ownBlock ∧ some k_ ≠ (uZ1 : Value).ownBlock) (.slice Ao19 x8_1.length co19) x8_1) ∧ Aside0 (Kd.R (Kd.int .i64) 3 w' w.heap.size (fun k_ => some k_ ≠ ((.slice (some ad201) x5_1.length co39) : Value).ownBlock ∧ some k_ ≠ ((.slice Ao19 x8_1.length co19) : Value).ownBlock ∧ some k_ ≠ (uZ0 : Value).ownBlock ∧ some k_ ≠ (uZ1 : Value).ownBlock) v12 x12_3) ∧ Aside0 (Kd.R (Kd.int .i64) 3 w' w.heap.size (fun k_ => some k_ ≠ ((.slice (some ad201) x5_1.length co39) : Value).ownBlock ∧ some k_ ≠ ((.slice Ao19 x8_1.length co19) : Value).ownBlock ∧ some k_ ≠ (v12 : Value).ownBlock ∧ some k_ ≠ (uZ1 : Value).ownBlock) uZ0 xZ0_1) ∧ Aside0 (Kd.R (Kd.int .i64) 3 w' w.heap.size (fun k_ => some k_ ≠ ((.slice (some ad201) x5_1.length co39) : Value).ownBlock ∧ some k_ ≠ ((.slice Ao19 x8_1.length co19) : Value).ownBlock ∧ some k_ ≠ (v12 : Value).ownBlock ∧ some k_ ≠ (uZ0 : Value).ownBlock) uZ1 xZ1_1) ∧ Aside0 (w'.heap[gb175]? = some (.cells #[.string a0_0, (.slice A0_1 l0_1.length c0_1)] 25 (0, 0))) ∧ Aside0 (w'.heap[gb176]? = some (.cells #[(.slice none 0 0), (.slice none 0 0)] 29 (0, 0))) ∧ Aside0 (w'.heap[gb196]? = some (.cells #[uZ0, uZ1] 29 (0, 0))) ∧ Aside0 (Below w.heap.size w w'))
             case atStart => exact ⟨(x12_2), (1), rS, H', ⟨Nat.le_refl _⟩, ⟨by (try simp only [hl8_1]); (with_reducible repeat (first | apply Kd.R_alloc | apply Kd.R_drewN | apply Kd.R_drew)); exact HO_5.out⟩, ⟨by (try simp only [hl8_1]); (with_reducible repeat (first | apply Kd.R_alloc | apply Kd.R_drewN | apply Kd.R_drew)); exact HO_8.out⟩, ⟨by (try simp only [hl8_1]); (with_reducible repeat (first | apply Kd.R_alloc | apply Kd.R_drewN | apply Kd.R_drew)); exact HO_12.out⟩, ⟨by (try simp only [hl8_1]); (with_reducible repeat (first | apply Kd.R_alloc | apply Kd.R_drewN | apply Kd.R_drew)); exact HO_Z0.out⟩, ⟨by (try simp only [hl8_1]); (with_reducible repeat (first | apply Kd.R_alloc | apply Kd.R_drewN | apply Kd.R_drew)); exact HO_Z1.out⟩, ⟨by (try simp only [hl8_1]); (with_reducible repeat (first | refine blk_drewN ?_ _ | refine blk_drew ?_ | refine blk_alloc ?_ _)); exact BK175.out⟩, ⟨by (try simp only [hl8_1]); (with_reducible repeat (first | refine blk_drewN ?_ _ | refine blk_drew ?_ | refine blk_alloc ?_ _)); exact BK176.out⟩, ⟨by (try simp only [hl8_1]); (with_reducible repeat (first | refine blk_drewN ?_ _ | refine blk_drew ?_ | refine blk_alloc ?_ _)); exact BK196.out⟩, ⟨bU3 HB.out GE175.out GE176.out GE196.out⟩⟩
             case round =>
              clear H'; (try clear p2); (try clear q2); (try clear hx2); (try clear c3); (try clear p6); (try clear c7); (try clear p20); (try clear q20); (try clear hx20); (try clear c32); (try clear c32b0); (try clear c35); (try clear c35b0); (try clear c36); (try clear c36b0); (try clear c37); (try clear c37b0); (try clear c38); (try clear c38b0); (try clear c38b1); (try clear hx201_0); (try clear p2); (try clear p201); (try clear p6); (try clear q201); obtain ⟨x12_3, x14_3, rfl, HA, HK3, HO_5, HO_8, HO_12, HO_Z0, HO_Z1, BK175, BK176, BK196, HB⟩ := hrel
              cases gk with
              | zero => exact absurd HA.out (by simp [spec_TreeQuad.l2])
              | succ k3 =>
               have H := HA.out; clear HA; simp only [spec_TreeQuad.l2] at H
               by_cases c40 : x14_3 < (t187.length : Int)
               ·
                rw [if_pos c40] at H; have c40b0 := decide_eq_true c40; (try (have c40b0hl8_1 := c40b0; rw [hl8_1] at c40b0hl8_1)); clear c40
                by_cases c41 : (t187.length : Int) = 0
                ·
                 rw [if_pos c41] at H
                 exact absurd H (by simp)
                ·
                 rw [if_neg c41] at H; have c41b0 := beq_eq_false_iff_ne.mpr c41; (try (have c41b0hl8_1 := c41b0; rw [hl8_1] at c41b0hl8_1)); have c41b1 := bne_iff_ne.mpr c41; (try (have c41b1hl8_1 := c41b1; rw [hl8_1] at c41b1hl8_1))
                 have c41b2 : ¬ (t187 = []) := fun h_ => c41 (by rw [h_]; rfl)
                 obtain ⟨ji42, hji42⟩ : ∃ j_ : Int, (Int.tmod (wrap64 ((wrap64 (x13_2 - x14_3)) + (t187.length : Int))) (t187.length : Int)) = j_ := ⟨_, rfl⟩; (try (have hji42hl8_1 := hji42; rw [hl8_1] at hji42hl8_1))
                 replace H : (if 0 ≤ (ji42) then (if (ji42) < (x8_1.length : Int) then (if (rd x8_1 (ji42)) = x13_2 then (if x12_3.length < 17592186044416 then (spec_TreeQuad.l2 k3 x5_1 x8_1 (t187.length : Int) x11_1 (x12_3 ++ [wrap64 ((wrap64 (2 * (ji42))) + 1)]) x13_2 (wrap64 (x14_3 + 1)) xZ0_1 xZ1_1) else (none)) else (spec_TreeQuad.l2 k3 x5_1 x8_1 (t187.length : Int) x11_1 x12_3 x13_2 (wrap64 (x14_3 + 1)) xZ0_1 xZ1_1)) else (none)) else (none)) = some (r1, r2, r3, r4) := by first | (rw [hji42] at H; exact H) | (simp only [hji42] at H ⊢; exact H)
                 by_cases c43 : 0 ≤ (ji42)
                 ·
                  rw [if_pos c43] at H; have c43b0 := decide_eq_true c43; clear c43
                  by_cases c44 : (ji42) < (x8_1.length : Int)
                  ·
                   rw [if_pos c44] at H; have c44b0 := decide_eq_true c44; (try (have c44b0hl8_1 := c44b0; rw [hl8_1] at c44b0hl8_1)); clear c44
                   by_cases c45 : (rd x8_1 (ji42)) = x13_2
                   ·
                    rw [if_pos c45] at H; have c45b0 := beq_iff_eq.mpr c45; have c45b1 := bne_eq_false_iff_eq.mpr c45; clear c45
                    by_cases c46 : x12_3.length < 17592186044416
                    ·
                     rw [if_pos c46] at H; have LMc46 := Az c46; clear c46; obtain ⟨y203, hy203⟩ : ∃ y_ : List Int, y_ = (x12_3 ++ [wrap64 ((wrap64 (2 * (ji42))) + 1)]) := ⟨_, rfl⟩; replace H : (spec_TreeQuad.l2 k3 x5_1 x8_1 (t187.length : Int) x11_1 y203 x13_2 (wrap64 (x14_3 + 1)) xZ0_1 xZ1_1) = some (r1, r2, r3, r4) := hR hy203 H; have Ny203 := Az hy203; clear hy203; have H' := Az H; clear H; have p202 : 0 ≤ ((ji42) : Int) := oA; have q202 : (ji42) < (x8_1.length : Int) := oA; obtain ⟨ad202, e202, hx202_0⟩ := Kd.at_int (Kd.R_reads' HO_8.out).2.2 (ji42) p202 q202
                     cases e202
                     replace p202 := eq_true p202; replace q202 := eq_true q202
                     go_wp2_with (first | ((with_reducible refine gate_builtin (b := .append) (xs := #[.tmp 74, .tmp 78]) rfl ?_); at_builtin; refine Kd.R_append (Kd.int .i64) (w0 := w) w.heap.size rfl (.tmp 74) (.tmp 78) 23 3 (.int .i64 0) 8 rfl Try.underlying23 info3 rfl (by decide) (by omega) u12 x12_3 (wrap64 ((wrap64 (2 * (ji42))) + 1)) [.int .i64 (wrap64 ((wrap64 (2 * (ji42))) + 1))] (fun k_ => some k_ ≠ (.slice (some ad201) x5_1.length co39 : Value).ownBlock ∧ some k_ ≠ (.slice (some ad202) x8_1.length co19 : Value).ownBlock ∧ some k_ ≠ (uZ0 : Value).ownBlock ∧ some k_ ≠ (uZ1 : Value).ownBlock) (fun _ => False) rfl rfl ?aP (fun _ hk => hk.elim) ?aF ?aO ?aB ?aS ?aL ?_; (case aP => exact rfl); (case aB => exact (bU3 HB.out GE175.out GE176.out GE196.out)); (case aF => exact (fun k_ hk => ⟨Kd.fresh' (Kd.R_lt (rU HO_5.out)) k_ hk, Kd.fresh' (Kd.R_lt (rU HO_8.out)) k_ hk, Kd.fresh' (Kd.R_lt (rU HO_Z0.out)) k_ hk, Kd.fresh' (Kd.R_lt (rU HO_Z1.out)) k_ hk⟩)); (case aO => exact (rU HO_12.out)); (case aS => exact (below_size (bU3 HB.out GE175.out GE176.out GE196.out))); (case aL => have := LMc46.out; omega); intro v204 w47 ho hb hg hat; rw [← Ny203.out] at ho; have n0 := Az (Kd.R_after (ok := (fun k_ => some k_ ≠ (.slice (some ad202) x8_1.length co19 : Value).ownBlock ∧ some k_ ≠ (uZ0 : Value).ownBlock ∧ some k_ ≠ (uZ1 : Value).ownBlock)) (by (with_reducible repeat (first | apply Kd.R_alloc | apply Kd.R_drewN | apply Kd.R_drew)); exact Kd.R_mono HO_5.out (fun _ hk => ⟨⟨hk.1, ⟨hk.2.2.1, hk.2.2.2⟩⟩, hk.2.1⟩)) hg hat); have n1 := Az (Kd.R_after (ok := (fun k_ => some k_ ≠ (.slice (some ad201) x5_1.length co39 : Value).ownBlock ∧ some k_ ≠ (uZ0 : Value).ownBlock ∧ some k_ ≠ (uZ1 : Value).ownBlock)) (by (with_reducible repeat (first | apply Kd.R_alloc | apply Kd.R_drewN | apply Kd.R_drew)); exact Kd.R_mono HO_8.out (fun _ hk => ⟨⟨hk.1, ⟨hk.2.2.1, hk.2.2.2⟩⟩, hk.2.1⟩)) hg hat); have n2 := Az (Kd.R_after (ok := (fun k_ => some k_ ≠ (.slice (some ad201) x5_1.length co39 : Value).ownBlock ∧ some k_ ≠ (.slice (some ad202) x8_1.length co19 : Value).ownBlock ∧ some k_ ≠ (uZ1 : Value).ownBlock)) (by (with_reducible repeat (first | apply Kd.R_alloc | apply Kd.R_drewN | apply Kd.R_drew)); exact Kd.R_mono HO_Z0.out (fun _ hk => ⟨⟨hk.1, ⟨hk.2.1, hk.2.2.2⟩⟩, hk.2.2.1⟩)) hg hat); have n3 := Az (Kd.R_after (ok := (fun k_ => some k_ ≠ (.slice (some ad201) x5_1.length co39 : Value).ownBlock ∧ some k_ ≠ (.slice (some ad202) x8_1.length co19 : Value).ownBlock ∧ some k_ ≠ (uZ0 : Value).ownBlock)) (by (with_reducible repeat (first | apply Kd.R_alloc | apply Kd.R_drewN | apply Kd.R_drew)); exact Kd.R_mono HO_Z1.out (fun _ hk => ⟨⟨hk.1, ⟨hk.2.1, hk.2.2.2⟩⟩, hk.2.2.1⟩)) hg hat); have n4 := Az (blk_grown (g := gb175) (o := .cells #[.string a0_0, .slice A0_1 l0_1.length c0_1] 25 (0, 0)) (kU BK175.out) hg (Kd.R_ne HO_12.out BK175.out (by decide))); have n5 := Az (blk_grown (g := gb176) (o := .cells #[.slice none 0 0, .slice none 0 0] 29 (0, 0)) (kU BK176.out) hg (Kd.R_ne HO_12.out BK176.out (by decide))); have n6 := Az (blk_grown (g := gb196) (o := .cells #[uZ0, uZ1] 29 (0, 0)) (kU BK196.out) hg (Kd.R_ne HO_12.out BK196.out (by decide))); have n7 := Az (hb); have n8 := Az (ho); clear HO_5 HO_8 HO_Z0 HO_Z1 BK175 BK176 BK196 HB HO_12; have HO_5 := n0; have HO_8 := n1; have HO_Z0 := n2; have HO_Z1 := n3; have BK175 := n4; have BK176 := n5; have BK196 := n6; have HB := n7; have HO205 := n8; clear n0 n1 n2 n3 n4 n5 n6 n7 n8; clear ho hb hg hat))
                     (first | go_roundg k3 | (refine Handed.intro k3 ?measure ?_; rotate_left; go_step; (try simp only [add_plain]); (repeat apply Exists.intro); refine ⟨?rel, rfl⟩))
                     case measure => have := HK1.out; have := HK2.out; have := HK3.out; omega
                     case rel => exact ⟨(y203), (wrap64 (x14_3 + 1)), rS, H', ⟨by have := HK1.out; have := HK2.out; have := HK3.out; omega⟩, ⟨by (try simp only [hl8_1]); (with_reducible repeat (first | apply Kd.R_alloc | apply Kd.R_drewN | apply Kd.R_drew)); exact Kd.R_mono HO_5.out (fun _ hk => ⟨hk.1.1, ⟨hk.2, ⟨hk.1.2.1, hk.1.2.2⟩⟩⟩)⟩, ⟨by (try simp only [hl8_1]); (with_reducible repeat (first | apply Kd.R_alloc | apply Kd.R_drewN | apply Kd.R_drew)); exact Kd.R_mono HO_8.out (fun _ hk => ⟨hk.1.1, ⟨hk.2, ⟨hk.1.2.1, hk.1.2.2⟩⟩⟩)⟩, ⟨by (try simp only [hl8_1]); (with_reducible repeat (first | apply Kd.R_alloc | apply Kd.R_drewN | apply Kd.R_drew)); exact HO205.out⟩, ⟨by (try simp only [hl8_1]); (with_reducible repeat (first | apply Kd.R_alloc | apply Kd.R_drewN | apply Kd.R_drew)); exact Kd.R_mono HO_Z0.out (fun _ hk => ⟨hk.1.1, ⟨hk.1.2.1, ⟨hk.2, hk.1.2.2⟩⟩⟩)⟩, ⟨by (try simp only [hl8_1]); (with_reducible repeat (first | apply Kd.R_alloc | apply Kd.R_drewN | apply Kd.R_drew)); exact Kd.R_mono HO_Z1.out (fun _ hk => ⟨hk.1.1, ⟨hk.1.2.1, ⟨hk.2, hk.1.2.2⟩⟩⟩)⟩, ⟨by (try simp only [hl8_1]); (with_reducible repeat (first | refine blk_drewN ?_ _ | refine blk_drew ?_ | refine blk_alloc ?_ _)); exact BK175.out⟩, ⟨by (try simp only [hl8_1]); (with_reducible repeat (first | refine blk_drewN ?_ _ | refine blk_drew ?_ | refine blk_alloc ?_ _)); exact BK176.out⟩, ⟨by (try simp only [hl8_1]); (with_reducible repeat (first | refine blk_drewN ?_ _ | refine blk_drew ?_ | refine blk_alloc ?_ _)); exact BK196.out⟩, ⟨bU3 HB.out GE175.out GE176.out GE196.out⟩⟩
                    ·
                     rw [if_neg c46] at H
                     exact absurd H (by simp)
                   ·
                    rw [if_neg c45] at H; have c45b0 := beq_eq_false_iff_ne.mpr c45; have c45b1 := bne_iff_ne.mpr c45; clear c45; have H' := Az H; clear H; have p202 : 0 ≤ ((ji42) : Int) := oA; have q202 : (ji42) < (x8_1.length : Int) := oA; obtain ⟨ad202, e202, hx202_0⟩ := Kd.at_int (Kd.R_reads' HO_8.out).2.2 (ji42) p202 q202
                    cases e202
                    replace p202 := eq_true p202; replace q202 := eq_true q202
                    go_wp2
                    (first | go_roundg k3 | (refine Handed.intro k3 ?measure ?_; rotate_left; go_step; (try simp only [add_plain]); (repeat apply Exists.intro); refine ⟨?rel, rfl⟩))
                    case measure => have := HK1.out; have := HK2.out; have := HK3.out; omega
                    case rel => exact ⟨(x12_3), (wrap64 (x14_3 + 1)), rS, H', ⟨by have := HK1.out; have := HK2.out; have := HK3.out; omega⟩, ⟨by (try simp only [hl8_1]); (with_reducible repeat (first | apply Kd.R_alloc | apply Kd.R_drewN | apply Kd.R_drew)); exact HO_5.out⟩, ⟨by (try simp only [hl8_1]); (with_reducible repeat (first | apply Kd.R_alloc | apply Kd.R_drewN | apply Kd.R_drew)); exact HO_8.out⟩, ⟨by (try simp only [hl8_1]); (with_reducible repeat (first | apply Kd.R_alloc | apply Kd.R_drewN | apply Kd.R_drew)); exact HO_12.out⟩, ⟨by (try simp only [hl8_1]); (with_reducible repeat (first | apply Kd.R_alloc | apply Kd.R_drewN | apply Kd.R_drew)); exact HO_Z0.out⟩, ⟨by (try simp only [hl8_1]); (with_reducible repeat (first | apply Kd.R_alloc | apply Kd.R_drewN | apply Kd.R_drew)); exact HO_Z1.out⟩, ⟨by (try simp only [hl8_1]); (with_reducible repeat (first | refine blk_drewN ?_ _ | refine blk_drew ?_ | refine blk_alloc ?_ _)); exact BK175.out⟩, ⟨by (try simp only [hl8_1]); (with_reducible repeat (first | refine blk_drewN ?_ _ | refine blk_drew ?_ | refine blk_alloc ?_ _)); exact BK176.out⟩, ⟨by (try simp only [hl8_1]); (with_reducible repeat (first | refine blk_drewN ?_ _ | refine blk_drew ?_ | refine blk_alloc ?_ _)); exact BK196.out⟩, ⟨bU3 HB.out GE175.out GE176.out GE196.out⟩⟩
                  ·
                   rw [if_neg c44] at H
                   exact absurd H (by simp)
                 ·
                  rw [if_neg c43] at H
                  exact absurd H (by simp)
               ·
                rw [if_neg c40] at H; have c40b0 := decide_eq_false c40; (try (have c40b0hl8_1 := c40b0; rw [hl8_1] at c40b0hl8_1)); clear c40
                by_cases c48 : x12_3.length < 17592186044416
                ·
                 rw [if_pos c48] at H; have LMc48 := Az c48; clear c48; obtain ⟨y206, hy206⟩ : ∃ y_ : List Int, y_ = (x12_3 ++ [wrap64 (2 * x13_2)]) := ⟨_, rfl⟩; replace H : (spec_TreeQuad.l1 k3 x5_1 x8_1 (t187.length : Int) x11_1 y206 (wrap64 (x13_2 + 1)) xZ0_1 xZ1_1) = some (r1, r2, r3, r4) := hR hy206 H; have Ny206 := Az hy206; clear hy206; have H' := Az H; clear H
                 go_wp2_with (first | ((with_reducible refine gate_builtin (b := .append) (xs := #[.tmp 80, .tmp 83]) rfl ?_); at_builtin; refine Kd.R_append (Kd.int .i64) (w0 := w) w.heap.size rfl (.tmp 80) (.tmp 83) 23 3 (.int .i64 0) 8 rfl Try.underlying23 info3 rfl (by decide) (by omega) u12 x12_3 (wrap64 (2 * x13_2)) [.int .i64 (wrap64 (2 * x13_2))] (fun k_ => some k_ ≠ (.slice (some ad201) x5_1.length co39 : Value).ownBlock ∧ some k_ ≠ (.slice Ao19 x8_1.length co19 : Value).ownBlock ∧ some k_ ≠ (uZ0 : Value).ownBlock ∧ some k_ ≠ (uZ1 : Value).ownBlock) (fun _ => False) rfl rfl ?aP (fun _ hk => hk.elim) ?aF ?aO ?aB ?aS ?aL ?_; (case aP => exact rfl); (case aB => exact (bU3 HB.out GE175.out GE176.out GE196.out)); (case aF => exact (fun k_ hk => ⟨Kd.fresh' (Kd.R_lt (rU HO_5.out)) k_ hk, Kd.fresh' (Kd.R_lt (rU HO_8.out)) k_ hk, Kd.fresh' (Kd.R_lt (rU HO_Z0.out)) k_ hk, Kd.fresh' (Kd.R_lt (rU HO_Z1.out)) k_ hk⟩)); (case aO => exact (rU HO_12.out)); (case aS => exact (below_size (bU3 HB.out GE175.out GE176.out GE196.out))); (case aL => have := LMc48.out; omega); intro v207 w49 ho hb hg hat; rw [← Ny206.out] at ho; have n0 := Az (Kd.R_after (ok := (fun k_ => some k_ ≠ (.slice Ao19 x8_1.length co19 : Value).ownBlock ∧ some k_ ≠ (uZ0 : Value).ownBlock ∧ some k_ ≠ (uZ1 : Value).ownBlock)) (by (with_reducible repeat (first | apply Kd.R_alloc | apply Kd.R_drewN | apply Kd.R_drew)); exact Kd.R_mono HO_5.out (fun _ hk => ⟨⟨hk.1, ⟨hk.2.2.1, hk.2.2.2⟩⟩, hk.2.1⟩)) hg hat); have n1 := Az (Kd.R_after (ok := (fun k_ => some k_ ≠ (.slice (some ad201) x5_1.length co39 : Value).ownBlock ∧ some k_ ≠ (uZ0 : Value).ownBlock ∧ some k_ ≠ (uZ1 : Value).ownBlock)) (by (with_reducible repeat (first | apply Kd.R_alloc | apply Kd.R_drewN | apply Kd.R_drew)); exact Kd.R_mono HO_8.out (fun _ hk => ⟨⟨hk.1, ⟨hk.2.2.1, hk.2.2.2⟩⟩, hk.2.1⟩)) hg hat); have n2 := Az (Kd.R_after (ok := (fun k_ => some k_ ≠ (.slice (some ad201) x5_1.length co39 : Value).ownBlock ∧ some k_ ≠ (.slice Ao19 x8_1.length co19 : Value).ownBlock ∧ some k_ ≠ (uZ1 : Value).ownBlock)) (by (with_reducible repeat (first | apply Kd.R_alloc | apply Kd.R_drewN | apply Kd.R_drew)); exact Kd.R_mono HO_Z0.out (fun _ hk => ⟨⟨hk.1, ⟨hk.2.1, hk.2.2.2⟩⟩, hk.2.2.1⟩)) hg hat); have n3 := Az (Kd.R_after (ok := (fun k_ => some k_ ≠ (.slice (some ad201) x5_1.length co39 : Value).ownBlock ∧ some k_ ≠ (.slice Ao19 x8_1.length co19 : Value).ownBlock ∧ some k_ ≠ (uZ0 : Value).ownBlock)) (by (with_reducible repeat (first | apply Kd.R_alloc | apply Kd.R_drewN | apply Kd.R_drew)); exact Kd.R_mono HO_Z1.out (fun _ hk => ⟨⟨hk.1, ⟨hk.2.1, hk.2.2.2⟩⟩, hk.2.2.1⟩)) hg hat); have n4 := Az (blk_grown (g := gb175) (o := .cells #[.string a0_0, .slice A0_1 l0_1.length c0_1] 25 (0, 0)) (kU BK175.out) hg (Kd.R_ne HO_12.out BK175.out (by decide))); have n5 := Az (blk_grown (g := gb176) (o := .cells #[.slice none 0 0, .slice none 0 0] 29 (0, 0)) (kU BK176.out) hg (Kd.R_ne HO_12.out BK176.out (by decide))); have n6 := Az (blk_grown (g := gb196) (o := .cells #[uZ0, uZ1] 29 (0, 0)) (kU BK196.out) hg (Kd.R_ne HO_12.out BK196.out (by decide))); have n7 := Az (hb); have n8 := Az (ho); clear HO_5 HO_8 HO_Z0 HO_Z1 BK175 BK176 BK196 HB HO_12; have HO_5 := n0; have HO_8 := n1; have HO_Z0 := n2; have HO_Z1 := n3; have BK175 := n4; have BK176 := n5; have BK196 := n6; have HB := n7; have HO208 := n8; clear n0 n1 n2 n3 n4 n5 n6 n7 n8; clear ho hb hg hat))
                 (first | go_roundg k3 | (refine Handed.intro k3 ?measure ?_; rotate_left; go_step; (try simp only [add_plain]); (repeat apply Exists.intro); refine ⟨?rel, rfl⟩))
                 case measure => have := HK1.out; have := HK2.out; have := HK3.out; omega
                 case rel => exact ⟨(y206), (wrap64 (x13_2 + 1)), rS, H', ⟨by have := HK1.out; have := HK2.out; have := HK3.out; omega⟩, ⟨by (try simp only [hl8_1]); (with_reducible repeat (first | apply Kd.R_alloc | apply Kd.R_drewN | apply Kd.R_drew)); exact Kd.R_mono HO_5.out (fun _ hk => ⟨hk.1.1, ⟨hk.2, ⟨hk.1.2.1, hk.1.2.2⟩⟩⟩)⟩, ⟨by (try simp only [hl8_1]); (with_reducible repeat (first | apply Kd.R_alloc | apply Kd.R_drewN | apply Kd.R_drew)); exact Kd.R_mono HO_8.out (fun _ hk => ⟨hk.1.1, ⟨hk.2, ⟨hk.1.2.1, hk.1.2.2⟩⟩⟩)⟩, ⟨by (try simp only [hl8_1]); (with_reducible repeat (first | apply Kd.R_alloc | apply Kd.R_drewN | apply Kd.R_drew)); exact HO208.out⟩, ⟨by (try simp only [hl8_1]); (with_reducible repeat (first | apply Kd.R_alloc | apply Kd.R_drewN | apply Kd.R_drew)); exact Kd.R_mono HO_Z0.out (fun _ hk => ⟨hk.1.1, ⟨hk.1.2.1, ⟨hk.2, hk.1.2.2⟩⟩⟩)⟩, ⟨by (try simp only [hl8_1]); (with_reducible repeat (first | apply Kd.R_alloc | apply Kd.R_drewN | apply Kd.R_drew)); exact Kd.R_mono HO_Z1.out (fun _ hk => ⟨hk.1.1, ⟨hk.1.2.1, ⟨hk.2, hk.1.2.2⟩⟩⟩)⟩, ⟨by (try simp only [hl8_1]); (with_reducible repeat (first | refine blk_drewN ?_ _ | refine blk_drew ?_ | refine blk_alloc ?_ _)); exact BK175.out⟩, ⟨by (try simp only [hl8_1]); (with_reducible repeat (first | refine blk_drewN ?_ _ | refine blk_drew ?_ | refine blk_alloc ?_ _)); exact BK176.out⟩, ⟨by (try simp only [hl8_1]); (with_reducible repeat (first | refine blk_drewN ?_ _ | refine blk_drew ?_ | refine blk_alloc ?_ _)); exact BK196.out⟩, ⟨bU3 HB.out GE175.out GE176.out GE196.out⟩⟩
                ·
                 rw [if_neg c48] at H
                 exact absurd H (by simp)
            ·
             rw [if_neg c38] at H; have c38b0 := beq_eq_false_iff_ne.mpr c38; have c38b1 := bne_iff_ne.mpr c38; have H' := Az H; clear H; obtain ⟨Ao50, co50, eo50⟩ := Kd.R_slice HO_5.out; subst eo50; have p201 : 0 ≤ (x13_2 : Int) := oA; have q201 : x13_2 < (x5_1.length : Int) := oA; obtain ⟨ad201, e201, hx201_0⟩ := Kd.at_int (Kd.R_reads' HO_5.out).2.2 x13_2 p201 q201
             cases e201
             replace p201 := eq_true p201; replace q201 := eq_true q201
             go_wp2
             (first | go_roundg k2 | (refine Handed.intro k2 ?measure ?_; rotate_left; go_step; (try simp only [add_plain]); (repeat apply Exists.intro); refine ⟨?rel, rfl⟩))
             case measure => have := HK1.out; have := HK2.out; omega
             case rel => exact ⟨(x12_2), (wrap64 (x13_2 + 1)), rS, H', ⟨by have := HK1.out; have := HK2.out; omega⟩, ⟨by (try simp only [hl8_1]); (with_reducible repeat (first | apply Kd.R_alloc | apply Kd.R_drewN | apply Kd.R_drew)); exact HO_5.out⟩, ⟨by (try simp only [hl8_1]); (with_reducible repeat (first | apply Kd.R_alloc | apply Kd.R_drewN | apply Kd.R_drew)); exact HO_8.out⟩, ⟨by (try simp only [hl8_1]); (with_reducible repeat (first | apply Kd.R_alloc | apply Kd.R_drewN | apply Kd.R_drew)); exact HO_12.out⟩, ⟨by (try simp only [hl8_1]); (with_reducible repeat (first | apply Kd.R_alloc | apply Kd.R_drewN | apply Kd.R_drew)); exact HO_Z0.out⟩, ⟨by (try simp only [hl8_1]); (with_reducible repeat (first | apply Kd.R_alloc | apply Kd.R_drewN | apply Kd.R_drew)); exact HO_Z1.out⟩, ⟨by (try simp only [hl8_1]); (with_reducible repeat (first | refine blk_drewN ?_ _ | refine blk_drew ?_ | refine blk_alloc ?_ _)); exact BK175.out⟩, ⟨by (try simp only [hl8_1]); (with_reducible repeat (first | refine blk_drewN ?_ _ | refine blk_drew ?_ | refine blk_alloc ?_ _)); exact BK176.out⟩, ⟨by (try simp only [hl8_1]); (with_reducible repeat (first | refine blk_drewN ?_ _ | refine blk_drew ?_ | refine blk_alloc ?_ _)); exact BK196.out⟩, ⟨bU3 HB.out GE175.out GE176.out GE196.out⟩⟩
           ·
            rw [if_neg c37] at H
            exact absurd H (by simp)
          ·
           rw [if_neg c36] at H
           exact absurd H (by simp)
         ·
          rw [if_neg c35] at H; have c35b0 := decide_eq_false c35; (try (have c35b0hl8_1 := c35b0; rw [hl8_1] at c35b0hl8_1)); clear c35; replace H := Option.bind_eq_some_iff.mp H; obtain ⟨t200, A510, H⟩ := H; replace H : (spec_TreeQuad.l0 k2 x5_1 x8_1 (t187.length : Int) (wrap64 (x11_1 + 1)) t200 xZ1_1) = some (r1, r2, r3, r4) := H; have A51 := Az A510; clear A510; have H' := Az H; clear H; have hnb52 := NB196_175.out; have hnc52 := NB175_196.out; have hnb53 := NB196_176.out; have hnc53 := NB176_196.out; have hcz54_0 : wr.cell? ⟨gb196, 0, none⟩ = some (uZ0) := (blk_cell BK196.out 0).trans rfl; have hcz54_1 : wr.cell? ⟨gb196, 1, none⟩ = some (uZ1) := (blk_cell BK196.out 1).trans rfl; have hfz54_0 := blk_frozen BK196.out 0; have hfz54_1 := blk_frozen BK196.out 1; obtain ⟨Ao55, co55, eo55⟩ := Kd.R_slice HO_Z0.out; subst eo55; obtain ⟨Ao56, co56, eo56⟩ := Kd.R_slice HO_12.out; subst eo56
          go_wp2_with (first | ((with_reducible refine gate_callee (f := 73) rfl ?_); refine goesL_ (some 88) rfl rfl Try.func73 (by kernel_rfl) rfl #[.slice Ao55 xZ0_1.length co55, .slice Ao56 x12_2.length co56] rfl (by (try simp only [List.map_toArray, List.map_cons, List.map_nil]); first | done | rfl | (simp only [List.length_drop, List.length_take]; rfl)) ?_; (with_reducible refine (spec_l6qRing.calls k2 (fun k_ => some k_ = (.slice Ao55 xZ0_1.length co55 : Value).ownBlock) (.slice Ao55 xZ0_1.length co55) xZ0_1 _ _ x12_2 t200 w _ ?side1 ?side2 ?side3 ?side4 A51.out).mono ?_); (case side1 => repeat (first | (with_reducible first | exact HB.out | apply below_alloc | apply pw_below_drewN | apply below_drew1 | refine below_set ?_ GE175.out | refine below_set ?_ GE176.out | refine below_set ?_ GE196.out) | exact HB.out)); (case side2 => exact Kd.R_tight rfl HO_Z0.out); (case side3 => exact Kd.C_kept_own (HO_12.out) (fun k_ hk_ hs_ => (hk_.2.2.1) hs_)); (case side4 => exact (Kd.R_reads' HO_12.out).2.1); rintro e w57 ⟨rfl, hy0, hb, hkp⟩; refine ⟨_, rfl, ?_⟩; have n0 := Az (Kd.R_mono (ok' := fun k_ => some k_ ≠ (.slice Ao19 x8_1.length co19 : Value).ownBlock ∧ some k_ ≠ (.slice Ao56 x12_2.length co56 : Value).ownBlock ∧ some k_ ≠ (.slice Ao55 xZ0_1.length co55 : Value).ownBlock ∧ some k_ ≠ (uZ1 : Value).ownBlock) (Kd.R_keptB (HO_5.out) hkp (fun k_ hk_ hs_ => (hk_.2.2.1) hs_)) (fun k_ hk_ => ⟨hk_.1.1, hk_.1.2.1, hk_.1.2.2.1, hk_.1.2.2.2⟩)); have n1 := Az (Kd.R_mono (ok' := fun k_ => some k_ ≠ (v179 : Value).ownBlock ∧ some k_ ≠ (.slice Ao56 x12_2.length co56 : Value).ownBlock ∧ some k_ ≠ (.slice Ao55 xZ0_1.length co55 : Value).ownBlock ∧ some k_ ≠ (uZ1 : Value).ownBlock) (Kd.R_keptB (HO_8.out) hkp (fun k_ hk_ hs_ => (hk_.2.2.1) hs_)) (fun k_ hk_ => ⟨hk_.1.1, hk_.1.2.1, hk_.1.2.2.1, hk_.1.2.2.2⟩)); have n2 := Az (Kd.R_mono (ok' := fun k_ => some k_ ≠ (v179 : Value).ownBlock ∧ some k_ ≠ (.slice Ao19 x8_1.length co19 : Value).ownBlock ∧ some k_ ≠ (.slice Ao55 xZ0_1.length co55 : Value).ownBlock ∧ some k_ ≠ (uZ1 : Value).ownBlock) (Kd.R_keptB (HO_12.out) hkp (fun k_ hk_ hs_ => (hk_.2.2.1) hs_)) (fun k_ hk_ => ⟨hk_.1.1, hk_.1.2.1, hk_.1.2.2.1, hk_.1.2.2.2⟩)); have n3 := Az (Kd.R_reok rfl hy0 (fun k_ e_ => HO_Z0.out.1 k_ e_)); have n4 := Az (Kd.R_mono (ok' := fun k_ => some k_ ≠ (v179 : Value).ownBlock ∧ some k_ ≠ (.slice Ao19 x8_1.length co19 : Value).ownBlock ∧ some k_ ≠ (.slice Ao56 x12_2.length co56 : Value).ownBlock ∧ some k_ ≠ (.slice Ao55 xZ0_1.length co55 : Value).ownBlock) (Kd.R_keptB (HO_Z1.out) hkp (fun k_ hk_ hs_ => (hk_.2.2.2) hs_)) (fun k_ hk_ => ⟨hk_.1.1, hk_.1.2.1, hk_.1.2.2.1, hk_.1.2.2.2⟩)); have n5 := Az (blk_kept (kU BK175.out) hkp (fun hs_ => (fun e_ => (Kd.R_ne HO_Z0.out BK175.out (by decide)) e_) hs_)); have n6 := Az (blk_kept (kU BK176.out) hkp (fun hs_ => (fun e_ => (Kd.R_ne HO_Z0.out BK176.out (by decide)) e_) hs_)); have n7 := Az (blk_kept (kU BK196.out) hkp (fun hs_ => (fun e_ => (Kd.R_ne HO_Z0.out BK196.out (by decide)) e_) hs_)); have n8 := Az (hb); clear HO_5 HO_8 HO_12 HO_Z0 HO_Z1 BK175 BK176 BK196 HB; have HO_5 := n0; have HO_8 := n1; have HO_12 := n2; have HO_Z0 := n3; have HO_Z1 := n4; have BK175 := n5; have BK176 := n6; have BK196 := n7; have HB := n8; clear n0 n1 n2 n3 n4 n5 n6 n7 n8; (try clear hb); (try clear hkp); (try clear hy0)))
          (try simp only [← hl8_1]); (first | go_roundg k2 | (refine Handed.intro k2 ?measure ?_; rotate_left; go_step; (try simp only [add_plain]); (repeat apply Exists.intro); refine ⟨?rel, rfl⟩))
          case measure => have := HK1.out; have := HK2.out; omega
          case rel => exact ⟨(x5_1), (x8_1), (wrap64 (x11_1 + 1)), (t200), (xZ1_1), (.slice Ao55 xZ0_1.length co55), (uZ1), rS, H', ⟨by have := HK1.out; have := HK2.out; omega⟩, ⟨by (try simp only [hl8_1]); (with_reducible repeat (first | apply Kd.R_alloc | apply Kd.R_drewN | apply Kd.R_drew)); exact Kd.R_mono HO_5.out (fun _ hk => ⟨hk.1, ⟨hk.2.2.1, hk.2.2.2⟩⟩)⟩, ⟨by (try simp only [hl8_1]); (with_reducible repeat (first | apply Kd.R_alloc | apply Kd.R_drewN | apply Kd.R_drew)); exact Kd.R_mono HO_8.out (fun _ hk => ⟨hk.1, ⟨hk.2.2.1, hk.2.2.2⟩⟩)⟩, ⟨by (try simp only [hl8_1]); (with_reducible repeat (first | apply Kd.R_alloc | apply Kd.R_drewN | apply Kd.R_drew)); exact Kd.R_mono HO_Z0.out (fun _ hk => ⟨hk.1, ⟨hk.2.1, hk.2.2.2⟩⟩)⟩, ⟨by (try simp only [hl8_1]); (with_reducible repeat (first | apply Kd.R_alloc | apply Kd.R_drewN | apply Kd.R_drew)); exact Kd.R_mono HO_Z1.out (fun _ hk => ⟨hk.1, ⟨hk.2.1, hk.2.2.2⟩⟩)⟩, ⟨by (try simp only [hl8_1]); (with_reducible repeat (first | refine blk_drewN ?_ _ | refine blk_drew ?_ | refine blk_alloc ?_ _)); exact BK175.out⟩, ⟨by (try simp only [hl8_1]); (with_reducible repeat (first | refine blk_drewN ?_ _ | refine blk_drew ?_ | refine blk_alloc ?_ _)); exact BK176.out⟩, ⟨by (try simp only [hl8_1]); (with_reducible repeat (first | refine blk_drewN ?_ _ | refine blk_drew ?_ | refine blk_alloc ?_ _)); exact BK196.out⟩, ⟨bU3 HB.out GE175.out GE176.out GE196.out⟩⟩
      ·
       rw [if_neg c32] at H; have c32b0 := decide_eq_false c32; (try (have c32b0hl8_1 := c32b0; rw [hl8_1] at c32b0hl8_1)); (try (have c32b0dhl8_1 := c32b0hl8_1; rw [Int.tdiv_eq_ediv_of_nonneg (Int.natCast_nonneg _)] at c32b0dhl8_1)); clear c32; obtain ⟨y209, hy209⟩ : ∃ y_ : List Int, y_ = (([] : List Int)) := ⟨_, rfl⟩; replace H : (spec_TreeQuad.l3 k1 x8_1 y209 (wrap64 ((t187.length : Int) - 1)) xZ0_1 xZ1_1) = some (r1, r2, r3, r4) := hR hy209 H; have Ny209 := Az hy209; clear hy209; have H' := Az H; clear H
       go_wp2_with (first | ((with_reducible refine gate_dst (N := 89) rfl ?_); refine Kd.R_lit (Kd.int .i64) _ 3 ?hg (N := 89) ?hd (xs := ([] : List Int)) (inner := []) (ok := fun _ => True) (okp := fun _ => True) ?hr ?hp (fun _ hk => hk) trivial (Below.refl _ _) (Nat.le_refl _) (by simp) ?_; (case hd => rfl); (case hg => rfl); (case hr => first | (go_simp; done) | (go_simp; rfl)); (case hp => exact (Reps.none _ _)); intro v210 w58 ho59 hb hg_ hnew_; clear hg_ hnew_; (first | rw [← Ny209.out] at ho59 | (simp only [Int.reduceToNat] at ho59; rw [← Ny209.out] at ho59)); have n0 := Az (Kd.R_elder' (rU HO_5.out) (Kd.R_base ho59) hb); have n1 := Az (Kd.R_elder' (rU HO_8.out) (Kd.R_base ho59) hb); have n2 := Az (Kd.R_elder' (rU HO_Z0.out) (Kd.R_base ho59) hb); have n3 := Az (Kd.R_elder' (rU HO_Z1.out) (Kd.R_base ho59) hb); have n4 := Az (Kd.R_lower (Kd.R_new' (Kd.R_new' (Kd.R_new' (Kd.R_new' ho59 (Kd.R_lt (rU HO_5.out))) (Kd.R_lt (rU HO_8.out))) (Kd.R_lt (rU HO_Z0.out))) (Kd.R_lt (rU HO_Z1.out))) (below_size (bU3 HB.out GE175.out GE176.out GE196.out))); have n5 := Az (blk_below (g := gb175) (o := .cells #[.string a0_0, .slice A0_1 l0_1.length c0_1] 25 (0, 0)) (kU BK175.out) hb); have n6 := Az (blk_below (g := gb176) (o := .cells #[.slice none 0 0, .slice none 0 0] 29 (0, 0)) (kU BK176.out) hb); have n7 := Az (blk_below (g := gb196) (o := .cells #[uZ0, uZ1] 29 (0, 0)) (kU BK196.out) hb); have n8 := Az (below_step (bU3 HB.out GE175.out GE176.out GE196.out) hb); clear HO_5 HO_8 HO_Z0 HO_Z1 BK175 BK176 BK196 HB; have HO_5 := n0; have HO_8 := n1; have HO_Z0 := n2; have HO_Z1 := n3; have HO211 := n4; have BK175 := n5; have BK176 := n6; have BK196 := n7; have HB := n8; clear n0 n1 n2 n3 n4 n5 n6 n7 n8; clear hb ho59))
       go_loopg [16, 17] k1 (fun kq v16 v17 w' => ∃ (x16_2 : List Int) (x17_2 : Int), v17 = .int .i64 x17_2 ∧ Aside0 (spec_TreeQuad.l3 kq x8_1 x16_2 x17_2 xZ0_1 xZ1_1 = some (r1, r2, r3, r4)) ∧ Aside0 (kq ≤ k1) ∧ Aside0 (Kd.R (Kd.int .i64) 3 w' w.heap.size (fun k_ => some k_ ≠ (v16 : Value).ownBlock ∧ some k_ ≠ (uZ0 : Value).ownBlock ∧ some k_ ≠ (uZ1 : Value).ownBlock) (.slice Ao19 x8_1.length co19) x8_1) ∧ Aside0 (Kd.R (Kd.int .i64) 3 w' w.heap.size (fun k_ => some k_ ≠ ((.slice Ao19 x8_1.length co19) : Value).ownBlock ∧ some k_ ≠ (uZ0 : Value).ownBlock ∧ some k_ ≠ (uZ1 : Value).ownBlock) v16 x16_2) ∧ Aside0 (Kd.R (Kd.int .i64) 3 w' w.heap.size (fun k_ => some k_ ≠ ((.slice Ao19 x8_1.length co19) : Value).ownBlock ∧ some k_ ≠ (v16 : Value).ownBlock ∧ some k_ ≠ (uZ1 : Value).ownBlock) uZ0 xZ0_1) ∧ Aside0 (Kd.R (Kd.int .i64) 3 w' w.heap.size (fun k_ => some k_ ≠ ((.slice Ao19 x8_1.length co19) : Value).ownBlock ∧ some k_ ≠ (v16 : Value).ownBlock ∧ some k_ ≠ (uZ0 : Value).ownBlock) uZ1 xZ1_1) ∧ Aside0 (w'.heap[gb175]? = some (.cells #[.string a0_0, (.slice A0_1 l0_1.length c0_1)] 25 (0, 0))) ∧ Aside0 (w'.heap[gb176]? = some (.cells #[(.slice none 0 0), (.slice none 0 0)] 29 (0, 0))) ∧ Aside0 (w'.heap[gb196]? = some (.cells #[uZ0, uZ1] 29 (0, 0))) ∧ Aside0 (Below w.heap.size w w'))
       case atStart => exact ⟨(y209), (wrap64 ((t187.length : Int) - 1)), rS, H', ⟨Nat.le_refl _⟩, ⟨by (try simp only [hl8_1]); (with_reducible repeat (first | apply Kd.R_alloc | apply Kd.R_drewN | apply Kd.R_drew)); exact Kd.R_mono HO_8.out (fun _ hk => ⟨hk.2, ⟨hk.1.2.1, hk.1.2.2⟩⟩)⟩, ⟨by (try simp only [hl8_1]); (with_reducible repeat (first | apply Kd.R_alloc | apply Kd.R_drewN | apply Kd.R_drew)); exact Kd.R_mono HO211.out (fun _ hk => ⟨hk.1.1.2, ⟨hk.1.2, hk.2⟩⟩)⟩, ⟨by (try simp only [hl8_1]); (with_reducible repeat (first | apply Kd.R_alloc | apply Kd.R_drewN | apply Kd.R_drew)); exact Kd.R_mono HO_Z0.out (fun _ hk => ⟨hk.1.2.1, ⟨hk.2, hk.1.2.2⟩⟩)⟩, ⟨by (try simp only [hl8_1]); (with_reducible repeat (first | apply Kd.R_alloc | apply Kd.R_drewN | apply Kd.R_drew)); exact Kd.R_mono HO_Z1.out (fun _ hk => ⟨hk.1.2.1, ⟨hk.2, hk.1.2.2⟩⟩)⟩, ⟨by (try simp only [hl8_1]); (with_reducible repeat (first | refine blk_drewN ?_ _ | refine blk_drew ?_ | refine blk_alloc ?_ _)); exact BK175.out⟩, ⟨by (try simp only [hl8_1]); (with_reducible repeat (first | refine blk_drewN ?_ _ | refine blk_drew ?_ | refine blk_alloc ?_ _)); exact BK176.out⟩, ⟨by (try simp only [hl8_1]); (with_reducible repeat (first | refine blk_drewN ?_ _ | refine blk_drew ?_ | refine blk_alloc ?_ _)); exact BK196.out⟩, ⟨bU3 HB.out GE175.out GE176.out GE196.out⟩⟩
       case round =>
        clear H'; (try clear p2); (try clear q2); (try clear hx2); (try clear c3); (try clear c4); (try clear c5); (try clear p6); (try clear c7); (try clear p20); (try clear q20); (try clear hx20); (try clear c32); (try clear c32b0); (try clear c35); (try clear c35b0); (try clear c36); (try clear c36b0); (try clear c37); (try clear c37b0); (try clear c38); (try clear c38b0); (try clear c38b1); (try clear c40); (try clear c40b0); (try clear c41); (try clear c41b0); (try clear c41b1); (try clear c41b2); (try clear c43); (try clear c43b0); (try clear c44); (try clear c44b0); (try clear c45); (try clear c45b0); (try clear c45b1); (try clear c46); (try clear c48); (try clear c52); (try clear c53); (try clear hcz54_0); (try clear hcz54_1); (try clear hfz54_0); (try clear hfz54_1); (try clear hx201_0); (try clear hx202_0); (try clear p2); (try clear p20); (try clear p201); (try clear p202); (try clear p6); (try clear q2); (try clear q20); (try clear q201); (try clear q202); obtain ⟨x16_2, x17_2, rfl, HA, HK2, HO_8, HO_16, HO_Z0, HO_Z1, BK175, BK176, BK196, HB⟩ := hrel
        cases gk with
        | zero => exact absurd HA.out (by simp [spec_TreeQuad.l3])
        | succ k2 =>
         have H := HA.out; clear HA; simp only [spec_TreeQuad.l3] at H
         by_cases c60 : x17_2 ≥ 0
         ·
          rw [if_pos c60] at H; have c60b0 := decide_eq_true c60; clear c60
          by_cases c61 : 0 ≤ x17_2
          ·
           rw [if_pos c61] at H; have c61b0 := decide_eq_true c61; clear c61
           by_cases c62 : x17_2 < (x8_1.length : Int)
           ·
            rw [if_pos c62] at H; have c62b0 := decide_eq_true c62; (try (have c62b0hl8_1 := c62b0; rw [hl8_1] at c62b0hl8_1)); clear c62
            by_cases c63 : (rd x8_1 x17_2) < 0
            ·
             rw [if_pos c63] at H; have c63b0 := decide_eq_true c63; clear c63
             by_cases c64 : x16_2.length < 17592186044416
             ·
              rw [if_pos c64] at H; have LMc64 := Az c64; clear c64; obtain ⟨y213, hy213⟩ : ∃ y_ : List Int, y_ = (x16_2 ++ [wrap64 ((wrap64 (2 * x17_2)) + 1)]) := ⟨_, rfl⟩; replace H : (spec_TreeQuad.l3 k2 x8_1 y213 (wrap64 (x17_2 - 1)) xZ0_1 xZ1_1) = some (r1, r2, r3, r4) := hR hy213 H; have Ny213 := Az hy213; clear hy213; have H' := Az H; clear H; have p212 : 0 ≤ (x17_2 : Int) := oA; have q212 : x17_2 < (x8_1.length : Int) := oA; obtain ⟨ad212, e212, hx212_0⟩ := Kd.at_int (Kd.R_reads' HO_8.out).2.2 x17_2 p212 q212
              cases e212
              replace p212 := eq_true p212; replace q212 := eq_true q212
              go_wp2_with (first | ((with_reducible refine gate_builtin (b := .append) (xs := #[.tmp 101, .tmp 105]) rfl ?_); at_builtin; refine Kd.R_append (Kd.int .i64) (w0 := w) w.heap.size rfl (.tmp 101) (.tmp 105) 23 3 (.int .i64 0) 8 rfl Try.underlying23 info3 rfl (by decide) (by omega) u16 x16_2 (wrap64 ((wrap64 (2 * x17_2)) + 1)) [.int .i64 (wrap64 ((wrap64 (2 * x17_2)) + 1))] (fun k_ => some k_ ≠ (.slice (some ad212) x8_1.length co19 : Value).ownBlock ∧ some k_ ≠ (uZ0 : Value).ownBlock ∧ some k_ ≠ (uZ1 : Value).ownBlock) (fun _ => False) rfl rfl ?aP (fun _ hk => hk.elim) ?aF ?aO ?aB ?aS ?aL ?_; (case aP => exact rfl); (case aB => exact (bU3 HB.out GE175.out GE176.out GE196.out)); (case aF => exact (fun k_ hk => ⟨Kd.fresh' (Kd.R_lt (rU HO_8.out)) k_ hk, Kd.fresh' (Kd.R_lt (rU HO_Z0.out)) k_ hk, Kd.fresh' (Kd.R_lt (rU HO_Z1.out)) k_ hk⟩)); (case aO => exact (rU HO_16.out)); (case aS => exact (below_size (bU3 HB.out GE175.out GE176.out GE196.out))); (case aL => have := LMc64.out; omega); intro v214 w65 ho hb hg hat; rw [← Ny213.out] at ho; have n0 := Az (Kd.R_after (ok := (fun k_ => some k_ ≠ (uZ0 : Value).ownBlock ∧ some k_ ≠ (uZ1 : Value).ownBlock)) (by (with_reducible repeat (first | apply Kd.R_alloc | apply Kd.R_drewN | apply Kd.R_drew)); exact Kd.R_mono HO_8.out (fun _ hk => ⟨⟨hk.2.1, hk.2.2⟩, hk.1⟩)) hg hat); have n1 := Az (Kd.R_after (ok := (fun k_ => some k_ ≠ (.slice (some ad212) x8_1.length co19 : Value).ownBlock ∧ some k_ ≠ (uZ1 : Value).ownBlock)) (by (with_reducible repeat (first | apply Kd.R_alloc | apply Kd.R_drewN | apply Kd.R_drew)); exact Kd.R_mono HO_Z0.out (fun _ hk => ⟨⟨hk.1, hk.2.2⟩, hk.2.1⟩)) hg hat); have n2 := Az (Kd.R_after (ok := (fun k_ => some k_ ≠ (.slice (some ad212) x8_1.length co19 : Value).ownBlock ∧ some k_ ≠ (uZ0 : Value).ownBlock)) (by (with_reducible repeat (first | apply Kd.R_alloc | apply Kd.R_drewN | apply Kd.R_drew)); exact Kd.R_mono HO_Z1.out (fun _ hk => ⟨⟨hk.1, hk.2.2⟩, hk.2.1⟩)) hg hat); have n3 := Az (blk_grown (g := gb175) (o := .cells #[.string a0_0, .slice A0_1 l0_1.length c0_1] 25 (0, 0)) (kU BK175.out) hg (Kd.R_ne HO_16.out BK175.out (by decide))); have n4 := Az (blk_grown (g := gb176) (o := .cells #[.slice none 0 0, .slice none 0 0] 29 (0, 0)) (kU BK176.out) hg (Kd.R_ne HO_16.out BK176.out (by decide))); have n5 := Az (blk_grown (g := gb196) (o := .cells #[uZ0, uZ1] 29 (0, 0)) (kU BK196.out) hg (Kd.R_ne HO_16.out BK196.out (by decide))); have n6 := Az (hb); have n7 := Az (ho); clear HO_8 HO_Z0 HO_Z1 BK175 BK176 BK196 HB HO_16; have HO_8 := n0; have HO_Z0 := n1; have HO_Z1 := n2; have BK175 := n3; have BK176 := n4; have BK196 := n5; have HB := n6; have HO215 := n7; clear n0 n1 n2 n3 n4 n5 n6 n7; clear ho hb hg hat))
              (first | go_roundg k2 | (refine Handed.intro k2 ?measure ?_; rotate_left; go_step; (try simp only [add_plain]); (repeat apply Exists.intro); refine ⟨?rel, rfl⟩))
              case measure => have := HK1.out; have := HK2.out; omega
              case rel => exact ⟨(y213), (wrap64 (x17_2 - 1)), rS, H', ⟨by have := HK1.out; have := HK2.out; omega⟩, ⟨by (try simp only [hl8_1]); (with_reducible repeat (first | apply Kd.R_alloc | apply Kd.R_drewN | apply Kd.R_drew)); exact Kd.R_mono HO_8.out (fun _ hk => ⟨hk.2, ⟨hk.1.1, hk.1.2⟩⟩)⟩, ⟨by (try simp only [hl8_1]); (with_reducible repeat (first | apply Kd.R_alloc | apply Kd.R_drewN | apply Kd.R_drew)); exact HO215.out⟩, ⟨by (try simp only [hl8_1]); (with_reducible repeat (first | apply Kd.R_alloc | apply Kd.R_drewN | apply Kd.R_drew)); exact Kd.R_mono HO_Z0.out (fun _ hk => ⟨hk.1.1, ⟨hk.2, hk.1.2⟩⟩)⟩, ⟨by (try simp only [hl8_1]); (with_reducible repeat (first | apply Kd.R_alloc | apply Kd.R_drewN | apply Kd.R_drew)); exact Kd.R_mono HO_Z1.out (fun _ hk => ⟨hk.1.1, ⟨hk.2, hk.1.2⟩⟩)⟩, ⟨by (try simp only [hl8_1]); (with_reducible repeat (first | refine blk_drewN ?_ _ | refine blk_drew ?_ | refine blk_alloc ?_ _)); exact BK175.out⟩, ⟨by (try simp only [hl8_1]); (with_reducible repeat (first | refine blk_drewN ?_ _ | refine blk_drew ?_ | refine blk_alloc ?_ _)); exact BK176.out⟩, ⟨by (try simp only [hl8_1]); (with_reducible repeat (first | refine blk_drewN ?_ _ | refine blk_drew ?_ | refine blk_alloc ?_ _)); exact BK196.out⟩, ⟨bU3 HB.out GE175.out GE176.out GE196.out⟩⟩
             ·
              rw [if_neg c64] at H
              exact absurd H (by simp)
            ·
             rw [if_neg c63] at H; have c63b0 := decide_eq_false c63; clear c63; have H' := Az H; clear H; have p212 : 0 ≤ (x17_2 : Int) := oA; have q212 : x17_2 < (x8_1.length : Int) := oA; obtain ⟨ad212, e212, hx212_0⟩ := Kd.at_int (Kd.R_reads' HO_8.out).2.2 x17_2 p212 q212
             cases e212
             replace p212 := eq_true p212; replace q212 := eq_true q212
             go_wp2
             (first | go_roundg k2 | (refine Handed.intro k2 ?measure ?_; rotate_left; go_step; (try simp only [add_plain]); (repeat apply Exists.intro); refine ⟨?rel, rfl⟩))
             case measure => have := HK1.out; have := HK2.out; omega
             case rel => exact ⟨(x16_2), (wrap64 (x17_2 - 1)), rS, H', ⟨by have := HK1.out; have := HK2.out; omega⟩, ⟨by (try simp only [hl8_1]); (with_reducible repeat (first | apply Kd.R_alloc | apply Kd.R_drewN | apply Kd.R_drew)); exact HO_8.out⟩, ⟨by (try simp only [hl8_1]); (with_reducible repeat (first | apply Kd.R_alloc | apply Kd.R_drewN | apply Kd.R_drew)); exact HO_16.out⟩, ⟨by (try simp only [hl8_1]); (with_reducible repeat (first | apply Kd.R_alloc | apply Kd.R_drewN | apply Kd.R_drew)); exact HO_Z0.out⟩, ⟨by (try simp only [hl8_1]); (with_reducible repeat (first | apply Kd.R_alloc | apply Kd.R_drewN | apply Kd.R_drew)); exact HO_Z1.out⟩, ⟨by (try simp only [hl8_1]); (with_reducible repeat (first | refine blk_drewN ?_ _ | refine blk_drew ?_ | refine blk_alloc ?_ _)); exact BK175.out⟩, ⟨by (try simp only [hl8_1]); (with_reducible repeat (first | refine blk_drewN ?_ _ | refine blk_drew ?_ | refine blk_alloc ?_ _)); exact BK176.out⟩, ⟨by (try simp only [hl8_1]); (with_reducible repeat (first | refine blk_drewN ?_ _ | refine blk_drew ?_ | refine blk_alloc ?_ _)); exact BK196.out⟩, ⟨bU3 HB.out GE175.out GE176.out GE196.out⟩⟩
           ·
            rw [if_neg c62] at H
            exact absurd H (by simp)
          ·
           rw [if_neg c61] at H
           exact absurd H (by simp)
         ·
          rw [if_neg c60] at H; have c60b0 := decide_eq_false c60; clear c60; replace H := Option.bind_eq_some_iff.mp H; obtain ⟨t216, A660, H⟩ := H; replace H : (if 0 ≤ (wrap64 ((x16_2.length : Int) - 1)) then (if (wrap64 ((x16_2.length : Int) - 1)) < (x16_2.length : Int) then (some (t216, xZ1_1, rd x16_2 (wrap64 ((x16_2.length : Int) - 1)), true)) else (none)) else (none)) = some (r1, r2, r3, r4) := H; have A66 := Az A660; clear A660; obtain ⟨ji67, hji67⟩ : ∃ j_ : Int, (wrap64 ((x16_2.length : Int) - 1)) = j_ := ⟨_, rfl⟩; (try (have hji67hl8_1 := hji67; rw [hl8_1] at hji67hl8_1))
          replace H : (if 0 ≤ (ji67) then (if (ji67) < (x16_2.length : Int) then (some (t216, xZ1_1, rd x16_2 (ji67), true)) else (none)) else (none)) = some (r1, r2, r3, r4) := by first | (rw [hji67] at H; exact H) | (simp only [hji67] at H ⊢; exact H)
          (try rw [hji67] at A66); have hji67w : (IntKind.i64.wrap ((x16_2.length : Int) - 1)) = ji67 := (i64_w _).trans hji67; (try (have hji67hl8_1 := hji67; rw [hl8_1] at hji67hl8_1)); (try (have hji67whl8_1 := hji67w; rw [hl8_1] at hji67whl8_1))
          by_cases c68 : 0 ≤ (ji67)
          ·
           rw [if_pos c68] at H; have c68b0 := decide_eq_true c68; clear c68
           by_cases c69 : (ji67) < (x16_2.length : Int)
           ·
            rw [if_pos c69] at H; have c69b0 := decide_eq_true c69; (try (have c69b0hl8_1 := c69b0; rw [hl8_1] at c69b0hl8_1)); clear c69; simp only [Option.some.injEq, Prod.mk.injEq] at H; obtain ⟨rfl, rfl, rfl, rfl⟩ := H; have hnb70 := NB196_175.out; have hnc70 := NB175_196.out; have hnb71 := NB196_176.out; have hnc71 := NB176_196.out; have hcz72_0 : wr.cell? ⟨gb196, 0, none⟩ = some (uZ0) := (blk_cell BK196.out 0).trans rfl; have hcz72_1 : wr.cell? ⟨gb196, 1, none⟩ = some (uZ1) := (blk_cell BK196.out 1).trans rfl; have hfz72_0 := blk_frozen BK196.out 0; have hfz72_1 := blk_frozen BK196.out 1; obtain ⟨Ao73, co73, eo73⟩ := Kd.R_slice HO_Z0.out; subst eo73; obtain ⟨Ao74, co74, eo74⟩ := Kd.R_slice HO_16.out; subst eo74
            try go_wp2_with (first | ((with_reducible refine gate_callee (f := 73) rfl ?_); refine goesL_ (some 110) rfl rfl Try.func73 (by kernel_rfl) rfl #[.slice Ao73 xZ0_1.length co73, .slice Ao74 x16_2.length co74] rfl (by (try simp only [List.map_toArray, List.map_cons, List.map_nil]); first | done | rfl | (simp only [List.length_drop, List.length_take]; rfl)) ?_; (with_reducible refine (spec_l6qRing.calls k2 (fun k_ => some k_ = (.slice Ao73 xZ0_1.length co73 : Value).ownBlock) (.slice Ao73 xZ0_1.length co73) xZ0_1 _ _ x16_2 t216 w _ ?side1 ?side2 ?side3 ?side4 A66.out).mono ?_); (case side1 => repeat (first | (with_reducible first | exact HB.out | apply below_alloc | apply pw_below_drewN | apply below_drew1 | refine below_set ?_ GE175.out | refine below_set ?_ GE176.out | refine below_set ?_ GE196.out) | exact HB.out)); (case side2 => exact Kd.R_tight rfl HO_Z0.out); (case side3 => exact Kd.C_kept_own (HO_16.out) (fun k_ hk_ hs_ => (hk_.2.1) hs_)); (case side4 => exact (Kd.R_reads' HO_16.out).2.1); rintro e w75 ⟨rfl, hy0, hb, hkp⟩; refine ⟨_, rfl, ?_⟩; have n0 := Az (Kd.R_mono (ok' := fun k_ => some k_ ≠ (.slice Ao74 x16_2.length co74 : Value).ownBlock ∧ some k_ ≠ (.slice Ao73 xZ0_1.length co73 : Value).ownBlock ∧ some k_ ≠ (uZ1 : Value).ownBlock) (Kd.R_keptB (HO_8.out) hkp (fun k_ hk_ hs_ => (hk_.2.1) hs_)) (fun k_ hk_ => ⟨hk_.1.1, hk_.1.2.1, hk_.1.2.2⟩)); have n1 := Az (Kd.R_mono (ok' := fun k_ => some k_ ≠ (.slice Ao19 x8_1.length co19 : Value).ownBlock ∧ some k_ ≠ (.slice Ao73 xZ0_1.length co73 : Value).ownBlock ∧ some k_ ≠ (uZ1 : Value).ownBlock) (Kd.R_keptB (HO_16.out) hkp (fun k_ hk_ hs_ => (hk_.2.1) hs_)) (fun k_ hk_ => ⟨hk_.1.1, hk_.1.2.1, hk_.1.2.2⟩)); have n2 := Az (Kd.R_reok rfl hy0 (fun k_ e_ => HO_Z0.out.1 k_ e_)); have n3 := Az (Kd.R_mono (ok' := fun k_ => some k_ ≠ (.slice Ao19 x8_1.length co19 : Value).ownBlock ∧ some k_ ≠ (.slice Ao74 x16_2.length co74 : Value).ownBlock ∧ some k_ ≠ (.slice Ao73 xZ0_1.length co73 : Value).ownBlock) (Kd.R_keptB (HO_Z1.out) hkp (fun k_ hk_ hs_ => (hk_.2.2) hs_)) (fun k_ hk_ => ⟨hk_.1.1, hk_.1.2.1, hk_.1.2.2⟩)); have n4 := Az (blk_kept (kU BK175.out) hkp (fun hs_ => (fun e_ => (Kd.R_ne HO_Z0.out BK175.out (by decide)) e_) hs_)); have n5 := Az (blk_kept (kU BK176.out) hkp (fun hs_ => (fun e_ => (Kd.R_ne HO_Z0.out BK176.out (by decide)) e_) hs_)); have n6 := Az (blk_kept (kU BK196.out) hkp (fun hs_ => (fun e_ => (Kd.R_ne HO_Z0.out BK196.out (by decide)) e_) hs_)); have n7 := Az (hb); clear HO_8 HO_16 HO_Z0 HO_Z1 BK175 BK176 BK196 HB; have HO_8 := n0; have HO_16 := n1; have HO_Z0 := n2; have HO_Z1 := n3; have BK175 := n4; have BK176 := n5; have BK196 := n6; have HB := n7; clear n0 n1 n2 n3 n4 n5 n6 n7; (try clear hb); (try clear hkp); (try clear hy0)))
            have n0 := Az (Kd.R_drew HO_8.out); have n1 := Az (Kd.R_drew HO_16.out); have n2 := Az (Kd.R_drew HO_Z0.out); have n3 := Az (Kd.R_drew HO_Z1.out); have n4 := Az (blk_drew BK175.out); have n5 := Az (blk_drew BK176.out); have n6 := Az (blk_drew BK196.out); have n7 := Az (below_drew1 HB.out); clear HO_8 HO_16 HO_Z0 HO_Z1 BK175 BK176 BK196 HB; have HO_8 := n0; have HO_16 := n1; have HO_Z0 := n2; have HO_Z1 := n3; have BK175 := n4; have BK176 := n5; have BK196 := n6; have HB := n7; clear n0 n1 n2 n3 n4 n5 n6 n7; have p217 : 0 ≤ ((ji67) : Int) := oA; have q217 : (ji67) < (x16_2.length : Int) := oA; obtain ⟨ad217, e217, hx217_0⟩ := Kd.at_int (Kd.R_reads' HO_16.out).2.2 (ji67) p217 q217
            cases e217
            replace p217 := eq_true p217; replace q217 := eq_true q217; obtain ⟨Ao78, co78, eo78⟩ := Kd.R_slice HO_Z1.out; (first | subst eo78 | (injection eo78 with f1_ f2_ f3_; have f4_ := f1_.symm; have f5_ := f3_.symm; clear f1_ f2_ f3_; subst f4_; subst f5_))
            refine start_ (n := 10) (S := fun w' => w'.cell? ⟨gb196, 0, none⟩ = some (.slice Ao73 xZ0_1.length co73) ∧ w'.cell? ⟨gb196, 1, none⟩ = some (.slice Ao78 xZ1_1.length co78) ∧ w'.cell? (ad217.add ((ji67)).toNat) = some (.int .i64 (rd x16_2 (ji67)))) (ds := []) (spec_TreeQuad_up [(1, some 112), (2, some 113), (3, some 114), (4, some 115), (5, some 116), (0, some 111), (6, some 117), (7, none), (8, some 3), (9, some 4)] 10) (by kernel_rfl) rfl rfl ⟨(blk_cell BK196.out 0).trans rfl, (blk_cell BK196.out 1).trans rfl, hx217_0⟩ (fun hHeld => ?_); refine with_tabW spec_TreeQuad.tab30 spec_TreeQuad.bits30 (fun HT_ HW_ => ?_)
            generalize w75.drew = w76 at HO_8 HO_16 HO_Z0 HO_Z1 BK175 BK176 BK196 HB hx217_0 hHeld ⊢
            repeat (first | (refine spec_TreeQuad_uP rfl rfl (any_of HT_.out (by kernel_rfl)) (fun _ _ _ h => h) (by rfl) (v := ?_) (a' := ?_) ?_ ?_ ?_; rotate_left; (· intro w'; go_simp; with_reducible rfl); rotate_left; (· simp only [Act.put, List.setIfInBounds_toArray, List.set_cons_zero, List.set_cons_succ, i64_w, i32_w]; rfl)) | (refine spec_TreeQuad_uT rfl rfl (take_ofW HT_.out HW_.out (by kernel_rfl)) (fun _ _ _ h => h) (by rfl) (v := ?_) (a' := ?_) ?_ hHeld ?_ ?_; rotate_left; (· rintro w' ⟨s0, s1, s2⟩; go_simp; with_reducible rfl); rotate_left; (· simp only [Act.put, List.setIfInBounds_toArray, List.set_cons_zero, List.set_cons_succ, i64_w, i32_w]; rfl)))
            refine spec_TreeQuad_uO rfl rfl (one_of HT_.out (by kernel_rfl)) (by decide) (fun K hK => ?_)
            have hs77 : w76.cell? ⟨gb176, 0, none⟩ = some (.slice none 0 0) := (blk_cell BK176.out 0).trans rfl; have hfs77 := blk_frozen BK176.out 0; have hns77_0 := NB175_176.out; have hns77_2 := NB196_176.out; have hms77_0 := NB176_175.out; have hms77_2 := NB176_196.out; have hs79 : w76.cell? ⟨gb176, 1, none⟩ = some (.slice none 0 0) := (blk_cell BK176.out 1).trans rfl; have hfs79 := blk_frozen BK176.out 1; have hns79_0 := NB175_176.out; have hns79_2 := NB196_176.out; have hms79_0 := NB176_175.out; have hms79_2 := NB176_196.out
            refine skip_ (w1 := ?_) (by rfl) rfl ?_ ?_
            rotate_left
            ·
             go_simp
             rfl
            refine hK.out _ _ ⟨((cell_far (p := ⟨gb176, _, none⟩) NB196_176.out _).trans (((cell_far (p := ⟨gb176, _, none⟩) NB196_176.out _).trans (hHeld.1)))), ((cell_far (p := ⟨gb176, _, none⟩) NB196_176.out _).trans (((cell_far (p := ⟨gb176, _, none⟩) NB196_176.out _).trans (hHeld.2.1)))), ((cell_far (p := ⟨gb176, _, none⟩) (by first | exact Kd.own_blk (Kd.R_ne HO_16.out BK176.out (by decide)) | (rw [add_block]; exact Kd.own_blk (Kd.R_ne HO_16.out BK176.out (by decide))) | (show (Addr.add _ _).block ≠ _; rw [add_block]; exact Kd.own_blk (Kd.R_ne HO_16.out BK176.out (by decide))) | (dsimp only; exact Kd.own_blk (Kd.R_ne HO_16.out BK176.out (by decide)))) _).trans (((cell_far (p := ⟨gb176, _, none⟩) (by first | exact Kd.own_blk (Kd.R_ne HO_16.out BK176.out (by decide)) | (rw [add_block]; exact Kd.own_blk (Kd.R_ne HO_16.out BK176.out (by decide))) | (show (Addr.add _ _).block ≠ _; rw [add_block]; exact Kd.own_blk (Kd.R_ne HO_16.out BK176.out (by decide))) | (dsimp only; exact Kd.own_blk (Kd.R_ne HO_16.out BK176.out (by decide)))) _).trans (hHeld.2.2))))⟩ (fun hHeld => ?_)
            clear hK K
            repeat (first | (refine spec_TreeQuad_uP rfl rfl (any_of HT_.out (by kernel_rfl)) (fun _ _ _ h => h) (by rfl) (v := ?_) (a' := ?_) ?_ ?_ ?_; rotate_left; (· intro w'; go_simp; with_reducible rfl); rotate_left; (· simp only [Act.put, List.setIfInBounds_toArray, List.set_cons_zero, List.set_cons_succ, i64_w, i32_w]; rfl)))
            refine done_ (done_of HT_.out (by kernel_rfl)) ?_
            try go_wp2
            refine bodyPost_ret (results_ctt rfl _ _ gb176 29 #[.slice Ao73 xZ0_1.length co73, .slice Ao78 xZ1_1.length co78] (0, 0) _ rfl (by (with_reducible repeat (first | refine blk_drewN ?_ _ | refine blk_drew ?_ | refine blk_alloc ?_ _)); refine blk_put (cs := #[.slice Ao73 xZ0_1.length co73, .slice none 0 0]) ?_ 1 _ rfl; (with_reducible repeat (first | refine blk_drewN ?_ _ | refine blk_drew ?_ | refine blk_alloc ?_ _)); refine blk_put (cs := #[.slice none 0 0, .slice none 0 0]) ?_ 0 _ rfl; (with_reducible repeat (first | refine blk_drewN ?_ _ | refine blk_drew ?_ | refine blk_alloc ?_ _)); exact BK176.out) Try.underlying29 rfl (by kernel_rfl)) rfl ?_
            exact ⟨_, _, by first | rfl | (simp [errW_none, errW_some] <;> rfl) | (simp only [← hji6, ← hji67]; first | rfl | (simp [errW_none, errW_some] <;> rfl)) | (simp [*, errW_none, errW_some] <;> rfl), by (with_reducible repeat (first | apply Kd.R_alloc | apply Kd.R_drewN | apply Kd.R_drew)); exact Kd.R_mono (Kd.R_far (p := ⟨gb176, 1, none⟩) (Kd.R_far (p := ⟨gb176, 0, none⟩) (Kd.R_types HO_Z0.out BK176.out (by decide)) (fun _ hk => hk.2) (.slice Ao73 xZ0_1.length co73)) (fun _ hk => hk.2) (.slice Ao78 xZ1_1.length co78)) (fun _ hk => hk.1.2.2), by (with_reducible repeat (first | apply Kd.R_alloc | apply Kd.R_drewN | apply Kd.R_drew)); exact Kd.R_mono (Kd.R_far (p := ⟨gb176, 1, none⟩) (Kd.R_far (p := ⟨gb176, 0, none⟩) (Kd.R_types HO_Z1.out BK176.out (by decide)) (fun _ hk => hk.2) (.slice Ao73 xZ0_1.length co73)) (fun _ hk => hk.2) (.slice Ao78 xZ1_1.length co78)) (fun _ hk => hk.1.2.2), bU3 HB.out GE175.out GE176.out GE196.out⟩
           ·
            rw [if_neg c69] at H
            exact absurd H (by simp)
          ·
           rw [if_neg c68] at H
           exact absurd H (by simp)
   ·
    rw [if_neg c8] at H
    exact absurd H (by simp)
  ·
   rw [if_neg c7] at H
   exact absurd H (by simp)
 ·
  replace c3 := Bool.eq_false_iff.mpr c3; subst c3
  have H1 : (some (([] : List Int), ([] : List Int), 0, false)) = some (r1, r2, r3, r4) := by rw [if_neg (show ¬ (false = true) by decide)] at H; exact H
  clear H; have H := H1; clear H1; simp only [Option.some.injEq, Prod.mk.injEq] at H; obtain ⟨rfl, rfl, rfl, rfl⟩ := H
  go_enter Try.func21, Try.ntmps21
  go_wp2_with (first | ((with_reducible refine gate_dst (N := 1) rfl ?_); refine box_event ?hg (N := 1) ?hd (cs := #[.string a0_0, .slice A0_1 l0_1.length c0_1]) (t := 25) ?hr ?_; (case hd => rfl); (case hg => rfl); (case hr => first | (go_simp; done) | (go_simp; rfl)); intro gb175 hg w80 hbox hb; have n0 := Az (below_step (bU0 HB.out) hb); have n1 := Az (hbox); have n2 := Az ((by rw [hg]; exact (below_size (bU0 HB.out)) : w.heap.size ≤ gb175)); have n3 := n2; clear HB; have HB := n0; have BK175 := n1; have GW175 := n2; have GE175 := n3; clear n0 n1 n2 n3; clear hb hbox hg) | ((with_reducible refine gate_dst (N := 2) rfl ?_); refine box_event ?hg (N := 2) ?hd (cs := #[.slice none 0 0, .slice none 0 0]) (t := 29) ?hr ?_; (case hd => rfl); (case hg => rfl); (case hr => first | (go_simp; done) | (go_simp; rfl)); intro gb176 hg w81 hbox hb; have n0 := Az (blk_below (g := gb175) (o := .cells #[.string a0_0, .slice A0_1 l0_1.length c0_1] 25 (0, 0)) (kU BK175.out) hb); have n1 := Az (below_step (bU1 HB.out GE175.out) hb); have n2 := Az (hbox); have n3 := Az ((by rw [hg]; exact (below_size (bU1 HB.out GE175.out)) : w.heap.size ≤ gb176)); have n4 := n3; have n5 := Az ((by rw [hg]; exact Nat.ne_of_lt (blk_lt (g := gb175) (o := .cells #[.string a0_0, .slice A0_1 l0_1.length c0_1] 25 (0, 0)) (kU BK175.out)) : gb175 ≠ gb176)); have n6 := Az ((by rw [hg]; exact Nat.ne_of_gt (blk_lt (g := gb175) (o := .cells #[.string a0_0, .slice A0_1 l0_1.length c0_1] 25 (0, 0)) (kU BK175.out)) : gb176 ≠ gb175)); clear BK175 HB; have BK175 := n0; have HB := n1; have BK176 := n2; have GW176 := n3; have GE176 := n4; have NB175_176 := n5; have NB176_175 := n6; clear n0 n1 n2 n3 n4 n5 n6 hb hbox hg; have hnb82 := NB175_176.out; have hnc82 := NB176_175.out; have hcz83_0 : w81.cell? ⟨gb175, 0, none⟩ = some (.string a0_0) := (blk_cell BK175.out 0).trans rfl; have hcz83_1 : w81.cell? ⟨gb175, 1, none⟩ = some (.slice A0_1 l0_1.length c0_1) := (blk_cell BK175.out 1).trans rfl; have hfz83_0 := blk_frozen BK175.out 0; have hfz83_1 := blk_frozen BK175.out 1) | ((with_reducible refine gate_callee (f := 17) rfl ?_); refine goesL_ (some 19) rfl rfl Try.func17 (by kernel_rfl) rfl #[.agg #[.string a0_0, .slice A0_1 l0_1.length c0_1]] rfl (by (try simp only [List.map_toArray, List.map_cons, List.map_nil]); first | done | rfl | (simp only [List.length_drop, List.length_take]; rfl)) ?_; (with_reducible refine (spec_TreeValid.calls k a0_0 _ _ l0_1 false _ ?side1 ?side2 A2.out).mono ?_); (case side1 => exact cU (Kd.C_below HR0_1.out HB.out)); (case side2 => exact HC0_1.out); rintro e w84 ⟨rfl, hb⟩; refine ⟨_, rfl, ?_⟩; have n0 := Az (blk_below (g := gb175) (o := .cells #[.string a0_0, .slice A0_1 l0_1.length c0_1] 25 (0, 0)) (kU BK175.out) hb); have n1 := Az (blk_below (g := gb176) (o := .cells #[.slice none 0 0, .slice none 0 0] 29 (0, 0)) (kU BK176.out) hb); have n2 := Az (below_step (bU2 HB.out GE175.out GE176.out) hb); clear BK175 BK176 HB; have BK175 := n0; have BK176 := n1; have HB := n2; clear n0 n1 n2; (try clear hb); (try clear hb2); (try clear hk); (try clear hi); have hcz85_0 : w84.cell? ⟨gb176, 0, none⟩ = some (.slice none 0 0) := (blk_cell BK176.out 0).trans rfl; have hcz85_1 : w84.cell? ⟨gb176, 1, none⟩ = some (.slice none 0 0) := (blk_cell BK176.out 1).trans rfl; have hfz85_0 := blk_frozen BK176.out 0; have hfz85_1 := blk_frozen BK176.out 1))
  refine bodyPost_ret (results_ctt rfl _ _ gb176 29 #[.slice none 0 0, .slice none 0 0] (0, 0) _ rfl (by (with_reducible repeat (first | refine blk_drewN ?_ _ | refine blk_drew ?_ | refine blk_alloc ?_ _)); refine blk_put (cs := #[.slice none 0 0, .slice none 0 0]) ?_ 1 _ rfl; (with_reducible repeat (first | refine blk_drewN ?_ _ | refine blk_drew ?_ | refine blk_alloc ?_ _)); refine blk_put (cs := #[.slice none 0 0, .slice none 0 0]) ?_ 0 _ rfl; (with_reducible repeat (first | refine blk_drewN ?_ _ | refine blk_drew ?_ | refine blk_alloc ?_ _)); exact BK176.out) Try.underlying29 rfl (by kernel_rfl)) rfl ?_
  exact ⟨_, _, rE, by first | exact Kd.R_nil _ _ _ _ _ | exact Kd.N_nil _ _ _ _ _ | exact Kd.V_nil _ _ _ _ _ | exact Kd.Q_nil _ _ _ _ _ | exact Kd.S_nil _ _ _ _ _, by first | exact Kd.R_nil _ _ _ _ _ | exact Kd.N_nil _ _ _ _ _ | exact Kd.V_nil _ _ _ _ _ | exact Kd.Q_nil _ _ _ _ _ | exact Kd.S_nil _ _ _ _ _, bU2 HB.out GE175.out GE176.out⟩
mutual
def impl_TreeValid.l0 : Nat → ByteArray → List Int → Int → Option Bool
 | 0, _, _, _ => none
 | k + 1, s, l, i => if i < (l.length : Int) then (if 0 ≤ i then (if rd l i < -1 then (some false) else (if rd l i > 1 then (some false) else (impl_TreeValid.l0 k s l (wrap64 (i + 1))))) else none) else (impl_TreeValid.l1 k s 0 0)
def impl_TreeValid.l1 : Nat → ByteArray → Nat → Int → Option Bool
 | 0, _, _, _ => none
 | k + 1, s, p, g => if p < s.size then (if bt s p = 40 then (if wrap64 (g + 1) < 0 then (some false) else (impl_TreeValid.l1 k s (p + 1) (wrap64 (g + 1)))) else (if bt s p = 41 then (if wrap64 (g - 1) < 0 then (some false) else (impl_TreeValid.l1 k s (p + 1) (wrap64 (g - 1)))) else (some false))) else (some (g == 0))
end
def impl_TreeValid.f (k : Nat) (a0_0 : ByteArray) (l0_1 : List Int) : Option Bool := if (l0_1.length : Int) < 1 then (some false) else (if (l0_1.length : Int) > 3 then (some false) else (if (a0_0.size : Int) = wrap64 (2 * (l0_1.length : Int)) then (impl_TreeValid.l0 k a0_0 l0_1 0) else (some false)))
theorem impl_TreeValid.mono_l : ∀ k, (∀ y0 y1 y2, LeO (impl_TreeValid.l0 k y0 y1 y2) (impl_TreeValid.l0 (k + 1) y0 y1 y2)) ∧ (∀ y0 y1 y2, LeO (impl_TreeValid.l1 k y0 y1 y2) (impl_TreeValid.l1 (k + 1) y0 y1 y2))
 | 0 => ⟨fun _ _ _ r h => by simp [impl_TreeValid.l0] at h, fun _ _ _ r h => by simp [impl_TreeValid.l1] at h⟩
 | k + 1 => by
  obtain ⟨ih0, ih1⟩ := impl_TreeValid.mono_l k
  refine ⟨?_, ?_⟩
  ·
   intro y0 y1 y2
   unfold impl_TreeValid.l0
   repeat' first
    | (with_reducible exact ih0 _ _ _)
    | (with_reducible exact ih1 _ _ _)
    | (with_reducible exact LeO.refl _)
    | (with_reducible refine LeO.ite ?_ ?_)
  ·
   intro y0 y1 y2
   unfold impl_TreeValid.l1
   repeat' first
    | (with_reducible exact ih0 _ _ _)
    | (with_reducible exact ih1 _ _ _)
    | (with_reducible exact LeO.refl _)
    | (with_reducible refine LeO.ite ?_ ?_)
theorem impl_TreeValid.mono : ∀ a0 a1 k, LeO (impl_TreeValid.f k a0 a1) (impl_TreeValid.f (k + 1) a0 a1) := by
 intro a0 a1 k
 unfold impl_TreeValid.f
 exact LeO.ite (LeO.refl _) (LeO.ite (LeO.refl _) (LeO.ite ((impl_TreeValid.mono_l k).1 _ _ _) (LeO.refl _)))
theorem impl_TreeValid.wide (s : ByteArray) (p : Nat) (h : p < s.size) : (Utf8.decode s p).2 = 1 ∨ ¬ bt s p = 40 ∧ ¬ bt s p = 41 := by
 by_cases ha : (s[p]'h).toNat < 128
 ·
  left; rw [decode_ascii s p h ha]
 ·
  right
  have hb : bt s p = ((s[p]'h).toNat : Int) := by unfold bt; rw [dif_pos (by simpa using h)]; rfl
  rw [hb]; omega
set_option maxHeartbeats 8000000 in
set_option maxRecDepth 100000 in
theorem impl_TreeValid.calls (k : Nat) (a0_0 : ByteArray) (A0_1 : Option Addr) (c0_1 : Nat) (l0_1 : List Int) (r : Bool) (w : World) (hr0_1 : Kd.C (Kd.int .i64) w A0_1 l0_1.length l0_1) (hc0_1 : l0_1.length ≤ c0_1) (h : impl_TreeValid.f k a0_0 l0_1 = some r) :
  Calls Try.prog 16 #[.agg #[.string a0_0, .slice A0_1 l0_1.length c0_1]] w fun e w' => e = .returned (.bool r) ∧ Below w.heap.size w w' := by
 have hu25 := Try.underlying25; have hus := Try.underlying9; have HR := Az hr0_1; have HC := Az hc0_1; clear hr0_1 hc0_1; have HB := Az (Below.refl w.heap.size w); have H : (if (l0_1.length : Int) < 1 then (some false) else (if (l0_1.length : Int) > 3 then (some false) else (if (a0_0.size : Int) = wrap64 (2 * (l0_1.length : Int)) then (impl_TreeValid.l0 k a0_0 l0_1 0) else (some false)))) = some r := h; clear h
 by_cases c3 : (l0_1.length : Int) < 1
 ·
  rw [if_pos c3] at H; have c3b0 := decide_eq_true c3; clear c3; obtain rfl := Option.some.inj H
  go_enter Try.func16, Try.ntmps16
  go_wp2
  go_ret
  exact ⟨rfl, below_alloc HB.out _⟩
 ·
  rw [if_neg c3] at H; have c3b0 := decide_eq_false c3; clear c3
  by_cases c4 : (l0_1.length : Int) > 3
  ·
   rw [if_pos c4] at H; have c4b0 := decide_eq_true c4; clear c4; obtain rfl := Option.some.inj H
   go_enter Try.func16, Try.ntmps16
   go_wp2
   go_ret
   exact ⟨rfl, below_alloc HB.out _⟩
  ·
   rw [if_neg c4] at H; have c4b0 := decide_eq_false c4
   have c4p : (l0_1.length : Int) ≤ 3 := by omega
   clear c4
   have hw2 : wrap64 (2 * (l0_1.length : Int)) = 2 * (l0_1.length : Int) := by unfold wrap64; omega
   rw [hw2] at H; clear hw2
   by_cases c5 : (a0_0.size : Int) = 2 * (l0_1.length : Int)
   ·
    rw [if_pos c5] at H; have c5b0 := bne_eq_false_iff_eq.mpr c5; clear c5; have H' := Az H; clear H
    go_enter Try.func16, Try.ntmps16
    go_wp2
    go_loopg [28] k (fun kq v28 w' => ∃ (i : Int), v28 = .int .i64 i ∧ Aside0 (impl_TreeValid.l0 kq a0_0 l0_1 i = some r) ∧ Aside0 (kq ≤ k) ∧ Aside0 (w'.heap[w.heap.size]? = some (.cells #[.string a0_0, .slice A0_1 l0_1.length c0_1] 25 (0, 0))) ∧ Aside0 (Below w.heap.size w w'))
    case atStart => exact ⟨0, rfl, H', ⟨Nat.le_refl _⟩, ⟨by simpa using heap_alloc_new w _⟩, ⟨below_alloc HB.out _⟩⟩
    case round =>
     clear H'; obtain ⟨i, rfl, HA, HK1, BK, HB⟩ := hrel; have hcz0 : wr.cell? ⟨w.heap.size, 0, none⟩ = some (.string a0_0) := (blk_cell BK.out 0).trans rfl; have hcz1 : wr.cell? ⟨w.heap.size, 1, none⟩ = some (.slice A0_1 l0_1.length c0_1) := (blk_cell BK.out 1).trans rfl; have hfz0 := blk_frozen BK.out 0; have hfz1 := blk_frozen BK.out 1
     cases gk with
     | zero => exact absurd HA.out (by simp [impl_TreeValid.l0])
     | succ k1 =>
      have H := HA.out; clear HA; simp only [impl_TreeValid.l0] at H
      by_cases c6 : i < (l0_1.length : Int)
      ·
       rw [if_pos c6] at H; have c6b0 := decide_eq_true c6
       by_cases c7 : 0 ≤ i
       ·
        rw [if_pos c7] at H; have c7b0 := decide_eq_true c7; obtain ⟨ad, e, hx⟩ := Kd.at_int HR.out i c7 c6
        cases e
        replace hx := (HB.out.cell (World.block_lt_of_cell? w _ hx)).trans hx; replace c6 := eq_true c6; replace c7 := eq_true c7
        by_cases c8 : rd l0_1 i < -1
        ·
         rw [if_pos c8] at H; have c8b0 := decide_eq_true c8; clear c8; obtain rfl := Option.some.inj H
         go_wp2
         go_ret
         exact ⟨rfl, HB.out⟩
        ·
         rw [if_neg c8] at H; have c8b0 := decide_eq_false c8; clear c8
         by_cases c9 : rd l0_1 i > 1
         ·
          rw [if_pos c9] at H; have c9b0 := decide_eq_true c9; clear c9; obtain rfl := Option.some.inj H
          go_wp2
          go_ret
          exact ⟨rfl, HB.out⟩
         ·
          rw [if_neg c9] at H; have c9b0 := decide_eq_false c9; clear c9; have H' := Az H; clear H
          go_wp2
          (first | go_roundg k1 | (refine Handed.intro k1 ?measure ?_; rotate_left; go_step; (try simp only [add_plain]); (repeat apply Exists.intro); refine ⟨?rel, rfl⟩))
          case measure => have := HK1.out; omega
          case rel => exact ⟨wrap64 (i + 1), rS, H', ⟨by have := HK1.out; omega⟩, ⟨BK.out⟩, ⟨HB.out⟩⟩
       ·
        rw [if_neg c7] at H
        exact absurd H (by simp)
      ·
       rw [if_neg c6] at H; have c6b0 := decide_eq_false c6; clear c6; have H' := Az H; clear H
       go_wp2
       go_loopg [6] k1 (fun kq v6 w' => ∃ (p : Nat) (g : Int), v6 = .int .i64 g ∧ w' = wr.iter a0_0 p ∧ Aside0 (impl_TreeValid.l1 kq a0_0 p g = some r) ∧ Aside0 (kq ≤ k1))
       case atStart => exact ⟨0, 0, rfl, rfl, H', ⟨Nat.le_refl _⟩⟩
       case round =>
        clear H'; obtain ⟨p, g, rfl, rfl, HA, HK2⟩ := hrel
        have hcy0 : ∀ q, (wr.iter a0_0 q).cell? ⟨w.heap.size, 0, none⟩ = some (.string a0_0) := fun q => (blk_cell (blk_alloc BK.out _) 0).trans rfl
        have hfy0 : ∀ q, (wr.iter a0_0 q).frozen? ⟨w.heap.size, 0, none⟩ = false := fun q => blk_frozen (blk_alloc BK.out _) 0
        have HB' : Aside0 (∀ q, Below w.heap.size w (wr.iter a0_0 q)) := ⟨fun q => below_alloc HB.out _⟩
        cases gk with
        | zero => exact absurd HA.out (by simp [impl_TreeValid.l1])
        | succ k2 =>
         have H := HA.out; clear HA; simp only [impl_TreeValid.l1] at H
         by_cases c10 : p < a0_0.size
         ·
          rw [if_pos c10] at H
          have hnx : ∀ ty, (Instr.next (.pointer (some ⟨wr.heap.size, 0, none⟩)) true ty).run Try.prog (wr.iter a0_0 p) = _ := fun ty => run_next_any wr a0_0 p ty c10
          have hwd := Az (impl_TreeValid.wide a0_0 p c10)
          have hx5 : ((a0_0[p]'c10).toNat : Int) = bt a0_0 p := by have := bt_at a0_0 p (by simpa using c10); simpa using this
          have p5 : (0 : Int) ≤ p := by omega
          have q5 : (p : Int) < (a0_0.size : Int) := by omega
          replace p5 := eq_true p5; replace q5 := eq_true q5
          by_cases c11 : bt a0_0 p = 40
          ·
           rw [if_pos c11] at H; have c11b0 := beq_iff_eq.mpr c11
           have hw1 : (Utf8.decode a0_0 p).2 = 1 := by rcases hwd.out with z | z; exact z; exact absurd c11 z.1
           rw [hw1] at hnx; clear c11 hw1 hwd
           by_cases c12 : wrap64 (g + 1) < 0
           ·
            rw [if_pos c12] at H; have c12b0 := decide_eq_true c12; clear c12; obtain rfl := Option.some.inj H
            go_wp2
            go_ret
            exact ⟨rfl, HB'.out _⟩
           ·
            rw [if_neg c12] at H; have c12b0 := decide_eq_false c12; clear c12; have H' := Az H; clear H
            go_wp2
            (first | go_roundg k2 | (refine Handed.intro k2 ?measure ?_; rotate_left; go_step; (try simp only [add_plain]); (repeat apply Exists.intro); refine ⟨?rel, rfl⟩))
            case measure => have := HK2.out; omega
            case rel => exact ⟨p + 1, wrap64 (g + 1), rS, rfl, H', ⟨by have := HK2.out; omega⟩⟩
          ·
           rw [if_neg c11] at H; have c11b0 := beq_eq_false_iff_ne.mpr c11
           by_cases c13 : bt a0_0 p = 41
           ·
            rw [if_pos c13] at H; have c13b0 := beq_iff_eq.mpr c13
            have hw1 : (Utf8.decode a0_0 p).2 = 1 := by rcases hwd.out with z | z; exact z; exact absurd c13 z.2
            rw [hw1] at hnx; clear c11 c13 hw1 hwd
            by_cases c12 : wrap64 (g - 1) < 0
            ·
             rw [if_pos c12] at H; have c12b0 := decide_eq_true c12; clear c12; obtain rfl := Option.some.inj H
             go_wp2
             go_ret
             exact ⟨rfl, HB'.out _⟩
            ·
             rw [if_neg c12] at H; have c12b0 := decide_eq_false c12; clear c12; have H' := Az H; clear H
             go_wp2
             (first | go_roundg k2 | (refine Handed.intro k2 ?measure ?_; rotate_left; go_step; (try simp only [add_plain]); (repeat apply Exists.intro); refine ⟨?rel, rfl⟩))
             case measure => have := HK2.out; omega
             case rel => exact ⟨p + 1, wrap64 (g - 1), rS, rfl, H', ⟨by have := HK2.out; omega⟩⟩
           ·
            rw [if_neg c13] at H; have c13b0 := beq_eq_false_iff_ne.mpr c13; clear c11 c13 hwd; obtain rfl := Option.some.inj H
            go_wp2
            go_ret
            exact ⟨rfl, HB'.out _⟩
         ·
          rw [if_neg c10] at H
          have hnx : ∀ ty, (Instr.next (.pointer (some ⟨wr.heap.size, 0, none⟩)) true ty).run Try.prog (wr.iter a0_0 p) = _ := fun ty => run_next_end wr a0_0 p ty c10
          obtain rfl := Option.some.inj H
          go_wp2
          go_ret
          exact ⟨by first | rfl | (simp; done), HB'.out _⟩
   ·
    rw [if_neg c5] at H; have c5b0 := bne_iff_ne.mpr c5; clear c5; obtain rfl := Option.some.inj H
    go_enter Try.func16, Try.ntmps16
    go_wp2
    go_ret
    exact ⟨rfl, below_alloc HB.out _⟩
end Go.Proofs.Ytlpbalebodlipaa.PK
