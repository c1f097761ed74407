/- For every list of bytes, the law FnLabelsFar answers true: for the tree that it draws, TreeQuad of the program answers what the reference answers, and the labels of a valid tree's corners are the distances from the point, one more than above the least. There are no conditions. -/
import Derived.Test.YtlpbalebodlipaaKFnLabelsFarOwnx3
namespace Go.Proofs.Ytlpbalebodlipaa.PK
open Go.RowKit Go.Proofs.YtlpbalebodlipaaW.PrintWords Go.Proofs.YtlpbalebodlipaaW.PrintLast Go.Proofs.YtlpbalebodlipaaW.PrintMore
attribute [local go_sem] max2_int min2_int max_two min_two max_three min_three max_four min_four   -- for this text's walks alone
set_option linter.unusedVariables false
set_option linter.unusedSimpArgs false
theorem R_ok_int {e : Nat} {w : World} {base : Nat} {ok ok' : Nat → Prop} {v : Value} {xs : List Int} (h : Kd.R (Kd.int .i64) e w base ok v xs) (h' : ∀ k, v.ownBlock = some k → ok' k) : Kd.R (Kd.int .i64) e w base ok' v xs := ⟨h', h.2⟩
def impl_TreeQuad_up (L : List (Nat × Option Tmp)) (n : Nat) : Array Bool := ((List.range n).map (fun i => !(L.map Prod.fst).contains i)).toArray
section
variable {P : Program} {ops : Array Oper} {Q : Exit → Act → World → Prop} {md : Region.Mode} {S : World → Prop} {ds : List Nat}
theorem impl_TreeQuad_uP {i n : Nat} {N : Option Tmp} {L : List (Nat × Option Tmp)} {oi : Oper} {v : Value} {fuel : Nat} {a : Act} {w : World} (hi : ops[i]? = some oi) (hN : oi.dst = N) (hc : anyB md ops (impl_TreeQuad_up ((i, N) :: L) n) (impl_TreeQuad_up L n) i = true)
  (hQ : ∀ c a w, Q (.panic c) (a.put oi.dst v) w → Q (.panic c) a w) (hw : Region.wanted oi (yielded ops a.tmps) = true) (hy : ∀ w, (execOp a.eval oi).run P w = .ok (.value v) w) {a' : Act} (ha : a.put N v = a')
  (h : wpAnyLast P md ops Q S ds fuel (impl_TreeQuad_up L n) a' w) : wpAnyLast P md ops Q S ds (fuel + 1) (impl_TreeQuad_up ((i, N) :: L) n) a w := pure_ (impl_TreeQuad_up L n) hi hN hc hQ (Or.inl ⟨hw, hy⟩) ha h
theorem impl_TreeQuad_uT {i n : Nat} {N : Option Tmp} {L : List (Nat × Option Tmp)} {oi : Oper} {v : Value} {fuel : Nat} {a : Act} {w : World} (hi : ops[i]? = some oi) (hN : oi.dst = N) (hc : takeB md ops ds (impl_TreeQuad_up ((i, N) :: L) n) (impl_TreeQuad_up L n) i = true)
  (hQ : ∀ c a w, Q (.panic c) (a.put oi.dst v) w → Q (.panic c) a w) (hw : Region.wanted oi (yielded ops a.tmps) = true) (hy : ∀ w, S w → (execOp a.eval oi).run P w = .ok (.value v) w) (hS : S w) {a' : Act} (ha : a.put N v = a')
  (h : wpAnyLast P md ops Q S ds fuel (impl_TreeQuad_up L n) a' w) : wpAnyLast P md ops Q S ds (fuel + 1) (impl_TreeQuad_up ((i, N) :: L) n) a w := take_ (impl_TreeQuad_up L n) hi hN hc hQ (Or.inl ⟨hw, hy⟩) hS ha h
theorem impl_TreeQuad_uO {i n : Nat} {N : Option Tmp} {L : List (Nat × Option Tmp)} {oi : Oper} {fuel : Nat} {a : Act} {w : World} (hi : ops[i]? = some oi) (hN : oi.dst = N) (hc : readyB md ops (impl_TreeQuad_up ((i, N) :: L) n) (impl_TreeQuad_up L n) i = true) (hd : i ∉ ds)
  (h : ∀ K : Act → World → Prop, Shut (∀ a' w', S w' → (S w' → wpAnyLast P md ops Q S ds fuel (impl_TreeQuad_up L n) a' w') → K a' w') → if Region.wanted oi (yielded ops a.tmps) = true then Oper.wp P oi a w K Q else K (a.put N undef) w) :
  wpAnyLast P md ops Q S ds (fuel + 1) (impl_TreeQuad_up ((i, N) :: L) n) a w := one_ (impl_TreeQuad_up L n) hi hN hc hd h
theorem impl_TreeQuad_uL {i n : Nat} {N : Option Tmp} {L : List (Nat × Option Tmp)} {oi : Oper} {fuel : Nat} {a : Act} {w : World} (hi : ops[i]? = some oi) (hN : oi.dst = N) (hc : readyB md ops (impl_TreeQuad_up ((i, N) :: L) n) (impl_TreeQuad_up L n) i = true) (hd : i ∈ ds)
  (h : ∀ K : Act → World → Prop, Shut (∀ a' w', wpAnyLast P md ops Q S ds fuel (impl_TreeQuad_up L n) a' w' → K a' w') → if Region.wanted oi (yielded ops a.tmps) = true then Oper.wp P oi a w K Q else K (a.put N undef) w) :
  wpAnyLast P md ops Q S ds (fuel + 1) (impl_TreeQuad_up ((i, N) :: L) n) a w := last_ (impl_TreeQuad_up L n) hi hN hc hd h
end
mutual
def impl_TreeQuad.l0 : Nat → List Int → List Int → Int → Int → Int → List Int → List Int → Option (List Int × List Int × Int × Bool)
 | 0, _, _, _, _, _, _, _ => none
 | k + 1, x5, x8, x9, x44, x45, xZ0, xZ1 => if x45 < x44 then (if 0 ≤ (wrap64 (2 * x45)) then (if (wrap64 (2 * x45)) < (xZ1.length : Int) then (if 0 ≤ (wrap64 ((wrap64 (2 * x45)) + 1)) then (if (wrap64 ((wrap64 (2 * x45)) + 1)) < (xZ1.length : Int) then (impl_TreeQuad.l0 k x5 x8 x9 x44 (wrap64 (x45 + 1)) xZ0 ((xZ1.set ((wrap64 (2 * x45)) : Int).toNat (wrap64 ((wrap64 (2 * x45)) + 1))).set ((wrap64 ((wrap64 (2 * x45)) + 1)) : Int).toNat (wrap64 (2 * x45)))) else (none)) else (none)) else (none)) else (none)) else (if 0 ≤ (wrap64 (x9 + 1)) then (if (wrap64 (x9 + 1) : Int).toNat ≤ 11728124029610 then (impl_TreeQuad.l1 k x8 x9 (List.replicate (wrap64 (x9 + 1) : Int).toNat []) x5 (x5.length : Int) 0 xZ0 xZ1) else (none)) else (none))
def impl_TreeQuad.l1 : Nat → List Int → Int → List (List Int) → List Int → Int → Int → List Int → List Int → Option (List Int × List Int × Int × Bool)
 | 0, _, _, _, _, _, _, _, _ => none
 | k + 1, x8, x9, x12, x68, x69, x70, xZ0, xZ1 => if x70 < x69 then (if 0 ≤ x70 then (if x70 < (x68.length : Int) then (impl_TreeQuad.l2 k x8 x9 x12 x70 (rd x68 x70) 1 x68 x69 x70 xZ0 xZ1) else (none)) else (none)) else (impl_TreeQuad.l3 k x8 x9 x12 (-1) (wrap64 (x9 - 1)) xZ0 xZ1)
def impl_TreeQuad.l2 : Nat → List Int → Int → List (List Int) → Int → Int → Int → List Int → Int → Int → List Int → List Int → Option (List Int × List Int × Int × Bool)
 | 0, _, _, _, _, _, _, _, _, _, _, _ => none
 | k + 1, x8, x9, x12, x13, x14, x15, x68, x69, x70, xZ0, xZ1 => if x15 < x9 then (if x9 = 0 then (none) else (if 0 ≤ (Int.tmod (wrap64 ((wrap64 (x13 - x15)) + x9)) x9) then (if (Int.tmod (wrap64 ((wrap64 (x13 - x15)) + x9)) x9) < (x8.length : Int) then (if (rd x8 (Int.tmod (wrap64 ((wrap64 (x13 - x15)) + x9)) x9)) = x13 then (if 0 ≤ x14 then (if x14 < (x12.length : Int) then (if (rd_L1 x12 x14).length < 17592186044416 then (impl_TreeQuad.l2 k x8 x9 (x12.set (x14 : Int).toNat ((rd_L1 x12 x14) ++ [wrap64 ((wrap64 (2 * (Int.tmod (wrap64 ((wrap64 (x13 - x15)) + x9)) x9))) + 1)])) x13 x14 (wrap64 (x15 + 1)) x68 x69 x70 xZ0 xZ1) else (none)) else (none)) else (none)) else (impl_TreeQuad.l2 k x8 x9 x12 x13 x14 (wrap64 (x15 + 1)) x68 x69 x70 xZ0 xZ1)) else (none)) else (none))) else (if 0 ≤ x14 then (if x14 < (x12.length : Int) then (if (rd_L1 x12 x14).length < 17592186044416 then (impl_TreeQuad.l1 k x8 x9 (x12.set (x14 : Int).toNat ((rd_L1 x12 x14) ++ [wrap64 (2 * x13)])) x68 x69 (wrap64 (x70 + 1)) xZ0 xZ1) else (none)) else (none)) else (none))
def impl_TreeQuad.l3 : Nat → List Int → Int → List (List Int) → Int → Int → List Int → List Int → Option (List Int × List Int × Int × Bool)
 | 0, _, _, _, _, _, _, _ => none
 | k + 1, x8, x9, x12, x17, x18, xZ0, xZ1 => if x18 ≥ 0 then (if 0 ≤ x18 then (if x18 < (x8.length : Int) then (if (rd x8 x18) < 0 then (if 0 ≤ x9 then (if x9 < (x12.length : Int) then (if (rd_L1 x12 x9).length < 17592186044416 then (impl_TreeQuad.l3 k x8 x9 (x12.set (x9 : Int).toNat ((rd_L1 x12 x9) ++ [wrap64 ((wrap64 (2 * x18)) + 1)])) (wrap64 ((wrap64 (2 * x18)) + 1)) (wrap64 (x18 - 1)) xZ0 xZ1) else (none)) else (none)) else (none)) else (impl_TreeQuad.l3 k x8 x9 x12 x17 (wrap64 (x18 - 1)) xZ0 xZ1)) else (none)) else (none)) else (impl_TreeQuad.l4 k x17 x12 (x12.length : Int) 0 xZ0 xZ1)
def impl_TreeQuad.l4 : Nat → Int → List (List Int) → Int → Int → List Int → List Int → Option (List Int × List Int × Int × Bool)
 | 0, _, _, _, _, _, _ => none
 | k + 1, x17, x143, x144, x145, xZ0, xZ1 => if x145 < x144 then (if 0 ≤ x145 then (if x145 < (x143.length : Int) then (impl_TreeQuad.l5 k x17 (rd_L1 x143 x145) x143 x144 x145 (rd_L1 x143 x145) ((rd_L1 x143 x145).length : Int) 0 xZ0 xZ1) else (none)) else (none)) else (some (xZ0, xZ1, x17, true))
def impl_TreeQuad.l5 : Nat → Int → List Int → List (List Int) → Int → Int → List Int → Int → Int → List Int → List Int → Option (List Int × List Int × Int × Bool)
 | 0, _, _, _, _, _, _, _, _, _, _ => none
 | k + 1, x17, x20, x143, x144, x145, x149, x150, x151, xZ0, xZ1 => if x151 < x150 then (if 0 ≤ x151 then (if x151 < (x149.length : Int) then (if (x20.length : Int) = 0 then (none) else (if 0 ≤ (Int.tmod (wrap64 (x151 + 1)) (x20.length : Int)) then (if (Int.tmod (wrap64 (x151 + 1)) (x20.length : Int)) < (x20.length : Int) then (if 0 ≤ (rd x149 x151) then (if (rd x149 x151) < (xZ0.length : Int) then (impl_TreeQuad.l5 k x17 x20 x143 x144 x145 x149 x150 (wrap64 (x151 + 1)) (xZ0.set ((rd x149 x151) : Int).toNat (rd x20 (Int.tmod (wrap64 (x151 + 1)) (x20.length : Int)))) xZ1) else (none)) else (none)) else (none)) else (none))) else (none)) else (none)) else (impl_TreeQuad.l4 k x17 x143 x144 (wrap64 (x145 + 1)) xZ0 xZ1)
end
def impl_TreeQuad.f (k : Nat) (a0_0 : ByteArray) (l0_1 : List Int) : Option (List Int × List Int × Int × Bool) := (impl_TreeValid.f k a0_0 l0_1).bind fun t277 => (if t277 = true then ((impl_walked.f k a0_0 l0_1).bind fun bt278 => ((impl_successors.f k bt278.2.1).bind fun t287 => (if 0 ≤ (wrap64 (2 * (t287.length : Int))) then (if (wrap64 (2 * (t287.length : Int)) : Int).toNat ≤ 35184372088832 then (impl_TreeQuad.l0 k bt278.1 t287 (t287.length : Int) (t287.length : Int) 0 (List.replicate (wrap64 (2 * (t287.length : Int)) : Int).toNat 0) (List.replicate (wrap64 (2 * (t287.length : Int)) : Int).toNat 0)) else (none)) else (none)))) else (some (([] : List Int), ([] : List Int), 0, false)))
theorem impl_TreeQuad.mono_l : ∀ k, (∀ y0 y1 y2 y3 y4 y5 y6, LeO (impl_TreeQuad.l0 k y0 y1 y2 y3 y4 y5 y6) (impl_TreeQuad.l0 (k + 1) y0 y1 y2 y3 y4 y5 y6)) ∧ (∀ y0 y1 y2 y3 y4 y5 y6 y7, LeO (impl_TreeQuad.l1 k y0 y1 y2 y3 y4 y5 y6 y7) (impl_TreeQuad.l1 (k + 1) y0 y1 y2 y3 y4 y5 y6 y7)) ∧ (∀ y0 y1 y2 y3 y4 y5 y6 y7 y8 y9 y10, LeO (impl_TreeQuad.l2 k y0 y1 y2 y3 y4 y5 y6 y7 y8 y9 y10) (impl_TreeQuad.l2 (k + 1) y0 y1 y2 y3 y4 y5 y6 y7 y8 y9 y10)) ∧ (∀ y0 y1 y2 y3 y4 y5 y6, LeO (impl_TreeQuad.l3 k y0 y1 y2 y3 y4 y5 y6) (impl_TreeQuad.l3 (k + 1) y0 y1 y2 y3 y4 y5 y6)) ∧ (∀ y0 y1 y2 y3 y4 y5, LeO (impl_TreeQuad.l4 k y0 y1 y2 y3 y4 y5) (impl_TreeQuad.l4 (k + 1) y0 y1 y2 y3 y4 y5)) ∧ (∀ y0 y1 y2 y3 y4 y5 y6 y7 y8 y9, LeO (impl_TreeQuad.l5 k y0 y1 y2 y3 y4 y5 y6 y7 y8 y9) (impl_TreeQuad.l5 (k + 1) y0 y1 y2 y3 y4 y5 y6 y7 y8 y9))
 | 0 => ⟨fun _ _ _ _ _ _ _ r h => by simp [impl_TreeQuad.l0] at h, fun _ _ _ _ _ _ _ _ r h => by simp [impl_TreeQuad.l1] at h, fun _ _ _ _ _ _ _ _ _ _ _ r h => by simp [impl_TreeQuad.l2] at h, fun _ _ _ _ _ _ _ r h => by simp [impl_TreeQuad.l3] at h, fun _ _ _ _ _ _ r h => by simp [impl_TreeQuad.l4] at h, fun _ _ _ _ _ _ _ _ _ _ r h => by simp [impl_TreeQuad.l5] at h⟩
 | k + 1 => by
  obtain ⟨ih0, ih1, ih2, ih3, ih4, ih5⟩ := impl_TreeQuad.mono_l k
  refine ⟨?_, ?_, ?_, ?_, ?_, ?_⟩
  ·
   intro y0 y1 y2 y3 y4 y5 y6
   unfold impl_TreeQuad.l0
   repeat' first
   | (with_reducible exact ih0 _ _ _ _ _ _ _)
   | (with_reducible exact ih1 _ _ _ _ _ _ _ _)
   | (with_reducible exact ih2 _ _ _ _ _ _ _ _ _ _ _)
   | (with_reducible exact ih3 _ _ _ _ _ _ _)
   | (with_reducible exact ih4 _ _ _ _ _ _)
   | (with_reducible exact ih5 _ _ _ _ _ _ _ _ _ _)
   | (with_reducible exact impl_TreeValid.mono _ _ _)
   | (with_reducible exact impl_successors.mono _ _)
   | (with_reducible exact impl_walked.mono _ _ _)
   | (with_reducible exact LeO.refl _)
   | (with_reducible exact LeO.none _)
   | (with_reducible refine LeO.ite ?_ ?_)
   | (with_reducible refine LeO.bind ?_ (fun _ => ?_))
   | exact ih0 _ _ _ _ _ _ _
   | exact ih1 _ _ _ _ _ _ _ _
   | exact ih2 _ _ _ _ _ _ _ _ _ _ _
   | exact ih3 _ _ _ _ _ _ _
   | exact ih4 _ _ _ _ _ _
   | exact ih5 _ _ _ _ _ _ _ _ _ _
   | exact impl_TreeValid.mono _ _ _
   | exact impl_successors.mono _ _
   | exact impl_walked.mono _ _ _
   | exact LeO.none _
   | refine LeO.ite ?_ ?_
   | refine LeO.bind ?_ (fun _ => ?_)
  ·
   intro y0 y1 y2 y3 y4 y5 y6 y7
   unfold impl_TreeQuad.l1
   repeat' first
   | (with_reducible exact ih0 _ _ _ _ _ _ _)
   | (with_reducible exact ih1 _ _ _ _ _ _ _ _)
   | (with_reducible exact ih2 _ _ _ _ _ _ _ _ _ _ _)
   | (with_reducible exact ih3 _ _ _ _ _ _ _)
   | (with_reducible exact ih4 _ _ _ _ _ _)
   | (with_reducible exact ih5 _ _ _ _ _ _ _ _ _ _)
   | (with_reducible exact impl_TreeValid.mono _ _ _)
   | (with_reducible exact impl_successors.mono _ _)
   | (with_reducible exact impl_walked.mono _ _ _)
   | (with_reducible exact LeO.refl _)
   | (with_reducible exact LeO.none _)
   | (with_reducible refine LeO.ite ?_ ?_)
   | (with_reducible refine LeO.bind ?_ (fun _ => ?_))
   | exact ih0 _ _ _ _ _ _ _
   | exact ih1 _ _ _ _ _ _ _ _
   | exact ih2 _ _ _ _ _ _ _ _ _ _ _
   | exact ih3 _ _ _ _ _ _ _
   | exact ih4 _ _ _ _ _ _
   | exact ih5 _ _ _ _ _ _ _ _ _ _
   | exact impl_TreeValid.mono _ _ _
   | exact impl_successors.mono _ _
   | exact impl_walked.mono _ _ _
   | exact LeO.none _
   | refine LeO.ite ?_ ?_
   | refine LeO.bind ?_ (fun _ => ?_)
  ·
   intro y0 y1 y2 y3 y4 y5 y6 y7 y8 y9 y10
   unfold impl_TreeQuad.l2
   repeat' first
   | (with_reducible exact ih0 _ _ _ _ _ _ _)
   | (with_reducible exact ih1 _ _ _ _ _ _ _ _)
   | (with_reducible exact ih2 _ _ _ _ _ _ _ _ _ _ _)
   | (with_reducible exact ih3 _ _ _ _ _ _ _)
   | (with_reducible exact ih4 _ _ _ _ _ _)
   | (with_reducible exact ih5 _ _ _ _ _ _ _ _ _ _)
   | (with_reducible exact impl_TreeValid.mono _ _ _)
   | (with_reducible exact impl_successors.mono _ _)
   | (with_reducible exact impl_walked.mono _ _ _)
   | (with_reducible exact LeO.refl _)
   | (with_reducible exact LeO.none _)
   | (with_reducible refine LeO.ite ?_ ?_)
   | (with_reducible refine LeO.bind ?_ (fun _ => ?_))
   | exact ih0 _ _ _ _ _ _ _
   | exact ih1 _ _ _ _ _ _ _ _
   | exact ih2 _ _ _ _ _ _ _ _ _ _ _
   | exact ih3 _ _ _ _ _ _ _
   | exact ih4 _ _ _ _ _ _
   | exact ih5 _ _ _ _ _ _ _ _ _ _
   | exact impl_TreeValid.mono _ _ _
   | exact impl_successors.mono _ _
   | exact impl_walked.mono _ _ _
   | exact LeO.none _
   | refine LeO.ite ?_ ?_
   | refine LeO.bind ?_ (fun _ => ?_)
  ·
   intro y0 y1 y2 y3 y4 y5 y6
   unfold impl_TreeQuad.l3
   repeat' first
   | (with_reducible exact ih0 _ _ _ _ _ _ _)
   | (with_reducible exact ih1 _ _ _ _ _ _ _ _)
   | (with_reducible exact ih2 _ _ _ _ _ _ _ _ _ _ _)
   | (with_reducible exact ih3 _ _ _ _ _ _ _)
   | (with_reducible exact ih4 _ _ _ _ _ _)
   | (with_reducible exact ih5 _ _ _ _ _ _ _ _ _ _)
   | (with_reducible exact impl_TreeValid.mono _ _ _)
   | (with_reducible exact impl_successors.mono _ _)
   | (with_reducible exact impl_walked.mono _ _ _)
   | (with_reducible exact LeO.refl _)
   | (with_reducible exact LeO.none _)
   | (with_reducible refine LeO.ite ?_ ?_)
   | (with_reducible refine LeO.bind ?_ (fun _ => ?_))
   | exact ih0 _ _ _ _ _ _ _
   | exact ih1 _ _ _ _ _ _ _ _
   | exact ih2 _ _ _ _ _ _ _ _ _ _ _
   | exact ih3 _ _ _ _ _ _ _
   | exact ih4 _ _ _ _ _ _
   | exact ih5 _ _ _ _ _ _ _ _ _ _
   | exact impl_TreeValid.mono _ _ _
   | exact impl_successors.mono _ _
   | exact impl_walked.mono _ _ _
   | exact LeO.none _
   | refine LeO.ite ?_ ?_
   | refine LeO.bind ?_ (fun _ => ?_)
  ·
   intro y0 y1 y2 y3 y4 y5
   unfold impl_TreeQuad.l4
   repeat' first
   | (with_reducible exact ih0 _ _ _ _ _ _ _)
   | (with_reducible exact ih1 _ _ _ _ _ _ _ _)
   | (with_reducible exact ih2 _ _ _ _ _ _ _ _ _ _ _)
   | (with_reducible exact ih3 _ _ _ _ _ _ _)
   | (with_reducible exact ih4 _ _ _ _ _ _)
   | (with_reducible exact ih5 _ _ _ _ _ _ _ _ _ _)
   | (with_reducible exact impl_TreeValid.mono _ _ _)
   | (with_reducible exact impl_successors.mono _ _)
   | (with_reducible exact impl_walked.mono _ _ _)
   | (with_reducible exact LeO.refl _)
   | (with_reducible exact LeO.none _)
   | (with_reducible refine LeO.ite ?_ ?_)
   | (with_reducible refine LeO.bind ?_ (fun _ => ?_))
   | exact ih0 _ _ _ _ _ _ _
   | exact ih1 _ _ _ _ _ _ _ _
   | exact ih2 _ _ _ _ _ _ _ _ _ _ _
   | exact ih3 _ _ _ _ _ _ _
   | exact ih4 _ _ _ _ _ _
   | exact ih5 _ _ _ _ _ _ _ _ _ _
   | exact impl_TreeValid.mono _ _ _
   | exact impl_successors.mono _ _
   | exact impl_walked.mono _ _ _
   | exact LeO.none _
   | refine LeO.ite ?_ ?_
   | refine LeO.bind ?_ (fun _ => ?_)
  ·
   intro y0 y1 y2 y3 y4 y5 y6 y7 y8 y9
   unfold impl_TreeQuad.l5
   repeat' first
   | (with_reducible exact ih0 _ _ _ _ _ _ _)
   | (with_reducible exact ih1 _ _ _ _ _ _ _ _)
   | (with_reducible exact ih2 _ _ _ _ _ _ _ _ _ _ _)
   | (with_reducible exact ih3 _ _ _ _ _ _ _)
   | (with_reducible exact ih4 _ _ _ _ _ _)
   | (with_reducible exact ih5 _ _ _ _ _ _ _ _ _ _)
   | (with_reducible exact impl_TreeValid.mono _ _ _)
   | (with_reducible exact impl_successors.mono _ _)
   | (with_reducible exact impl_walked.mono _ _ _)
   | (with_reducible exact LeO.refl _)
   | (with_reducible exact LeO.none _)
   | (with_reducible refine LeO.ite ?_ ?_)
   | (with_reducible refine LeO.bind ?_ (fun _ => ?_))
   | exact ih0 _ _ _ _ _ _ _
   | exact ih1 _ _ _ _ _ _ _ _
   | exact ih2 _ _ _ _ _ _ _ _ _ _ _
   | exact ih3 _ _ _ _ _ _ _
   | exact ih4 _ _ _ _ _ _
   | exact ih5 _ _ _ _ _ _ _ _ _ _
   | exact impl_TreeValid.mono _ _ _
   | exact impl_successors.mono _ _
   | exact impl_walked.mono _ _ _
   | exact LeO.none _
   | refine LeO.ite ?_ ?_
   | refine LeO.bind ?_ (fun _ => ?_)
theorem impl_TreeQuad.mono : ∀ a0 a1 k, LeO (impl_TreeQuad.f k a0 a1) (impl_TreeQuad.f (k + 1) a0 a1) := by
 intro a0 a1 k
 obtain ⟨ih0, ih1, ih2, ih3, ih4, ih5⟩ := impl_TreeQuad.mono_l k
 unfold impl_TreeQuad.f
 repeat' first
   | (with_reducible exact ih0 _ _ _ _ _ _ _)
   | (with_reducible exact ih1 _ _ _ _ _ _ _ _)
   | (with_reducible exact ih2 _ _ _ _ _ _ _ _ _ _ _)
   | (with_reducible exact ih3 _ _ _ _ _ _ _)
   | (with_reducible exact ih4 _ _ _ _ _ _)
   | (with_reducible exact ih5 _ _ _ _ _ _ _ _ _ _)
   | (with_reducible exact impl_TreeValid.mono _ _ _)
   | (with_reducible exact impl_successors.mono _ _)
   | (with_reducible exact impl_walked.mono _ _ _)
   | (with_reducible exact LeO.refl _)
   | (with_reducible exact LeO.none _)
   | (with_reducible refine LeO.ite ?_ ?_)
   | (with_reducible refine LeO.bind ?_ (fun _ => ?_))
   | exact ih0 _ _ _ _ _ _ _
   | exact ih1 _ _ _ _ _ _ _ _
   | exact ih2 _ _ _ _ _ _ _ _ _ _ _
   | exact ih3 _ _ _ _ _ _ _
   | exact ih4 _ _ _ _ _ _
   | exact ih5 _ _ _ _ _ _ _ _ _ _
   | exact impl_TreeValid.mono _ _ _
   | exact impl_successors.mono _ _
   | exact impl_walked.mono _ _ _
   | exact LeO.none _
   | refine LeO.ite ?_ ?_
   | refine LeO.bind ?_ (fun _ => ?_)
def impl_TreeQuad.T6 : Bool × List (List Nat × List Nat) := (true, [([], []), ([0], [0]), ([1, 1], [1]), ([], []), ([3], [3]), ([4, 4], [4]), ([2, 5], [2, 5]), ([], []), ([7, 6, 0, 1, 2, 3, 4, 5, 6, 7], [6, 7])])
def impl_TreeQuad.B6 : List Nat := [0, 1, 3, 0, 8, 24, 63, 0, 255]
theorem impl_TreeQuad.tab6 : rtab .any (opsOf Try.f23 6) = impl_TreeQuad.T6 := by kernel_rfl
theorem impl_TreeQuad.bits6 : waitsOk impl_TreeQuad.T6.2 impl_TreeQuad.B6 = true := by kernel_rfl
def impl_TreeQuad.T10 : Bool × List (List Nat × List Nat) := (true, [([], []), ([0], [0]), ([], []), ([2], [2]), ([], []), ([4], [4]), ([], []), ([6], [6]), ([7], [7]), ([], []), ([9], [9]), ([10], [10]), ([], []), ([12], [12]), ([1, 3, 0, 1, 2, 3, 9, 10, 11], [1, 3]), ([14, 11, 0, 1, 2, 3, 9, 10, 11], [11, 14]), ([5, 8, 0, 1, 2, 3, 4, 5, 6, 7, 8, 9, 10, 11, 12, 13, 14, 15], [5, 8]), ([16, 13, 15, 0, 1, 2, 3, 4, 5, 6, 7, 8, 9, 10, 11, 12, 13, 14, 15], [13, 16])])
def impl_TreeQuad.B10 : List Nat := [0, 1, 0, 4, 0, 16, 0, 64, 192, 0, 512, 1536, 0, 4096, 3599, 19983, 65535, 131071]
theorem impl_TreeQuad.tab10 : rtab .any (opsOf Try.f23 10) = impl_TreeQuad.T10 := by kernel_rfl
theorem impl_TreeQuad.bits10 : waitsOk impl_TreeQuad.T10.2 impl_TreeQuad.B10 = true := by kernel_rfl
def impl_TreeQuad.T37 : Bool × List (List Nat × List Nat) := (true, [([], []), ([0], [0]), ([], []), ([], []), ([], []), ([4], [4]), ([], []), ([6], [6]), ([5, 7], [5, 7]), ([3, 8], [3, 8]), ([9], [9]), ([1, 2, 0, 1, 2, 3, 4, 5, 6, 7, 8, 9, 10], [1, 2]), ([11, 10, 0, 1, 2, 3, 4, 5, 6, 7, 8, 9, 10], [10, 11])])
def impl_TreeQuad.B37 : List Nat := [0, 1, 0, 0, 0, 16, 0, 64, 240, 504, 1016, 2047, 4095]
theorem impl_TreeQuad.tab37 : rtab .any (opsOf Try.f23 37) = impl_TreeQuad.T37 := by kernel_rfl
theorem impl_TreeQuad.bits37 : waitsOk impl_TreeQuad.T37.2 impl_TreeQuad.B37 = true := by kernel_rfl
set_option maxHeartbeats 8000000 in
set_option maxRecDepth 100000 in
theorem impl_TreeQuad.calls (k : Nat) (a0_0 : ByteArray) (A0_1 : Option Addr) (c0_1 : Nat) (l0_1 : List Int) (r1 : List Int) (r2 : List Int) (r3 : Int) (r4 : Bool) (w : World) (hr0_1 : Kd.C (Kd.int .i64) w A0_1 l0_1.length l0_1) (hc0_1 : l0_1.length ≤ c0_1) (h : impl_TreeQuad.f k a0_0 l0_1 = some (r1, r2, r3, r4)) :
  Calls Try.prog 23 #[.agg #[.string a0_0, .slice A0_1 l0_1.length c0_1]] w fun e w' => ∃ v0_ v1_ : Value, e = .returned (.tuple #[.agg #[v0_, v1_], .int .i64 r3, .bool r4]) ∧ Kd.R (Kd.int .i64) 3 w' w.heap.size (fun k_ => some k_ ≠ (v1_ : Value).ownBlock) v0_ r1 ∧ Kd.R (Kd.int .i64) 3 w' w.heap.size (fun k_ => some k_ ≠ (v0_ : Value).ownBlock) v1_ r2 ∧ Below w.heap.size w w' := by
 have hu25 := Try.underlying25; have hu29 := Try.underlying29; have HR0_1 := Az hr0_1; have HC0_1 := Az hc0_1; clear hr0_1 hc0_1; have HB := Az (Below.refl w.heap.size w); have H : ((impl_TreeValid.f k a0_0 l0_1).bind fun t277 => (if t277 = true then ((impl_walked.f k a0_0 l0_1).bind fun bt278 => ((impl_successors.f k bt278.2.1).bind fun t287 => (if 0 ≤ (wrap64 (2 * (t287.length : Int))) then (if (wrap64 (2 * (t287.length : Int)) : Int).toNat ≤ 35184372088832 then (impl_TreeQuad.l0 k bt278.1 t287 (t287.length : Int) (t287.length : Int) 0 (List.replicate (wrap64 (2 * (t287.length : Int)) : Int).toNat 0) (List.replicate (wrap64 (2 * (t287.length : Int)) : Int).toNat 0)) else (none)) else (none)))) else (some (([] : List Int), ([] : List Int), 0, false)))) = some (r1, r2, r3, r4) := h; clear h; replace H := Option.bind_eq_some_iff.mp H; obtain ⟨t277, A20, H⟩ := H; replace H : (if t277 = true then ((impl_walked.f k a0_0 l0_1).bind fun bt278 => ((impl_successors.f k bt278.2.1).bind fun t287 => (if 0 ≤ (wrap64 (2 * (t287.length : Int))) then (if (wrap64 (2 * (t287.length : Int)) : Int).toNat ≤ 35184372088832 then (impl_TreeQuad.l0 k bt278.1 t287 (t287.length : Int) (t287.length : Int) 0 (List.replicate (wrap64 (2 * (t287.length : Int)) : Int).toNat 0) (List.replicate (wrap64 (2 * (t287.length : Int)) : Int).toNat 0)) else (none)) else (none)))) else (some (([] : List Int), ([] : List Int), 0, false))) = some (r1, r2, r3, r4) := H; have A2 := Az A20; clear A20
 by_cases c3 : t277 = true
 ·
  subst c3
  have H1 : ((impl_walked.f k a0_0 l0_1).bind fun bt278 => ((impl_successors.f k bt278.2.1).bind fun t287 => (if 0 ≤ (wrap64 (2 * (t287.length : Int))) then (if (wrap64 (2 * (t287.length : Int)) : Int).toNat ≤ 35184372088832 then (impl_TreeQuad.l0 k bt278.1 t287 (t287.length : Int) (t287.length : Int) 0 (List.replicate (wrap64 (2 * (t287.length : Int)) : Int).toNat 0) (List.replicate (wrap64 (2 * (t287.length : Int)) : Int).toNat 0)) else (none)) else (none)))) = some (r1, r2, r3, r4) := by rw [if_pos rfl] at H; exact H
  clear H; have H := H1; clear H1; replace H := Option.bind_eq_some_iff.mp H; obtain ⟨⟨t278, t281, t284⟩, A40, H⟩ := H; replace H : ((impl_successors.f k t281).bind fun t287 => (if 0 ≤ (wrap64 (2 * (t287.length : Int))) then (if (wrap64 (2 * (t287.length : Int)) : Int).toNat ≤ 35184372088832 then (impl_TreeQuad.l0 k t278 t287 (t287.length : Int) (t287.length : Int) 0 (List.replicate (wrap64 (2 * (t287.length : Int)) : Int).toNat 0) (List.replicate (wrap64 (2 * (t287.length : Int)) : Int).toNat 0)) else (none)) else (none))) = some (r1, r2, r3, r4) := H; have A4 := Az A40; clear A40; replace H := Option.bind_eq_some_iff.mp H; obtain ⟨t287, A50, H⟩ := H; replace H : (if 0 ≤ (wrap64 (2 * (t287.length : Int))) then (if (wrap64 (2 * (t287.length : Int)) : Int).toNat ≤ 35184372088832 then (impl_TreeQuad.l0 k t278 t287 (t287.length : Int) (t287.length : Int) 0 (List.replicate (wrap64 (2 * (t287.length : Int)) : Int).toNat 0) (List.replicate (wrap64 (2 * (t287.length : Int)) : Int).toNat 0)) else (none)) else (none)) = some (r1, r2, r3, r4) := H; have A5 := Az A50; clear A50; obtain ⟨ji6, hji6⟩ : ∃ j_ : Int, (wrap64 (2 * (t287.length : Int))) = j_ := ⟨_, rfl⟩
  replace H : (if 0 ≤ (ji6) then (if (ji6 : Int).toNat ≤ 35184372088832 then (impl_TreeQuad.l0 k t278 t287 (t287.length : Int) (t287.length : Int) 0 (List.replicate (ji6 : Int).toNat 0) (List.replicate (ji6 : Int).toNat 0)) else (none)) else (none)) = some (r1, r2, r3, r4) := by first | (rw [hji6] at H; exact H) | (simp only [hji6] at H ⊢; exact H)
  (try rw [hji6] at A2); (try rw [hji6] at A4); (try rw [hji6] at A5); have hji6w : (IntKind.i64.wrap (2 * (t287.length : Int))) = ji6 := (i64_w _).trans hji6
  by_cases c7 : 0 ≤ (ji6)
  ·
   rw [if_pos c7] at H; have c7b0 := eq_true c7; have c7b1 := decide_eq_true c7; clear c7
   by_cases c8 : (ji6 : Int).toNat ≤ 35184372088832
   ·
    rw [if_pos c8] at H; have c8b0 := eq_true c8; have c8b1 := decide_eq_true c8; clear c8; obtain ⟨y290, hy290⟩ : ∃ y_ : List Int, y_ = (List.replicate (ji6 : Int).toNat 0) := ⟨_, rfl⟩; replace H : (impl_TreeQuad.l0 k t278 t287 (t287.length : Int) (t287.length : Int) 0 y290 (List.replicate (ji6 : Int).toNat 0)) = some (r1, r2, r3, r4) := hR hy290 H; have Ny290 := Az hy290; clear hy290; obtain ⟨y293, hy293⟩ : ∃ y_ : List Int, y_ = (List.replicate (ji6 : Int).toNat 0) := ⟨_, rfl⟩; replace H : (impl_TreeQuad.l0 k t278 t287 (t287.length : Int) (t287.length : Int) 0 y290 y293) = some (r1, r2, r3, r4) := hR hy293 H; have Ny293 := Az hy293; clear hy293; have H' := Az H; clear H
    go_enter Try.func23, Try.ntmps23
    try go_wp2_with (first | ((with_reducible refine gate_dst (N := 1) rfl ?_); refine box_event ?hg (N := 1) ?hd (cs := #[.string a0_0, .slice A0_1 l0_1.length c0_1]) (t := 25) ?hr ?_; (case hd => rfl); (case hg => rfl); (case hr => first | (go_simp; done) | (go_simp; rfl)); intro gb275 hg w9 hbox hb; have n0 := Az (below_step (bU0 HB.out) hb); have n1 := Az (hbox); have n2 := Az ((by rw [hg]; exact (below_size (bU0 HB.out)) : w.heap.size ≤ gb275)); have n3 := n2; clear HB; have HB := n0; have BK275 := n1; have GW275 := n2; have GE275 := n3; clear n0 n1 n2 n3; clear hb hbox hg) | ((with_reducible refine gate_dst (N := 2) rfl ?_); refine box_event ?hg (N := 2) ?hd (cs := #[.slice none 0 0, .slice none 0 0]) (t := 29) ?hr ?_; (case hd => rfl); (case hg => rfl); (case hr => first | (go_simp; done) | (go_simp; rfl)); intro gb276 hg w10 hbox hb; have n0 := Az (blk_below (g := gb275) (o := .cells #[.string a0_0, .slice A0_1 l0_1.length c0_1] 25 (0, 0)) (kU BK275.out) hb); have n1 := Az (below_step (bU1 HB.out GE275.out) hb); have n2 := Az (hbox); have n3 := Az ((by rw [hg]; exact (below_size (bU1 HB.out GE275.out)) : w.heap.size ≤ gb276)); have n4 := n3; have n5 := Az ((by rw [hg]; exact Nat.ne_of_lt (blk_lt (g := gb275) (o := .cells #[.string a0_0, .slice A0_1 l0_1.length c0_1] 25 (0, 0)) (kU BK275.out)) : gb275 ≠ gb276)); have n6 := Az ((by rw [hg]; exact Nat.ne_of_gt (blk_lt (g := gb275) (o := .cells #[.string a0_0, .slice A0_1 l0_1.length c0_1] 25 (0, 0)) (kU BK275.out)) : gb276 ≠ gb275)); clear BK275 HB; have BK275 := n0; have HB := n1; have BK276 := n2; have GW276 := n3; have GE276 := n4; have NB275_276 := n5; have NB276_275 := n6; clear n0 n1 n2 n3 n4 n5 n6 hb hbox hg; have hnb11 := NB275_276.out; have hnc11 := NB276_275.out; have hcz12_0 : w10.cell? ⟨gb275, 0, none⟩ = some (.string a0_0) := (blk_cell BK275.out 0).trans rfl; have hcz12_1 : w10.cell? ⟨gb275, 1, none⟩ = some (.slice A0_1 l0_1.length c0_1) := (blk_cell BK275.out 1).trans rfl; have hfz12_0 := blk_frozen BK275.out 0; have hfz12_1 := blk_frozen BK275.out 1) | ((with_reducible refine gate_callee (f := 16) rfl ?_); refine goesL_ (some 24) rfl rfl Try.func16 (by kernel_rfl) rfl #[.agg #[.string a0_0, .slice A0_1 l0_1.length c0_1]] rfl (by (try simp only [List.map_toArray, List.map_cons, List.map_nil]); first | done | rfl | (simp only [List.length_drop, List.length_take]; rfl)) ?_; (with_reducible refine (impl_TreeValid.calls k a0_0 _ _ l0_1 true _ ?side1 ?side2 A2.out).mono ?_); (case side1 => exact cU (Kd.C_below HR0_1.out HB.out)); (case side2 => exact HC0_1.out); rintro e w13 ⟨rfl, hb⟩; refine ⟨_, rfl, ?_⟩; have n0 := Az (blk_below (g := gb275) (o := .cells #[.string a0_0, .slice A0_1 l0_1.length c0_1] 25 (0, 0)) (kU BK275.out) hb); have n1 := Az (blk_below (g := gb276) (o := .cells #[.slice none 0 0, .slice none 0 0] 29 (0, 0)) (kU BK276.out) hb); have n2 := Az (below_step (bU2 HB.out GE275.out GE276.out) hb); clear BK275 BK276 HB; have BK275 := n0; have BK276 := n1; have HB := n2; clear n0 n1 n2; (try clear hb); (try clear hb2); (try clear hk); (try clear hi); have hcz14_0 : w13.cell? ⟨gb275, 0, none⟩ = some (.string a0_0) := (blk_cell BK275.out 0).trans rfl; have hcz14_1 : w13.cell? ⟨gb275, 1, none⟩ = some (.slice A0_1 l0_1.length c0_1) := (blk_cell BK275.out 1).trans rfl; have hfz14_0 := blk_frozen BK275.out 0; have hfz14_1 := blk_frozen BK275.out 1) | ((with_reducible refine gate_callee (f := 64) rfl ?_); refine goesL_ (some 29) rfl rfl Try.func64 (by kernel_rfl) rfl #[.agg #[.string a0_0, .slice A0_1 l0_1.length c0_1]] rfl (by (try simp only [List.map_toArray, List.map_cons, List.map_nil]); first | done | rfl | (simp only [List.length_drop, List.length_take]; rfl)) ?_; (with_reducible refine (impl_walked.calls k a0_0 _ _ l0_1 t278 t281 t284 _ ?side1 ?side2 A4.out).mono ?_); (case side1 => exact cU (Kd.C_below HR0_1.out HB.out)); (case side2 => exact HC0_1.out); rintro e w15 ⟨v279, v282, v285, rfl, ho0, ho1, ho2, hb⟩; refine ⟨_, rfl, ?_⟩; have n0 := Az (Kd.R_lower ho0 (below_size (bU2 HB.out GE275.out GE276.out))); have n1 := Az (Kd.R_lower ho1 (below_size (bU2 HB.out GE275.out GE276.out))); have n2 := Az (Kd.R_lower ho2 (below_size (bU2 HB.out GE275.out GE276.out))); have n3 := Az (blk_below (g := gb275) (o := .cells #[.string a0_0, .slice A0_1 l0_1.length c0_1] 25 (0, 0)) (kU BK275.out) hb); have n4 := Az (blk_below (g := gb276) (o := .cells #[.slice none 0 0, .slice none 0 0] 29 (0, 0)) (kU BK276.out) hb); have n5 := Az (below_step (bU2 HB.out GE275.out GE276.out) hb); clear BK275 BK276 HB; have HO280 := n0; have HO283 := n1; have HO286 := n2; have BK275 := n3; have BK276 := n4; have HB := n5; clear n0 n1 n2 n3 n4 n5; (try clear hb); (try clear hb2); (try clear hk); (try clear hi); (try clear ho0); (try clear ho1); (try clear ho2); obtain ⟨Ao16, co16, eo16⟩ := Kd.R_slice HO283.out; subst eo16) | ((with_reducible refine gate_callee (f := 75) rfl ?_); refine goesL_ (some 34) rfl rfl Try.func75 (by kernel_rfl) rfl #[.slice Ao16 t281.length co16] rfl (by (try simp only [List.map_toArray, List.map_cons, List.map_nil]); first | done | rfl | (simp only [List.length_drop, List.length_take]; rfl)) ?_; (with_reducible refine (impl_successors.calls k _ _ t281 t287 _ ?side1 ?side2 A5.out).mono ?_); (case side1 => exact cU ((Kd.R_reads' HO283.out).2.2)); (case side2 => exact (Kd.R_reads' HO283.out).2.1); rintro e w17 ⟨v288, rfl, ho0, hb⟩; refine ⟨_, rfl, ?_⟩; have n0 := Az (Kd.R_elder' (rU HO280.out) (Kd.R_base ho0) hb); have n1 := Az (Kd.R_elder' (rU HO283.out) (Kd.R_base ho0) hb); have n2 := Az (Kd.R_elder' (rU HO286.out) (Kd.R_base ho0) hb); have n3 := Az (Kd.R_lower (Kd.R_new' (Kd.R_new' (Kd.R_new' ho0 (Kd.R_lt (rU HO280.out))) (Kd.R_lt (rU HO283.out))) (Kd.R_lt (rU HO286.out))) (below_size (bU2 HB.out GE275.out GE276.out))); have n4 := Az (blk_below (g := gb275) (o := .cells #[.string a0_0, .slice A0_1 l0_1.length c0_1] 25 (0, 0)) (kU BK275.out) hb); have n5 := Az (blk_below (g := gb276) (o := .cells #[.slice none 0 0, .slice none 0 0] 29 (0, 0)) (kU BK276.out) hb); have n6 := Az (below_step (bU2 HB.out GE275.out GE276.out) hb); clear HO280 HO283 HO286 BK275 BK276 HB; have HO280 := n0; have HO283 := n1; have HO286 := n2; have HO289 := n3; have BK275 := n4; have BK276 := n5; have HB := n6; clear n0 n1 n2 n3 n4 n5 n6; (try clear hb); (try clear hb2); (try clear hk); (try clear hi); (try clear ho0); obtain ⟨Ao18, co18, eo18⟩ := Kd.R_slice HO289.out; subst eo18))
    have n0 := Az (Kd.R_drew HO280.out); have n1 := Az (Kd.R_drew HO283.out); have n2 := Az (Kd.R_drew HO286.out); have n3 := Az (Kd.R_drew HO289.out); have n4 := Az (blk_drew BK275.out); have n5 := Az (blk_drew BK276.out); have n6 := Az (below_drew1 HB.out); clear HO280 HO283 HO286 HO289 BK275 BK276 HB; have HO280 := n0; have HO283 := n1; have HO286 := n2; have HO289 := n3; have BK275 := n4; have BK276 := n5; have HB := n6; clear n0 n1 n2 n3 n4 n5 n6
    refine start_ (n := 9) (S := fun w' => True) (ds := []) #[false, false, false, false, false, false, false, false, false] (by kernel_rfl) rfl rfl trivial (fun hHeld => ?_); refine with_tabW impl_TreeQuad.tab6 impl_TreeQuad.bits6 (fun HT_ HW_ => ?_)
    generalize w17.drew = w19 at HO280 HO283 HO286 HO289 BK275 BK276 HB hHeld ⊢
    refine pure_ (i := 0) (N := some 37) (v := ?_) (a' := ?_) #[true, false, false, false, false, false, false, false, false] rfl rfl (any_of HT_.out (by kernel_rfl)) (fun _ _ _ h => h) (Or.inl ⟨by rfl, ?_⟩) ?_ ?_
    rotate_left
    ·
     intro w'
     go_simp
     with_reducible rfl
    rotate_left
    ·
     simp only [Act.put, List.setIfInBounds_toArray, List.set_cons_zero, List.set_cons_succ, i64_w, i32_w]
     rfl
    refine pure_ (i := 1) (N := some 38) (v := ?_) (a' := ?_) #[true, true, false, false, false, false, false, false, false] rfl rfl (any_of HT_.out (by kernel_rfl)) (fun _ _ _ h => h) (Or.inl ⟨by rfl, ?_⟩) ?_ ?_
    rotate_left
    ·
     intro w'
     go_simp
     with_reducible rfl
    rotate_left
    ·
     simp only [Act.put, List.setIfInBounds_toArray, List.set_cons_zero, List.set_cons_succ, i64_w, i32_w]
     rfl
    refine pure_ (i := 3) (N := some 40) (v := ?_) (a' := ?_) #[true, true, false, true, false, false, false, false, false] rfl rfl (any_of HT_.out (by kernel_rfl)) (fun _ _ _ h => h) (Or.inl ⟨by rfl, ?_⟩) ?_ ?_
    rotate_left
    ·
     intro w'
     go_simp
     with_reducible rfl
    rotate_left
    ·
     simp only [Act.put, List.setIfInBounds_toArray, List.set_cons_zero, List.set_cons_succ, i64_w, i32_w]
     rfl
    refine pure_ (i := 4) (N := some 41) (v := ?_) (a' := ?_) #[true, true, false, true, true, false, false, false, false] rfl rfl (any_of HT_.out (by kernel_rfl)) (fun _ _ _ h => h) (Or.inl ⟨by rfl, ?_⟩) ?_ ?_
    rotate_left
    ·
     intro w'
     go_simp
     with_reducible rfl
    rotate_left
    ·
     simp only [Act.put, List.setIfInBounds_toArray, List.set_cons_zero, List.set_cons_succ, i64_w, i32_w]
     rfl
    refine join_ (σ := Value × Value × Nat) 1 #[true, true, true, true, true, true, true, true, false] (fun s_ => [(39, s_.1), (42, s_.2.1), (10, .pointer (some ⟨s_.2.2, 0, none⟩)), (43, .agg #[s_.1, s_.2.1])]) (fun s_ w' => (Kd.R (Kd.int .i64) 3 w' w.heap.size (fun k_ => some k_ ≠ (.slice Ao16 t281.length co16 : Value).ownBlock ∧ some k_ ≠ (v285 : Value).ownBlock ∧ some k_ ≠ (.slice Ao18 t287.length co18 : Value).ownBlock ∧ some k_ ≠ (s_.1 : Value).ownBlock ∧ some k_ ≠ (s_.2.1 : Value).ownBlock) v279 t278) ∧ (Kd.R (Kd.int .i64) 3 w' w.heap.size (fun k_ => some k_ ≠ (v279 : Value).ownBlock ∧ some k_ ≠ (v285 : Value).ownBlock ∧ some k_ ≠ (.slice Ao18 t287.length co18 : Value).ownBlock ∧ some k_ ≠ (s_.1 : Value).ownBlock ∧ some k_ ≠ (s_.2.1 : Value).ownBlock) (.slice Ao16 t281.length co16) t281) ∧ (Kd.R (Kd.int .i64) 3 w' w.heap.size (fun k_ => some k_ ≠ (v279 : Value).ownBlock ∧ some k_ ≠ (.slice Ao16 t281.length co16 : Value).ownBlock ∧ some k_ ≠ (.slice Ao18 t287.length co18 : Value).ownBlock ∧ some k_ ≠ (s_.1 : Value).ownBlock ∧ some k_ ≠ (s_.2.1 : Value).ownBlock) v285 t284) ∧ (Kd.R (Kd.int .i64) 3 w' w.heap.size (fun k_ => some k_ ≠ (v279 : Value).ownBlock ∧ some k_ ≠ (.slice Ao16 t281.length co16 : Value).ownBlock ∧ some k_ ≠ (v285 : Value).ownBlock ∧ some k_ ≠ (s_.1 : Value).ownBlock ∧ some k_ ≠ (s_.2.1 : Value).ownBlock) (.slice Ao18 t287.length co18) t287) ∧ (Kd.R (Kd.int .i64) 3 w' w.heap.size (fun k_ => some k_ ≠ (v279 : Value).ownBlock ∧ some k_ ≠ (.slice Ao16 t281.length co16 : Value).ownBlock ∧ some k_ ≠ (v285 : Value).ownBlock ∧ some k_ ≠ (.slice Ao18 t287.length co18 : Value).ownBlock ∧ some k_ ≠ (s_.2.1 : Value).ownBlock) s_.1 y290) ∧ (Kd.R (Kd.int .i64) 3 w' w.heap.size (fun k_ => some k_ ≠ (v279 : Value).ownBlock ∧ some k_ ≠ (.slice Ao16 t281.length co16 : Value).ownBlock ∧ some k_ ≠ (v285 : Value).ownBlock ∧ some k_ ≠ (.slice Ao18 t287.length co18 : Value).ownBlock ∧ some k_ ≠ (s_.1 : Value).ownBlock) s_.2.1 y293) ∧ (w'.heap[gb275]? = some (.cells #[.string a0_0, .slice A0_1 l0_1.length c0_1] 25 (0, 0))) ∧ (w'.heap[gb276]? = some (.cells #[.slice none 0 0, .slice none 0 0] 29 (0, 0))) ∧ (w'.heap[s_.2.2]? = some (.cells #[.slice none 0 0, .slice none 0 0] 29 (0, 0))) ∧ (w.heap.size ≤ s_.2.2) ∧ (w.heap.size ≤ s_.2.2) ∧ (gb275 ≠ s_.2.2) ∧ (s_.2.2 ≠ gb275) ∧ (gb276 ≠ s_.2.2) ∧ (s_.2.2 ≠ gb276) ∧ (Below w.heap.size w w')) ?_ ?_
    rotate_left
    ·
     intro hJ2_5_7
     refine join_ (σ := Value × Value) 2 #[true, true, true, true, true, true, true, false, false] (fun s_ => [(39, s_.1), (42, s_.2), (43, .agg #[s_.1, s_.2])]) (fun s_ w' => (Kd.R (Kd.int .i64) 3 w' w.heap.size (fun k_ => some k_ ≠ (.slice Ao16 t281.length co16 : Value).ownBlock ∧ some k_ ≠ (v285 : Value).ownBlock ∧ some k_ ≠ (.slice Ao18 t287.length co18 : Value).ownBlock ∧ some k_ ≠ (s_.1 : Value).ownBlock ∧ some k_ ≠ (s_.2 : Value).ownBlock) v279 t278) ∧ (Kd.R (Kd.int .i64) 3 w' w.heap.size (fun k_ => some k_ ≠ (v279 : Value).ownBlock ∧ some k_ ≠ (v285 : Value).ownBlock ∧ some k_ ≠ (.slice Ao18 t287.length co18 : Value).ownBlock ∧ some k_ ≠ (s_.1 : Value).ownBlock ∧ some k_ ≠ (s_.2 : Value).ownBlock) (.slice Ao16 t281.length co16) t281) ∧ (Kd.R (Kd.int .i64) 3 w' w.heap.size (fun k_ => some k_ ≠ (v279 : Value).ownBlock ∧ some k_ ≠ (.slice Ao16 t281.length co16 : Value).ownBlock ∧ some k_ ≠ (.slice Ao18 t287.length co18 : Value).ownBlock ∧ some k_ ≠ (s_.1 : Value).ownBlock ∧ some k_ ≠ (s_.2 : Value).ownBlock) v285 t284) ∧ (Kd.R (Kd.int .i64) 3 w' w.heap.size (fun k_ => some k_ ≠ (v279 : Value).ownBlock ∧ some k_ ≠ (.slice Ao16 t281.length co16 : Value).ownBlock ∧ some k_ ≠ (v285 : Value).ownBlock ∧ some k_ ≠ (s_.1 : Value).ownBlock ∧ some k_ ≠ (s_.2 : Value).ownBlock) (.slice Ao18 t287.length co18) t287) ∧ (Kd.R (Kd.int .i64) 3 w' w.heap.size (fun k_ => some k_ ≠ (v279 : Value).ownBlock ∧ some k_ ≠ (.slice Ao16 t281.length co16 : Value).ownBlock ∧ some k_ ≠ (v285 : Value).ownBlock ∧ some k_ ≠ (.slice Ao18 t287.length co18 : Value).ownBlock ∧ some k_ ≠ (s_.2 : Value).ownBlock) s_.1 y290) ∧ (Kd.R (Kd.int .i64) 3 w' w.heap.size (fun k_ => some k_ ≠ (v279 : Value).ownBlock ∧ some k_ ≠ (.slice Ao16 t281.length co16 : Value).ownBlock ∧ some k_ ≠ (v285 : Value).ownBlock ∧ some k_ ≠ (.slice Ao18 t287.length co18 : Value).ownBlock ∧ some k_ ≠ (s_.1 : Value).ownBlock) s_.2 y293) ∧ (w'.heap[gb275]? = some (.cells #[.string a0_0, .slice A0_1 l0_1.length c0_1] 25 (0, 0))) ∧ (w'.heap[gb276]? = some (.cells #[.slice none 0 0, .slice none 0 0] 29 (0, 0))) ∧ (Below w.heap.size w w')) ?_ ?_
     rotate_left
     ·
      intro hJ2_5
      refine join_ (σ := Value × Nat) 3 #[true, true, true, true, true, false, false, true, false] (fun s_ => [(39, s_.1), (10, .pointer (some ⟨s_.2, 0, none⟩))]) (fun s_ w' => (Kd.R (Kd.int .i64) 3 w' w.heap.size (fun k_ => some k_ ≠ (.slice Ao16 t281.length co16 : Value).ownBlock ∧ some k_ ≠ (v285 : Value).ownBlock ∧ some k_ ≠ (.slice Ao18 t287.length co18 : Value).ownBlock ∧ some k_ ≠ (s_.1 : Value).ownBlock) v279 t278) ∧ (Kd.R (Kd.int .i64) 3 w' w.heap.size (fun k_ => some k_ ≠ (v279 : Value).ownBlock ∧ some k_ ≠ (v285 : Value).ownBlock ∧ some k_ ≠ (.slice Ao18 t287.length co18 : Value).ownBlock ∧ some k_ ≠ (s_.1 : Value).ownBlock) (.slice Ao16 t281.length co16) t281) ∧ (Kd.R (Kd.int .i64) 3 w' w.heap.size (fun k_ => some k_ ≠ (v279 : Value).ownBlock ∧ some k_ ≠ (.slice Ao16 t281.length co16 : Value).ownBlock ∧ some k_ ≠ (.slice Ao18 t287.length co18 : Value).ownBlock ∧ some k_ ≠ (s_.1 : Value).ownBlock) v285 t284) ∧ (Kd.R (Kd.int .i64) 3 w' w.heap.size (fun k_ => some k_ ≠ (v279 : Value).ownBlock ∧ some k_ ≠ (.slice Ao16 t281.length co16 : Value).ownBlock ∧ some k_ ≠ (v285 : Value).ownBlock ∧ some k_ ≠ (s_.1 : Value).ownBlock) (.slice Ao18 t287.length co18) t287) ∧ (Kd.R (Kd.int .i64) 3 w' w.heap.size (fun k_ => some k_ ≠ (v279 : Value).ownBlock ∧ some k_ ≠ (.slice Ao16 t281.length co16 : Value).ownBlock ∧ some k_ ≠ (v285 : Value).ownBlock ∧ some k_ ≠ (.slice Ao18 t287.length co18 : Value).ownBlock) s_.1 y290) ∧ (w'.heap[gb275]? = some (.cells #[.string a0_0, .slice A0_1 l0_1.length c0_1] 25 (0, 0))) ∧ (w'.heap[gb276]? = some (.cells #[.slice none 0 0, .slice none 0 0] 29 (0, 0))) ∧ (w'.heap[s_.2]? = some (.cells #[.slice none 0 0, .slice none 0 0] 29 (0, 0))) ∧ (w.heap.size ≤ s_.2) ∧ (w.heap.size ≤ s_.2) ∧ (gb275 ≠ s_.2) ∧ (s_.2 ≠ gb275) ∧ (gb276 ≠ s_.2) ∧ (s_.2 ≠ gb276) ∧ (Below w.heap.size w w')) ?_ ?_
      rotate_left
      ·
       intro hJ2_7
       refine join_ (σ := Value × Nat) 3 #[true, true, false, true, true, true, false, true, false] (fun s_ => [(42, s_.1), (10, .pointer (some ⟨s_.2, 0, none⟩))]) (fun s_ w' => (Kd.R (Kd.int .i64) 3 w' w.heap.size (fun k_ => some k_ ≠ (.slice Ao16 t281.length co16 : Value).ownBlock ∧ some k_ ≠ (v285 : Value).ownBlock ∧ some k_ ≠ (.slice Ao18 t287.length co18 : Value).ownBlock ∧ some k_ ≠ (s_.1 : Value).ownBlock) v279 t278) ∧ (Kd.R (Kd.int .i64) 3 w' w.heap.size (fun k_ => some k_ ≠ (v279 : Value).ownBlock ∧ some k_ ≠ (v285 : Value).ownBlock ∧ some k_ ≠ (.slice Ao18 t287.length co18 : Value).ownBlock ∧ some k_ ≠ (s_.1 : Value).ownBlock) (.slice Ao16 t281.length co16) t281) ∧ (Kd.R (Kd.int .i64) 3 w' w.heap.size (fun k_ => some k_ ≠ (v279 : Value).ownBlock ∧ some k_ ≠ (.slice Ao16 t281.length co16 : Value).ownBlock ∧ some k_ ≠ (.slice Ao18 t287.length co18 : Value).ownBlock ∧ some k_ ≠ (s_.1 : Value).ownBlock) v285 t284) ∧ (Kd.R (Kd.int .i64) 3 w' w.heap.size (fun k_ => some k_ ≠ (v279 : Value).ownBlock ∧ some k_ ≠ (.slice Ao16 t281.length co16 : Value).ownBlock ∧ some k_ ≠ (v285 : Value).ownBlock ∧ some k_ ≠ (s_.1 : Value).ownBlock) (.slice Ao18 t287.length co18) t287) ∧ (Kd.R (Kd.int .i64) 3 w' w.heap.size (fun k_ => some k_ ≠ (v279 : Value).ownBlock ∧ some k_ ≠ (.slice Ao16 t281.length co16 : Value).ownBlock ∧ some k_ ≠ (v285 : Value).ownBlock ∧ some k_ ≠ (.slice Ao18 t287.length co18 : Value).ownBlock) s_.1 y293) ∧ (w'.heap[gb275]? = some (.cells #[.string a0_0, .slice A0_1 l0_1.length c0_1] 25 (0, 0))) ∧ (w'.heap[gb276]? = some (.cells #[.slice none 0 0, .slice none 0 0] 29 (0, 0))) ∧ (w'.heap[s_.2]? = some (.cells #[.slice none 0 0, .slice none 0 0] 29 (0, 0))) ∧ (w.heap.size ≤ s_.2) ∧ (w.heap.size ≤ s_.2) ∧ (gb275 ≠ s_.2) ∧ (s_.2 ≠ gb275) ∧ (gb276 ≠ s_.2) ∧ (s_.2 ≠ gb276) ∧ (Below w.heap.size w w')) ?_ ?_
       rotate_left
       ·
        intro hJ5_7
        refine join_ (σ := Value) 4 #[true, true, true, true, true, false, false, false, false] (fun s_ => [(39, s_)]) (fun s_ w' => (Kd.R (Kd.int .i64) 3 w' w.heap.size (fun k_ => some k_ ≠ (.slice Ao16 t281.length co16 : Value).ownBlock ∧ some k_ ≠ (v285 : Value).ownBlock ∧ some k_ ≠ (.slice Ao18 t287.length co18 : Value).ownBlock ∧ some k_ ≠ (s_ : Value).ownBlock) v279 t278) ∧ (Kd.R (Kd.int .i64) 3 w' w.heap.size (fun k_ => some k_ ≠ (v279 : Value).ownBlock ∧ some k_ ≠ (v285 : Value).ownBlock ∧ some k_ ≠ (.slice Ao18 t287.length co18 : Value).ownBlock ∧ some k_ ≠ (s_ : Value).ownBlock) (.slice Ao16 t281.length co16) t281) ∧ (Kd.R (Kd.int .i64) 3 w' w.heap.size (fun k_ => some k_ ≠ (v279 : Value).ownBlock ∧ some k_ ≠ (.slice Ao16 t281.length co16 : Value).ownBlock ∧ some k_ ≠ (.slice Ao18 t287.length co18 : Value).ownBlock ∧ some k_ ≠ (s_ : Value).ownBlock) v285 t284) ∧ (Kd.R (Kd.int .i64) 3 w' w.heap.size (fun k_ => some k_ ≠ (v279 : Value).ownBlock ∧ some k_ ≠ (.slice Ao16 t281.length co16 : Value).ownBlock ∧ some k_ ≠ (v285 : Value).ownBlock ∧ some k_ ≠ (s_ : Value).ownBlock) (.slice Ao18 t287.length co18) t287) ∧ (Kd.R (Kd.int .i64) 3 w' w.heap.size (fun k_ => some k_ ≠ (v279 : Value).ownBlock ∧ some k_ ≠ (.slice Ao16 t281.length co16 : Value).ownBlock ∧ some k_ ≠ (v285 : Value).ownBlock ∧ some k_ ≠ (.slice Ao18 t287.length co18 : Value).ownBlock) s_ y290) ∧ (w'.heap[gb275]? = some (.cells #[.string a0_0, .slice A0_1 l0_1.length c0_1] 25 (0, 0))) ∧ (w'.heap[gb276]? = some (.cells #[.slice none 0 0, .slice none 0 0] 29 (0, 0))) ∧ (Below w.heap.size w w')) ?_ ?_
        rotate_left
        ·
         intro hJ2
         refine join_ (σ := Value) 4 #[true, true, false, true, true, true, false, false, false] (fun s_ => [(42, s_)]) (fun s_ w' => (Kd.R (Kd.int .i64) 3 w' w.heap.size (fun k_ => some k_ ≠ (.slice Ao16 t281.length co16 : Value).ownBlock ∧ some k_ ≠ (v285 : Value).ownBlock ∧ some k_ ≠ (.slice Ao18 t287.length co18 : Value).ownBlock ∧ some k_ ≠ (s_ : Value).ownBlock) v279 t278) ∧ (Kd.R (Kd.int .i64) 3 w' w.heap.size (fun k_ => some k_ ≠ (v279 : Value).ownBlock ∧ some k_ ≠ (v285 : Value).ownBlock ∧ some k_ ≠ (.slice Ao18 t287.length co18 : Value).ownBlock ∧ some k_ ≠ (s_ : Value).ownBlock) (.slice Ao16 t281.length co16) t281) ∧ (Kd.R (Kd.int .i64) 3 w' w.heap.size (fun k_ => some k_ ≠ (v279 : Value).ownBlock ∧ some k_ ≠ (.slice Ao16 t281.length co16 : Value).ownBlock ∧ some k_ ≠ (.slice Ao18 t287.length co18 : Value).ownBlock ∧ some k_ ≠ (s_ : Value).ownBlock) v285 t284) ∧ (Kd.R (Kd.int .i64) 3 w' w.heap.size (fun k_ => some k_ ≠ (v279 : Value).ownBlock ∧ some k_ ≠ (.slice Ao16 t281.length co16 : Value).ownBlock ∧ some k_ ≠ (v285 : Value).ownBlock ∧ some k_ ≠ (s_ : Value).ownBlock) (.slice Ao18 t287.length co18) t287) ∧ (Kd.R (Kd.int .i64) 3 w' w.heap.size (fun k_ => some k_ ≠ (v279 : Value).ownBlock ∧ some k_ ≠ (.slice Ao16 t281.length co16 : Value).ownBlock ∧ some k_ ≠ (v285 : Value).ownBlock ∧ some k_ ≠ (.slice Ao18 t287.length co18 : Value).ownBlock) s_ y293) ∧ (w'.heap[gb275]? = some (.cells #[.string a0_0, .slice A0_1 l0_1.length c0_1] 25 (0, 0))) ∧ (w'.heap[gb276]? = some (.cells #[.slice none 0 0, .slice none 0 0] 29 (0, 0))) ∧ (Below w.heap.size w w')) ?_ ?_
         rotate_left
         ·
          intro hJ5
          refine join_ (σ := Nat) 4 #[true, true, false, true, true, false, false, true, false] (fun s_ => [(10, .pointer (some ⟨s_, 0, none⟩))]) (fun s_ w' => (Kd.R (Kd.int .i64) 3 w' w.heap.size (fun k_ => some k_ ≠ (.slice Ao16 t281.length co16 : Value).ownBlock ∧ some k_ ≠ (v285 : Value).ownBlock ∧ some k_ ≠ (.slice Ao18 t287.length co18 : Value).ownBlock) v279 t278) ∧ (Kd.R (Kd.int .i64) 3 w' w.heap.size (fun k_ => some k_ ≠ (v279 : Value).ownBlock ∧ some k_ ≠ (v285 : Value).ownBlock ∧ some k_ ≠ (.slice Ao18 t287.length co18 : Value).ownBlock) (.slice Ao16 t281.length co16) t281) ∧ (Kd.R (Kd.int .i64) 3 w' w.heap.size (fun k_ => some k_ ≠ (v279 : Value).ownBlock ∧ some k_ ≠ (.slice Ao16 t281.length co16 : Value).ownBlock ∧ some k_ ≠ (.slice Ao18 t287.length co18 : Value).ownBlock) v285 t284) ∧ (Kd.R (Kd.int .i64) 3 w' w.heap.size (fun k_ => some k_ ≠ (v279 : Value).ownBlock ∧ some k_ ≠ (.slice Ao16 t281.length co16 : Value).ownBlock ∧ some k_ ≠ (v285 : Value).ownBlock) (.slice Ao18 t287.length co18) t287) ∧ (w'.heap[gb275]? = some (.cells #[.string a0_0, .slice A0_1 l0_1.length c0_1] 25 (0, 0))) ∧ (w'.heap[gb276]? = some (.cells #[.slice none 0 0, .slice none 0 0] 29 (0, 0))) ∧ (w'.heap[s_]? = some (.cells #[.slice none 0 0, .slice none 0 0] 29 (0, 0))) ∧ (w.heap.size ≤ s_) ∧ (w.heap.size ≤ s_) ∧ (gb275 ≠ s_) ∧ (s_ ≠ gb275) ∧ (gb276 ≠ s_) ∧ (s_ ≠ gb276) ∧ (Below w.heap.size w w')) ?_ ?_
          rotate_left
          ·
           intro hJ7
           refine three_ (i := 2) (j := 5) (k := 7) (Ni := some 39) (Nj := some 42) (Nk := some 10) #[true, true, true, true, true, false, false, false, false] #[true, true, false, true, true, true, false, false, false] #[true, true, false, true, true, false, false, true, false] rfl rfl rfl rfl rfl rfl (three_of HT_.out (by kernel_rfl)) (by decide) (by decide) (by decide) (fun K hK => ?_) (fun K hK => ?_) (fun K hK => ?_)
           ·
            skip
            refine Kd.R_make_step (Kd.int .i64) _ 3 (by rfl) (N := 39) rfl 23 _ _ rfl ji6 rfl rfl Try.underlying23 (.int .i64 0) 8 info3 rfl (by decide) (by omega) 0 (ok := fun _ => True) (okp := fun _ => True) rfl (fun _ hk => hk) trivial (oA) (Nat.le_trans (Nat.mul_le_mul_right _ (oA : ji6.toNat ≤ 35184372088832)) (by omega)) (Below.refl _ _) (Nat.le_refl _) ?_
            intro v291 w20 ho21 hb hg_ hnew_
            clear hg_ hnew_; (first | rw [← Ny290.out] at ho21 | (simp only [Int.reduceToNat] at ho21; rw [← Ny290.out] at ho21)); have n0 := Az (Kd.R_elder' (rU HO280.out) (Kd.R_base ho21) hb); have n1 := Az (Kd.R_elder' (rU HO283.out) (Kd.R_base ho21) hb); have n2 := Az (Kd.R_elder' (rU HO286.out) (Kd.R_base ho21) hb); have n3 := Az (Kd.R_elder' (rU HO289.out) (Kd.R_base ho21) hb); have n4 := Az (Kd.R_lower (Kd.R_new' (Kd.R_new' (Kd.R_new' (Kd.R_new' ho21 (Kd.R_lt (rU HO280.out))) (Kd.R_lt (rU HO283.out))) (Kd.R_lt (rU HO286.out))) (Kd.R_lt (rU HO289.out))) (below_size (bU2 HB.out GE275.out GE276.out))); have n5 := Az (blk_below (g := gb275) (o := .cells #[.string a0_0, .slice A0_1 l0_1.length c0_1] 25 (0, 0)) (kU BK275.out) hb); have n6 := Az (blk_below (g := gb276) (o := .cells #[.slice none 0 0, .slice none 0 0] 29 (0, 0)) (kU BK276.out) hb); have n7 := Az (below_step (bU2 HB.out GE275.out GE276.out) hb); clear HO280 HO283 HO286 HO289 BK275 BK276 HB; have HO280 := n0; have HO283 := n1; have HO286 := n2; have HO289 := n3; have HO292 := n4; have BK275 := n5; have BK276 := n6; have HB := n7; clear n0 n1 n2 n3 n4 n5 n6 n7 hb ho21
            refine hK.out _ _ trivial (fun hHeld => ?_)
            clear hK K
            refine norm_ (a' := ?_) ?_ ?_
            rotate_left
            ·
             show Act.put _ (some 39) _ = _
             simp only [Act.put, List.setIfInBounds_toArray, List.set_cons_zero, List.set_cons_succ, i64_w, i32_w]
             rfl
            exact norm_ (by first | (simp only [putAll, Act.put, List.setIfInBounds_toArray, List.set_cons_zero, List.set_cons_succ]; done) | (simp only [putAll, Act.put, List.setIfInBounds_toArray, List.set_cons_zero, List.set_cons_succ]; rfl)) (hJ2 (v291) _ ⟨(by (with_reducible repeat (first | apply Kd.R_alloc | apply Kd.R_drewN | apply Kd.R_drew)); exact Kd.R_mono HO280.out (fun _ hk => ⟨hk.1.1.1, ⟨hk.1.1.2, ⟨hk.1.2, hk.2⟩⟩⟩)), (by (with_reducible repeat (first | apply Kd.R_alloc | apply Kd.R_drewN | apply Kd.R_drew)); exact Kd.R_mono HO283.out (fun _ hk => ⟨hk.1.1.1, ⟨hk.1.1.2, ⟨hk.1.2, hk.2⟩⟩⟩)), (by (with_reducible repeat (first | apply Kd.R_alloc | apply Kd.R_drewN | apply Kd.R_drew)); exact Kd.R_mono HO286.out (fun _ hk => ⟨hk.1.1.1, ⟨hk.1.1.2, ⟨hk.1.2, hk.2⟩⟩⟩)), (by (with_reducible repeat (first | apply Kd.R_alloc | apply Kd.R_drewN | apply Kd.R_drew)); exact Kd.R_mono HO289.out (fun _ hk => ⟨hk.1.1.1.2, ⟨hk.1.1.2, ⟨hk.1.2, hk.2⟩⟩⟩)), (by (with_reducible repeat (first | apply Kd.R_alloc | apply Kd.R_drewN | apply Kd.R_drew)); exact Kd.R_mono HO292.out (fun _ hk => ⟨hk.1.1.1.2, ⟨hk.1.1.2, ⟨hk.1.2, hk.2⟩⟩⟩)), (kU BK275.out), (kU BK276.out), (bU2 HB.out GE275.out GE276.out)⟩)
           ·
            skip
            refine Kd.R_make_step (Kd.int .i64) _ 3 (by rfl) (N := 42) rfl 23 _ _ rfl ji6 rfl rfl Try.underlying23 (.int .i64 0) 8 info3 rfl (by decide) (by omega) 0 (ok := fun _ => True) (okp := fun _ => True) rfl (fun _ hk => hk) trivial (oA) (Nat.le_trans (Nat.mul_le_mul_right _ (oA : ji6.toNat ≤ 35184372088832)) (by omega)) (Below.refl _ _) (Nat.le_refl _) ?_
            intro v294 w20 ho21 hb hg_ hnew_
            clear hg_ hnew_; (first | rw [← Ny293.out] at ho21 | (simp only [Int.reduceToNat] at ho21; rw [← Ny293.out] at ho21)); have n0 := Az (Kd.R_elder' (rU HO280.out) (Kd.R_base ho21) hb); have n1 := Az (Kd.R_elder' (rU HO283.out) (Kd.R_base ho21) hb); have n2 := Az (Kd.R_elder' (rU HO286.out) (Kd.R_base ho21) hb); have n3 := Az (Kd.R_elder' (rU HO289.out) (Kd.R_base ho21) hb); have n4 := Az (Kd.R_lower (Kd.R_new' (Kd.R_new' (Kd.R_new' (Kd.R_new' ho21 (Kd.R_lt (rU HO280.out))) (Kd.R_lt (rU HO283.out))) (Kd.R_lt (rU HO286.out))) (Kd.R_lt (rU HO289.out))) (below_size (bU2 HB.out GE275.out GE276.out))); have n5 := Az (blk_below (g := gb275) (o := .cells #[.string a0_0, .slice A0_1 l0_1.length c0_1] 25 (0, 0)) (kU BK275.out) hb); have n6 := Az (blk_below (g := gb276) (o := .cells #[.slice none 0 0, .slice none 0 0] 29 (0, 0)) (kU BK276.out) hb); have n7 := Az (below_step (bU2 HB.out GE275.out GE276.out) hb); clear HO280 HO283 HO286 HO289 BK275 BK276 HB; have HO280 := n0; have HO283 := n1; have HO286 := n2; have HO289 := n3; have HO295 := n4; have BK275 := n5; have BK276 := n6; have HB := n7; clear n0 n1 n2 n3 n4 n5 n6 n7 hb ho21
            refine hK.out _ _ trivial (fun hHeld => ?_)
            clear hK K
            refine norm_ (a' := ?_) ?_ ?_
            rotate_left
            ·
             show Act.put _ (some 42) _ = _
             simp only [Act.put, List.setIfInBounds_toArray, List.set_cons_zero, List.set_cons_succ, i64_w, i32_w]
             rfl
            exact norm_ (by first | (simp only [putAll, Act.put, List.setIfInBounds_toArray, List.set_cons_zero, List.set_cons_succ]; done) | (simp only [putAll, Act.put, List.setIfInBounds_toArray, List.set_cons_zero, List.set_cons_succ]; rfl)) (hJ5 (v294) _ ⟨(by (with_reducible repeat (first | apply Kd.R_alloc | apply Kd.R_drewN | apply Kd.R_drew)); exact Kd.R_mono HO280.out (fun _ hk => ⟨hk.1.1.1, ⟨hk.1.1.2, ⟨hk.1.2, hk.2⟩⟩⟩)), (by (with_reducible repeat (first | apply Kd.R_alloc | apply Kd.R_drewN | apply Kd.R_drew)); exact Kd.R_mono HO283.out (fun _ hk => ⟨hk.1.1.1, ⟨hk.1.1.2, ⟨hk.1.2, hk.2⟩⟩⟩)), (by (with_reducible repeat (first | apply Kd.R_alloc | apply Kd.R_drewN | apply Kd.R_drew)); exact Kd.R_mono HO286.out (fun _ hk => ⟨hk.1.1.1, ⟨hk.1.1.2, ⟨hk.1.2, hk.2⟩⟩⟩)), (by (with_reducible repeat (first | apply Kd.R_alloc | apply Kd.R_drewN | apply Kd.R_drew)); exact Kd.R_mono HO289.out (fun _ hk => ⟨hk.1.1.1.2, ⟨hk.1.1.2, ⟨hk.1.2, hk.2⟩⟩⟩)), (by (with_reducible repeat (first | apply Kd.R_alloc | apply Kd.R_drewN | apply Kd.R_drew)); exact Kd.R_mono HO295.out (fun _ hk => ⟨hk.1.1.1.2, ⟨hk.1.1.2, ⟨hk.1.2, hk.2⟩⟩⟩)), (kU BK275.out), (kU BK276.out), (bU2 HB.out GE275.out GE276.out)⟩)
           ·
            skip
            refine box_step ?hg (N := 10) ?hd (cs := #[.slice none 0 0, .slice none 0 0]) (t := 29) ?hr ?_; (case hd => rfl); (case hg => rfl); (case hr => first | (go_simp; done) | (go_simp; rfl))
            intro gb296 hg w20 hbox hb
            have n0 := Az (Kd.R_below (rU HO280.out) hb); have n1 := Az (Kd.R_below (rU HO283.out) hb); have n2 := Az (Kd.R_below (rU HO286.out) hb); have n3 := Az (Kd.R_below (rU HO289.out) hb); have n4 := Az (blk_below (g := gb275) (o := .cells #[.string a0_0, .slice A0_1 l0_1.length c0_1] 25 (0, 0)) (kU BK275.out) hb); have n5 := Az (blk_below (g := gb276) (o := .cells #[.slice none 0 0, .slice none 0 0] 29 (0, 0)) (kU BK276.out) hb); have n6 := Az (below_step (bU2 HB.out GE275.out GE276.out) hb); have n7 := Az (hbox); have n8 := Az ((by rw [hg]; exact (below_size (bU2 HB.out GE275.out GE276.out)) : w.heap.size ≤ gb296)); have n9 := Az ((by rw [hg]; exact (below_size (bU2 HB.out GE275.out GE276.out)) : w.heap.size ≤ gb296)); have n10 := Az ((by rw [hg]; exact Nat.ne_of_lt (blk_lt (g := gb275) (o := .cells #[.string a0_0, .slice A0_1 l0_1.length c0_1] 25 (0, 0)) (kU BK275.out)) : gb275 ≠ gb296)); have n11 := Az ((by rw [hg]; exact Nat.ne_of_gt (blk_lt (g := gb275) (o := .cells #[.string a0_0, .slice A0_1 l0_1.length c0_1] 25 (0, 0)) (kU BK275.out)) : gb296 ≠ gb275)); have n12 := Az ((by rw [hg]; exact Nat.ne_of_lt (blk_lt (g := gb276) (o := .cells #[.slice none 0 0, .slice none 0 0] 29 (0, 0)) (kU BK276.out)) : gb276 ≠ gb296)); have n13 := Az ((by rw [hg]; exact Nat.ne_of_gt (blk_lt (g := gb276) (o := .cells #[.slice none 0 0, .slice none 0 0] 29 (0, 0)) (kU BK276.out)) : gb296 ≠ gb276)); clear HO280 HO283 HO286 HO289 BK275 BK276 HB; have HO280 := n0; have HO283 := n1; have HO286 := n2; have HO289 := n3; have BK275 := n4; have BK276 := n5; have HB := n6; have BK296 := n7; have GW296 := n8; have GE296 := n9; have NB275_296 := n10; have NB296_275 := n11; have NB276_296 := n12; have NB296_276 := n13; clear n0 n1 n2 n3 n4 n5 n6 n7 n8 n9 n10 n11 n12 n13 hb hbox hg
            refine hK.out _ _ trivial (fun hHeld => ?_)
            clear hK K
            refine norm_ (a' := ?_) ?_ ?_
            rotate_left
            ·
             show Act.put _ (some 10) _ = _
             simp only [Act.put, List.setIfInBounds_toArray, List.set_cons_zero, List.set_cons_succ, i64_w, i32_w]
             rfl
            exact norm_ (by first | (simp only [putAll, Act.put, List.setIfInBounds_toArray, List.set_cons_zero, List.set_cons_succ]; done) | (simp only [putAll, Act.put, List.setIfInBounds_toArray, List.set_cons_zero, List.set_cons_succ]; rfl)) (hJ7 (gb296) _ ⟨(by (with_reducible repeat (first | apply Kd.R_alloc | apply Kd.R_drewN | apply Kd.R_drew)); exact Kd.R_mono HO280.out (fun _ hk => ⟨hk.1.1, ⟨hk.1.2, hk.2⟩⟩)), (by (with_reducible repeat (first | apply Kd.R_alloc | apply Kd.R_drewN | apply Kd.R_drew)); exact Kd.R_mono HO283.out (fun _ hk => ⟨hk.1.1, ⟨hk.1.2, hk.2⟩⟩)), (by (with_reducible repeat (first | apply Kd.R_alloc | apply Kd.R_drewN | apply Kd.R_drew)); exact Kd.R_mono HO286.out (fun _ hk => ⟨hk.1.1, ⟨hk.1.2, hk.2⟩⟩)), (by (with_reducible repeat (first | apply Kd.R_alloc | apply Kd.R_drewN | apply Kd.R_drew)); exact Kd.R_mono HO289.out (fun _ hk => ⟨hk.1.1.2, ⟨hk.1.2, hk.2⟩⟩)), (kU BK275.out), (kU BK276.out), (kU BK296.out), GW296.out, GE296.out, NB275_296.out, NB296_275.out, NB276_296.out, NB296_276.out, (bU3 HB.out GE275.out GE276.out GE296.out)⟩)
          ·
           skip
           rintro gb296 w21 ⟨h0_, h1_, h2_, h3_, h4_, h5_, h6_, h7_, h8_, h9_, h10_, h11_, h12_, h13_⟩
           have n0 : Aside0 (Kd.R (Kd.int .i64) 3 w21 w.heap.size (fun k_ => some k_ ≠ (.slice Ao16 t281.length co16 : Value).ownBlock ∧ some k_ ≠ (v285 : Value).ownBlock ∧ some k_ ≠ (.slice Ao18 t287.length co18 : Value).ownBlock) v279 t278) := ⟨h0_⟩; have n1 : Aside0 (Kd.R (Kd.int .i64) 3 w21 w.heap.size (fun k_ => some k_ ≠ (v279 : Value).ownBlock ∧ some k_ ≠ (v285 : Value).ownBlock ∧ some k_ ≠ (.slice Ao18 t287.length co18 : Value).ownBlock) (.slice Ao16 t281.length co16) t281) := ⟨h1_⟩; have n2 : Aside0 (Kd.R (Kd.int .i64) 3 w21 w.heap.size (fun k_ => some k_ ≠ (v279 : Value).ownBlock ∧ some k_ ≠ (.slice Ao16 t281.length co16 : Value).ownBlock ∧ some k_ ≠ (.slice Ao18 t287.length co18 : Value).ownBlock) v285 t284) := ⟨h2_⟩; have n3 : Aside0 (Kd.R (Kd.int .i64) 3 w21 w.heap.size (fun k_ => some k_ ≠ (v279 : Value).ownBlock ∧ some k_ ≠ (.slice Ao16 t281.length co16 : Value).ownBlock ∧ some k_ ≠ (v285 : Value).ownBlock) (.slice Ao18 t287.length co18) t287) := ⟨h3_⟩; have n4 : Aside0 (w21.heap[gb275]? = some (.cells #[.string a0_0, .slice A0_1 l0_1.length c0_1] 25 (0, 0))) := ⟨h4_⟩; have n5 : Aside0 (w21.heap[gb276]? = some (.cells #[.slice none 0 0, .slice none 0 0] 29 (0, 0))) := ⟨h5_⟩; have n6 : Aside0 (w21.heap[gb296]? = some (.cells #[.slice none 0 0, .slice none 0 0] 29 (0, 0))) := ⟨h6_⟩; have n7 : Aside0 (w.heap.size ≤ gb296) := ⟨h7_⟩; have n8 : Aside0 (w.heap.size ≤ gb296) := ⟨h8_⟩; have n9 : Aside0 (gb275 ≠ gb296) := ⟨h9_⟩; have n10 : Aside0 (gb296 ≠ gb275) := ⟨h10_⟩; have n11 : Aside0 (gb276 ≠ gb296) := ⟨h11_⟩; have n12 : Aside0 (gb296 ≠ gb276) := ⟨h12_⟩; have n13 : Aside0 (Below w.heap.size w w21) := ⟨h13_⟩; clear HO280 HO283 HO286 HO289 BK275 BK276 HB h0_ h1_ h2_ h3_ h4_ h5_ h6_ h7_ h8_ h9_ h10_ h11_ h12_ h13_; have HO280 := n0; have HO283 := n1; have HO286 := n2; have HO289 := n3; have BK275 := n4; have BK276 := n5; have BK296 := n6; have GW296 := n7; have GE296 := n8; have NB275_296 := n9; have NB296_275 := n10; have NB276_296 := n11; have NB296_276 := n12; have HB := n13; clear n0 n1 n2 n3 n4 n5 n6 n7 n8 n9 n10 n11 n12 n13; have hHeld := trivial
           refine norm_ (a' := ?_) ?_ ?_
           rotate_left
           ·
            simp only [putAll, Act.put, List.setIfInBounds_toArray, List.set_cons_zero, List.set_cons_succ]
            rfl
           refine two_ (i := 2) (j := 5) (Ni := some 39) (Nj := some 42) #[true, true, true, true, true, false, false, true, false] #[true, true, false, true, true, true, false, true, false] rfl rfl rfl rfl (two_of HT_.out (by kernel_rfl)) (by decide) (by decide) (fun K hK => ?_) (fun K hK => ?_)
           ·
            skip
            refine Kd.R_make_step (Kd.int .i64) _ 3 (by rfl) (N := 39) rfl 23 _ _ rfl ji6 rfl rfl Try.underlying23 (.int .i64 0) 8 info3 rfl (by decide) (by omega) 0 (ok := fun _ => True) (okp := fun _ => True) rfl (fun _ hk => hk) trivial (oA) (Nat.le_trans (Nat.mul_le_mul_right _ (oA : ji6.toNat ≤ 35184372088832)) (by omega)) (Below.refl _ _) (Nat.le_refl _) ?_
            intro v291 w22 ho23 hb hg_ hnew_
            clear hg_ hnew_; (first | rw [← Ny290.out] at ho23 | (simp only [Int.reduceToNat] at ho23; rw [← Ny290.out] at ho23)); have n0 := Az (Kd.R_elder' (rU HO280.out) (Kd.R_base ho23) hb); have n1 := Az (Kd.R_elder' (rU HO283.out) (Kd.R_base ho23) hb); have n2 := Az (Kd.R_elder' (rU HO286.out) (Kd.R_base ho23) hb); have n3 := Az (Kd.R_elder' (rU HO289.out) (Kd.R_base ho23) hb); have n4 := Az (Kd.R_lower (Kd.R_new' (Kd.R_new' (Kd.R_new' (Kd.R_new' ho23 (Kd.R_lt (rU HO280.out))) (Kd.R_lt (rU HO283.out))) (Kd.R_lt (rU HO286.out))) (Kd.R_lt (rU HO289.out))) (below_size (bU3 HB.out GE275.out GE276.out GE296.out))); have n5 := Az (blk_below (g := gb275) (o := .cells #[.string a0_0, .slice A0_1 l0_1.length c0_1] 25 (0, 0)) (kU BK275.out) hb); have n6 := Az (blk_below (g := gb276) (o := .cells #[.slice none 0 0, .slice none 0 0] 29 (0, 0)) (kU BK276.out) hb); have n7 := Az (blk_below (g := gb296) (o := .cells #[.slice none 0 0, .slice none 0 0] 29 (0, 0)) (kU BK296.out) hb); have n8 := Az (below_step (bU3 HB.out GE275.out GE276.out GE296.out) hb); clear HO280 HO283 HO286 HO289 BK275 BK276 BK296 HB; have HO280 := n0; have HO283 := n1; have HO286 := n2; have HO289 := n3; have HO292 := n4; have BK275 := n5; have BK276 := n6; have BK296 := n7; have HB := n8; clear n0 n1 n2 n3 n4 n5 n6 n7 n8 hb ho23
            refine hK.out _ _ trivial (fun hHeld => ?_)
            clear hK K
            refine norm_ (a' := ?_) ?_ ?_
            rotate_left
            ·
             show Act.put _ (some 39) _ = _
             simp only [Act.put, List.setIfInBounds_toArray, List.set_cons_zero, List.set_cons_succ, i64_w, i32_w]
             rfl
            exact norm_ (by first | (simp only [putAll, Act.put, List.setIfInBounds_toArray, List.set_cons_zero, List.set_cons_succ]; done) | (simp only [putAll, Act.put, List.setIfInBounds_toArray, List.set_cons_zero, List.set_cons_succ]; rfl)) (hJ2_7 (v291, gb296) _ ⟨(by (with_reducible repeat (first | apply Kd.R_alloc | apply Kd.R_drewN | apply Kd.R_drew)); exact Kd.R_mono HO280.out (fun _ hk => ⟨hk.1.1, ⟨hk.1.2.1, ⟨hk.1.2.2, hk.2⟩⟩⟩)), (by (with_reducible repeat (first | apply Kd.R_alloc | apply Kd.R_drewN | apply Kd.R_drew)); exact Kd.R_mono HO283.out (fun _ hk => ⟨hk.1.1, ⟨hk.1.2.1, ⟨hk.1.2.2, hk.2⟩⟩⟩)), (by (with_reducible repeat (first | apply Kd.R_alloc | apply Kd.R_drewN | apply Kd.R_drew)); exact Kd.R_mono HO286.out (fun _ hk => ⟨hk.1.1, ⟨hk.1.2.1, ⟨hk.1.2.2, hk.2⟩⟩⟩)), (by (with_reducible repeat (first | apply Kd.R_alloc | apply Kd.R_drewN | apply Kd.R_drew)); exact Kd.R_mono HO289.out (fun _ hk => ⟨hk.1.1, ⟨hk.1.2.1, ⟨hk.1.2.2, hk.2⟩⟩⟩)), (by (with_reducible repeat (first | apply Kd.R_alloc | apply Kd.R_drewN | apply Kd.R_drew)); exact Kd.R_mono HO292.out (fun _ hk => ⟨hk.1.1.1.2, ⟨hk.1.1.2, ⟨hk.1.2, hk.2⟩⟩⟩)), (kU BK275.out), (kU BK276.out), (kU BK296.out), GW296.out, GE296.out, NB275_296.out, NB296_275.out, NB276_296.out, NB296_276.out, (bU3 HB.out GE275.out GE276.out GE296.out)⟩)
           ·
            skip
            refine Kd.R_make_step (Kd.int .i64) _ 3 (by rfl) (N := 42) rfl 23 _ _ rfl ji6 rfl rfl Try.underlying23 (.int .i64 0) 8 info3 rfl (by decide) (by omega) 0 (ok := fun _ => True) (okp := fun _ => True) rfl (fun _ hk => hk) trivial (oA) (Nat.le_trans (Nat.mul_le_mul_right _ (oA : ji6.toNat ≤ 35184372088832)) (by omega)) (Below.refl _ _) (Nat.le_refl _) ?_
            intro v294 w22 ho23 hb hg_ hnew_
            clear hg_ hnew_; (first | rw [← Ny293.out] at ho23 | (simp only [Int.reduceToNat] at ho23; rw [← Ny293.out] at ho23)); have n0 := Az (Kd.R_elder' (rU HO280.out) (Kd.R_base ho23) hb); have n1 := Az (Kd.R_elder' (rU HO283.out) (Kd.R_base ho23) hb); have n2 := Az (Kd.R_elder' (rU HO286.out) (Kd.R_base ho23) hb); have n3 := Az (Kd.R_elder' (rU HO289.out) (Kd.R_base ho23) hb); have n4 := Az (Kd.R_lower (Kd.R_new' (Kd.R_new' (Kd.R_new' (Kd.R_new' ho23 (Kd.R_lt (rU HO280.out))) (Kd.R_lt (rU HO283.out))) (Kd.R_lt (rU HO286.out))) (Kd.R_lt (rU HO289.out))) (below_size (bU3 HB.out GE275.out GE276.out GE296.out))); have n5 := Az (blk_below (g := gb275) (o := .cells #[.string a0_0, .slice A0_1 l0_1.length c0_1] 25 (0, 0)) (kU BK275.out) hb); have n6 := Az (blk_below (g := gb276) (o := .cells #[.slice none 0 0, .slice none 0 0] 29 (0, 0)) (kU BK276.out) hb); have n7 := Az (blk_below (g := gb296) (o := .cells #[.slice none 0 0, .slice none 0 0] 29 (0, 0)) (kU BK296.out) hb); have n8 := Az (below_step (bU3 HB.out GE275.out GE276.out GE296.out) hb); clear HO280 HO283 HO286 HO289 BK275 BK276 BK296 HB; have HO280 := n0; have HO283 := n1; have HO286 := n2; have HO289 := n3; have HO295 := n4; have BK275 := n5; have BK276 := n6; have BK296 := n7; have HB := n8; clear n0 n1 n2 n3 n4 n5 n6 n7 n8 hb ho23
            refine hK.out _ _ trivial (fun hHeld => ?_)
            clear hK K
            refine norm_ (a' := ?_) ?_ ?_
            rotate_left
            ·
             show Act.put _ (some 42) _ = _
             simp only [Act.put, List.setIfInBounds_toArray, List.set_cons_zero, List.set_cons_succ, i64_w, i32_w]
             rfl
            exact norm_ (by first | (simp only [putAll, Act.put, List.setIfInBounds_toArray, List.set_cons_zero, List.set_cons_succ]; done) | (simp only [putAll, Act.put, List.setIfInBounds_toArray, List.set_cons_zero, List.set_cons_succ]; rfl)) (hJ5_7 (v294, gb296) _ ⟨(by (with_reducible repeat (first | apply Kd.R_alloc | apply Kd.R_drewN | apply Kd.R_drew)); exact Kd.R_mono HO280.out (fun _ hk => ⟨hk.1.1, ⟨hk.1.2.1, ⟨hk.1.2.2, hk.2⟩⟩⟩)), (by (with_reducible repeat (first | apply Kd.R_alloc | apply Kd.R_drewN | apply Kd.R_drew)); exact Kd.R_mono HO283.out (fun _ hk => ⟨hk.1.1, ⟨hk.1.2.1, ⟨hk.1.2.2, hk.2⟩⟩⟩)), (by (with_reducible repeat (first | apply Kd.R_alloc | apply Kd.R_drewN | apply Kd.R_drew)); exact Kd.R_mono HO286.out (fun _ hk => ⟨hk.1.1, ⟨hk.1.2.1, ⟨hk.1.2.2, hk.2⟩⟩⟩)), (by (with_reducible repeat (first | apply Kd.R_alloc | apply Kd.R_drewN | apply Kd.R_drew)); exact Kd.R_mono HO289.out (fun _ hk => ⟨hk.1.1, ⟨hk.1.2.1, ⟨hk.1.2.2, hk.2⟩⟩⟩)), (by (with_reducible repeat (first | apply Kd.R_alloc | apply Kd.R_drewN | apply Kd.R_drew)); exact Kd.R_mono HO295.out (fun _ hk => ⟨hk.1.1.1.2, ⟨hk.1.1.2, ⟨hk.1.2, hk.2⟩⟩⟩)), (kU BK275.out), (kU BK276.out), (kU BK296.out), GW296.out, GE296.out, NB275_296.out, NB296_275.out, NB276_296.out, NB296_276.out, (bU3 HB.out GE275.out GE276.out GE296.out)⟩)
         ·
          skip
          rintro v294 w22 ⟨h0_, h1_, h2_, h3_, h4_, h5_, h6_, h7_⟩
          have n0 : Aside0 (Kd.R (Kd.int .i64) 3 w22 w.heap.size (fun k_ => some k_ ≠ (.slice Ao16 t281.length co16 : Value).ownBlock ∧ some k_ ≠ (v285 : Value).ownBlock ∧ some k_ ≠ (.slice Ao18 t287.length co18 : Value).ownBlock ∧ some k_ ≠ (v294 : Value).ownBlock) v279 t278) := ⟨h0_⟩; have n1 : Aside0 (Kd.R (Kd.int .i64) 3 w22 w.heap.size (fun k_ => some k_ ≠ (v279 : Value).ownBlock ∧ some k_ ≠ (v285 : Value).ownBlock ∧ some k_ ≠ (.slice Ao18 t287.length co18 : Value).ownBlock ∧ some k_ ≠ (v294 : Value).ownBlock) (.slice Ao16 t281.length co16) t281) := ⟨h1_⟩; have n2 : Aside0 (Kd.R (Kd.int .i64) 3 w22 w.heap.size (fun k_ => some k_ ≠ (v279 : Value).ownBlock ∧ some k_ ≠ (.slice Ao16 t281.length co16 : Value).ownBlock ∧ some k_ ≠ (.slice Ao18 t287.length co18 : Value).ownBlock ∧ some k_ ≠ (v294 : Value).ownBlock) v285 t284) := ⟨h2_⟩; have n3 : Aside0 (Kd.R (Kd.int .i64) 3 w22 w.heap.size (fun k_ => some k_ ≠ (v279 : Value).ownBlock ∧ some k_ ≠ (.slice Ao16 t281.length co16 : Value).ownBlock ∧ some k_ ≠ (v285 : Value).ownBlock ∧ some k_ ≠ (v294 : Value).ownBlock) (.slice Ao18 t287.length co18) t287) := ⟨h3_⟩; have n4 : Aside0 (Kd.R (Kd.int .i64) 3 w22 w.heap.size (fun k_ => some k_ ≠ (v279 : Value).ownBlock ∧ some k_ ≠ (.slice Ao16 t281.length co16 : Value).ownBlock ∧ some k_ ≠ (v285 : Value).ownBlock ∧ some k_ ≠ (.slice Ao18 t287.length co18 : Value).ownBlock) v294 y293) := ⟨h4_⟩; have n5 : Aside0 (w22.heap[gb275]? = some (.cells #[.string a0_0, .slice A0_1 l0_1.length c0_1] 25 (0, 0))) := ⟨h5_⟩; have n6 : Aside0 (w22.heap[gb276]? = some (.cells #[.slice none 0 0, .slice none 0 0] 29 (0, 0))) := ⟨h6_⟩; have n7 : Aside0 (Below w.heap.size w w22) := ⟨h7_⟩; clear HO280 HO283 HO286 HO289 BK275 BK276 HB h0_ h1_ h2_ h3_ h4_ h5_ h6_ h7_; have HO280 := n0; have HO283 := n1; have HO286 := n2; have HO289 := n3; have HO295 := n4; have BK275 := n5; have BK276 := n6; have HB := n7; clear n0 n1 n2 n3 n4 n5 n6 n7; have hHeld := trivial
          refine norm_ (a' := ?_) ?_ ?_
          rotate_left
          ·
           simp only [putAll, Act.put, List.setIfInBounds_toArray, List.set_cons_zero, List.set_cons_succ]
           rfl
          refine two_ (i := 2) (j := 7) (Ni := some 39) (Nj := some 10) #[true, true, true, true, true, true, false, false, false] #[true, true, false, true, true, true, false, true, false] rfl rfl rfl rfl (two_of HT_.out (by kernel_rfl)) (by decide) (by decide) (fun K hK => ?_) (fun K hK => ?_)
          ·
           skip
           refine Kd.R_make_step (Kd.int .i64) _ 3 (by rfl) (N := 39) rfl 23 _ _ rfl ji6 rfl rfl Try.underlying23 (.int .i64 0) 8 info3 rfl (by decide) (by omega) 0 (ok := fun _ => True) (okp := fun _ => True) rfl (fun _ hk => hk) trivial (oA) (Nat.le_trans (Nat.mul_le_mul_right _ (oA : ji6.toNat ≤ 35184372088832)) (by omega)) (Below.refl _ _) (Nat.le_refl _) ?_
           intro v291 w23 ho24 hb hg_ hnew_
           clear hg_ hnew_; (first | rw [← Ny290.out] at ho24 | (simp only [Int.reduceToNat] at ho24; rw [← Ny290.out] at ho24)); have n0 := Az (Kd.R_elder' (rU HO280.out) (Kd.R_base ho24) hb); have n1 := Az (Kd.R_elder' (rU HO283.out) (Kd.R_base ho24) hb); have n2 := Az (Kd.R_elder' (rU HO286.out) (Kd.R_base ho24) hb); have n3 := Az (Kd.R_elder' (rU HO289.out) (Kd.R_base ho24) hb); have n4 := Az (Kd.R_elder' (rU HO295.out) (Kd.R_base ho24) hb); have n5 := Az (Kd.R_lower (Kd.R_new' (Kd.R_new' (Kd.R_new' (Kd.R_new' (Kd.R_new' ho24 (Kd.R_lt (rU HO280.out))) (Kd.R_lt (rU HO283.out))) (Kd.R_lt (rU HO286.out))) (Kd.R_lt (rU HO289.out))) (Kd.R_lt (rU HO295.out))) (below_size (bU2 HB.out GE275.out GE276.out))); have n6 := Az (blk_below (g := gb275) (o := .cells #[.string a0_0, .slice A0_1 l0_1.length c0_1] 25 (0, 0)) (kU BK275.out) hb); have n7 := Az (blk_below (g := gb276) (o := .cells #[.slice none 0 0, .slice none 0 0] 29 (0, 0)) (kU BK276.out) hb); have n8 := Az (below_step (bU2 HB.out GE275.out GE276.out) hb); clear HO280 HO283 HO286 HO289 HO295 BK275 BK276 HB; have HO280 := n0; have HO283 := n1; have HO286 := n2; have HO289 := n3; have HO295 := n4; have HO292 := n5; have BK275 := n6; have BK276 := n7; have HB := n8; clear n0 n1 n2 n3 n4 n5 n6 n7 n8 hb ho24; obtain ⟨Ao25, co25, eo25⟩ := Kd.R_slice HO295.out; (first | subst eo25 | (injection eo25 with f1_ f2_ f3_; have f4_ := f1_.symm; have f5_ := f3_.symm; clear f1_ f2_ f3_; subst f4_; subst f5_)); obtain ⟨Ao26, co26, eo26⟩ := Kd.R_slice HO292.out; (first | subst eo26 | (injection eo26 with f1_ f2_ f3_; have f4_ := f1_.symm; have f5_ := f3_.symm; clear f1_ f2_ f3_; subst f4_; subst f5_))
           refine hK.out _ _ trivial (fun hHeld => ?_)
           clear hK K
           refine norm_ (a' := ?_) ?_ ?_
           rotate_left
           ·
            show Act.put _ (some 39) _ = _
            simp only [Act.put, List.setIfInBounds_toArray, List.set_cons_zero, List.set_cons_succ, i64_w, i32_w]
            rfl
           refine pure_ (i := 6) (N := some 43) (v := ?_) (a' := ?_) #[true, true, true, true, true, true, true, false, false] rfl rfl (any_of HT_.out (by kernel_rfl)) (fun _ _ _ h => h) (Or.inl ⟨by rfl, ?_⟩) ?_ ?_
           rotate_left
           ·
            intro w'
            go_simp
            with_reducible rfl
           rotate_left
           ·
            simp only [Act.put, List.setIfInBounds_toArray, List.set_cons_zero, List.set_cons_succ, i64_w, i32_w]
            rfl
           exact norm_ (by first | (simp only [putAll, Act.put, List.setIfInBounds_toArray, List.set_cons_zero, List.set_cons_succ]; done) | (simp only [putAll, Act.put, List.setIfInBounds_toArray, List.set_cons_zero, List.set_cons_succ]; rfl)) (hJ2_5 (.slice Ao26 y290.length co26, .slice Ao25 y293.length co25) _ ⟨(by (with_reducible repeat (first | apply Kd.R_alloc | apply Kd.R_drewN | apply Kd.R_drew)); exact Kd.R_mono HO280.out (fun _ hk => ⟨hk.1.1, ⟨hk.1.2.1, ⟨hk.1.2.2.1, ⟨hk.2, hk.1.2.2.2⟩⟩⟩⟩)), (by (with_reducible repeat (first | apply Kd.R_alloc | apply Kd.R_drewN | apply Kd.R_drew)); exact Kd.R_mono HO283.out (fun _ hk => ⟨hk.1.1, ⟨hk.1.2.1, ⟨hk.1.2.2.1, ⟨hk.2, hk.1.2.2.2⟩⟩⟩⟩)), (by (with_reducible repeat (first | apply Kd.R_alloc | apply Kd.R_drewN | apply Kd.R_drew)); exact Kd.R_mono HO286.out (fun _ hk => ⟨hk.1.1, ⟨hk.1.2.1, ⟨hk.1.2.2.1, ⟨hk.2, hk.1.2.2.2⟩⟩⟩⟩)), (by (with_reducible repeat (first | apply Kd.R_alloc | apply Kd.R_drewN | apply Kd.R_drew)); exact Kd.R_mono HO289.out (fun _ hk => ⟨hk.1.1, ⟨hk.1.2.1, ⟨hk.1.2.2.1, ⟨hk.2, hk.1.2.2.2⟩⟩⟩⟩)), (by (with_reducible repeat (first | apply Kd.R_alloc | apply Kd.R_drewN | apply Kd.R_drew)); exact Kd.R_mono HO292.out (fun _ hk => ⟨hk.1.1.1.1.2, ⟨hk.1.1.1.2, ⟨hk.1.1.2, ⟨hk.1.2, hk.2⟩⟩⟩⟩)), (by (with_reducible repeat (first | apply Kd.R_alloc | apply Kd.R_drewN | apply Kd.R_drew)); exact Kd.R_mono HO295.out (fun _ hk => ⟨hk.1.1, ⟨hk.1.2.1, ⟨hk.1.2.2.1, ⟨hk.1.2.2.2, hk.2⟩⟩⟩⟩)), (kU BK275.out), (kU BK276.out), (bU2 HB.out GE275.out GE276.out)⟩)
          ·
           skip
           refine box_step ?hg (N := 10) ?hd (cs := #[.slice none 0 0, .slice none 0 0]) (t := 29) ?hr ?_; (case hd => rfl); (case hg => rfl); (case hr => first | (go_simp; done) | (go_simp; rfl))
           intro gb296 hg w23 hbox hb
           have n0 := Az (Kd.R_below (rU HO280.out) hb); have n1 := Az (Kd.R_below (rU HO283.out) hb); have n2 := Az (Kd.R_below (rU HO286.out) hb); have n3 := Az (Kd.R_below (rU HO289.out) hb); have n4 := Az (Kd.R_below (rU HO295.out) hb); have n5 := Az (blk_below (g := gb275) (o := .cells #[.string a0_0, .slice A0_1 l0_1.length c0_1] 25 (0, 0)) (kU BK275.out) hb); have n6 := Az (blk_below (g := gb276) (o := .cells #[.slice none 0 0, .slice none 0 0] 29 (0, 0)) (kU BK276.out) hb); have n7 := Az (below_step (bU2 HB.out GE275.out GE276.out) hb); have n8 := Az (hbox); have n9 := Az ((by rw [hg]; exact (below_size (bU2 HB.out GE275.out GE276.out)) : w.heap.size ≤ gb296)); have n10 := Az ((by rw [hg]; exact (below_size (bU2 HB.out GE275.out GE276.out)) : w.heap.size ≤ gb296)); have n11 := Az ((by rw [hg]; exact Nat.ne_of_lt (blk_lt (g := gb275) (o := .cells #[.string a0_0, .slice A0_1 l0_1.length c0_1] 25 (0, 0)) (kU BK275.out)) : gb275 ≠ gb296)); have n12 := Az ((by rw [hg]; exact Nat.ne_of_gt (blk_lt (g := gb275) (o := .cells #[.string a0_0, .slice A0_1 l0_1.length c0_1] 25 (0, 0)) (kU BK275.out)) : gb296 ≠ gb275)); have n13 := Az ((by rw [hg]; exact Nat.ne_of_lt (blk_lt (g := gb276) (o := .cells #[.slice none 0 0, .slice none 0 0] 29 (0, 0)) (kU BK276.out)) : gb276 ≠ gb296)); have n14 := Az ((by rw [hg]; exact Nat.ne_of_gt (blk_lt (g := gb276) (o := .cells #[.slice none 0 0, .slice none 0 0] 29 (0, 0)) (kU BK276.out)) : gb296 ≠ gb276)); clear HO280 HO283 HO286 HO289 HO295 BK275 BK276 HB; have HO280 := n0; have HO283 := n1; have HO286 := n2; have HO289 := n3; have HO295 := n4; have BK275 := n5; have BK276 := n6; have HB := n7; have BK296 := n8; have GW296 := n9; have GE296 := n10; have NB275_296 := n11; have NB296_275 := n12; have NB276_296 := n13; have NB296_276 := n14; clear n0 n1 n2 n3 n4 n5 n6 n7 n8 n9 n10 n11 n12 n13 n14 hb hbox hg
           refine hK.out _ _ trivial (fun hHeld => ?_)
           clear hK K
           refine norm_ (a' := ?_) ?_ ?_
           rotate_left
           ·
            show Act.put _ (some 10) _ = _
            simp only [Act.put, List.setIfInBounds_toArray, List.set_cons_zero, List.set_cons_succ, i64_w, i32_w]
            rfl
           exact norm_ (by first | (simp only [putAll, Act.put, List.setIfInBounds_toArray, List.set_cons_zero, List.set_cons_succ]; done) | (simp only [putAll, Act.put, List.setIfInBounds_toArray, List.set_cons_zero, List.set_cons_succ]; rfl)) (hJ5_7 (v294, gb296) _ ⟨(rU HO280.out), (rU HO283.out), (rU HO286.out), (rU HO289.out), (rU HO295.out), (kU BK275.out), (kU BK276.out), (kU BK296.out), GW296.out, GE296.out, NB275_296.out, NB296_275.out, NB276_296.out, NB296_276.out, (bU3 HB.out GE275.out GE276.out GE296.out)⟩)
        ·
         skip
         rintro v291 w22 ⟨h0_, h1_, h2_, h3_, h4_, h5_, h6_, h7_⟩
         have n0 : Aside0 (Kd.R (Kd.int .i64) 3 w22 w.heap.size (fun k_ => some k_ ≠ (.slice Ao16 t281.length co16 : Value).ownBlock ∧ some k_ ≠ (v285 : Value).ownBlock ∧ some k_ ≠ (.slice Ao18 t287.length co18 : Value).ownBlock ∧ some k_ ≠ (v291 : Value).ownBlock) v279 t278) := ⟨h0_⟩; have n1 : Aside0 (Kd.R (Kd.int .i64) 3 w22 w.heap.size (fun k_ => some k_ ≠ (v279 : Value).ownBlock ∧ some k_ ≠ (v285 : Value).ownBlock ∧ some k_ ≠ (.slice Ao18 t287.length co18 : Value).ownBlock ∧ some k_ ≠ (v291 : Value).ownBlock) (.slice Ao16 t281.length co16) t281) := ⟨h1_⟩; have n2 : Aside0 (Kd.R (Kd.int .i64) 3 w22 w.heap.size (fun k_ => some k_ ≠ (v279 : Value).ownBlock ∧ some k_ ≠ (.slice Ao16 t281.length co16 : Value).ownBlock ∧ some k_ ≠ (.slice Ao18 t287.length co18 : Value).ownBlock ∧ some k_ ≠ (v291 : Value).ownBlock) v285 t284) := ⟨h2_⟩; have n3 : Aside0 (Kd.R (Kd.int .i64) 3 w22 w.heap.size (fun k_ => some k_ ≠ (v279 : Value).ownBlock ∧ some k_ ≠ (.slice Ao16 t281.length co16 : Value).ownBlock ∧ some k_ ≠ (v285 : Value).ownBlock ∧ some k_ ≠ (v291 : Value).ownBlock) (.slice Ao18 t287.length co18) t287) := ⟨h3_⟩; have n4 : Aside0 (Kd.R (Kd.int .i64) 3 w22 w.heap.size (fun k_ => some k_ ≠ (v279 : Value).ownBlock ∧ some k_ ≠ (.slice Ao16 t281.length co16 : Value).ownBlock ∧ some k_ ≠ (v285 : Value).ownBlock ∧ some k_ ≠ (.slice Ao18 t287.length co18 : Value).ownBlock) v291 y290) := ⟨h4_⟩; have n5 : Aside0 (w22.heap[gb275]? = some (.cells #[.string a0_0, .slice A0_1 l0_1.length c0_1] 25 (0, 0))) := ⟨h5_⟩; have n6 : Aside0 (w22.heap[gb276]? = some (.cells #[.slice none 0 0, .slice none 0 0] 29 (0, 0))) := ⟨h6_⟩; have n7 : Aside0 (Below w.heap.size w w22) := ⟨h7_⟩; clear HO280 HO283 HO286 HO289 BK275 BK276 HB h0_ h1_ h2_ h3_ h4_ h5_ h6_ h7_; have HO280 := n0; have HO283 := n1; have HO286 := n2; have HO289 := n3; have HO292 := n4; have BK275 := n5; have BK276 := n6; have HB := n7; clear n0 n1 n2 n3 n4 n5 n6 n7; have hHeld := trivial
         refine norm_ (a' := ?_) ?_ ?_
         rotate_left
         ·
          simp only [putAll, Act.put, List.setIfInBounds_toArray, List.set_cons_zero, List.set_cons_succ]
          rfl
         refine two_ (i := 5) (j := 7) (Ni := some 42) (Nj := some 10) #[true, true, true, true, true, true, false, false, false] #[true, true, true, true, true, false, false, true, false] rfl rfl rfl rfl (two_of HT_.out (by kernel_rfl)) (by decide) (by decide) (fun K hK => ?_) (fun K hK => ?_)
         ·
          skip
          refine Kd.R_make_step (Kd.int .i64) _ 3 (by rfl) (N := 42) rfl 23 _ _ rfl ji6 rfl rfl Try.underlying23 (.int .i64 0) 8 info3 rfl (by decide) (by omega) 0 (ok := fun _ => True) (okp := fun _ => True) rfl (fun _ hk => hk) trivial (oA) (Nat.le_trans (Nat.mul_le_mul_right _ (oA : ji6.toNat ≤ 35184372088832)) (by omega)) (Below.refl _ _) (Nat.le_refl _) ?_
          intro v294 w23 ho24 hb hg_ hnew_
          clear hg_ hnew_; (first | rw [← Ny293.out] at ho24 | (simp only [Int.reduceToNat] at ho24; rw [← Ny293.out] at ho24)); have n0 := Az (Kd.R_elder' (rU HO280.out) (Kd.R_base ho24) hb); have n1 := Az (Kd.R_elder' (rU HO283.out) (Kd.R_base ho24) hb); have n2 := Az (Kd.R_elder' (rU HO286.out) (Kd.R_base ho24) hb); have n3 := Az (Kd.R_elder' (rU HO289.out) (Kd.R_base ho24) hb); have n4 := Az (Kd.R_elder' (rU HO292.out) (Kd.R_base ho24) hb); have n5 := Az (Kd.R_lower (Kd.R_new' (Kd.R_new' (Kd.R_new' (Kd.R_new' (Kd.R_new' ho24 (Kd.R_lt (rU HO280.out))) (Kd.R_lt (rU HO283.out))) (Kd.R_lt (rU HO286.out))) (Kd.R_lt (rU HO289.out))) (Kd.R_lt (rU HO292.out))) (below_size (bU2 HB.out GE275.out GE276.out))); have n6 := Az (blk_below (g := gb275) (o := .cells #[.string a0_0, .slice A0_1 l0_1.length c0_1] 25 (0, 0)) (kU BK275.out) hb); have n7 := Az (blk_below (g := gb276) (o := .cells #[.slice none 0 0, .slice none 0 0] 29 (0, 0)) (kU BK276.out) hb); have n8 := Az (below_step (bU2 HB.out GE275.out GE276.out) hb); clear HO280 HO283 HO286 HO289 HO292 BK275 BK276 HB; have HO280 := n0; have HO283 := n1; have HO286 := n2; have HO289 := n3; have HO292 := n4; have HO295 := n5; have BK275 := n6; have BK276 := n7; have HB := n8; clear n0 n1 n2 n3 n4 n5 n6 n7 n8 hb ho24; obtain ⟨Ao25, co25, eo25⟩ := Kd.R_slice HO295.out; (first | subst eo25 | (injection eo25 with f1_ f2_ f3_; have f4_ := f1_.symm; have f5_ := f3_.symm; clear f1_ f2_ f3_; subst f4_; subst f5_)); obtain ⟨Ao26, co26, eo26⟩ := Kd.R_slice HO292.out; (first | subst eo26 | (injection eo26 with f1_ f2_ f3_; have f4_ := f1_.symm; have f5_ := f3_.symm; clear f1_ f2_ f3_; subst f4_; subst f5_))
          refine hK.out _ _ trivial (fun hHeld => ?_)
          clear hK K
          refine norm_ (a' := ?_) ?_ ?_
          rotate_left
          ·
           show Act.put _ (some 42) _ = _
           simp only [Act.put, List.setIfInBounds_toArray, List.set_cons_zero, List.set_cons_succ, i64_w, i32_w]
           rfl
          refine pure_ (i := 6) (N := some 43) (v := ?_) (a' := ?_) #[true, true, true, true, true, true, true, false, false] rfl rfl (any_of HT_.out (by kernel_rfl)) (fun _ _ _ h => h) (Or.inl ⟨by rfl, ?_⟩) ?_ ?_
          rotate_left
          ·
           intro w'
           go_simp
           with_reducible rfl
          rotate_left
          ·
           simp only [Act.put, List.setIfInBounds_toArray, List.set_cons_zero, List.set_cons_succ, i64_w, i32_w]
           rfl
          exact norm_ (by first | (simp only [putAll, Act.put, List.setIfInBounds_toArray, List.set_cons_zero, List.set_cons_succ]; done) | (simp only [putAll, Act.put, List.setIfInBounds_toArray, List.set_cons_zero, List.set_cons_succ]; rfl)) (hJ2_5 (.slice Ao26 y290.length co26, .slice Ao25 y293.length co25) _ ⟨(by (with_reducible repeat (first | apply Kd.R_alloc | apply Kd.R_drewN | apply Kd.R_drew)); exact Kd.R_mono HO280.out (fun _ hk => ⟨hk.1.1, ⟨hk.1.2.1, ⟨hk.1.2.2.1, ⟨hk.1.2.2.2, hk.2⟩⟩⟩⟩)), (by (with_reducible repeat (first | apply Kd.R_alloc | apply Kd.R_drewN | apply Kd.R_drew)); exact Kd.R_mono HO283.out (fun _ hk => ⟨hk.1.1, ⟨hk.1.2.1, ⟨hk.1.2.2.1, ⟨hk.1.2.2.2, hk.2⟩⟩⟩⟩)), (by (with_reducible repeat (first | apply Kd.R_alloc | apply Kd.R_drewN | apply Kd.R_drew)); exact Kd.R_mono HO286.out (fun _ hk => ⟨hk.1.1, ⟨hk.1.2.1, ⟨hk.1.2.2.1, ⟨hk.1.2.2.2, hk.2⟩⟩⟩⟩)), (by (with_reducible repeat (first | apply Kd.R_alloc | apply Kd.R_drewN | apply Kd.R_drew)); exact Kd.R_mono HO289.out (fun _ hk => ⟨hk.1.1, ⟨hk.1.2.1, ⟨hk.1.2.2.1, ⟨hk.1.2.2.2, hk.2⟩⟩⟩⟩)), (by (with_reducible repeat (first | apply Kd.R_alloc | apply Kd.R_drewN | apply Kd.R_drew)); exact Kd.R_mono HO292.out (fun _ hk => ⟨hk.1.1, ⟨hk.1.2.1, ⟨hk.1.2.2.1, ⟨hk.1.2.2.2, hk.2⟩⟩⟩⟩)), (by (with_reducible repeat (first | apply Kd.R_alloc | apply Kd.R_drewN | apply Kd.R_drew)); exact Kd.R_mono HO295.out (fun _ hk => ⟨hk.1.1.1.1.2, ⟨hk.1.1.1.2, ⟨hk.1.1.2, ⟨hk.1.2, hk.2⟩⟩⟩⟩)), (kU BK275.out), (kU BK276.out), (bU2 HB.out GE275.out GE276.out)⟩)
         ·
          skip
          refine box_step ?hg (N := 10) ?hd (cs := #[.slice none 0 0, .slice none 0 0]) (t := 29) ?hr ?_; (case hd => rfl); (case hg => rfl); (case hr => first | (go_simp; done) | (go_simp; rfl))
          intro gb296 hg w23 hbox hb
          have n0 := Az (Kd.R_below (rU HO280.out) hb); have n1 := Az (Kd.R_below (rU HO283.out) hb); have n2 := Az (Kd.R_below (rU HO286.out) hb); have n3 := Az (Kd.R_below (rU HO289.out) hb); have n4 := Az (Kd.R_below (rU HO292.out) hb); have n5 := Az (blk_below (g := gb275) (o := .cells #[.string a0_0, .slice A0_1 l0_1.length c0_1] 25 (0, 0)) (kU BK275.out) hb); have n6 := Az (blk_below (g := gb276) (o := .cells #[.slice none 0 0, .slice none 0 0] 29 (0, 0)) (kU BK276.out) hb); have n7 := Az (below_step (bU2 HB.out GE275.out GE276.out) hb); have n8 := Az (hbox); have n9 := Az ((by rw [hg]; exact (below_size (bU2 HB.out GE275.out GE276.out)) : w.heap.size ≤ gb296)); have n10 := Az ((by rw [hg]; exact (below_size (bU2 HB.out GE275.out GE276.out)) : w.heap.size ≤ gb296)); have n11 := Az ((by rw [hg]; exact Nat.ne_of_lt (blk_lt (g := gb275) (o := .cells #[.string a0_0, .slice A0_1 l0_1.length c0_1] 25 (0, 0)) (kU BK275.out)) : gb275 ≠ gb296)); have n12 := Az ((by rw [hg]; exact Nat.ne_of_gt (blk_lt (g := gb275) (o := .cells #[.string a0_0, .slice A0_1 l0_1.length c0_1] 25 (0, 0)) (kU BK275.out)) : gb296 ≠ gb275)); have n13 := Az ((by rw [hg]; exact Nat.ne_of_lt (blk_lt (g := gb276) (o := .cells #[.slice none 0 0, .slice none 0 0] 29 (0, 0)) (kU BK276.out)) : gb276 ≠ gb296)); have n14 := Az ((by rw [hg]; exact Nat.ne_of_gt (blk_lt (g := gb276) (o := .cells #[.slice none 0 0, .slice none 0 0] 29 (0, 0)) (kU BK276.out)) : gb296 ≠ gb276)); clear HO280 HO283 HO286 HO289 HO292 BK275 BK276 HB; have HO280 := n0; have HO283 := n1; have HO286 := n2; have HO289 := n3; have HO292 := n4; have BK275 := n5; have BK276 := n6; have HB := n7; have BK296 := n8; have GW296 := n9; have GE296 := n10; have NB275_296 := n11; have NB296_275 := n12; have NB276_296 := n13; have NB296_276 := n14; clear n0 n1 n2 n3 n4 n5 n6 n7 n8 n9 n10 n11 n12 n13 n14 hb hbox hg
          refine hK.out _ _ trivial (fun hHeld => ?_)
          clear hK K
          refine norm_ (a' := ?_) ?_ ?_
          rotate_left
          ·
           show Act.put _ (some 10) _ = _
           simp only [Act.put, List.setIfInBounds_toArray, List.set_cons_zero, List.set_cons_succ, i64_w, i32_w]
           rfl
          exact norm_ (by first | (simp only [putAll, Act.put, List.setIfInBounds_toArray, List.set_cons_zero, List.set_cons_succ]; done) | (simp only [putAll, Act.put, List.setIfInBounds_toArray, List.set_cons_zero, List.set_cons_succ]; rfl)) (hJ2_7 (v291, gb296) _ ⟨(rU HO280.out), (rU HO283.out), (rU HO286.out), (rU HO289.out), (rU HO292.out), (kU BK275.out), (kU BK276.out), (kU BK296.out), GW296.out, GE296.out, NB275_296.out, NB296_275.out, NB276_296.out, NB296_276.out, (bU3 HB.out GE275.out GE276.out GE296.out)⟩)
       ·
        skip
        rintro ⟨v294, gb296⟩ w23 ⟨h0_, h1_, h2_, h3_, h4_, h5_, h6_, h7_, h8_, h9_, h10_, h11_, h12_, h13_, h14_⟩
        have n0 : Aside0 (Kd.R (Kd.int .i64) 3 w23 w.heap.size (fun k_ => some k_ ≠ (.slice Ao16 t281.length co16 : Value).ownBlock ∧ some k_ ≠ (v285 : Value).ownBlock ∧ some k_ ≠ (.slice Ao18 t287.length co18 : Value).ownBlock ∧ some k_ ≠ (v294 : Value).ownBlock) v279 t278) := ⟨h0_⟩; have n1 : Aside0 (Kd.R (Kd.int .i64) 3 w23 w.heap.size (fun k_ => some k_ ≠ (v279 : Value).ownBlock ∧ some k_ ≠ (v285 : Value).ownBlock ∧ some k_ ≠ (.slice Ao18 t287.length co18 : Value).ownBlock ∧ some k_ ≠ (v294 : Value).ownBlock) (.slice Ao16 t281.length co16) t281) := ⟨h1_⟩; have n2 : Aside0 (Kd.R (Kd.int .i64) 3 w23 w.heap.size (fun k_ => some k_ ≠ (v279 : Value).ownBlock ∧ some k_ ≠ (.slice Ao16 t281.length co16 : Value).ownBlock ∧ some k_ ≠ (.slice Ao18 t287.length co18 : Value).ownBlock ∧ some k_ ≠ (v294 : Value).ownBlock) v285 t284) := ⟨h2_⟩; have n3 : Aside0 (Kd.R (Kd.int .i64) 3 w23 w.heap.size (fun k_ => some k_ ≠ (v279 : Value).ownBlock ∧ some k_ ≠ (.slice Ao16 t281.length co16 : Value).ownBlock ∧ some k_ ≠ (v285 : Value).ownBlock ∧ some k_ ≠ (v294 : Value).ownBlock) (.slice Ao18 t287.length co18) t287) := ⟨h3_⟩; have n4 : Aside0 (Kd.R (Kd.int .i64) 3 w23 w.heap.size (fun k_ => some k_ ≠ (v279 : Value).ownBlock ∧ some k_ ≠ (.slice Ao16 t281.length co16 : Value).ownBlock ∧ some k_ ≠ (v285 : Value).ownBlock ∧ some k_ ≠ (.slice Ao18 t287.length co18 : Value).ownBlock) v294 y293) := ⟨h4_⟩; have n5 : Aside0 (w23.heap[gb275]? = some (.cells #[.string a0_0, .slice A0_1 l0_1.length c0_1] 25 (0, 0))) := ⟨h5_⟩; have n6 : Aside0 (w23.heap[gb276]? = some (.cells #[.slice none 0 0, .slice none 0 0] 29 (0, 0))) := ⟨h6_⟩; have n7 : Aside0 (w23.heap[gb296]? = some (.cells #[.slice none 0 0, .slice none 0 0] 29 (0, 0))) := ⟨h7_⟩; have n8 : Aside0 (w.heap.size ≤ gb296) := ⟨h8_⟩; have n9 : Aside0 (w.heap.size ≤ gb296) := ⟨h9_⟩; have n10 : Aside0 (gb275 ≠ gb296) := ⟨h10_⟩; have n11 : Aside0 (gb296 ≠ gb275) := ⟨h11_⟩; have n12 : Aside0 (gb276 ≠ gb296) := ⟨h12_⟩; have n13 : Aside0 (gb296 ≠ gb276) := ⟨h13_⟩; have n14 : Aside0 (Below w.heap.size w w23) := ⟨h14_⟩; clear HO280 HO283 HO286 HO289 BK275 BK276 HB h0_ h1_ h2_ h3_ h4_ h5_ h6_ h7_ h8_ h9_ h10_ h11_ h12_ h13_ h14_; have HO280 := n0; have HO283 := n1; have HO286 := n2; have HO289 := n3; have HO295 := n4; have BK275 := n5; have BK276 := n6; have BK296 := n7; have GW296 := n8; have GE296 := n9; have NB275_296 := n10; have NB296_275 := n11; have NB276_296 := n12; have NB296_276 := n13; have HB := n14; clear n0 n1 n2 n3 n4 n5 n6 n7 n8 n9 n10 n11 n12 n13 n14; have hHeld := trivial
        refine norm_ (a' := ?_) ?_ ?_
        rotate_left
        ·
         simp only [putAll, Act.put, List.setIfInBounds_toArray, List.set_cons_zero, List.set_cons_succ]
         rfl
        refine one_ (i := 2) (N := some 39) #[true, true, true, true, true, true, false, true, false] rfl rfl (one_of HT_.out (by kernel_rfl)) (by decide) (fun K hK => ?_)
        refine Kd.R_make_step (Kd.int .i64) _ 3 (by rfl) (N := 39) rfl 23 _ _ rfl ji6 rfl rfl Try.underlying23 (.int .i64 0) 8 info3 rfl (by decide) (by omega) 0 (ok := fun _ => True) (okp := fun _ => True) rfl (fun _ hk => hk) trivial (oA) (Nat.le_trans (Nat.mul_le_mul_right _ (oA : ji6.toNat ≤ 35184372088832)) (by omega)) (Below.refl _ _) (Nat.le_refl _) ?_
        intro v291 w24 ho25 hb hg_ hnew_
        clear hg_ hnew_; (first | rw [← Ny290.out] at ho25 | (simp only [Int.reduceToNat] at ho25; rw [← Ny290.out] at ho25)); have n0 := Az (Kd.R_elder' (rU HO280.out) (Kd.R_base ho25) hb); have n1 := Az (Kd.R_elder' (rU HO283.out) (Kd.R_base ho25) hb); have n2 := Az (Kd.R_elder' (rU HO286.out) (Kd.R_base ho25) hb); have n3 := Az (Kd.R_elder' (rU HO289.out) (Kd.R_base ho25) hb); have n4 := Az (Kd.R_elder' (rU HO295.out) (Kd.R_base ho25) hb); have n5 := Az (Kd.R_lower (Kd.R_new' (Kd.R_new' (Kd.R_new' (Kd.R_new' (Kd.R_new' ho25 (Kd.R_lt (rU HO280.out))) (Kd.R_lt (rU HO283.out))) (Kd.R_lt (rU HO286.out))) (Kd.R_lt (rU HO289.out))) (Kd.R_lt (rU HO295.out))) (below_size (bU3 HB.out GE275.out GE276.out GE296.out))); have n6 := Az (blk_below (g := gb275) (o := .cells #[.string a0_0, .slice A0_1 l0_1.length c0_1] 25 (0, 0)) (kU BK275.out) hb); have n7 := Az (blk_below (g := gb276) (o := .cells #[.slice none 0 0, .slice none 0 0] 29 (0, 0)) (kU BK276.out) hb); have n8 := Az (blk_below (g := gb296) (o := .cells #[.slice none 0 0, .slice none 0 0] 29 (0, 0)) (kU BK296.out) hb); have n9 := Az (below_step (bU3 HB.out GE275.out GE276.out GE296.out) hb); clear HO280 HO283 HO286 HO289 HO295 BK275 BK276 BK296 HB; have HO280 := n0; have HO283 := n1; have HO286 := n2; have HO289 := n3; have HO295 := n4; have HO292 := n5; have BK275 := n6; have BK276 := n7; have BK296 := n8; have HB := n9; clear n0 n1 n2 n3 n4 n5 n6 n7 n8 n9 hb ho25; obtain ⟨Ao26, co26, eo26⟩ := Kd.R_slice HO295.out; (first | subst eo26 | (injection eo26 with f1_ f2_ f3_; have f4_ := f1_.symm; have f5_ := f3_.symm; clear f1_ f2_ f3_; subst f4_; subst f5_)); obtain ⟨Ao27, co27, eo27⟩ := Kd.R_slice HO292.out; (first | subst eo27 | (injection eo27 with f1_ f2_ f3_; have f4_ := f1_.symm; have f5_ := f3_.symm; clear f1_ f2_ f3_; subst f4_; subst f5_))
        refine hK.out _ _ trivial (fun hHeld => ?_)
        clear hK K
        refine norm_ (a' := ?_) ?_ ?_
        rotate_left
        ·
         show Act.put _ (some 39) _ = _
         simp only [Act.put, List.setIfInBounds_toArray, List.set_cons_zero, List.set_cons_succ, i64_w, i32_w]
         rfl
        refine pure_ (i := 6) (N := some 43) (v := ?_) (a' := ?_) #[true, true, true, true, true, true, true, true, false] rfl rfl (any_of HT_.out (by kernel_rfl)) (fun _ _ _ h => h) (Or.inl ⟨by rfl, ?_⟩) ?_ ?_
        rotate_left
        ·
         intro w'
         go_simp
         with_reducible rfl
        rotate_left
        ·
         simp only [Act.put, List.setIfInBounds_toArray, List.set_cons_zero, List.set_cons_succ, i64_w, i32_w]
         rfl
        exact norm_ (by first | (simp only [putAll, Act.put, List.setIfInBounds_toArray, List.set_cons_zero, List.set_cons_succ]; done) | (simp only [putAll, Act.put, List.setIfInBounds_toArray, List.set_cons_zero, List.set_cons_succ]; rfl)) (hJ2_5_7 (.slice Ao27 y290.length co27, .slice Ao26 y293.length co26, gb296) _ ⟨(by (with_reducible repeat (first | apply Kd.R_alloc | apply Kd.R_drewN | apply Kd.R_drew)); exact Kd.R_mono HO280.out (fun _ hk => ⟨hk.1.1, ⟨hk.1.2.1, ⟨hk.1.2.2.1, ⟨hk.2, hk.1.2.2.2⟩⟩⟩⟩)), (by (with_reducible repeat (first | apply Kd.R_alloc | apply Kd.R_drewN | apply Kd.R_drew)); exact Kd.R_mono HO283.out (fun _ hk => ⟨hk.1.1, ⟨hk.1.2.1, ⟨hk.1.2.2.1, ⟨hk.2, hk.1.2.2.2⟩⟩⟩⟩)), (by (with_reducible repeat (first | apply Kd.R_alloc | apply Kd.R_drewN | apply Kd.R_drew)); exact Kd.R_mono HO286.out (fun _ hk => ⟨hk.1.1, ⟨hk.1.2.1, ⟨hk.1.2.2.1, ⟨hk.2, hk.1.2.2.2⟩⟩⟩⟩)), (by (with_reducible repeat (first | apply Kd.R_alloc | apply Kd.R_drewN | apply Kd.R_drew)); exact Kd.R_mono HO289.out (fun _ hk => ⟨hk.1.1, ⟨hk.1.2.1, ⟨hk.1.2.2.1, ⟨hk.2, hk.1.2.2.2⟩⟩⟩⟩)), (by (with_reducible repeat (first | apply Kd.R_alloc | apply Kd.R_drewN | apply Kd.R_drew)); exact Kd.R_mono HO292.out (fun _ hk => ⟨hk.1.1.1.1.2, ⟨hk.1.1.1.2, ⟨hk.1.1.2, ⟨hk.1.2, hk.2⟩⟩⟩⟩)), (by (with_reducible repeat (first | apply Kd.R_alloc | apply Kd.R_drewN | apply Kd.R_drew)); exact Kd.R_mono HO295.out (fun _ hk => ⟨hk.1.1, ⟨hk.1.2.1, ⟨hk.1.2.2.1, ⟨hk.1.2.2.2, hk.2⟩⟩⟩⟩)), (kU BK275.out), (kU BK276.out), (kU BK296.out), GW296.out, GE296.out, NB275_296.out, NB296_275.out, NB276_296.out, NB296_276.out, (bU3 HB.out GE275.out GE276.out GE296.out)⟩)
      ·
       skip
       rintro ⟨v291, gb296⟩ w23 ⟨h0_, h1_, h2_, h3_, h4_, h5_, h6_, h7_, h8_, h9_, h10_, h11_, h12_, h13_, h14_⟩
       have n0 : Aside0 (Kd.R (Kd.int .i64) 3 w23 w.heap.size (fun k_ => some k_ ≠ (.slice Ao16 t281.length co16 : Value).ownBlock ∧ some k_ ≠ (v285 : Value).ownBlock ∧ some k_ ≠ (.slice Ao18 t287.length co18 : Value).ownBlock ∧ some k_ ≠ (v291 : Value).ownBlock) v279 t278) := ⟨h0_⟩; have n1 : Aside0 (Kd.R (Kd.int .i64) 3 w23 w.heap.size (fun k_ => some k_ ≠ (v279 : Value).ownBlock ∧ some k_ ≠ (v285 : Value).ownBlock ∧ some k_ ≠ (.slice Ao18 t287.length co18 : Value).ownBlock ∧ some k_ ≠ (v291 : Value).ownBlock) (.slice Ao16 t281.length co16) t281) := ⟨h1_⟩; have n2 : Aside0 (Kd.R (Kd.int .i64) 3 w23 w.heap.size (fun k_ => some k_ ≠ (v279 : Value).ownBlock ∧ some k_ ≠ (.slice Ao16 t281.length co16 : Value).ownBlock ∧ some k_ ≠ (.slice Ao18 t287.length co18 : Value).ownBlock ∧ some k_ ≠ (v291 : Value).ownBlock) v285 t284) := ⟨h2_⟩; have n3 : Aside0 (Kd.R (Kd.int .i64) 3 w23 w.heap.size (fun k_ => some k_ ≠ (v279 : Value).ownBlock ∧ some k_ ≠ (.slice Ao16 t281.length co16 : Value).ownBlock ∧ some k_ ≠ (v285 : Value).ownBlock ∧ some k_ ≠ (v291 : Value).ownBlock) (.slice Ao18 t287.length co18) t287) := ⟨h3_⟩; have n4 : Aside0 (Kd.R (Kd.int .i64) 3 w23 w.heap.size (fun k_ => some k_ ≠ (v279 : Value).ownBlock ∧ some k_ ≠ (.slice Ao16 t281.length co16 : Value).ownBlock ∧ some k_ ≠ (v285 : Value).ownBlock ∧ some k_ ≠ (.slice Ao18 t287.length co18 : Value).ownBlock) v291 y290) := ⟨h4_⟩; have n5 : Aside0 (w23.heap[gb275]? = some (.cells #[.string a0_0, .slice A0_1 l0_1.length c0_1] 25 (0, 0))) := ⟨h5_⟩; have n6 : Aside0 (w23.heap[gb276]? = some (.cells #[.slice none 0 0, .slice none 0 0] 29 (0, 0))) := ⟨h6_⟩; have n7 : Aside0 (w23.heap[gb296]? = some (.cells #[.slice none 0 0, .slice none 0 0] 29 (0, 0))) := ⟨h7_⟩; have n8 : Aside0 (w.heap.size ≤ gb296) := ⟨h8_⟩; have n9 : Aside0 (w.heap.size ≤ gb296) := ⟨h9_⟩; have n10 : Aside0 (gb275 ≠ gb296) := ⟨h10_⟩; have n11 : Aside0 (gb296 ≠ gb275) := ⟨h11_⟩; have n12 : Aside0 (gb276 ≠ gb296) := ⟨h12_⟩; have n13 : Aside0 (gb296 ≠ gb276) := ⟨h13_⟩; have n14 : Aside0 (Below w.heap.size w w23) := ⟨h14_⟩; clear HO280 HO283 HO286 HO289 BK275 BK276 HB h0_ h1_ h2_ h3_ h4_ h5_ h6_ h7_ h8_ h9_ h10_ h11_ h12_ h13_ h14_; have HO280 := n0; have HO283 := n1; have HO286 := n2; have HO289 := n3; have HO292 := n4; have BK275 := n5; have BK276 := n6; have BK296 := n7; have GW296 := n8; have GE296 := n9; have NB275_296 := n10; have NB296_275 := n11; have NB276_296 := n12; have NB296_276 := n13; have HB := n14; clear n0 n1 n2 n3 n4 n5 n6 n7 n8 n9 n10 n11 n12 n13 n14; have hHeld := trivial
       refine norm_ (a' := ?_) ?_ ?_
       rotate_left
       ·
        simp only [putAll, Act.put, List.setIfInBounds_toArray, List.set_cons_zero, List.set_cons_succ]
        rfl
       refine one_ (i := 5) (N := some 42) #[true, true, true, true, true, true, false, true, false] rfl rfl (one_of HT_.out (by kernel_rfl)) (by decide) (fun K hK => ?_)
       refine Kd.R_make_step (Kd.int .i64) _ 3 (by rfl) (N := 42) rfl 23 _ _ rfl ji6 rfl rfl Try.underlying23 (.int .i64 0) 8 info3 rfl (by decide) (by omega) 0 (ok := fun _ => True) (okp := fun _ => True) rfl (fun _ hk => hk) trivial (oA) (Nat.le_trans (Nat.mul_le_mul_right _ (oA : ji6.toNat ≤ 35184372088832)) (by omega)) (Below.refl _ _) (Nat.le_refl _) ?_
       intro v294 w24 ho25 hb hg_ hnew_
       clear hg_ hnew_; (first | rw [← Ny293.out] at ho25 | (simp only [Int.reduceToNat] at ho25; rw [← Ny293.out] at ho25)); have n0 := Az (Kd.R_elder' (rU HO280.out) (Kd.R_base ho25) hb); have n1 := Az (Kd.R_elder' (rU HO283.out) (Kd.R_base ho25) hb); have n2 := Az (Kd.R_elder' (rU HO286.out) (Kd.R_base ho25) hb); have n3 := Az (Kd.R_elder' (rU HO289.out) (Kd.R_base ho25) hb); have n4 := Az (Kd.R_elder' (rU HO292.out) (Kd.R_base ho25) hb); have n5 := Az (Kd.R_lower (Kd.R_new' (Kd.R_new' (Kd.R_new' (Kd.R_new' (Kd.R_new' ho25 (Kd.R_lt (rU HO280.out))) (Kd.R_lt (rU HO283.out))) (Kd.R_lt (rU HO286.out))) (Kd.R_lt (rU HO289.out))) (Kd.R_lt (rU HO292.out))) (below_size (bU3 HB.out GE275.out GE276.out GE296.out))); have n6 := Az (blk_below (g := gb275) (o := .cells #[.string a0_0, .slice A0_1 l0_1.length c0_1] 25 (0, 0)) (kU BK275.out) hb); have n7 := Az (blk_below (g := gb276) (o := .cells #[.slice none 0 0, .slice none 0 0] 29 (0, 0)) (kU BK276.out) hb); have n8 := Az (blk_below (g := gb296) (o := .cells #[.slice none 0 0, .slice none 0 0] 29 (0, 0)) (kU BK296.out) hb); have n9 := Az (below_step (bU3 HB.out GE275.out GE276.out GE296.out) hb); clear HO280 HO283 HO286 HO289 HO292 BK275 BK276 BK296 HB; have HO280 := n0; have HO283 := n1; have HO286 := n2; have HO289 := n3; have HO292 := n4; have HO295 := n5; have BK275 := n6; have BK276 := n7; have BK296 := n8; have HB := n9; clear n0 n1 n2 n3 n4 n5 n6 n7 n8 n9 hb ho25; obtain ⟨Ao26, co26, eo26⟩ := Kd.R_slice HO295.out; (first | subst eo26 | (injection eo26 with f1_ f2_ f3_; have f4_ := f1_.symm; have f5_ := f3_.symm; clear f1_ f2_ f3_; subst f4_; subst f5_)); obtain ⟨Ao27, co27, eo27⟩ := Kd.R_slice HO292.out; (first | subst eo27 | (injection eo27 with f1_ f2_ f3_; have f4_ := f1_.symm; have f5_ := f3_.symm; clear f1_ f2_ f3_; subst f4_; subst f5_))
       refine hK.out _ _ trivial (fun hHeld => ?_)
       clear hK K
       refine norm_ (a' := ?_) ?_ ?_
       rotate_left
       ·
        show Act.put _ (some 42) _ = _
        simp only [Act.put, List.setIfInBounds_toArray, List.set_cons_zero, List.set_cons_succ, i64_w, i32_w]
        rfl
       refine pure_ (i := 6) (N := some 43) (v := ?_) (a' := ?_) #[true, true, true, true, true, true, true, true, false] rfl rfl (any_of HT_.out (by kernel_rfl)) (fun _ _ _ h => h) (Or.inl ⟨by rfl, ?_⟩) ?_ ?_
       rotate_left
       ·
        intro w'
        go_simp
        with_reducible rfl
       rotate_left
       ·
        simp only [Act.put, List.setIfInBounds_toArray, List.set_cons_zero, List.set_cons_succ, i64_w, i32_w]
        rfl
       exact norm_ (by first | (simp only [putAll, Act.put, List.setIfInBounds_toArray, List.set_cons_zero, List.set_cons_succ]; done) | (simp only [putAll, Act.put, List.setIfInBounds_toArray, List.set_cons_zero, List.set_cons_succ]; rfl)) (hJ2_5_7 (.slice Ao27 y290.length co27, .slice Ao26 y293.length co26, gb296) _ ⟨(by (with_reducible repeat (first | apply Kd.R_alloc | apply Kd.R_drewN | apply Kd.R_drew)); exact Kd.R_mono HO280.out (fun _ hk => ⟨hk.1.1, ⟨hk.1.2.1, ⟨hk.1.2.2.1, ⟨hk.1.2.2.2, hk.2⟩⟩⟩⟩)), (by (with_reducible repeat (first | apply Kd.R_alloc | apply Kd.R_drewN | apply Kd.R_drew)); exact Kd.R_mono HO283.out (fun _ hk => ⟨hk.1.1, ⟨hk.1.2.1, ⟨hk.1.2.2.1, ⟨hk.1.2.2.2, hk.2⟩⟩⟩⟩)), (by (with_reducible repeat (first | apply Kd.R_alloc | apply Kd.R_drewN | apply Kd.R_drew)); exact Kd.R_mono HO286.out (fun _ hk => ⟨hk.1.1, ⟨hk.1.2.1, ⟨hk.1.2.2.1, ⟨hk.1.2.2.2, hk.2⟩⟩⟩⟩)), (by (with_reducible repeat (first | apply Kd.R_alloc | apply Kd.R_drewN | apply Kd.R_drew)); exact Kd.R_mono HO289.out (fun _ hk => ⟨hk.1.1, ⟨hk.1.2.1, ⟨hk.1.2.2.1, ⟨hk.1.2.2.2, hk.2⟩⟩⟩⟩)), (by (with_reducible repeat (first | apply Kd.R_alloc | apply Kd.R_drewN | apply Kd.R_drew)); exact Kd.R_mono HO292.out (fun _ hk => ⟨hk.1.1, ⟨hk.1.2.1, ⟨hk.1.2.2.1, ⟨hk.1.2.2.2, hk.2⟩⟩⟩⟩)), (by (with_reducible repeat (first | apply Kd.R_alloc | apply Kd.R_drewN | apply Kd.R_drew)); exact Kd.R_mono HO295.out (fun _ hk => ⟨hk.1.1.1.1.2, ⟨hk.1.1.1.2, ⟨hk.1.1.2, ⟨hk.1.2, hk.2⟩⟩⟩⟩)), (kU BK275.out), (kU BK276.out), (kU BK296.out), GW296.out, GE296.out, NB275_296.out, NB296_275.out, NB276_296.out, NB296_276.out, (bU3 HB.out GE275.out GE276.out GE296.out)⟩)
     ·
      skip
      rintro ⟨v291, v294⟩ w26 ⟨h0_, h1_, h2_, h3_, h4_, h5_, h6_, h7_, h8_⟩
      have n0 : Aside0 (Kd.R (Kd.int .i64) 3 w26 w.heap.size (fun k_ => some k_ ≠ (.slice Ao16 t281.length co16 : Value).ownBlock ∧ some k_ ≠ (v285 : Value).ownBlock ∧ some k_ ≠ (.slice Ao18 t287.length co18 : Value).ownBlock ∧ some k_ ≠ (v291 : Value).ownBlock ∧ some k_ ≠ (v294 : Value).ownBlock) v279 t278) := ⟨h0_⟩; have n1 : Aside0 (Kd.R (Kd.int .i64) 3 w26 w.heap.size (fun k_ => some k_ ≠ (v279 : Value).ownBlock ∧ some k_ ≠ (v285 : Value).ownBlock ∧ some k_ ≠ (.slice Ao18 t287.length co18 : Value).ownBlock ∧ some k_ ≠ (v291 : Value).ownBlock ∧ some k_ ≠ (v294 : Value).ownBlock) (.slice Ao16 t281.length co16) t281) := ⟨h1_⟩; have n2 : Aside0 (Kd.R (Kd.int .i64) 3 w26 w.heap.size (fun k_ => some k_ ≠ (v279 : Value).ownBlock ∧ some k_ ≠ (.slice Ao16 t281.length co16 : Value).ownBlock ∧ some k_ ≠ (.slice Ao18 t287.length co18 : Value).ownBlock ∧ some k_ ≠ (v291 : Value).ownBlock ∧ some k_ ≠ (v294 : Value).ownBlock) v285 t284) := ⟨h2_⟩; have n3 : Aside0 (Kd.R (Kd.int .i64) 3 w26 w.heap.size (fun k_ => some k_ ≠ (v279 : Value).ownBlock ∧ some k_ ≠ (.slice Ao16 t281.length co16 : Value).ownBlock ∧ some k_ ≠ (v285 : Value).ownBlock ∧ some k_ ≠ (v291 : Value).ownBlock ∧ some k_ ≠ (v294 : Value).ownBlock) (.slice Ao18 t287.length co18) t287) := ⟨h3_⟩; have n4 : Aside0 (Kd.R (Kd.int .i64) 3 w26 w.heap.size (fun k_ => some k_ ≠ (v279 : Value).ownBlock ∧ some k_ ≠ (.slice Ao16 t281.length co16 : Value).ownBlock ∧ some k_ ≠ (v285 : Value).ownBlock ∧ some k_ ≠ (.slice Ao18 t287.length co18 : Value).ownBlock ∧ some k_ ≠ (v294 : Value).ownBlock) v291 y290) := ⟨h4_⟩; have n5 : Aside0 (Kd.R (Kd.int .i64) 3 w26 w.heap.size (fun k_ => some k_ ≠ (v279 : Value).ownBlock ∧ some k_ ≠ (.slice Ao16 t281.length co16 : Value).ownBlock ∧ some k_ ≠ (v285 : Value).ownBlock ∧ some k_ ≠ (.slice Ao18 t287.length co18 : Value).ownBlock ∧ some k_ ≠ (v291 : Value).ownBlock) v294 y293) := ⟨h5_⟩; have n6 : Aside0 (w26.heap[gb275]? = some (.cells #[.string a0_0, .slice A0_1 l0_1.length c0_1] 25 (0, 0))) := ⟨h6_⟩; have n7 : Aside0 (w26.heap[gb276]? = some (.cells #[.slice none 0 0, .slice none 0 0] 29 (0, 0))) := ⟨h7_⟩; have n8 : Aside0 (Below w.heap.size w w26) := ⟨h8_⟩; clear HO280 HO283 HO286 HO289 BK275 BK276 HB h0_ h1_ h2_ h3_ h4_ h5_ h6_ h7_ h8_; have HO280 := n0; have HO283 := n1; have HO286 := n2; have HO289 := n3; have HO292 := n4; have HO295 := n5; have BK275 := n6; have BK276 := n7; have HB := n8; clear n0 n1 n2 n3 n4 n5 n6 n7 n8; have hHeld := trivial; obtain ⟨Ao27, co27, eo27⟩ := Kd.R_slice HO295.out; (first | subst eo27 | (injection eo27 with f1_ f2_ f3_; have f4_ := f1_.symm; have f5_ := f3_.symm; clear f1_ f2_ f3_; subst f4_; subst f5_)); obtain ⟨Ao28, co28, eo28⟩ := Kd.R_slice HO292.out; (first | subst eo28 | (injection eo28 with f1_ f2_ f3_; have f4_ := f1_.symm; have f5_ := f3_.symm; clear f1_ f2_ f3_; subst f4_; subst f5_))
      refine norm_ (a' := ?_) ?_ ?_
      rotate_left
      ·
       simp only [putAll, Act.put, List.setIfInBounds_toArray, List.set_cons_zero, List.set_cons_succ]
       rfl
      refine one_ (i := 7) (N := some 10) #[true, true, true, true, true, true, true, true, false] rfl rfl (one_of HT_.out (by kernel_rfl)) (by decide) (fun K hK => ?_)
      refine box_step ?hg (N := 10) ?hd (cs := #[.slice none 0 0, .slice none 0 0]) (t := 29) ?hr ?_; (case hd => rfl); (case hg => rfl); (case hr => first | (go_simp; done) | (go_simp; rfl))
      intro gb296 hg w29 hbox hb
      have n0 := Az (Kd.R_below (rU HO280.out) hb); have n1 := Az (Kd.R_below (rU HO283.out) hb); have n2 := Az (Kd.R_below (rU HO286.out) hb); have n3 := Az (Kd.R_below (rU HO289.out) hb); have n4 := Az (Kd.R_below (rU HO292.out) hb); have n5 := Az (Kd.R_below (rU HO295.out) hb); have n6 := Az (blk_below (g := gb275) (o := .cells #[.string a0_0, .slice A0_1 l0_1.length c0_1] 25 (0, 0)) (kU BK275.out) hb); have n7 := Az (blk_below (g := gb276) (o := .cells #[.slice none 0 0, .slice none 0 0] 29 (0, 0)) (kU BK276.out) hb); have n8 := Az (below_step (bU2 HB.out GE275.out GE276.out) hb); have n9 := Az (hbox); have n10 := Az ((by rw [hg]; exact (below_size (bU2 HB.out GE275.out GE276.out)) : w.heap.size ≤ gb296)); have n11 := Az ((by rw [hg]; exact (below_size (bU2 HB.out GE275.out GE276.out)) : w.heap.size ≤ gb296)); have n12 := Az ((by rw [hg]; exact Nat.ne_of_lt (blk_lt (g := gb275) (o := .cells #[.string a0_0, .slice A0_1 l0_1.length c0_1] 25 (0, 0)) (kU BK275.out)) : gb275 ≠ gb296)); have n13 := Az ((by rw [hg]; exact Nat.ne_of_gt (blk_lt (g := gb275) (o := .cells #[.string a0_0, .slice A0_1 l0_1.length c0_1] 25 (0, 0)) (kU BK275.out)) : gb296 ≠ gb275)); have n14 := Az ((by rw [hg]; exact Nat.ne_of_lt (blk_lt (g := gb276) (o := .cells #[.slice none 0 0, .slice none 0 0] 29 (0, 0)) (kU BK276.out)) : gb276 ≠ gb296)); have n15 := Az ((by rw [hg]; exact Nat.ne_of_gt (blk_lt (g := gb276) (o := .cells #[.slice none 0 0, .slice none 0 0] 29 (0, 0)) (kU BK276.out)) : gb296 ≠ gb276)); clear HO280 HO283 HO286 HO289 HO292 HO295 BK275 BK276 HB; have HO280 := n0; have HO283 := n1; have HO286 := n2; have HO289 := n3; have HO292 := n4; have HO295 := n5; have BK275 := n6; have BK276 := n7; have HB := n8; have BK296 := n9; have GW296 := n10; have GE296 := n11; have NB275_296 := n12; have NB296_275 := n13; have NB276_296 := n14; have NB296_276 := n15; clear n0 n1 n2 n3 n4 n5 n6 n7 n8 n9 n10 n11 n12 n13 n14 n15 hb hbox hg
      refine hK.out _ _ trivial (fun hHeld => ?_)
      clear hK K
      refine norm_ (a' := ?_) ?_ ?_
      rotate_left
      ·
       show Act.put _ (some 10) _ = _
       simp only [Act.put, List.setIfInBounds_toArray, List.set_cons_zero, List.set_cons_succ, i64_w, i32_w]
       rfl
      exact norm_ (by first | (simp only [putAll, Act.put, List.setIfInBounds_toArray, List.set_cons_zero, List.set_cons_succ]; done) | (simp only [putAll, Act.put, List.setIfInBounds_toArray, List.set_cons_zero, List.set_cons_succ]; rfl)) (hJ2_5_7 (.slice Ao28 y290.length co28, .slice Ao27 y293.length co27, gb296) _ ⟨(rU HO280.out), (rU HO283.out), (rU HO286.out), (rU HO289.out), (rU HO292.out), (rU HO295.out), (kU BK275.out), (kU BK276.out), (kU BK296.out), GW296.out, GE296.out, NB275_296.out, NB296_275.out, NB276_296.out, NB296_276.out, (bU3 HB.out GE275.out GE276.out GE296.out)⟩)
    rintro ⟨v291, v294, gb296⟩ w27 ⟨h0_, h1_, h2_, h3_, h4_, h5_, h6_, h7_, h8_, h9_, h10_, h11_, h12_, h13_, h14_, h15_⟩
    have n0 : Aside0 (Kd.R (Kd.int .i64) 3 w27 w.heap.size (fun k_ => some k_ ≠ (.slice Ao16 t281.length co16 : Value).ownBlock ∧ some k_ ≠ (v285 : Value).ownBlock ∧ some k_ ≠ (.slice Ao18 t287.length co18 : Value).ownBlock ∧ some k_ ≠ (v291 : Value).ownBlock ∧ some k_ ≠ (v294 : Value).ownBlock) v279 t278) := ⟨h0_⟩; have n1 : Aside0 (Kd.R (Kd.int .i64) 3 w27 w.heap.size (fun k_ => some k_ ≠ (v279 : Value).ownBlock ∧ some k_ ≠ (v285 : Value).ownBlock ∧ some k_ ≠ (.slice Ao18 t287.length co18 : Value).ownBlock ∧ some k_ ≠ (v291 : Value).ownBlock ∧ some k_ ≠ (v294 : Value).ownBlock) (.slice Ao16 t281.length co16) t281) := ⟨h1_⟩; have n2 : Aside0 (Kd.R (Kd.int .i64) 3 w27 w.heap.size (fun k_ => some k_ ≠ (v279 : Value).ownBlock ∧ some k_ ≠ (.slice Ao16 t281.length co16 : Value).ownBlock ∧ some k_ ≠ (.slice Ao18 t287.length co18 : Value).ownBlock ∧ some k_ ≠ (v291 : Value).ownBlock ∧ some k_ ≠ (v294 : Value).ownBlock) v285 t284) := ⟨h2_⟩; have n3 : Aside0 (Kd.R (Kd.int .i64) 3 w27 w.heap.size (fun k_ => some k_ ≠ (v279 : Value).ownBlock ∧ some k_ ≠ (.slice Ao16 t281.length co16 : Value).ownBlock ∧ some k_ ≠ (v285 : Value).ownBlock ∧ some k_ ≠ (v291 : Value).ownBlock ∧ some k_ ≠ (v294 : Value).ownBlock) (.slice Ao18 t287.length co18) t287) := ⟨h3_⟩; have n4 : Aside0 (Kd.R (Kd.int .i64) 3 w27 w.heap.size (fun k_ => some k_ ≠ (v279 : Value).ownBlock ∧ some k_ ≠ (.slice Ao16 t281.length co16 : Value).ownBlock ∧ some k_ ≠ (v285 : Value).ownBlock ∧ some k_ ≠ (.slice Ao18 t287.length co18 : Value).ownBlock ∧ some k_ ≠ (v294 : Value).ownBlock) v291 y290) := ⟨h4_⟩; have n5 : Aside0 (Kd.R (Kd.int .i64) 3 w27 w.heap.size (fun k_ => some k_ ≠ (v279 : Value).ownBlock ∧ some k_ ≠ (.slice Ao16 t281.length co16 : Value).ownBlock ∧ some k_ ≠ (v285 : Value).ownBlock ∧ some k_ ≠ (.slice Ao18 t287.length co18 : Value).ownBlock ∧ some k_ ≠ (v291 : Value).ownBlock) v294 y293) := ⟨h5_⟩; have n6 : Aside0 (w27.heap[gb275]? = some (.cells #[.string a0_0, .slice A0_1 l0_1.length c0_1] 25 (0, 0))) := ⟨h6_⟩; have n7 : Aside0 (w27.heap[gb276]? = some (.cells #[.slice none 0 0, .slice none 0 0] 29 (0, 0))) := ⟨h7_⟩; have n8 : Aside0 (w27.heap[gb296]? = some (.cells #[.slice none 0 0, .slice none 0 0] 29 (0, 0))) := ⟨h8_⟩; have n9 : Aside0 (w.heap.size ≤ gb296) := ⟨h9_⟩; have n10 : Aside0 (w.heap.size ≤ gb296) := ⟨h10_⟩; have n11 : Aside0 (gb275 ≠ gb296) := ⟨h11_⟩; have n12 : Aside0 (gb296 ≠ gb275) := ⟨h12_⟩; have n13 : Aside0 (gb276 ≠ gb296) := ⟨h13_⟩; have n14 : Aside0 (gb296 ≠ gb276) := ⟨h14_⟩; have n15 : Aside0 (Below w.heap.size w w27) := ⟨h15_⟩; clear HO280 HO283 HO286 HO289 BK275 BK276 HB h0_ h1_ h2_ h3_ h4_ h5_ h6_ h7_ h8_ h9_ h10_ h11_ h12_ h13_ h14_ h15_; have HO280 := n0; have HO283 := n1; have HO286 := n2; have HO289 := n3; have HO292 := n4; have HO295 := n5; have BK275 := n6; have BK276 := n7; have BK296 := n8; have GW296 := n9; have GE296 := n10; have NB275_296 := n11; have NB296_275 := n12; have NB276_296 := n13; have NB296_276 := n14; have HB := n15; clear n0 n1 n2 n3 n4 n5 n6 n7 n8 n9 n10 n11 n12 n13 n14 n15; have hHeld := trivial; obtain ⟨Ao28, co28, eo28⟩ := Kd.R_slice HO295.out; (first | subst eo28 | (injection eo28 with f1_ f2_ f3_; have f4_ := f1_.symm; have f5_ := f3_.symm; clear f1_ f2_ f3_; subst f4_; subst f5_)); obtain ⟨Ao29, co29, eo29⟩ := Kd.R_slice HO292.out; (first | subst eo29 | (injection eo29 with f1_ f2_ f3_; have f4_ := f1_.symm; have f5_ := f3_.symm; clear f1_ f2_ f3_; subst f4_; subst f5_))
    refine norm_ (a' := ?_) ?_ ?_
    rotate_left
    ·
     simp only [putAll, Act.put, List.setIfInBounds_toArray, List.set_cons_zero, List.set_cons_succ]
     rfl
    refine one_ (i := 8) (N := none) #[true, true, true, true, true, true, true, true, true] rfl rfl (one_of HT_.out (by kernel_rfl)) (by decide) (fun K hK => ?_)
    have hs30 : w27.cell? ⟨gb296, 0, none⟩ = some (.slice none 0 0) := (blk_cell BK296.out 0).trans rfl; have hfs30 := blk_frozen BK296.out 0; have hns30_0 := NB275_296.out; have hns30_1 := NB276_296.out; have hms30_0 := NB296_275.out; have hms30_1 := NB296_276.out; have hs31 : w27.cell? ⟨gb296, 1, none⟩ = some (.slice none 0 0) := (blk_cell BK296.out 1).trans rfl; have hfs31 := blk_frozen BK296.out 1; have hns31_0 := NB275_296.out; have hns31_1 := NB276_296.out; have hms31_0 := NB296_275.out; have hms31_1 := NB296_276.out
    refine skip_ (w1 := ?_) (by rfl) rfl ?_ ?_
    rotate_left
    ·
     go_simp
     rfl
    refine hK.out _ _ trivial (fun hHeld => ?_)
    clear hK K
    refine done_ (done_of HT_.out (by kernel_rfl)) ?_
    try go_wp2
    go_loopg [45] k (fun kq v45 w' => ∃ (x5_1 : List Int) (x8_1 : List Int) (x45_1 : Int) (xZ0_1 : List Int) (xZ1_1 : List Int) (uZ0 : Value) (uZ1 : Value), v45 = .int .i64 x45_1 ∧ Aside0 (impl_TreeQuad.l0 kq x5_1 x8_1 (t287.length : Int) (t287.length : Int) x45_1 xZ0_1 xZ1_1 = some (r1, r2, r3, r4)) ∧ Aside0 (kq ≤ k) ∧ Aside0 (Kd.R (Kd.int .i64) 3 w' w.heap.size (fun k_ => some k_ ≠ ((.slice Ao18 t287.length co18) : Value).ownBlock ∧ some k_ ≠ (uZ0 : Value).ownBlock ∧ some k_ ≠ (uZ1 : Value).ownBlock) v279 x5_1) ∧ Aside0 (Kd.R (Kd.int .i64) 3 w' w.heap.size (fun k_ => some k_ ≠ (v279 : Value).ownBlock ∧ some k_ ≠ (uZ0 : Value).ownBlock ∧ some k_ ≠ (uZ1 : Value).ownBlock) (.slice Ao18 t287.length co18) x8_1) ∧ Aside0 (Kd.R (Kd.int .i64) 3 w' w.heap.size (fun k_ => some k_ ≠ (v279 : Value).ownBlock ∧ some k_ ≠ ((.slice Ao18 t287.length co18) : Value).ownBlock ∧ some k_ ≠ (uZ1 : Value).ownBlock) uZ0 xZ0_1) ∧ Aside0 (Kd.R (Kd.int .i64) 3 w' w.heap.size (fun k_ => some k_ ≠ (v279 : Value).ownBlock ∧ some k_ ≠ ((.slice Ao18 t287.length co18) : Value).ownBlock ∧ some k_ ≠ (uZ0 : Value).ownBlock) uZ1 xZ1_1) ∧ Aside0 (w'.heap[gb275]? = some (.cells #[.string a0_0, (.slice A0_1 l0_1.length c0_1)] 25 (0, 0))) ∧ Aside0 (w'.heap[gb276]? = some (.cells #[(.slice none 0 0), (.slice none 0 0)] 29 (0, 0))) ∧ Aside0 (w'.heap[gb296]? = some (.cells #[uZ0, uZ1] 29 (0, 0))) ∧ Aside0 (Below w.heap.size w w'))
    case atStart => exact ⟨(t278), (t287), (0), (y290), (y293), (.slice Ao29 y290.length co29), (.slice Ao28 y293.length co28), rS, H', ⟨Nat.le_refl _⟩, ⟨by (with_reducible repeat (first | apply Kd.R_alloc | apply Kd.R_drewN | apply Kd.R_drew)); exact Kd.R_mono (Kd.R_far (p := ⟨gb296, 1, none⟩) (Kd.R_far (p := ⟨gb296, 0, none⟩) (Kd.R_types HO280.out BK296.out (by decide)) (fun _ hk => hk.2) (.slice Ao29 y290.length co29)) (fun _ hk => hk.2) (.slice Ao28 y293.length co28)) (fun _ hk => ⟨hk.1.2.2.1, ⟨hk.1.2.2.2.1, hk.1.2.2.2.2⟩⟩)⟩, ⟨by (with_reducible repeat (first | apply Kd.R_alloc | apply Kd.R_drewN | apply Kd.R_drew)); exact Kd.R_mono (Kd.R_far (p := ⟨gb296, 1, none⟩) (Kd.R_far (p := ⟨gb296, 0, none⟩) (Kd.R_types HO289.out BK296.out (by decide)) (fun _ hk => hk.2) (.slice Ao29 y290.length co29)) (fun _ hk => hk.2) (.slice Ao28 y293.length co28)) (fun _ hk => ⟨hk.1.1, ⟨hk.1.2.2.2.1, hk.1.2.2.2.2⟩⟩)⟩, ⟨by (with_reducible repeat (first | apply Kd.R_alloc | apply Kd.R_drewN | apply Kd.R_drew)); exact Kd.R_mono (Kd.R_far (p := ⟨gb296, 1, none⟩) (Kd.R_far (p := ⟨gb296, 0, none⟩) (Kd.R_types HO292.out BK296.out (by decide)) (fun _ hk => hk.2) (.slice Ao29 y290.length co29)) (fun _ hk => hk.2) (.slice Ao28 y293.length co28)) (fun _ hk => ⟨hk.1.1, ⟨hk.1.2.2.2.1, hk.1.2.2.2.2⟩⟩)⟩, ⟨by (with_reducible repeat (first | apply Kd.R_alloc | apply Kd.R_drewN | apply Kd.R_drew)); exact Kd.R_mono (Kd.R_far (p := ⟨gb296, 1, none⟩) (Kd.R_far (p := ⟨gb296, 0, none⟩) (Kd.R_types HO295.out BK296.out (by decide)) (fun _ hk => hk.2) (.slice Ao29 y290.length co29)) (fun _ hk => hk.2) (.slice Ao28 y293.length co28)) (fun _ hk => ⟨hk.1.1, ⟨hk.1.2.2.2.1, hk.1.2.2.2.2⟩⟩)⟩, ⟨by (with_reducible repeat (first | refine blk_drewN ?_ _ | refine blk_drew ?_ | refine blk_alloc ?_ _)); refine blk_far ?_ NB275_296.out _; (with_reducible repeat (first | refine blk_drewN ?_ _ | refine blk_drew ?_ | refine blk_alloc ?_ _)); refine blk_far ?_ NB275_296.out _; (with_reducible repeat (first | refine blk_drewN ?_ _ | refine blk_drew ?_ | refine blk_alloc ?_ _)); exact BK275.out⟩, ⟨by (with_reducible repeat (first | refine blk_drewN ?_ _ | refine blk_drew ?_ | refine blk_alloc ?_ _)); refine blk_far ?_ NB276_296.out _; (with_reducible repeat (first | refine blk_drewN ?_ _ | refine blk_drew ?_ | refine blk_alloc ?_ _)); refine blk_far ?_ NB276_296.out _; (with_reducible repeat (first | refine blk_drewN ?_ _ | refine blk_drew ?_ | refine blk_alloc ?_ _)); exact BK276.out⟩, ⟨by (with_reducible repeat (first | refine blk_drewN ?_ _ | refine blk_drew ?_ | refine blk_alloc ?_ _)); refine blk_put (cs := #[.slice Ao29 y290.length co29, .slice none 0 0]) ?_ 1 _ rfl; (with_reducible repeat (first | refine blk_drewN ?_ _ | refine blk_drew ?_ | refine blk_alloc ?_ _)); refine blk_put (cs := #[.slice none 0 0, .slice none 0 0]) ?_ 0 _ rfl; (with_reducible repeat (first | refine blk_drewN ?_ _ | refine blk_drew ?_ | refine blk_alloc ?_ _)); exact BK296.out⟩, ⟨bU3 HB.out GE275.out GE276.out GE296.out⟩⟩
    case round =>
     clear H'; (try clear p2); obtain ⟨x5_1, x8_1, x45_1, xZ0_1, xZ1_1, uZ0, uZ1, rfl, HA, HK1, HO_5, HO_8, HO_Z0, HO_Z1, BK275, BK276, BK296, HB⟩ := hrel; have hl8_1 := (Kd.R_reads' HO_8.out).1; rw [hl8_1] at HO_8; (try simp only [hl8_1]); (try simp only [hl8_1] at BK275); (try simp only [hl8_1] at BK276); (try simp only [hl8_1] at BK296); (try simp only [hl8_1] at HO_5); (try simp only [hl8_1] at HO_Z0); (try simp only [hl8_1] at HO_Z1)
     cases gk with
     | zero => exact absurd HA.out (by simp [impl_TreeQuad.l0])
     | succ k1 =>
      have H := HA.out; clear HA; simp only [impl_TreeQuad.l0] at H
      by_cases c32 : x45_1 < (t287.length : Int)
      ·
       rw [if_pos c32] at H; have c32b0 := decide_eq_true c32; (try (have c32b0hl8_1 := c32b0; rw [hl8_1] at c32b0hl8_1)); clear c32; obtain ⟨ji33, hji33⟩ : ∃ j_ : Int, (wrap64 (2 * x45_1)) = j_ := ⟨_, rfl⟩
       replace H : (if 0 ≤ (ji33) then (if (ji33) < (xZ1_1.length : Int) then (if 0 ≤ (wrap64 ((ji33) + 1)) then (if (wrap64 ((ji33) + 1)) < (xZ1_1.length : Int) then (impl_TreeQuad.l0 k1 x5_1 x8_1 (t287.length : Int) (t287.length : Int) (wrap64 (x45_1 + 1)) xZ0_1 ((xZ1_1.set ((ji33) : Int).toNat (wrap64 ((ji33) + 1))).set ((wrap64 ((ji33) + 1)) : Int).toNat (ji33))) else (none)) else (none)) else (none)) else (none)) = some (r1, r2, r3, r4) := by first | (rw [hji33] at H; exact H) | (simp only [hji33] at H ⊢; exact H)
       have hji33w : (IntKind.i64.wrap (2 * x45_1)) = ji33 := (i64_w _).trans hji33
       by_cases c34 : 0 ≤ (ji33)
       ·
        rw [if_pos c34] at H; have c34b0 := decide_eq_true c34; clear c34
        by_cases c35 : (ji33) < (xZ1_1.length : Int)
        ·
         rw [if_pos c35] at H; have c35b0 := decide_eq_true c35; (try (have c35b0hl8_1 := c35b0; rw [hl8_1] at c35b0hl8_1)); clear c35; obtain ⟨y297, hy297⟩ : ∃ y_ : List Int, y_ = (xZ1_1.set ((ji33) : Int).toNat (wrap64 ((ji33) + 1))) := ⟨_, rfl⟩; replace H : (if 0 ≤ (wrap64 ((ji33) + 1)) then (if (wrap64 ((ji33) + 1)) < (xZ1_1.length : Int) then (impl_TreeQuad.l0 k1 x5_1 x8_1 (t287.length : Int) (t287.length : Int) (wrap64 (x45_1 + 1)) xZ0_1 (y297.set ((wrap64 ((ji33) + 1)) : Int).toNat (ji33))) else (none)) else (none)) = some (r1, r2, r3, r4) := hR hy297 H; have Ny297 := Az hy297; clear hy297; obtain ⟨ji37, hji37⟩ : ∃ j_ : Int, (wrap64 ((ji33) + 1)) = j_ := ⟨_, rfl⟩
         replace H : (if 0 ≤ (ji37) then (if (ji37) < (xZ1_1.length : Int) then (impl_TreeQuad.l0 k1 x5_1 x8_1 (t287.length : Int) (t287.length : Int) (wrap64 (x45_1 + 1)) xZ0_1 (y297.set ((ji37) : Int).toNat (ji33))) else (none)) else (none)) = some (r1, r2, r3, r4) := by first | (rw [hji37] at H; exact H) | (simp only [hji37] at H ⊢; exact H)
         (try rw [hji37] at Ny297); have hji37w : (IntKind.i64.wrap ((ji33) + 1)) = ji37 := (i64_w _).trans hji37
         by_cases c38 : 0 ≤ (ji37)
         ·
          rw [if_pos c38] at H; have c38b0 := decide_eq_true c38; clear c38
          by_cases c39 : (ji37) < (xZ1_1.length : Int)
          ·
           rw [if_pos c39] at H; have c39b0 := decide_eq_true c39; (try (have c39b0hl8_1 := c39b0; rw [hl8_1] at c39b0hl8_1)); clear c39; obtain ⟨y298, hy298⟩ : ∃ y_ : List Int, y_ = (y297.set ((ji37) : Int).toNat (ji33)) := ⟨_, rfl⟩; replace H : (impl_TreeQuad.l0 k1 x5_1 x8_1 (t287.length : Int) (t287.length : Int) (wrap64 (x45_1 + 1)) xZ0_1 y298) = some (r1, r2, r3, r4) := hR hy298 H; have Ny298 := Az hy298; clear hy298; have H' := Az H; clear H
           try go_wp2
           have n0 := Az (Kd.R_drew HO_5.out); have n1 := Az (Kd.R_drew HO_8.out); have n2 := Az (Kd.R_drew HO_Z0.out); have n3 := Az (Kd.R_drew HO_Z1.out); have n4 := Az (blk_drew BK275.out); have n5 := Az (blk_drew BK276.out); have n6 := Az (blk_drew BK296.out); have n7 := Az (below_drew1 HB.out); clear HO_5 HO_8 HO_Z0 HO_Z1 BK275 BK276 BK296 HB; have HO_5 := n0; have HO_8 := n1; have HO_Z0 := n2; have HO_Z1 := n3; have BK275 := n4; have BK276 := n5; have BK296 := n6; have HB := n7; clear n0 n1 n2 n3 n4 n5 n6 n7; have p36 : 0 ≤ ((ji33) : Int) := oA; have q36 : ((ji33) : Int) < ((xZ1_1.length : Int) : Int) := oA; obtain ⟨go36, co36, eo36, gb36, gl36, cl36, HG36⟩ := Kd.R_form HO_Z1.out (by omega); (first | cases eo36 | (injection eo36 with ea_ en_ ec_; (first | subst ea_ | (injection ea_ with ea_; subst ea_)); subst ec_; clear en_)); have GB36 := Az gb36; have GG36 := Az HG36; clear gb36 gl36 HG36; obtain ⟨hx36_0, hf36_0⟩ := Kd.R_celln 0 HO_Z1.out ((ji33) : Int) p36 q36; replace p36 := eq_true p36; replace q36 := eq_true q36; have HP42 := Kd.R_putn HO_Z1.out ((ji33) : Int) ji37; rw [← Ny297.out] at HP42; have HQ42 := Az HP42; clear HP42; have p40 : 0 ≤ ((ji37) : Int) := oA; have q40 : ((ji37) : Int) < ((xZ1_1.length : Int) : Int) := oA; obtain ⟨hx40_0, hf40_0⟩ := Kd.R_celln 0 HQ42.out ((ji37) : Int) p40 q40; replace p40 := eq_true p40; replace q40 := eq_true q40; have HP43 := Kd.R_putn HQ42.out ((ji37) : Int) ji33; rw [← Ny298.out] at HP43; have HQ43 := Az HP43; clear HP43
           refine start_ (n := 18) (S := fun w' => w'.cell? ⟨gb296, 0, none⟩ = some (uZ0) ∧ w'.cell? ⟨gb296, 1, none⟩ = some (.slice (some ⟨go36, 0, none⟩) xZ1_1.length co36)) (ds := [17]) (impl_TreeQuad_up [(0, some 48), (2, some 50), (3, some 51), (4, some 52), (6, some 54), (7, some 55), (8, some 56), (9, some 57), (10, some 58), (11, some 59), (12, some 60), (13, some 61), (1, some 49), (14, some 62), (5, some 53), (15, none), (16, some 63), (17, none)] 18) (by kernel_rfl) rfl rfl ⟨(blk_cell BK296.out 0).trans rfl, (blk_cell BK296.out 1).trans rfl⟩ (fun hHeld => ?_); refine with_tabW impl_TreeQuad.tab10 impl_TreeQuad.bits10 (fun HT_ HW_ => ?_)
           generalize wr.drew = w41 at HO_5 HO_8 HO_Z0 HO_Z1 BK275 BK276 BK296 HB GG36 HQ42 HQ43 hf36_0 hf40_0 hx36_0 hx40_0 hHeld ⊢
           repeat (first | (refine impl_TreeQuad_uP rfl rfl (any_of HT_.out (by kernel_rfl)) (fun _ _ _ h => h) (by rfl) (v := ?_) (a' := ?_) ?_ ?_ ?_; rotate_left; (· intro w'; go_simp; with_reducible rfl); rotate_left; (· simp only [Act.put, List.setIfInBounds_toArray, List.set_cons_zero, List.set_cons_succ, i64_w, i32_w]; rfl)) | (refine impl_TreeQuad_uT rfl rfl (take_ofW HT_.out HW_.out (by kernel_rfl)) (fun _ _ _ h => h) (by rfl) (v := ?_) (a' := ?_) ?_ hHeld ?_ ?_; rotate_left; (· rintro w' ⟨s0, s1⟩; go_simp; with_reducible rfl); rotate_left; (· simp only [Act.put, List.setIfInBounds_toArray, List.set_cons_zero, List.set_cons_succ, i64_w, i32_w]; rfl)))
           refine impl_TreeQuad_uO rfl rfl (one_of HT_.out (by kernel_rfl)) (by decide) (fun K hK => ?_)
           refine skip_ (w1 := ?_) (by rfl) rfl ?_ ?_
           rotate_left
           ·
            go_simp
            rfl
           refine hK.out _ _ ⟨((cell_far (p := ⟨go36, _, none⟩) (by have h_ := Kd.R_ne HO_Z1.out BK296.out (by decide); intro e_; exact h_ (by first | exact congrArg some e_ | (rw [e_]; rfl))) _).trans (hHeld.1)), ((cell_far (p := ⟨go36, _, none⟩) (by have h_ := Kd.R_ne HO_Z1.out BK296.out (by decide); intro e_; exact h_ (by first | exact congrArg some e_ | (rw [e_]; rfl))) _).trans (hHeld.2))⟩ (fun hHeld => ?_)
           clear hK K
           repeat (first | (refine impl_TreeQuad_uP rfl rfl (any_of HT_.out (by kernel_rfl)) (fun _ _ _ h => h) (by rfl) (v := ?_) (a' := ?_) ?_ ?_ ?_; rotate_left; (· intro w'; go_simp; with_reducible rfl); rotate_left; (· simp only [Act.put, List.setIfInBounds_toArray, List.set_cons_zero, List.set_cons_succ, i64_w, i32_w]; rfl)))
           refine impl_TreeQuad_uL rfl rfl (one_of HT_.out (by kernel_rfl)) (by decide) (fun K hK => ?_)
           refine skip_ (w1 := ?_) (by rfl) rfl ?_ ?_
           rotate_left
           ·
            go_simp
            rfl
           refine hK.out _ _ ?_
           clear hK K
           refine done_ (done_of HT_.out (by kernel_rfl)) ?_
           try go_wp2
           (try simp only [← hl8_1]); (first | go_roundg k1 | (refine Handed.intro k1 ?measure ?_; rotate_left; go_step; (try simp only [add_plain]); (repeat apply Exists.intro); refine ⟨?rel, rfl⟩))
           case measure => have := HK1.out; omega
           case rel => exact ⟨(x5_1), (x8_1), (wrap64 (x45_1 + 1)), (xZ0_1), (y298), (uZ0), (.slice (some ⟨go36, 0, none⟩) xZ1_1.length co36), rS, H', ⟨by have := HK1.out; omega⟩, ⟨by (try simp only [hl8_1]); (with_reducible repeat (first | apply Kd.R_alloc | apply Kd.R_drewN | apply Kd.R_drew)); exact Kd.R_mono (Kd.R_far (p := ⟨go36, ((ji37) : Int).toNat, none⟩) (Kd.R_far (p := ⟨go36, ((ji33) : Int).toNat, none⟩) (Kd.R_mono HO_5.out (fun k_ hk => (⟨hk, fun e_ => hk.2.2 (by rw [e_]; rfl)⟩ : _ ∧ k_ ≠ go36))) (fun _ hk => hk.2) (.int .i64 ji37)) (fun _ hk => hk.2) (.int .i64 ji33)) (fun _ hk => ⟨hk.1.1, ⟨hk.1.2.1, hk.1.2.2⟩⟩)⟩, ⟨by (try simp only [hl8_1]); (with_reducible repeat (first | apply Kd.R_alloc | apply Kd.R_drewN | apply Kd.R_drew)); exact Kd.R_mono (Kd.R_far (p := ⟨go36, ((ji37) : Int).toNat, none⟩) (Kd.R_far (p := ⟨go36, ((ji33) : Int).toNat, none⟩) (Kd.R_mono HO_8.out (fun k_ hk => (⟨hk, fun e_ => hk.2.2 (by rw [e_]; rfl)⟩ : _ ∧ k_ ≠ go36))) (fun _ hk => hk.2) (.int .i64 ji37)) (fun _ hk => hk.2) (.int .i64 ji33)) (fun _ hk => ⟨hk.1.1, ⟨hk.1.2.1, hk.1.2.2⟩⟩)⟩, ⟨by (try simp only [hl8_1]); (with_reducible repeat (first | apply Kd.R_alloc | apply Kd.R_drewN | apply Kd.R_drew)); exact Kd.R_mono (Kd.R_far (p := ⟨go36, ((ji37) : Int).toNat, none⟩) (Kd.R_far (p := ⟨go36, ((ji33) : Int).toNat, none⟩) (Kd.R_mono HO_Z0.out (fun k_ hk => (⟨hk, fun e_ => hk.2.2 (by rw [e_]; rfl)⟩ : _ ∧ k_ ≠ go36))) (fun _ hk => hk.2) (.int .i64 ji37)) (fun _ hk => hk.2) (.int .i64 ji33)) (fun _ hk => ⟨hk.1.1, ⟨hk.1.2.1, hk.1.2.2⟩⟩)⟩, ⟨by (try simp only [hl8_1]); (with_reducible repeat (first | apply Kd.R_alloc | apply Kd.R_drewN | apply Kd.R_drew)); exact HQ43.out⟩, ⟨by (try simp only [hl8_1]); (with_reducible repeat (first | refine blk_drewN ?_ _ | refine blk_drew ?_ | refine blk_alloc ?_ _)); refine blk_far ?_ (by have h_ := Kd.R_ne HO_Z1.out BK275.out (by decide); intro e_; exact h_ (by rw [e_]; rfl)) _; (with_reducible repeat (first | refine blk_drewN ?_ _ | refine blk_drew ?_ | refine blk_alloc ?_ _)); refine blk_far ?_ (by have h_ := Kd.R_ne HO_Z1.out BK275.out (by decide); intro e_; exact h_ (by rw [e_]; rfl)) _; (with_reducible repeat (first | refine blk_drewN ?_ _ | refine blk_drew ?_ | refine blk_alloc ?_ _)); exact BK275.out⟩, ⟨by (try simp only [hl8_1]); (with_reducible repeat (first | refine blk_drewN ?_ _ | refine blk_drew ?_ | refine blk_alloc ?_ _)); refine blk_far ?_ (by have h_ := Kd.R_ne HO_Z1.out BK276.out (by decide); intro e_; exact h_ (by rw [e_]; rfl)) _; (with_reducible repeat (first | refine blk_drewN ?_ _ | refine blk_drew ?_ | refine blk_alloc ?_ _)); refine blk_far ?_ (by have h_ := Kd.R_ne HO_Z1.out BK276.out (by decide); intro e_; exact h_ (by rw [e_]; rfl)) _; (with_reducible repeat (first | refine blk_drewN ?_ _ | refine blk_drew ?_ | refine blk_alloc ?_ _)); exact BK276.out⟩, ⟨by (try simp only [hl8_1]); (with_reducible repeat (first | refine blk_drewN ?_ _ | refine blk_drew ?_ | refine blk_alloc ?_ _)); refine blk_far ?_ (by have h_ := Kd.R_ne HO_Z1.out BK296.out (by decide); intro e_; exact h_ (by rw [e_]; rfl)) _; (with_reducible repeat (first | refine blk_drewN ?_ _ | refine blk_drew ?_ | refine blk_alloc ?_ _)); refine blk_far ?_ (by have h_ := Kd.R_ne HO_Z1.out BK296.out (by decide); intro e_; exact h_ (by rw [e_]; rfl)) _; (with_reducible repeat (first | refine blk_drewN ?_ _ | refine blk_drew ?_ | refine blk_alloc ?_ _)); exact BK296.out⟩, ⟨bU5 HB.out GB36.out GB36.out GE275.out GE276.out GE296.out⟩⟩
          ·
           rw [if_neg c39] at H
           exact absurd H (by simp)
         ·
          rw [if_neg c38] at H
          exact absurd H (by simp)
        ·
         rw [if_neg c35] at H
         exact absurd H (by simp)
       ·
        rw [if_neg c34] at H
        exact absurd H (by simp)
      ·
       rw [if_neg c32] at H; have c32b0 := decide_eq_false c32; (try (have c32b0hl8_1 := c32b0; rw [hl8_1] at c32b0hl8_1)); clear c32; obtain ⟨ji44, hji44⟩ : ∃ j_ : Int, (wrap64 ((t287.length : Int) + 1)) = j_ := ⟨_, rfl⟩; (try (have hji44hl8_1 := hji44; rw [hl8_1] at hji44hl8_1))
       replace H : (if 0 ≤ (ji44) then (if (ji44 : Int).toNat ≤ 11728124029610 then (impl_TreeQuad.l1 k1 x8_1 (t287.length : Int) (List.replicate (ji44 : Int).toNat []) x5_1 (x5_1.length : Int) 0 xZ0_1 xZ1_1) else (none)) else (none)) = some (r1, r2, r3, r4) := by first | (rw [hji44] at H; exact H) | (simp only [hji44] at H ⊢; exact H)
       have hji44w : (IntKind.i64.wrap ((t287.length : Int) + 1)) = ji44 := (i64_w _).trans hji44; (try (have hji44hl8_1 := hji44; rw [hl8_1] at hji44hl8_1)); (try (have hji44whl8_1 := hji44w; rw [hl8_1] at hji44whl8_1))
       by_cases c45 : 0 ≤ (ji44)
       ·
        rw [if_pos c45] at H; have c45b0 := eq_true c45; have c45b1 := decide_eq_true c45; clear c45
        by_cases c46 : (ji44 : Int).toNat ≤ 11728124029610
        ·
         rw [if_pos c46] at H; have c46b0 := eq_true c46; have c46b1 := decide_eq_true c46; clear c46; obtain ⟨y299, hy299⟩ : ∃ y_ : List (List Int), y_ = (List.replicate (ji44 : Int).toNat []) := ⟨_, rfl⟩; replace H : (impl_TreeQuad.l1 k1 x8_1 (t287.length : Int) y299 x5_1 (x5_1.length : Int) 0 xZ0_1 xZ1_1) = some (r1, r2, r3, r4) := hR hy299 H; have Ny299 := Az hy299; clear hy299; have H' := Az H; clear H
         go_wp2_with (first | ((with_reducible refine gate_dst (N := 67) rfl ?_); refine Kd.S_make (Kd.slice 3 (Kd.int .i64)) _ 23 rfl (N := 67) rfl 82 _ _ rfl ji44 rfl rfl Try.underlying82 (.slice none 0 0) 24 info23 rfl (by decide) (by omega) [] (ok := fun _ => True) (okp := fun _ => True) ⟨_, rfl, Kd.R_nil _ _ _ _ _⟩ (fun _ hk => hk) trivial (oA) (Nat.le_trans (Nat.mul_le_mul_right _ (oA : ji44.toNat ≤ 11728124029610)) (by omega)) (Below.refl _ _) (Nat.le_refl _) ?_; intro v300 w47 ho48 hb hg_ hnew_; clear hg_ hnew_; (first | rw [← Ny299.out] at ho48 | (simp only [Int.reduceToNat] at ho48; rw [← Ny299.out] at ho48)); have n0 := Az (Kd.R_below (rU HO_5.out) hb); have n1 := Az (Kd.R_below (rU HO_8.out) hb); have n2 := Az (Kd.R_below (rU HO_Z0.out) hb); have n3 := Az (Kd.R_below (rU HO_Z1.out) hb); have n4 := Az (Kd.S_lower (Kd.S_new' (Kd.S_new' (Kd.S_new' (Kd.S_new' ho48 (Kd.R_lt (rU HO_5.out))) (Kd.R_lt (rU HO_8.out))) (Kd.R_lt (rU HO_Z0.out))) (Kd.R_lt (rU HO_Z1.out))) (below_size (bU3 HB.out GE275.out GE276.out GE296.out))); have n5 := Az (blk_below (g := gb275) (o := .cells #[.string a0_0, .slice A0_1 l0_1.length c0_1] 25 (0, 0)) (kU BK275.out) hb); have n6 := Az (blk_below (g := gb276) (o := .cells #[.slice none 0 0, .slice none 0 0] 29 (0, 0)) (kU BK276.out) hb); have n7 := Az (blk_below (g := gb296) (o := .cells #[uZ0, uZ1] 29 (0, 0)) (kU BK296.out) hb); have n8 := Az (below_step (bU3 HB.out GE275.out GE276.out GE296.out) hb); clear HO_5 HO_8 HO_Z0 HO_Z1 BK275 BK276 BK296 HB; have HO_5 := n0; have HO_8 := n1; have HO_Z0 := n2; have HO_Z1 := n3; have HO301 := n4; have BK275 := n5; have BK276 := n6; have BK296 := n7; have HB := n8; clear n0 n1 n2 n3 n4 n5 n6 n7 n8 hb ho48; obtain ⟨Ao49, co49, eo49⟩ := Kd.R_slice HO_5.out; subst eo49))
         go_loopg [70] k1 (fun kq v70 w' => ∃ (x12_2 : List (List Int)) (x70_2 : Int), v70 = .int .i64 x70_2 ∧ Aside0 (impl_TreeQuad.l1 kq x8_1 (t287.length : Int) x12_2 x5_1 (x5_1.length : Int) x70_2 xZ0_1 xZ1_1 = some (r1, r2, r3, r4)) ∧ Aside0 (kq ≤ k1) ∧ Aside0 (Kd.R (Kd.int .i64) 3 w' w.heap.size (fun k_ => some k_ ≠ ((.slice Ao49 x5_1.length co49) : Value).ownBlock ∧ some k_ ≠ (uZ0 : Value).ownBlock ∧ some k_ ≠ (uZ1 : Value).ownBlock) (.slice Ao18 x8_1.length co18) x8_1) ∧ Aside0 (Kd.S (Kd.slice 3 (Kd.int .i64)) 23 w' w.heap.size (fun k_ => some k_ ≠ ((.slice Ao18 x8_1.length co18) : Value).ownBlock ∧ some k_ ≠ ((.slice Ao49 x5_1.length co49) : Value).ownBlock ∧ some k_ ≠ (uZ0 : Value).ownBlock ∧ some k_ ≠ (uZ1 : Value).ownBlock) v300 x12_2) ∧ Aside0 (Kd.R (Kd.int .i64) 3 w' w.heap.size (fun k_ => some k_ ≠ ((.slice Ao18 x8_1.length co18) : Value).ownBlock ∧ some k_ ≠ (uZ0 : Value).ownBlock ∧ some k_ ≠ (uZ1 : Value).ownBlock) (.slice Ao49 x5_1.length co49) x5_1) ∧ Aside0 (Kd.R (Kd.int .i64) 3 w' w.heap.size (fun k_ => some k_ ≠ ((.slice Ao18 x8_1.length co18) : Value).ownBlock ∧ some k_ ≠ ((.slice Ao49 x5_1.length co49) : Value).ownBlock ∧ some k_ ≠ (uZ1 : Value).ownBlock) uZ0 xZ0_1) ∧ Aside0 (Kd.R (Kd.int .i64) 3 w' w.heap.size (fun k_ => some k_ ≠ ((.slice Ao18 x8_1.length co18) : Value).ownBlock ∧ some k_ ≠ ((.slice Ao49 x5_1.length co49) : Value).ownBlock ∧ some k_ ≠ (uZ0 : Value).ownBlock) uZ1 xZ1_1) ∧ Aside0 (w'.heap[gb275]? = some (.cells #[.string a0_0, (.slice A0_1 l0_1.length c0_1)] 25 (0, 0))) ∧ Aside0 (w'.heap[gb276]? = some (.cells #[(.slice none 0 0), (.slice none 0 0)] 29 (0, 0))) ∧ Aside0 (w'.heap[gb296]? = some (.cells #[uZ0, uZ1] 29 (0, 0))) ∧ Aside0 (Below w.heap.size w w'))
         case atStart => exact ⟨(y299), (0), rS, H', ⟨Nat.le_refl _⟩, ⟨by (try simp only [hl8_1]); (with_reducible repeat (first | apply Kd.R_alloc | apply Kd.R_drewN | apply Kd.R_drew)); exact HO_8.out⟩, ⟨by (try simp only [hl8_1]); (with_reducible repeat (first | apply Kd.S_alloc | apply Kd.S_drewN | apply Kd.S_drew)); exact Kd.S_mono HO301.out (fun _ hk => ⟨hk.1.1.2, ⟨hk.1.1.1.2, ⟨hk.1.2, hk.2⟩⟩⟩)⟩, ⟨by (try simp only [hl8_1]); (with_reducible repeat (first | apply Kd.R_alloc | apply Kd.R_drewN | apply Kd.R_drew)); exact HO_5.out⟩, ⟨by (try simp only [hl8_1]); (with_reducible repeat (first | apply Kd.R_alloc | apply Kd.R_drewN | apply Kd.R_drew)); exact Kd.R_mono HO_Z0.out (fun _ hk => ⟨hk.2.1, ⟨hk.1, hk.2.2⟩⟩)⟩, ⟨by (try simp only [hl8_1]); (with_reducible repeat (first | apply Kd.R_alloc | apply Kd.R_drewN | apply Kd.R_drew)); exact Kd.R_mono HO_Z1.out (fun _ hk => ⟨hk.2.1, ⟨hk.1, hk.2.2⟩⟩)⟩, ⟨by (try simp only [hl8_1]); (with_reducible repeat (first | refine blk_drewN ?_ _ | refine blk_drew ?_ | refine blk_alloc ?_ _)); exact BK275.out⟩, ⟨by (try simp only [hl8_1]); (with_reducible repeat (first | refine blk_drewN ?_ _ | refine blk_drew ?_ | refine blk_alloc ?_ _)); exact BK276.out⟩, ⟨by (try simp only [hl8_1]); (with_reducible repeat (first | refine blk_drewN ?_ _ | refine blk_drew ?_ | refine blk_alloc ?_ _)); exact BK296.out⟩, ⟨bU3 HB.out GE275.out GE276.out GE296.out⟩⟩
         case round =>
          clear H'; (try clear p2); (try clear c3); (try clear p3); (try clear q3); (try clear hx3); (try clear hf3); (try clear c4); (try clear p4); (try clear q4); (try clear hx4); (try clear hf4); (try clear p6); (try clear c32); (try clear c32b0); (try clear c34); (try clear c34b0); (try clear c35); (try clear c35b0); (try clear p36); (try clear q36); (try clear hx36); (try clear hf36); (try clear c38); (try clear c38b0); (try clear c39); (try clear c39b0); (try clear p40); (try clear q40); (try clear hx40); (try clear hf40); (try clear c45); (try clear c45b0); (try clear c45b1); (try clear c46); (try clear c46b0); (try clear c46b1); (try clear hx36_0); (try clear hx40_0); (try clear p2); (try clear p36); (try clear p40); (try clear q36); (try clear q40); obtain ⟨x12_2, x70_2, rfl, HA, HK2, HO_8, HO_12, HO_68, HO_Z0, HO_Z1, BK275, BK276, BK296, HB⟩ := hrel
          cases gk with
          | zero => exact absurd HA.out (by simp [impl_TreeQuad.l1])
          | succ k2 =>
           have H := HA.out; clear HA; simp only [impl_TreeQuad.l1] at H
           by_cases c50 : x70_2 < (x5_1.length : Int)
           ·
            rw [if_pos c50] at H; have c50b0 := decide_eq_true c50; (try (have c50b0hl8_1 := c50b0; rw [hl8_1] at c50b0hl8_1)); clear c50
            by_cases c51 : 0 ≤ x70_2
            ·
             rw [if_pos c51] at H; have c51b0 := decide_eq_true c51; clear c51
             by_cases c52 : x70_2 < (x5_1.length : Int)
             ·
              rw [if_pos c52] at H; have c52b0 := decide_eq_true c52; (try (have c52b0hl8_1 := c52b0; rw [hl8_1] at c52b0hl8_1)); clear c52; have H' := Az H; clear H; have p302 : 0 ≤ (x70_2 : Int) := oA; have q302 : x70_2 < (x5_1.length : Int) := oA; obtain ⟨ad302, e302, hx302_0⟩ := Kd.at_int (Kd.R_reads' HO_68.out).2.2 x70_2 p302 q302
              cases e302
              replace p302 := eq_true p302; replace q302 := eq_true q302
              go_wp2
              go_loopg [15] k2 (fun kq v15 w' => ∃ (x12_3 : List (List Int)) (x15_3 : Int), v15 = .int .i64 x15_3 ∧ Aside0 (impl_TreeQuad.l2 kq x8_1 (t287.length : Int) x12_3 x70_2 (rd x5_1 x70_2) x15_3 x5_1 (x5_1.length : Int) x70_2 xZ0_1 xZ1_1 = some (r1, r2, r3, r4)) ∧ Aside0 (kq ≤ k2) ∧ Aside0 (Kd.R (Kd.int .i64) 3 w' w.heap.size (fun k_ => some k_ ≠ ((.slice (some ad302) x5_1.length co49) : Value).ownBlock ∧ some k_ ≠ (uZ0 : Value).ownBlock ∧ some k_ ≠ (uZ1 : Value).ownBlock) (.slice Ao18 x8_1.length co18) x8_1) ∧ Aside0 (Kd.S (Kd.slice 3 (Kd.int .i64)) 23 w' w.heap.size (fun k_ => some k_ ≠ ((.slice Ao18 x8_1.length co18) : Value).ownBlock ∧ some k_ ≠ ((.slice (some ad302) x5_1.length co49) : Value).ownBlock ∧ some k_ ≠ (uZ0 : Value).ownBlock ∧ some k_ ≠ (uZ1 : Value).ownBlock) v300 x12_3) ∧ Aside0 (Kd.R (Kd.int .i64) 3 w' w.heap.size (fun k_ => some k_ ≠ ((.slice Ao18 x8_1.length co18) : Value).ownBlock ∧ some k_ ≠ (uZ0 : Value).ownBlock ∧ some k_ ≠ (uZ1 : Value).ownBlock) (.slice (some ad302) x5_1.length co49) x5_1) ∧ Aside0 (Kd.R (Kd.int .i64) 3 w' w.heap.size (fun k_ => some k_ ≠ ((.slice Ao18 x8_1.length co18) : Value).ownBlock ∧ some k_ ≠ ((.slice (some ad302) x5_1.length co49) : Value).ownBlock ∧ some k_ ≠ (uZ1 : Value).ownBlock) uZ0 xZ0_1) ∧ Aside0 (Kd.R (Kd.int .i64) 3 w' w.heap.size (fun k_ => some k_ ≠ ((.slice Ao18 x8_1.length co18) : Value).ownBlock ∧ some k_ ≠ ((.slice (some ad302) x5_1.length co49) : Value).ownBlock ∧ some k_ ≠ (uZ0 : Value).ownBlock) uZ1 xZ1_1) ∧ Aside0 (w'.heap[gb275]? = some (.cells #[.string a0_0, (.slice A0_1 l0_1.length c0_1)] 25 (0, 0))) ∧ Aside0 (w'.heap[gb276]? = some (.cells #[(.slice none 0 0), (.slice none 0 0)] 29 (0, 0))) ∧ Aside0 (w'.heap[gb296]? = some (.cells #[uZ0, uZ1] 29 (0, 0))) ∧ Aside0 (Below w.heap.size w w'))
              case atStart => exact ⟨(x12_2), (1), rS, H', ⟨Nat.le_refl _⟩, ⟨by (try simp only [hl8_1]); (with_reducible repeat (first | apply Kd.R_alloc | apply Kd.R_drewN | apply Kd.R_drew)); exact HO_8.out⟩, ⟨by (try simp only [hl8_1]); (with_reducible repeat (first | apply Kd.S_alloc | apply Kd.S_drewN | apply Kd.S_drew)); exact HO_12.out⟩, ⟨by (try simp only [hl8_1]); (with_reducible repeat (first | apply Kd.R_alloc | apply Kd.R_drewN | apply Kd.R_drew)); exact HO_68.out⟩, ⟨by (try simp only [hl8_1]); (with_reducible repeat (first | apply Kd.R_alloc | apply Kd.R_drewN | apply Kd.R_drew)); exact HO_Z0.out⟩, ⟨by (try simp only [hl8_1]); (with_reducible repeat (first | apply Kd.R_alloc | apply Kd.R_drewN | apply Kd.R_drew)); exact HO_Z1.out⟩, ⟨by (try simp only [hl8_1]); (with_reducible repeat (first | refine blk_drewN ?_ _ | refine blk_drew ?_ | refine blk_alloc ?_ _)); exact BK275.out⟩, ⟨by (try simp only [hl8_1]); (with_reducible repeat (first | refine blk_drewN ?_ _ | refine blk_drew ?_ | refine blk_alloc ?_ _)); exact BK276.out⟩, ⟨by (try simp only [hl8_1]); (with_reducible repeat (first | refine blk_drewN ?_ _ | refine blk_drew ?_ | refine blk_alloc ?_ _)); exact BK296.out⟩, ⟨bU3 HB.out GE275.out GE276.out GE296.out⟩⟩
              case round =>
               clear H'; (try clear p2); (try clear c3); (try clear p3); (try clear q3); (try clear hx3); (try clear hf3); (try clear c4); (try clear p4); (try clear q4); (try clear hx4); (try clear hf4); (try clear c5); (try clear p6); (try clear p30); (try clear q30); (try clear hx30); (try clear c32); (try clear c32b0); (try clear c34); (try clear c34b0); (try clear c35); (try clear c35b0); (try clear p36); (try clear q36); (try clear hx36); (try clear hf36); (try clear c38); (try clear c38b0); (try clear c39); (try clear c39b0); (try clear p40); (try clear q40); (try clear hx40); (try clear hf40); (try clear c45); (try clear c45b0); (try clear c45b1); (try clear c46); (try clear c46b0); (try clear c46b1); (try clear c50); (try clear c50b0); (try clear c51); (try clear c51b0); (try clear c52); (try clear c52b0); (try clear hx302_0); (try clear hx36_0); (try clear hx40_0); (try clear p2); (try clear p3); (try clear p302); (try clear p36); (try clear p4); (try clear p40); (try clear p6); (try clear q3); (try clear q302); (try clear q36); (try clear q4); (try clear q40); obtain ⟨x12_3, x15_3, rfl, HA, HK3, HO_8, HO_12, HO_68, HO_Z0, HO_Z1, BK275, BK276, BK296, HB⟩ := hrel
               cases gk with
               | zero => exact absurd HA.out (by simp [impl_TreeQuad.l2])
               | succ k3 =>
                have H := HA.out; clear HA; simp only [impl_TreeQuad.l2] at H
                by_cases c53 : x15_3 < (t287.length : Int)
                ·
                 rw [if_pos c53] at H; have c53b0 := decide_eq_true c53; (try (have c53b0hl8_1 := c53b0; rw [hl8_1] at c53b0hl8_1)); clear c53
                 by_cases c54 : (t287.length : Int) = 0
                 ·
                  rw [if_pos c54] at H
                  exact absurd H (by simp)
                 ·
                  rw [if_neg c54] at H; have c54b0 := beq_eq_false_iff_ne.mpr c54; (try (have c54b0hl8_1 := c54b0; rw [hl8_1] at c54b0hl8_1)); have c54b1 := bne_iff_ne.mpr c54; (try (have c54b1hl8_1 := c54b1; rw [hl8_1] at c54b1hl8_1))
                  have c54b2 : ¬ (t287 = []) := fun h_ => c54 (by rw [h_]; rfl)
                  obtain ⟨ji55, hji55⟩ : ∃ j_ : Int, (Int.tmod (wrap64 ((wrap64 (x70_2 - x15_3)) + (t287.length : Int))) (t287.length : Int)) = j_ := ⟨_, rfl⟩; (try (have hji55hl8_1 := hji55; rw [hl8_1] at hji55hl8_1))
                  replace H : (if 0 ≤ (ji55) then (if (ji55) < (x8_1.length : Int) then (if (rd x8_1 (ji55)) = x70_2 then (if 0 ≤ (rd x5_1 x70_2) then (if (rd x5_1 x70_2) < (x12_3.length : Int) then (if (rd_L1 x12_3 (rd x5_1 x70_2)).length < 17592186044416 then (impl_TreeQuad.l2 k3 x8_1 (t287.length : Int) (x12_3.set ((rd x5_1 x70_2) : Int).toNat ((rd_L1 x12_3 (rd x5_1 x70_2)) ++ [wrap64 ((wrap64 (2 * (ji55))) + 1)])) x70_2 (rd x5_1 x70_2) (wrap64 (x15_3 + 1)) x5_1 (x5_1.length : Int) x70_2 xZ0_1 xZ1_1) else (none)) else (none)) else (none)) else (impl_TreeQuad.l2 k3 x8_1 (t287.length : Int) x12_3 x70_2 (rd x5_1 x70_2) (wrap64 (x15_3 + 1)) x5_1 (x5_1.length : Int) x70_2 xZ0_1 xZ1_1)) else (none)) else (none)) = some (r1, r2, r3, r4) := by first | (rw [hji55] at H; exact H) | (simp only [hji55] at H ⊢; exact H)
                  by_cases c56 : 0 ≤ (ji55)
                  ·
                   rw [if_pos c56] at H; have c56b0 := decide_eq_true c56; clear c56
                   by_cases c57 : (ji55) < (x8_1.length : Int)
                   ·
                    rw [if_pos c57] at H; have c57b0 := decide_eq_true c57; (try (have c57b0hl8_1 := c57b0; rw [hl8_1] at c57b0hl8_1)); clear c57
                    by_cases c58 : (rd x8_1 (ji55)) = x70_2
                    ·
                     rw [if_pos c58] at H; have c58b0 := beq_iff_eq.mpr c58; have c58b1 := bne_eq_false_iff_eq.mpr c58; clear c58
                     by_cases c59 : 0 ≤ (rd x5_1 x70_2)
                     ·
                      rw [if_pos c59] at H; have c59b0 := decide_eq_true c59; clear c59
                      by_cases c60 : (rd x5_1 x70_2) < (x12_3.length : Int)
                      ·
                       rw [if_pos c60] at H; have c60b0 := decide_eq_true c60; (try (have c60b0hl8_1 := c60b0; rw [hl8_1] at c60b0hl8_1)); clear c60
                       by_cases c61 : (rd_L1 x12_3 (rd x5_1 x70_2)).length < 17592186044416
                       ·
                        rw [if_pos c61] at H; have LMc61 := Az c61; clear c61; obtain ⟨y305, hy305⟩ : ∃ y_ : List Int, y_ = ((rd_L1 x12_3 (rd x5_1 x70_2)) ++ [wrap64 ((wrap64 (2 * (ji55))) + 1)]) := ⟨_, rfl⟩; replace H : (impl_TreeQuad.l2 k3 x8_1 (t287.length : Int) (x12_3.set ((rd x5_1 x70_2) : Int).toNat y305) x70_2 (rd x5_1 x70_2) (wrap64 (x15_3 + 1)) x5_1 (x5_1.length : Int) x70_2 xZ0_1 xZ1_1) = some (r1, r2, r3, r4) := hR hy305 H; have Ny305 := Az hy305; clear hy305; obtain ⟨y308, hy308⟩ : ∃ y_ : List (List Int), y_ = (x12_3.set ((rd x5_1 x70_2) : Int).toNat y305) := ⟨_, rfl⟩; replace H : (impl_TreeQuad.l2 k3 x8_1 (t287.length : Int) y308 x70_2 (rd x5_1 x70_2) (wrap64 (x15_3 + 1)) x5_1 (x5_1.length : Int) x70_2 xZ0_1 xZ1_1) = some (r1, r2, r3, r4) := hR hy308 H; have Ny308 := Az hy308; clear hy308; have H' := Az H; clear H; have p303 : 0 ≤ ((ji55) : Int) := oA; have q303 : (ji55) < (x8_1.length : Int) := oA; obtain ⟨ad303, e303, hx303_0⟩ := Kd.at_int (Kd.R_reads' HO_8.out).2.2 (ji55) p303 q303
                        cases e303
                        replace p303 := eq_true p303; replace q303 := eq_true q303; obtain ⟨Ao63, co63, eo63⟩ := Kd.S_slice HO_12.out; subst eo63; have p304 : 0 ≤ ((rd x5_1 x70_2) : Int) := oA; have q304 : (rd x5_1 x70_2) < (x12_3.length : Int) := oA; obtain ⟨ad304, A304_0, c304_0, e304, hx304_0, hl304_0, hi304_0⟩ := at_L1 (Kd.S_reads' HO_12.out).2.2 (rd x5_1 x70_2) p304 q304
                        cases e304
                        obtain ⟨ce304, hce304, hMe304, hcc304⟩ := Kd.S_get HO_12.out [] (rd x5_1 x70_2) p304 (by first | exact q304 | exact oA | (have e_ := (Kd.S_reads' HO_12.out).1; omega)); obtain ⟨ve304_0, rfl, ge304_0⟩ := hMe304; have hv304_0 := hcc304 0 _ rfl; rw [Nat.add_zero, show ((Kd.slice 3 (Kd.int .i64))).sz = 1 from rfl, Nat.mul_one] at hv304_0; replace hv304_0 := Option.some.inj (hv304_0.symm.trans hx304_0); rw [hv304_0] at ge304_0; have HL304_0 := Az (show Kd.R (Kd.int .i64) 3 _ _ _ _ (rd_L1 x12_3 (rd x5_1 x70_2)) from ge304_0); clear hv304_0 ge304_0; have HX304_0 := Az hx304_0; clear hcc304 hce304; have HR304_0 := Az hi304_0; have HC304_0 := Az hl304_0; clear hi304_0 hl304_0; replace p304 := eq_true p304; replace q304 := eq_true q304; obtain ⟨go64, co64, eo64, gb64, gl64, cl64, HG64⟩ := Kd.S_form HO_12.out (by have h_ : ((rd x5_1 x70_2) : Int) < ((x12_3.length : Int) : Int) := oA; have h2_ : 0 ≤ ((rd x5_1 x70_2) : Int) := (oA); omega); (first | cases eo64 | (injection eo64 with ea_ en_ ec_; (first | subst ea_ | (injection ea_ with ea_; subst ea_)); subst ec_; clear en_)); have GB64 := Az gb64; have GG64 := Az HG64; clear gb64 gl64 HG64; (first | simp only [add_plain] at hx304_0 | skip); obtain ⟨oki64, ce64, hcl64, hM64, hcc64, _, _, hH64⟩ := Kd.S_elem HO_12.out [] ((rd x5_1 x70_2) : Int) (oA) (by have h_ : ((rd x5_1 x70_2) : Int) < ((x12_3.length : Int) : Int) := oA; first | exact h_ | (have e_ := (Kd.S_reads' HO_12.out).1; omega) | simpa using h_); obtain ⟨ve64_0, rfl, ge64_0⟩ := hM64; have hv64 := hcc64 0 _ rfl; have hX64 := HX304_0.out; (try simp only [add_plain] at hX64); (try simp only [Nat.add_zero] at hv64); (try rw [show ((Kd.slice 3 (Kd.int .i64))).sz = 1 from rfl, Nat.mul_one] at hv64); replace hv64 := Option.some.inj (hv64.symm.trans hX64); subst hv64; clear hX64 hcc64 hcl64; have UU64 := Az (show Kd.R (Kd.int .i64) 3 _ w.heap.size oki64 (.slice A304_0 (rd_L1 x12_3 (rd x5_1 x70_2)).length c304_0) (rd_L1 x12_3 (rd x5_1 x70_2)) from ge64_0); have HH64 := Az hH64; have HN64 := Az (Kd.S_reads' HO_12.out).1; clear hH64 ge64_0
                        go_wp2_with (first | ((with_reducible refine gate_builtin (b := .append) (xs := #[.tmp 98, .tmp 102]) rfl ?_); at_builtin; refine Kd.R_append (Kd.int .i64) (w0 := w) w.heap.size rfl (.tmp 98) (.tmp 102) 23 3 (.int .i64 0) 8 rfl Try.underlying23 info3 rfl (by decide) (by omega) (.slice A304_0 (rd_L1 x12_3 (rd x5_1 x70_2)).length c304_0) (rd_L1 x12_3 (rd x5_1 x70_2)) (wrap64 ((wrap64 (2 * (ji55))) + 1)) [.int .i64 (wrap64 ((wrap64 (2 * (ji55))) + 1))] (fun k_ => oki64 k_ ∨ ((fun k_ => some k_ ≠ (.slice (some ad303) x8_1.length co18 : Value).ownBlock ∧ some k_ ≠ (.slice (some ad302) x5_1.length co49 : Value).ownBlock ∧ some k_ ≠ (uZ0 : Value).ownBlock ∧ some k_ ≠ (uZ1 : Value).ownBlock)) k_ ∧ wr.heap.size ≤ k_) (fun _ => False) rfl rfl ?aP (fun _ hk => hk.elim) ?aF ?aO ?aB ?aS ?aL ?_; (case aP => exact rfl); (case aB => exact (bU3 HB.out GE275.out GE276.out GE296.out)); (case aF => exact (fun k_ hk => .inr ⟨⟨Kd.fresh' (Kd.R_lt (rU HO_8.out)) k_ hk, Kd.fresh' (Kd.R_lt (rU HO_68.out)) k_ hk, Kd.fresh' (Kd.R_lt (rU HO_Z0.out)) k_ hk, Kd.fresh' (Kd.R_lt (rU HO_Z1.out)) k_ hk⟩, hk⟩)); (case aO => exact (by (with_reducible repeat (first | apply Kd.R_alloc | apply Kd.R_drewN | apply Kd.R_drew)); exact Kd.R_mono UU64.out (fun _ hk => .inl hk))); (case aS => exact (below_size (bU3 HB.out GE275.out GE276.out GE296.out))); (case aL => have := LMc61.out; omega); intro v306 w65 ho hb hg hat; rw [← Ny305.out] at ho; have n0 := Az (Kd.R_grown2 (rU HO_8.out) rfl hg (fun k_ e_ => (HL304_0.out.1 k_ e_).1.1)); have n1 := Az (Kd.R_grown2 (rU HO_68.out) rfl hg (fun k_ e_ => (HL304_0.out.1 k_ e_).1.2.1)); have n2 := Az (Kd.R_grown2 (rU HO_Z0.out) rfl hg (fun k_ e_ => (HL304_0.out.1 k_ e_).1.2.2.1)); have n3 := Az (Kd.R_grown2 (rU HO_Z1.out) rfl hg (fun k_ e_ => (HL304_0.out.1 k_ e_).1.2.2.2)); have n4 := Az (blk_grown (g := gb275) (o := .cells #[.string a0_0, .slice A0_1 l0_1.length c0_1] 25 (0, 0)) (kU BK275.out) hg (Kd.R_ne HL304_0.out BK275.out (by decide))); have n5 := Az (blk_grown (g := gb276) (o := .cells #[.slice none 0 0, .slice none 0 0] 29 (0, 0)) (kU BK276.out) hg (Kd.R_ne HL304_0.out BK276.out (by decide))); have n6 := Az (blk_grown (g := gb296) (o := .cells #[uZ0, uZ1] 29 (0, 0)) (kU BK296.out) hg (Kd.R_ne HL304_0.out BK296.out (by decide))); have n7 := Az (hb); have n8 := Az (Kd.H_grown (Kd.H_widen (by repeat (first | exact HH64.out | refine Kd.H_alloc ?_ _ | refine Kd.H_drewN ?_ _ | refine Kd.H_drew ?_))) hg (fun k_ e_ => .inl (UU64.out.1 k_ e_))); have n9 := Az (ho); clear HO_8 HO_68 HO_Z0 HO_Z1 BK275 BK276 BK296 HB HH64 HO_12 UU64 HL304_0; have HO_8 := n0; have HO_68 := n1; have HO_Z0 := n2; have HO_Z1 := n3; have BK275 := n4; have BK276 := n5; have BK296 := n6; have HB := n7; have HH64 := n8; have HO307 := n9; clear n0 n1 n2 n3 n4 n5 n6 n7 n8 n9 ho hb hg hat; have p62 : 0 ≤ ((rd x5_1 x70_2) : Int) := oA; have q62 : ((rd x5_1 x70_2) : Int) < ((x12_3.length : Int) : Int) := oA; replace p62 := eq_true p62; replace q62 := eq_true q62; obtain ⟨Ao68, co68, eo68⟩ := Kd.R_slice HO307.out; subst eo68; obtain ⟨_, _, hraw66, _, _, hcc66, _⟩ := Kd.H_raw HH64.out (oA) (by have h_ : ((rd x5_1 x70_2) : Int) < ((x12_3.length : Int) : Int) := oA; first | exact h_ | (have e_ := (HN64.out); omega) | simpa using h_); obtain ⟨_, hfr66⟩ := Kd.H_at HH64.out (oA) (by have h_ : ((rd x5_1 x70_2) : Int) < ((x12_3.length : Int) : Int) := oA; first | exact h_ | (have e_ := (HN64.out); omega) | simpa using h_); have hx66_0 := hcc66 0 _ rfl; have hf66_0 := hfr66 0; (try simp only [Nat.add_zero] at hx66_0 hf66_0); (try rw [show ((Kd.slice 3 (Kd.int .i64))).sz = 1 from rfl, Nat.mul_one] at hx66_0); (try rw [show ((Kd.slice 3 (Kd.int .i64))).sz = 1 from rfl, Nat.mul_one] at hf66_0); have HP66 := Kd.S_seg0 HH64.out (oA) (by have h_ : ((rd x5_1 x70_2) : Int) < ((x12_3.length : Int) : Int) := oA; first | exact h_ | (have e_ := (HN64.out); omega) | simpa using h_) (seg := [.slice Ao68 y305.length co68]) (j := 0) (show 1 ≤ 1 from by decide) (x' := y305) (Kd.M_row HO307.out) (fun _ hk => hk); (try simp only [show ((Kd.slice 3 (Kd.int .i64))).sz = 1 from rfl, Nat.mul_one, Nat.add_zero] at HP66); clear hcc66 hfr66) | ((with_reducible refine gate_store (t := 23) (p := 104) rfl ?_); refine store_event (t := 23) (p := 104) (v := ?vo_w67) (w1 := (w65.setCell ⟨go64, ((rd x5_1 x70_2) : Int).toNat, none⟩ (.slice Ao68 y305.length co68))) ?hg ?ho ?hn ?hr ?_; (case ho => rfl); (case hg => rfl); (case hn => rfl); (case hr => first | (go_simp; done) | (go_simp; rfl)); intro w67 hw; have hg : w65.grownBy w67 (some go64) := (by rw [hw]; exact HP66.2); have hp_ : Kd.S (Kd.slice 3 (Kd.int .i64)) 23 w67 w.heap.size (fun k_ => some k_ ≠ (.slice (some ad303) x8_1.length co18 : Value).ownBlock ∧ some k_ ≠ (.slice (some ad302) x5_1.length co49 : Value).ownBlock ∧ some k_ ≠ (uZ0 : Value).ownBlock ∧ some k_ ≠ (uZ1 : Value).ownBlock) (.slice (some ⟨go64, 0, none⟩) x12_3.length co63) y308 := (by rw [hw, Ny308.out]; exact HP66.1); clear HP66; have n0 := Az (Kd.R_over' (v := (.slice (some ⟨go64, 0, none⟩) x12_3.length co63)) (rU HO_8.out) (Kd.R_typed hraw66) (by decide) hg); have n1 := Az (Kd.R_over' (v := (.slice (some ⟨go64, 0, none⟩) x12_3.length co63)) (rU HO_68.out) (Kd.R_typed hraw66) (by decide) hg); have n2 := Az (Kd.R_over' (v := (.slice (some ⟨go64, 0, none⟩) x12_3.length co63)) (rU HO_Z0.out) (Kd.R_typed hraw66) (by decide) hg); have n3 := Az (Kd.R_over' (v := (.slice (some ⟨go64, 0, none⟩) x12_3.length co63)) (rU HO_Z1.out) (Kd.R_typed hraw66) (by decide) hg); have n4 := Az (blk_grown (g := gb275) (o := .cells #[.string a0_0, .slice A0_1 l0_1.length c0_1] 25 (0, 0)) (kU BK275.out) hg (Kd.R_ne hraw66 BK275.out (by decide))); have n5 := Az (blk_grown (g := gb276) (o := .cells #[.slice none 0 0, .slice none 0 0] 29 (0, 0)) (kU BK276.out) hg (Kd.R_ne hraw66 BK276.out (by decide))); have n6 := Az (blk_grown (g := gb296) (o := .cells #[uZ0, uZ1] 29 (0, 0)) (kU BK296.out) hg (Kd.R_ne hraw66 BK296.out (by decide))); have n7 := Az ((by rw [hw]; exact below_set HB.out GB64.out : Below w.heap.size w w67)); have n8 := Az (hp_); clear HO_8 HO_68 HO_Z0 HO_Z1 BK275 BK276 BK296 HB HO307 HH64; have HO_8 := n0; have HO_68 := n1; have HO_Z0 := n2; have HO_Z1 := n3; have BK275 := n4; have BK276 := n5; have BK296 := n6; have HB := n7; have HO_12 := n8; clear n0 n1 n2 n3 n4 n5 n6 n7 n8; clear hg hw hp_ hraw66))
                        (first | go_roundg k3 | (refine Handed.intro k3 ?measure ?_; rotate_left; go_step; (try simp only [add_plain]); (repeat apply Exists.intro); refine ⟨?rel, rfl⟩))
                        case measure => have := HK1.out; have := HK2.out; have := HK3.out; omega
                        case rel => exact ⟨(y308), (wrap64 (x15_3 + 1)), rS, H', ⟨by have := HK1.out; have := HK2.out; have := HK3.out; omega⟩, ⟨by (try simp only [hl8_1]); (with_reducible repeat (first | apply Kd.R_alloc | apply Kd.R_drewN | apply Kd.R_drew)); exact HO_8.out⟩, ⟨by (try simp only [hl8_1]); (with_reducible repeat (first | apply Kd.S_alloc | apply Kd.S_drewN | apply Kd.S_drew)); exact HO_12.out⟩, ⟨by (try simp only [hl8_1]); (with_reducible repeat (first | apply Kd.R_alloc | apply Kd.R_drewN | apply Kd.R_drew)); exact HO_68.out⟩, ⟨by (try simp only [hl8_1]); (with_reducible repeat (first | apply Kd.R_alloc | apply Kd.R_drewN | apply Kd.R_drew)); exact HO_Z0.out⟩, ⟨by (try simp only [hl8_1]); (with_reducible repeat (first | apply Kd.R_alloc | apply Kd.R_drewN | apply Kd.R_drew)); exact HO_Z1.out⟩, ⟨by (try simp only [hl8_1]); (with_reducible repeat (first | refine blk_drewN ?_ _ | refine blk_drew ?_ | refine blk_alloc ?_ _)); exact BK275.out⟩, ⟨by (try simp only [hl8_1]); (with_reducible repeat (first | refine blk_drewN ?_ _ | refine blk_drew ?_ | refine blk_alloc ?_ _)); exact BK276.out⟩, ⟨by (try simp only [hl8_1]); (with_reducible repeat (first | refine blk_drewN ?_ _ | refine blk_drew ?_ | refine blk_alloc ?_ _)); exact BK296.out⟩, ⟨bU3 HB.out GE275.out GE276.out GE296.out⟩⟩
                       ·
                        rw [if_neg c61] at H
                        exact absurd H (by simp)
                      ·
                       rw [if_neg c60] at H
                       exact absurd H (by simp)
                     ·
                      rw [if_neg c59] at H
                      exact absurd H (by simp)
                    ·
                     rw [if_neg c58] at H; have c58b0 := beq_eq_false_iff_ne.mpr c58; have c58b1 := bne_iff_ne.mpr c58; clear c58; have H' := Az H; clear H; have p303 : 0 ≤ ((ji55) : Int) := oA; have q303 : (ji55) < (x8_1.length : Int) := oA; obtain ⟨ad303, e303, hx303_0⟩ := Kd.at_int (Kd.R_reads' HO_8.out).2.2 (ji55) p303 q303
                     cases e303
                     replace p303 := eq_true p303; replace q303 := eq_true q303
                     go_wp2
                     (first | go_roundg k3 | (refine Handed.intro k3 ?measure ?_; rotate_left; go_step; (try simp only [add_plain]); (repeat apply Exists.intro); refine ⟨?rel, rfl⟩))
                     case measure => have := HK1.out; have := HK2.out; have := HK3.out; omega
                     case rel => exact ⟨(x12_3), (wrap64 (x15_3 + 1)), rS, H', ⟨by have := HK1.out; have := HK2.out; have := HK3.out; omega⟩, ⟨by (try simp only [hl8_1]); (with_reducible repeat (first | apply Kd.R_alloc | apply Kd.R_drewN | apply Kd.R_drew)); exact HO_8.out⟩, ⟨by (try simp only [hl8_1]); (with_reducible repeat (first | apply Kd.S_alloc | apply Kd.S_drewN | apply Kd.S_drew)); exact HO_12.out⟩, ⟨by (try simp only [hl8_1]); (with_reducible repeat (first | apply Kd.R_alloc | apply Kd.R_drewN | apply Kd.R_drew)); exact HO_68.out⟩, ⟨by (try simp only [hl8_1]); (with_reducible repeat (first | apply Kd.R_alloc | apply Kd.R_drewN | apply Kd.R_drew)); exact HO_Z0.out⟩, ⟨by (try simp only [hl8_1]); (with_reducible repeat (first | apply Kd.R_alloc | apply Kd.R_drewN | apply Kd.R_drew)); exact HO_Z1.out⟩, ⟨by (try simp only [hl8_1]); (with_reducible repeat (first | refine blk_drewN ?_ _ | refine blk_drew ?_ | refine blk_alloc ?_ _)); exact BK275.out⟩, ⟨by (try simp only [hl8_1]); (with_reducible repeat (first | refine blk_drewN ?_ _ | refine blk_drew ?_ | refine blk_alloc ?_ _)); exact BK276.out⟩, ⟨by (try simp only [hl8_1]); (with_reducible repeat (first | refine blk_drewN ?_ _ | refine blk_drew ?_ | refine blk_alloc ?_ _)); exact BK296.out⟩, ⟨bU3 HB.out GE275.out GE276.out GE296.out⟩⟩
                   ·
                    rw [if_neg c57] at H
                    exact absurd H (by simp)
                  ·
                   rw [if_neg c56] at H
                   exact absurd H (by simp)
                ·
                 rw [if_neg c53] at H; have c53b0 := decide_eq_false c53; (try (have c53b0hl8_1 := c53b0; rw [hl8_1] at c53b0hl8_1)); clear c53
                 by_cases c69 : 0 ≤ (rd x5_1 x70_2)
                 ·
                  rw [if_pos c69] at H; have c69b0 := decide_eq_true c69; clear c69
                  by_cases c70 : (rd x5_1 x70_2) < (x12_3.length : Int)
                  ·
                   rw [if_pos c70] at H; have c70b0 := decide_eq_true c70; (try (have c70b0hl8_1 := c70b0; rw [hl8_1] at c70b0hl8_1)); clear c70
                   by_cases c71 : (rd_L1 x12_3 (rd x5_1 x70_2)).length < 17592186044416
                   ·
                    rw [if_pos c71] at H; have LMc71 := Az c71; clear c71; obtain ⟨y310, hy310⟩ : ∃ y_ : List Int, y_ = ((rd_L1 x12_3 (rd x5_1 x70_2)) ++ [wrap64 (2 * x70_2)]) := ⟨_, rfl⟩; replace H : (impl_TreeQuad.l1 k3 x8_1 (t287.length : Int) (x12_3.set ((rd x5_1 x70_2) : Int).toNat y310) x5_1 (x5_1.length : Int) (wrap64 (x70_2 + 1)) xZ0_1 xZ1_1) = some (r1, r2, r3, r4) := hR hy310 H; have Ny310 := Az hy310; clear hy310; obtain ⟨y313, hy313⟩ : ∃ y_ : List (List Int), y_ = (x12_3.set ((rd x5_1 x70_2) : Int).toNat y310) := ⟨_, rfl⟩; replace H : (impl_TreeQuad.l1 k3 x8_1 (t287.length : Int) y313 x5_1 (x5_1.length : Int) (wrap64 (x70_2 + 1)) xZ0_1 xZ1_1) = some (r1, r2, r3, r4) := hR hy313 H; have Ny313 := Az hy313; clear hy313; have H' := Az H; clear H; obtain ⟨Ao73, co73, eo73⟩ := Kd.S_slice HO_12.out; subst eo73; have p309 : 0 ≤ ((rd x5_1 x70_2) : Int) := oA; have q309 : (rd x5_1 x70_2) < (x12_3.length : Int) := oA; obtain ⟨ad309, A309_0, c309_0, e309, hx309_0, hl309_0, hi309_0⟩ := at_L1 (Kd.S_reads' HO_12.out).2.2 (rd x5_1 x70_2) p309 q309
                    cases e309
                    obtain ⟨ce309, hce309, hMe309, hcc309⟩ := Kd.S_get HO_12.out [] (rd x5_1 x70_2) p309 (by first | exact q309 | exact oA | (have e_ := (Kd.S_reads' HO_12.out).1; omega)); obtain ⟨ve309_0, rfl, ge309_0⟩ := hMe309; have hv309_0 := hcc309 0 _ rfl; rw [Nat.add_zero, show ((Kd.slice 3 (Kd.int .i64))).sz = 1 from rfl, Nat.mul_one] at hv309_0; replace hv309_0 := Option.some.inj (hv309_0.symm.trans hx309_0); rw [hv309_0] at ge309_0; have HL309_0 := Az (show Kd.R (Kd.int .i64) 3 _ _ _ _ (rd_L1 x12_3 (rd x5_1 x70_2)) from ge309_0); clear hv309_0 ge309_0; have HX309_0 := Az hx309_0; clear hcc309 hce309; have HR309_0 := Az hi309_0; have HC309_0 := Az hl309_0; clear hi309_0 hl309_0; replace p309 := eq_true p309; replace q309 := eq_true q309; obtain ⟨go74, co74, eo74, gb74, gl74, cl74, HG74⟩ := Kd.S_form HO_12.out (by have h_ : ((rd x5_1 x70_2) : Int) < ((x12_3.length : Int) : Int) := oA; have h2_ : 0 ≤ ((rd x5_1 x70_2) : Int) := (oA); omega); (first | cases eo74 | (injection eo74 with ea_ en_ ec_; (first | subst ea_ | (injection ea_ with ea_; subst ea_)); subst ec_; clear en_)); have GB74 := Az gb74; have GG74 := Az HG74; clear gb74 gl74 HG74; (first | simp only [add_plain] at hx309_0 | skip); obtain ⟨oki74, ce74, hcl74, hM74, hcc74, _, _, hH74⟩ := Kd.S_elem HO_12.out [] ((rd x5_1 x70_2) : Int) (oA) (by have h_ : ((rd x5_1 x70_2) : Int) < ((x12_3.length : Int) : Int) := oA; first | exact h_ | (have e_ := (Kd.S_reads' HO_12.out).1; omega) | simpa using h_); obtain ⟨ve74_0, rfl, ge74_0⟩ := hM74; have hv74 := hcc74 0 _ rfl; have hX74 := HX309_0.out; (try simp only [add_plain] at hX74); (try simp only [Nat.add_zero] at hv74); (try rw [show ((Kd.slice 3 (Kd.int .i64))).sz = 1 from rfl, Nat.mul_one] at hv74); replace hv74 := Option.some.inj (hv74.symm.trans hX74); subst hv74; clear hX74 hcc74 hcl74; have UU74 := Az (show Kd.R (Kd.int .i64) 3 _ w.heap.size oki74 (.slice A309_0 (rd_L1 x12_3 (rd x5_1 x70_2)).length c309_0) (rd_L1 x12_3 (rd x5_1 x70_2)) from ge74_0); have HH74 := Az hH74; have HN74 := Az (Kd.S_reads' HO_12.out).1; clear hH74 ge74_0
                    go_wp2_with (first | ((with_reducible refine gate_builtin (b := .append) (xs := #[.tmp 110, .tmp 113]) rfl ?_); at_builtin; refine Kd.R_append (Kd.int .i64) (w0 := w) w.heap.size rfl (.tmp 110) (.tmp 113) 23 3 (.int .i64 0) 8 rfl Try.underlying23 info3 rfl (by decide) (by omega) (.slice A309_0 (rd_L1 x12_3 (rd x5_1 x70_2)).length c309_0) (rd_L1 x12_3 (rd x5_1 x70_2)) (wrap64 (2 * x70_2)) [.int .i64 (wrap64 (2 * x70_2))] (fun k_ => oki74 k_ ∨ ((fun k_ => some k_ ≠ (.slice Ao18 x8_1.length co18 : Value).ownBlock ∧ some k_ ≠ (.slice (some ad302) x5_1.length co49 : Value).ownBlock ∧ some k_ ≠ (uZ0 : Value).ownBlock ∧ some k_ ≠ (uZ1 : Value).ownBlock)) k_ ∧ wr.heap.size ≤ k_) (fun _ => False) rfl rfl ?aP (fun _ hk => hk.elim) ?aF ?aO ?aB ?aS ?aL ?_; (case aP => exact rfl); (case aB => exact (bU3 HB.out GE275.out GE276.out GE296.out)); (case aF => exact (fun k_ hk => .inr ⟨⟨Kd.fresh' (Kd.R_lt (rU HO_8.out)) k_ hk, Kd.fresh' (Kd.R_lt (rU HO_68.out)) k_ hk, Kd.fresh' (Kd.R_lt (rU HO_Z0.out)) k_ hk, Kd.fresh' (Kd.R_lt (rU HO_Z1.out)) k_ hk⟩, hk⟩)); (case aO => exact (by (with_reducible repeat (first | apply Kd.R_alloc | apply Kd.R_drewN | apply Kd.R_drew)); exact Kd.R_mono UU74.out (fun _ hk => .inl hk))); (case aS => exact (below_size (bU3 HB.out GE275.out GE276.out GE296.out))); (case aL => have := LMc71.out; omega); intro v311 w75 ho hb hg hat; rw [← Ny310.out] at ho; have n0 := Az (Kd.R_grown2 (rU HO_8.out) rfl hg (fun k_ e_ => (HL309_0.out.1 k_ e_).1.1)); have n1 := Az (Kd.R_grown2 (rU HO_68.out) rfl hg (fun k_ e_ => (HL309_0.out.1 k_ e_).1.2.1)); have n2 := Az (Kd.R_grown2 (rU HO_Z0.out) rfl hg (fun k_ e_ => (HL309_0.out.1 k_ e_).1.2.2.1)); have n3 := Az (Kd.R_grown2 (rU HO_Z1.out) rfl hg (fun k_ e_ => (HL309_0.out.1 k_ e_).1.2.2.2)); have n4 := Az (blk_grown (g := gb275) (o := .cells #[.string a0_0, .slice A0_1 l0_1.length c0_1] 25 (0, 0)) (kU BK275.out) hg (Kd.R_ne HL309_0.out BK275.out (by decide))); have n5 := Az (blk_grown (g := gb276) (o := .cells #[.slice none 0 0, .slice none 0 0] 29 (0, 0)) (kU BK276.out) hg (Kd.R_ne HL309_0.out BK276.out (by decide))); have n6 := Az (blk_grown (g := gb296) (o := .cells #[uZ0, uZ1] 29 (0, 0)) (kU BK296.out) hg (Kd.R_ne HL309_0.out BK296.out (by decide))); have n7 := Az (hb); have n8 := Az (Kd.H_grown (Kd.H_widen (by repeat (first | exact HH74.out | refine Kd.H_alloc ?_ _ | refine Kd.H_drewN ?_ _ | refine Kd.H_drew ?_))) hg (fun k_ e_ => .inl (UU74.out.1 k_ e_))); have n9 := Az (ho); clear HO_8 HO_68 HO_Z0 HO_Z1 BK275 BK276 BK296 HB HH74 HO_12 UU74 HL309_0; have HO_8 := n0; have HO_68 := n1; have HO_Z0 := n2; have HO_Z1 := n3; have BK275 := n4; have BK276 := n5; have BK296 := n6; have HB := n7; have HH74 := n8; have HO312 := n9; clear n0 n1 n2 n3 n4 n5 n6 n7 n8 n9 ho hb hg hat; have p72 : 0 ≤ ((rd x5_1 x70_2) : Int) := oA; have q72 : ((rd x5_1 x70_2) : Int) < ((x12_3.length : Int) : Int) := oA; replace p72 := eq_true p72; replace q72 := eq_true q72; obtain ⟨Ao78, co78, eo78⟩ := Kd.R_slice HO312.out; subst eo78; obtain ⟨_, _, hraw76, _, _, hcc76, _⟩ := Kd.H_raw HH74.out (oA) (by have h_ : ((rd x5_1 x70_2) : Int) < ((x12_3.length : Int) : Int) := oA; first | exact h_ | (have e_ := (HN74.out); omega) | simpa using h_); obtain ⟨_, hfr76⟩ := Kd.H_at HH74.out (oA) (by have h_ : ((rd x5_1 x70_2) : Int) < ((x12_3.length : Int) : Int) := oA; first | exact h_ | (have e_ := (HN74.out); omega) | simpa using h_); have hx76_0 := hcc76 0 _ rfl; have hf76_0 := hfr76 0; (try simp only [Nat.add_zero] at hx76_0 hf76_0); (try rw [show ((Kd.slice 3 (Kd.int .i64))).sz = 1 from rfl, Nat.mul_one] at hx76_0); (try rw [show ((Kd.slice 3 (Kd.int .i64))).sz = 1 from rfl, Nat.mul_one] at hf76_0); have HP76 := Kd.S_seg0 HH74.out (oA) (by have h_ : ((rd x5_1 x70_2) : Int) < ((x12_3.length : Int) : Int) := oA; first | exact h_ | (have e_ := (HN74.out); omega) | simpa using h_) (seg := [.slice Ao78 y310.length co78]) (j := 0) (show 1 ≤ 1 from by decide) (x' := y310) (Kd.M_row HO312.out) (fun _ hk => hk); (try simp only [show ((Kd.slice 3 (Kd.int .i64))).sz = 1 from rfl, Nat.mul_one, Nat.add_zero] at HP76); clear hcc76 hfr76) | ((with_reducible refine gate_store (t := 23) (p := 115) rfl ?_); refine store_event (t := 23) (p := 115) (v := ?vo_w77) (w1 := (w75.setCell ⟨go74, ((rd x5_1 x70_2) : Int).toNat, none⟩ (.slice Ao78 y310.length co78))) ?hg ?ho ?hn ?hr ?_; (case ho => rfl); (case hg => rfl); (case hn => rfl); (case hr => first | (go_simp; done) | (go_simp; rfl)); intro w77 hw; have hg : w75.grownBy w77 (some go74) := (by rw [hw]; exact HP76.2); have hp_ : Kd.S (Kd.slice 3 (Kd.int .i64)) 23 w77 w.heap.size (fun k_ => some k_ ≠ (.slice Ao18 x8_1.length co18 : Value).ownBlock ∧ some k_ ≠ (.slice (some ad302) x5_1.length co49 : Value).ownBlock ∧ some k_ ≠ (uZ0 : Value).ownBlock ∧ some k_ ≠ (uZ1 : Value).ownBlock) (.slice (some ⟨go74, 0, none⟩) x12_3.length co73) y313 := (by rw [hw, Ny313.out]; exact HP76.1); clear HP76; have n0 := Az (Kd.R_over' (v := (.slice (some ⟨go74, 0, none⟩) x12_3.length co73)) (rU HO_8.out) (Kd.R_typed hraw76) (by decide) hg); have n1 := Az (Kd.R_over' (v := (.slice (some ⟨go74, 0, none⟩) x12_3.length co73)) (rU HO_68.out) (Kd.R_typed hraw76) (by decide) hg); have n2 := Az (Kd.R_over' (v := (.slice (some ⟨go74, 0, none⟩) x12_3.length co73)) (rU HO_Z0.out) (Kd.R_typed hraw76) (by decide) hg); have n3 := Az (Kd.R_over' (v := (.slice (some ⟨go74, 0, none⟩) x12_3.length co73)) (rU HO_Z1.out) (Kd.R_typed hraw76) (by decide) hg); have n4 := Az (blk_grown (g := gb275) (o := .cells #[.string a0_0, .slice A0_1 l0_1.length c0_1] 25 (0, 0)) (kU BK275.out) hg (Kd.R_ne hraw76 BK275.out (by decide))); have n5 := Az (blk_grown (g := gb276) (o := .cells #[.slice none 0 0, .slice none 0 0] 29 (0, 0)) (kU BK276.out) hg (Kd.R_ne hraw76 BK276.out (by decide))); have n6 := Az (blk_grown (g := gb296) (o := .cells #[uZ0, uZ1] 29 (0, 0)) (kU BK296.out) hg (Kd.R_ne hraw76 BK296.out (by decide))); have n7 := Az ((by rw [hw]; exact below_set HB.out GB74.out : Below w.heap.size w w77)); have n8 := Az (hp_); clear HO_8 HO_68 HO_Z0 HO_Z1 BK275 BK276 BK296 HB HO312 HH74; have HO_8 := n0; have HO_68 := n1; have HO_Z0 := n2; have HO_Z1 := n3; have BK275 := n4; have BK276 := n5; have BK296 := n6; have HB := n7; have HO_12 := n8; clear n0 n1 n2 n3 n4 n5 n6 n7 n8; clear hg hw hp_ hraw76))
                    (first | go_roundg k3 | (refine Handed.intro k3 ?measure ?_; rotate_left; go_step; (try simp only [add_plain]); (repeat apply Exists.intro); refine ⟨?rel, rfl⟩))
                    case measure => have := HK1.out; have := HK2.out; have := HK3.out; omega
                    case rel => exact ⟨(y313), (wrap64 (x70_2 + 1)), rS, H', ⟨by have := HK1.out; have := HK2.out; have := HK3.out; omega⟩, ⟨by (try simp only [hl8_1]); (with_reducible repeat (first | apply Kd.R_alloc | apply Kd.R_drewN | apply Kd.R_drew)); exact HO_8.out⟩, ⟨by (try simp only [hl8_1]); (with_reducible repeat (first | apply Kd.S_alloc | apply Kd.S_drewN | apply Kd.S_drew)); exact HO_12.out⟩, ⟨by (try simp only [hl8_1]); (with_reducible repeat (first | apply Kd.R_alloc | apply Kd.R_drewN | apply Kd.R_drew)); exact HO_68.out⟩, ⟨by (try simp only [hl8_1]); (with_reducible repeat (first | apply Kd.R_alloc | apply Kd.R_drewN | apply Kd.R_drew)); exact HO_Z0.out⟩, ⟨by (try simp only [hl8_1]); (with_reducible repeat (first | apply Kd.R_alloc | apply Kd.R_drewN | apply Kd.R_drew)); exact HO_Z1.out⟩, ⟨by (try simp only [hl8_1]); (with_reducible repeat (first | refine blk_drewN ?_ _ | refine blk_drew ?_ | refine blk_alloc ?_ _)); exact BK275.out⟩, ⟨by (try simp only [hl8_1]); (with_reducible repeat (first | refine blk_drewN ?_ _ | refine blk_drew ?_ | refine blk_alloc ?_ _)); exact BK276.out⟩, ⟨by (try simp only [hl8_1]); (with_reducible repeat (first | refine blk_drewN ?_ _ | refine blk_drew ?_ | refine blk_alloc ?_ _)); exact BK296.out⟩, ⟨bU3 HB.out GE275.out GE276.out GE296.out⟩⟩
                   ·
                    rw [if_neg c71] at H
                    exact absurd H (by simp)
                  ·
                   rw [if_neg c70] at H
                   exact absurd H (by simp)
                 ·
                  rw [if_neg c69] at H
                  exact absurd H (by simp)
             ·
              rw [if_neg c52] at H
              exact absurd H (by simp)
            ·
             rw [if_neg c51] at H
             exact absurd H (by simp)
           ·
            rw [if_neg c50] at H; have c50b0 := decide_eq_false c50; (try (have c50b0hl8_1 := c50b0; rw [hl8_1] at c50b0hl8_1)); clear c50; have H' := Az H; clear H
            go_wp2
            go_loopg [17, 18] k2 (fun kq v17 v18 w' => ∃ (x12_3 : List (List Int)) (x17_3 : Int) (x18_3 : Int), v17 = .int .i64 x17_3 ∧ v18 = .int .i64 x18_3 ∧ Aside0 (impl_TreeQuad.l3 kq x8_1 (t287.length : Int) x12_3 x17_3 x18_3 xZ0_1 xZ1_1 = some (r1, r2, r3, r4)) ∧ Aside0 (kq ≤ k2) ∧ Aside0 (Kd.R (Kd.int .i64) 3 w' w.heap.size (fun k_ => some k_ ≠ (uZ0 : Value).ownBlock ∧ some k_ ≠ (uZ1 : Value).ownBlock) (.slice Ao18 x8_1.length co18) x8_1) ∧ Aside0 (Kd.S (Kd.slice 3 (Kd.int .i64)) 23 w' w.heap.size (fun k_ => some k_ ≠ ((.slice Ao18 x8_1.length co18) : Value).ownBlock ∧ some k_ ≠ (uZ0 : Value).ownBlock ∧ some k_ ≠ (uZ1 : Value).ownBlock) v300 x12_3) ∧ Aside0 (Kd.R (Kd.int .i64) 3 w' w.heap.size (fun k_ => some k_ ≠ ((.slice Ao18 x8_1.length co18) : Value).ownBlock ∧ some k_ ≠ (uZ1 : Value).ownBlock) uZ0 xZ0_1) ∧ Aside0 (Kd.R (Kd.int .i64) 3 w' w.heap.size (fun k_ => some k_ ≠ ((.slice Ao18 x8_1.length co18) : Value).ownBlock ∧ some k_ ≠ (uZ0 : Value).ownBlock) uZ1 xZ1_1) ∧ Aside0 (w'.heap[gb275]? = some (.cells #[.string a0_0, (.slice A0_1 l0_1.length c0_1)] 25 (0, 0))) ∧ Aside0 (w'.heap[gb276]? = some (.cells #[(.slice none 0 0), (.slice none 0 0)] 29 (0, 0))) ∧ Aside0 (w'.heap[gb296]? = some (.cells #[uZ0, uZ1] 29 (0, 0))) ∧ Aside0 (Below w.heap.size w w'))
            case atStart => exact ⟨(x12_2), ((-1)), (wrap64 ((t287.length : Int) - 1)), rS, rS, H', ⟨Nat.le_refl _⟩, ⟨by (try simp only [hl8_1]); (with_reducible repeat (first | apply Kd.R_alloc | apply Kd.R_drewN | apply Kd.R_drew)); exact Kd.R_mono HO_8.out (fun _ hk => ⟨hk.2.1, hk.2.2⟩)⟩, ⟨by (try simp only [hl8_1]); (with_reducible repeat (first | apply Kd.S_alloc | apply Kd.S_drewN | apply Kd.S_drew)); exact Kd.S_mono HO_12.out (fun _ hk => ⟨hk.1, ⟨hk.2.2.1, hk.2.2.2⟩⟩)⟩, ⟨by (try simp only [hl8_1]); (with_reducible repeat (first | apply Kd.R_alloc | apply Kd.R_drewN | apply Kd.R_drew)); exact Kd.R_mono HO_Z0.out (fun _ hk => ⟨hk.1, hk.2.2⟩)⟩, ⟨by (try simp only [hl8_1]); (with_reducible repeat (first | apply Kd.R_alloc | apply Kd.R_drewN | apply Kd.R_drew)); exact Kd.R_mono HO_Z1.out (fun _ hk => ⟨hk.1, hk.2.2⟩)⟩, ⟨by (try simp only [hl8_1]); (with_reducible repeat (first | refine blk_drewN ?_ _ | refine blk_drew ?_ | refine blk_alloc ?_ _)); exact BK275.out⟩, ⟨by (try simp only [hl8_1]); (with_reducible repeat (first | refine blk_drewN ?_ _ | refine blk_drew ?_ | refine blk_alloc ?_ _)); exact BK276.out⟩, ⟨by (try simp only [hl8_1]); (with_reducible repeat (first | refine blk_drewN ?_ _ | refine blk_drew ?_ | refine blk_alloc ?_ _)); exact BK296.out⟩, ⟨bU3 HB.out GE275.out GE276.out GE296.out⟩⟩
            case round =>
             clear H'; (try clear p2); (try clear c3); (try clear p3); (try clear q3); (try clear hx3); (try clear hf3); (try clear c4); (try clear p4); (try clear q4); (try clear hx4); (try clear hf4); (try clear c5); (try clear c6); (try clear p6); (try clear q6); (try clear hx6); (try clear hf6); (try clear c7); (try clear p7); (try clear q7); (try clear hx7); (try clear hf7); (try clear c30); (try clear p30); (try clear q30); (try clear hx30); (try clear c32); (try clear c32b0); (try clear c34); (try clear c34b0); (try clear c35); (try clear c35b0); (try clear p36); (try clear q36); (try clear hx36); (try clear hf36); (try clear c38); (try clear c38b0); (try clear c39); (try clear c39b0); (try clear p40); (try clear q40); (try clear hx40); (try clear hf40); (try clear c45); (try clear c45b0); (try clear c45b1); (try clear c46); (try clear c46b0); (try clear c46b1); (try clear c50); (try clear c50b0); (try clear c51); (try clear c51b0); (try clear c52); (try clear c52b0); (try clear c53); (try clear c53b0); (try clear c54); (try clear c54b0); (try clear c54b1); (try clear c54b2); (try clear c56); (try clear c56b0); (try clear c57); (try clear c57b0); (try clear c58); (try clear c58b0); (try clear c58b1); (try clear c59); (try clear c59b0); (try clear c60); (try clear c60b0); (try clear c61); (try clear p62); (try clear q62); (try clear c64); (try clear p64); (try clear c66); (try clear hx66); (try clear hf66); (try clear c69); (try clear c69b0); (try clear c70); (try clear c70b0); (try clear c71); (try clear p72); (try clear q72); (try clear c74); (try clear c76); (try clear hx76); (try clear hf76); (try clear hx302_0); (try clear hx303_0); (try clear hx304_0); (try clear hx309_0); (try clear hx36_0); (try clear hx40_0); (try clear hx66_0); (try clear hx76_0); (try clear p2); (try clear p3); (try clear p30); (try clear p302); (try clear p303); (try clear p304); (try clear p309); (try clear p36); (try clear p4); (try clear p40); (try clear p6); (try clear p62); (try clear p72); (try clear q3); (try clear q30); (try clear q302); (try clear q303); (try clear q304); (try clear q309); (try clear q36); (try clear q4); (try clear q40); (try clear q62); (try clear q72); obtain ⟨x12_3, x17_3, x18_3, rfl, rfl, HA, HK3, HO_8, HO_12, HO_Z0, HO_Z1, BK275, BK276, BK296, HB⟩ := hrel
             cases gk with
             | zero => exact absurd HA.out (by simp [impl_TreeQuad.l3])
             | succ k3 =>
              have H := HA.out; clear HA; simp only [impl_TreeQuad.l3] at H
              by_cases c79 : x18_3 ≥ 0
              ·
               rw [if_pos c79] at H; have c79b0 := decide_eq_true c79; clear c79
               by_cases c80 : 0 ≤ x18_3
               ·
                rw [if_pos c80] at H; have c80b0 := decide_eq_true c80; clear c80
                by_cases c81 : x18_3 < (x8_1.length : Int)
                ·
                 rw [if_pos c81] at H; have c81b0 := decide_eq_true c81; (try (have c81b0hl8_1 := c81b0; rw [hl8_1] at c81b0hl8_1)); clear c81
                 by_cases c82 : (rd x8_1 x18_3) < 0
                 ·
                  rw [if_pos c82] at H; have c82b0 := decide_eq_true c82; clear c82
                  by_cases c83 : 0 ≤ (t287.length : Int)
                  ·
                   rw [if_pos c83] at H; have c83b0 := decide_eq_true c83; (try (have c83b0hl8_1 := c83b0; rw [hl8_1] at c83b0hl8_1)); have c83b1 : decide (0 ≤ t287.length) = true := decide_eq_true (by omega); (try (have c83b1hl8_1 := c83b1; rw [hl8_1] at c83b1hl8_1)); clear c83
                   by_cases c84 : (t287.length : Int) < (x12_3.length : Int)
                   ·
                    rw [if_pos c84] at H; have c84b0 := decide_eq_true c84; (try (have c84b0hl8_1 := c84b0; rw [hl8_1] at c84b0hl8_1)); have c84b1 : decide (t287.length < x12_3.length) = true := decide_eq_true (Int.ofNat_lt.mp c84); (try (have c84b1hl8_1 := c84b1; rw [hl8_1] at c84b1hl8_1)); clear c84
                    by_cases c85 : (rd_L1 x12_3 (t287.length : Int)).length < 17592186044416
                    ·
                     rw [if_pos c85] at H; have LMc85 := Az c85; clear c85; obtain ⟨y316, hy316⟩ : ∃ y_ : List Int, y_ = ((rd_L1 x12_3 (t287.length : Int)) ++ [wrap64 ((wrap64 (2 * x18_3)) + 1)]) := ⟨_, rfl⟩; replace H : (impl_TreeQuad.l3 k3 x8_1 (t287.length : Int) (x12_3.set ((t287.length : Int) : Int).toNat y316) (wrap64 ((wrap64 (2 * x18_3)) + 1)) (wrap64 (x18_3 - 1)) xZ0_1 xZ1_1) = some (r1, r2, r3, r4) := hR hy316 H; have Ny316 := Az hy316; clear hy316; obtain ⟨y319, hy319⟩ : ∃ y_ : List (List Int), y_ = (x12_3.set ((t287.length : Int) : Int).toNat y316) := ⟨_, rfl⟩; replace H : (impl_TreeQuad.l3 k3 x8_1 (t287.length : Int) y319 (wrap64 ((wrap64 (2 * x18_3)) + 1)) (wrap64 (x18_3 - 1)) xZ0_1 xZ1_1) = some (r1, r2, r3, r4) := hR hy319 H; have Ny319 := Az hy319; clear hy319; have H' := Az H; clear H; have p314 : 0 ≤ (x18_3 : Int) := oA; have q314 : x18_3 < (x8_1.length : Int) := oA; obtain ⟨ad314, e314, hx314_0⟩ := Kd.at_int (Kd.R_reads' HO_8.out).2.2 x18_3 p314 q314
                     cases e314
                     replace p314 := eq_true p314; replace q314 := eq_true q314; obtain ⟨Ao87, co87, eo87⟩ := Kd.S_slice HO_12.out; subst eo87; have p315 : 0 ≤ ((t287.length : Int) : Int) := oA; have q315 : (t287.length : Int) < (x12_3.length : Int) := oA; obtain ⟨ad315, A315_0, c315_0, e315, hx315_0, hl315_0, hi315_0⟩ := at_L1 (Kd.S_reads' HO_12.out).2.2 (t287.length : Int) p315 q315
                     cases e315
                     obtain ⟨ce315, hce315, hMe315, hcc315⟩ := Kd.S_get HO_12.out [] (t287.length : Int) p315 (by first | exact q315 | exact oA | (have e_ := (Kd.S_reads' HO_12.out).1; omega)); obtain ⟨ve315_0, rfl, ge315_0⟩ := hMe315; have hv315_0 := hcc315 0 _ rfl; rw [Nat.add_zero, show ((Kd.slice 3 (Kd.int .i64))).sz = 1 from rfl, Nat.mul_one] at hv315_0; replace hv315_0 := Option.some.inj (hv315_0.symm.trans hx315_0); rw [hv315_0] at ge315_0; have HL315_0 := Az (show Kd.R (Kd.int .i64) 3 _ _ _ _ (rd_L1 x12_3 (t287.length : Int)) from ge315_0); clear hv315_0 ge315_0; have HX315_0 := Az hx315_0; clear hcc315 hce315; have HR315_0 := Az hi315_0; have HC315_0 := Az hl315_0; clear hi315_0 hl315_0; (try simp only [Go.IntWalk.toNatUp] at hx315_0); (try simp only [hl8_1] at p315); (try simp only [hl8_1] at q315); (try (generalize hE_ : rd_L1 x12_3 (t287.length : Int) = E_ at hx315_0; simp only [hl8_1] at hx315_0; subst hE_)); replace p315 := eq_true p315; replace q315 := eq_true q315; obtain ⟨go88, co88, eo88, gb88, gl88, cl88, HG88⟩ := Kd.S_form HO_12.out (by have h_ : ((t287.length : Int) : Int) < ((x12_3.length : Int) : Int) := oA; have h2_ : 0 ≤ ((t287.length : Int) : Int) := (oA); omega); (first | cases eo88 | (injection eo88 with ea_ en_ ec_; (first | subst ea_ | (injection ea_ with ea_; subst ea_)); subst ec_; clear en_)); have GB88 := Az gb88; have GG88 := Az HG88; clear gb88 gl88 HG88; (first | simp only [add_plain] at hx315_0 | skip); obtain ⟨oki88, ce88, hcl88, hM88, hcc88, _, _, hH88⟩ := Kd.S_elem HO_12.out [] ((t287.length : Int) : Int) (oA) (by have h_ : ((t287.length : Int) : Int) < ((x12_3.length : Int) : Int) := oA; first | exact h_ | (have e_ := (Kd.S_reads' HO_12.out).1; omega) | simpa using h_); obtain ⟨ve88_0, rfl, ge88_0⟩ := hM88; have hv88 := hcc88 0 _ rfl; have hX88 := HX315_0.out; (try simp only [add_plain] at hX88); (try simp only [Nat.add_zero] at hv88); (try rw [show ((Kd.slice 3 (Kd.int .i64))).sz = 1 from rfl, Nat.mul_one] at hv88); replace hv88 := Option.some.inj (hv88.symm.trans hX88); subst hv88; clear hX88 hcc88 hcl88; have UU88 := Az (show Kd.R (Kd.int .i64) 3 _ w.heap.size oki88 (.slice A315_0 (rd_L1 x12_3 (t287.length : Int)).length c315_0) (rd_L1 x12_3 (t287.length : Int)) from ge88_0); have HH88 := Az hH88; have HN88 := Az (Kd.S_reads' HO_12.out).1; clear hH88 ge88_0; (try simp only [hl8_1] at UU88); (try simp only [hl8_1] at Ny316); (try simp only [hl8_1] at Ny319); (try simp only [hl8_1] at LMc85); (try simp only [hl8_1] at HL315_0); (try simp only [hl8_1] at HX315_0); (try simp only [hl8_1] at HR315_0); (try simp only [hl8_1] at HC315_0); (try simp only [hl8_1] at HH88); (try simp only [hl8_1] at HN88); (try simp only [hl8_1] at hx315_0)
                     go_wp2_with (first | ((with_reducible refine gate_builtin (b := .append) (xs := #[.tmp 133, .tmp 137]) rfl ?_); at_builtin; refine Kd.R_append (Kd.int .i64) (w0 := w) w.heap.size rfl (.tmp 133) (.tmp 137) 23 3 (.int .i64 0) 8 rfl Try.underlying23 info3 rfl (by decide) (by omega) (.slice A315_0 (rd_L1 x12_3 (x8_1.length : Int)).length c315_0) (rd_L1 x12_3 (x8_1.length : Int)) (wrap64 ((wrap64 (2 * x18_3)) + 1)) [.int .i64 (wrap64 ((wrap64 (2 * x18_3)) + 1))] (fun k_ => oki88 k_ ∨ ((fun k_ => some k_ ≠ (.slice (some ad314) x8_1.length co18 : Value).ownBlock ∧ some k_ ≠ (uZ0 : Value).ownBlock ∧ some k_ ≠ (uZ1 : Value).ownBlock)) k_ ∧ wr.heap.size ≤ k_) (fun _ => False) rfl rfl ?aP (fun _ hk => hk.elim) ?aF ?aO ?aB ?aS ?aL ?_; (case aP => exact rfl); (case aB => exact (bU3 HB.out GE275.out GE276.out GE296.out)); (case aF => exact (fun k_ hk => .inr ⟨⟨Kd.fresh' (Kd.R_lt (rU HO_8.out)) k_ hk, Kd.fresh' (Kd.R_lt (rU HO_Z0.out)) k_ hk, Kd.fresh' (Kd.R_lt (rU HO_Z1.out)) k_ hk⟩, hk⟩)); (case aO => exact (by (with_reducible repeat (first | apply Kd.R_alloc | apply Kd.R_drewN | apply Kd.R_drew)); exact Kd.R_mono UU88.out (fun _ hk => .inl hk))); (case aS => exact (below_size (bU3 HB.out GE275.out GE276.out GE296.out))); (case aL => have := LMc85.out; omega); intro v317 w89 ho hb hg hat; rw [← Ny316.out] at ho; have n0 := Az (Kd.R_grown2 (rU HO_8.out) rfl hg (fun k_ e_ => (HL315_0.out.1 k_ e_).1.1)); have n1 := Az (Kd.R_grown2 (rU HO_Z0.out) rfl hg (fun k_ e_ => (HL315_0.out.1 k_ e_).1.2.1)); have n2 := Az (Kd.R_grown2 (rU HO_Z1.out) rfl hg (fun k_ e_ => (HL315_0.out.1 k_ e_).1.2.2)); have n3 := Az (blk_grown (g := gb275) (o := .cells #[.string a0_0, .slice A0_1 l0_1.length c0_1] 25 (0, 0)) (kU BK275.out) hg (Kd.R_ne HL315_0.out BK275.out (by decide))); have n4 := Az (blk_grown (g := gb276) (o := .cells #[.slice none 0 0, .slice none 0 0] 29 (0, 0)) (kU BK276.out) hg (Kd.R_ne HL315_0.out BK276.out (by decide))); have n5 := Az (blk_grown (g := gb296) (o := .cells #[uZ0, uZ1] 29 (0, 0)) (kU BK296.out) hg (Kd.R_ne HL315_0.out BK296.out (by decide))); have n6 := Az (hb); have n7 := Az (Kd.H_grown (Kd.H_widen (by repeat (first | exact HH88.out | refine Kd.H_alloc ?_ _ | refine Kd.H_drewN ?_ _ | refine Kd.H_drew ?_))) hg (fun k_ e_ => .inl (UU88.out.1 k_ e_))); have n8 := Az (ho); clear HO_8 HO_Z0 HO_Z1 BK275 BK276 BK296 HB HH88 HO_12 UU88 HL315_0; have HO_8 := n0; have HO_Z0 := n1; have HO_Z1 := n2; have BK275 := n3; have BK276 := n4; have BK296 := n5; have HB := n6; have HH88 := n7; have HO318 := n8; clear n0 n1 n2 n3 n4 n5 n6 n7 n8 ho hb hg hat; have p86 : 0 ≤ ((x8_1.length : Int) : Int) := oA; have q86 : ((x8_1.length : Int) : Int) < ((x12_3.length : Int) : Int) := oA; replace p86 := eq_true p86; replace q86 := eq_true q86; obtain ⟨Ao92, co92, eo92⟩ := Kd.R_slice HO318.out; subst eo92; obtain ⟨_, _, hraw90, _, _, hcc90, _⟩ := Kd.H_raw HH88.out (oA) (by have h_ : ((x8_1.length : Int) : Int) < ((x12_3.length : Int) : Int) := oA; first | exact h_ | (have e_ := (HN88.out); omega) | simpa using h_); obtain ⟨_, hfr90⟩ := Kd.H_at HH88.out (oA) (by have h_ : ((x8_1.length : Int) : Int) < ((x12_3.length : Int) : Int) := oA; first | exact h_ | (have e_ := (HN88.out); omega) | simpa using h_); have hx90_0 := hcc90 0 _ rfl; have hf90_0 := hfr90 0; (try simp only [Nat.add_zero] at hx90_0 hf90_0); (try simp only [Int.toNat_natCast] at hx90_0); (try simp only [Int.toNat_natCast] at hf90_0); (try rw [show ((Kd.slice 3 (Kd.int .i64))).sz = 1 from rfl, Nat.mul_one] at hx90_0); (try rw [show ((Kd.slice 3 (Kd.int .i64))).sz = 1 from rfl, Nat.mul_one] at hf90_0); have HP90 := Kd.S_seg0 HH88.out (oA) (by have h_ : ((x8_1.length : Int) : Int) < ((x12_3.length : Int) : Int) := oA; first | exact h_ | (have e_ := (HN88.out); omega) | simpa using h_) (seg := [.slice Ao92 y316.length co92]) (j := 0) (show 1 ≤ 1 from by decide) (x' := y316) (Kd.M_row HO318.out) (fun _ hk => hk); (try simp only [show ((Kd.slice 3 (Kd.int .i64))).sz = 1 from rfl, Nat.mul_one, Nat.add_zero] at HP90); clear hcc90 hfr90) | ((with_reducible refine gate_store (t := 23) (p := 139) rfl ?_); refine store_event (t := 23) (p := 139) (v := ?vo_w91) (w1 := (w89.setCell ⟨go88, ((x8_1.length : Int) : Int).toNat, none⟩ (.slice Ao92 y316.length co92))) ?hg ?ho ?hn ?hr ?_; (case ho => rfl); (case hg => rfl); (case hn => rfl); (case hr => first | (go_simp; done) | (go_simp; rfl)); intro w91 hw; have hg : w89.grownBy w91 (some go88) := (by rw [hw]; exact HP90.2); have hp_ : Kd.S (Kd.slice 3 (Kd.int .i64)) 23 w91 w.heap.size (fun k_ => some k_ ≠ (.slice (some ad314) x8_1.length co18 : Value).ownBlock ∧ some k_ ≠ (uZ0 : Value).ownBlock ∧ some k_ ≠ (uZ1 : Value).ownBlock) (.slice (some ⟨go88, 0, none⟩) x12_3.length co87) y319 := (by rw [hw, Ny319.out]; exact HP90.1); clear HP90; have n0 := Az (Kd.R_over' (v := (.slice (some ⟨go88, 0, none⟩) x12_3.length co87)) (rU HO_8.out) (Kd.R_typed hraw90) (by decide) hg); have n1 := Az (Kd.R_over' (v := (.slice (some ⟨go88, 0, none⟩) x12_3.length co87)) (rU HO_Z0.out) (Kd.R_typed hraw90) (by decide) hg); have n2 := Az (Kd.R_over' (v := (.slice (some ⟨go88, 0, none⟩) x12_3.length co87)) (rU HO_Z1.out) (Kd.R_typed hraw90) (by decide) hg); have n3 := Az (blk_grown (g := gb275) (o := .cells #[.string a0_0, .slice A0_1 l0_1.length c0_1] 25 (0, 0)) (kU BK275.out) hg (Kd.R_ne hraw90 BK275.out (by decide))); have n4 := Az (blk_grown (g := gb276) (o := .cells #[.slice none 0 0, .slice none 0 0] 29 (0, 0)) (kU BK276.out) hg (Kd.R_ne hraw90 BK276.out (by decide))); have n5 := Az (blk_grown (g := gb296) (o := .cells #[uZ0, uZ1] 29 (0, 0)) (kU BK296.out) hg (Kd.R_ne hraw90 BK296.out (by decide))); have n6 := Az ((by rw [hw]; exact below_set HB.out GB88.out : Below w.heap.size w w91)); have n7 := Az (hp_); clear HO_8 HO_Z0 HO_Z1 BK275 BK276 BK296 HB HO318 HH88; have HO_8 := n0; have HO_Z0 := n1; have HO_Z1 := n2; have BK275 := n3; have BK276 := n4; have BK296 := n5; have HB := n6; have HO_12 := n7; clear n0 n1 n2 n3 n4 n5 n6 n7; clear hg hw hp_ hraw90))
                     (first | go_roundg k3 | (refine Handed.intro k3 ?measure ?_; rotate_left; go_step; (try simp only [add_plain]); (repeat apply Exists.intro); refine ⟨?rel, rfl⟩))
                     case measure => have := HK1.out; have := HK2.out; have := HK3.out; omega
                     case rel => exact ⟨(y319), (wrap64 ((wrap64 (2 * x18_3)) + 1)), (wrap64 (x18_3 - 1)), rS, rS, H', ⟨by have := HK1.out; have := HK2.out; have := HK3.out; omega⟩, ⟨by (try simp only [hl8_1]); (with_reducible repeat (first | apply Kd.R_alloc | apply Kd.R_drewN | apply Kd.R_drew)); exact HO_8.out⟩, ⟨by (try simp only [hl8_1]); (with_reducible repeat (first | apply Kd.S_alloc | apply Kd.S_drewN | apply Kd.S_drew)); exact HO_12.out⟩, ⟨by (try simp only [hl8_1]); (with_reducible repeat (first | apply Kd.R_alloc | apply Kd.R_drewN | apply Kd.R_drew)); exact HO_Z0.out⟩, ⟨by (try simp only [hl8_1]); (with_reducible repeat (first | apply Kd.R_alloc | apply Kd.R_drewN | apply Kd.R_drew)); exact HO_Z1.out⟩, ⟨by (try simp only [hl8_1]); (with_reducible repeat (first | refine blk_drewN ?_ _ | refine blk_drew ?_ | refine blk_alloc ?_ _)); exact BK275.out⟩, ⟨by (try simp only [hl8_1]); (with_reducible repeat (first | refine blk_drewN ?_ _ | refine blk_drew ?_ | refine blk_alloc ?_ _)); exact BK276.out⟩, ⟨by (try simp only [hl8_1]); (with_reducible repeat (first | refine blk_drewN ?_ _ | refine blk_drew ?_ | refine blk_alloc ?_ _)); exact BK296.out⟩, ⟨bU3 HB.out GE275.out GE276.out GE296.out⟩⟩
                    ·
                     rw [if_neg c85] at H
                     exact absurd H (by simp)
                   ·
                    rw [if_neg c84] at H
                    exact absurd H (by simp)
                  ·
                   rw [if_neg c83] at H
                   exact absurd H (by simp)
                 ·
                  rw [if_neg c82] at H; have c82b0 := decide_eq_false c82; clear c82; have H' := Az H; clear H; have p314 : 0 ≤ (x18_3 : Int) := oA; have q314 : x18_3 < (x8_1.length : Int) := oA; obtain ⟨ad314, e314, hx314_0⟩ := Kd.at_int (Kd.R_reads' HO_8.out).2.2 x18_3 p314 q314
                  cases e314
                  replace p314 := eq_true p314; replace q314 := eq_true q314
                  go_wp2
                  (first | go_roundg k3 | (refine Handed.intro k3 ?measure ?_; rotate_left; go_step; (try simp only [add_plain]); (repeat apply Exists.intro); refine ⟨?rel, rfl⟩))
                  case measure => have := HK1.out; have := HK2.out; have := HK3.out; omega
                  case rel => exact ⟨(x12_3), (x17_3), (wrap64 (x18_3 - 1)), rS, rS, H', ⟨by have := HK1.out; have := HK2.out; have := HK3.out; omega⟩, ⟨by (try simp only [hl8_1]); (with_reducible repeat (first | apply Kd.R_alloc | apply Kd.R_drewN | apply Kd.R_drew)); exact HO_8.out⟩, ⟨by (try simp only [hl8_1]); (with_reducible repeat (first | apply Kd.S_alloc | apply Kd.S_drewN | apply Kd.S_drew)); exact HO_12.out⟩, ⟨by (try simp only [hl8_1]); (with_reducible repeat (first | apply Kd.R_alloc | apply Kd.R_drewN | apply Kd.R_drew)); exact HO_Z0.out⟩, ⟨by (try simp only [hl8_1]); (with_reducible repeat (first | apply Kd.R_alloc | apply Kd.R_drewN | apply Kd.R_drew)); exact HO_Z1.out⟩, ⟨by (try simp only [hl8_1]); (with_reducible repeat (first | refine blk_drewN ?_ _ | refine blk_drew ?_ | refine blk_alloc ?_ _)); exact BK275.out⟩, ⟨by (try simp only [hl8_1]); (with_reducible repeat (first | refine blk_drewN ?_ _ | refine blk_drew ?_ | refine blk_alloc ?_ _)); exact BK276.out⟩, ⟨by (try simp only [hl8_1]); (with_reducible repeat (first | refine blk_drewN ?_ _ | refine blk_drew ?_ | refine blk_alloc ?_ _)); exact BK296.out⟩, ⟨bU3 HB.out GE275.out GE276.out GE296.out⟩⟩
                ·
                 rw [if_neg c81] at H
                 exact absurd H (by simp)
               ·
                rw [if_neg c80] at H
                exact absurd H (by simp)
              ·
               rw [if_neg c79] at H; have c79b0 := decide_eq_false c79; clear c79; have H' := Az H; clear H; obtain ⟨Ao93, co93, eo93⟩ := Kd.S_slice HO_12.out; subst eo93
               go_wp2
               go_loopg [145] k3 (fun kq v145 w' => ∃ (x145_4 : Int) (xZ0_4 : List Int) (xZ1_4 : List Int) (uZ0 : Value) (uZ1 : Value), v145 = .int .i64 x145_4 ∧ Aside0 (impl_TreeQuad.l4 kq x17_3 x12_3 (x12_3.length : Int) x145_4 xZ0_4 xZ1_4 = some (r1, r2, r3, r4)) ∧ Aside0 (kq ≤ k3) ∧ Aside0 (Kd.S (Kd.slice 3 (Kd.int .i64)) 23 w' w.heap.size (fun k_ => some k_ ≠ (uZ0 : Value).ownBlock ∧ some k_ ≠ (uZ1 : Value).ownBlock) (.slice Ao93 x12_3.length co93) x12_3) ∧ Aside0 (Kd.R (Kd.int .i64) 3 w' w.heap.size (fun k_ => some k_ ≠ (uZ1 : Value).ownBlock) uZ0 xZ0_4) ∧ Aside0 (Kd.R (Kd.int .i64) 3 w' w.heap.size (fun k_ => some k_ ≠ (uZ0 : Value).ownBlock) uZ1 xZ1_4) ∧ Aside0 (w'.heap[gb275]? = some (.cells #[.string a0_0, (.slice A0_1 l0_1.length c0_1)] 25 (0, 0))) ∧ Aside0 (w'.heap[gb276]? = some (.cells #[(.slice none 0 0), (.slice none 0 0)] 29 (0, 0))) ∧ Aside0 (w'.heap[gb296]? = some (.cells #[uZ0, uZ1] 29 (0, 0))) ∧ Aside0 (Below w.heap.size w w'))
               case atStart => exact ⟨(0), (xZ0_1), (xZ1_1), (uZ0), (uZ1), rS, H', ⟨Nat.le_refl _⟩, ⟨by (try simp only [hl8_1]); (with_reducible repeat (first | apply Kd.S_alloc | apply Kd.S_drewN | apply Kd.S_drew)); exact Kd.S_mono HO_12.out (fun _ hk => ⟨hk.2.1, hk.2.2⟩)⟩, ⟨by (try simp only [hl8_1]); (with_reducible repeat (first | apply Kd.R_alloc | apply Kd.R_drewN | apply Kd.R_drew)); exact Kd.R_mono HO_Z0.out (fun _ hk => hk.2)⟩, ⟨by (try simp only [hl8_1]); (with_reducible repeat (first | apply Kd.R_alloc | apply Kd.R_drewN | apply Kd.R_drew)); exact Kd.R_mono HO_Z1.out (fun _ hk => hk.2)⟩, ⟨by (try simp only [hl8_1]); (with_reducible repeat (first | refine blk_drewN ?_ _ | refine blk_drew ?_ | refine blk_alloc ?_ _)); exact BK275.out⟩, ⟨by (try simp only [hl8_1]); (with_reducible repeat (first | refine blk_drewN ?_ _ | refine blk_drew ?_ | refine blk_alloc ?_ _)); exact BK276.out⟩, ⟨by (try simp only [hl8_1]); (with_reducible repeat (first | refine blk_drewN ?_ _ | refine blk_drew ?_ | refine blk_alloc ?_ _)); exact BK296.out⟩, ⟨bU3 HB.out GE275.out GE276.out GE296.out⟩⟩
               case round =>
                clear H'; (try clear p2); (try clear c3); (try clear p3); (try clear q3); (try clear hx3); (try clear hf3); (try clear c4); (try clear p4); (try clear q4); (try clear hx4); (try clear hf4); (try clear c5); (try clear c6); (try clear p6); (try clear q6); (try clear hx6); (try clear hf6); (try clear c7); (try clear p7); (try clear q7); (try clear hx7); (try clear hf7); (try clear c8); (try clear p8); (try clear q8); (try clear c9); (try clear hx9); (try clear hf9); (try clear c30); (try clear p30); (try clear q30); (try clear hx30); (try clear c31); (try clear p31); (try clear q31); (try clear hx31); (try clear c32); (try clear c32b0); (try clear c34); (try clear c34b0); (try clear c35); (try clear c35b0); (try clear p36); (try clear q36); (try clear hx36); (try clear hf36); (try clear c38); (try clear c38b0); (try clear c39); (try clear c39b0); (try clear p40); (try clear q40); (try clear hx40); (try clear hf40); (try clear c45); (try clear c45b0); (try clear c45b1); (try clear c46); (try clear c46b0); (try clear c46b1); (try clear c50); (try clear c50b0); (try clear c51); (try clear c51b0); (try clear c52); (try clear c52b0); (try clear c53); (try clear c53b0); (try clear c54); (try clear c54b0); (try clear c54b1); (try clear c54b2); (try clear c56); (try clear c56b0); (try clear c57); (try clear c57b0); (try clear c58); (try clear c58b0); (try clear c58b1); (try clear c59); (try clear c59b0); (try clear c60); (try clear c60b0); (try clear c61); (try clear p62); (try clear q62); (try clear c64); (try clear p64); (try clear c66); (try clear hx66); (try clear hf66); (try clear c69); (try clear c69b0); (try clear c70); (try clear c70b0); (try clear c71); (try clear p72); (try clear q72); (try clear c74); (try clear c76); (try clear hx76); (try clear hf76); (try clear c79); (try clear c79b0); (try clear c80); (try clear c80b0); (try clear c81); (try clear c81b0); (try clear c82); (try clear c82b0); (try clear c83); (try clear c83b0); (try clear c83b1); (try clear c84); (try clear c84b0); (try clear c84b1); (try clear c85); (try clear p86); (try clear q86); (try clear c88); (try clear c90); (try clear hx90); (try clear hf90); (try clear hx302_0); (try clear hx303_0); (try clear hx304_0); (try clear hx309_0); (try clear hx314_0); (try clear hx315_0); (try clear hx36_0); (try clear hx40_0); (try clear hx66_0); (try clear hx76_0); (try clear hx90_0); (try clear p2); (try clear p3); (try clear p30); (try clear p302); (try clear p303); (try clear p304); (try clear p309); (try clear p314); (try clear p315); (try clear p36); (try clear p4); (try clear p40); (try clear p6); (try clear p62); (try clear p64); (try clear p7); (try clear p72); (try clear p86); (try clear q3); (try clear q30); (try clear q302); (try clear q303); (try clear q304); (try clear q309); (try clear q314); (try clear q315); (try clear q36); (try clear q4); (try clear q40); (try clear q6); (try clear q62); (try clear q7); (try clear q72); (try clear q86); obtain ⟨x145_4, xZ0_4, xZ1_4, uZ0, uZ1, rfl, HA, HK4, HO_143, HO_Z0, HO_Z1, BK275, BK276, BK296, HB⟩ := hrel
                cases gk with
                | zero => exact absurd HA.out (by simp [impl_TreeQuad.l4])
                | succ k4 =>
                 have H := HA.out; clear HA; simp only [impl_TreeQuad.l4] at H
                 by_cases c94 : x145_4 < (x12_3.length : Int)
                 ·
                  rw [if_pos c94] at H; have c94b0 := decide_eq_true c94; (try (have c94b0hl8_1 := c94b0; rw [hl8_1] at c94b0hl8_1)); clear c94
                  by_cases c95 : 0 ≤ x145_4
                  ·
                   rw [if_pos c95] at H; have c95b0 := decide_eq_true c95; clear c95
                   by_cases c96 : x145_4 < (x12_3.length : Int)
                   ·
                    rw [if_pos c96] at H; have c96b0 := decide_eq_true c96; (try (have c96b0hl8_1 := c96b0; rw [hl8_1] at c96b0hl8_1)); clear c96; have H' := Az H; clear H; have p320 : 0 ≤ (x145_4 : Int) := oA; have q320 : x145_4 < (x12_3.length : Int) := oA; obtain ⟨ad320, A320_0, c320_0, e320, hx320_0, hl320_0, hi320_0⟩ := at_L1 (Kd.S_reads' HO_143.out).2.2 x145_4 p320 q320
                    cases e320
                    obtain ⟨ce320, hce320, hMe320, hcc320⟩ := Kd.S_get HO_143.out [] x145_4 p320 (by first | exact q320 | exact oA | (have e_ := (Kd.S_reads' HO_143.out).1; omega)); obtain ⟨ve320_0, rfl, ge320_0⟩ := hMe320; have hv320_0 := hcc320 0 _ rfl; rw [Nat.add_zero, show ((Kd.slice 3 (Kd.int .i64))).sz = 1 from rfl, Nat.mul_one] at hv320_0; replace hv320_0 := Option.some.inj (hv320_0.symm.trans hx320_0); rw [hv320_0] at ge320_0; have HL320_0 := Az (show Kd.R (Kd.int .i64) 3 _ _ _ _ (rd_L1 x12_3 x145_4) from ge320_0); clear hv320_0 ge320_0; have HX320_0 := Az hx320_0; clear hcc320 hce320; have HR320_0 := Az hi320_0; have HC320_0 := Az hl320_0; clear hi320_0 hl320_0; replace p320 := eq_true p320; replace q320 := eq_true q320
                    go_wp2
                    go_loopg [151] k4 (fun kq v151 w' => ∃ (x151_5 : Int) (xZ0_5 : List Int) (xZ1_5 : List Int) (uZ0 : Value) (uZ1 : Value), v151 = .int .i64 x151_5 ∧ Aside0 (impl_TreeQuad.l5 kq x17_3 (rd_L1 x12_3 x145_4) x12_3 (x12_3.length : Int) x145_4 (rd_L1 x12_3 x145_4) ((rd_L1 x12_3 x145_4).length : Int) x151_5 xZ0_5 xZ1_5 = some (r1, r2, r3, r4)) ∧ Aside0 (kq ≤ k4) ∧ Aside0 (Kd.S (Kd.slice 3 (Kd.int .i64)) 23 w' w.heap.size (fun k_ => some k_ ≠ (uZ0 : Value).ownBlock ∧ some k_ ≠ (uZ1 : Value).ownBlock) (.slice (some ad320) x12_3.length co93) x12_3) ∧ Aside0 (Kd.R (Kd.int .i64) 3 w' w.heap.size (fun k_ => (some k_ ≠ (uZ1 : Value).ownBlock) ∧ some k_ ≠ (.slice A320_0 (rd_L1 x12_3 x145_4).length c320_0 : Value).ownBlock) uZ0 xZ0_5) ∧ Aside0 (Kd.R (Kd.int .i64) 3 w' w.heap.size (fun k_ => some k_ ≠ (uZ0 : Value).ownBlock) uZ1 xZ1_5) ∧ Aside0 (w'.heap[gb275]? = some (.cells #[.string a0_0, (.slice A0_1 l0_1.length c0_1)] 25 (0, 0))) ∧ Aside0 (w'.heap[gb276]? = some (.cells #[(.slice none 0 0), (.slice none 0 0)] 29 (0, 0))) ∧ Aside0 (w'.heap[gb296]? = some (.cells #[uZ0, uZ1] 29 (0, 0))) ∧ Aside0 (Kd.C (Kd.int .i64) w' A320_0 (rd_L1 x12_3 x145_4).length (rd_L1 x12_3 x145_4)) ∧ Aside0 (Below w.heap.size w w'))
                    case atStart => exact ⟨(0), (xZ0_4), (xZ1_4), (uZ0), (uZ1), rS, H', ⟨Nat.le_refl _⟩, ⟨by (try simp only [hl8_1]); (with_reducible repeat (first | apply Kd.S_alloc | apply Kd.S_drewN | apply Kd.S_drew)); exact HO_143.out⟩, ⟨by (try simp only [hl8_1]); (with_reducible repeat (first | apply Kd.R_alloc | apply Kd.R_drewN | apply Kd.R_drew)); exact R_ok_int HO_Z0.out (fun k_ hk_ => ⟨HO_Z0.out.1 k_ hk_, fun e_ => (HL320_0.out.1 k_ e_.symm).1.1 hk_.symm⟩)⟩, ⟨by (try simp only [hl8_1]); (with_reducible repeat (first | apply Kd.R_alloc | apply Kd.R_drewN | apply Kd.R_drew)); exact HO_Z1.out⟩, ⟨by (try simp only [hl8_1]); (with_reducible repeat (first | refine blk_drewN ?_ _ | refine blk_drew ?_ | refine blk_alloc ?_ _)); exact BK275.out⟩, ⟨by (try simp only [hl8_1]); (with_reducible repeat (first | refine blk_drewN ?_ _ | refine blk_drew ?_ | refine blk_alloc ?_ _)); exact BK276.out⟩, ⟨by (try simp only [hl8_1]); (with_reducible repeat (first | refine blk_drewN ?_ _ | refine blk_drew ?_ | refine blk_alloc ?_ _)); exact BK296.out⟩, ⟨by repeat (first | (with_reducible exact HR320_0.out) | (with_reducible refine Kd.C_alloc ?_ _) | (with_reducible refine Kd.C_drewN ?_ _) | (with_reducible refine Kd.C_drew ?_) | exact HR320_0.out)⟩, ⟨bU3 HB.out GE275.out GE276.out GE296.out⟩⟩
                    case round =>
                     clear H'; (try clear p2); (try clear c3); (try clear p3); (try clear q3); (try clear hx3); (try clear hf3); (try clear c4); (try clear p4); (try clear q4); (try clear hx4); (try clear hf4); (try clear c5); (try clear c6); (try clear p6); (try clear q6); (try clear hx6); (try clear hf6); (try clear c7); (try clear p7); (try clear q7); (try clear hx7); (try clear hf7); (try clear c8); (try clear p8); (try clear q8); (try clear c9); (try clear hx9); (try clear hf9); (try clear c30); (try clear p30); (try clear q30); (try clear hx30); (try clear c31); (try clear p31); (try clear q31); (try clear hx31); (try clear c32); (try clear c32b0); (try clear p32); (try clear q32); (try clear hx32); (try clear c34); (try clear c34b0); (try clear c35); (try clear c35b0); (try clear p36); (try clear q36); (try clear hx36); (try clear hf36); (try clear c38); (try clear c38b0); (try clear c39); (try clear c39b0); (try clear p40); (try clear q40); (try clear hx40); (try clear hf40); (try clear c45); (try clear c45b0); (try clear c45b1); (try clear c46); (try clear c46b0); (try clear c46b1); (try clear c50); (try clear c50b0); (try clear c51); (try clear c51b0); (try clear c52); (try clear c52b0); (try clear c53); (try clear c53b0); (try clear c54); (try clear c54b0); (try clear c54b1); (try clear c54b2); (try clear c56); (try clear c56b0); (try clear c57); (try clear c57b0); (try clear c58); (try clear c58b0); (try clear c58b1); (try clear c59); (try clear c59b0); (try clear c60); (try clear c60b0); (try clear c61); (try clear p62); (try clear q62); (try clear c64); (try clear p64); (try clear c66); (try clear hx66); (try clear hf66); (try clear c69); (try clear c69b0); (try clear c70); (try clear c70b0); (try clear c71); (try clear p72); (try clear q72); (try clear c74); (try clear c76); (try clear hx76); (try clear hf76); (try clear c79); (try clear c79b0); (try clear c80); (try clear c80b0); (try clear c81); (try clear c81b0); (try clear c82); (try clear c82b0); (try clear c83); (try clear c83b0); (try clear c83b1); (try clear c84); (try clear c84b0); (try clear c84b1); (try clear c85); (try clear p86); (try clear q86); (try clear c88); (try clear c90); (try clear hx90); (try clear hf90); (try clear c94); (try clear c94b0); (try clear c95); (try clear c95b0); (try clear c96); (try clear c96b0); (try clear hx302_0); (try clear hx303_0); (try clear hx304_0); (try clear hx309_0); (try clear hx314_0); (try clear hx315_0); (try clear hx320_0); (try clear hx36_0); (try clear hx40_0); (try clear hx66_0); (try clear hx76_0); (try clear hx90_0); (try clear p2); (try clear p3); (try clear p30); (try clear p302); (try clear p303); (try clear p304); (try clear p309); (try clear p31); (try clear p314); (try clear p315); (try clear p320); (try clear p36); (try clear p4); (try clear p40); (try clear p6); (try clear p62); (try clear p64); (try clear p7); (try clear p72); (try clear p8); (try clear p86); (try clear q3); (try clear q30); (try clear q302); (try clear q303); (try clear q304); (try clear q309); (try clear q31); (try clear q314); (try clear q315); (try clear q320); (try clear q36); (try clear q4); (try clear q40); (try clear q6); (try clear q62); (try clear q7); (try clear q72); (try clear q8); (try clear q86); obtain ⟨x151_5, xZ0_5, xZ1_5, uZ0, uZ1, rfl, HA, HK5, HO_143, HO_Z0, HO_Z1, BK275, BK276, BK296, HR320_0, HB⟩ := hrel
                     cases gk with
                     | zero => exact absurd HA.out (by simp [impl_TreeQuad.l5])
                     | succ k5 =>
                      have H := HA.out; clear HA; simp only [impl_TreeQuad.l5] at H
                      by_cases c97 : x151_5 < ((rd_L1 x12_3 x145_4).length : Int)
                      ·
                       rw [if_pos c97] at H; have c97b0 := decide_eq_true c97; (try (have c97b0hl8_1 := c97b0; rw [hl8_1] at c97b0hl8_1)); clear c97
                       by_cases c98 : 0 ≤ x151_5
                       ·
                        rw [if_pos c98] at H; have c98b0 := decide_eq_true c98; clear c98
                        by_cases c99 : x151_5 < ((rd_L1 x12_3 x145_4).length : Int)
                        ·
                         rw [if_pos c99] at H; have c99b0 := decide_eq_true c99; (try (have c99b0hl8_1 := c99b0; rw [hl8_1] at c99b0hl8_1)); clear c99
                         by_cases c100 : ((rd_L1 x12_3 x145_4).length : Int) = 0
                         ·
                          rw [if_pos c100] at H
                          exact absurd H (by simp)
                         ·
                          rw [if_neg c100] at H; have c100b0 := beq_eq_false_iff_ne.mpr c100; (try (have c100b0hl8_1 := c100b0; rw [hl8_1] at c100b0hl8_1)); have c100b1 := bne_iff_ne.mpr c100; (try (have c100b1hl8_1 := c100b1; rw [hl8_1] at c100b1hl8_1))
                          have c100b2 : ¬ ((rd_L1 x12_3 x145_4) = []) := fun h_ => c100 (by rw [h_]; rfl)
                          obtain ⟨ji101, hji101⟩ : ∃ j_ : Int, (Int.tmod (wrap64 (x151_5 + 1)) ((rd_L1 x12_3 x145_4).length : Int)) = j_ := ⟨_, rfl⟩; (try (have hji101hl8_1 := hji101; rw [hl8_1] at hji101hl8_1))
                          replace H : (if 0 ≤ (ji101) then (if (ji101) < ((rd_L1 x12_3 x145_4).length : Int) then (if 0 ≤ (rd (rd_L1 x12_3 x145_4) x151_5) then (if (rd (rd_L1 x12_3 x145_4) x151_5) < (xZ0_5.length : Int) then (impl_TreeQuad.l5 k5 x17_3 (rd_L1 x12_3 x145_4) x12_3 (x12_3.length : Int) x145_4 (rd_L1 x12_3 x145_4) ((rd_L1 x12_3 x145_4).length : Int) (wrap64 (x151_5 + 1)) (xZ0_5.set ((rd (rd_L1 x12_3 x145_4) x151_5) : Int).toNat (rd (rd_L1 x12_3 x145_4) (ji101))) xZ1_5) else (none)) else (none)) else (none)) else (none)) = some (r1, r2, r3, r4) := by first | (rw [hji101] at H; exact H) | (simp only [hji101] at H ⊢; exact H)
                          by_cases c102 : 0 ≤ (ji101)
                          ·
                           rw [if_pos c102] at H; have c102b0 := decide_eq_true c102; clear c102
                           by_cases c103 : (ji101) < ((rd_L1 x12_3 x145_4).length : Int)
                           ·
                            rw [if_pos c103] at H; have c103b0 := decide_eq_true c103; (try (have c103b0hl8_1 := c103b0; rw [hl8_1] at c103b0hl8_1)); clear c103
                            by_cases c104 : 0 ≤ (rd (rd_L1 x12_3 x145_4) x151_5)
                            ·
                             rw [if_pos c104] at H; have c104b0 := decide_eq_true c104; clear c104
                             by_cases c105 : (rd (rd_L1 x12_3 x145_4) x151_5) < (xZ0_5.length : Int)
                             ·
                              rw [if_pos c105] at H; have c105b0 := decide_eq_true c105; (try (have c105b0hl8_1 := c105b0; rw [hl8_1] at c105b0hl8_1)); clear c105; obtain ⟨y323, hy323⟩ : ∃ y_ : List Int, y_ = (xZ0_5.set ((rd (rd_L1 x12_3 x145_4) x151_5) : Int).toNat (rd (rd_L1 x12_3 x145_4) (ji101))) := ⟨_, rfl⟩; replace H : (impl_TreeQuad.l5 k5 x17_3 (rd_L1 x12_3 x145_4) x12_3 (x12_3.length : Int) x145_4 (rd_L1 x12_3 x145_4) ((rd_L1 x12_3 x145_4).length : Int) (wrap64 (x151_5 + 1)) y323 xZ1_5) = some (r1, r2, r3, r4) := hR hy323 H; have Ny323 := Az hy323; clear hy323; have H' := Az H; clear H; have p321 : 0 ≤ (x151_5 : Int) := oA; have q321 : x151_5 < ((rd_L1 x12_3 x145_4).length : Int) := oA; obtain ⟨ad321, e321, hx321_0⟩ := Kd.at_int HR320_0.out x151_5 p321 q321
                              cases e321
                              (try replace hx321_0 := (HB.out.cell (World.block_lt_of_cell? w _ hx321_0)).trans hx321_0); replace p321 := eq_true p321; replace q321 := eq_true q321
                              try go_wp2
                              have n0 := Az (Kd.S_drew HO_143.out); have n1 := Az (Kd.R_drew HO_Z0.out); have n2 := Az (Kd.R_drew HO_Z1.out); have n3 := Az (blk_drew BK275.out); have n4 := Az (blk_drew BK276.out); have n5 := Az (blk_drew BK296.out); have n6 := Az (Kd.C_drew HR320_0.out); have n7 := Az (below_drew1 HB.out); clear HO_143 HO_Z0 HO_Z1 BK275 BK276 BK296 HR320_0 HB; have HO_143 := n0; have HO_Z0 := n1; have HO_Z1 := n2; have BK275 := n3; have BK276 := n4; have BK296 := n5; have HR320_0 := n6; have HB := n7; clear n0 n1 n2 n3 n4 n5 n6 n7; have p322 : 0 ≤ ((ji101) : Int) := oA; have q322 : (ji101) < ((rd_L1 x12_3 x145_4).length : Int) := oA; obtain ⟨ad322, e322, hx322_0⟩ := Kd.at_int HR320_0.out (ji101) p322 q322; have hw322_0 := hx322_0; obtain rfl : ad321 = ad322 := (by injection e322); (try replace hx322_0 := (HB.out.cell (World.block_lt_of_cell? w _ hx322_0)).trans hx322_0); replace p322 := eq_true p322; replace q322 := eq_true q322; have p106 : 0 ≤ ((rd (rd_L1 x12_3 x145_4) x151_5) : Int) := oA; have q106 : ((rd (rd_L1 x12_3 x145_4) x151_5) : Int) < ((xZ0_5.length : Int) : Int) := oA; obtain ⟨go106, co106, eo106, gb106, gl106, cl106, HG106⟩ := Kd.R_form HO_Z0.out (by omega); (first | cases eo106 | (injection eo106 with ea_ en_ ec_; (first | subst ea_ | (injection ea_ with ea_; subst ea_)); subst ec_; clear en_)); have GB106 := Az gb106; have GG106 := Az HG106; clear gb106 gl106 HG106; obtain ⟨hx106_0, hf106_0⟩ := Kd.R_celln 0 HO_Z0.out ((rd (rd_L1 x12_3 x145_4) x151_5) : Int) p106 q106; replace p106 := eq_true p106; replace q106 := eq_true q106; have HP108 := Kd.R_putn HO_Z0.out ((rd (rd_L1 x12_3 x145_4) x151_5) : Int) (rd (rd_L1 x12_3 x145_4) (ji101)); rw [← Ny323.out] at HP108; have HQ108 := Az HP108; clear HP108
                              refine start_ (n := 13) (S := fun w' => w'.cell? ⟨gb296, 0, none⟩ = some (.slice (some ⟨go106, 0, none⟩) xZ0_5.length co106) ∧ w'.cell? ⟨gb296, 1, none⟩ = some (uZ1) ∧ w'.cell? (ad321.add ((ji101)).toNat) = some (.int .i64 (rd (rd_L1 x12_3 x145_4) (ji101)))) (ds := [12]) (impl_TreeQuad_up [(0, some 156), (2, some 158), (3, some 159), (4, some 160), (5, some 161), (6, some 162), (7, some 163), (8, some 164), (9, some 165), (1, some 157), (10, some 166), (11, some 167), (12, none)] 13) (by kernel_rfl) rfl rfl ⟨(blk_cell BK296.out 0).trans rfl, (blk_cell BK296.out 1).trans rfl, (by first | exact hw322_0 | exact (HB.out.cell (World.block_lt_of_cell? w _ hw322_0)).trans hw322_0)⟩ (fun hHeld => ?_); refine with_tabW impl_TreeQuad.tab37 impl_TreeQuad.bits37 (fun HT_ HW_ => ?_)
                              generalize wr.drew = w107 at HO_143 HO_Z0 HO_Z1 BK275 BK276 BK296 HR320_0 HB GG106 HQ108 hf106_0 hx106_0 hx322_0 hHeld ⊢
                              repeat (first | (refine impl_TreeQuad_uP rfl rfl (any_of HT_.out (by kernel_rfl)) (fun _ _ _ h => h) (by rfl) (v := ?_) (a' := ?_) ?_ ?_ ?_; rotate_left; (· intro w'; go_simp; with_reducible rfl); rotate_left; (· simp only [Act.put, List.setIfInBounds_toArray, List.set_cons_zero, List.set_cons_succ, i64_w, i32_w]; rfl)) | (refine impl_TreeQuad_uT rfl rfl (take_ofW HT_.out HW_.out (by kernel_rfl)) (fun _ _ _ h => h) (by rfl) (v := ?_) (a' := ?_) ?_ hHeld ?_ ?_; rotate_left; (· rintro w' ⟨s0, s1, s2⟩; go_simp; with_reducible rfl); rotate_left; (· simp only [Act.put, List.setIfInBounds_toArray, List.set_cons_zero, List.set_cons_succ, i64_w, i32_w]; rfl)))
                              refine impl_TreeQuad_uL rfl rfl (one_of HT_.out (by kernel_rfl)) (by decide) (fun K hK => ?_)
                              refine skip_ (w1 := ?_) (by rfl) rfl ?_ ?_
                              rotate_left
                              ·
                               go_simp
                               rfl
                              refine hK.out _ _ ?_
                              clear hK K
                              refine done_ (done_of HT_.out (by kernel_rfl)) ?_
                              try go_wp2
                              (first | go_roundg k5 | (refine Handed.intro k5 ?measure ?_; rotate_left; go_step; (try simp only [add_plain]); (repeat apply Exists.intro); refine ⟨?rel, rfl⟩))
                              case measure => have := HK1.out; have := HK2.out; have := HK3.out; have := HK4.out; have := HK5.out; omega
                              case rel => exact ⟨(wrap64 (x151_5 + 1)), (y323), (xZ1_5), (.slice (some ⟨go106, 0, none⟩) xZ0_5.length co106), (uZ1), rS, H', ⟨by have := HK1.out; have := HK2.out; have := HK3.out; have := HK4.out; have := HK5.out; omega⟩, ⟨by (try simp only [hl8_1]); (with_reducible repeat (first | apply Kd.S_alloc | apply Kd.S_drewN | apply Kd.S_drew)); exact Kd.S_mono (Kd.S_far (p := ⟨go106, ((rd (rd_L1 x12_3 x145_4) x151_5) : Int).toNat, none⟩) (Kd.S_mono HO_143.out (fun k_ hk => (⟨hk, fun e_ => hk.1 (by rw [e_]; rfl)⟩ : _ ∧ k_ ≠ go106))) (fun _ hk => hk.2) (.int .i64 (rd (rd_L1 x12_3 x145_4) (ji101)))) (fun _ hk => ⟨hk.1.1, hk.1.2⟩)⟩, ⟨by (try simp only [hl8_1]); (with_reducible repeat (first | apply Kd.R_alloc | apply Kd.R_drewN | apply Kd.R_drew)); exact HQ108.out⟩, ⟨by (try simp only [hl8_1]); (with_reducible repeat (first | apply Kd.R_alloc | apply Kd.R_drewN | apply Kd.R_drew)); exact Kd.R_mono (Kd.R_far (p := ⟨go106, ((rd (rd_L1 x12_3 x145_4) x151_5) : Int).toNat, none⟩) (Kd.R_mono HO_Z1.out (fun k_ hk => (⟨hk, fun e_ => hk (by rw [e_]; rfl)⟩ : _ ∧ k_ ≠ go106))) (fun _ hk => hk.2) (.int .i64 (rd (rd_L1 x12_3 x145_4) (ji101)))) (fun _ hk => hk.1)⟩, ⟨by (try simp only [hl8_1]); (with_reducible repeat (first | refine blk_drewN ?_ _ | refine blk_drew ?_ | refine blk_alloc ?_ _)); refine blk_far ?_ (by have h_ := Kd.R_ne HO_Z0.out BK275.out (by decide); intro e_; exact h_ (by rw [e_]; rfl)) _; (with_reducible repeat (first | refine blk_drewN ?_ _ | refine blk_drew ?_ | refine blk_alloc ?_ _)); exact BK275.out⟩, ⟨by (try simp only [hl8_1]); (with_reducible repeat (first | refine blk_drewN ?_ _ | refine blk_drew ?_ | refine blk_alloc ?_ _)); refine blk_far ?_ (by have h_ := Kd.R_ne HO_Z0.out BK276.out (by decide); intro e_; exact h_ (by rw [e_]; rfl)) _; (with_reducible repeat (first | refine blk_drewN ?_ _ | refine blk_drew ?_ | refine blk_alloc ?_ _)); exact BK276.out⟩, ⟨by (try simp only [hl8_1]); (with_reducible repeat (first | refine blk_drewN ?_ _ | refine blk_drew ?_ | refine blk_alloc ?_ _)); refine blk_far ?_ (by have h_ := Kd.R_ne HO_Z0.out BK296.out (by decide); intro e_; exact h_ (by rw [e_]; rfl)) _; (with_reducible repeat (first | refine blk_drewN ?_ _ | refine blk_drew ?_ | refine blk_alloc ?_ _)); exact BK296.out⟩, ⟨by repeat (first | (with_reducible exact (seen_far (p := ⟨go106, _, none⟩) (d := 0) HR320_0.out (fun ad_ e_ _ eb_ => (HO_Z0.out.1 _ rfl).2 (by cases e_; exact congrArg some eb_.symm)) _)) | (with_reducible refine Kd.C_alloc ?_ _) | (with_reducible refine Kd.C_drewN ?_ _) | (with_reducible refine Kd.C_drew ?_) | exact (seen_far (p := ⟨go106, _, none⟩) (d := 0) HR320_0.out (fun ad_ e_ _ eb_ => (HO_Z0.out.1 _ rfl).2 (by cases e_; exact congrArg some eb_.symm)) _))⟩, ⟨bU4 HB.out GB106.out GE275.out GE276.out GE296.out⟩⟩
                             ·
                              rw [if_neg c105] at H
                              exact absurd H (by simp)
                            ·
                             rw [if_neg c104] at H
                             exact absurd H (by simp)
                           ·
                            rw [if_neg c103] at H
                            exact absurd H (by simp)
                          ·
                           rw [if_neg c102] at H
                           exact absurd H (by simp)
                        ·
                         rw [if_neg c99] at H
                         exact absurd H (by simp)
                       ·
                        rw [if_neg c98] at H
                        exact absurd H (by simp)
                      ·
                       rw [if_neg c97] at H; have c97b0 := decide_eq_false c97; (try (have c97b0hl8_1 := c97b0; rw [hl8_1] at c97b0hl8_1)); clear c97; have H' := Az H; clear H
                       go_wp2
                       (first | go_roundg k5 | (refine Handed.intro k5 ?measure ?_; rotate_left; go_step; (try simp only [add_plain]); (repeat apply Exists.intro); refine ⟨?rel, rfl⟩))
                       case measure => have := HK1.out; have := HK2.out; have := HK3.out; have := HK4.out; have := HK5.out; omega
                       case rel => exact ⟨(wrap64 (x145_4 + 1)), (xZ0_5), (xZ1_5), (uZ0), (uZ1), rS, H', ⟨by have := HK1.out; have := HK2.out; have := HK3.out; have := HK4.out; have := HK5.out; omega⟩, ⟨by (try simp only [hl8_1]); (with_reducible repeat (first | apply Kd.S_alloc | apply Kd.S_drewN | apply Kd.S_drew)); exact HO_143.out⟩, ⟨by (try simp only [hl8_1]); (with_reducible repeat (first | apply Kd.R_alloc | apply Kd.R_drewN | apply Kd.R_drew)); (first | exact HO_Z0.out | exact Kd.R_mono HO_Z0.out (fun _ h_ => h_.1))⟩, ⟨by (try simp only [hl8_1]); (with_reducible repeat (first | apply Kd.R_alloc | apply Kd.R_drewN | apply Kd.R_drew)); exact HO_Z1.out⟩, ⟨by (try simp only [hl8_1]); (with_reducible repeat (first | refine blk_drewN ?_ _ | refine blk_drew ?_ | refine blk_alloc ?_ _)); exact BK275.out⟩, ⟨by (try simp only [hl8_1]); (with_reducible repeat (first | refine blk_drewN ?_ _ | refine blk_drew ?_ | refine blk_alloc ?_ _)); exact BK276.out⟩, ⟨by (try simp only [hl8_1]); (with_reducible repeat (first | refine blk_drewN ?_ _ | refine blk_drew ?_ | refine blk_alloc ?_ _)); exact BK296.out⟩, ⟨bU3 HB.out GE275.out GE276.out GE296.out⟩⟩
                   ·
                    rw [if_neg c96] at H
                    exact absurd H (by simp)
                  ·
                   rw [if_neg c95] at H
                   exact absurd H (by simp)
                 ·
                  rw [if_neg c94] at H; have c94b0 := decide_eq_false c94; (try (have c94b0hl8_1 := c94b0; rw [hl8_1] at c94b0hl8_1)); clear c94; simp only [Option.some.injEq, Prod.mk.injEq] at H; obtain ⟨rfl, rfl, rfl, rfl⟩ := H; have hnb109 := NB296_275.out; have hnc109 := NB275_296.out; have hnb110 := NB296_276.out; have hnc110 := NB276_296.out; have hcz111_0 : wr.cell? ⟨gb296, 0, none⟩ = some (uZ0) := (blk_cell BK296.out 0).trans rfl; have hcz111_1 : wr.cell? ⟨gb296, 1, none⟩ = some (uZ1) := (blk_cell BK296.out 1).trans rfl; have hfz111_0 := blk_frozen BK296.out 0; have hfz111_1 := blk_frozen BK296.out 1; obtain ⟨Ao112, co112, eo112⟩ := Kd.R_slice HO_Z0.out; subst eo112; have hnb113 := NB276_275.out; have hnc113 := NB275_276.out; have hcz114_0 : wr.cell? ⟨gb276, 0, none⟩ = some (.slice none 0 0) := (blk_cell BK276.out 0).trans rfl; have hcz114_1 : wr.cell? ⟨gb276, 1, none⟩ = some (.slice none 0 0) := (blk_cell BK276.out 1).trans rfl; have hfz114_0 := blk_frozen BK276.out 0; have hfz114_1 := blk_frozen BK276.out 1; obtain ⟨Ao115, co115, eo115⟩ := Kd.R_slice HO_Z1.out; subst eo115
                  go_wp2
                  refine bodyPost_ret (results_ctt rfl _ _ gb276 29 #[.slice Ao112 xZ0_4.length co112, .slice Ao115 xZ1_4.length co115] (0, 0) _ rfl (by (with_reducible repeat (first | refine blk_drewN ?_ _ | refine blk_drew ?_ | refine blk_alloc ?_ _)); refine blk_put (cs := #[.slice Ao112 xZ0_4.length co112, .slice none 0 0]) ?_ 1 _ rfl; (with_reducible repeat (first | refine blk_drewN ?_ _ | refine blk_drew ?_ | refine blk_alloc ?_ _)); refine blk_put (cs := #[.slice none 0 0, .slice none 0 0]) ?_ 0 _ rfl; (with_reducible repeat (first | refine blk_drewN ?_ _ | refine blk_drew ?_ | refine blk_alloc ?_ _)); exact BK276.out) Try.underlying29 rfl (by kernel_rfl)) rfl ?_
                  exact ⟨_, _, by first | rfl | (simp [errW_none, errW_some] <;> rfl) | (simp only [← hji6, ← hji44]; first | rfl | (simp [errW_none, errW_some] <;> rfl)) | (simp [*, errW_none, errW_some] <;> rfl), by (with_reducible repeat (first | apply Kd.R_alloc | apply Kd.R_drewN | apply Kd.R_drew)); exact Kd.R_mono (Kd.R_far (p := ⟨gb276, 1, none⟩) (Kd.R_far (p := ⟨gb276, 0, none⟩) (Kd.R_types HO_Z0.out BK276.out (by decide)) (fun _ hk => hk.2) (.slice Ao112 xZ0_4.length co112)) (fun _ hk => hk.2) (.slice Ao115 xZ1_4.length co115)) (fun _ hk => hk.1), by (with_reducible repeat (first | apply Kd.R_alloc | apply Kd.R_drewN | apply Kd.R_drew)); exact Kd.R_mono (Kd.R_far (p := ⟨gb276, 1, none⟩) (Kd.R_far (p := ⟨gb276, 0, none⟩) (Kd.R_types HO_Z1.out BK276.out (by decide)) (fun _ hk => hk.2) (.slice Ao112 xZ0_4.length co112)) (fun _ hk => hk.2) (.slice Ao115 xZ1_4.length co115)) (fun _ hk => hk.1), bU3 HB.out GE275.out GE276.out GE296.out⟩
        ·
         rw [if_neg c46] at H
         exact absurd H (by simp)
       ·
        rw [if_neg c45] at H
        exact absurd H (by simp)
   ·
    rw [if_neg c8] at H
    exact absurd H (by simp)
  ·
   rw [if_neg c7] at H
   exact absurd H (by simp)
 ·
  replace c3 := Bool.eq_false_iff.mpr c3; subst c3
  have H1 : (some (([] : List Int), ([] : List Int), 0, false)) = some (r1, r2, r3, r4) := by rw [if_neg (show ¬ (false = true) by decide)] at H; exact H
  clear H; have H := H1; clear H1; simp only [Option.some.injEq, Prod.mk.injEq] at H; obtain ⟨rfl, rfl, rfl, rfl⟩ := H
  go_enter Try.func23, Try.ntmps23
  go_wp2_with (first | ((with_reducible refine gate_dst (N := 1) rfl ?_); refine box_event ?hg (N := 1) ?hd (cs := #[.string a0_0, .slice A0_1 l0_1.length c0_1]) (t := 25) ?hr ?_; (case hd => rfl); (case hg => rfl); (case hr => first | (go_simp; done) | (go_simp; rfl)); intro gb275 hg w116 hbox hb; have n0 := Az (below_step (bU0 HB.out) hb); have n1 := Az (hbox); have n2 := Az ((by rw [hg]; exact (below_size (bU0 HB.out)) : w.heap.size ≤ gb275)); have n3 := n2; clear HB; have HB := n0; have BK275 := n1; have GW275 := n2; have GE275 := n3; clear n0 n1 n2 n3; clear hb hbox hg) | ((with_reducible refine gate_dst (N := 2) rfl ?_); refine box_event ?hg (N := 2) ?hd (cs := #[.slice none 0 0, .slice none 0 0]) (t := 29) ?hr ?_; (case hd => rfl); (case hg => rfl); (case hr => first | (go_simp; done) | (go_simp; rfl)); intro gb276 hg w117 hbox hb; have n0 := Az (blk_below (g := gb275) (o := .cells #[.string a0_0, .slice A0_1 l0_1.length c0_1] 25 (0, 0)) (kU BK275.out) hb); have n1 := Az (below_step (bU1 HB.out GE275.out) hb); have n2 := Az (hbox); have n3 := Az ((by rw [hg]; exact (below_size (bU1 HB.out GE275.out)) : w.heap.size ≤ gb276)); have n4 := n3; have n5 := Az ((by rw [hg]; exact Nat.ne_of_lt (blk_lt (g := gb275) (o := .cells #[.string a0_0, .slice A0_1 l0_1.length c0_1] 25 (0, 0)) (kU BK275.out)) : gb275 ≠ gb276)); have n6 := Az ((by rw [hg]; exact Nat.ne_of_gt (blk_lt (g := gb275) (o := .cells #[.string a0_0, .slice A0_1 l0_1.length c0_1] 25 (0, 0)) (kU BK275.out)) : gb276 ≠ gb275)); clear BK275 HB; have BK275 := n0; have HB := n1; have BK276 := n2; have GW276 := n3; have GE276 := n4; have NB275_276 := n5; have NB276_275 := n6; clear n0 n1 n2 n3 n4 n5 n6 hb hbox hg; have hnb118 := NB275_276.out; have hnc118 := NB276_275.out; have hcz119_0 : w117.cell? ⟨gb275, 0, none⟩ = some (.string a0_0) := (blk_cell BK275.out 0).trans rfl; have hcz119_1 : w117.cell? ⟨gb275, 1, none⟩ = some (.slice A0_1 l0_1.length c0_1) := (blk_cell BK275.out 1).trans rfl; have hfz119_0 := blk_frozen BK275.out 0; have hfz119_1 := blk_frozen BK275.out 1) | ((with_reducible refine gate_callee (f := 16) rfl ?_); refine goesL_ (some 24) rfl rfl Try.func16 (by kernel_rfl) rfl #[.agg #[.string a0_0, .slice A0_1 l0_1.length c0_1]] rfl (by (try simp only [List.map_toArray, List.map_cons, List.map_nil]); first | done | rfl | (simp only [List.length_drop, List.length_take]; rfl)) ?_; (with_reducible refine (impl_TreeValid.calls k a0_0 _ _ l0_1 false _ ?side1 ?side2 A2.out).mono ?_); (case side1 => exact cU (Kd.C_below HR0_1.out HB.out)); (case side2 => exact HC0_1.out); rintro e w120 ⟨rfl, hb⟩; refine ⟨_, rfl, ?_⟩; have n0 := Az (blk_below (g := gb275) (o := .cells #[.string a0_0, .slice A0_1 l0_1.length c0_1] 25 (0, 0)) (kU BK275.out) hb); have n1 := Az (blk_below (g := gb276) (o := .cells #[.slice none 0 0, .slice none 0 0] 29 (0, 0)) (kU BK276.out) hb); have n2 := Az (below_step (bU2 HB.out GE275.out GE276.out) hb); clear BK275 BK276 HB; have BK275 := n0; have BK276 := n1; have HB := n2; clear n0 n1 n2; (try clear hb); (try clear hb2); (try clear hk); (try clear hi); have hcz121_0 : w120.cell? ⟨gb276, 0, none⟩ = some (.slice none 0 0) := (blk_cell BK276.out 0).trans rfl; have hcz121_1 : w120.cell? ⟨gb276, 1, none⟩ = some (.slice none 0 0) := (blk_cell BK276.out 1).trans rfl; have hfz121_0 := blk_frozen BK276.out 0; have hfz121_1 := blk_frozen BK276.out 1))
  refine bodyPost_ret (results_ctt rfl _ _ gb276 29 #[.slice none 0 0, .slice none 0 0] (0, 0) _ rfl (by (with_reducible repeat (first | refine blk_drewN ?_ _ | refine blk_drew ?_ | refine blk_alloc ?_ _)); refine blk_put (cs := #[.slice none 0 0, .slice none 0 0]) ?_ 1 _ rfl; (with_reducible repeat (first | refine blk_drewN ?_ _ | refine blk_drew ?_ | refine blk_alloc ?_ _)); refine blk_put (cs := #[.slice none 0 0, .slice none 0 0]) ?_ 0 _ rfl; (with_reducible repeat (first | refine blk_drewN ?_ _ | refine blk_drew ?_ | refine blk_alloc ?_ _)); exact BK276.out) Try.underlying29 rfl (by kernel_rfl)) rfl ?_
  exact ⟨_, _, rE, by first | exact Kd.R_nil _ _ _ _ _ | exact Kd.N_nil _ _ _ _ _ | exact Kd.V_nil _ _ _ _ _ | exact Kd.Q_nil _ _ _ _ _ | exact Kd.S_nil _ _ _ _ _, by first | exact Kd.R_nil _ _ _ _ _ | exact Kd.N_nil _ _ _ _ _ | exact Kd.V_nil _ _ _ _ _ | exact Kd.Q_nil _ _ _ _ _ | exact Kd.S_nil _ _ _ _ _, bU2 HB.out GE275.out GE276.out⟩
def laws_sameInts.l0 : Nat → List Int → List Int → Int → Option (Bool)
 | 0, _, _, _ => none
 | k + 1, x0, x1, x5 => if x5 < (x0.length : Int) then (if 0 ≤ x5 then (if x5 < (x1.length : Int) then (if (rd x0 x5) = (rd x1 x5) then (laws_sameInts.l0 k x0 x1 (wrap64 (x5 + 1))) else (some false)) else (none)) else (none)) else (some true)
def laws_sameInts.f (k : Nat) (l0 : List Int) (l1 : List Int) : Option (Bool) := if (l0.length : Int) = (l1.length : Int) then (laws_sameInts.l0 k l0 l1 0) else (some false)
theorem laws_sameInts.mono_l : ∀ k, (∀ y0 y1 y2, LeO (laws_sameInts.l0 k y0 y1 y2) (laws_sameInts.l0 (k + 1) y0 y1 y2))
 | 0 => fun _ _ _ r h => by simp [laws_sameInts.l0] at h
 | k + 1 => by
  have ih0 := laws_sameInts.mono_l k
  ·
   intro y0 y1 y2
   unfold laws_sameInts.l0
   repeat' first
   | (with_reducible exact ih0 _ _ _)
   | (with_reducible exact LeO.refl _)
   | (with_reducible exact LeO.none _)
   | (with_reducible refine LeO.ite ?_ ?_)
   | (with_reducible refine LeO.bind ?_ (fun _ => ?_))
   | exact ih0 _ _ _
   | exact LeO.none _
   | refine LeO.ite ?_ ?_
   | refine LeO.bind ?_ (fun _ => ?_)
theorem laws_sameInts.mono : ∀ a0 a1 k, LeO (laws_sameInts.f k a0 a1) (laws_sameInts.f (k + 1) a0 a1) := by
 intro a0 a1 k
 have ih0 := laws_sameInts.mono_l k
 unfold laws_sameInts.f
 repeat' first
   | (with_reducible exact ih0 _ _ _)
   | (with_reducible exact LeO.refl _)
   | (with_reducible exact LeO.none _)
   | (with_reducible refine LeO.ite ?_ ?_)
   | (with_reducible refine LeO.bind ?_ (fun _ => ?_))
   | exact ih0 _ _ _
   | exact LeO.none _
   | refine LeO.ite ?_ ?_
   | refine LeO.bind ?_ (fun _ => ?_)
set_option maxHeartbeats 8000000 in
set_option maxRecDepth 100000 in
theorem laws_sameInts.calls (k : Nat) (A0 : Option Addr) (c0 : Nat) (l0 : List Int) (A1 : Option Addr) (c1 : Nat) (l1 : List Int) (r : Bool) (w : World) (hr0 : Kd.C (Kd.int .i64) w A0 l0.length l0) (hc0 : l0.length ≤ c0) (hr1 : Kd.C (Kd.int .i64) w A1 l1.length l1) (hc1 : l1.length ≤ c1) (h : laws_sameInts.f k l0 l1 = some r) :
  Calls Try.prog 41 #[.slice A0 l0.length c0, .slice A1 l1.length c1] w fun e w' => e = .returned (.bool r) ∧ Drawn0 w w' := by
 have HR0 := Az hr0; have HC0 := Az hc0; clear hr0 hc0; have HR1 := Az hr1; have HC1 := Az hc1; clear hr1 hc1; have H : (if (l0.length : Int) = (l1.length : Int) then (laws_sameInts.l0 k l0 l1 0) else (some false)) = some r := h; clear h
 by_cases c3 : (l0.length : Int) = (l1.length : Int)
 ·
  rw [if_pos c3] at H; have c3b0 := beq_iff_eq.mpr c3; have c3b1 := bne_eq_false_iff_eq.mpr c3
  have c3b2 : (l0.length == l1.length) = true := by first | simpa using c3 | (simp at c3 ⊢; omega)
  clear c3; have H' := Az H; clear H
  go_enter Try.func41, Try.ntmps41
  go_wp2
  repeat (go_quiet (fail); try go_wp2)
  go_loopg [5] k (fun kq v5 w' => ∃ (x5_1 : Int), v5 = .int .i64 x5_1 ∧ Aside0 (laws_sameInts.l0 kq l0 l1 x5_1 = some r) ∧ Aside0 (kq ≤ k) ∧ Drawn0 w w')
  case atStart => exact ⟨(0), rS, H', ⟨Nat.le_refl _⟩, by repeat (first | exact Drawn0.refl _ | apply Drawn0.step)⟩
  case round =>
   clear H'; (try clear c1); (try clear p2); (try clear c3); (try clear c3b0); (try clear c3b1); (try clear c3b2); obtain ⟨x5_1, rfl, HA, HK1, ⟨m1, rfl⟩⟩ := hrel
   cases gk with
   | zero => exact absurd HA.out (by simp [laws_sameInts.l0])
   | succ k1 =>
    have H := HA.out; clear HA; simp only [laws_sameInts.l0] at H
    by_cases c4 : x5_1 < (l0.length : Int)
    ·
     rw [if_pos c4] at H; have c4b0 := decide_eq_true c4; clear c4
     by_cases c5 : 0 ≤ x5_1
     ·
      rw [if_pos c5] at H; have c5b0 := decide_eq_true c5; clear c5
      by_cases c6 : x5_1 < (l1.length : Int)
      ·
       rw [if_pos c6] at H; have c6b0 := decide_eq_true c6; clear c6
       by_cases c7 : (rd l0 x5_1) = (rd l1 x5_1)
       ·
        rw [if_pos c7] at H; have c7b0 := beq_iff_eq.mpr c7; have c7b1 := bne_eq_false_iff_eq.mpr c7; clear c7; have H' := Az H; clear H; have p324 : 0 ≤ (x5_1 : Int) := oA; have q324 : x5_1 < (l0.length : Int) := oA; obtain ⟨ad324, e324, hx324_0⟩ := Kd.at_int HR0.out x5_1 p324 q324
        cases e324
        replace p324 := eq_true p324; replace q324 := eq_true q324; have p325 : 0 ≤ (x5_1 : Int) := oA; have q325 : x5_1 < (l1.length : Int) := oA; obtain ⟨ad325, e325, hx325_0⟩ := Kd.at_int HR1.out x5_1 p325 q325
        cases e325
        replace p325 := eq_true p325; replace q325 := eq_true q325
        go_wp2
        repeat (go_quiet (fail); try go_wp2)
        (first | go_roundg k1 | (refine Handed.intro k1 ?measure ?_; rotate_left; go_step; (try simp only [add_plain]); (repeat apply Exists.intro); refine ⟨?rel, rfl⟩))
        case measure => have := HK1.out; omega
        case rel => exact ⟨(wrap64 (x5_1 + 1)), rS, H', ⟨by have := HK1.out; omega⟩, by repeat (first | exact Drawn0.refl _ | apply Drawn0.step)⟩
       ·
        rw [if_neg c7] at H; have c7b0 := beq_eq_false_iff_ne.mpr c7; have c7b1 := bne_iff_ne.mpr c7; obtain rfl := Option.some.inj H; have p324 : 0 ≤ (x5_1 : Int) := oA; have q324 : x5_1 < (l0.length : Int) := oA; obtain ⟨ad324, e324, hx324_0⟩ := Kd.at_int HR0.out x5_1 p324 q324
        cases e324
        replace p324 := eq_true p324; replace q324 := eq_true q324; have p325 : 0 ≤ (x5_1 : Int) := oA; have q325 : x5_1 < (l1.length : Int) := oA; obtain ⟨ad325, e325, hx325_0⟩ := Kd.at_int HR1.out x5_1 p325 q325
        cases e325
        replace p325 := eq_true p325; replace q325 := eq_true q325
        go_wp2
        repeat (go_quiet (fail); try go_wp2)
        go_ret
        exact ⟨by first | rfl | (simp; done) | (simp [*]; done), by repeat (first | exact Drawn0.refl _ | apply Drawn0.step)⟩
      ·
       rw [if_neg c6] at H
       exact absurd H (by simp)
     ·
      rw [if_neg c5] at H
      exact absurd H (by simp)
    ·
     rw [if_neg c4] at H; have c4b0 := decide_eq_false c4; clear c4; obtain rfl := Option.some.inj H
     go_wp2
     repeat (go_quiet (fail); try go_wp2)
     go_ret
     exact ⟨by first | rfl | (simp; done) | (simp [*]; done), by repeat (first | exact Drawn0.refl _ | apply Drawn0.step)⟩
 ·
  rw [if_neg c3] at H; have c3b0 := beq_eq_false_iff_ne.mpr c3; have c3b1 := bne_iff_ne.mpr c3
  have c3b2 : (l0.length == l1.length) = false := by first | simpa using c3 | (simp at c3 ⊢; omega)
  obtain rfl := Option.some.inj H
  go_enter Try.func41, Try.ntmps41
  go_wp2
  repeat (go_quiet (fail); try go_wp2)
  go_ret
  exact ⟨by first | rfl | (simp; done) | (simp [*]; done), by repeat (first | exact Drawn0.refl _ | apply Drawn0.step)⟩
def laws_sameMap.f (k : Nat) (l0_0 : List Int) (l0_1 : List Int) (l1_0 : List Int) (l1_1 : List Int) : Option (Bool) := (laws_sameInts.f k l0_0 l1_0).bind fun t328 => (if t328 = true then ((laws_sameInts.f k l0_1 l1_1).bind fun t329 => (some t329)) else (some false))
theorem laws_sameMap.mono : ∀ a0 a1 a2 a3 k, LeO (laws_sameMap.f k a0 a1 a2 a3) (laws_sameMap.f (k + 1) a0 a1 a2 a3) := by
 intro a0 a1 a2 a3 k
 unfold laws_sameMap.f
 repeat' first
   | (with_reducible exact laws_sameInts.mono _ _ _)
   | (with_reducible exact LeO.refl _)
   | (with_reducible exact LeO.none _)
   | (with_reducible refine LeO.ite ?_ ?_)
   | (with_reducible refine LeO.bind ?_ (fun _ => ?_))
   | exact laws_sameInts.mono _ _ _
   | exact LeO.none _
   | refine LeO.ite ?_ ?_
   | refine LeO.bind ?_ (fun _ => ?_)
set_option maxHeartbeats 8000000 in
set_option maxRecDepth 100000 in
theorem laws_sameMap.calls (k : Nat) (A0_0 : Option Addr) (c0_0 : Nat) (l0_0 : List Int) (A0_1 : Option Addr) (c0_1 : Nat) (l0_1 : List Int) (A1_0 : Option Addr) (c1_0 : Nat) (l1_0 : List Int) (A1_1 : Option Addr) (c1_1 : Nat) (l1_1 : List Int) (r : Bool) (w : World) (hr0_0 : Kd.C (Kd.int .i64) w A0_0 l0_0.length l0_0) (hc0_0 : l0_0.length ≤ c0_0) (hr0_1 : Kd.C (Kd.int .i64) w A0_1 l0_1.length l0_1) (hc0_1 : l0_1.length ≤ c0_1) (hr1_0 : Kd.C (Kd.int .i64) w A1_0 l1_0.length l1_0) (hc1_0 : l1_0.length ≤ c1_0) (hr1_1 : Kd.C (Kd.int .i64) w A1_1 l1_1.length l1_1) (hc1_1 : l1_1.length ≤ c1_1) (h : laws_sameMap.f k l0_0 l0_1 l1_0 l1_1 = some r) :
  Calls Try.prog 34 #[.agg #[.slice A0_0 l0_0.length c0_0, .slice A0_1 l0_1.length c0_1], .agg #[.slice A1_0 l1_0.length c1_0, .slice A1_1 l1_1.length c1_1]] w fun e w' => e = .returned (.bool r) ∧ Below w.heap.size w w' := by
 have hu29 := Try.underlying29; have HR0_0 := Az hr0_0; have HC0_0 := Az hc0_0; clear hr0_0 hc0_0; have HR0_1 := Az hr0_1; have HC0_1 := Az hc0_1; clear hr0_1 hc0_1; have HR1_0 := Az hr1_0; have HC1_0 := Az hc1_0; clear hr1_0 hc1_0; have HR1_1 := Az hr1_1; have HC1_1 := Az hc1_1; clear hr1_1 hc1_1; have HB := Az (Below.refl w.heap.size w); have H : ((laws_sameInts.f k l0_0 l1_0).bind fun t328 => (if t328 = true then ((laws_sameInts.f k l0_1 l1_1).bind fun t329 => (some t329)) else (some false))) = some r := h; clear h; replace H := Option.bind_eq_some_iff.mp H; obtain ⟨t328, A30, H⟩ := H; replace H : (if t328 = true then ((laws_sameInts.f k l0_1 l1_1).bind fun t329 => (some t329)) else (some false)) = some r := H; have A3 := Az A30; clear A30
 by_cases c4 : t328 = true
 ·
  subst c4
  have H1 : ((laws_sameInts.f k l0_1 l1_1).bind fun t329 => (some t329)) = some r := by rw [if_pos rfl] at H; exact H
  clear H; have H := H1; clear H1; replace H := Option.bind_eq_some_iff.mp H; obtain ⟨t329, A50, H⟩ := H; replace H : (some t329) = some r := H; have A5 := Az A50; clear A50; obtain rfl := Option.some.inj H
  go_enter Try.func34, Try.ntmps34
  go_wp2_with (first | ((with_reducible refine gate_dst (N := 2) rfl ?_); refine box_event ?hg (N := 2) ?hd (cs := #[.slice A0_0 l0_0.length c0_0, .slice A0_1 l0_1.length c0_1]) (t := 29) ?hr ?_; (case hd => rfl); (case hg => rfl); (case hr => first | (go_simp; done) | (go_simp; rfl)); intro gb326 hg w6 hbox hb; have n0 := Az (below_step (bU0 HB.out) hb); have n1 := Az (hbox); have n2 := Az ((by rw [hg]; exact (below_size (bU0 HB.out)) : w.heap.size ≤ gb326)); have n3 := n2; clear HB; have HB := n0; have BK326 := n1; have GW326 := n2; have GE326 := n3; clear n0 n1 n2 n3; clear hb hbox hg) | ((with_reducible refine gate_dst (N := 3) rfl ?_); refine box_event ?hg (N := 3) ?hd (cs := #[.slice A1_0 l1_0.length c1_0, .slice A1_1 l1_1.length c1_1]) (t := 29) ?hr ?_; (case hd => rfl); (case hg => rfl); (case hr => first | (go_simp; done) | (go_simp; rfl)); intro gb327 hg w7 hbox hb; have n0 := Az (blk_below (g := gb326) (o := .cells #[.slice A0_0 l0_0.length c0_0, .slice A0_1 l0_1.length c0_1] 29 (0, 0)) (kU BK326.out) hb); have n1 := Az (below_step (bU1 HB.out GE326.out) hb); have n2 := Az (hbox); have n3 := Az ((by rw [hg]; exact (below_size (bU1 HB.out GE326.out)) : w.heap.size ≤ gb327)); have n4 := n3; have n5 := Az ((by rw [hg]; exact Nat.ne_of_lt (blk_lt (g := gb326) (o := .cells #[.slice A0_0 l0_0.length c0_0, .slice A0_1 l0_1.length c0_1] 29 (0, 0)) (kU BK326.out)) : gb326 ≠ gb327)); have n6 := Az ((by rw [hg]; exact Nat.ne_of_gt (blk_lt (g := gb326) (o := .cells #[.slice A0_0 l0_0.length c0_0, .slice A0_1 l0_1.length c0_1] 29 (0, 0)) (kU BK326.out)) : gb327 ≠ gb326)); clear BK326 HB; have BK326 := n0; have HB := n1; have BK327 := n2; have GW327 := n3; have GE327 := n4; have NB326_327 := n5; have NB327_326 := n6; clear n0 n1 n2 n3 n4 n5 n6 hb hbox hg; have hnb8 := NB326_327.out; have hnc8 := NB327_326.out; have hcz9_0 : w7.cell? ⟨gb326, 0, none⟩ = some (.slice A0_0 l0_0.length c0_0) := (blk_cell BK326.out 0).trans rfl; have hcz9_1 : w7.cell? ⟨gb326, 1, none⟩ = some (.slice A0_1 l0_1.length c0_1) := (blk_cell BK326.out 1).trans rfl; have hfz9_0 := blk_frozen BK326.out 0; have hfz9_1 := blk_frozen BK326.out 1; have hcz10_0 : w7.cell? ⟨gb327, 0, none⟩ = some (.slice A1_0 l1_0.length c1_0) := (blk_cell BK327.out 0).trans rfl; have hcz10_1 : w7.cell? ⟨gb327, 1, none⟩ = some (.slice A1_1 l1_1.length c1_1) := (blk_cell BK327.out 1).trans rfl; have hfz10_0 := blk_frozen BK327.out 0; have hfz10_1 := blk_frozen BK327.out 1) | ((with_reducible refine gate_callee (f := 41) rfl ?_); refine goesL_ (some 9) rfl rfl Try.func41 (by kernel_rfl) rfl #[.slice A0_0 l0_0.length c0_0, .slice A1_0 l1_0.length c1_0] rfl (by (try simp only [List.map_toArray, List.map_cons, List.map_nil]); first | done | rfl | (simp only [List.length_drop, List.length_take]; rfl)) ?_; (with_reducible refine (laws_sameInts.calls k _ _ l0_0 _ _ l1_0 true _ ?side1 ?side2 ?side3 ?side4 A3.out).mono ?_); (case side1 => exact cU (Kd.C_below HR0_0.out HB.out)); (case side2 => exact HC0_0.out); (case side3 => exact cU (Kd.C_below HR1_0.out HB.out)); (case side4 => exact HC1_0.out); rintro e w' ⟨rfl, ⟨nd, rfl⟩⟩; refine ⟨_, rfl, ?_⟩) | (go_at_call 41; (with_reducible refine (laws_sameInts.calls k _ _ l0_1 _ _ l1_1 t329 _ ?side1 ?side2 ?side3 ?side4 A5.out).mono ?_); (case side1 => exact cU (Kd.C_below HR0_1.out (bU2 HB.out GE326.out GE327.out))); (case side2 => exact HC0_1.out); (case side3 => exact cU (Kd.C_below HR1_1.out (bU2 HB.out GE326.out GE327.out))); (case side4 => exact HC1_1.out); rintro e w' ⟨rfl, ⟨nd, rfl⟩⟩))
  go_ret
  exact ⟨rE, bU2 HB.out GE326.out GE327.out⟩
 ·
  replace c4 := Bool.eq_false_iff.mpr c4; subst c4
  have H1 : (some false) = some r := by rw [if_neg (show ¬ (false = true) by decide)] at H; exact H
  clear H; have H := H1; clear H1; obtain rfl := Option.some.inj H
  go_enter Try.func34, Try.ntmps34
  go_wp2_with (first | ((with_reducible refine gate_dst (N := 2) rfl ?_); refine box_event ?hg (N := 2) ?hd (cs := #[.slice A0_0 l0_0.length c0_0, .slice A0_1 l0_1.length c0_1]) (t := 29) ?hr ?_; (case hd => rfl); (case hg => rfl); (case hr => first | (go_simp; done) | (go_simp; rfl)); intro gb326 hg w11 hbox hb; have n0 := Az (below_step (bU0 HB.out) hb); have n1 := Az (hbox); have n2 := Az ((by rw [hg]; exact (below_size (bU0 HB.out)) : w.heap.size ≤ gb326)); have n3 := n2; clear HB; have HB := n0; have BK326 := n1; have GW326 := n2; have GE326 := n3; clear n0 n1 n2 n3; clear hb hbox hg) | ((with_reducible refine gate_dst (N := 3) rfl ?_); refine box_event ?hg (N := 3) ?hd (cs := #[.slice A1_0 l1_0.length c1_0, .slice A1_1 l1_1.length c1_1]) (t := 29) ?hr ?_; (case hd => rfl); (case hg => rfl); (case hr => first | (go_simp; done) | (go_simp; rfl)); intro gb327 hg w12 hbox hb; have n0 := Az (blk_below (g := gb326) (o := .cells #[.slice A0_0 l0_0.length c0_0, .slice A0_1 l0_1.length c0_1] 29 (0, 0)) (kU BK326.out) hb); have n1 := Az (below_step (bU1 HB.out GE326.out) hb); have n2 := Az (hbox); have n3 := Az ((by rw [hg]; exact (below_size (bU1 HB.out GE326.out)) : w.heap.size ≤ gb327)); have n4 := n3; have n5 := Az ((by rw [hg]; exact Nat.ne_of_lt (blk_lt (g := gb326) (o := .cells #[.slice A0_0 l0_0.length c0_0, .slice A0_1 l0_1.length c0_1] 29 (0, 0)) (kU BK326.out)) : gb326 ≠ gb327)); have n6 := Az ((by rw [hg]; exact Nat.ne_of_gt (blk_lt (g := gb326) (o := .cells #[.slice A0_0 l0_0.length c0_0, .slice A0_1 l0_1.length c0_1] 29 (0, 0)) (kU BK326.out)) : gb327 ≠ gb326)); clear BK326 HB; have BK326 := n0; have HB := n1; have BK327 := n2; have GW327 := n3; have GE327 := n4; have NB326_327 := n5; have NB327_326 := n6; clear n0 n1 n2 n3 n4 n5 n6 hb hbox hg; have hnb13 := NB326_327.out; have hnc13 := NB327_326.out; have hcz14_0 : w12.cell? ⟨gb326, 0, none⟩ = some (.slice A0_0 l0_0.length c0_0) := (blk_cell BK326.out 0).trans rfl; have hcz14_1 : w12.cell? ⟨gb326, 1, none⟩ = some (.slice A0_1 l0_1.length c0_1) := (blk_cell BK326.out 1).trans rfl; have hfz14_0 := blk_frozen BK326.out 0; have hfz14_1 := blk_frozen BK326.out 1; have hcz15_0 : w12.cell? ⟨gb327, 0, none⟩ = some (.slice A1_0 l1_0.length c1_0) := (blk_cell BK327.out 0).trans rfl; have hcz15_1 : w12.cell? ⟨gb327, 1, none⟩ = some (.slice A1_1 l1_1.length c1_1) := (blk_cell BK327.out 1).trans rfl; have hfz15_0 := blk_frozen BK327.out 0; have hfz15_1 := blk_frozen BK327.out 1) | ((with_reducible refine gate_callee (f := 41) rfl ?_); refine goesL_ (some 9) rfl rfl Try.func41 (by kernel_rfl) rfl #[.slice A0_0 l0_0.length c0_0, .slice A1_0 l1_0.length c1_0] rfl (by (try simp only [List.map_toArray, List.map_cons, List.map_nil]); first | done | rfl | (simp only [List.length_drop, List.length_take]; rfl)) ?_; (with_reducible refine (laws_sameInts.calls k _ _ l0_0 _ _ l1_0 false _ ?side1 ?side2 ?side3 ?side4 A3.out).mono ?_); (case side1 => exact cU (Kd.C_below HR0_0.out HB.out)); (case side2 => exact HC0_0.out); (case side3 => exact cU (Kd.C_below HR1_0.out HB.out)); (case side4 => exact HC1_0.out); rintro e w' ⟨rfl, ⟨nd, rfl⟩⟩; refine ⟨_, rfl, ?_⟩))
  go_ret
  exact ⟨rE, bU2 HB.out GE326.out GE327.out⟩
def IsS104 (w0 W : World) (g : Nat) (f0 : List Int) (f1 : Int) : Prop := ∃ A0 c0, W.heap[g]? = some (.cells #[.slice A0 f0.length c0, .int .i64 f1] 104 (0, 0)) ∧ w0.heap.size ≤ g ∧ Kd.C (Kd.int .u8) w0 A0 f0.length f0
theorem IsS104.grown {w0 W : World} {g : Nat} {f0 : List Int} {f1 : Int} {W1 : World} {row : Option Nat} (h : IsS104 w0 W g f0 f1) (hw : W.grownBy W1 row) (hne : some g ≠ row) : IsS104 w0 W1 g f0 f1 := by
 obtain ⟨A0, c0, hb, hg, hr0⟩ := h
 exact ⟨A0, c0, blk_grown hb hw hne, hg, hr0⟩
theorem IsS104.kept {w0 W : World} {g : Nat} {f0 : List Int} {f1 : Int} {W1 : World} {S : Nat → Prop} (h : IsS104 w0 W g f0 f1) (hk : Kept W W1 S) (hne : ¬ S g) : IsS104 w0 W1 g f0 f1 := by
 obtain ⟨A0, c0, hb, hg, hr0⟩ := h
 exact ⟨A0, c0, blk_kept hb hk hne, hg, hr0⟩
theorem IsS104.below {w0 W : World} {g : Nat} {f0 : List Int} {f1 : Int} {W1 : World} (h : IsS104 w0 W g f0 f1) (hw : Below W.heap.size W W1) : IsS104 w0 W1 g f0 f1 := h.grown (grown_of_below hw none) (by simp)
theorem IsS104.alloc {w0 W : World} {g : Nat} {f0 : List Int} {f1 : Int} (h : IsS104 w0 W g f0 f1) (o : Obj) : IsS104 w0 (W.alloc o) g f0 f1 := h.below (below_alloc (Below.refl _ _) o)
theorem IsS104.drewN {w0 W : World} {g : Nat} {f0 : List Int} {f1 : Int} (h : IsS104 w0 W g f0 f1) (m : Nat) : IsS104 w0 (W.drewN m) g f0 f1 := h
theorem IsS104.drew {w0 W : World} {g : Nat} {f0 : List Int} {f1 : Int} (h : IsS104 w0 W g f0 f1) : IsS104 w0 W.drew g f0 f1 := h
theorem IsS104.at_ {w0 W : World} {g : Nat} {f0 : List Int} {f1 : Int} {w' : World} {m : Nat} (hq : W.drewN m = w') (h : IsS104 w0 W g f0 f1) : IsS104 w0 w' g f0 f1 := by subst hq; exact IsS104.drewN h m
theorem IsS104.apart {w0 W : World} {g : Nat} {f0 : List Int} {f1 : Int} {α : Type} {d : Kd α} {e : Nat} {base : Nat} {ok : Nat → Prop} {v : Value} {xs : List α} (h : IsS104 w0 W g f0 f1) (ho : d.R e W base ok v xs) (ht : ∀ q, q ∈ e :: d.E → q ≠ 104) : d.R e W base (fun k => ok k ∧ k ≠ g) v xs := by
 obtain ⟨A0, c0, hb, hg, hr0⟩ := h
 exact Kd.R_types ho hb ht
theorem IsS104.own_ne {w0 W : World} {g : Nat} {f0 : List Int} {f1 : Int} {α : Type} {d : Kd α} {e : Nat} {base : Nat} {ok : Nat → Prop} {v : Value} {xs : List α} (h : IsS104 w0 W g f0 f1) (ho : d.R e W base ok v xs) (ht : e ≠ 104) : some g ≠ v.ownBlock := by
 obtain ⟨A0, c0, hb, hg, hr0⟩ := h
 exact Kd.R_ne ho hb ht
theorem IsS104.apartQ {w0 W : World} {g : Nat} {f0 : List Int} {f1 : Int} {α : Type} {d : Kd α} {e : Nat} {base : Nat} {ok : Nat → Prop} {v : Value} {xs : List α} (h : IsS104 w0 W g f0 f1) (ho : d.Q e W base ok v xs) (ht : ∀ q, q ∈ e :: d.E → q ≠ 104) : d.Q e W base (fun k => ok k ∧ k ≠ g) v xs := by
 obtain ⟨A0, c0, hb, hg, hr0⟩ := h
 exact Kd.Q_types ho hb ht
theorem IsS104.own_neQ {w0 W : World} {g : Nat} {f0 : List Int} {f1 : Int} {α : Type} {d : Kd α} {e : Nat} {base : Nat} {ok : Nat → Prop} {v : Value} {xs : List α} (h : IsS104 w0 W g f0 f1) (ho : d.Q e W base ok v xs) (ht : e ≠ 104) : some g ≠ v.ownBlock := by
 obtain ⟨A0, c0, hb, hg, hr0⟩ := h
 exact Kd.Q_ne ho hb ht
theorem IsS104.lt {w0 W : World} {g : Nat} {f0 : List Int} {f1 : Int} (h : IsS104 w0 W g f0 f1) : g < W.heap.size := by
 obtain ⟨A0, c0, hb, hg, hr0⟩ := h
 exact blk_lt hb
theorem IsS104.ge {w0 W : World} {g : Nat} {f0 : List Int} {f1 : Int} (h : IsS104 w0 W g f0 f1) : w0.heap.size ≤ g := by
 obtain ⟨A0, c0, hb, hg, hr0⟩ := h
 exact hg
theorem IsS104.ne_blk {w0 W : World} {g : Nat} {f0 : List Int} {f1 : Int} {a : Nat} {cs : Array Value} {t : TypeId} {fr : Nat × Nat} (h : IsS104 w0 W g f0 f1) (hb2 : W.heap[a]? = some (.cells cs t fr)) (ht : t ≠ 104) : g ≠ a := by
 obtain ⟨A0, c0, hb, hg, hr0⟩ := h
 rintro rfl
 rw [hb] at hb2; injection hb2 with hb2; injection hb2 with _ ht2
 exact ht ht2.symm
theorem IsS104.far {w0 W : World} {g : Nat} {f0 : List Int} {f1 : Int} {p : Addr} (h : IsS104 w0 W g f0 f1) (hne : g ≠ p.block) (u : Value) : IsS104 w0 (W.setCell p u) g f0 f1 := by
 obtain ⟨A0, c0, hb, hg, hr0⟩ := h
 exact ⟨A0, c0, blk_far hb hne u, hg, hr0⟩
theorem cellS104_0 {W : World} {g : Nat} {A0 : Option Addr} {c0 : Nat} {f0 : List Int} {f1 : Int} (h : W.heap[g]? = some (.cells #[.slice A0 f0.length c0, .int .i64 f1] 104 (0, 0))) : W.cell? ⟨g, 0, none⟩ = some (.slice A0 f0.length c0) := (blk_cell h 0).trans rfl
theorem cellS104_1 {W : World} {g : Nat} {A0 : Option Addr} {c0 : Nat} {f0 : List Int} {f1 : Int} (h : W.heap[g]? = some (.cells #[.slice A0 f0.length c0, .int .i64 f1] 104 (0, 0))) : W.cell? ⟨g, 1, none⟩ = some (.int .i64 f1) := (blk_cell h 1).trans rfl
theorem IsS104.set_1 {w0 W : World} {g : Nat} {f0 : List Int} {f1 : Int} (h : IsS104 w0 W g f0 f1) (x : Int) : IsS104 w0 (W.setCell ⟨g, 1, none⟩ (.int .i64 x)) g f0 x := by
 obtain ⟨A0, c0, hb, hg, hr0⟩ := h
 exact ⟨A0, c0, by simpa using blk_set hb 1 (.int .i64 x), hg, hr0⟩
def spec_l6Rd_pick.j0 : Nat → Int → Bool → List Int → Int → Option (Int × Int)
 | 0, _, _, _, _ => none
 | k + 1, x1, x24, x1000, x1001 => if x24 = true then (some (0, x1001)) else (if (wrap64 (x1001 - 1)) < (x1000.length : Int) then (if 0 ≤ (wrap64 (x1001 - 1)) then (if x1 = 0 then (none) else (some (Int.tmod (wrap64 (rd x1000 (wrap64 (x1001 - 1)))) x1, x1001))) else (none)) else (if (x1000.length : Int) = 0 then (none) else (if 0 ≤ (Int.tmod (wrap64 (x1001 - 1)) (x1000.length : Int)) then (if (Int.tmod (wrap64 (x1001 - 1)) (x1000.length : Int)) < (x1000.length : Int) then (if 0 ≤ (Int.tmod (wrap64 ((wrap64 ((wrap64 (x1001 - 1)) * 7)) + 3)) (x1000.length : Int)) then (if (Int.tmod (wrap64 ((wrap64 ((wrap64 (x1001 - 1)) * 7)) + 3)) (x1000.length : Int)) < (x1000.length : Int) then (if x1 = 0 then (none) else (some (Int.tmod (Go.bits .xor .i64 (wrap64 ((wrap64 ((wrap64 ((wrap64 ((wrap64 (rd x1000 (Int.tmod (wrap64 (x1001 - 1)) (x1000.length : Int)))) * 131)) + (wrap64 ((wrap64 (rd x1000 (Int.tmod (wrap64 ((wrap64 ((wrap64 (x1001 - 1)) * 7)) + 3)) (x1000.length : Int)))) * 1117)))) + (wrap64 ((wrap64 (x1001 - 1)) * 29)))) + (wrap64 ((wrap64 (Int.tdiv (wrap64 (x1001 - 1)) (x1000.length : Int))) * 53)))) (wrap64 (Int.tdiv (wrap64 ((wrap64 ((wrap64 ((wrap64 ((wrap64 (rd x1000 (Int.tmod (wrap64 (x1001 - 1)) (x1000.length : Int)))) * 131)) + (wrap64 ((wrap64 (rd x1000 (Int.tmod (wrap64 ((wrap64 ((wrap64 (x1001 - 1)) * 7)) + 3)) (x1000.length : Int)))) * 1117)))) + (wrap64 ((wrap64 (x1001 - 1)) * 29)))) + (wrap64 ((wrap64 (Int.tdiv (wrap64 (x1001 - 1)) (x1000.length : Int))) * 53)))) 64))) x1, x1001))) else (none)) else (none)) else (none)) else (none))))
def spec_l6Rd_pick.f (k : Nat) (s0_0 : List Int) (s0_1 : Int) (a1 : Int) : Option (Int × Int) := if a1 < 1 then (spec_l6Rd_pick.j0 k a1 true s0_0 (wrap64 (s0_1 + 1))) else (spec_l6Rd_pick.j0 k a1 ((s0_0.length : Int) == 0) s0_0 (wrap64 (s0_1 + 1)))
theorem spec_l6Rd_pick.mono_l : ∀ k, (∀ y0 y1 y2 y3, LeO (spec_l6Rd_pick.j0 k y0 y1 y2 y3) (spec_l6Rd_pick.j0 (k + 1) y0 y1 y2 y3))
 | 0 => fun _ _ _ _ r h => by simp [spec_l6Rd_pick.j0] at h
 | k + 1 => by
  have ih0 := spec_l6Rd_pick.mono_l k
  ·
   intro y0 y1 y2 y3
   unfold spec_l6Rd_pick.j0
   repeat' first
   | (with_reducible exact ih0 _ _ _ _)
   | (with_reducible exact LeO.refl _)
   | (with_reducible exact LeO.none _)
   | (with_reducible refine LeO.ite ?_ ?_)
   | (with_reducible refine LeO.bind ?_ (fun _ => ?_))
   | exact ih0 _ _ _ _
   | exact LeO.none _
   | refine LeO.ite ?_ ?_
   | refine LeO.bind ?_ (fun _ => ?_)
theorem spec_l6Rd_pick.mono : ∀ a0 a1 a2 k, LeO (spec_l6Rd_pick.f k a0 a1 a2) (spec_l6Rd_pick.f (k + 1) a0 a1 a2) := by
 intro a0 a1 a2 k
 have ih0 := spec_l6Rd_pick.mono_l k
 unfold spec_l6Rd_pick.f
 repeat' first
   | (with_reducible exact ih0 _ _ _ _)
   | (with_reducible exact LeO.refl _)
   | (with_reducible exact LeO.none _)
   | (with_reducible refine LeO.ite ?_ ?_)
   | (with_reducible refine LeO.bind ?_ (fun _ => ?_))
   | exact ih0 _ _ _ _
   | exact LeO.none _
   | refine LeO.ite ?_ ?_
   | refine LeO.bind ?_ (fun _ => ?_)
set_option maxHeartbeats 8000000 in
set_option maxRecDepth 100000 in
theorem spec_l6Rd_pick.calls (k : Nat) (g : Nat) (s0_0 : List Int) (s0_1 : Int) (a1 : Int) (r1 : Int) (r2 : Int) (w0 w : World) (hI : IsS104 w0 w g s0_0 s0_1) (hB : Below w0.heap.size w0 w) (h : spec_l6Rd_pick.f k s0_0 s0_1 a1 = some (r1, r2)) :
  Calls Try.prog 79 #[.pointer (some ⟨g, 0, none⟩), .int .i64 a1] w fun e w' => e = .returned (.int .i64 r1) ∧ IsS104 w0 w' g s0_0 r2 ∧ Below w0.heap.size w0 w' ∧ KeepBut w w' g none := by
 have HI0 := Az hI; have HK := Az (KeepBut.refl w g none); have HL := Az hB.size; clear hI; have HW0 := Az hB.size; have HB := Az hB; clear hB; have H : (if a1 < 1 then (spec_l6Rd_pick.j0 k a1 true s0_0 (wrap64 (s0_1 + 1))) else (spec_l6Rd_pick.j0 k a1 ((s0_0.length : Int) == 0) s0_0 (wrap64 (s0_1 + 1)))) = some (r1, r2) := h; clear h; have HC3 := Az H; clear H; obtain ⟨ASz4_0, cSz4_0, HGz4, hgz4, HSz4_0⟩ := HI0.out; have hcz4_0 := cellS104_0 HGz4; have hcz4_1 := cellS104_1 HGz4; have hfz4_1 := blk_frozen HGz4 1; clear HGz4 hgz4
 go_enter Try.func79, Try.ntmps79
 go_upto_region 2 with (fail)
 repeat (go_quiet (fail); go_upto_region 2 with (fail))
 go_cut [24] (fun v24 wc => ∃ (kq : Nat) (x24_2 : Bool), v24 = .bool x24_2 ∧ Aside0 (spec_l6Rd_pick.j0 kq a1 x24_2 s0_0 (wrap64 (s0_1 + 1)) = some (r1, r2)) ∧ Aside0 (kq ≤ k) ∧ Aside0 (IsS104 w0 wc g s0_0 (wrap64 (s0_1 + 1))) ∧ Aside0 (KeepBut w wc g none) ∧ Aside0 (Below w0.heap.size w0 wc))
 case first =>
  have H := HC3.out; clear HC3
  by_cases c5 : a1 < 1
  ·
   rw [if_pos c5] at H; have c5b0 := decide_eq_true c5; clear c5; (first | rw [c5b0] | (simp only [i64_w, i32_w]; rw [c5b0]) | skip); have H' := Az H; clear H
   go_wp2
   repeat (go_quiet (fail); try go_wp2)
   go_meet
   case rel => exact ⟨_, (true), rS, H', ⟨by first | omega | exact Nat.le_refl _⟩, ⟨by repeat (first | (with_reducible first | exact HI0.out | apply IsS104.alloc | apply IsS104.drewN | apply IsS104.drew | apply IsS104.set_1) | exact HI0.out)⟩, ⟨by repeat (first | (with_reducible first | exact HK.out | apply KeepBut.set_ | apply keep_drewN | apply keep_drew | apply keep_alloc) | exact HK.out)⟩, ⟨by repeat (first | (with_reducible first | exact HB.out | apply below_alloc | apply pw_below_drewN | apply below_drew1 | refine below_set ?_ (IsS104.ge HI0.out)) | exact HB.out)⟩⟩
  ·
   rw [if_neg c5] at H; have c5b0 := decide_eq_false c5; clear c5; (first | rw [c5b0] | (simp only [i64_w, i32_w]; rw [c5b0]) | skip); have H' := Az H; clear H; obtain ⟨ASz6_0, cSz6_0, HGz6, hgz6, HSz6_0⟩ := HI0.out; have hcz6_0 := cellS104_0 HGz6; have hcz6_1 := cellS104_1 HGz6; have hfz6_1 := blk_frozen HGz6 1; clear HGz6 hgz6
   go_wp2
   repeat (go_quiet (fail); try go_wp2)
   go_meet
   case rel => exact ⟨_, (((s0_0.length : Int) == 0)), rS, H', ⟨by first | omega | exact Nat.le_refl _⟩, ⟨by repeat (first | (with_reducible first | exact HI0.out | apply IsS104.alloc | apply IsS104.drewN | apply IsS104.drew | apply IsS104.set_1) | exact HI0.out)⟩, ⟨by repeat (first | (with_reducible first | exact HK.out | apply KeepBut.set_ | apply keep_drewN | apply keep_drew | apply keep_alloc) | exact HK.out)⟩, ⟨by repeat (first | (with_reducible first | exact HB.out | apply below_alloc | apply pw_below_drewN | apply below_drew1 | refine below_set ?_ (IsS104.ge HI0.out)) | exact HB.out)⟩⟩
 case rest =>
  clear HC3; (try clear p2); (try clear c5); (try clear c5b0); (try clear p6); (try clear hcz4_0); (try clear hcz4_1); (try clear hcz6_0); (try clear hcz6_1); (try clear hfz4_1); (try clear hfz6_1); obtain ⟨kq, x24_2, rfl, HA, HJ2, HI0, HK, HB⟩ := hcut
  cases kq with
  | zero => exact absurd HA.out (by simp [spec_l6Rd_pick.j0])
  | succ kj2 =>
   have H := HA.out; clear HA; simp only [spec_l6Rd_pick.j0] at H
   by_cases c7 : x24_2 = true
   ·
    subst c7
    have H1 : (some (0, (wrap64 (s0_1 + 1)))) = some (r1, r2) := by rw [if_pos rfl] at H; exact H
    clear H; have H := H1; clear H1; simp only [Option.some.injEq, Prod.mk.injEq] at H; obtain ⟨rfl, rfl⟩ := H
    go_wp2
    repeat (go_quiet (fail); try go_wp2)
    go_ret
    exact ⟨rE, by repeat (first | (with_reducible first | exact HI0.out | apply IsS104.alloc | apply IsS104.drewN | apply IsS104.drew | apply IsS104.set_1) | exact HI0.out), by repeat (first | (with_reducible first | exact HB.out | apply below_alloc | apply pw_below_drewN | apply below_drew1 | refine below_set ?_ (IsS104.ge HI0.out)) | exact HB.out), by repeat (first | (with_reducible first | exact HK.out | apply KeepBut.set_ | apply keep_drewN | apply keep_drew | apply keep_alloc) | exact HK.out)⟩
   ·
    replace c7 := Bool.eq_false_iff.mpr c7; subst c7
    have H1 : (if (wrap64 ((wrap64 (s0_1 + 1)) - 1)) < (s0_0.length : Int) then (if 0 ≤ (wrap64 ((wrap64 (s0_1 + 1)) - 1)) then (if a1 = 0 then (none) else (some (Int.tmod (wrap64 (rd s0_0 (wrap64 ((wrap64 (s0_1 + 1)) - 1)))) a1, (wrap64 (s0_1 + 1))))) else (none)) else (if (s0_0.length : Int) = 0 then (none) else (if 0 ≤ (Int.tmod (wrap64 ((wrap64 (s0_1 + 1)) - 1)) (s0_0.length : Int)) then (if (Int.tmod (wrap64 ((wrap64 (s0_1 + 1)) - 1)) (s0_0.length : Int)) < (s0_0.length : Int) then (if 0 ≤ (Int.tmod (wrap64 ((wrap64 ((wrap64 ((wrap64 (s0_1 + 1)) - 1)) * 7)) + 3)) (s0_0.length : Int)) then (if (Int.tmod (wrap64 ((wrap64 ((wrap64 ((wrap64 (s0_1 + 1)) - 1)) * 7)) + 3)) (s0_0.length : Int)) < (s0_0.length : Int) then (if a1 = 0 then (none) else (some (Int.tmod (Go.bits .xor .i64 (wrap64 ((wrap64 ((wrap64 ((wrap64 ((wrap64 (rd s0_0 (Int.tmod (wrap64 ((wrap64 (s0_1 + 1)) - 1)) (s0_0.length : Int)))) * 131)) + (wrap64 ((wrap64 (rd s0_0 (Int.tmod (wrap64 ((wrap64 ((wrap64 ((wrap64 (s0_1 + 1)) - 1)) * 7)) + 3)) (s0_0.length : Int)))) * 1117)))) + (wrap64 ((wrap64 ((wrap64 (s0_1 + 1)) - 1)) * 29)))) + (wrap64 ((wrap64 (Int.tdiv (wrap64 ((wrap64 (s0_1 + 1)) - 1)) (s0_0.length : Int))) * 53)))) (wrap64 (Int.tdiv (wrap64 ((wrap64 ((wrap64 ((wrap64 ((wrap64 (rd s0_0 (Int.tmod (wrap64 ((wrap64 (s0_1 + 1)) - 1)) (s0_0.length : Int)))) * 131)) + (wrap64 ((wrap64 (rd s0_0 (Int.tmod (wrap64 ((wrap64 ((wrap64 ((wrap64 (s0_1 + 1)) - 1)) * 7)) + 3)) (s0_0.length : Int)))) * 1117)))) + (wrap64 ((wrap64 ((wrap64 (s0_1 + 1)) - 1)) * 29)))) + (wrap64 ((wrap64 (Int.tdiv (wrap64 ((wrap64 (s0_1 + 1)) - 1)) (s0_0.length : Int))) * 53)))) 64))) a1, (wrap64 (s0_1 + 1))))) else (none)) else (none)) else (none)) else (none)))) = some (r1, r2) := by rw [if_neg (show ¬ (false = true) by decide)] at H; exact H
    clear H; have H := H1; clear H1
    by_cases c8 : (wrap64 ((wrap64 (s0_1 + 1)) - 1)) < (s0_0.length : Int)
    ·
     rw [if_pos c8] at H; have c8b0 := decide_eq_true c8; clear c8; obtain ⟨ji9, hji9⟩ : ∃ j_ : Int, (wrap64 ((wrap64 (s0_1 + 1)) - 1)) = j_ := ⟨_, rfl⟩
     replace H : (if 0 ≤ (ji9) then (if a1 = 0 then (none) else (some (Int.tmod (wrap64 (rd s0_0 (ji9))) a1, (wrap64 (s0_1 + 1))))) else (none)) = some (r1, r2) := by first | (rw [hji9] at H; exact H) | (simp only [hji9] at H ⊢; exact H)
     (try rw [hji9] at c8b0); have hji9w : (IntKind.i64.wrap ((wrap64 (s0_1 + 1)) - 1)) = ji9 := (i64_w _).trans hji9
     by_cases c10 : 0 ≤ (ji9)
     ·
      rw [if_pos c10] at H; have c10b0 := decide_eq_true c10; clear c10
      by_cases c11 : a1 = 0
      ·
       rw [if_pos c11] at H
       exact absurd H (by simp)
      ·
       rw [if_neg c11] at H; have c11b0 := beq_eq_false_iff_ne.mpr c11; have c11b1 := bne_iff_ne.mpr c11; simp only [Option.some.injEq, Prod.mk.injEq] at H; obtain ⟨rfl, rfl⟩ := H; obtain ⟨ASz12_0, cSz12_0, HGz12, hgz12, HSz12_0⟩ := HI0.out; have hcz12_0 := cellS104_0 HGz12; have hcz12_1 := cellS104_1 HGz12; have hfz12_1 := blk_frozen HGz12 1; clear HGz12 hgz12; have p330 : 0 ≤ ((ji9) : Int) := oA; have q330 : (ji9) < (s0_0.length : Int) := oA; obtain ⟨ad330, e330, hx330_0⟩ := Kd.at_int HSz12_0 (ji9) p330 q330
       cases e330
       replace hx330_0 := pw_cell_below HB.out hx330_0; replace p330 := eq_true p330; replace q330 := eq_true q330
       go_wp2
       repeat (go_quiet (fail); try go_wp2)
       go_ret
       exact ⟨by first | rfl | (simp [errW_none, errW_some] <;> rfl) | (simp only [← hji9]; first | rfl | (simp [errW_none, errW_some] <;> rfl)) | (simp [*, errW_none, errW_some] <;> rfl), by repeat (first | (with_reducible first | exact HI0.out | apply IsS104.alloc | apply IsS104.drewN | apply IsS104.drew | apply IsS104.set_1) | exact HI0.out), by repeat (first | (with_reducible first | exact HB.out | apply below_alloc | apply pw_below_drewN | apply below_drew1 | refine below_set ?_ (IsS104.ge HI0.out)) | exact HB.out), by repeat (first | (with_reducible first | exact HK.out | apply KeepBut.set_ | apply keep_drewN | apply keep_drew | apply keep_alloc) | exact HK.out)⟩
     ·
      rw [if_neg c10] at H
      exact absurd H (by simp)
    ·
     rw [if_neg c8] at H; have c8b0 := decide_eq_false c8; clear c8
     by_cases c13 : (s0_0.length : Int) = 0
     ·
      rw [if_pos c13] at H
      exact absurd H (by simp)
     ·
      rw [if_neg c13] at H; have c13b0 := beq_eq_false_iff_ne.mpr c13; have c13b1 := bne_iff_ne.mpr c13
      have c13b2 : ¬ (s0_0 = []) := fun h_ => c13 (by rw [h_]; rfl)
      obtain ⟨ji14, hji14⟩ : ∃ j_ : Int, (Int.tmod (wrap64 ((wrap64 (s0_1 + 1)) - 1)) (s0_0.length : Int)) = j_ := ⟨_, rfl⟩
      replace H : (if 0 ≤ (ji14) then (if (ji14) < (s0_0.length : Int) then (if 0 ≤ (Int.tmod (wrap64 ((wrap64 ((wrap64 ((wrap64 (s0_1 + 1)) - 1)) * 7)) + 3)) (s0_0.length : Int)) then (if (Int.tmod (wrap64 ((wrap64 ((wrap64 ((wrap64 (s0_1 + 1)) - 1)) * 7)) + 3)) (s0_0.length : Int)) < (s0_0.length : Int) then (if a1 = 0 then (none) else (some (Int.tmod (Go.bits .xor .i64 (wrap64 ((wrap64 ((wrap64 ((wrap64 ((wrap64 (rd s0_0 (ji14))) * 131)) + (wrap64 ((wrap64 (rd s0_0 (Int.tmod (wrap64 ((wrap64 ((wrap64 ((wrap64 (s0_1 + 1)) - 1)) * 7)) + 3)) (s0_0.length : Int)))) * 1117)))) + (wrap64 ((wrap64 ((wrap64 (s0_1 + 1)) - 1)) * 29)))) + (wrap64 ((wrap64 (Int.tdiv (wrap64 ((wrap64 (s0_1 + 1)) - 1)) (s0_0.length : Int))) * 53)))) (wrap64 (Int.tdiv (wrap64 ((wrap64 ((wrap64 ((wrap64 ((wrap64 (rd s0_0 (ji14))) * 131)) + (wrap64 ((wrap64 (rd s0_0 (Int.tmod (wrap64 ((wrap64 ((wrap64 ((wrap64 (s0_1 + 1)) - 1)) * 7)) + 3)) (s0_0.length : Int)))) * 1117)))) + (wrap64 ((wrap64 ((wrap64 (s0_1 + 1)) - 1)) * 29)))) + (wrap64 ((wrap64 (Int.tdiv (wrap64 ((wrap64 (s0_1 + 1)) - 1)) (s0_0.length : Int))) * 53)))) 64))) a1, (wrap64 (s0_1 + 1))))) else (none)) else (none)) else (none)) else (none)) = some (r1, r2) := by first | (rw [hji14] at H; exact H) | (simp only [hji14] at H ⊢; exact H)
      by_cases c15 : 0 ≤ (ji14)
      ·
       rw [if_pos c15] at H; have c15b0 := decide_eq_true c15; clear c15
       by_cases c16 : (ji14) < (s0_0.length : Int)
       ·
        rw [if_pos c16] at H; have c16b0 := decide_eq_true c16; clear c16; obtain ⟨ji17, hji17⟩ : ∃ j_ : Int, (Int.tmod (wrap64 ((wrap64 ((wrap64 ((wrap64 (s0_1 + 1)) - 1)) * 7)) + 3)) (s0_0.length : Int)) = j_ := ⟨_, rfl⟩
        replace H : (if 0 ≤ (ji17) then (if (ji17) < (s0_0.length : Int) then (if a1 = 0 then (none) else (some (Int.tmod (Go.bits .xor .i64 (wrap64 ((wrap64 ((wrap64 ((wrap64 ((wrap64 (rd s0_0 (ji14))) * 131)) + (wrap64 ((wrap64 (rd s0_0 (ji17))) * 1117)))) + (wrap64 ((wrap64 ((wrap64 (s0_1 + 1)) - 1)) * 29)))) + (wrap64 ((wrap64 (Int.tdiv (wrap64 ((wrap64 (s0_1 + 1)) - 1)) (s0_0.length : Int))) * 53)))) (wrap64 (Int.tdiv (wrap64 ((wrap64 ((wrap64 ((wrap64 ((wrap64 (rd s0_0 (ji14))) * 131)) + (wrap64 ((wrap64 (rd s0_0 (ji17))) * 1117)))) + (wrap64 ((wrap64 ((wrap64 (s0_1 + 1)) - 1)) * 29)))) + (wrap64 ((wrap64 (Int.tdiv (wrap64 ((wrap64 (s0_1 + 1)) - 1)) (s0_0.length : Int))) * 53)))) 64))) a1, (wrap64 (s0_1 + 1))))) else (none)) else (none)) = some (r1, r2) := by first | (rw [hji17] at H; exact H) | (simp only [hji17] at H ⊢; exact H)
        by_cases c18 : 0 ≤ (ji17)
        ·
         rw [if_pos c18] at H; have c18b0 := decide_eq_true c18; clear c18
         by_cases c19 : (ji17) < (s0_0.length : Int)
         ·
          rw [if_pos c19] at H; have c19b0 := decide_eq_true c19; clear c19
          by_cases c20 : a1 = 0
          ·
           rw [if_pos c20] at H
           exact absurd H (by simp)
          ·
           rw [if_neg c20] at H; have c20b0 := beq_eq_false_iff_ne.mpr c20; have c20b1 := bne_iff_ne.mpr c20; simp only [Option.some.injEq, Prod.mk.injEq] at H; obtain ⟨rfl, rfl⟩ := H; obtain ⟨ASz21_0, cSz21_0, HGz21, hgz21, HSz21_0⟩ := HI0.out; have hcz21_0 := cellS104_0 HGz21; have hcz21_1 := cellS104_1 HGz21; have hfz21_1 := blk_frozen HGz21 1; clear HGz21 hgz21; have p331 : 0 ≤ ((ji14) : Int) := oA; have q331 : (ji14) < (s0_0.length : Int) := oA; obtain ⟨ad331, e331, hx331_0⟩ := Kd.at_int HSz21_0 (ji14) p331 q331
           cases e331
           replace hx331_0 := pw_cell_below HB.out hx331_0; replace p331 := eq_true p331; replace q331 := eq_true q331; have p332 : 0 ≤ ((ji17) : Int) := oA; have q332 : (ji17) < (s0_0.length : Int) := oA; obtain ⟨ad332, e332, hx332_0⟩ := Kd.at_int HSz21_0 (ji17) p332 q332; obtain rfl : ad331 = ad332 := (by injection e332); replace hx332_0 := pw_cell_below HB.out hx332_0; replace p332 := eq_true p332; replace q332 := eq_true q332
           go_wp2
           repeat (go_quiet (fail); try go_wp2)
           go_ret
           exact ⟨by first | rfl | (simp [errW_none, errW_some] <;> rfl) | (simp only [← hji14, ← hji17]; first | rfl | (simp [errW_none, errW_some] <;> rfl)) | (simp [*, errW_none, errW_some] <;> rfl), by repeat (first | (with_reducible first | exact HI0.out | apply IsS104.alloc | apply IsS104.drewN | apply IsS104.drew | apply IsS104.set_1) | exact HI0.out), by repeat (first | (with_reducible first | exact HB.out | apply below_alloc | apply pw_below_drewN | apply below_drew1 | refine below_set ?_ (IsS104.ge HI0.out)) | exact HB.out), by repeat (first | (with_reducible first | exact HK.out | apply KeepBut.set_ | apply keep_drewN | apply keep_drew | apply keep_alloc) | exact HK.out)⟩
         ·
          rw [if_neg c19] at H
          exact absurd H (by simp)
        ·
         rw [if_neg c18] at H
         exact absurd H (by simp)
       ·
        rw [if_neg c16] at H
        exact absurd H (by simp)
      ·
       rw [if_neg c15] at H
       exact absurd H (by simp)
def spec_l6Rd_of.f (k : Nat) (s0_0 : List Int) (s0_1 : Int) (l1 : List ByteArray) : Option (ByteArray × Int) := (spec_l6Rd_pick.f k s0_0 s0_1 (l1.length : Int)).bind fun bt333 => (if 0 ≤ bt333.1 then (if bt333.1 < (l1.length : Int) then (some (rdOf ByteArray.empty l1 bt333.1, bt333.2)) else (none)) else (none))
theorem spec_l6Rd_of.mono : ∀ a0 a1 a2 k, LeO (spec_l6Rd_of.f k a0 a1 a2) (spec_l6Rd_of.f (k + 1) a0 a1 a2) := by
 intro a0 a1 a2 k
 unfold spec_l6Rd_of.f
 repeat' first
   | (with_reducible exact spec_l6Rd_pick.mono _ _ _ _)
   | (with_reducible exact LeO.refl _)
   | (with_reducible exact LeO.none _)
   | (with_reducible refine LeO.ite ?_ ?_)
   | (with_reducible refine LeO.bind ?_ (fun _ => ?_))
   | exact spec_l6Rd_pick.mono _ _ _ _
   | exact LeO.none _
   | refine LeO.ite ?_ ?_
   | refine LeO.bind ?_ (fun _ => ?_)
set_option maxHeartbeats 8000000 in
set_option maxRecDepth 100000 in
theorem spec_l6Rd_of.calls (k : Nat) (g : Nat) (s0_0 : List Int) (s0_1 : Int) (A1 : Option Addr) (c1 : Nat) (l1 : List ByteArray) (r1 : ByteArray) (r2 : Int) (w0 w : World) (hI : IsS104 w0 w g s0_0 s0_1) (hB : Below w0.heap.size w0 w) (hr1 : Kd.C Kd.string w A1 l1.length l1) (hc1 : l1.length ≤ c1) (hf1 : ∀ ad, A1 = some ad → 0 < l1.length → ad.block ≠ g) (h : spec_l6Rd_of.f k s0_0 s0_1 l1 = some (r1, r2)) :
  Calls Try.prog 104 #[.pointer (some ⟨g, 0, none⟩), .slice A1 l1.length c1] w fun e w' => e = .returned (.string r1) ∧ IsS104 w0 w' g s0_0 r2 ∧ Below w0.heap.size w0 w' ∧ KeepBut w w' g none := by
 have HR1 := Az hr1; have HC1 := Az hc1; clear hr1 hc1; have HI0 := Az hI; have HK := Az (KeepBut.refl w g none); have HL := Az hB.size; clear hI; have HW0 := Az hB.size; have HB := Az hB; clear hB; have H : ((spec_l6Rd_pick.f k s0_0 s0_1 (l1.length : Int)).bind fun bt333 => (if 0 ≤ bt333.1 then (if bt333.1 < (l1.length : Int) then (some (rdOf ByteArray.empty l1 bt333.1, bt333.2)) else (none)) else (none))) = some (r1, r2) := h; clear h; replace H := Option.bind_eq_some_iff.mp H; obtain ⟨⟨t333, t334⟩, A30, H⟩ := H; replace H : (if 0 ≤ t333 then (if t333 < (l1.length : Int) then (some (rdOf ByteArray.empty l1 t333, t334)) else (none)) else (none)) = some (r1, r2) := H; have A3 := Az A30; clear A30
 by_cases c4 : 0 ≤ t333
 ·
  rw [if_pos c4] at H; have c4b0 := decide_eq_true c4; clear c4
  by_cases c5 : t333 < (l1.length : Int)
  ·
   rw [if_pos c5] at H; have c5b0 := decide_eq_true c5; clear c5; simp only [Option.some.injEq, Prod.mk.injEq] at H; obtain ⟨rfl, rfl⟩ := H
   go_enter Try.func104, Try.ntmps104
   go_wp2_with (first | ((with_reducible refine gate_callee (f := 79) rfl ?_); refine goesL_ (some 9) rfl rfl Try.func79 (by kernel_rfl) rfl #[.pointer (some ⟨g, 0, none⟩), .int .i64 (l1.length : Int)] rfl (by (try simp only [List.map_toArray, List.map_cons, List.map_nil]); first | done | rfl | (simp only [List.length_drop, List.length_take]; rfl)) ?_; (with_reducible refine (spec_l6Rd_pick.calls k g s0_0 s0_1 (l1.length : Int) t333 t334 w0 _ ?side1 ?side2 A3.out).mono ?_); (case side1 => repeat (first | (with_reducible first | exact HI0.out | apply IsS104.alloc | apply IsS104.drewN | apply IsS104.drew | apply IsS104.set_1) | exact HI0.out)); (case side2 => repeat (first | (with_reducible first | exact HB.out | apply below_alloc | apply pw_below_drewN | apply below_drew1 | refine below_set ?_ (IsS104.ge HI0.out)) | exact HB.out)); rintro e w6 ⟨rfl, hi, hb, hk⟩; refine ⟨_, rfl, ?_⟩; have n0 := Az (KeepBut.trans (by repeat (first | (with_reducible first | exact HK.out | apply KeepBut.set_ | apply keep_drewN | apply keep_drew | apply keep_alloc) | exact HK.out)) hk (.inl rfl)); have n1 := Az (hb); have n2 := Az (hi); clear HK HB HI0; have HK := n0; have HB := n1; have HI0 := n2; clear n0 n1 n2; (try clear hb); (try clear hb2); (try clear hk); (try clear hi); have p335 : 0 ≤ (t333 : Int) := oA; have q335 : t333 < (l1.length : Int) := oA; obtain ⟨ad335, e335, hx335_0⟩ := Kd.at_string HR1.out t333 p335 q335; cases e335; replace hx335_0 := keep_cell HK.out hx335_0 (by first | (rw [add_block]; exact hf1 _ rfl (by omega)) | exact hf1 _ rfl (by omega) | exact hf1 ad335 rfl (by omega)); replace p335 := eq_true p335; replace q335 := eq_true q335))
   go_ret
   exact ⟨rE, by repeat (first | (with_reducible first | exact HI0.out | apply IsS104.alloc | apply IsS104.drewN | apply IsS104.drew | apply IsS104.set_1) | exact HI0.out), by repeat (first | (with_reducible first | exact HB.out | apply below_alloc | apply pw_below_drewN | apply below_drew1 | refine below_set ?_ (IsS104.ge HI0.out)) | exact HB.out), by repeat (first | (with_reducible first | exact HK.out | apply KeepBut.set_ | apply keep_drewN | apply keep_drew | apply keep_alloc) | exact HK.out)⟩
  ·
   rw [if_neg c5] at H
   exact absurd H (by simp)
 ·
  rw [if_neg c4] at H
  exact absurd H (by simp)
end Go.Proofs.Ytlpbalebodlipaa.PK
