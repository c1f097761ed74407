/- A part of the proof of FnQuad. There are no conditions. -/
import Derived.Test.YtlpbalebodlipaaKFnQuadOwnx2
namespace Go.Proofs.Ytlpbalebodlipaa.PL
open Go.RowKit Go.Proofs.YtlpbalebodlipaaW.PrintWords Go.Proofs.YtlpbalebodlipaaW.PrintLast Go.Proofs.YtlpbalebodlipaaW.PrintMore
theorem qe_ {p : Prop} (h : p := by repeat (first | (with_reducible first | exact HI0.out | apply ac.alloc | apply ac.drewN | apply ac.drew | apply ac.aY) | exact HI0.out)) : p := h
theorem qg_ {p : Prop} (h : p := by repeat (first | (with_reducible first | exact HB.out | apply bn | apply bz | apply aX | refine ai ?_ (ac.ge HI0.out)) | exact HB.out)) : p := h
theorem qi_ {p : Prop} (h : p := by repeat (first | (with_reducible first | exact HK.out | apply ao.dv | apply dC | apply cX | apply dB) | exact HK.out)) : p := h
theorem pD {p : Prop} (h : p := by first | (simp only [jb, Act.put, List.setIfInBounds_toArray, List.set_cons_zero, List.set_cons_succ]; done) | (simp only [jb, Act.put, List.setIfInBounds_toArray, List.set_cons_zero, List.set_cons_succ]; rfl)) : p := h
theorem iv {p : Prop} (h : p := by exact (bU3 HB.out j4.out lH.out gr.out)) : p := h
theorem fQ {p : Prop} (h : p := by exact (bU2 HB.out j4.out lH.out)) : p := h
theorem Dk {p : Prop} (h : p := by exact (Kd.aQ (Kd.aQ (Kd.aQ (Kd.aQ ho0 (Kd.ar (rU dy.out))) (Kd.ar (rU dn.out))) (Kd.ar (rU dD.out))) (Kd.ar (rU Zq7.out)))) : p := h
theorem Pn {p : Prop} (h : p := by first | exact Kd.zA (Kd.dG kZ.out bl.out (by decide)) | (rw [add_block]; exact Kd.zA (Kd.dG kZ.out bl.out (by decide))) | (show (Addr.add _ _).block ≠ _; rw [add_block]; exact Kd.zA (Kd.dG kZ.out bl.out (by decide))) | (dsimp only; exact Kd.zA (Kd.dG kZ.out bl.out (by decide)))) : p := h
theorem Ps {p : Prop} (h : p := by exact (Kd.cJ (ok := (fun k_ => some k_ ≠ (.slice (some oX) bs.length pT : Value).ownBlock ∧ oV k_ eu ∧ oV k_ cq)) (rA (Kd.ah aE.out (fun _ hk => ⟨⟨hk.1, ⟨hk.2.2.1, hk.2.2.2⟩⟩, hk.2.1⟩))) hg hat)) : p := h
theorem SB {p : Prop} (h : p := by exact rA (Kd.ah gG.out (fun _ hk => ⟨hk.1.1.1.1.2, ⟨hk.1.1.1.2, ⟨hk.1.1.2, ⟨hk.1.2, hk.2⟩⟩⟩⟩))) : p := h
theorem Qc {p : Prop} (h : p := by exact rA (Kd.ah gH.out (fun _ hk => ⟨hk.1.1.1.1.2, ⟨hk.1.1.1.2, ⟨hk.1.1.2, ⟨hk.1.2, hk.2⟩⟩⟩⟩))) : p := h
theorem PX {p : Prop} (h : p := by exact rA (Kd.ah dy.out (fun _ hk => ⟨hk.1.1, ⟨hk.1.2.1, ⟨hk.1.2.2.1, ⟨hk.2, hk.1.2.2.2⟩⟩⟩⟩))) : p := h
theorem QD {p : Prop} (h : p := by exact rA (Kd.ah dn.out (fun _ hk => ⟨hk.1.1, ⟨hk.1.2.1, ⟨hk.1.2.2.1, ⟨hk.2, hk.1.2.2.2⟩⟩⟩⟩))) : p := h
theorem Q5 {p : Prop} (h : p := by exact rA (Kd.ah dD.out (fun _ hk => ⟨hk.1.1, ⟨hk.1.2.1, ⟨hk.1.2.2.1, ⟨hk.2, hk.1.2.2.2⟩⟩⟩⟩))) : p := h
theorem Si {p : Prop} (h : p := by exact rA (Kd.ah Zq7.out (fun _ hk => ⟨hk.1.1, ⟨hk.1.2.1, ⟨hk.1.2.2.1, ⟨hk.2, hk.1.2.2.2⟩⟩⟩⟩))) : p := h
theorem Ru {p : Prop} (h : p := by exact rA (Kd.ah gH.out (fun _ hk => ⟨hk.1.1, ⟨hk.1.2.1, ⟨hk.1.2.2.1, ⟨hk.1.2.2.2, hk.2⟩⟩⟩⟩))) : p := h
theorem QP {p : Prop} (h : p := by exact rA (Kd.ah dy.out (fun _ hk => ⟨hk.1.1, ⟨hk.1.2.1, ⟨hk.1.2.2.1, ⟨hk.1.2.2.2, hk.2⟩⟩⟩⟩))) : p := h
theorem Rt {p : Prop} (h : p := by exact rA (Kd.ah dn.out (fun _ hk => ⟨hk.1.1, ⟨hk.1.2.1, ⟨hk.1.2.2.1, ⟨hk.1.2.2.2, hk.2⟩⟩⟩⟩))) : p := h
theorem Sd {p : Prop} (h : p := by exact rA (Kd.ah dD.out (fun _ hk => ⟨hk.1.1, ⟨hk.1.2.1, ⟨hk.1.2.2.1, ⟨hk.1.2.2.2, hk.2⟩⟩⟩⟩))) : p := h
theorem PM {p : Prop} (h : p := by exact rA (Kd.ah Zq7.out (fun _ hk => ⟨hk.1.1, ⟨hk.1.2.1, ⟨hk.1.2.2.1, ⟨hk.1.2.2.2, hk.2⟩⟩⟩⟩))) : p := h
theorem QB {p : Prop} (h : p := by exact rA (Kd.ah gG.out (fun _ hk => ⟨hk.1.1, ⟨hk.1.2.1, ⟨hk.1.2.2.1, ⟨hk.1.2.2.2, hk.2⟩⟩⟩⟩))) : p := h
theorem Q9 {p : Prop} (h : p := by exact rA (Kd.ah Zq7.out (fun _ hk => ⟨hk.1.1.1.2, ⟨hk.1.1.2, ⟨hk.1.2, hk.2⟩⟩⟩))) : p := h
theorem Ra {p : Prop} (h : p := by exact rA (Kd.ah gG.out (fun _ hk => ⟨hk.1.1.1.2, ⟨hk.1.1.2, ⟨hk.1.2, hk.2⟩⟩⟩))) : p := h
theorem RD {p : Prop} (h : p := by exact rA (Kd.ah gH.out (fun _ hk => ⟨hk.1.1.1.2, ⟨hk.1.1.2, ⟨hk.1.2, hk.2⟩⟩⟩))) : p := h
theorem RY {p : Prop} (h : p := by exact rA (Kd.ah dy.out (fun _ hk => ⟨hk.1.1.1, ⟨hk.1.1.2, ⟨hk.1.2, hk.2⟩⟩⟩))) : p := h
theorem Qb {p : Prop} (h : p := by exact rA (Kd.ah dn.out (fun _ hk => ⟨hk.1.1.1, ⟨hk.1.1.2, ⟨hk.1.2, hk.2⟩⟩⟩))) : p := h
theorem RO {p : Prop} (h : p := by exact rA (Kd.ah dD.out (fun _ hk => ⟨hk.1.1.1, ⟨hk.1.1.2, ⟨hk.1.2, hk.2⟩⟩⟩))) : p := h
theorem Qe {p : Prop} (h : p := by exact rA (Kd.ah dy.out (fun _ hk => ⟨hk.1.1, ⟨hk.1.2.1, ⟨hk.1.2.2, hk.2⟩⟩⟩))) : p := h
theorem Rm {p : Prop} (h : p := by exact rA (Kd.ah dn.out (fun _ hk => ⟨hk.1.1, ⟨hk.1.2.1, ⟨hk.1.2.2, hk.2⟩⟩⟩))) : p := h
theorem O4 {p : Prop} (h : p := by exact rA (Kd.ah dD.out (fun _ hk => ⟨hk.1.1, ⟨hk.1.2.1, ⟨hk.1.2.2, hk.2⟩⟩⟩))) : p := h
theorem QF {p : Prop} (h : p := by exact rA (Kd.ah Zq7.out (fun _ hk => ⟨hk.1.1, ⟨hk.1.2.1, ⟨hk.1.2.2, hk.2⟩⟩⟩))) : p := h
theorem QG {p : Prop} (h : p := by exact rA (Kd.ah aW.out (fun _ hk => ⟨⟨hk.1, ⟨hk.2.1, hk.2.2.2⟩⟩, hk.2.2.1⟩))) : p := h
theorem Ry {p : Prop} (h : p := by exact rA (Kd.ah ap.out (fun _ hk => ⟨⟨hk.1, ⟨hk.2.1, hk.2.2.2⟩⟩, hk.2.2.1⟩))) : p := h
theorem Ov {p : Prop} (h : p := by exact rA (Kd.ah bP.out (fun _ hk => ⟨⟨hk.1, ⟨hk.2.2.1, hk.2.2.2⟩⟩, hk.2.1⟩))) : p := h
theorem zz {p : Prop} (h : p := by exact (Kd.a8 (rU dy.out) (Kd.ax ho0) hb)) : p := h
theorem z6 {p : Prop} (h : p := by exact (Kd.a8 (rU dn.out) (Kd.ax ho0) hb)) : p := h
theorem zD {p : Prop} (h : p := by exact (Kd.a8 (rU dD.out) (Kd.ax ho0) hb)) : p := h
theorem OT {p : Prop} (h : p := by exact (Kd.aQ (Kd.aQ (Kd.aQ (Kd.aQ k5 (Kd.ar (rU dy.out))) (Kd.ar (rU dn.out))) (Kd.ar (rU dD.out))) (Kd.ar (rU Zq7.out)))) : p := h
attribute [local go_sem] nV nQ nE ny nA nG nO nR   -- for this text's walks alone
set_option linter.unusedVariables false
set_option linter.unusedSimpArgs false
def me (L : List (Nat × Option Tmp)) (n : Nat) : Array Bool := ((List.range n).map (fun i => !(L.map Prod.fst).contains i)).toArray
section
variable {P : Program} {ops : Array Oper} {Q : Exit → Act → World → Prop} {md : Region.Mode} {S : World → Prop} {ds : List Nat}
theorem P8 {i n : Nat} {N : Option Tmp} {L : List (Nat × Option Tmp)} {oi : Oper} {v : Value} {fuel : Nat} {a : Act} {w : World} (hi : ops[i]? = some oi) (hN : oi.dst = N) (hc : xz md ops (me ((i, N) :: L) n) (me L n) i = true)
  (hQ : ∀ c a w, Q (.panic c) (a.put oi.dst v) w → Q (.panic c) a w) (hw : Region.wanted oi (yielded ops a.tmps) = true) (hy : ∀ w, (execOp a.eval oi).run P w = .ok (.value v) w) {a' : Act} (ha : a.put N v = a')
  (h : dm P md ops Q S ds fuel (me L n) a' w) : dm P md ops Q S ds (fuel + 1) (me ((i, N) :: L) n) a w := ak (me L n) hi hN hc hQ (Or.inl ⟨hw, hy⟩) ha h
theorem Z0 {i n : Nat} {N : Option Tmp} {L : List (Nat × Option Tmp)} {oi : Oper} {v : Value} {fuel : Nat} {a : Act} {w : World} (hi : ops[i]? = some oi) (hN : oi.dst = N) (hc : takeB md ops ds (me ((i, N) :: L) n) (me L n) i = true)
  (hQ : ∀ c a w, Q (.panic c) (a.put oi.dst v) w → Q (.panic c) a w) (hw : Region.wanted oi (yielded ops a.tmps) = true) (hy : ∀ w, S w → (execOp a.eval oi).run P w = .ok (.value v) w) (hS : S w) {a' : Act} (ha : a.put N v = a')
  (h : dm P md ops Q S ds fuel (me L n) a' w) : dm P md ops Q S ds (fuel + 1) (me ((i, N) :: L) n) a w := dh (me L n) hi hN hc hQ (Or.inl ⟨hw, hy⟩) hS ha h
theorem YI {i n : Nat} {N : Option Tmp} {L : List (Nat × Option Tmp)} {oi : Oper} {fuel : Nat} {a : Act} {w : World} (hi : ops[i]? = some oi) (hN : oi.dst = N) (hc : rY md ops (me ((i, N) :: L) n) (me L n) i = true) (hd : i ∉ ds)
  (h : ∀ K : Act → World → Prop, Shut (∀ a' w', S w' → (S w' → dm P md ops Q S ds fuel (me L n) a' w') → K a' w') → if Region.wanted oi (yielded ops a.tmps) = true then Oper.wp P oi a w K Q else K (a.put N undef) w) :
  dm P md ops Q S ds (fuel + 1) (me ((i, N) :: L) n) a w := er (me L n) hi hN hc hd h
end
mutual
def cm.l0 : Nat → List Int → List Int → Int → Int → List Int → List Int → Option (List Int × List Int × Int × Bool)
 | 0, _, _, _, _, _, _ => none
 | k + 1, x5, x8, x9, cy, bL, bJ => if cy ≤ (wrap64 (Int.tdiv x9 2)) then (cm.l1 k x5 x8 x9 cy (([] : List Int)) 0 bL bJ) else (cm.l3 k x8 (([] : List Int)) (wrap64 (x9 - 1)) bL bJ)
def cm.l1 : Nat → List Int → List Int → Int → Int → List Int → Int → List Int → List Int → Option (List Int × List Int × Int × Bool)
 | 0, _, _, _, _, _, _, _, _ => none
 | k + 1, x5, x8, x9, cy, eQ, eG, bL, bJ => if eG < x9 then (if 0 ≤ eG then (if eG < (x5.length : Int) then (if (rd x5 eG) = cy then (cm.l2 k x5 x8 x9 cy eQ eG 1 bL bJ) else (cm.l1 k x5 x8 x9 cy eQ (wrap64 (eG + 1)) bL bJ)) else (none)) else (none)) else ((eE.f k bL eQ).bind fun EX => (cm.l0 k x5 x8 x9 (wrap64 (cy + 1)) EX bJ))
def cm.l2 : Nat → List Int → List Int → Int → Int → List Int → Int → Int → List Int → List Int → Option (List Int × List Int × Int × Bool)
 | 0, _, _, _, _, _, _, _, _, _ => none
 | k + 1, x5, x8, x9, cy, eQ, eG, lx, bL, bJ => if lx < x9 then (if x9 = 0 then (none) else (if 0 ≤ (Int.tmod (wrap64 ((wrap64 (eG - lx)) + x9)) x9) then (if (Int.tmod (wrap64 ((wrap64 (eG - lx)) + x9)) x9) < (x8.length : Int) then (if (rd x8 (Int.tmod (wrap64 ((wrap64 (eG - lx)) + x9)) x9)) = eG then (if eQ.length < 17592186044416 then (cm.l2 k x5 x8 x9 cy (eQ ++ [wrap64 ((wrap64 (2 * (Int.tmod (wrap64 ((wrap64 (eG - lx)) + x9)) x9))) + 1)]) eG (wrap64 (lx + 1)) bL bJ) else (none)) else (cm.l2 k x5 x8 x9 cy eQ eG (wrap64 (lx + 1)) bL bJ)) else (none)) else (none))) else (if eQ.length < 17592186044416 then (cm.l1 k x5 x8 x9 cy (eQ ++ [wrap64 (2 * eG)]) (wrap64 (eG + 1)) bL bJ) else (none))
def cm.l3 : Nat → List Int → List Int → Int → List Int → List Int → Option (List Int × List Int × Int × Bool)
 | 0, _, _, _, _, _ => none
 | k + 1, x8, jj, kk, bL, bJ => if kk ≥ 0 then (if 0 ≤ kk then (if kk < (x8.length : Int) then (if (rd x8 kk) < 0 then (if jj.length < 17592186044416 then (cm.l3 k x8 (jj ++ [wrap64 ((wrap64 (2 * kk)) + 1)]) (wrap64 (kk - 1)) bL bJ) else (none)) else (cm.l3 k x8 jj (wrap64 (kk - 1)) bL bJ)) else (none)) else (none)) else ((eE.f k bL jj).bind fun Lv => (if 0 ≤ (wrap64 ((jj.length : Int) - 1)) then (if (wrap64 ((jj.length : Int) - 1)) < (jj.length : Int) then (some (Lv, bJ, rd jj (wrap64 ((jj.length : Int) - 1)), true)) else (none)) else (none)))
end
def cm.f (k : Nat) (bY : ByteArray) (af : List Int) : Option (List Int × List Int × Int × Bool) := (cY.f k bY af).bind fun Lw => (if Lw = true then ((ec.f k bY af).bind fun U5 => ((dH.f k U5.2.1).bind fun a7 => (if 0 ≤ (wrap64 (2 * (a7.length : Int))) then (if (wrap64 (2 * (a7.length : Int)) : Int).toNat ≤ 35184372088832 then ((eK.f k (a7.length : Int)).bind fun iN => (cm.l0 k U5.1 a7 (a7.length : Int) 0 (List.replicate (wrap64 (2 * (a7.length : Int)) : Int).toNat 0) iN)) else (none)) else (none)))) else (some (([] : List Int), ([] : List Int), 0, false)))
theorem cm.mono_l : ∀ k, (∀ y0 y1 y2 y3 y4 y5, LeO (cm.l0 k y0 y1 y2 y3 y4 y5) (cm.l0 (k + 1) y0 y1 y2 y3 y4 y5)) ∧ (∀ y0 y1 y2 y3 y4 y5 y6 y7, LeO (cm.l1 k y0 y1 y2 y3 y4 y5 y6 y7) (cm.l1 (k + 1) y0 y1 y2 y3 y4 y5 y6 y7)) ∧ (∀ y0 y1 y2 y3 y4 y5 y6 y7 y8, LeO (cm.l2 k y0 y1 y2 y3 y4 y5 y6 y7 y8) (cm.l2 (k + 1) y0 y1 y2 y3 y4 y5 y6 y7 y8)) ∧ (∀ y0 y1 y2 y3 y4, LeO (cm.l3 k y0 y1 y2 y3 y4) (cm.l3 (k + 1) y0 y1 y2 y3 y4))
 | 0 => ⟨fun _ _ _ _ _ _ r h => by simp [cm.l0] at h, fun _ _ _ _ _ _ _ _ r h => by simp [cm.l1] at h, fun _ _ _ _ _ _ _ _ _ r h => by simp [cm.l2] at h, fun _ _ _ _ _ r h => by simp [cm.l3] at h⟩
 | k + 1 => by
  obtain ⟨dS, ih1, ih2, ih3⟩ := cm.mono_l k; refine ⟨?_, ?_, ?_, ?_⟩
  ·
   intro y0 y1 y2 y3 y4 y5
   unfold cm.l0
   repeat' first
   | (with_reducible exact dS _ _ _ _ _ _)
   | (with_reducible exact ih1 _ _ _ _ _ _ _ _)
   | (with_reducible exact ih2 _ _ _ _ _ _ _ _ _)
   | (with_reducible exact ih3 _ _ _ _ _)
   | (with_reducible exact cY.mono _ _ _)
   | (with_reducible exact eK.mono _ _)
   | (with_reducible exact dH.mono _ _)
   | (with_reducible exact eE.mono _ _ _)
   | (with_reducible exact ec.mono _ _ _)
   | (with_reducible exact LeO.refl _)
   | (with_reducible exact LeO.none _)
   | (with_reducible refine LeO.ite ?_ ?_)
   | (with_reducible refine LeO.bind ?_ (fun _ => ?_))
   | exact dS _ _ _ _ _ _
   | exact ih1 _ _ _ _ _ _ _ _
   | exact ih2 _ _ _ _ _ _ _ _ _
   | exact ih3 _ _ _ _ _
   | exact cY.mono _ _ _
   | exact eK.mono _ _
   | exact dH.mono _ _
   | exact eE.mono _ _ _
   | exact ec.mono _ _ _
   | exact LeO.none _
   | refine LeO.ite ?_ ?_
   | refine LeO.bind ?_ (fun _ => ?_)
  ·
   intro y0 y1 y2 y3 y4 y5 y6 y7
   unfold cm.l1
   repeat' first
   | (with_reducible exact dS _ _ _ _ _ _)
   | (with_reducible exact ih1 _ _ _ _ _ _ _ _)
   | (with_reducible exact ih2 _ _ _ _ _ _ _ _ _)
   | (with_reducible exact ih3 _ _ _ _ _)
   | (with_reducible exact cY.mono _ _ _)
   | (with_reducible exact eK.mono _ _)
   | (with_reducible exact dH.mono _ _)
   | (with_reducible exact eE.mono _ _ _)
   | (with_reducible exact ec.mono _ _ _)
   | (with_reducible exact LeO.refl _)
   | (with_reducible exact LeO.none _)
   | (with_reducible refine LeO.ite ?_ ?_)
   | (with_reducible refine LeO.bind ?_ (fun _ => ?_))
   | exact dS _ _ _ _ _ _
   | exact ih1 _ _ _ _ _ _ _ _
   | exact ih2 _ _ _ _ _ _ _ _ _
   | exact ih3 _ _ _ _ _
   | exact cY.mono _ _ _
   | exact eK.mono _ _
   | exact dH.mono _ _
   | exact eE.mono _ _ _
   | exact ec.mono _ _ _
   | exact LeO.none _
   | refine LeO.ite ?_ ?_
   | refine LeO.bind ?_ (fun _ => ?_)
  ·
   intro y0 y1 y2 y3 y4 y5 y6 y7 y8
   unfold cm.l2
   repeat' first
   | (with_reducible exact dS _ _ _ _ _ _)
   | (with_reducible exact ih1 _ _ _ _ _ _ _ _)
   | (with_reducible exact ih2 _ _ _ _ _ _ _ _ _)
   | (with_reducible exact ih3 _ _ _ _ _)
   | (with_reducible exact cY.mono _ _ _)
   | (with_reducible exact eK.mono _ _)
   | (with_reducible exact dH.mono _ _)
   | (with_reducible exact eE.mono _ _ _)
   | (with_reducible exact ec.mono _ _ _)
   | (with_reducible exact LeO.refl _)
   | (with_reducible exact LeO.none _)
   | (with_reducible refine LeO.ite ?_ ?_)
   | (with_reducible refine LeO.bind ?_ (fun _ => ?_))
   | exact dS _ _ _ _ _ _
   | exact ih1 _ _ _ _ _ _ _ _
   | exact ih2 _ _ _ _ _ _ _ _ _
   | exact ih3 _ _ _ _ _
   | exact cY.mono _ _ _
   | exact eK.mono _ _
   | exact dH.mono _ _
   | exact eE.mono _ _ _
   | exact ec.mono _ _ _
   | exact LeO.none _
   | refine LeO.ite ?_ ?_
   | refine LeO.bind ?_ (fun _ => ?_)
  ·
   intro y0 y1 y2 y3 y4
   unfold cm.l3
   repeat' first
   | (with_reducible exact dS _ _ _ _ _ _)
   | (with_reducible exact ih1 _ _ _ _ _ _ _ _)
   | (with_reducible exact ih2 _ _ _ _ _ _ _ _ _)
   | (with_reducible exact ih3 _ _ _ _ _)
   | (with_reducible exact cY.mono _ _ _)
   | (with_reducible exact eK.mono _ _)
   | (with_reducible exact dH.mono _ _)
   | (with_reducible exact eE.mono _ _ _)
   | (with_reducible exact ec.mono _ _ _)
   | (with_reducible exact LeO.refl _)
   | (with_reducible exact LeO.none _)
   | (with_reducible refine LeO.ite ?_ ?_)
   | (with_reducible refine LeO.bind ?_ (fun _ => ?_))
   | exact dS _ _ _ _ _ _
   | exact ih1 _ _ _ _ _ _ _ _
   | exact ih2 _ _ _ _ _ _ _ _ _
   | exact ih3 _ _ _ _ _
   | exact cY.mono _ _ _
   | exact eK.mono _ _
   | exact dH.mono _ _
   | exact eE.mono _ _ _
   | exact ec.mono _ _ _
   | exact LeO.none _
   | refine LeO.ite ?_ ?_
   | refine LeO.bind ?_ (fun _ => ?_)
theorem cm.mono : ∀ a0 a1 k, LeO (cm.f k a0 a1) (cm.f (k + 1) a0 a1) := by
 intro a0 a1 k; obtain ⟨dS, ih1, ih2, ih3⟩ := cm.mono_l k
 unfold cm.f
 repeat' first
   | (with_reducible exact dS _ _ _ _ _ _)
   | (with_reducible exact ih1 _ _ _ _ _ _ _ _)
   | (with_reducible exact ih2 _ _ _ _ _ _ _ _ _)
   | (with_reducible exact ih3 _ _ _ _ _)
   | (with_reducible exact cY.mono _ _ _)
   | (with_reducible exact eK.mono _ _)
   | (with_reducible exact dH.mono _ _)
   | (with_reducible exact eE.mono _ _ _)
   | (with_reducible exact ec.mono _ _ _)
   | (with_reducible exact LeO.refl _)
   | (with_reducible exact LeO.none _)
   | (with_reducible refine LeO.ite ?_ ?_)
   | (with_reducible refine LeO.bind ?_ (fun _ => ?_))
   | exact dS _ _ _ _ _ _
   | exact ih1 _ _ _ _ _ _ _ _
   | exact ih2 _ _ _ _ _ _ _ _ _
   | exact ih3 _ _ _ _ _
   | exact cY.mono _ _ _
   | exact eK.mono _ _
   | exact dH.mono _ _
   | exact eE.mono _ _ _
   | exact ec.mono _ _ _
   | exact LeO.none _
   | refine LeO.ite ?_ ?_
   | refine LeO.bind ?_ (fun _ => ?_)
def cm.T6 : Bool × List (List Nat × List Nat) := (true, [([], []), ([0], [0]), ([1, 1], [1]), ([], []), ([3], [3]), ([2, 4], [2, 4]), ([], []), ([6, 5, 4, 0, 1, 2, 3, 4, 5, 6], [5, 6])])
def cm.B6 : List Nat := [0, 1, 3, 0, 8, 31, 0, 127]
theorem cm.X2 : rtab .any (opsOf Try.f21 6) = cm.T6 := by kernel_rfl
theorem cm.aaE : ir cm.T6.2 cm.B6 = true := by kernel_rfl
def cm.T30 : Bool × List (List Nat × List Nat) := (true, [([], []), ([], []), ([], []), ([2], [2]), ([3], [3]), ([1, 4], [1, 4]), ([5], [5]), ([0, 0], [0]), ([6, 7, 0, 1, 2, 3, 4, 5, 6, 7], [6]), ([8, 0, 1, 2, 3, 4, 5, 6, 7, 8], [])])
def cm.B30 : List Nat := [0, 0, 0, 4, 12, 30, 62, 1, 255, 511]
theorem cm.Ym : rtab .any (opsOf Try.f21 30) = cm.T30 := by kernel_rfl
theorem cm.ZB : ir cm.T30.2 cm.B30 = true := by kernel_rfl
set_option maxHeartbeats 8000000 in
set_option maxRecDepth 100000 in
theorem cm.calls (k : Nat) (bY : ByteArray) (am : Option Addr) (al : Nat) (af : List Int) (r1 : List Int) (r2 : List Int) (r3 : Int) (r4 : Bool) (w : World) (dl : Kd.C (Kd.int .i64) w am af.length af) (dq : af.length ≤ al) (h : cm.f k bY af = some (r1, r2, r3, r4)) :
  Calls Try.prog 21 #[.agg #[.string bY, .slice am af.length al]] w fun e w' => ∃ bK v1_ : Value, e = .returned (.tuple #[.agg #[bK, v1_], .int .i64 r3, .bool r4]) ∧ Kd.R (Kd.int .i64) 3 w' w.heap.size (fun k_ => oV k_ v1_) bK r1 ∧ Kd.R (Kd.int .i64) 3 w' w.heap.size (fun k_ => oV k_ bK) v1_ r2 ∧ Below w.heap.size w w' := by
 have KN := Try.underlying25; have jZ := Try.underlying29; have cH := Az dl; have cQ := Az dq; clear dl dq; have HB := bZ w; have H := h; clear h; unfold cm.f at H; replace H := bd H; obtain ⟨Lw, A2, H⟩ := H
 by_cases c3 : Lw = true
 ·
  subst c3; rw [if_pos rfl] at H; replace H := bd H; obtain ⟨⟨mC, bR, nh⟩, A4, H⟩ := H; dsimp only at H; replace H := bd H; obtain ⟨a7, A5, H⟩ := H; obtain ⟨kC, pK⟩ : ∃ j_ : Int, (wrap64 (2 * (a7.length : Int))) = j_ := ⟨_, rfl⟩; (first | rw [pK] at H | simp only [pK] at H); have ama : (IntKind.i64.wrap (2 * (a7.length : Int))) = kC := (cr _).trans pK; replace H := gE H; obtain ⟨iw, Lx, H⟩ := H; replace H := gE H; obtain ⟨iJ, J0, H⟩ := H; generalize ry : (List.replicate (kC : Int).toNat 0 : List Int) = y779 at H; replace ry := Ay ry; replace H := bd H; obtain ⟨iN, A9, H⟩ := H; have H' := Az H; clear H; go_enter Try.func21, Try.ntmps21
  try go_wp2_with (first | ((with_reducible refine gd 1 rfl ?_); refine bE 1 #[.string bY, .slice am af.length al] 25 ?_; intro fE hg qv hbox hb; have bp := Az (hbox); have j4 := gW hg (bU0 HB.out); replace HB := Az (au (bU0 HB.out) hb); clear hb hbox hg) | ((with_reducible refine gd 2 rfl ?_); refine bE 2 #[.slice none 0 0, .slice none 0 0] 29 ?_; intro dO hg qt hbox hb; have bl := Az (hbox); have lH := gW hg (bU1 HB.out j4.out); replace HB := Az (au (bU1 HB.out j4.out) hb); have sW := nL hg (kU bp.out); replace bp := kB bp.out hb; clear hb hbox hg; have aeD := sW.out; have aeE := (sW.out).symm; have Av := bc2 bp.out) | ((with_reducible refine gK 17 rfl ?_); refine gC (some 19) Try.func17 #[.agg #[.string bY, .slice am af.length al]] ?_; (with_reducible refine (cY.calls k bY _ _ af true _ ?_ ?_ A2.out).mono ?_); exact cU (Kd.cd cH.out HB.out); exact cQ.out; rintro e DU ⟨rfl, hb⟩; refine ⟨_, rfl, ?_⟩; replace bp := kB bp.out hb; replace bl := kB bl.out hb; replace HB := Az (au fQ hb); clear hb; have DV := bc2 bp.out) | ((with_reducible refine gK 70 rfl ?_); refine gC (some 24) Try.func70 #[.agg #[.string bY, .slice am af.length al]] ?_; (with_reducible refine (ec.calls k bY _ _ af mC bR nh _ ?_ ?_ A4.out).mono ?_); exact cU (Kd.cd cH.out HB.out); exact cQ.out; rintro e w16 ⟨bV, amb, cu, rfl, ho0, ho1, ho2, hb⟩; refine ⟨_, rfl, ?_⟩; have dy := Az (Kd.bu ho0 (be fQ)); have dn := Az (Kd.bu ho1 (be fQ)); have dD := Az (Kd.bu ho2 (be fQ)); replace bp := kB bp.out hb; replace bl := kB bl.out hb; replace HB := Az (au fQ hb); clear hb ho0 ho1 ho2; obtain ⟨cj, cg, Ag⟩ := Kd.aU dn.out; subst Ag) | ((with_reducible refine gK 71 rfl ?_); refine gC (some 29) Try.func71 #[.slice cj bR.length cg] ?_; (with_reducible refine (dH.calls k _ _ bR a7 _ ?_ ?_ A5.out).mono ?_); exact cU ((Kd.av dn.out).2.2); exact (Kd.av dn.out).2.1; rintro e sx ⟨amc, rfl, ho0, hb⟩; refine ⟨_, rfl, ?_⟩; have Zq7 := Az (Kd.bu (Kd.aQ (Kd.aQ (Kd.aQ ho0 (Kd.ar (rU dy.out))) (Kd.ar (rU dn.out))) (Kd.ar (rU dD.out))) (be fQ)); replace dy := Az zz; replace dn := Az z6; replace dD := Az zD; replace bp := kB bp.out hb; replace bl := kB bl.out hb; replace HB := Az (au fQ hb); clear hb ho0; obtain ⟨bA, bm, uk⟩ := Kd.aU Zq7.out; subst uk))
  replace dy := Az (Kd.ci dy.out); replace dn := Az (Kd.ci dn.out); replace dD := Az (Kd.ci dD.out); replace Zq7 := Az (Kd.ci Zq7.out); replace bp := Az (dk bp.out); replace bl := Az (dk bl.out); replace HB := Az (aX HB.out); refine fX (n := 8) (S := fun w' => True) (ds := []) (bv 8 0) (by kernel_rfl) rfl rfl trivial (fun hHeld => ?_); refine gn cm.X2 cm.aaE (fun HT_ HW_ => ?_); generalize sx.drew = yu at dy dn dD Zq7 bp bl HB hHeld ⊢; refine ak (i := 0) (N := some 32) (v := ?_) (a' := ?_) (bv 8 1) rfl rfl (aj HT_.out (by kernel_rfl)) (fun _ _ _ h => h) (Or.inl ⟨by rfl, ?_⟩) ?_ ?_; rotate_left; (exact yP); rotate_left; (exact aP); refine ak (i := 1) (N := some 33) (v := ?_) (a' := ?_) (bv 8 3) rfl rfl (aj HT_.out (by kernel_rfl)) (fun _ _ _ h => h) (Or.inl ⟨by rfl, ?_⟩) ?_ ?_; rotate_left; (exact yP); rotate_left; (exact aP); refine ak (i := 3) (N := some 35) (v := ?_) (a' := ?_) (bv 8 11) rfl rfl (aj HT_.out (by kernel_rfl)) (fun _ _ _ h => h) (Or.inl ⟨by rfl, ?_⟩) ?_ ?_; rotate_left; (exact yP); rotate_left; (exact aP); refine mU (σ := Value × Value × Nat) 1 (bv 8 127) (fun s_ => [(34, s_.1), (36, s_.2.1), (10, .pointer (some ⟨s_.2.2, 0, none⟩)), (37, .agg #[s_.1, s_.2.1])]) (fun s_ w' => (Kd.R (Kd.int .i64) 3 w' w.heap.size (fun k_ => oS k_ cj bR.length cg ∧ oV k_ cu ∧ oS k_ bA a7.length bm ∧ some k_ ≠ (s_.1 : Value).ownBlock ∧ some k_ ≠ (s_.2.1 : Value).ownBlock) bV mC) ∧ (Kd.R (Kd.int .i64) 3 w' w.heap.size (fun k_ => oV k_ bV ∧ oV k_ cu ∧ oS k_ bA a7.length bm ∧ some k_ ≠ (s_.1 : Value).ownBlock ∧ some k_ ≠ (s_.2.1 : Value).ownBlock) (.slice cj bR.length cg) bR) ∧ (Kd.R (Kd.int .i64) 3 w' w.heap.size (fun k_ => oV k_ bV ∧ oS k_ cj bR.length cg ∧ oS k_ bA a7.length bm ∧ some k_ ≠ (s_.1 : Value).ownBlock ∧ some k_ ≠ (s_.2.1 : Value).ownBlock) cu nh) ∧ (Kd.R (Kd.int .i64) 3 w' w.heap.size (fun k_ => oV k_ bV ∧ oS k_ cj bR.length cg ∧ oV k_ cu ∧ some k_ ≠ (s_.1 : Value).ownBlock ∧ some k_ ≠ (s_.2.1 : Value).ownBlock) (.slice bA a7.length bm) a7) ∧ (Kd.R (Kd.int .i64) 3 w' w.heap.size (fun k_ => oV k_ bV ∧ oS k_ cj bR.length cg ∧ oV k_ cu ∧ oS k_ bA a7.length bm ∧ some k_ ≠ (s_.2.1 : Value).ownBlock) s_.1 y779) ∧ (Kd.R (Kd.int .i64) 3 w' w.heap.size (fun k_ => oV k_ bV ∧ oS k_ cj bR.length cg ∧ oV k_ cu ∧ oS k_ bA a7.length bm ∧ some k_ ≠ (s_.1 : Value).ownBlock) s_.2.1 iN) ∧ (w'.heap[fE]? = some (.cells #[.string bY, .slice am af.length al] 25 (0, 0))) ∧ (w'.heap[dO]? = some (.cells #[.slice none 0 0, .slice none 0 0] 29 (0, 0))) ∧ (w'.heap[s_.2.2]? = some (.cells #[.slice none 0 0, .slice none 0 0] 29 (0, 0))) ∧ (w.heap.size ≤ s_.2.2) ∧ (w.heap.size ≤ s_.2.2) ∧ (fE ≠ s_.2.2) ∧ (s_.2.2 ≠ fE) ∧ (dO ≠ s_.2.2) ∧ (s_.2.2 ≠ dO) ∧ (Below w.heap.size w w')) ?_ ?_; rotate_left
  ·
   intro Ly; refine mU (σ := Value × Value) 2 (bv 8 63) (fun s_ => [(34, s_.1), (36, s_.2), (37, .agg #[s_.1, s_.2])]) (fun s_ w' => (Kd.R (Kd.int .i64) 3 w' w.heap.size (fun k_ => oS k_ cj bR.length cg ∧ oV k_ cu ∧ oS k_ bA a7.length bm ∧ some k_ ≠ (s_.1 : Value).ownBlock ∧ some k_ ≠ (s_.2 : Value).ownBlock) bV mC) ∧ (Kd.R (Kd.int .i64) 3 w' w.heap.size (fun k_ => oV k_ bV ∧ oV k_ cu ∧ oS k_ bA a7.length bm ∧ some k_ ≠ (s_.1 : Value).ownBlock ∧ some k_ ≠ (s_.2 : Value).ownBlock) (.slice cj bR.length cg) bR) ∧ (Kd.R (Kd.int .i64) 3 w' w.heap.size (fun k_ => oV k_ bV ∧ oS k_ cj bR.length cg ∧ oS k_ bA a7.length bm ∧ some k_ ≠ (s_.1 : Value).ownBlock ∧ some k_ ≠ (s_.2 : Value).ownBlock) cu nh) ∧ (Kd.R (Kd.int .i64) 3 w' w.heap.size (fun k_ => oV k_ bV ∧ oS k_ cj bR.length cg ∧ oV k_ cu ∧ some k_ ≠ (s_.1 : Value).ownBlock ∧ some k_ ≠ (s_.2 : Value).ownBlock) (.slice bA a7.length bm) a7) ∧ (Kd.R (Kd.int .i64) 3 w' w.heap.size (fun k_ => oV k_ bV ∧ oS k_ cj bR.length cg ∧ oV k_ cu ∧ oS k_ bA a7.length bm ∧ some k_ ≠ (s_.2 : Value).ownBlock) s_.1 y779) ∧ (Kd.R (Kd.int .i64) 3 w' w.heap.size (fun k_ => oV k_ bV ∧ oS k_ cj bR.length cg ∧ oV k_ cu ∧ oS k_ bA a7.length bm ∧ some k_ ≠ (s_.1 : Value).ownBlock) s_.2 iN) ∧ (w'.heap[fE]? = some (.cells #[.string bY, .slice am af.length al] 25 (0, 0))) ∧ (w'.heap[dO]? = some (.cells #[.slice none 0 0, .slice none 0 0] 29 (0, 0))) ∧ (Below w.heap.size w w')) ?_ ?_; rotate_left
   ·
    intro U6; refine mU (σ := Value × Nat) 3 (bv 8 79) (fun s_ => [(34, s_.1), (10, .pointer (some ⟨s_.2, 0, none⟩))]) (fun s_ w' => (Kd.R (Kd.int .i64) 3 w' w.heap.size (fun k_ => oS k_ cj bR.length cg ∧ oV k_ cu ∧ oS k_ bA a7.length bm ∧ some k_ ≠ (s_.1 : Value).ownBlock) bV mC) ∧ (Kd.R (Kd.int .i64) 3 w' w.heap.size (fun k_ => oV k_ bV ∧ oV k_ cu ∧ oS k_ bA a7.length bm ∧ some k_ ≠ (s_.1 : Value).ownBlock) (.slice cj bR.length cg) bR) ∧ (Kd.R (Kd.int .i64) 3 w' w.heap.size (fun k_ => oV k_ bV ∧ oS k_ cj bR.length cg ∧ oS k_ bA a7.length bm ∧ some k_ ≠ (s_.1 : Value).ownBlock) cu nh) ∧ (Kd.R (Kd.int .i64) 3 w' w.heap.size (fun k_ => oV k_ bV ∧ oS k_ cj bR.length cg ∧ oV k_ cu ∧ some k_ ≠ (s_.1 : Value).ownBlock) (.slice bA a7.length bm) a7) ∧ (Kd.R (Kd.int .i64) 3 w' w.heap.size (fun k_ => oV k_ bV ∧ oS k_ cj bR.length cg ∧ oV k_ cu ∧ oS k_ bA a7.length bm) s_.1 y779) ∧ (w'.heap[fE]? = some (.cells #[.string bY, .slice am af.length al] 25 (0, 0))) ∧ (w'.heap[dO]? = some (.cells #[.slice none 0 0, .slice none 0 0] 29 (0, 0))) ∧ (w'.heap[s_.2]? = some (.cells #[.slice none 0 0, .slice none 0 0] 29 (0, 0))) ∧ (w.heap.size ≤ s_.2) ∧ (w.heap.size ≤ s_.2) ∧ (fE ≠ s_.2) ∧ (s_.2 ≠ fE) ∧ (dO ≠ s_.2) ∧ (s_.2 ≠ dO) ∧ (Below w.heap.size w w')) ?_ ?_; rotate_left
    ·
     intro U7; refine mU (σ := Value × Nat) 3 (bv 8 91) (fun s_ => [(36, s_.1), (10, .pointer (some ⟨s_.2, 0, none⟩))]) (fun s_ w' => (Kd.R (Kd.int .i64) 3 w' w.heap.size (fun k_ => oS k_ cj bR.length cg ∧ oV k_ cu ∧ oS k_ bA a7.length bm ∧ some k_ ≠ (s_.1 : Value).ownBlock) bV mC) ∧ (Kd.R (Kd.int .i64) 3 w' w.heap.size (fun k_ => oV k_ bV ∧ oV k_ cu ∧ oS k_ bA a7.length bm ∧ some k_ ≠ (s_.1 : Value).ownBlock) (.slice cj bR.length cg) bR) ∧ (Kd.R (Kd.int .i64) 3 w' w.heap.size (fun k_ => oV k_ bV ∧ oS k_ cj bR.length cg ∧ oS k_ bA a7.length bm ∧ some k_ ≠ (s_.1 : Value).ownBlock) cu nh) ∧ (Kd.R (Kd.int .i64) 3 w' w.heap.size (fun k_ => oV k_ bV ∧ oS k_ cj bR.length cg ∧ oV k_ cu ∧ some k_ ≠ (s_.1 : Value).ownBlock) (.slice bA a7.length bm) a7) ∧ (Kd.R (Kd.int .i64) 3 w' w.heap.size (fun k_ => oV k_ bV ∧ oS k_ cj bR.length cg ∧ oV k_ cu ∧ oS k_ bA a7.length bm) s_.1 iN) ∧ (w'.heap[fE]? = some (.cells #[.string bY, .slice am af.length al] 25 (0, 0))) ∧ (w'.heap[dO]? = some (.cells #[.slice none 0 0, .slice none 0 0] 29 (0, 0))) ∧ (w'.heap[s_.2]? = some (.cells #[.slice none 0 0, .slice none 0 0] 29 (0, 0))) ∧ (w.heap.size ≤ s_.2) ∧ (w.heap.size ≤ s_.2) ∧ (fE ≠ s_.2) ∧ (s_.2 ≠ fE) ∧ (dO ≠ s_.2) ∧ (s_.2 ≠ dO) ∧ (Below w.heap.size w w')) ?_ ?_; rotate_left
     ·
      intro U8; refine mU (σ := Value) 4 (bv 8 15) (fun s_ => [(34, s_)]) (fun s_ w' => (Kd.R (Kd.int .i64) 3 w' w.heap.size (fun k_ => oS k_ cj bR.length cg ∧ oV k_ cu ∧ oS k_ bA a7.length bm ∧ oV k_ s_) bV mC) ∧ (Kd.R (Kd.int .i64) 3 w' w.heap.size (fun k_ => oV k_ bV ∧ oV k_ cu ∧ oS k_ bA a7.length bm ∧ oV k_ s_) (.slice cj bR.length cg) bR) ∧ (Kd.R (Kd.int .i64) 3 w' w.heap.size (fun k_ => oV k_ bV ∧ oS k_ cj bR.length cg ∧ oS k_ bA a7.length bm ∧ oV k_ s_) cu nh) ∧ (Kd.R (Kd.int .i64) 3 w' w.heap.size (fun k_ => oV k_ bV ∧ oS k_ cj bR.length cg ∧ oV k_ cu ∧ oV k_ s_) (.slice bA a7.length bm) a7) ∧ (Kd.R (Kd.int .i64) 3 w' w.heap.size (fun k_ => oV k_ bV ∧ oS k_ cj bR.length cg ∧ oV k_ cu ∧ oS k_ bA a7.length bm) s_ y779) ∧ (w'.heap[fE]? = some (.cells #[.string bY, .slice am af.length al] 25 (0, 0))) ∧ (w'.heap[dO]? = some (.cells #[.slice none 0 0, .slice none 0 0] 29 (0, 0))) ∧ (Below w.heap.size w w')) ?_ ?_; rotate_left
      ·
       intro hJ2; refine mU (σ := Value) 4 (bv 8 27) (fun s_ => [(36, s_)]) (fun s_ w' => (Kd.R (Kd.int .i64) 3 w' w.heap.size (fun k_ => oS k_ cj bR.length cg ∧ oV k_ cu ∧ oS k_ bA a7.length bm ∧ oV k_ s_) bV mC) ∧ (Kd.R (Kd.int .i64) 3 w' w.heap.size (fun k_ => oV k_ bV ∧ oV k_ cu ∧ oS k_ bA a7.length bm ∧ oV k_ s_) (.slice cj bR.length cg) bR) ∧ (Kd.R (Kd.int .i64) 3 w' w.heap.size (fun k_ => oV k_ bV ∧ oS k_ cj bR.length cg ∧ oS k_ bA a7.length bm ∧ oV k_ s_) cu nh) ∧ (Kd.R (Kd.int .i64) 3 w' w.heap.size (fun k_ => oV k_ bV ∧ oS k_ cj bR.length cg ∧ oV k_ cu ∧ oV k_ s_) (.slice bA a7.length bm) a7) ∧ (Kd.R (Kd.int .i64) 3 w' w.heap.size (fun k_ => oV k_ bV ∧ oS k_ cj bR.length cg ∧ oV k_ cu ∧ oS k_ bA a7.length bm) s_ iN) ∧ (w'.heap[fE]? = some (.cells #[.string bY, .slice am af.length al] 25 (0, 0))) ∧ (w'.heap[dO]? = some (.cells #[.slice none 0 0, .slice none 0 0] 29 (0, 0))) ∧ (Below w.heap.size w w')) ?_ ?_; rotate_left
       ·
        intro hJ4; refine mU (σ := Nat) 4 (bv 8 75) (fun s_ => [(10, .pointer (some ⟨s_, 0, none⟩))]) (fun s_ w' => (Kd.R (Kd.int .i64) 3 w' w.heap.size (fun k_ => oS k_ cj bR.length cg ∧ oV k_ cu ∧ oS k_ bA a7.length bm) bV mC) ∧ (Kd.R (Kd.int .i64) 3 w' w.heap.size (fun k_ => oV k_ bV ∧ oV k_ cu ∧ oS k_ bA a7.length bm) (.slice cj bR.length cg) bR) ∧ (Kd.R (Kd.int .i64) 3 w' w.heap.size (fun k_ => oV k_ bV ∧ oS k_ cj bR.length cg ∧ oS k_ bA a7.length bm) cu nh) ∧ (Kd.R (Kd.int .i64) 3 w' w.heap.size (fun k_ => oV k_ bV ∧ oS k_ cj bR.length cg ∧ oV k_ cu) (.slice bA a7.length bm) a7) ∧ (w'.heap[fE]? = some (.cells #[.string bY, .slice am af.length al] 25 (0, 0))) ∧ (w'.heap[dO]? = some (.cells #[.slice none 0 0, .slice none 0 0] 29 (0, 0))) ∧ (w'.heap[s_]? = some (.cells #[.slice none 0 0, .slice none 0 0] 29 (0, 0))) ∧ (w.heap.size ≤ s_) ∧ (w.heap.size ≤ s_) ∧ (fE ≠ s_) ∧ (s_ ≠ fE) ∧ (dO ≠ s_) ∧ (s_ ≠ dO) ∧ (Below w.heap.size w w')) ?_ ?_; rotate_left
        ·
         intro hJ6; refine Rs (i := 2) (j := 4) (k := 6) (Ni := some 34) (Nj := some 36) (Nk := some 10) (bv 8 15) (bv 8 27) (bv 8 75) rfl rfl rfl rfl rfl rfl (Zu HT_.out (by kernel_rfl)) (by decide) (by decide) (by decide) (fun K hK => ?_) (fun K hK => ?_) (fun K hK => ?_)
         ·
          skip
          refine Kd.pH (Kd.int .i64) _ 3 (by rfl) (N := 34) rfl 23 _ _ rfl kC rfl rfl Try.underlying23 (.int .i64 0) 8 dP rfl (by decide) (by omega) 0 (ok := fun _ => True) (okp := fun _ => True) rfl (fun _ hk => hk) trivial (oA) (Nat.le_trans (Nat.mul_le_mul_right _ (oA : kC.toNat ≤ 35184372088832)) (by omega)) (Below.refl _ _) (Nat.le_refl _) ?_; intro fR pM sX hb hg_ hnew_; clear hg_ hnew_; (first | rw [← ry.out] at sX | (simp only [Int.reduceToNat] at sX; rw [← ry.out] at sX)); have gG := Az (Kd.bu (Kd.aQ (Kd.aQ (Kd.aQ (Kd.aQ sX (Kd.ar (rU dy.out))) (Kd.ar (rU dn.out))) (Kd.ar (rU dD.out))) (Kd.ar (rU Zq7.out))) (be fQ)); replace dy := Az (Kd.a8 (rU dy.out) (Kd.ax sX) hb); replace dn := Az (Kd.a8 (rU dn.out) (Kd.ax sX) hb); replace dD := Az (Kd.a8 (rU dD.out) (Kd.ax sX) hb); replace Zq7 := Az (Kd.a8 (rU Zq7.out) (Kd.ax sX) hb); replace bp := kB bp.out hb; replace bl := kB bl.out hb; replace HB := Az (au fQ hb); clear hb sX; refine hK.out _ _ trivial (fun hHeld => ?_); clear hK K; refine bw (a' := ?_) ?_ ?_; rotate_left
          ·
           show Act.put _ (some 34) _ = _
           simp only [Act.put, List.setIfInBounds_toArray, List.set_cons_zero, List.set_cons_succ, cr, cK]; rfl
          exact bw pD (hJ2 (fR) _ ⟨RY, Qb, RO, Q9, Ra, (kU bp.out), (kU bl.out), fQ⟩)
         ·
          skip
          refine gv Try.func72 (by kernel_rfl) rfl #[.int .i64 (a7.length : Int)] (by rfl) rfl rfl lQ ?_
          with_reducible refine (eK.calls k (a7.length : Int) iN _ A9.out).mono ?_
          rintro e pM ⟨fS, rfl, ho0, hb⟩; refine ⟨_, rfl, ?_⟩; have gH := Az (Kd.bu Dk (be fQ)); replace dy := Az zz; replace dn := Az z6; replace dD := Az zD; replace Zq7 := Az (Kd.a8 (rU Zq7.out) (Kd.ax ho0) hb); replace bp := kB bp.out hb; replace bl := kB bl.out hb; replace HB := Az (au fQ hb); clear hb ho0; refine hK.out _ _ trivial (fun hHeld => ?_); clear hK K; refine bw (a' := ?_) ?_ ?_; rotate_left
          ·
           show Act.put _ (some 36) _ = _
           simp only [Act.put, List.setIfInBounds_toArray, List.set_cons_zero, List.set_cons_succ, cr, cK]; rfl
          exact bw pD (hJ4 (fS) _ ⟨RY, Qb, RO, Q9, RD, (kU bp.out), (kU bl.out), fQ⟩)
         ·
          skip
          refine ud ?hg (N := 10) ?hd (cs := #[.slice none 0 0, .slice none 0 0]) (t := 29) ?hr ?_; (case hd => rfl); (case hg => rfl); (case hr => first | (go_simp; done) | (go_simp; rfl)); intro cO hg pM hbox hb; replace dy := rB dy.out hb; replace dn := rB dn.out hb; replace dD := rB dD.out hb; replace Zq7 := rB Zq7.out hb; have cv := Az (hbox); have ni := gW hg fQ; have gr := Az ((by rw [hg]; exact (be fQ) : w.heap.size ≤ cO)); replace HB := Az (au fQ hb); have iO := nL hg (kU bp.out); have k6 := nS iO; replace bp := kB bp.out hb; have ie := nL hg (kU bl.out); have iP := nS ie; replace bl := kB bl.out hb; clear hb hbox hg; refine hK.out _ _ trivial (fun hHeld => ?_); clear hK K; refine bw (a' := ?_) ?_ ?_; rotate_left
          ·
           show Act.put _ (some 10) _ = _
           simp only [Act.put, List.setIfInBounds_toArray, List.set_cons_zero, List.set_cons_succ, cr, cK]; rfl
          exact bw pD (hJ6 (cO) _ ⟨(rA (Kd.ah dy.out (fun _ hk => ⟨hk.1.1, ⟨hk.1.2, hk.2⟩⟩))), (rA (Kd.ah dn.out (fun _ hk => ⟨hk.1.1, ⟨hk.1.2, hk.2⟩⟩))), (rA (Kd.ah dD.out (fun _ hk => ⟨hk.1.1, ⟨hk.1.2, hk.2⟩⟩))), (rA (Kd.ah Zq7.out (fun _ hk => ⟨hk.1.1.2, ⟨hk.1.2, hk.2⟩⟩))), (kU bp.out), (kU bl.out), (kU cv.out), ni.out, gr.out, iO.out, k6.out, ie.out, iP.out, iv⟩)
        ·
         skip
         rintro cO kX ⟨eh, dV, dW, dX, dY, dZ, d6, em, gI, jG, jH, jI, jJ, jK⟩; have n0 : ae (Kd.R (Kd.int .i64) 3 kX w.heap.size (fun k_ => oS k_ cj bR.length cg ∧ oV k_ cu ∧ oS k_ bA a7.length bm) bV mC) := ⟨eh⟩; have n1 : ae (Kd.R (Kd.int .i64) 3 kX w.heap.size (fun k_ => oV k_ bV ∧ oV k_ cu ∧ oS k_ bA a7.length bm) (.slice cj bR.length cg) bR) := ⟨dV⟩; have n2 : ae (Kd.R (Kd.int .i64) 3 kX w.heap.size (fun k_ => oV k_ bV ∧ oS k_ cj bR.length cg ∧ oS k_ bA a7.length bm) cu nh) := ⟨dW⟩; have n3 : ae (Kd.R (Kd.int .i64) 3 kX w.heap.size (fun k_ => oV k_ bV ∧ oS k_ cj bR.length cg ∧ oV k_ cu) (.slice bA a7.length bm) a7) := ⟨dX⟩; have n4 : ae (kX.heap[fE]? = some (.cells #[.string bY, .slice am af.length al] 25 (0, 0))) := ⟨dY⟩; have n5 : ae (kX.heap[dO]? = some (.cells #[.slice none 0 0, .slice none 0 0] 29 (0, 0))) := ⟨dZ⟩; have n6 : ae (kX.heap[cO]? = some (.cells #[.slice none 0 0, .slice none 0 0] 29 (0, 0))) := ⟨d6⟩; have n7 : ae (w.heap.size ≤ cO) := ⟨em⟩; have n8 : ae (w.heap.size ≤ cO) := ⟨gI⟩; have n9 : ae (fE ≠ cO) := ⟨jG⟩; have n10 : ae (cO ≠ fE) := ⟨jH⟩; have n11 : ae (dO ≠ cO) := ⟨jI⟩; have n12 : ae (cO ≠ dO) := ⟨jJ⟩; have n13 : ae (Below w.heap.size w kX) := ⟨jK⟩; clear dy dn dD Zq7 bp bl HB eh dV dW dX dY dZ d6 em gI jG jH jI jJ jK; have dy := n0; have dn := n1; have dD := n2; have Zq7 := n3; have bp := n4; have bl := n5; have cv := n6; have ni := n7; have gr := n8; have iO := n9; have k6 := n10; have ie := n11; have iP := n12; have HB := n13; clear n0 n1 n2 n3 n4 n5 n6 n7 n8 n9 n10 n11 n12 n13; have hHeld := trivial; refine bw (a' := ?_) ?_ ?_; rotate_left
         · simp only [jb, Act.put, List.setIfInBounds_toArray, List.set_cons_zero, List.set_cons_succ]; rfl
         refine vE (i := 2) (j := 4) (Ni := some 34) (Nj := some 36) (bv 8 79) (bv 8 91) rfl rfl rfl rfl (Dm HT_.out (by kernel_rfl)) (by decide) (by decide) (fun K hK => ?_) (fun K hK => ?_)
         ·
          skip
          refine Kd.pH (Kd.int .i64) _ 3 (by rfl) (N := 34) rfl 23 _ _ rfl kC rfl rfl Try.underlying23 (.int .i64 0) 8 dP rfl (by decide) (by omega) 0 (ok := fun _ => True) (okp := fun _ => True) rfl (fun _ hk => hk) trivial (oA) (Nat.le_trans (Nat.mul_le_mul_right _ (oA : kC.toNat ≤ 35184372088832)) (by omega)) (Below.refl _ _) (Nat.le_refl _) ?_; intro fR fA k5 hb hg_ hnew_; clear hg_ hnew_; (first | rw [← ry.out] at k5 | (simp only [Int.reduceToNat] at k5; rw [← ry.out] at k5)); have gG := Az (Kd.bu OT (be iv)); replace dy := Az (Kd.a8 (rU dy.out) (Kd.ax k5) hb); replace dn := Az (Kd.a8 (rU dn.out) (Kd.ax k5) hb); replace dD := Az (Kd.a8 (rU dD.out) (Kd.ax k5) hb); replace Zq7 := Az (Kd.a8 (rU Zq7.out) (Kd.ax k5) hb); replace bp := kB bp.out hb; replace bl := kB bl.out hb; replace cv := kB cv.out hb; replace HB := Az (au iv hb); clear hb k5; refine hK.out _ _ trivial (fun hHeld => ?_); clear hK K; refine bw (a' := ?_) ?_ ?_; rotate_left
          ·
           show Act.put _ (some 34) _ = _
           simp only [Act.put, List.setIfInBounds_toArray, List.set_cons_zero, List.set_cons_succ, cr, cK]; rfl
          exact bw pD (U7 (fR, cO) _ ⟨Qe, Rm, O4, QF, Ra, (kU bp.out), (kU bl.out), (kU cv.out), ni.out, gr.out, iO.out, k6.out, ie.out, iP.out, iv⟩)
         ·
          skip
          refine gv Try.func72 (by kernel_rfl) rfl #[.int .i64 (a7.length : Int)] (by rfl) rfl rfl lQ ?_
          with_reducible refine (eK.calls k (a7.length : Int) iN _ A9.out).mono ?_
          rintro e fA ⟨fS, rfl, ho0, hb⟩; refine ⟨_, rfl, ?_⟩; have gH := Az (Kd.bu Dk (be iv)); replace dy := Az zz; replace dn := Az z6; replace dD := Az zD; replace Zq7 := Az (Kd.a8 (rU Zq7.out) (Kd.ax ho0) hb); replace bp := kB bp.out hb; replace bl := kB bl.out hb; replace cv := kB cv.out hb; replace HB := Az (au iv hb); clear hb ho0; refine hK.out _ _ trivial (fun hHeld => ?_); clear hK K; refine bw (a' := ?_) ?_ ?_; rotate_left
          ·
           show Act.put _ (some 36) _ = _
           simp only [Act.put, List.setIfInBounds_toArray, List.set_cons_zero, List.set_cons_succ, cr, cK]; rfl
          exact bw pD (U8 (fS, cO) _ ⟨Qe, Rm, O4, QF, RD, (kU bp.out), (kU bl.out), (kU cv.out), ni.out, gr.out, iO.out, k6.out, ie.out, iP.out, iv⟩)
       ·
        skip
        rintro fS kX ⟨eh, dV, dW, dX, dY, dZ, d6, em⟩; have n0 : ae (Kd.R (Kd.int .i64) 3 kX w.heap.size (fun k_ => oS k_ cj bR.length cg ∧ oV k_ cu ∧ oS k_ bA a7.length bm ∧ oV k_ fS) bV mC) := ⟨eh⟩; have n1 : ae (Kd.R (Kd.int .i64) 3 kX w.heap.size (fun k_ => oV k_ bV ∧ oV k_ cu ∧ oS k_ bA a7.length bm ∧ oV k_ fS) (.slice cj bR.length cg) bR) := ⟨dV⟩; have n2 : ae (Kd.R (Kd.int .i64) 3 kX w.heap.size (fun k_ => oV k_ bV ∧ oS k_ cj bR.length cg ∧ oS k_ bA a7.length bm ∧ oV k_ fS) cu nh) := ⟨dW⟩; have n3 : ae (Kd.R (Kd.int .i64) 3 kX w.heap.size (fun k_ => oV k_ bV ∧ oS k_ cj bR.length cg ∧ oV k_ cu ∧ oV k_ fS) (.slice bA a7.length bm) a7) := ⟨dX⟩; have n4 : ae (Kd.R (Kd.int .i64) 3 kX w.heap.size (fun k_ => oV k_ bV ∧ oS k_ cj bR.length cg ∧ oV k_ cu ∧ oS k_ bA a7.length bm) fS iN) := ⟨dY⟩; have n5 : ae (kX.heap[fE]? = some (.cells #[.string bY, .slice am af.length al] 25 (0, 0))) := ⟨dZ⟩; have n6 : ae (kX.heap[dO]? = some (.cells #[.slice none 0 0, .slice none 0 0] 29 (0, 0))) := ⟨d6⟩; have n7 : ae (Below w.heap.size w kX) := ⟨em⟩; clear dy dn dD Zq7 bp bl HB eh dV dW dX dY dZ d6 em; have dy := n0; have dn := n1; have dD := n2; have Zq7 := n3; have gH := n4; have bp := n5; have bl := n6; have HB := n7; clear n0 n1 n2 n3 n4 n5 n6 n7; have hHeld := trivial; refine bw (a' := ?_) ?_ ?_; rotate_left
        · simp only [jb, Act.put, List.setIfInBounds_toArray, List.set_cons_zero, List.set_cons_succ]; rfl
        refine vE (i := 2) (j := 6) (Ni := some 34) (Nj := some 10) (bv 8 31) (bv 8 91) rfl rfl rfl rfl (Dm HT_.out (by kernel_rfl)) (by decide) (by decide) (fun K hK => ?_) (fun K hK => ?_)
        ·
         skip
         refine Kd.pH (Kd.int .i64) _ 3 (by rfl) (N := 34) rfl 23 _ _ rfl kC rfl rfl Try.underlying23 (.int .i64 0) 8 dP rfl (by decide) (by omega) 0 (ok := fun _ => True) (okp := fun _ => True) rfl (fun _ hk => hk) trivial (oA) (Nat.le_trans (Nat.mul_le_mul_right _ (oA : kC.toNat ≤ 35184372088832)) (by omega)) (Below.refl _ _) (Nat.le_refl _) ?_; intro fR fA k5 hb hg_ hnew_; clear hg_ hnew_; (first | rw [← ry.out] at k5 | (simp only [Int.reduceToNat] at k5; rw [← ry.out] at k5)); have gG := Az (Kd.bu (Kd.aQ OT (Kd.ar (rU gH.out))) (be fQ)); replace dy := Az (Kd.a8 (rU dy.out) (Kd.ax k5) hb); replace dn := Az (Kd.a8 (rU dn.out) (Kd.ax k5) hb); replace dD := Az (Kd.a8 (rU dD.out) (Kd.ax k5) hb); replace Zq7 := Az (Kd.a8 (rU Zq7.out) (Kd.ax k5) hb); replace gH := Az (Kd.a8 (rU gH.out) (Kd.ax k5) hb); replace bp := kB bp.out hb; replace bl := kB bl.out hb; replace HB := Az (au fQ hb); clear hb k5; obtain ⟨DF, we, wh⟩ := Kd.aU gH.out; (first | subst wh | (injection wh with aG bC aH; have bD := aG.symm; have bF := aH.symm; clear aG bC aH; subst bD; subst bF)); obtain ⟨ol, lZ, kT⟩ := Kd.aU gG.out; (first | subst kT | (injection kT with aG bC aH; have bD := aG.symm; have bF := aH.symm; clear aG bC aH; subst bD; subst bF)); refine hK.out _ _ trivial (fun hHeld => ?_); clear hK K; refine bw (a' := ?_) ?_ ?_; rotate_left
         ·
          show Act.put _ (some 34) _ = _
          simp only [Act.put, List.setIfInBounds_toArray, List.set_cons_zero, List.set_cons_succ, cr, cK]; rfl
         refine ak (i := 5) (N := some 37) (v := ?_) (a' := ?_) (bv 8 63) rfl rfl (aj HT_.out (by kernel_rfl)) (fun _ _ _ h => h) (Or.inl ⟨by rfl, ?_⟩) ?_ ?_; rotate_left; (exact yP); rotate_left; (exact aP); exact bw pD (U6 (.slice ol y779.length lZ, .slice DF iN.length we) _ ⟨PX, QD, Q5, Si, SB, Ru, (kU bp.out), (kU bl.out), fQ⟩)
        ·
         skip
         refine ud ?hg (N := 10) ?hd (cs := #[.slice none 0 0, .slice none 0 0]) (t := 29) ?hr ?_; (case hd => rfl); (case hg => rfl); (case hr => first | (go_simp; done) | (go_simp; rfl)); intro cO hg fA hbox hb; replace dy := rB dy.out hb; replace dn := rB dn.out hb; replace dD := rB dD.out hb; replace Zq7 := rB Zq7.out hb; replace gH := rB gH.out hb; have cv := Az (hbox); have ni := gW hg fQ; have gr := Az ((by rw [hg]; exact (be fQ) : w.heap.size ≤ cO)); replace HB := Az (au fQ hb); have iO := nL hg (kU bp.out); have k6 := nS iO; replace bp := kB bp.out hb; have ie := nL hg (kU bl.out); have iP := nS ie; replace bl := kB bl.out hb; clear hb hbox hg; refine hK.out _ _ trivial (fun hHeld => ?_); clear hK K; refine bw (a' := ?_) ?_ ?_; rotate_left
         ·
          show Act.put _ (some 10) _ = _
          simp only [Act.put, List.setIfInBounds_toArray, List.set_cons_zero, List.set_cons_succ, cr, cK]; rfl
         exact bw pD (U8 (fS, cO) _ ⟨(rU dy.out), (rU dn.out), (rU dD.out), (rU Zq7.out), (rU gH.out), (kU bp.out), (kU bl.out), (kU cv.out), ni.out, gr.out, iO.out, k6.out, ie.out, iP.out, iv⟩)
      ·
       skip
       rintro fR fA ⟨eh, dV, dW, dX, dY, dZ, d6, em⟩; have n0 : ae (Kd.R (Kd.int .i64) 3 fA w.heap.size (fun k_ => oS k_ cj bR.length cg ∧ oV k_ cu ∧ oS k_ bA a7.length bm ∧ oV k_ fR) bV mC) := ⟨eh⟩; have n1 : ae (Kd.R (Kd.int .i64) 3 fA w.heap.size (fun k_ => oV k_ bV ∧ oV k_ cu ∧ oS k_ bA a7.length bm ∧ oV k_ fR) (.slice cj bR.length cg) bR) := ⟨dV⟩; have n2 : ae (Kd.R (Kd.int .i64) 3 fA w.heap.size (fun k_ => oV k_ bV ∧ oS k_ cj bR.length cg ∧ oS k_ bA a7.length bm ∧ oV k_ fR) cu nh) := ⟨dW⟩; have n3 : ae (Kd.R (Kd.int .i64) 3 fA w.heap.size (fun k_ => oV k_ bV ∧ oS k_ cj bR.length cg ∧ oV k_ cu ∧ oV k_ fR) (.slice bA a7.length bm) a7) := ⟨dX⟩; have n4 : ae (Kd.R (Kd.int .i64) 3 fA w.heap.size (fun k_ => oV k_ bV ∧ oS k_ cj bR.length cg ∧ oV k_ cu ∧ oS k_ bA a7.length bm) fR y779) := ⟨dY⟩; have n5 : ae (fA.heap[fE]? = some (.cells #[.string bY, .slice am af.length al] 25 (0, 0))) := ⟨dZ⟩; have n6 : ae (fA.heap[dO]? = some (.cells #[.slice none 0 0, .slice none 0 0] 29 (0, 0))) := ⟨d6⟩; have n7 : ae (Below w.heap.size w fA) := ⟨em⟩; clear dy dn dD Zq7 bp bl HB eh dV dW dX dY dZ d6 em; have dy := n0; have dn := n1; have dD := n2; have Zq7 := n3; have gG := n4; have bp := n5; have bl := n6; have HB := n7; clear n0 n1 n2 n3 n4 n5 n6 n7; have hHeld := trivial; refine bw (a' := ?_) ?_ ?_; rotate_left
       · simp only [jb, Act.put, List.setIfInBounds_toArray, List.set_cons_zero, List.set_cons_succ]; rfl
       refine vE (i := 4) (j := 6) (Ni := some 36) (Nj := some 10) (bv 8 31) (bv 8 79) rfl rfl rfl rfl (Dm HT_.out (by kernel_rfl)) (by decide) (by decide) (fun K hK => ?_) (fun K hK => ?_)
       ·
        skip
        refine gv Try.func72 (by kernel_rfl) rfl #[.int .i64 (a7.length : Int)] (by rfl) rfl rfl lQ ?_
        with_reducible refine (eK.calls k (a7.length : Int) iN _ A9.out).mono ?_
        rintro e og ⟨fS, rfl, ho0, hb⟩; refine ⟨_, rfl, ?_⟩; have gH := Az (Kd.bu (Kd.aQ Dk (Kd.ar (rU gG.out))) (be fQ)); replace dy := Az zz; replace dn := Az z6; replace dD := Az zD; replace Zq7 := Az (Kd.a8 (rU Zq7.out) (Kd.ax ho0) hb); replace gG := Az (Kd.a8 (rU gG.out) (Kd.ax ho0) hb); replace bp := kB bp.out hb; replace bl := kB bl.out hb; replace HB := Az (au fQ hb); clear hb ho0; obtain ⟨DF, we, wh⟩ := Kd.aU gH.out; (first | subst wh | (injection wh with aG bC aH; have bD := aG.symm; have bF := aH.symm; clear aG bC aH; subst bD; subst bF)); obtain ⟨ol, lZ, kT⟩ := Kd.aU gG.out; (first | subst kT | (injection kT with aG bC aH; have bD := aG.symm; have bF := aH.symm; clear aG bC aH; subst bD; subst bF)); refine hK.out _ _ trivial (fun hHeld => ?_); clear hK K; refine bw (a' := ?_) ?_ ?_; rotate_left
        ·
         show Act.put _ (some 36) _ = _
         simp only [Act.put, List.setIfInBounds_toArray, List.set_cons_zero, List.set_cons_succ, cr, cK]; rfl
        refine ak (i := 5) (N := some 37) (v := ?_) (a' := ?_) (bv 8 63) rfl rfl (aj HT_.out (by kernel_rfl)) (fun _ _ _ h => h) (Or.inl ⟨by rfl, ?_⟩) ?_ ?_; rotate_left; (exact yP); rotate_left; (exact aP); exact bw pD (U6 (.slice ol y779.length lZ, .slice DF iN.length we) _ ⟨QP, Rt, Sd, PM, QB, Qc, (kU bp.out), (kU bl.out), fQ⟩)
       ·
        skip
        refine ud ?hg (N := 10) ?hd (cs := #[.slice none 0 0, .slice none 0 0]) (t := 29) ?hr ?_; (case hd => rfl); (case hg => rfl); (case hr => first | (go_simp; done) | (go_simp; rfl)); intro cO hg og hbox hb; replace dy := rB dy.out hb; replace dn := rB dn.out hb; replace dD := rB dD.out hb; replace Zq7 := rB Zq7.out hb; replace gG := rB gG.out hb; have cv := Az (hbox); have ni := gW hg fQ; have gr := Az ((by rw [hg]; exact (be fQ) : w.heap.size ≤ cO)); replace HB := Az (au fQ hb); have iO := nL hg (kU bp.out); have k6 := nS iO; replace bp := kB bp.out hb; have ie := nL hg (kU bl.out); have iP := nS ie; replace bl := kB bl.out hb; clear hb hbox hg; refine hK.out _ _ trivial (fun hHeld => ?_); clear hK K; refine bw (a' := ?_) ?_ ?_; rotate_left
        ·
         show Act.put _ (some 10) _ = _
         simp only [Act.put, List.setIfInBounds_toArray, List.set_cons_zero, List.set_cons_succ, cr, cK]; rfl
        exact bw pD (U7 (fR, cO) _ ⟨(rU dy.out), (rU dn.out), (rU dD.out), (rU Zq7.out), (rU gG.out), (kU bp.out), (kU bl.out), (kU cv.out), ni.out, gr.out, iO.out, k6.out, ie.out, iP.out, iv⟩)
     ·
      skip
      rintro ⟨fS, cO⟩ fA ⟨eh, dV, dW, dX, dY, dZ, d6, em, gI, jG, jH, jI, jJ, jK, l9⟩; have n0 : ae (Kd.R (Kd.int .i64) 3 fA w.heap.size (fun k_ => oS k_ cj bR.length cg ∧ oV k_ cu ∧ oS k_ bA a7.length bm ∧ oV k_ fS) bV mC) := ⟨eh⟩; have n1 : ae (Kd.R (Kd.int .i64) 3 fA w.heap.size (fun k_ => oV k_ bV ∧ oV k_ cu ∧ oS k_ bA a7.length bm ∧ oV k_ fS) (.slice cj bR.length cg) bR) := ⟨dV⟩; have n2 : ae (Kd.R (Kd.int .i64) 3 fA w.heap.size (fun k_ => oV k_ bV ∧ oS k_ cj bR.length cg ∧ oS k_ bA a7.length bm ∧ oV k_ fS) cu nh) := ⟨dW⟩; have n3 : ae (Kd.R (Kd.int .i64) 3 fA w.heap.size (fun k_ => oV k_ bV ∧ oS k_ cj bR.length cg ∧ oV k_ cu ∧ oV k_ fS) (.slice bA a7.length bm) a7) := ⟨dX⟩; have n4 : ae (Kd.R (Kd.int .i64) 3 fA w.heap.size (fun k_ => oV k_ bV ∧ oS k_ cj bR.length cg ∧ oV k_ cu ∧ oS k_ bA a7.length bm) fS iN) := ⟨dY⟩; have n5 : ae (fA.heap[fE]? = some (.cells #[.string bY, .slice am af.length al] 25 (0, 0))) := ⟨dZ⟩; have n6 : ae (fA.heap[dO]? = some (.cells #[.slice none 0 0, .slice none 0 0] 29 (0, 0))) := ⟨d6⟩; have n7 : ae (fA.heap[cO]? = some (.cells #[.slice none 0 0, .slice none 0 0] 29 (0, 0))) := ⟨em⟩; have n8 : ae (w.heap.size ≤ cO) := ⟨gI⟩; have n9 : ae (w.heap.size ≤ cO) := ⟨jG⟩; have n10 : ae (fE ≠ cO) := ⟨jH⟩; have n11 : ae (cO ≠ fE) := ⟨jI⟩; have n12 : ae (dO ≠ cO) := ⟨jJ⟩; have n13 : ae (cO ≠ dO) := ⟨jK⟩; have n14 : ae (Below w.heap.size w fA) := ⟨l9⟩; clear dy dn dD Zq7 bp bl HB eh dV dW dX dY dZ d6 em gI jG jH jI jJ jK l9; have dy := n0; have dn := n1; have dD := n2; have Zq7 := n3; have gH := n4; have bp := n5; have bl := n6; have cv := n7; have ni := n8; have gr := n9; have iO := n10; have k6 := n11; have ie := n12; have iP := n13; have HB := n14; clear n0 n1 n2 n3 n4 n5 n6 n7 n8 n9 n10 n11 n12 n13 n14; have hHeld := trivial; refine bw (a' := ?_) ?_ ?_; rotate_left
      · simp only [jb, Act.put, List.setIfInBounds_toArray, List.set_cons_zero, List.set_cons_succ]; rfl
      refine er (i := 2) (N := some 34) (bv 8 95) rfl rfl (dj HT_.out (by kernel_rfl)) (by decide) (fun K hK => ?_); refine Kd.pH (Kd.int .i64) _ 3 (by rfl) (N := 34) rfl 23 _ _ rfl kC rfl rfl Try.underlying23 (.int .i64 0) 8 dP rfl (by decide) (by omega) 0 (ok := fun _ => True) (okp := fun _ => True) rfl (fun _ hk => hk) trivial (oA) (Nat.le_trans (Nat.mul_le_mul_right _ (oA : kC.toNat ≤ 35184372088832)) (by omega)) (Below.refl _ _) (Nat.le_refl _) ?_; intro fR og rz hb hg_ hnew_; clear hg_ hnew_; (first | rw [← ry.out] at rz | (simp only [Int.reduceToNat] at rz; rw [← ry.out] at rz)); have gG := Az (Kd.bu (Kd.aQ (Kd.aQ (Kd.aQ (Kd.aQ (Kd.aQ rz (Kd.ar (rU dy.out))) (Kd.ar (rU dn.out))) (Kd.ar (rU dD.out))) (Kd.ar (rU Zq7.out))) (Kd.ar (rU gH.out))) (be iv)); replace dy := Az (Kd.a8 (rU dy.out) (Kd.ax rz) hb); replace dn := Az (Kd.a8 (rU dn.out) (Kd.ax rz) hb); replace dD := Az (Kd.a8 (rU dD.out) (Kd.ax rz) hb); replace Zq7 := Az (Kd.a8 (rU Zq7.out) (Kd.ax rz) hb); replace gH := Az (Kd.a8 (rU gH.out) (Kd.ax rz) hb); replace bp := kB bp.out hb; replace bl := kB bl.out hb; replace cv := kB cv.out hb; replace HB := Az (au iv hb); clear hb rz; obtain ⟨ol, lZ, kT⟩ := Kd.aU gH.out; (first | subst kT | (injection kT with aG bC aH; have bD := aG.symm; have bF := aH.symm; clear aG bC aH; subst bD; subst bF)); obtain ⟨sY, sZ, rC⟩ := Kd.aU gG.out; (first | subst rC | (injection rC with aG bC aH; have bD := aG.symm; have bF := aH.symm; clear aG bC aH; subst bD; subst bF)); refine hK.out _ _ trivial (fun hHeld => ?_); clear hK K; refine bw (a' := ?_) ?_ ?_; rotate_left
      ·
       show Act.put _ (some 34) _ = _
       simp only [Act.put, List.setIfInBounds_toArray, List.set_cons_zero, List.set_cons_succ, cr, cK]; rfl
      refine ak (i := 5) (N := some 37) (v := ?_) (a' := ?_) (bv 8 127) rfl rfl (aj HT_.out (by kernel_rfl)) (fun _ _ _ h => h) (Or.inl ⟨by rfl, ?_⟩) ?_ ?_; rotate_left; (exact yP); rotate_left; (exact aP); exact bw pD (Ly (.slice sY y779.length sZ, .slice ol iN.length lZ, cO) _ ⟨PX, QD, Q5, Si, SB, Ru, (kU bp.out), (kU bl.out), (kU cv.out), ni.out, gr.out, iO.out, k6.out, ie.out, iP.out, iv⟩)
    ·
     skip
     rintro ⟨fR, cO⟩ og ⟨eh, dV, dW, dX, dY, dZ, d6, em, gI, jG, jH, jI, jJ, jK, l9⟩; have n0 : ae (Kd.R (Kd.int .i64) 3 og w.heap.size (fun k_ => oS k_ cj bR.length cg ∧ oV k_ cu ∧ oS k_ bA a7.length bm ∧ oV k_ fR) bV mC) := ⟨eh⟩; have n1 : ae (Kd.R (Kd.int .i64) 3 og w.heap.size (fun k_ => oV k_ bV ∧ oV k_ cu ∧ oS k_ bA a7.length bm ∧ oV k_ fR) (.slice cj bR.length cg) bR) := ⟨dV⟩; have n2 : ae (Kd.R (Kd.int .i64) 3 og w.heap.size (fun k_ => oV k_ bV ∧ oS k_ cj bR.length cg ∧ oS k_ bA a7.length bm ∧ oV k_ fR) cu nh) := ⟨dW⟩; have n3 : ae (Kd.R (Kd.int .i64) 3 og w.heap.size (fun k_ => oV k_ bV ∧ oS k_ cj bR.length cg ∧ oV k_ cu ∧ oV k_ fR) (.slice bA a7.length bm) a7) := ⟨dX⟩; have n4 : ae (Kd.R (Kd.int .i64) 3 og w.heap.size (fun k_ => oV k_ bV ∧ oS k_ cj bR.length cg ∧ oV k_ cu ∧ oS k_ bA a7.length bm) fR y779) := ⟨dY⟩; have n5 : ae (og.heap[fE]? = some (.cells #[.string bY, .slice am af.length al] 25 (0, 0))) := ⟨dZ⟩; have n6 : ae (og.heap[dO]? = some (.cells #[.slice none 0 0, .slice none 0 0] 29 (0, 0))) := ⟨d6⟩; have n7 : ae (og.heap[cO]? = some (.cells #[.slice none 0 0, .slice none 0 0] 29 (0, 0))) := ⟨em⟩; have n8 : ae (w.heap.size ≤ cO) := ⟨gI⟩; have n9 : ae (w.heap.size ≤ cO) := ⟨jG⟩; have n10 : ae (fE ≠ cO) := ⟨jH⟩; have n11 : ae (cO ≠ fE) := ⟨jI⟩; have n12 : ae (dO ≠ cO) := ⟨jJ⟩; have n13 : ae (cO ≠ dO) := ⟨jK⟩; have n14 : ae (Below w.heap.size w og) := ⟨l9⟩; clear dy dn dD Zq7 bp bl HB eh dV dW dX dY dZ d6 em gI jG jH jI jJ jK l9; have dy := n0; have dn := n1; have dD := n2; have Zq7 := n3; have gG := n4; have bp := n5; have bl := n6; have cv := n7; have ni := n8; have gr := n9; have iO := n10; have k6 := n11; have ie := n12; have iP := n13; have HB := n14; clear n0 n1 n2 n3 n4 n5 n6 n7 n8 n9 n10 n11 n12 n13 n14; have hHeld := trivial; refine bw (a' := ?_) ?_ ?_; rotate_left
     · simp only [jb, Act.put, List.setIfInBounds_toArray, List.set_cons_zero, List.set_cons_succ]; rfl
     refine er (i := 4) (N := some 36) (bv 8 95) rfl rfl (dj HT_.out (by kernel_rfl)) (by decide) (fun K hK => ?_); refine gv Try.func72 (by kernel_rfl) rfl #[.int .i64 (a7.length : Int)] (by rfl) rfl rfl lQ ?_
     with_reducible refine (eK.calls k (a7.length : Int) iN _ A9.out).mono ?_
     rintro e lY ⟨fS, rfl, ho0, hb⟩; refine ⟨_, rfl, ?_⟩; have gH := Az (Kd.bu (Kd.aQ Dk (Kd.ar (rU gG.out))) (be iv)); replace dy := Az zz; replace dn := Az z6; replace dD := Az zD; replace Zq7 := Az (Kd.a8 (rU Zq7.out) (Kd.ax ho0) hb); replace gG := Az (Kd.a8 (rU gG.out) (Kd.ax ho0) hb); replace bp := kB bp.out hb; replace bl := kB bl.out hb; replace cv := kB cv.out hb; replace HB := Az (au iv hb); clear hb ho0; obtain ⟨ol, lZ, kT⟩ := Kd.aU gH.out; (first | subst kT | (injection kT with aG bC aH; have bD := aG.symm; have bF := aH.symm; clear aG bC aH; subst bD; subst bF)); obtain ⟨sY, sZ, rC⟩ := Kd.aU gG.out; (first | subst rC | (injection rC with aG bC aH; have bD := aG.symm; have bF := aH.symm; clear aG bC aH; subst bD; subst bF)); refine hK.out _ _ trivial (fun hHeld => ?_); clear hK K; refine bw (a' := ?_) ?_ ?_; rotate_left
     ·
      show Act.put _ (some 36) _ = _
      simp only [Act.put, List.setIfInBounds_toArray, List.set_cons_zero, List.set_cons_succ, cr, cK]; rfl
     refine ak (i := 5) (N := some 37) (v := ?_) (a' := ?_) (bv 8 127) rfl rfl (aj HT_.out (by kernel_rfl)) (fun _ _ _ h => h) (Or.inl ⟨by rfl, ?_⟩) ?_ ?_; rotate_left; (exact yP); rotate_left; (exact aP); exact bw pD (Ly (.slice sY y779.length sZ, .slice ol iN.length lZ, cO) _ ⟨QP, Rt, Sd, PM, QB, Qc, (kU bp.out), (kU bl.out), (kU cv.out), ni.out, gr.out, iO.out, k6.out, ie.out, iP.out, iv⟩)
   ·
    skip
    rintro ⟨fR, fS⟩ tb ⟨eh, dV, dW, dX, dY, dZ, d6, em, gI⟩; have n0 : ae (Kd.R (Kd.int .i64) 3 tb w.heap.size (fun k_ => oS k_ cj bR.length cg ∧ oV k_ cu ∧ oS k_ bA a7.length bm ∧ oV k_ fR ∧ oV k_ fS) bV mC) := ⟨eh⟩; have n1 : ae (Kd.R (Kd.int .i64) 3 tb w.heap.size (fun k_ => oV k_ bV ∧ oV k_ cu ∧ oS k_ bA a7.length bm ∧ oV k_ fR ∧ oV k_ fS) (.slice cj bR.length cg) bR) := ⟨dV⟩; have n2 : ae (Kd.R (Kd.int .i64) 3 tb w.heap.size (fun k_ => oV k_ bV ∧ oS k_ cj bR.length cg ∧ oS k_ bA a7.length bm ∧ oV k_ fR ∧ oV k_ fS) cu nh) := ⟨dW⟩; have n3 : ae (Kd.R (Kd.int .i64) 3 tb w.heap.size (fun k_ => oV k_ bV ∧ oS k_ cj bR.length cg ∧ oV k_ cu ∧ oV k_ fR ∧ oV k_ fS) (.slice bA a7.length bm) a7) := ⟨dX⟩; have n4 : ae (Kd.R (Kd.int .i64) 3 tb w.heap.size (fun k_ => oV k_ bV ∧ oS k_ cj bR.length cg ∧ oV k_ cu ∧ oS k_ bA a7.length bm ∧ oV k_ fS) fR y779) := ⟨dY⟩; have n5 : ae (Kd.R (Kd.int .i64) 3 tb w.heap.size (fun k_ => oV k_ bV ∧ oS k_ cj bR.length cg ∧ oV k_ cu ∧ oS k_ bA a7.length bm ∧ oV k_ fR) fS iN) := ⟨dZ⟩; have n6 : ae (tb.heap[fE]? = some (.cells #[.string bY, .slice am af.length al] 25 (0, 0))) := ⟨d6⟩; have n7 : ae (tb.heap[dO]? = some (.cells #[.slice none 0 0, .slice none 0 0] 29 (0, 0))) := ⟨em⟩; have n8 : ae (Below w.heap.size w tb) := ⟨gI⟩; clear dy dn dD Zq7 bp bl HB eh dV dW dX dY dZ d6 em gI; have dy := n0; have dn := n1; have dD := n2; have Zq7 := n3; have gG := n4; have gH := n5; have bp := n6; have bl := n7; have HB := n8; clear n0 n1 n2 n3 n4 n5 n6 n7 n8; have hHeld := trivial; obtain ⟨sY, sZ, rC⟩ := Kd.aU gH.out; (first | subst rC | (injection rC with aG bC aH; have bD := aG.symm; have bF := aH.symm; clear aG bC aH; subst bD; subst bF)); obtain ⟨bQ, bB, sw⟩ := Kd.aU gG.out; (first | subst sw | (injection sw with aG bC aH; have bD := aG.symm; have bF := aH.symm; clear aG bC aH; subst bD; subst bF)); refine bw (a' := ?_) ?_ ?_; rotate_left
    · simp only [jb, Act.put, List.setIfInBounds_toArray, List.set_cons_zero, List.set_cons_succ]; rfl
    refine er (i := 6) (N := some 10) (bv 8 127) rfl rfl (dj HT_.out (by kernel_rfl)) (by decide) (fun K hK => ?_); refine ud ?hg (N := 10) ?hd (cs := #[.slice none 0 0, .slice none 0 0]) (t := 29) ?hr ?_; (case hd => rfl); (case hg => rfl); (case hr => first | (go_simp; done) | (go_simp; rfl)); intro cO hg El hbox hb; replace dy := rB dy.out hb; replace dn := rB dn.out hb; replace dD := rB dD.out hb; replace Zq7 := rB Zq7.out hb; replace gG := rB gG.out hb; replace gH := rB gH.out hb; have cv := Az (hbox); have ni := gW hg fQ; have gr := Az ((by rw [hg]; exact (be fQ) : w.heap.size ≤ cO)); replace HB := Az (au fQ hb); have iO := nL hg (kU bp.out); have k6 := nS iO; replace bp := kB bp.out hb; have ie := nL hg (kU bl.out); have iP := nS ie; replace bl := kB bl.out hb; clear hb hbox hg; refine hK.out _ _ trivial (fun hHeld => ?_); clear hK K; refine bw (a' := ?_) ?_ ?_; rotate_left
    ·
     show Act.put _ (some 10) _ = _
     simp only [Act.put, List.setIfInBounds_toArray, List.set_cons_zero, List.set_cons_succ, cr, cK]; rfl
    exact bw pD (Ly (.slice bQ y779.length bB, .slice sY iN.length sZ, cO) _ ⟨(rU dy.out), (rU dn.out), (rU dD.out), (rU Zq7.out), (rU gG.out), (rU gH.out), (kU bp.out), (kU bl.out), (kU cv.out), ni.out, gr.out, iO.out, k6.out, ie.out, iP.out, iv⟩)
  rintro ⟨fR, fS, cO⟩ lW ⟨eh, dV, dW, dX, dY, dZ, d6, em, gI, jG, jH, jI, jJ, jK, l9, Bt⟩; have n0 : ae (Kd.R (Kd.int .i64) 3 lW w.heap.size (fun k_ => oS k_ cj bR.length cg ∧ oV k_ cu ∧ oS k_ bA a7.length bm ∧ oV k_ fR ∧ oV k_ fS) bV mC) := ⟨eh⟩; have n1 : ae (Kd.R (Kd.int .i64) 3 lW w.heap.size (fun k_ => oV k_ bV ∧ oV k_ cu ∧ oS k_ bA a7.length bm ∧ oV k_ fR ∧ oV k_ fS) (.slice cj bR.length cg) bR) := ⟨dV⟩; have n2 : ae (Kd.R (Kd.int .i64) 3 lW w.heap.size (fun k_ => oV k_ bV ∧ oS k_ cj bR.length cg ∧ oS k_ bA a7.length bm ∧ oV k_ fR ∧ oV k_ fS) cu nh) := ⟨dW⟩; have n3 : ae (Kd.R (Kd.int .i64) 3 lW w.heap.size (fun k_ => oV k_ bV ∧ oS k_ cj bR.length cg ∧ oV k_ cu ∧ oV k_ fR ∧ oV k_ fS) (.slice bA a7.length bm) a7) := ⟨dX⟩; have n4 : ae (Kd.R (Kd.int .i64) 3 lW w.heap.size (fun k_ => oV k_ bV ∧ oS k_ cj bR.length cg ∧ oV k_ cu ∧ oS k_ bA a7.length bm ∧ oV k_ fS) fR y779) := ⟨dY⟩; have n5 : ae (Kd.R (Kd.int .i64) 3 lW w.heap.size (fun k_ => oV k_ bV ∧ oS k_ cj bR.length cg ∧ oV k_ cu ∧ oS k_ bA a7.length bm ∧ oV k_ fR) fS iN) := ⟨dZ⟩; have n6 : ae (lW.heap[fE]? = some (.cells #[.string bY, .slice am af.length al] 25 (0, 0))) := ⟨d6⟩; have n7 : ae (lW.heap[dO]? = some (.cells #[.slice none 0 0, .slice none 0 0] 29 (0, 0))) := ⟨em⟩; have n8 : ae (lW.heap[cO]? = some (.cells #[.slice none 0 0, .slice none 0 0] 29 (0, 0))) := ⟨gI⟩; have n9 : ae (w.heap.size ≤ cO) := ⟨jG⟩; have n10 : ae (w.heap.size ≤ cO) := ⟨jH⟩; have n11 : ae (fE ≠ cO) := ⟨jI⟩; have n12 : ae (cO ≠ fE) := ⟨jJ⟩; have n13 : ae (dO ≠ cO) := ⟨jK⟩; have n14 : ae (cO ≠ dO) := ⟨l9⟩; have n15 : ae (Below w.heap.size w lW) := ⟨Bt⟩; clear dy dn dD Zq7 bp bl HB eh dV dW dX dY dZ d6 em gI jG jH jI jJ jK l9 Bt; have dy := n0; have dn := n1; have dD := n2; have Zq7 := n3; have gG := n4; have gH := n5; have bp := n6; have bl := n7; have cv := n8; have ni := n9; have gr := n10; have iO := n11; have k6 := n12; have ie := n13; have iP := n14; have HB := n15; clear n0 n1 n2 n3 n4 n5 n6 n7 n8 n9 n10 n11 n12 n13 n14 n15; have hHeld := trivial; obtain ⟨bQ, bB, sw⟩ := Kd.aU gH.out; (first | subst sw | (injection sw with aG bC aH; have bD := aG.symm; have bF := aH.symm; clear aG bC aH; subst bD; subst bF)); obtain ⟨j5, j6, EY⟩ := Kd.aU gG.out; (first | subst EY | (injection EY with aG bC aH; have bD := aG.symm; have bF := aH.symm; clear aG bC aH; subst bD; subst bF)); refine bw (a' := ?_) ?_ ?_; rotate_left
  · simp only [jb, Act.put, List.setIfInBounds_toArray, List.set_cons_zero, List.set_cons_succ]; rfl
  refine er (i := 7) (N := none) (bv 8 255) rfl rfl (dj HT_.out (by kernel_rfl)) (by decide) (fun K hK => ?_); have amd : lW.cell? ⟨cO, 0, none⟩ = some (.slice none 0 0) := (aM cv.out 0).trans rfl; have ame := jX cv.out 0; have amf := iO.out; have amg := ie.out; have amh := k6.out; have ami := iP.out; have amj : lW.cell? ⟨cO, 1, none⟩ = some (.slice none 0 0) := (aM cv.out 1).trans rfl; have amk := jX cv.out 1; have aml := iO.out; have amm := ie.out; have amn := k6.out; have amo := iP.out; refine lV (w1 := ?_) (by rfl) rfl ?_ ?_; rotate_left
  · go_simp; rfl
  refine hK.out _ _ trivial (fun hHeld => ?_); clear hK K; refine fY (gp HT_.out (by kernel_rfl)) ?_
  try go_wp2
  go_loopg [11] k (fun kq v11 w' => ∃ (bs : List Int) (bo : List Int) (e8 : Int) (bI : List Int) (cV : List Int) (eu : Value) (cq : Value), v11 = .int .i64 e8 ∧ ae (cm.l0 kq bs bo (a7.length : Int) e8 bI cV = some (r1, r2, r3, r4)) ∧ ae (kq ≤ k) ∧ ae (Kd.R (Kd.int .i64) 3 w' w.heap.size (fun k_ => some k_ ≠ ((.slice bA a7.length bm) : Value).ownBlock ∧ oV k_ eu ∧ oV k_ cq) bV bs) ∧ ae (Kd.R (Kd.int .i64) 3 w' w.heap.size (fun k_ => oV k_ bV ∧ oV k_ eu ∧ oV k_ cq) (.slice bA a7.length bm) bo) ∧ ae (Kd.R (Kd.int .i64) 3 w' w.heap.size (fun k_ => oV k_ bV ∧ some k_ ≠ ((.slice bA a7.length bm) : Value).ownBlock ∧ oV k_ cq) eu bI) ∧ ae (Kd.R (Kd.int .i64) 3 w' w.heap.size (fun k_ => oV k_ bV ∧ some k_ ≠ ((.slice bA a7.length bm) : Value).ownBlock ∧ oV k_ eu) cq cV) ∧ ae (w'.heap[fE]? = some (.cells #[.string bY, (.slice am af.length al)] 25 (0, 0))) ∧ ae (w'.heap[dO]? = some (.cells #[(.slice none 0 0), (.slice none 0 0)] 29 (0, 0))) ∧ ae (w'.heap[cO]? = some (.cells #[eu, cq] 29 (0, 0))) ∧ ae (Below w.heap.size w w'))
  case atStart => exact ⟨(mC), (a7), (0), (y779), (iN), (.slice j5 y779.length j6), (.slice bQ iN.length bB), rS, H', ⟨Nat.le_refl _⟩, ⟨rA (Kd.ah (Kd.aT (p := ⟨cO, 1, none⟩) (Kd.aT (p := ⟨cO, 0, none⟩) (Kd.cP dy.out cv.out (by decide)) (fun _ hk => hk.2) (.slice j5 y779.length j6)) (fun _ hk => hk.2) (.slice bQ iN.length bB)) (fun _ hk => ⟨hk.1.2.2.1, ⟨hk.1.2.2.2.1, hk.1.2.2.2.2⟩⟩))⟩, ⟨rA (Kd.ah (Kd.aT (p := ⟨cO, 1, none⟩) (Kd.aT (p := ⟨cO, 0, none⟩) (Kd.cP Zq7.out cv.out (by decide)) (fun _ hk => hk.2) (.slice j5 y779.length j6)) (fun _ hk => hk.2) (.slice bQ iN.length bB)) (fun _ hk => ⟨hk.1.1, ⟨hk.1.2.2.2.1, hk.1.2.2.2.2⟩⟩))⟩, ⟨rA (Kd.ah (Kd.aT (p := ⟨cO, 1, none⟩) (Kd.aT (p := ⟨cO, 0, none⟩) (Kd.cP gG.out cv.out (by decide)) (fun _ hk => hk.2) (.slice j5 y779.length j6)) (fun _ hk => hk.2) (.slice bQ iN.length bB)) (fun _ hk => ⟨hk.1.1, ⟨hk.1.2.2.2.1, hk.1.2.2.2.2⟩⟩))⟩, ⟨rA (Kd.ah (Kd.aT (p := ⟨cO, 1, none⟩) (Kd.aT (p := ⟨cO, 0, none⟩) (Kd.cP gH.out cv.out (by decide)) (fun _ hk => hk.2) (.slice j5 y779.length j6)) (fun _ hk => hk.2) (.slice bQ iN.length bB)) (fun _ hk => ⟨hk.1.1, ⟨hk.1.2.2.2.1, hk.1.2.2.2.2⟩⟩))⟩, ⟨by refine sA ?_; refine db ?_ iO.out _; refine sA ?_; refine db ?_ iO.out _; refine sA ?_; exact bp.out⟩, ⟨by refine sA ?_; refine db ?_ ie.out _; refine sA ?_; refine db ?_ ie.out _; refine sA ?_; exact bl.out⟩, ⟨by refine sA ?_; refine cC (cs := #[.slice j5 y779.length j6, .slice none 0 0]) ?_ 1 _ rfl; refine sA ?_; refine cC (cs := #[.slice none 0 0, .slice none 0 0]) ?_ 0 _ rfl; refine sA ?_; exact cv.out⟩, ⟨bU3 HB.out j4.out lH.out gr.out⟩⟩
  case round =>
   clear H'; obtain ⟨bs, bo, e8, bI, cV, eu, cq, rfl, HA, eO, bP, aE, aW, ap, bp, bl, cv, HB⟩ := hrel; have k7 := (Kd.av aE.out).1; rw [k7] at aE; simp only [k7]; simp only [k7] at bP; simp only [k7] at aW; simp only [k7] at ap
   rcases gk with _ | k1
   exact (nN HA.out).elim; have H := HA.out; clear HA; simp only [cm.l0] at H
   by_cases c32 : e8 ≤ (wrap64 (Int.tdiv (a7.length : Int) 2))
   ·
    rw [if_pos c32] at H; have Bu := decide_eq_true c32; (have Bv := Bu; rw [k7] at Bv); (have Lz := Bv; rw [Int.tdiv_eq_ediv_of_nonneg (Int.natCast_nonneg _)] at Lz); clear c32; generalize EZ : (([] : List Int) : List Int) = y786 at H; replace EZ := Ay EZ; have H' := Az H; clear H
    go_wp2_with (first | ((with_reducible refine gd 44 rfl ?_); refine Kd.iE (Kd.int .i64) _ 3 rfl (N := 44) rfl (xs := ([] : List Int)) (inner := []) (ok := fun _ => True) (okp := fun _ => True) hS ?hp (fun _ hk => hk) trivial (Below.refl _ _) (Nat.le_refl _) (by simp) ?_; (case hp => exact (Reps.none _ _)); intro amq Jq lw hb hg_ hnew_; clear hg_ hnew_; (first | rw [← EZ.out] at lw | (simp only [Int.reduceToNat] at lw; rw [← EZ.out] at lw)); have aeH := Az (Kd.bu (Kd.aQ (Kd.aQ (Kd.aQ (Kd.aQ lw (Kd.ar (rU bP.out))) (Kd.ar (rU aE.out))) (Kd.ar (rU aW.out))) (Kd.ar (rU ap.out))) (be iv)); replace bP := Az (Kd.a8 (rU bP.out) (Kd.ax lw) hb); replace aE := Az (Kd.a8 (rU aE.out) (Kd.ax lw) hb); replace aW := Az (Kd.a8 (rU aW.out) (Kd.ax lw) hb); replace ap := Az (Kd.a8 (rU ap.out) (Kd.ax lw) hb); replace bp := kB bp.out hb; replace bl := kB bl.out hb; replace cv := kB cv.out hb; replace HB := Az (au iv hb); clear hb lw))
    go_loopg [12, 13] k1 (fun kq v12 v13 w' => ∃ (rD : List Int) (om : Int), v13 = .int .i64 om ∧ ae (cm.l1 kq bs bo (a7.length : Int) e8 rD om bI cV = some (r1, r2, r3, r4)) ∧ ae (kq ≤ k1) ∧ ae (Kd.R (Kd.int .i64) 3 w' w.heap.size (fun k_ => some k_ ≠ ((.slice bA bo.length bm) : Value).ownBlock ∧ oV k_ v12 ∧ oV k_ eu ∧ oV k_ cq) bV bs) ∧ ae (Kd.R (Kd.int .i64) 3 w' w.heap.size (fun k_ => oV k_ bV ∧ oV k_ v12 ∧ oV k_ eu ∧ oV k_ cq) (.slice bA bo.length bm) bo) ∧ ae (Kd.R (Kd.int .i64) 3 w' w.heap.size (fun k_ => oV k_ bV ∧ some k_ ≠ ((.slice bA bo.length bm) : Value).ownBlock ∧ oV k_ eu ∧ oV k_ cq) v12 rD) ∧ ae (Kd.R (Kd.int .i64) 3 w' w.heap.size (fun k_ => oV k_ bV ∧ some k_ ≠ ((.slice bA bo.length bm) : Value).ownBlock ∧ oV k_ v12 ∧ oV k_ cq) eu bI) ∧ ae (Kd.R (Kd.int .i64) 3 w' w.heap.size (fun k_ => oV k_ bV ∧ some k_ ≠ ((.slice bA bo.length bm) : Value).ownBlock ∧ oV k_ v12 ∧ oV k_ eu) cq cV) ∧ ae (w'.heap[fE]? = some (.cells #[.string bY, (.slice am af.length al)] 25 (0, 0))) ∧ ae (w'.heap[dO]? = some (.cells #[(.slice none 0 0), (.slice none 0 0)] 29 (0, 0))) ∧ ae (w'.heap[cO]? = some (.cells #[eu, cq] 29 (0, 0))) ∧ ae (Below w.heap.size w w'))
    case atStart => exact ⟨(y786), (0), rS, H', ⟨Nat.le_refl _⟩, ⟨rA (Kd.ah bP.out (fun _ hk => ⟨hk.1.1, ⟨hk.2, ⟨hk.1.2.1, hk.1.2.2⟩⟩⟩))⟩, ⟨rA (Kd.ah aE.out (fun _ hk => ⟨hk.1.1, ⟨hk.2, ⟨hk.1.2.1, hk.1.2.2⟩⟩⟩))⟩, ⟨rA (Kd.ah aeH.out (fun _ hk => ⟨hk.1.1.1.2, ⟨hk.1.1.2, ⟨hk.1.2, hk.2⟩⟩⟩))⟩, ⟨rA (Kd.ah aW.out (fun _ hk => ⟨hk.1.1, ⟨hk.1.2.1, ⟨hk.2, hk.1.2.2⟩⟩⟩))⟩, ⟨rA (Kd.ah ap.out (fun _ hk => ⟨hk.1.1, ⟨hk.1.2.1, ⟨hk.2, hk.1.2.2⟩⟩⟩))⟩, ⟨sA bp.out⟩, ⟨sA bl.out⟩, ⟨sA cv.out⟩, ⟨bU3 HB.out j4.out lH.out gr.out⟩⟩
    case round =>
     clear H'; obtain ⟨rD, om, rfl, HA, fp, bP, aE, fO, aW, ap, bp, bl, cv, HB⟩ := hrel
     rcases gk with _ | k2
     exact (nN HA.out).elim; have H := HA.out; clear HA; simp only [cm.l1] at H
     by_cases c35 : om < (a7.length : Int)
     ·
      rw [if_pos c35] at H; have uG := decide_eq_true c35; (have LA := uG; rw [k7] at LA); clear c35; replace H := gD1 H; obtain ⟨U9, H⟩ := H; replace H := gP H; obtain ⟨c37, H⟩ := H; have Va := decide_eq_true c37; clear c37
      by_cases rF : (rd bs om) = e8
      ·
       rw [if_pos rF] at H; have LB := beq_iff_eq.mpr rF; have LC := bne_eq_false_iff_eq.mpr rF; clear rF; have H' := Az H; clear H; obtain ⟨amr, pT, aeI⟩ := Kd.aU bP.out; subst aeI; obtain ⟨oX, LD, aeJ, aeK, aeL⟩ := aI (Kd.av bP.out).2.2 om
       cases LD; go_wp2
       go_loopg [12, 14] k2 (fun kq v12 v14 w' => ∃ (iA : List Int) (wQ : Int), v14 = .int .i64 wQ ∧ ae (cm.l2 kq bs bo (a7.length : Int) e8 iA om wQ bI cV = some (r1, r2, r3, r4)) ∧ ae (kq ≤ k2) ∧ ae (Kd.R (Kd.int .i64) 3 w' w.heap.size (fun k_ => some k_ ≠ ((.slice bA bo.length bm) : Value).ownBlock ∧ oV k_ v12 ∧ oV k_ eu ∧ oV k_ cq) (.slice (some oX) bs.length pT) bs) ∧ ae (Kd.R (Kd.int .i64) 3 w' w.heap.size (fun k_ => some k_ ≠ ((.slice (some oX) bs.length pT) : Value).ownBlock ∧ oV k_ v12 ∧ oV k_ eu ∧ oV k_ cq) (.slice bA bo.length bm) bo) ∧ ae (Kd.R (Kd.int .i64) 3 w' w.heap.size (fun k_ => some k_ ≠ ((.slice (some oX) bs.length pT) : Value).ownBlock ∧ some k_ ≠ ((.slice bA bo.length bm) : Value).ownBlock ∧ oV k_ eu ∧ oV k_ cq) v12 iA) ∧ ae (Kd.R (Kd.int .i64) 3 w' w.heap.size (fun k_ => some k_ ≠ ((.slice (some oX) bs.length pT) : Value).ownBlock ∧ some k_ ≠ ((.slice bA bo.length bm) : Value).ownBlock ∧ oV k_ v12 ∧ oV k_ cq) eu bI) ∧ ae (Kd.R (Kd.int .i64) 3 w' w.heap.size (fun k_ => some k_ ≠ ((.slice (some oX) bs.length pT) : Value).ownBlock ∧ some k_ ≠ ((.slice bA bo.length bm) : Value).ownBlock ∧ oV k_ v12 ∧ oV k_ eu) cq cV) ∧ ae (w'.heap[fE]? = some (.cells #[.string bY, (.slice am af.length al)] 25 (0, 0))) ∧ ae (w'.heap[dO]? = some (.cells #[(.slice none 0 0), (.slice none 0 0)] 29 (0, 0))) ∧ ae (w'.heap[cO]? = some (.cells #[eu, cq] 29 (0, 0))) ∧ ae (Below w.heap.size w w'))
       case atStart => exact ⟨(rD), (1), rS, H', ⟨Nat.le_refl _⟩, ⟨rA bP.out⟩, ⟨rA aE.out⟩, ⟨rA fO.out⟩, ⟨rA aW.out⟩, ⟨rA ap.out⟩, ⟨sA bp.out⟩, ⟨sA bl.out⟩, ⟨sA cv.out⟩, ⟨bU3 HB.out j4.out lH.out gr.out⟩⟩
       case round =>
        clear H'; obtain ⟨iA, wQ, rfl, HA, pI, bP, aE, fO, aW, ap, bp, bl, cv, HB⟩ := hrel
        rcases gk with _ | k3
        exact (nN HA.out).elim; have H := HA.out; clear HA; simp only [cm.l2] at H
        by_cases c40 : wQ < (a7.length : Int)
        ·
         rw [if_pos c40] at H; have Bw := decide_eq_true c40; (have LE := Bw; rw [k7] at LE); clear c40
         by_cases rG : (a7.length : Int) = 0
         · rw [if_pos rG] at H; exact absurd H (by simp)
         ·
          rw [if_neg rG] at H; have aeM := beq_eq_false_iff_ne.mpr rG; (have aeN := aeM; rw [k7] at aeN); have aeO := bne_iff_ne.mpr rG; (have aeP := aeO; rw [k7] at aeP)
          have ams : ¬ (a7 = []) := fun h_ => rG (by rw [h_]; rfl)
          obtain ⟨Bz, LF⟩ : ∃ j_ : Int, (Int.tmod (wrap64 ((wrap64 (om - wQ)) + (a7.length : Int))) (a7.length : Int)) = j_ := ⟨_, rfl⟩; (have aeQ := LF; rw [k7] at aeQ); (first | rw [LF] at H | simp only [LF] at H); replace H := gD1 H; obtain ⟨amt, H⟩ := H; replace H := gP H; obtain ⟨Vb, H⟩ := H; have Vd := decide_eq_true Vb; clear Vb
          replace H := gQ H; rcases H with ⟨K7, K8, H⟩ | ⟨K7, K8, H⟩
          ·
           replace H := gP H; obtain ⟨c46, H⟩ := H; have aeR := Az c46; clear c46; generalize LG : (iA ++ [wrap64 ((wrap64 (2 * (Bz))) + 1)] : List Int) = y792 at H; replace LG := Ay LG; have H' := Az H; clear H; obtain ⟨BA, LH, aeS, aeT, aeU⟩ := aI (Kd.av aE.out).2.2 (Bz)
           cases LH
           go_wp2_with (first | ((with_reducible refine ki (b := .append) (xs := #[.tmp 74, .tmp 78]) rfl ?_); at_builtin; refine Kd.kP (Kd.int .i64) (w0 := w) w.heap.size rfl (.tmp 74) (.tmp 78) 23 3 (.int .i64 0) 8 rfl Try.underlying23 dP rfl (by decide) (by omega) u12 iA (wrap64 ((wrap64 (2 * (Bz))) + 1)) [.int .i64 (wrap64 ((wrap64 (2 * (Bz))) + 1))] (fun k_ => some k_ ≠ (.slice (some oX) bs.length pT : Value).ownBlock ∧ some k_ ≠ (.slice (some BA) bo.length bm : Value).ownBlock ∧ oV k_ eu ∧ oV k_ cq) (fun _ => False) rfl rfl ?aP (fun _ hk => hk.elim) ?aF ?aO ?aB ?aS ?aL ?_; (case aP => exact rfl); (case aB => exact iv); (case aF => exact (fun k_ hk => ⟨Kd.dF (Kd.ar (rU bP.out)) k_ hk, Kd.dF (Kd.ar (rU aE.out)) k_ hk, Kd.dF (Kd.ar (rU aW.out)) k_ hk, Kd.dF (Kd.ar (rU ap.out)) k_ hk⟩)); (case aO => exact (rU fO.out)); (case aS => exact (be iv)); (case aL => have := aeR.out; omega); intro amu nj ho hb hg hat; rw [← LG.out] at ho; replace bP := Az (Kd.cJ (ok := (fun k_ => some k_ ≠ (.slice (some BA) bo.length bm : Value).ownBlock ∧ oV k_ eu ∧ oV k_ cq)) Ov hg hat); replace aE := Az Ps; replace aW := Az (Kd.cJ (ok := (fun k_ => some k_ ≠ (.slice (some oX) bs.length pT : Value).ownBlock ∧ some k_ ≠ (.slice (some BA) bo.length bm : Value).ownBlock ∧ oV k_ cq)) QG hg hat); replace ap := Az (Kd.cJ (ok := (fun k_ => some k_ ≠ (.slice (some oX) bs.length pT : Value).ownBlock ∧ some k_ ≠ (.slice (some BA) bo.length bm : Value).ownBlock ∧ oV k_ eu)) Ry hg hat); replace bp := Az (kG bp.out hg (Kd.dG fO.out bp.out (by decide))); replace bl := Az (kG bl.out hg (Kd.dG fO.out bl.out (by decide))); replace cv := Az (kG cv.out hg (Kd.dG fO.out cv.out (by decide))); replace HB := Az (hb); have aeV := Az (ho); clear fO ho hb hg hat))
           go_roundg k3
           case measure => exact mO
           case rel => exact ⟨(y792), (wrap64 (wQ + 1)), rS, H', ⟨mO⟩, ⟨rA (Kd.ah bP.out (fun _ hk => ⟨hk.1.1, ⟨hk.2, ⟨hk.1.2.1, hk.1.2.2⟩⟩⟩))⟩, ⟨rA (Kd.ah aE.out (fun _ hk => ⟨hk.1.1, ⟨hk.2, ⟨hk.1.2.1, hk.1.2.2⟩⟩⟩))⟩, ⟨rA aeV.out⟩, ⟨rA (Kd.ah aW.out (fun _ hk => ⟨hk.1.1, ⟨hk.1.2.1, ⟨hk.2, hk.1.2.2⟩⟩⟩))⟩, ⟨rA (Kd.ah ap.out (fun _ hk => ⟨hk.1.1, ⟨hk.1.2.1, ⟨hk.2, hk.1.2.2⟩⟩⟩))⟩, ⟨sA bp.out⟩, ⟨sA bl.out⟩, ⟨sA cv.out⟩, ⟨bU3 HB.out j4.out lH.out gr.out⟩⟩
          ·
           have H' := Az H; clear H; obtain ⟨BA, LH, aeS, aeT, aeU⟩ := aI (Kd.av aE.out).2.2 (Bz)
           cases LH; go_wp2; go_roundg k3
           case measure => exact mO
           case rel => exact ⟨(iA), (wrap64 (wQ + 1)), rS, H', ⟨mO⟩, ⟨rA bP.out⟩, ⟨rA aE.out⟩, ⟨rA fO.out⟩, ⟨rA aW.out⟩, ⟨rA ap.out⟩, ⟨sA bp.out⟩, ⟨sA bl.out⟩, ⟨sA cv.out⟩, ⟨bU3 HB.out j4.out lH.out gr.out⟩⟩
        ·
         rw [if_neg c40] at H; have Bw := decide_eq_false c40; (have LE := Bw; rw [k7] at LE); clear c40; replace H := gP H; obtain ⟨rH, H⟩ := H; have aeW := Az rH; clear rH; generalize LI : (iA ++ [wrap64 (2 * om)] : List Int) = y795 at H; replace LI := Ay LI; have H' := Az H; clear H
         go_wp2_with (first | ((with_reducible refine ki (b := .append) (xs := #[.tmp 80, .tmp 83]) rfl ?_); at_builtin; refine Kd.kP (Kd.int .i64) (w0 := w) w.heap.size rfl (.tmp 80) (.tmp 83) 23 3 (.int .i64 0) 8 rfl Try.underlying23 dP rfl (by decide) (by omega) u12 iA (wrap64 (2 * om)) [.int .i64 (wrap64 (2 * om))] (fun k_ => some k_ ≠ (.slice (some oX) bs.length pT : Value).ownBlock ∧ oS k_ bA bo.length bm ∧ oV k_ eu ∧ oV k_ cq) (fun _ => False) rfl rfl ?aP (fun _ hk => hk.elim) ?aF ?aO ?aB ?aS ?aL ?_; (case aP => exact rfl); (case aB => exact iv); (case aF => exact (fun k_ hk => ⟨Kd.dF (Kd.ar (rU bP.out)) k_ hk, Kd.dF (Kd.ar (rU aE.out)) k_ hk, Kd.dF (Kd.ar (rU aW.out)) k_ hk, Kd.dF (Kd.ar (rU ap.out)) k_ hk⟩)); (case aO => exact (rU fO.out)); (case aS => exact (be iv)); (case aL => have := aeW.out; omega); intro amv w49 ho hb hg hat; rw [← LI.out] at ho; replace bP := Az (Kd.cJ (ok := (fun k_ => oS k_ bA bo.length bm ∧ oV k_ eu ∧ oV k_ cq)) Ov hg hat); replace aE := Az Ps; replace aW := Az (Kd.cJ (ok := (fun k_ => some k_ ≠ (.slice (some oX) bs.length pT : Value).ownBlock ∧ oS k_ bA bo.length bm ∧ oV k_ cq)) QG hg hat); replace ap := Az (Kd.cJ (ok := (fun k_ => some k_ ≠ (.slice (some oX) bs.length pT : Value).ownBlock ∧ oS k_ bA bo.length bm ∧ oV k_ eu)) Ry hg hat); replace bp := Az (kG bp.out hg (Kd.dG fO.out bp.out (by decide))); replace bl := Az (kG bl.out hg (Kd.dG fO.out bl.out (by decide))); replace cv := Az (kG cv.out hg (Kd.dG fO.out cv.out (by decide))); replace HB := Az (hb); have aeX := Az (ho); clear fO ho hb hg hat))
         go_roundg k3
         case measure => exact mO
         case rel => exact ⟨(y795), (wrap64 (om + 1)), rS, H', ⟨mO⟩, ⟨rA (Kd.ah bP.out (fun _ hk => ⟨hk.1.1, ⟨hk.2, ⟨hk.1.2.1, hk.1.2.2⟩⟩⟩))⟩, ⟨rA (Kd.ah aE.out (fun _ hk => ⟨hk.1.1, ⟨hk.2, ⟨hk.1.2.1, hk.1.2.2⟩⟩⟩))⟩, ⟨rA aeX.out⟩, ⟨rA (Kd.ah aW.out (fun _ hk => ⟨hk.1.1, ⟨hk.1.2.1, ⟨hk.2, hk.1.2.2⟩⟩⟩))⟩, ⟨rA (Kd.ah ap.out (fun _ hk => ⟨hk.1.1, ⟨hk.1.2.1, ⟨hk.2, hk.1.2.2⟩⟩⟩))⟩, ⟨sA bp.out⟩, ⟨sA bl.out⟩, ⟨sA cv.out⟩, ⟨bU3 HB.out j4.out lH.out gr.out⟩⟩
      ·
       rw [if_neg rF] at H; have LB := beq_eq_false_iff_ne.mpr rF; have LC := bne_iff_ne.mpr rF; have H' := Az H; clear H; obtain ⟨amx, amy, aeY⟩ := Kd.aU bP.out; subst aeY; obtain ⟨oX, LD, aeJ, aeK, aeL⟩ := aI (Kd.av bP.out).2.2 om
       cases LD; go_wp2; go_roundg k2
       case measure => exact mO
       case rel => exact ⟨(rD), (wrap64 (om + 1)), rS, H', ⟨mO⟩, ⟨rA bP.out⟩, ⟨rA aE.out⟩, ⟨rA fO.out⟩, ⟨rA aW.out⟩, ⟨rA ap.out⟩, ⟨sA bp.out⟩, ⟨sA bl.out⟩, ⟨sA cv.out⟩, ⟨bU3 HB.out j4.out lH.out gr.out⟩⟩
     ·
      rw [if_neg c35] at H; have uG := decide_eq_false c35; (have LA := uG; rw [k7] at LA); clear c35; replace H := bd H; obtain ⟨EX, LJ, H⟩ := H; have H' := Az H; clear H; have amz := k6.out; have amA := iO.out; have aeZ := iP.out; have amB := ie.out; have ae0 := bc2 cv.out; obtain ⟨mD, mE, yK⟩ := Kd.aU aW.out; subst yK; obtain ⟨yL, yM, E0⟩ := Kd.aU fO.out; subst E0
      go_wp2_with (first | ((with_reducible refine gK 73 rfl ?_); refine gC (some 88) Try.func73 #[.slice mD bI.length mE, .slice yL rD.length yM] ?_; (with_reducible refine (eE.calls k2 (fun k_ => some k_ = (.slice mD bI.length mE : Value).ownBlock) (.slice mD bI.length mE) bI _ _ rD EX w _ ?side1 ?side2 ?side3 ?side4 LJ.out).mono ?_); (case side1 => repeat (first | (with_reducible first | exact HB.out | apply bn | apply bz | apply aX | refine ai ?_ j4.out | refine ai ?_ lH.out | refine ai ?_ gr.out) | exact HB.out)); (case side2 => exact Kd.vo rfl aW.out); (case side3 => exact Kd.P7 (fO.out) (fun k_ hk_ hs_ => (hk_.2.2.1) hs_)); (case side4 => exact (Kd.av fO.out).2.1); rintro e BB ⟨rfl, hy0, hb, hkp⟩; refine ⟨_, rfl, ?_⟩; replace bP := Az (Kd.ah (ok' := fun k_ => oS k_ bA bo.length bm ∧ oS k_ yL rD.length yM ∧ oS k_ mD bI.length mE ∧ oV k_ cq) (Kd.vP (bP.out) hkp (fun k_ hk_ hs_ => (hk_.2.2.1) hs_)) (fun k_ hk_ => ⟨hk_.1.1, hk_.1.2.1, hk_.1.2.2.1, hk_.1.2.2.2⟩)); replace aE := Az (Kd.ah (ok' := fun k_ => oV k_ bV ∧ oS k_ yL rD.length yM ∧ oS k_ mD bI.length mE ∧ oV k_ cq) (Kd.vP (aE.out) hkp (fun k_ hk_ hs_ => (hk_.2.2.1) hs_)) (fun k_ hk_ => ⟨hk_.1.1, hk_.1.2.1, hk_.1.2.2.1, hk_.1.2.2.2⟩)); replace fO := Az (Kd.ah (ok' := fun k_ => oV k_ bV ∧ oS k_ bA bo.length bm ∧ oS k_ mD bI.length mE ∧ oV k_ cq) (Kd.vP (fO.out) hkp (fun k_ hk_ hs_ => (hk_.2.2.1) hs_)) (fun k_ hk_ => ⟨hk_.1.1, hk_.1.2.1, hk_.1.2.2.1, hk_.1.2.2.2⟩)); replace ap := Az (Kd.ah (ok' := fun k_ => oV k_ bV ∧ oS k_ bA bo.length bm ∧ oS k_ yL rD.length yM ∧ oS k_ mD bI.length mE) (Kd.vP (ap.out) hkp (fun k_ hk_ hs_ => (hk_.2.2.2) hs_)) (fun k_ hk_ => ⟨hk_.1.1, hk_.1.2.1, hk_.1.2.2.1, hk_.1.2.2.2⟩)); replace bp := Az (vZ (kU bp.out) hkp (fun hs_ => (fun e_ => (Kd.dG aW.out bp.out (by decide)) e_) hs_)); replace bl := Az (vZ (kU bl.out) hkp (fun hs_ => (fun e_ => (Kd.dG aW.out bl.out (by decide)) e_) hs_)); replace cv := Az (vZ (kU cv.out) hkp (fun hs_ => (fun e_ => (Kd.dG aW.out cv.out (by decide)) e_) hs_)); replace aW := Az (Kd.CR rfl hy0 (fun k_ e_ => aW.out.1 k_ e_)); replace HB := Az (hb); clear hb))
      simp only [← k7]; go_roundg k2
      case measure => exact mO
      case rel => exact ⟨(bs), (bo), (wrap64 (e8 + 1)), (EX), (cV), (.slice mD bI.length mE), (cq), rS, H', ⟨mO⟩, ⟨by simp only [k7]; refine rA ?_; exact Kd.ah bP.out (fun _ hk => ⟨hk.1, ⟨hk.2.2.1, hk.2.2.2⟩⟩)⟩, ⟨by simp only [k7]; refine rA ?_; exact Kd.ah aE.out (fun _ hk => ⟨hk.1, ⟨hk.2.2.1, hk.2.2.2⟩⟩)⟩, ⟨by simp only [k7]; refine rA ?_; exact Kd.ah aW.out (fun _ hk => ⟨hk.1, ⟨hk.2.1, hk.2.2.2⟩⟩)⟩, ⟨by simp only [k7]; refine rA ?_; exact Kd.ah ap.out (fun _ hk => ⟨hk.1, ⟨hk.2.1, hk.2.2.2⟩⟩)⟩, ⟨sA bp.out⟩, ⟨sA bl.out⟩, ⟨sA cv.out⟩, ⟨bU3 HB.out j4.out lH.out gr.out⟩⟩
   ·
    rw [if_neg c32] at H; have Bu := decide_eq_false c32; (have Bv := Bu; rw [k7] at Bv); (have Lz := Bv; rw [Int.tdiv_eq_ediv_of_nonneg (Int.natCast_nonneg _)] at Lz); clear c32; generalize E3 : (([] : List Int) : List Int) = y798 at H; replace E3 := Ay E3; have H' := Az H; clear H
    go_wp2_with (first | ((with_reducible refine gd 89 rfl ?_); refine Kd.iE (Kd.int .i64) _ 3 rfl (N := 89) rfl (xs := ([] : List Int)) (inner := []) (ok := fun _ => True) (okp := fun _ => True) hS ?hp (fun _ hk => hk) trivial (Below.refl _ _) (Nat.le_refl _) (by simp) ?_; (case hp => exact (Reps.none _ _)); intro amC EN tc hb hg_ hnew_; clear hg_ hnew_; (first | rw [← E3.out] at tc | (simp only [Int.reduceToNat] at tc; rw [← E3.out] at tc)); have ae1 := Az (Kd.bu (Kd.aQ (Kd.aQ (Kd.aQ (Kd.aQ tc (Kd.ar (rU bP.out))) (Kd.ar (rU aE.out))) (Kd.ar (rU aW.out))) (Kd.ar (rU ap.out))) (be iv)); replace bP := Az (Kd.a8 (rU bP.out) (Kd.ax tc) hb); replace aE := Az (Kd.a8 (rU aE.out) (Kd.ax tc) hb); replace aW := Az (Kd.a8 (rU aW.out) (Kd.ax tc) hb); replace ap := Az (Kd.a8 (rU ap.out) (Kd.ax tc) hb); replace bp := kB bp.out hb; replace bl := kB bl.out hb; replace cv := kB cv.out hb; replace HB := Az (au iv hb); clear hb tc))
    go_loopg [16, 17] k1 (fun kq v16 v17 w' => ∃ (oY : List Int) (rI : Int), v17 = .int .i64 rI ∧ ae (cm.l3 kq bo oY rI bI cV = some (r1, r2, r3, r4)) ∧ ae (kq ≤ k1) ∧ ae (Kd.R (Kd.int .i64) 3 w' w.heap.size (fun k_ => oV k_ v16 ∧ oV k_ eu ∧ oV k_ cq) (.slice bA bo.length bm) bo) ∧ ae (Kd.R (Kd.int .i64) 3 w' w.heap.size (fun k_ => some k_ ≠ ((.slice bA bo.length bm) : Value).ownBlock ∧ oV k_ eu ∧ oV k_ cq) v16 oY) ∧ ae (Kd.R (Kd.int .i64) 3 w' w.heap.size (fun k_ => some k_ ≠ ((.slice bA bo.length bm) : Value).ownBlock ∧ oV k_ v16 ∧ oV k_ cq) eu bI) ∧ ae (Kd.R (Kd.int .i64) 3 w' w.heap.size (fun k_ => some k_ ≠ ((.slice bA bo.length bm) : Value).ownBlock ∧ oV k_ v16 ∧ oV k_ eu) cq cV) ∧ ae (w'.heap[fE]? = some (.cells #[.string bY, (.slice am af.length al)] 25 (0, 0))) ∧ ae (w'.heap[dO]? = some (.cells #[(.slice none 0 0), (.slice none 0 0)] 29 (0, 0))) ∧ ae (w'.heap[cO]? = some (.cells #[eu, cq] 29 (0, 0))) ∧ ae (Below w.heap.size w w'))
    case atStart => exact ⟨(y798), (wrap64 ((a7.length : Int) - 1)), rS, H', ⟨Nat.le_refl _⟩, ⟨rA (Kd.ah aE.out (fun _ hk => ⟨hk.2, ⟨hk.1.2.1, hk.1.2.2⟩⟩))⟩, ⟨rA (Kd.ah ae1.out (fun _ hk => ⟨hk.1.1.2, ⟨hk.1.2, hk.2⟩⟩))⟩, ⟨rA (Kd.ah aW.out (fun _ hk => ⟨hk.1.2.1, ⟨hk.2, hk.1.2.2⟩⟩))⟩, ⟨rA (Kd.ah ap.out (fun _ hk => ⟨hk.1.2.1, ⟨hk.2, hk.1.2.2⟩⟩))⟩, ⟨sA bp.out⟩, ⟨sA bl.out⟩, ⟨sA cv.out⟩, ⟨bU3 HB.out j4.out lH.out gr.out⟩⟩
    case round =>
     clear H'; obtain ⟨oY, rI, rfl, HA, fp, aE, kZ, aW, ap, bp, bl, cv, HB⟩ := hrel
     rcases gk with _ | k2
     exact (nN HA.out).elim; have H := HA.out; clear HA; simp only [cm.l3] at H
     replace H := gB H; rcases H with ⟨LK, H⟩ | ⟨LK, H⟩
     ·
      replace H := gD1 H; obtain ⟨ae2, H⟩ := H; replace H := gP H; obtain ⟨Ve, H⟩ := H; have amD := decide_eq_true Ve; clear Ve
      replace H := gB H; rcases H with ⟨ae3, H⟩ | ⟨ae3, H⟩
      ·
       replace H := gP H; obtain ⟨c64, H⟩ := H; have ae4 := Az c64; clear c64; generalize LL : (oY ++ [wrap64 ((wrap64 (2 * rI)) + 1)] : List Int) = y802 at H; replace LL := Ay LL; have H' := Az H; clear H; obtain ⟨E4, LM, ae5, ae6, ae7⟩ := aI (Kd.av aE.out).2.2 rI
       cases LM
       go_wp2_with (first | ((with_reducible refine ki (b := .append) (xs := #[.tmp 101, .tmp 105]) rfl ?_); at_builtin; refine Kd.kP (Kd.int .i64) (w0 := w) w.heap.size rfl (.tmp 101) (.tmp 105) 23 3 (.int .i64 0) 8 rfl Try.underlying23 dP rfl (by decide) (by omega) u16 oY (wrap64 ((wrap64 (2 * rI)) + 1)) [.int .i64 (wrap64 ((wrap64 (2 * rI)) + 1))] (fun k_ => some k_ ≠ (.slice (some E4) bo.length bm : Value).ownBlock ∧ oV k_ eu ∧ oV k_ cq) (fun _ => False) rfl rfl ?aP (fun _ hk => hk.elim) ?aF ?aO ?aB ?aS ?aL ?_; (case aP => exact rfl); (case aB => exact iv); (case aF => exact (fun k_ hk => ⟨Kd.dF (Kd.ar (rU aE.out)) k_ hk, Kd.dF (Kd.ar (rU aW.out)) k_ hk, Kd.dF (Kd.ar (rU ap.out)) k_ hk⟩)); (case aO => exact (rU kZ.out)); (case aS => exact (be iv)); (case aL => have := ae4.out; omega); intro amE oZ ho hb hg hat; rw [← LL.out] at ho; replace aE := Az (Kd.cJ (ok := (fun k_ => oV k_ eu ∧ oV k_ cq)) (rA (Kd.ah aE.out (fun _ hk => ⟨⟨hk.2.1, hk.2.2⟩, hk.1⟩))) hg hat); replace aW := Az (Kd.cJ (ok := (fun k_ => some k_ ≠ (.slice (some E4) bo.length bm : Value).ownBlock ∧ oV k_ cq)) (rA (Kd.ah aW.out (fun _ hk => ⟨⟨hk.1, hk.2.2⟩, hk.2.1⟩))) hg hat); replace ap := Az (Kd.cJ (ok := (fun k_ => some k_ ≠ (.slice (some E4) bo.length bm : Value).ownBlock ∧ oV k_ eu)) (rA (Kd.ah ap.out (fun _ hk => ⟨⟨hk.1, hk.2.2⟩, hk.2.1⟩))) hg hat); replace bp := Az (kG bp.out hg (Kd.dG kZ.out bp.out (by decide))); replace bl := Az (kG bl.out hg (Kd.dG kZ.out bl.out (by decide))); replace cv := Az (kG cv.out hg (Kd.dG kZ.out cv.out (by decide))); replace HB := Az (hb); have ae8 := Az (ho); clear kZ ho hb hg hat))
       go_roundg k2
       case measure => exact mO
       case rel => exact ⟨(y802), (wrap64 (rI - 1)), rS, H', ⟨mO⟩, ⟨rA (Kd.ah aE.out (fun _ hk => ⟨hk.2, ⟨hk.1.1, hk.1.2⟩⟩))⟩, ⟨rA ae8.out⟩, ⟨rA (Kd.ah aW.out (fun _ hk => ⟨hk.1.1, ⟨hk.2, hk.1.2⟩⟩))⟩, ⟨rA (Kd.ah ap.out (fun _ hk => ⟨hk.1.1, ⟨hk.2, hk.1.2⟩⟩))⟩, ⟨sA bp.out⟩, ⟨sA bl.out⟩, ⟨sA cv.out⟩, ⟨bU3 HB.out j4.out lH.out gr.out⟩⟩
      ·
       have H' := Az H; clear H; obtain ⟨E4, LM, ae5, ae6, ae7⟩ := aI (Kd.av aE.out).2.2 rI
       cases LM; go_wp2; go_roundg k2
       case measure => exact mO
       case rel => exact ⟨(oY), (wrap64 (rI - 1)), rS, H', ⟨mO⟩, ⟨rA aE.out⟩, ⟨rA kZ.out⟩, ⟨rA aW.out⟩, ⟨rA ap.out⟩, ⟨sA bp.out⟩, ⟨sA bl.out⟩, ⟨sA cv.out⟩, ⟨bU3 HB.out j4.out lH.out gr.out⟩⟩
     ·
      replace H := bd H; obtain ⟨Lv, A66, H⟩ := H; obtain ⟨E5, E6⟩ : ∃ j_ : Int, (wrap64 ((oY.length : Int) - 1)) = j_ := ⟨_, rfl⟩; (first | rw [E6] at H | simp only [E6] at H); have amF : (IntKind.i64.wrap ((oY.length : Int) - 1)) = E5 := (cr _).trans E6; replace H := gD1 H; obtain ⟨amG, H⟩ := H; replace H := gP H; obtain ⟨Vf, H⟩ := H; have amH := decide_eq_true Vf; clear Vf; simp only [Option.some.injEq, Prod.mk.injEq] at H; obtain ⟨rfl, rfl, rfl, rfl⟩ := H; have amI := k6.out; have amJ := iO.out; have amK := iP.out; have amL := ie.out; have afa := bc2 cv.out; obtain ⟨qC, qD, afb⟩ := Kd.aU aW.out; subst afb; obtain ⟨yN, yO, LN⟩ := Kd.aU kZ.out; subst LN
      try go_wp2_with (first | ((with_reducible refine gK 73 rfl ?_); refine gC (some 110) Try.func73 #[.slice qC bI.length qD, .slice yN oY.length yO] ?_; (with_reducible refine (eE.calls k2 (fun k_ => some k_ = (.slice qC bI.length qD : Value).ownBlock) (.slice qC bI.length qD) bI _ _ oY Lv w _ ?side1 ?side2 ?side3 ?side4 A66.out).mono ?_); (case side1 => repeat (first | (with_reducible first | exact HB.out | apply bn | apply bz | apply aX | refine ai ?_ j4.out | refine ai ?_ lH.out | refine ai ?_ gr.out) | exact HB.out)); (case side2 => exact Kd.vo rfl aW.out); (case side3 => exact Kd.P7 (kZ.out) (fun k_ hk_ hs_ => (hk_.2.1) hs_)); (case side4 => exact (Kd.av kZ.out).2.1); rintro e w75 ⟨rfl, hy0, hb, hkp⟩; refine ⟨_, rfl, ?_⟩; replace aE := Az (Kd.ah (ok' := fun k_ => oS k_ yN oY.length yO ∧ oS k_ qC bI.length qD ∧ oV k_ cq) (Kd.vP (aE.out) hkp (fun k_ hk_ hs_ => (hk_.2.1) hs_)) (fun k_ hk_ => ⟨hk_.1.1, hk_.1.2.1, hk_.1.2.2⟩)); replace kZ := Az (Kd.ah (ok' := fun k_ => oS k_ bA bo.length bm ∧ oS k_ qC bI.length qD ∧ oV k_ cq) (Kd.vP (kZ.out) hkp (fun k_ hk_ hs_ => (hk_.2.1) hs_)) (fun k_ hk_ => ⟨hk_.1.1, hk_.1.2.1, hk_.1.2.2⟩)); replace ap := Az (Kd.ah (ok' := fun k_ => oS k_ bA bo.length bm ∧ oS k_ yN oY.length yO ∧ oS k_ qC bI.length qD) (Kd.vP (ap.out) hkp (fun k_ hk_ hs_ => (hk_.2.2) hs_)) (fun k_ hk_ => ⟨hk_.1.1, hk_.1.2.1, hk_.1.2.2⟩)); replace bp := Az (vZ (kU bp.out) hkp (fun hs_ => (fun e_ => (Kd.dG aW.out bp.out (by decide)) e_) hs_)); replace bl := Az (vZ (kU bl.out) hkp (fun hs_ => (fun e_ => (Kd.dG aW.out bl.out (by decide)) e_) hs_)); replace cv := Az (vZ (kU cv.out) hkp (fun hs_ => (fun e_ => (Kd.dG aW.out cv.out (by decide)) e_) hs_)); replace aW := Az (Kd.CR rfl hy0 (fun k_ e_ => aW.out.1 k_ e_)); replace HB := Az (hb); clear hb))
      replace aE := Az (Kd.ci aE.out); replace kZ := Az (Kd.ci kZ.out); replace aW := Az (Kd.ci aW.out); replace ap := Az (Kd.ci ap.out); replace bp := Az (dk bp.out); replace bl := Az (dk bl.out); replace cv := Az (dk cv.out); replace HB := Az (aX HB.out); obtain ⟨afd, afe, _, _, Vg⟩ := aI (Kd.av kZ.out).2.2 (E5)
      cases afe; obtain ⟨iQ, iT, E7⟩ := Kd.aU ap.out; (first | subst E7 | (injection E7 with aG bC aH; have bD := aG.symm; have bF := aH.symm; clear aG bC aH; subst bD; subst bF)); refine fX (n := 10) (S := fun w' => w'.cell? ⟨cO, 0, none⟩ = some (.slice qC bI.length qD) ∧ w'.cell? ⟨cO, 1, none⟩ = some (.slice iQ cV.length iT) ∧ w'.cell? (afd.add ((E5)).toNat) = some (.int .i64 (rd oY (E5)))) (ds := []) (me [(1, some 112), (2, some 113), (3, some 114), (4, some 115), (5, some 116), (0, some 111), (6, some 117), (7, none), (8, some 3), (9, some 4)] 10) (by kernel_rfl) rfl rfl ⟨(aM cv.out 0).trans rfl, (aM cv.out 1).trans rfl, Vg⟩ (fun hHeld => ?_); refine gn cm.Ym cm.ZB (fun HT_ HW_ => ?_); generalize w75.drew = w76 at aE kZ aW ap bp bl cv HB Vg hHeld ⊢
      repeat (first | (refine P8 rfl rfl (aj HT_.out (by kernel_rfl)) (fun _ _ _ h => h) (by rfl) (v := ?_) (a' := ?_) ?_ ?_ ?_; rotate_left; (· intro w'; go_simp; with_reducible rfl); rotate_left; (· exact aP)) | (refine Z0 rfl rfl (dc HT_.out HW_.out (by kernel_rfl)) (fun _ _ _ h => h) (by rfl) (v := ?_) (a' := ?_) ?_ hHeld ?_ ?_; rotate_left; (· rintro w' ⟨s0, s1, s2⟩; go_simp; with_reducible rfl); rotate_left; (· exact aP)))
      refine YI rfl rfl (dj HT_.out (by kernel_rfl)) (by decide) (fun K hK => ?_); have amM : w76.cell? ⟨dO, 0, none⟩ = some (.slice none 0 0) := (aM bl.out 0).trans rfl; have amN := jX bl.out 0; have amO := sW.out; have amP := iP.out; have amQ := (sW.out).symm; have amR := ie.out; have amS : w76.cell? ⟨dO, 1, none⟩ = some (.slice none 0 0) := (aM bl.out 1).trans rfl; have amT := jX bl.out 1; have amU := sW.out; have amV := iP.out; have amW := (sW.out).symm; have amX := ie.out; refine lV (w1 := ?_) (by rfl) rfl ?_ ?_; rotate_left
      · go_simp; rfl
      refine hK.out _ _ ⟨((cell_far (p := ⟨dO, _, none⟩) iP.out _).trans (((cell_far (p := ⟨dO, _, none⟩) iP.out _).trans (hHeld.1)))), ((cell_far (p := ⟨dO, _, none⟩) iP.out _).trans (((cell_far (p := ⟨dO, _, none⟩) iP.out _).trans (hHeld.2.1)))), ((cell_far (p := ⟨dO, _, none⟩) Pn _).trans (((cell_far (p := ⟨dO, _, none⟩) Pn _).trans (hHeld.2.2))))⟩ (fun hHeld => ?_); clear hK K
      repeat (first | (refine P8 rfl rfl (aj HT_.out (by kernel_rfl)) (fun _ _ _ h => h) (by rfl) (v := ?_) (a' := ?_) ?_ ?_ ?_; rotate_left; (· intro w'; go_simp; with_reducible rfl); rotate_left; (· exact aP)))
      refine fY (gp HT_.out (by kernel_rfl)) ?_
      try go_wp2
      refine bodyPost_ret (R5 rfl _ _ dO 29 #[.slice qC bI.length qD, .slice iQ cV.length iT] (0, 0) _ rfl (by refine sA ?_; refine cC (cs := #[.slice qC bI.length qD, .slice none 0 0]) ?_ 1 _ rfl; refine sA ?_; refine cC (cs := #[.slice none 0 0, .slice none 0 0]) ?_ 0 _ rfl; refine sA ?_; exact bl.out) Try.underlying29 rfl (by kernel_rfl)) rfl ?_; exact ⟨_, _, by first | rfl | (simp [jA, jz] <;> rfl) | (simp only [← pK, ← E6]; first | rfl | (simp [jA, jz] <;> rfl)) | (simp [*, jA, jz] <;> rfl), by refine rA ?_; exact Kd.ah (Kd.aT (p := ⟨dO, 1, none⟩) (Kd.aT (p := ⟨dO, 0, none⟩) (Kd.cP aW.out bl.out (by decide)) (fun _ hk => hk.2) (.slice qC bI.length qD)) (fun _ hk => hk.2) (.slice iQ cV.length iT)) (fun _ hk => hk.1.2.2), by refine rA ?_; exact Kd.ah (Kd.aT (p := ⟨dO, 1, none⟩) (Kd.aT (p := ⟨dO, 0, none⟩) (Kd.cP ap.out bl.out (by decide)) (fun _ hk => hk.2) (.slice qC bI.length qD)) (fun _ hk => hk.2) (.slice iQ cV.length iT)) (fun _ hk => hk.1.2.2), bU3 HB.out j4.out lH.out gr.out⟩
 ·
  replace c3 := Bool.eq_false_iff.mpr c3; subst c3; rw [if_neg nT] at H; simp only [Option.some.injEq, Prod.mk.injEq] at H; obtain ⟨rfl, rfl, rfl, rfl⟩ := H; go_enter Try.func21, Try.ntmps21
  go_wp2_with (first | ((with_reducible refine gd 1 rfl ?_); refine bE 1 #[.string bY, .slice am af.length al] 25 ?_; intro fE hg w80 hbox hb; have bp := Az (hbox); have j4 := gW hg (bU0 HB.out); replace HB := Az (au (bU0 HB.out) hb); clear hb hbox hg) | ((with_reducible refine gd 2 rfl ?_); refine bE 2 #[.slice none 0 0, .slice none 0 0] 29 ?_; intro dO hg w81 hbox hb; have bl := Az (hbox); have lH := gW hg (bU1 HB.out j4.out); replace HB := Az (au (bU1 HB.out j4.out) hb); have sW := nL hg (kU bp.out); replace bp := kB bp.out hb; clear hb hbox hg; have afg := sW.out; have afh := (sW.out).symm; have afi := bc2 bp.out) | ((with_reducible refine gK 17 rfl ?_); refine gC (some 19) Try.func17 #[.agg #[.string bY, .slice am af.length al]] ?_; (with_reducible refine (cY.calls k bY _ _ af false _ ?_ ?_ A2.out).mono ?_); exact cU (Kd.cd cH.out HB.out); exact cQ.out; rintro e Vh ⟨rfl, hb⟩; refine ⟨_, rfl, ?_⟩; replace bp := kB bp.out hb; replace bl := kB bl.out hb; replace HB := Az (au fQ hb); clear hb; have amZ := bc2 bl.out))
  refine bodyPost_ret (R5 rfl _ _ dO 29 #[.slice none 0 0, .slice none 0 0] (0, 0) _ rfl (by refine sA ?_; refine cC (cs := #[.slice none 0 0, .slice none 0 0]) ?_ 1 _ rfl; refine sA ?_; refine cC (cs := #[.slice none 0 0, .slice none 0 0]) ?_ 0 _ rfl; refine sA ?_; exact bl.out) Try.underlying29 rfl (by kernel_rfl)) rfl ?_; exact ⟨_, _, rE, by first | exact Kd.pA _ _ _ _ _ | exact Kd.sg _ _ _ _ _ | exact Kd.r9 _ _ _ _ _ | exact Kd.r5 _ _ _ _ _ | exact Kd.r6 _ _ _ _ _, by first | exact Kd.pA _ _ _ _ _ | exact Kd.sg _ _ _ _ _ | exact Kd.r9 _ _ _ _ _ | exact Kd.r5 _ _ _ _ _ | exact Kd.r6 _ _ _ _ _, bU2 HB.out j4.out lH.out⟩
def ee.j0 : Nat → Int → Bool → List Int → Int → Option (Int × Int)
 | 0, _, _, _, _ => none
 | k + 1, x1, x24, x1000, eX => if x24 = true then (some (0, eX)) else (if (wrap64 (eX - 1)) < (x1000.length : Int) then (if 0 ≤ (wrap64 (eX - 1)) then (if x1 = 0 then (none) else (some (Int.tmod (wrap64 (rd x1000 (wrap64 (eX - 1)))) x1, eX))) else (none)) else (if (x1000.length : Int) = 0 then (none) else (if 0 ≤ (Int.tmod (wrap64 (eX - 1)) (x1000.length : Int)) then (if (Int.tmod (wrap64 (eX - 1)) (x1000.length : Int)) < (x1000.length : Int) then (if 0 ≤ (Int.tmod (wrap64 ((wrap64 ((wrap64 (eX - 1)) * 7)) + 3)) (x1000.length : Int)) then (if (Int.tmod (wrap64 ((wrap64 ((wrap64 (eX - 1)) * 7)) + 3)) (x1000.length : Int)) < (x1000.length : Int) then (if x1 = 0 then (none) else (some (Int.tmod (Go.bits .xor .i64 (wrap64 ((wrap64 ((wrap64 ((wrap64 ((wrap64 (rd x1000 (Int.tmod (wrap64 (eX - 1)) (x1000.length : Int)))) * 131)) + (wrap64 ((wrap64 (rd x1000 (Int.tmod (wrap64 ((wrap64 ((wrap64 (eX - 1)) * 7)) + 3)) (x1000.length : Int)))) * 1117)))) + (wrap64 ((wrap64 (eX - 1)) * 29)))) + (wrap64 ((wrap64 (Int.tdiv (wrap64 (eX - 1)) (x1000.length : Int))) * 53)))) (wrap64 (Int.tdiv (wrap64 ((wrap64 ((wrap64 ((wrap64 ((wrap64 (rd x1000 (Int.tmod (wrap64 (eX - 1)) (x1000.length : Int)))) * 131)) + (wrap64 ((wrap64 (rd x1000 (Int.tmod (wrap64 ((wrap64 ((wrap64 (eX - 1)) * 7)) + 3)) (x1000.length : Int)))) * 1117)))) + (wrap64 ((wrap64 (eX - 1)) * 29)))) + (wrap64 ((wrap64 (Int.tdiv (wrap64 (eX - 1)) (x1000.length : Int))) * 53)))) 64))) x1, eX))) else (none)) else (none)) else (none)) else (none))))
def ee.f (k : Nat) (aK : List Int) (ez : Int) (a1 : Int) : Option (Int × Int) := if a1 < 1 then (ee.j0 k a1 true aK (wrap64 (ez + 1))) else (ee.j0 k a1 ((aK.length : Int) == 0) aK (wrap64 (ez + 1)))
set_option maxHeartbeats 8000000 in
set_option maxRecDepth 100000 in
theorem ee.calls (k : Nat) (g : Nat) (aK : List Int) (ez : Int) (a1 : Int) (r1 : Int) (r2 : Int) (w0 w : World) (hI : ac w0 w g aK ez) (hB : Below w0.heap.size w0 w) (h : ee.f k aK ez a1 = some (r1, r2)) :
  Calls Try.prog 79 #[.pointer (some ⟨g, 0, none⟩), .int .i64 a1] w fun e w' => e = .returned (.int .i64 r1) ∧ ac w0 w' g aK r2 ∧ Below w0.heap.size w0 w' ∧ ao w w' g none := by
 have HI0 := Az hI; have HK := Az (ao.refl w g none); have HL := Az hB.size; clear hI; have HW0 := Az hB.size; have HB := Az hB; clear hB; have H := h; clear h; unfold ee.f at H; have nk := Az H; clear H; obtain ⟨am0, am1, E8, afj, am2⟩ := HI0.out; have am3 := Db E8; have am4 := Di E8; have am5 := jX E8 1; clear E8 afj; go_enter Try.func79, Try.ntmps79
 go_upto_region 2 with (fail)
 repeat (go_quiet (fail); go_upto_region 2 with (fail))
 go_cut [24] (fun v24 wc => ∃ (kq : Nat) (E9 : Bool), v24 = .bool E9 ∧ ae (ee.j0 kq a1 E9 aK (wrap64 (ez + 1)) = some (r1, r2)) ∧ ae (kq ≤ k) ∧ ae (ac w0 wc g aK (wrap64 (ez + 1))) ∧ ae (ao w wc g none) ∧ ae (Below w0.heap.size w0 wc))
 case first =>
  have H := nk.out; clear nk
  replace H := gB H; rcases H with ⟨nZ, H⟩ | ⟨nZ, H⟩
  ·
   have H' := Az H; clear H; go_wp2
   repeat (go_quiet (fail); try go_wp2)
   go_meet
   case rel => exact ⟨_, (true), rS, H', ⟨mO⟩, ⟨qe_⟩, ⟨qi_⟩, ⟨qg_⟩⟩
  ·
   have H' := Az H; clear H; obtain ⟨am6, am7, Fa, afk, am8⟩ := HI0.out; have am9 := Db Fa; have ana := Di Fa; have anb := jX Fa 1; clear Fa afk; go_wp2
   repeat (go_quiet (fail); try go_wp2)
   go_meet
   case rel => exact ⟨_, (((aK.length : Int) == 0)), rS, H', ⟨mO⟩, ⟨qe_⟩, ⟨qi_⟩, ⟨qg_⟩⟩
 case rest =>
  clear nk; obtain ⟨kq, E9, rfl, HA, HJ2, HI0, HK, HB⟩ := hcut
  rcases kq with _ | mF
  exact (nN HA.out).elim; have H := HA.out; clear HA; simp only [ee.j0] at H
  by_cases c7 : E9 = true
  ·
   subst c7; rw [if_pos rfl] at H; simp only [Option.some.injEq, Prod.mk.injEq] at H; obtain ⟨rfl, rfl⟩ := H; go_wp2
   repeat (go_quiet (fail); try go_wp2)
   go_ret; exact ⟨rE, qe_, qg_, qi_⟩
  ·
   replace c7 := Bool.eq_false_iff.mpr c7; subst c7; rw [if_neg nT] at H
   replace H := gB H; rcases H with ⟨iJ, H⟩ | ⟨iJ, H⟩
   ·
    obtain ⟨yH, sV⟩ : ∃ j_ : Int, (wrap64 ((wrap64 (ez + 1)) - 1)) = j_ := ⟨_, rfl⟩; (first | rw [sV] at H | simp only [sV] at H); rw [sV] at iJ; have anc : (IntKind.i64.wrap ((wrap64 (ez + 1)) - 1)) = yH := (cr _).trans sV; replace H := gD1 H; obtain ⟨nY, H⟩ := H
    by_cases c11 : a1 = 0
    · rw [if_pos c11] at H; exact absurd H (by simp)
    ·
     rw [if_neg c11] at H; have oM := beq_eq_false_iff_ne.mpr c11; have D9 := bne_iff_ne.mpr c11; simp only [Option.some.injEq, Prod.mk.injEq] at H; obtain ⟨rfl, rfl⟩ := H; obtain ⟨ane, anf, Fb, afl, afm⟩ := HI0.out; have ang := Db Fb; have anh := Di Fb; have ani := jX Fb 1; clear Fb afl; obtain ⟨anj, afn, _, _, Vi⟩ := aI afm (yH)
     cases afn
     replace Vi := xN HB.out Vi; go_wp2
     repeat (go_quiet (fail); try go_wp2)
     go_ret; exact ⟨by first | rfl | (simp [jA, jz] <;> rfl) | (simp only [← sV]; first | rfl | (simp [jA, jz] <;> rfl)) | (simp [*, jA, jz] <;> rfl), qe_, qg_, qi_⟩
   ·
    by_cases c13 : (aK.length : Int) = 0
    · rw [if_pos c13] at H; exact absurd H (by simp)
    ·
     rw [if_neg c13] at H; have re := beq_eq_false_iff_ne.mpr c13; have Vj := bne_iff_ne.mpr c13
     have ank : ¬ (aK = []) := fun h_ => c13 (by rw [h_]; rfl)
     obtain ⟨yx, wC⟩ : ∃ j_ : Int, (Int.tmod (wrap64 ((wrap64 (ez + 1)) - 1)) (aK.length : Int)) = j_ := ⟨_, rfl⟩; (first | rw [wC] at H | simp only [wC] at H); replace H := gD2 H; obtain ⟨ue, yo, H⟩ := H; obtain ⟨afo, LO⟩ : ∃ j_ : Int, (Int.tmod (wrap64 ((wrap64 ((wrap64 ((wrap64 (ez + 1)) - 1)) * 7)) + 3)) (aK.length : Int)) = j_ := ⟨_, rfl⟩; (first | rw [LO] at H | simp only [LO] at H); replace H := gD2 H; obtain ⟨uu, TX, H⟩ := H
     by_cases c20 : a1 = 0
     · rw [if_pos c20] at H; exact absurd H (by simp)
     ·
      rw [if_neg c20] at H; have yy := beq_eq_false_iff_ne.mpr c20; have TY := bne_iff_ne.mpr c20; simp only [Option.some.injEq, Prod.mk.injEq] at H; obtain ⟨rfl, rfl⟩ := H; obtain ⟨anl, anm, Fc, afp, Vk⟩ := HI0.out; have ann := Db Fc; have ano := Di Fc; have anp := jX Fc 1; clear Fc afp; obtain ⟨anq, afq, _, _, Vl⟩ := aI Vk (yx)
      cases afq
      replace Vl := xN HB.out Vl; obtain ⟨_, _, Vm⟩ := aJ Vk (afo); replace Vm := xN HB.out Vm; go_wp2
      repeat (go_quiet (fail); try go_wp2)
      go_ret; exact ⟨by first | rfl | (simp [jA, jz] <;> rfl) | (simp only [← wC, ← LO]; first | rfl | (simp [jA, jz] <;> rfl)) | (simp [*, jA, jz] <;> rfl), qe_, qg_, qi_⟩
def vV.f (k : Nat) (aK : List Int) (ez : Int) (l1 : List ByteArray) : Option (ByteArray × Int) := (ee.f k aK ez (l1.length : Int)).bind fun Fe => (if 0 ≤ Fe.1 then (if Fe.1 < (l1.length : Int) then (some (fy ByteArray.empty l1 Fe.1, Fe.2)) else (none)) else (none))
set_option maxHeartbeats 8000000 in
set_option maxRecDepth 100000 in
theorem vV.calls (k : Nat) (g : Nat) (aK : List Int) (ez : Int) (A1 : Option Addr) (c1 : Nat) (l1 : List ByteArray) (r1 : ByteArray) (r2 : Int) (w0 w : World) (hI : ac w0 w g aK ez) (hB : Below w0.heap.size w0 w) (hr1 : Kd.C Kd.string w A1 l1.length l1) (hc1 : l1.length ≤ c1) (hf1 : ∀ ad, A1 = some ad → 0 < l1.length → ad.block ≠ g) (h : vV.f k aK ez l1 = some (r1, r2)) :
  Calls Try.prog 104 #[.pointer (some ⟨g, 0, none⟩), .slice A1 l1.length c1] w fun e w' => e = .returned (.string r1) ∧ ac w0 w' g aK r2 ∧ Below w0.heap.size w0 w' ∧ ao w w' g none := by
 have HR1 := Az hr1; have mq := Az hc1; clear hr1 hc1; have HI0 := Az hI; have HK := Az (ao.refl w g none); have HL := Az hB.size; clear hI; have HW0 := Az hB.size; have HB := Az hB; clear hB; have H := h; clear h; unfold vV.f at H; replace H := bd H; obtain ⟨⟨Ff, afr⟩, A3, H⟩ := H; dsimp only at H; replace H := gD2 H; obtain ⟨kR, nZ, H⟩ := H; simp only [Option.some.injEq, Prod.mk.injEq] at H; obtain ⟨rfl, rfl⟩ := H; go_enter Try.func104, Try.ntmps104
 go_wp2_with (first | ((with_reducible refine gK 79 rfl ?_); refine gC (some 9) Try.func79 #[.pointer (some ⟨g, 0, none⟩), .int .i64 (l1.length : Int)] ?_; (with_reducible refine (ee.calls k g aK ez (l1.length : Int) Ff afr w0 _ ?side1 ?side2 A3.out).mono ?_); (case side1 => exact qe_); (case side2 => exact qg_); rintro e w6 ⟨rfl, hi, hb, hk⟩; refine ⟨_, rfl, ?_⟩; replace HK := Az (ao.trans (qi_) hk (.inl rfl)); replace HB := Az (hb); replace HI0 := Az (hi); clear hb hk hi; have LP : 0 ≤ (Ff : Int) := oA; have LQ : Ff < (l1.length : Int) := oA; obtain ⟨afs, aft, Vn⟩ := Kd.aab HR1.out Ff LP LQ; cases aft; replace Vn := HG HK.out Vn (by first | (rw [add_block]; exact hf1 _ rfl (by omega)) | exact hf1 _ rfl (by omega) | exact hf1 afs rfl (by omega)); replace LP := eq_true LP; replace LQ := eq_true LQ))
 go_ret; exact ⟨rE, qe_, qg_, qi_⟩
end Go.Proofs.Ytlpbalebodlipaa.PL
