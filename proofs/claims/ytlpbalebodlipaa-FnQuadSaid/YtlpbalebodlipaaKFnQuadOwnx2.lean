/- A part of the proof of FnQuad. There are no conditions. -/
import Derived.Test.YtlpbalebodlipaaKFnQuadOwnx1
namespace Go.Proofs.Ytlpbalebodlipaa.PL
open Go.RowKit Go.Proofs.YtlpbalebodlipaaW.PrintWords Go.Proofs.YtlpbalebodlipaaW.PrintLast Go.Proofs.YtlpbalebodlipaaW.PrintMore
theorem CZ {p : Prop} (h : p := by exact rA (Kd.ah ay.out (fun _ hk => ⟨⟨hk.1.2.1, ⟨hk.1.2.2.1, ⟨hk.1.2.2.2, hk.2⟩⟩⟩, hk.1.1⟩))) : p := h
theorem Da {p : Prop} (h : p := by exact (be (by repeat (first | (with_reducible first | exact HBW.out | apply bn | apply bz | apply aX) | exact HBW.out)))) : p := h
theorem oH {p : Prop} (h : p := by exact (be (bU1 HB.out oR.out))) : p := h
theorem PR {p : Prop} (h : p := by exact (Kd.cJ (ok := (fun k_ => oV k_ u6 ∧ oV k_ eW ∧ oV k_ u9 ∧ oV k_ u10)) (rA (Kd.ah aE.out (fun _ hk => ⟨⟨hk.2.1, ⟨hk.2.2.1, ⟨hk.2.2.2.1, hk.2.2.2.2⟩⟩⟩, hk.1⟩))) hg hat)) : p := h
theorem qT {p : Prop} (h : p := by exact (Kd.C_F (Kd.yb .i64) dr.out)) : p := h
theorem qS {p : Prop} (h : p := by exact (Kd.C_F (Kd.yb .i64) cH.out)) : p := h
theorem Su {p : Prop} (h : p := by exact rA (Kd.ah hZ.out (fun _ hk => ⟨⟨hk.2.1, ⟨hk.2.2.1, ⟨hk.2.2.2.1, hk.2.2.2.2⟩⟩⟩, hk.1⟩))) : p := h
theorem PW {p : Prop} (h : p := by exact rA (Kd.ah hZ.out (fun _ hk => ⟨⟨hk.1.2.1, ⟨hk.1.2.2.1, ⟨hk.1.2.2.2, hk.2⟩⟩⟩, hk.1.1⟩))) : p := h
theorem OX {p : Prop} (h : p := by exact rA (Kd.ah jE.out (fun _ hk => ⟨⟨hk.2.1, ⟨hk.2.2.1, ⟨hk.2.2.2.1, hk.2.2.2.2⟩⟩⟩, hk.1⟩))) : p := h
theorem Qv {p : Prop} (h : p := by exact rA (Kd.ah jE.out (fun _ hk => ⟨⟨hk.1.1, ⟨hk.1.2.2.1, ⟨hk.1.2.2.2, hk.2⟩⟩⟩, hk.1.2.1⟩))) : p := h
theorem P2 {p : Prop} (h : p := by exact rA (Kd.ah lC.out (fun _ hk => ⟨⟨hk.1.1, ⟨hk.1.2.2.1, ⟨hk.1.2.2.2, hk.2⟩⟩⟩, hk.1.2.1⟩))) : p := h
theorem Sz {p : Prop} (h : p := by exact rA (Kd.ah aN.out (fun _ hk => ⟨⟨hk.2.1, ⟨hk.2.2.1, ⟨hk.2.2.2.1, hk.2.2.2.2⟩⟩⟩, hk.1⟩))) : p := h
theorem RH {p : Prop} (h : p := by exact rA (Kd.ah ay.out (fun _ hk => ⟨⟨hk.2.1, ⟨hk.2.2.1, ⟨hk.2.2.2.1, hk.2.2.2.2⟩⟩⟩, hk.1⟩))) : p := h
theorem Re {p : Prop} (h : p := by exact rA (Kd.ah jk.out (fun _ hk => ⟨⟨hk.2.1, ⟨hk.2.2.1, ⟨hk.2.2.2.1, hk.2.2.2.2⟩⟩⟩, hk.1⟩))) : p := h
theorem Qa {p : Prop} (h : p := by exact rA (Kd.ah aN.out (fun _ hk => ⟨hk.1.1, ⟨hk.1.2.1, ⟨hk.1.2.2.1, ⟨hk.1.2.2.2, hk.2⟩⟩⟩⟩))) : p := h
theorem PU {p : Prop} (h : p := by exact rA (Kd.ah aE.out (fun _ hk => ⟨⟨hk.1.2.1, ⟨hk.1.2.2.1, ⟨hk.1.2.2.2, hk.2⟩⟩⟩, hk.1.1⟩))) : p := h
theorem Oo {p : Prop} (h : p := by exact rA (Kd.ah jk.out (fun _ hk => ⟨⟨hk.1.2.1, ⟨hk.1.2.2.1, ⟨hk.1.2.2.2, hk.2⟩⟩⟩, hk.1.1⟩))) : p := h
theorem vx {p : Prop} (h : p := by exact (au (bU1 HB.out iL.out) hb)) : p := h
theorem xQ {p : Prop} (h : p := by exact (au (bU1 HB.out yB.out) hb)) : p := h
theorem xC {p : Prop} (h : p := by exact (au (bU1 HB.out pP.out) hb)) : p := h
theorem ye {p : Prop} (h : p := by exact (au (bU1 HB.out oR.out) hb)) : p := h
attribute [local go_sem] nV nQ nE ny nA nG nO nR   -- for this text's walks alone
set_option linter.unusedVariables false
set_option linter.unusedSimpArgs false
def lv.l0 : Nat → List Int → Int → Option (Bool)
 | 0, _, _ => none
 | k + 1, x3, x4 => if x4 < (x3.length : Int) then (if 0 ≤ x4 then (if (rd x3 x4) = 4 then (lv.l0 k x3 (wrap64 (x4 + 1))) else (some false)) else (none)) else (some true)
def lv.f (k : Nat) (ag : List Int) (af : List Int) : Option (Bool) := (mN.f k ag af).bind fun AX => ((hG.f k AX).bind fun AY => (lv.l0 k AY 0))
set_option maxHeartbeats 8000000 in
set_option maxRecDepth 100000 in
theorem lv.calls (k : Nat) (aA : Option Addr) (az : Nat) (ag : List Int) (am : Option Addr) (al : Nat) (af : List Int) (r : Bool) (w : World) (dR : Kd.C (Kd.int .i64) w aA ag.length ag) (d7 : ag.length ≤ az) (dl : Kd.C (Kd.int .i64) w am af.length af) (dq : af.length ≤ al) (h : lv.f k ag af = some r) :
  Calls Try.prog 91 #[.agg #[.slice aA ag.length az, .slice am af.length al]] w fun e w' => e = .returned (.bool r) ∧ Below w.heap.size w w' := by
 have jZ := Try.underlying29; have dr := Az dR; have cZ := Az d7; clear dR d7; have cH := Az dl; have cQ := Az dq; clear dl dq; have HB := bZ w; have H := h; clear h; unfold lv.f at H; replace H := bd H; obtain ⟨AX, A2, H⟩ := H; replace H := bd H; obtain ⟨AY, A3, H⟩ := H; have H' := Az H; clear H; go_enter Try.func91, Try.ntmps91
 go_wp2_with (first | ((with_reducible refine gd 1 rfl ?_); refine bE 1 #[.slice aA ag.length az, .slice am af.length al] 29 ?_; intro adl hg w4 hbox hb; have uv := Az (hbox); have uw := gW hg (bU0 HB.out); replace HB := Az (au (bU0 HB.out) hb); clear hb hbox hg; have hz5 := bc2 uv.out) | ((with_reducible refine gK 99 rfl ?_); refine gC (some 6) Try.func99 #[.agg #[.slice aA ag.length az, .slice am af.length al]] ?_; (with_reducible refine (mN.calls k _ _ ag _ _ af AX _ ?_ ?_ ?_ ?_ A2.out).mono ?_); exact cU (Kd.cd dr.out HB.out); exact cZ.out; exact cU (Kd.cd cH.out HB.out); exact cQ.out; rintro e w6 ⟨ak9, rfl, ho0, hb⟩; refine ⟨_, rfl, ?_⟩; have yC := Az (Kd.bu ho0 (be (bU1 HB.out uw.out))); replace uv := kB uv.out hb; replace HB := Az (au (bU1 HB.out uw.out) hb); clear hb ho0; obtain ⟨yD, yE, Kp⟩ := Kd.aU yC.out; subst Kp) | ((with_reducible refine gK 113 rfl ?_); refine gC (some 7) Try.func113 #[.slice yD AX.length yE] ?_; (with_reducible refine (hG.calls k _ _ AX AY _ ?_ ?_ A3.out).mono ?_); exact cU ((Kd.av yC.out).2.2); exact (Kd.av yC.out).2.1; rintro e w8 ⟨adm, rfl, ho0, hb⟩; refine ⟨_, rfl, ?_⟩; have adn := Az (Kd.bu (Kd.aQ ho0 (Kd.ar (rU yC.out))) (be (bU1 HB.out uw.out))); replace yC := Az (Kd.a8 (rU yC.out) (Kd.ax ho0) hb); replace uv := kB uv.out hb; replace HB := Az (au (bU1 HB.out uw.out) hb); clear hb ho0))
 go_loopg [4] k (fun kq v4 w' => ∃ (bq : Int), v4 = .int .i64 bq ∧ ae (lv.l0 kq AY bq = some r) ∧ ae (kq ≤ k) ∧ ae (Kd.R (Kd.int .i64) 3 w' w.heap.size (fun _ => True) adm AY) ∧ ae (w'.heap[adl]? = some (.cells #[(.slice aA ag.length az), (.slice am af.length al)] 29 (0, 0))) ∧ ae (Below w.heap.size w w'))
 case atStart => exact ⟨(0), rS, H', ⟨Nat.le_refl _⟩, ⟨rM adn.out⟩, ⟨kU uv.out⟩, ⟨bU1 HB.out uw.out⟩⟩
 case round =>
  clear H'; obtain ⟨bq, rfl, HA, eO, aC, uv, HB⟩ := hrel
  rcases gk with _ | k1
  exact (nN HA.out).elim; have H := HA.out; clear HA; simp only [lv.l0] at H
  replace H := gB H; rcases H with ⟨nX, H⟩ | ⟨nX, H⟩
  ·
   replace H := gD1 H; obtain ⟨nY, H⟩ := H
   replace H := gQ H; rcases H with ⟨oM, D9, H⟩ | ⟨oM, D9, H⟩
   ·
    have H' := Az H; clear H; obtain ⟨cS, cN, mz⟩ := Kd.aU aC.out; subst mz; obtain ⟨ado, Kq, adp, adq, adr⟩ := aI (Kd.av aC.out).2.2 bq
    cases Kq; go_wp2; go_roundg k1
    case measure => exact mO
    case rel => exact ⟨(wrap64 (bq + 1)), rS, H', ⟨mO⟩, ⟨rU aC.out⟩, ⟨kU uv.out⟩, ⟨bU1 HB.out uw.out⟩⟩
   ·
    obtain rfl := Option.some.inj H; obtain ⟨sD, qq, pJ⟩ := Kd.aU aC.out; subst pJ; obtain ⟨ado, Kq, adp, adq, adr⟩ := aI (Kd.av aC.out).2.2 bq
    cases Kq; go_wp2; go_ret; exact ⟨rE, bU1 HB.out uw.out⟩
  · obtain rfl := Option.some.inj H; obtain ⟨dx, cE, pL⟩ := Kd.aU aC.out; subst pL; go_wp2; go_ret; exact ⟨rE, bU1 HB.out uw.out⟩
def mV.f (k : Nat) (ag : List Int) (af : List Int) : Option (List Int) := (fP.f k ag).bind fun ux => ((mN.f k ag af).bind fun AZ => ((fP.f k AZ).bind fun uy => (some (([(ux.length : Int), wrap64 ((af.length : Int) / 2), (uy.length : Int)] : List Int)))))
def mV.T1 : Bool × List (List Nat × List Nat) := (true, [([], []), ([0], [0]), ([1], [1]), ([2], [2]), ([], []), ([4], [4]), ([5], [5]), ([6], [6]), ([], []), ([8, 2], [8]), ([9, 9], [9]), ([10], [10]), ([3, 7, 11], [3, 7, 11]), ([12, 10, 0, 1, 2, 3, 4, 5, 6, 7, 8, 9, 10, 11, 12], [12])])
def mV.B1 : List Nat := [0, 1, 3, 7, 0, 16, 48, 112, 0, 263, 775, 1799, 4095, 8191]
theorem mV.GK : rtab .any (opsOf Try.f114 1) = mV.T1 := by kernel_rfl
theorem mV.Ir : ir mV.T1.2 mV.B1 = true := by kernel_rfl
set_option maxHeartbeats 8000000 in
set_option maxRecDepth 100000 in
theorem mV.calls (k : Nat) (aA : Option Addr) (az : Nat) (ag : List Int) (am : Option Addr) (al : Nat) (af : List Int) (r : List Int) (w : World) (dR : Kd.C (Kd.int .i64) w aA ag.length ag) (d7 : ag.length ≤ az) (dl : Kd.C (Kd.int .i64) w am af.length af) (dq : af.length ≤ al) (h : mV.f k ag af = some r) :
  Calls Try.prog 114 #[.agg #[.slice aA ag.length az, .slice am af.length al]] w fun e w' => ∃ bK : Value, e = .returned (bK) ∧ Kd.R (Kd.int .i64) 3 w' w.heap.size (fun _ => True) bK r ∧ Below w.heap.size w w' := by
 have jZ := Try.underlying29; have dr := Az dR; have cZ := Az d7; clear dR d7; have cH := Az dl; have cQ := Az dq; clear dl dq; have HB := bZ w; have H := h; clear h; unfold mV.f at H; replace H := bd H; obtain ⟨ux, A2, H⟩ := H; replace H := bd H; obtain ⟨AZ, A3, H⟩ := H; replace H := bd H; obtain ⟨uy, A4, H⟩ := H; generalize Eo : (([(ux.length : Int), wrap64 ((af.length : Int) / 2), (uy.length : Int)] : List Int) : List Int) = y507 at H; replace Eo := Ay Eo; obtain rfl := Option.some.inj H; go_enter Try.func114, Try.ntmps114
 try go_wp2_with (first | ((with_reducible refine gd 1 rfl ?_); refine bE 1 #[.slice aA ag.length az, .slice am af.length al] 29 ?_; intro Ul hg w5 hbox hb; have ko := Az (hbox); have sJ := gW hg (bU0 HB.out); replace HB := Az (au (bU0 HB.out) hb); clear hb hbox hg))
 replace ko := Az (dk ko.out); replace HB := Az (aX HB.out); refine fX (n := 14) (S := fun w' => w'.cell? ⟨Ul, 0, none⟩ = some (.slice aA ag.length az) ∧ w'.cell? ⟨Ul, 1, none⟩ = some (.slice am af.length al)) (ds := []) (bv 14 0) (by kernel_rfl) rfl rfl ⟨(aM ko.out 0).trans rfl, (aM ko.out 1).trans rfl⟩ (fun hHeld => ?_); refine gn mV.GK mV.Ir (fun HT_ HW_ => ?_); generalize w5.drew = w6 at ko HB hHeld ⊢; refine ak (i := 0) (N := some 3) (v := ?_) (a' := ?_) (bv 14 1) rfl rfl (aj HT_.out (by kernel_rfl)) (fun _ _ _ h => h) (Or.inl ⟨by rfl, ?_⟩) ?_ ?_; rotate_left; (exact yP); rotate_left; (exact aP); refine ak (i := 4) (N := some 7) (v := ?_) (a' := ?_) (bv 14 17) rfl rfl (aj HT_.out (by kernel_rfl)) (fun _ _ _ h => h) (Or.inl ⟨by rfl, ?_⟩) ?_ ?_; rotate_left; (exact yP); rotate_left; (exact aP); refine dh (i := 1) (N := some 4) (v := ?_) (a' := ?_) (bv 14 19) rfl rfl (dc HT_.out HW_.out (by kernel_rfl)) (fun _ _ _ h => h) (Or.inl ⟨by rfl, ?_⟩) hHeld ?_ ?_; rotate_left
 ·
  rintro w' ⟨s0, s1⟩; go_simp
  with_reducible rfl
 rotate_left; (exact aP); refine dh (i := 5) (N := some 8) (v := ?_) (a' := ?_) (bv 14 51) rfl rfl (dc HT_.out HW_.out (by kernel_rfl)) (fun _ _ _ h => h) (Or.inl ⟨by rfl, ?_⟩) hHeld ?_ ?_; rotate_left
 ·
  rintro w' ⟨s0, s1⟩; go_simp
  with_reducible rfl
 rotate_left; (exact aP); refine ak (i := 6) (N := some 9) (v := ?_) (a' := ?_) (bv 14 115) rfl rfl (aj HT_.out (by kernel_rfl)) (fun _ _ _ h => h) (Or.inl ⟨by rfl, ?_⟩) ?_ ?_; rotate_left; (exact yP); rotate_left; (exact aP); refine ak (i := 7) (N := some 10) (v := ?_) (a' := ?_) (bv 14 243) rfl rfl (aj HT_.out (by kernel_rfl)) (fun _ _ _ h => h) (Or.inl ⟨by rfl, ?_⟩) ?_ ?_; rotate_left; (exact yP); rotate_left; (exact aP); refine dh (i := 8) (N := some 11) (v := ?_) (a' := ?_) (bv 14 499) rfl rfl (dc HT_.out HW_.out (by kernel_rfl)) (fun _ _ _ h => h) (Or.inl ⟨by rfl, ?_⟩) hHeld ?_ ?_; rotate_left
 ·
  rintro w' ⟨s0, s1⟩; go_simp
  with_reducible rfl
 rotate_left; (exact aP); refine er (i := 2) (N := some 5) (bv 14 503) rfl rfl (dj HT_.out (by kernel_rfl)) (by decide) (fun K hK => ?_); refine gv Try.func121 (by kernel_rfl) rfl #[.slice aA ag.length az] (by rfl) rfl rfl lQ ?_
 with_reducible refine (fP.calls k _ _ ag ux _ ?side1 ?side2 A2.out).mono ?_
 (case side1 => exact cU (Kd.cd dr.out HB.out))
 (case side2 => exact cZ.out)
 rintro e w7 ⟨ala, rfl, ho0, hb⟩; refine ⟨_, rfl, ?_⟩; have uz := Az (Kd.qZ ho0 (be (bU1 HB.out sJ.out))); replace ko := kB ko.out hb; replace HB := Az (au (bU1 HB.out sJ.out) hb); clear hb ho0; obtain ⟨DI, Am, q7⟩ := Kd.qX uz.out; (first | subst q7 | (injection q7 with aG bC aH; have bD := aG.symm; have bF := aH.symm; clear aG bC aH; subst bD; subst bF)); refine hK.out _ _ ⟨(aM ko.out 0).trans rfl, (aM ko.out 1).trans rfl⟩ (fun hHeld => ?_); clear hK K; refine bw (a' := ?_) ?_ ?_; rotate_left
 ·
  show Act.put _ (some 5) _ = _
  simp only [Act.put, List.setIfInBounds_toArray, List.set_cons_zero, List.set_cons_succ, cr, cK]; rfl
 refine ak (i := 3) (N := some 6) (v := ?_) (a' := ?_) (bv 14 511) rfl rfl (aj HT_.out (by kernel_rfl)) (fun _ _ _ h => h) (Or.inl ⟨by rfl, ?_⟩) ?_ ?_; rotate_left; (exact yP); rotate_left; (exact aP); refine er (i := 9) (N := some 12) (bv 14 1023) rfl rfl (dj HT_.out (by kernel_rfl)) (by decide) (fun K hK => ?_); refine gv Try.func99 (by kernel_rfl) rfl #[.agg #[.slice aA ag.length az, .slice am af.length al]] (by rfl) rfl rfl lQ ?_
 with_reducible refine (mN.calls k _ _ ag _ _ af AZ _ ?side1 ?side2 ?side3 ?side4 A3.out).mono ?_
 (case side1 => exact cU (Kd.cd dr.out HB.out))
 (case side2 => exact cZ.out)
 (case side3 => exact cU (Kd.cd cH.out HB.out))
 (case side4 => exact cQ.out)
 rintro e w9 ⟨alb, rfl, ho0, hb⟩; refine ⟨_, rfl, ?_⟩; replace uz := Az (Kd.pq (sU uz.out) (Kd.ax ho0) hb); have sK := Az (Kd.bu ho0 (be (bU1 HB.out sJ.out))); replace ko := kB ko.out hb; replace HB := Az (au (bU1 HB.out sJ.out) hb); clear hb ho0; obtain ⟨wj, rc, oO⟩ := Kd.aU sK.out; (first | subst oO | (injection oO with aG bC aH; have bD := aG.symm; have bF := aH.symm; clear aG bC aH; subst bD; subst bF)); refine hK.out _ _ ⟨(aM ko.out 0).trans rfl, (aM ko.out 1).trans rfl⟩ (fun hHeld => ?_); clear hK K; refine bw (a' := ?_) ?_ ?_; rotate_left
 ·
  show Act.put _ (some 12) _ = _
  simp only [Act.put, List.setIfInBounds_toArray, List.set_cons_zero, List.set_cons_succ, cr, cK]; rfl
 refine er (i := 10) (N := some 13) (bv 14 2047) rfl rfl (dj HT_.out (by kernel_rfl)) (by decide) (fun K hK => ?_); refine gv Try.func121 (by kernel_rfl) rfl #[.slice wj AZ.length rc] (by rfl) rfl rfl lQ ?_
 with_reducible refine (fP.calls k _ _ AZ uy _ ?side1 ?side2 A4.out).mono ?_
 (case side1 => exact cU ((Kd.av sK.out).2.2))
 (case side2 => exact (Kd.av sK.out).2.1)
 rintro e qt ⟨alc, rfl, ho0, hb⟩; refine ⟨_, rfl, ?_⟩; have Kr := Az (Kd.qZ (Kd.tJ (Kd.tJ ho0 (Kd.G7 (sU uz.out))) (Kd.ar (rU sK.out))) (be (bU1 HB.out sJ.out))); replace uz := Az (Kd.pq (sU uz.out) (Kd.CF ho0) hb); replace sK := rB sK.out hb; replace ko := kB ko.out hb; replace HB := Az (au (bU1 HB.out sJ.out) hb); clear hb ho0; obtain ⟨cS, cN, mz⟩ := Kd.qX Kr.out; (first | subst mz | (injection mz with aG bC aH; have bD := aG.symm; have bF := aH.symm; clear aG bC aH; subst bD; subst bF)); refine hK.out _ _ ⟨(aM ko.out 0).trans rfl, (aM ko.out 1).trans rfl⟩ (fun hHeld => ?_); clear hK K; refine bw (a' := ?_) ?_ ?_; rotate_left
 ·
  show Act.put _ (some 13) _ = _
  simp only [Act.put, List.setIfInBounds_toArray, List.set_cons_zero, List.set_cons_succ, cr, cK]; rfl
 refine ak (i := 11) (N := some 14) (v := ?_) (a' := ?_) (bv 14 4095) rfl rfl (aj HT_.out (by kernel_rfl)) (fun _ _ _ h => h) (Or.inl ⟨by rfl, ?_⟩) ?_ ?_; rotate_left; (exact yP); rotate_left; (exact aP); refine er (i := 12) (N := some 15) (bv 14 8191) rfl rfl (dj HT_.out (by kernel_rfl)) (by decide) (fun K hK => ?_); refine Kd.vN (Kd.int .i64) _ 3 ?hg (N := 15) ?hd (xs := ([(ux.length : Int), wrap64 ((af.length : Int) / 2), (uy.length : Int)] : List Int)) (inner := [.int .i64 (ux.length : Int), .int .i64 (wrap64 ((af.length : Int) / 2)), .int .i64 (uy.length : Int)]) (ok := fun _ => True) (okp := fun _ => True) ?hr ?hp (fun _ hk => hk) trivial (Below.refl _ _) (Nat.le_refl _) (by simp) ?_; (case hd => rfl); (case hg => rfl); (case hr => first | (go_simp; done) | (go_simp; rfl)); (case hp => exact (Reps.one (show Kd.M (Kd.int .i64) _ _ _ (ux.length : Int) [.int .i64 (ux.length : Int)] from rfl) (Reps.one (show Kd.M (Kd.int .i64) _ _ _ (wrap64 ((af.length : Int) / 2)) [.int .i64 (wrap64 ((af.length : Int) / 2))] from rfl) (Reps.one (show Kd.M (Kd.int .i64) _ _ _ (uy.length : Int) [.int .i64 (uy.length : Int)] from rfl) (Reps.none _ _))))); intro ald sL oh hb hg_ hnew_; clear hg_ hnew_; (first | rw [← Eo.out] at oh | (simp only [Int.reduceToNat] at oh; rw [← Eo.out] at oh)); replace uz := Az (Kd.pq (sU uz.out) (Kd.ax oh) hb); replace Kr := Az (Kd.pq (sU Kr.out) (Kd.ax oh) hb); have ads := Az (Kd.bu (Kd.aQ oh (Kd.ar (rU sK.out))) (be (bU1 HB.out sJ.out))); replace sK := Az (Kd.a8 (rU sK.out) (Kd.ax oh) hb); replace ko := kB ko.out hb; replace HB := Az (au (bU1 HB.out sJ.out) hb); clear hb oh; refine hK.out _ _ ⟨(aM ko.out 0).trans rfl, (aM ko.out 1).trans rfl⟩ (fun hHeld => ?_); clear hK K; refine bw (a' := ?_) ?_ ?_; rotate_left
 ·
  show Act.put _ (some 15) _ = _
  simp only [Act.put, List.setIfInBounds_toArray, List.set_cons_zero, List.set_cons_succ, cr, cK]; rfl
 refine ak (i := 13) (N := some 2) (v := ?_) (a' := ?_) (bv 14 16383) rfl rfl (aj HT_.out (by kernel_rfl)) (fun _ _ _ h => h) (Or.inl ⟨by rfl, ?_⟩) ?_ ?_; rotate_left; (exact yP); rotate_left; (exact aP); refine fY (gp HT_.out (by kernel_rfl)) ?_
 try go_wp2
 go_ret; exact ⟨_, rE, by refine rA ?_; exact Kd.ah ads.out (fun _ hk => trivial), bU1 HB.out sJ.out⟩
def vy.f (k : Nat) (ag : List Int) (af : List Int) : Option (Int) := (mV.f k ag af).bind fun l7 => (if 0 < (l7.length : Int) then (if 1 < (l7.length : Int) then (if 2 < (l7.length : Int) then (some (wrap64 (Int.tdiv (wrap64 ((wrap64 ((wrap64 (2 - (rd l7 0))) + (rd l7 1))) - (rd l7 2))) 2))) else (none)) else (none)) else (none))
set_option maxHeartbeats 8000000 in
set_option maxRecDepth 100000 in
theorem vy.calls (k : Nat) (aA : Option Addr) (az : Nat) (ag : List Int) (am : Option Addr) (al : Nat) (af : List Int) (r : Int) (w : World) (dR : Kd.C (Kd.int .i64) w aA ag.length ag) (d7 : ag.length ≤ az) (dl : Kd.C (Kd.int .i64) w am af.length af) (dq : af.length ≤ al) (h : vy.f k ag af = some r) :
  Calls Try.prog 92 #[.agg #[.slice aA ag.length az, .slice am af.length al]] w fun e w' => e = .returned (.int .i64 r) ∧ Below w.heap.size w w' := by
 have jZ := Try.underlying29; have dr := Az dR; have cZ := Az d7; clear dR d7; have cH := Az dl; have cQ := Az dq; clear dl dq; have HB := bZ w; have H := h; clear h; unfold vy.f at H; replace H := bd H; obtain ⟨l7, A2, H⟩ := H; replace H := gP H; obtain ⟨c3, H⟩ := H; have ly := decide_eq_true c3; have sr : decide (0 < l7.length) = true := decide_eq_true (by omega); clear c3; replace H := gP H; obtain ⟨c4, H⟩ := H; have kR := decide_eq_true c4; have II : decide (1 < l7.length) = true := decide_eq_true (by omega); clear c4; replace H := gP H; obtain ⟨c5, H⟩ := H; have nZ := decide_eq_true c5; have adt : decide (2 < l7.length) = true := decide_eq_true (by omega); clear c5; obtain rfl := Option.some.inj H; go_enter Try.func92, Try.ntmps92
 go_wp2_with (first | ((with_reducible refine gd 1 rfl ?_); refine bE 1 #[.slice aA ag.length az, .slice am af.length al] 29 ?_; intro ale hg w6 hbox hb; have Ks := Az (hbox); have Kt := gW hg (bU0 HB.out); replace HB := Az (au (bU0 HB.out) hb); clear hb hbox hg; have hz7 := bc2 Ks.out) | (go_at_call 114; (with_reducible refine (mV.calls k _ _ ag _ _ af l7 _ ?_ ?_ ?_ ?_ A2.out).mono ?_); exact cU (Kd.cd dr.out HB.out); exact cZ.out; exact cU (Kd.cd cH.out HB.out); exact cQ.out; rintro e w8 ⟨alf, rfl, ho0, hb⟩; have Ep := Az (Kd.bu ho0 (be (bU1 HB.out Kt.out))); replace Ks := kB Ks.out hb; replace HB := Az (au (bU1 HB.out Kt.out) hb); clear hb ho0; obtain ⟨sN, sO, wH⟩ := Kd.aU Ep.out; subst wH; have Ku : 0 ≤ (0 : Int) := (by omega); have Kv : 0 < (l7.length : Int) := oA; obtain ⟨Um, adu, Un⟩ := Kd.lu (Kd.av Ep.out).2.2 0 Ku Kv; cases adu; have alg : (0 < l7.length) = True := eq_true (by omega); rw [show ((0 : Int)).toNat = 0 from rfl] at Un; rw [Addr.add_zero'] at Un; replace Ku := eq_true Ku; replace Kv := eq_true Kv; have Kw : 0 ≤ (1 : Int) := (by omega); have Kx : 1 < (l7.length : Int) := oA; obtain ⟨adv, adw, adx⟩ := Kd.lu (Kd.av Ep.out).2.2 1 Kw Kx; obtain rfl : Um = adv := (by injection adw); simp only [show (1 : Int).toNat = 1 from rfl, Nat.reduceMul, Nat.reduceEqDiff, Go.Addr.add, ↓reduceIte] at adx; have alh : (1 < l7.length) = True := eq_true (by omega); replace Kw := eq_true Kw; replace Kx := eq_true Kx; have Ky : 0 ≤ (2 : Int) := (by omega); have Kz : 2 < (l7.length : Int) := oA; obtain ⟨ady, adz, adA⟩ := Kd.lu (Kd.av Ep.out).2.2 2 Ky Kz; obtain rfl : Um = ady := (by injection adz); simp only [show (2 : Int).toNat = 2 from rfl, Nat.reduceMul, Nat.reduceEqDiff, Go.Addr.add, ↓reduceIte] at adA; have ali : (2 < l7.length) = True := eq_true (by omega); replace Ky := eq_true Ky; replace Kz := eq_true Kz))
 repeat (go_quiet (fail); try go_wp2_with (fail))
 go_ret; exact ⟨rE, bU1 HB.out Kt.out⟩
def tH.f (k : Nat) (ag : List Int) (af : List Int) : Option (Bool) := (eL.f k ag af).bind fun KA => (if KA = true then ((lv.f k ag af).bind fun KB => (if KB = true then ((vy.f k ag af).bind fun KC => (some (KC == 0))) else (some false))) else (some false))
set_option maxHeartbeats 8000000 in
set_option maxRecDepth 100000 in
theorem tH.calls (k : Nat) (aA : Option Addr) (az : Nat) (ag : List Int) (am : Option Addr) (al : Nat) (af : List Int) (r : Bool) (w : World) (dR : Kd.C (Kd.int .i64) w aA ag.length ag) (d7 : ag.length ≤ az) (dl : Kd.C (Kd.int .i64) w am af.length af) (dq : af.length ≤ al) (h : tH.f k ag af = some r) :
  Calls Try.prog 50 #[.agg #[.slice aA ag.length az, .slice am af.length al]] w fun e w' => e = .returned (.bool r) ∧ Below w.heap.size w w' := by
 have jZ := Try.underlying29; have dr := Az dR; have cZ := Az d7; clear dR d7; have cH := Az dl; have cQ := Az dq; clear dl dq; have HB := bZ w; have H := h; clear h; unfold tH.f at H; replace H := bd H; obtain ⟨KA, A2, H⟩ := H
 by_cases c3 : KA = true
 ·
  subst c3; rw [if_pos rfl] at H; replace H := bd H; obtain ⟨KB, A4, H⟩ := H
  by_cases c5 : KB = true
  ·
   subst c5; rw [if_pos rfl] at H; replace H := bd H; obtain ⟨KC, A6, H⟩ := H; obtain rfl := Option.some.inj H; go_enter Try.func50, Try.ntmps50
   go_wp2_with (first | ((with_reducible refine gd 1 rfl ?_); refine bE 1 #[.slice aA ag.length az, .slice am af.length al] 29 ?_; intro Uo hg w7 hbox hb; have kD := Az (hbox); have yB := gW hg (bU0 HB.out); replace HB := Az (au (bU0 HB.out) hb); clear hb hbox hg; have um := bc2 kD.out) | ((with_reducible refine gK 90 rfl ?_); refine gC (some 4) Try.func90 #[.agg #[.slice aA ag.length az, .slice am af.length al]] ?_; (with_reducible refine (eL.calls k _ _ ag _ _ af true _ ?_ ?_ ?_ ?_ A2.out).mono ?_); exact cU (Kd.cd dr.out HB.out); exact cZ.out; exact cU (Kd.cd cH.out HB.out); exact cQ.out; rintro e w9 ⟨rfl, hb⟩; refine ⟨_, rfl, ?_⟩; replace kD := kB kD.out hb; replace HB := Az xQ; clear hb; have DT := bc2 kD.out) | (go_at_call 91; (with_reducible refine (lv.calls k _ _ ag _ _ af true _ ?_ ?_ ?_ ?_ A4.out).mono ?_); exact cU (Kd.cd dr.out HB.out); exact cZ.out; exact cU (Kd.cd cH.out HB.out); exact cQ.out; rintro e qt ⟨rfl, hb⟩; replace kD := kB kD.out hb; replace HB := Az xQ; clear hb; have Au := bc2 kD.out) | (go_at_call 92; (with_reducible refine (vy.calls k _ _ ag _ _ af KC _ ?_ ?_ ?_ ?_ A6.out).mono ?_); exact cU (Kd.cd dr.out HB.out); exact cZ.out; exact cU (Kd.cd cH.out HB.out); exact cQ.out; rintro e sL ⟨rfl, hb⟩; replace kD := kB kD.out hb; replace HB := Az xQ; clear hb))
   go_ret; exact ⟨rE, bU1 HB.out yB.out⟩
  ·
   replace c5 := Bool.eq_false_iff.mpr c5; subst c5; rw [if_neg nT] at H; obtain rfl := Option.some.inj H; go_enter Try.func50, Try.ntmps50
   go_wp2_with (first | ((with_reducible refine gd 1 rfl ?_); refine bE 1 #[.slice aA ag.length az, .slice am af.length al] 29 ?_; intro Uo hg DU hbox hb; have kD := Az (hbox); have yB := gW hg (bU0 HB.out); replace HB := Az (au (bU0 HB.out) hb); clear hb hbox hg; have DV := bc2 kD.out) | ((with_reducible refine gK 90 rfl ?_); refine gC (some 4) Try.func90 #[.agg #[.slice aA ag.length az, .slice am af.length al]] ?_; (with_reducible refine (eL.calls k _ _ ag _ _ af true _ ?_ ?_ ?_ ?_ A2.out).mono ?_); exact cU (Kd.cd dr.out HB.out); exact cZ.out; exact cU (Kd.cd cH.out HB.out); exact cQ.out; rintro e w16 ⟨rfl, hb⟩; refine ⟨_, rfl, ?_⟩; replace kD := kB kD.out hb; replace HB := Az xQ; clear hb; have Jl := bc2 kD.out) | (go_at_call 91; (with_reducible refine (lv.calls k _ _ ag _ _ af false _ ?_ ?_ ?_ ?_ A4.out).mono ?_); exact cU (Kd.cd dr.out HB.out); exact cZ.out; exact cU (Kd.cd cH.out HB.out); exact cQ.out; rintro e sx ⟨rfl, hb⟩; replace kD := kB kD.out hb; replace HB := Az xQ; clear hb))
   go_ret; exact ⟨rE, bU1 HB.out yB.out⟩
 ·
  replace c3 := Bool.eq_false_iff.mpr c3; subst c3; rw [if_neg nT] at H; obtain rfl := Option.some.inj H; go_enter Try.func50, Try.ntmps50
  go_wp2_with (first | ((with_reducible refine gd 1 rfl ?_); refine bE 1 #[.slice aA ag.length az, .slice am af.length al] 29 ?_; intro Uo hg SH hbox hb; have kD := Az (hbox); have yB := gW hg (bU0 HB.out); replace HB := Az (au (bU0 HB.out) hb); clear hb hbox hg; have Jm := bc2 kD.out) | ((with_reducible refine gK 90 rfl ?_); refine gC (some 4) Try.func90 #[.agg #[.slice aA ag.length az, .slice am af.length al]] ?_; (with_reducible refine (eL.calls k _ _ ag _ _ af false _ ?_ ?_ ?_ ?_ A2.out).mono ?_); exact cU (Kd.cd dr.out HB.out); exact cZ.out; exact cU (Kd.cd cH.out HB.out); exact cQ.out; rintro e pM ⟨rfl, hb⟩; refine ⟨_, rfl, ?_⟩; replace kD := kB kD.out hb; replace HB := Az xQ; clear hb))
  go_ret; exact ⟨rE, bU1 HB.out yB.out⟩
def mj.f (k : Nat) (ag : List Int) (af : List Int) : Option (List Int × Bool) := (dN.f k ag af).bind fun KD => (if KD = true then ((fD.f k ag).bind fun uA => ((gT.f k af ag).bind fun Ba => ((fD.f k Ba).bind fun uB => (some ((([(uA.length : Int), wrap64 ((af.length : Int) / 2), (uB.length : Int)] : List Int)), true))))) else (some (([] : List Int), false)))
def mj.T3 : Bool × List (List Nat × List Nat) := (true, [([], []), ([0], [0]), ([1], [1]), ([2], [2]), ([], []), ([4], [4]), ([5], [5]), ([6], [6]), ([], []), ([8], [8]), ([], []), ([10], [10]), ([9, 11, 2], [9, 11]), ([12, 12], [12]), ([13], [13]), ([3, 7, 14], [3, 7, 14]), ([15, 13, 0, 1, 2, 3, 4, 5, 6, 7, 8, 9, 10, 11, 12, 13, 14, 15], [15]), ([16, 0, 1, 2, 3, 4, 5, 6, 7, 8, 9, 10, 11, 12, 13, 14, 15, 16], [])])
def mj.B3 : List Nat := [0, 1, 3, 7, 0, 16, 48, 112, 0, 256, 0, 1024, 3847, 7943, 16135, 32767, 65535, 131071]
theorem mj.zw : rtab .any (opsOf Try.f19 3) = mj.T3 := by kernel_rfl
theorem mj.zN : ir mj.T3.2 mj.B3 = true := by kernel_rfl
set_option maxHeartbeats 8000000 in
set_option maxRecDepth 100000 in
theorem mj.calls (k : Nat) (aA : Option Addr) (az : Nat) (ag : List Int) (am : Option Addr) (al : Nat) (af : List Int) (r1 : List Int) (r2 : Bool) (w : World) (dR : Kd.C (Kd.int .i64) w aA ag.length ag) (d7 : ag.length ≤ az) (dl : Kd.C (Kd.int .i64) w am af.length af) (dq : af.length ≤ al) (h : mj.f k ag af = some (r1, r2)) :
  Calls Try.prog 19 #[.agg #[.slice aA ag.length az, .slice am af.length al]] w fun e w' => ∃ bK : Value, e = .returned (.tuple #[bK, .bool r2]) ∧ Kd.R (Kd.int .i64) 3 w' w.heap.size (fun _ => True) bK r1 ∧ Below w.heap.size w w' := by
 have jZ := Try.underlying29; have dr := Az dR; have cZ := Az d7; clear dR d7; have cH := Az dl; have cQ := Az dq; clear dl dq; have HB := bZ w; have H := h; clear h; unfold mj.f at H; replace H := bd H; obtain ⟨KD, A2, H⟩ := H
 by_cases c3 : KD = true
 ·
  subst c3; rw [if_pos rfl] at H; replace H := bd H; obtain ⟨uA, A4, H⟩ := H; replace H := bd H; obtain ⟨Ba, A5, H⟩ := H; replace H := bd H; obtain ⟨uB, A6, H⟩ := H; generalize Er : (([(uA.length : Int), wrap64 ((af.length : Int) / 2), (uB.length : Int)] : List Int) : List Int) = y675 at H; replace Er := Ay Er; simp only [Option.some.injEq, Prod.mk.injEq] at H; obtain ⟨rfl, rfl⟩ := H; go_enter Try.func19, Try.ntmps19
  try go_wp2_with (first | ((with_reducible refine gd 1 rfl ?_); refine bE 1 #[.slice aA ag.length az, .slice am af.length al] 29 ?_; intro KE hg w7 hbox hb; have gX := Az (hbox); have pP := gW hg (bU0 HB.out); replace HB := Az (au (bU0 HB.out) hb); clear hb hbox hg; have um := bc2 gX.out) | ((with_reducible refine gK 66 rfl ?_); refine gC (some 5) Try.func66 #[.agg #[.slice aA ag.length az, .slice am af.length al]] ?_; (with_reducible refine (dN.calls k (fun k_ => k_ < w.heap.size) _ _ ag (fun k_ => k_ < w.heap.size) _ _ af true _ ?_ ?_ A2.out).mono ?_); exact Kd.jc cZ.out (Kd.gV qT (bU1 HB.out pP.out)); exact Kd.jc cQ.out (Kd.gV qS (bU1 HB.out pP.out)); rintro e w9 ⟨rfl, hb⟩; refine ⟨_, rfl, ?_⟩; replace gX := kB gX.out hb; replace HB := Az xC; clear hb))
  replace gX := Az (dk gX.out); replace HB := Az (aX HB.out); refine fX (n := 18) (S := fun w' => w'.cell? ⟨KE, 0, none⟩ = some (.slice aA ag.length az) ∧ w'.cell? ⟨KE, 1, none⟩ = some (.slice am af.length al)) (ds := []) (bv 18 0) (by kernel_rfl) rfl rfl ⟨(aM gX.out 0).trans rfl, (aM gX.out 1).trans rfl⟩ (fun hHeld => ?_); refine gn mj.zw mj.zN (fun HT_ HW_ => ?_); generalize w9.drew = qv at gX HB hHeld ⊢; refine ak (i := 0) (N := some 7) (v := ?_) (a' := ?_) (bv 18 1) rfl rfl (aj HT_.out (by kernel_rfl)) (fun _ _ _ h => h) (Or.inl ⟨by rfl, ?_⟩) ?_ ?_; rotate_left; (exact yP); rotate_left; (exact aP); refine ak (i := 4) (N := some 11) (v := ?_) (a' := ?_) (bv 18 17) rfl rfl (aj HT_.out (by kernel_rfl)) (fun _ _ _ h => h) (Or.inl ⟨by rfl, ?_⟩) ?_ ?_; rotate_left; (exact yP); rotate_left; (exact aP); refine ak (i := 8) (N := some 15) (v := ?_) (a' := ?_) (bv 18 273) rfl rfl (aj HT_.out (by kernel_rfl)) (fun _ _ _ h => h) (Or.inl ⟨by rfl, ?_⟩) ?_ ?_; rotate_left; (exact yP); rotate_left; (exact aP); refine ak (i := 10) (N := some 17) (v := ?_) (a' := ?_) (bv 18 1297) rfl rfl (aj HT_.out (by kernel_rfl)) (fun _ _ _ h => h) (Or.inl ⟨by rfl, ?_⟩) ?_ ?_; rotate_left; (exact yP); rotate_left; (exact aP); refine dh (i := 1) (N := some 8) (v := ?_) (a' := ?_) (bv 18 1299) rfl rfl (dc HT_.out HW_.out (by kernel_rfl)) (fun _ _ _ h => h) (Or.inl ⟨by rfl, ?_⟩) hHeld ?_ ?_; rotate_left
  ·
   rintro w' ⟨s0, s1⟩; go_simp
   with_reducible rfl
  rotate_left; (exact aP); refine dh (i := 5) (N := some 12) (v := ?_) (a' := ?_) (bv 18 1331) rfl rfl (dc HT_.out HW_.out (by kernel_rfl)) (fun _ _ _ h => h) (Or.inl ⟨by rfl, ?_⟩) hHeld ?_ ?_; rotate_left
  ·
   rintro w' ⟨s0, s1⟩; go_simp
   with_reducible rfl
  rotate_left; (exact aP); refine ak (i := 6) (N := some 13) (v := ?_) (a' := ?_) (bv 18 1395) rfl rfl (aj HT_.out (by kernel_rfl)) (fun _ _ _ h => h) (Or.inl ⟨by rfl, ?_⟩) ?_ ?_; rotate_left; (exact yP); rotate_left; (exact aP); refine ak (i := 7) (N := some 14) (v := ?_) (a' := ?_) (bv 18 1523) rfl rfl (aj HT_.out (by kernel_rfl)) (fun _ _ _ h => h) (Or.inl ⟨by rfl, ?_⟩) ?_ ?_; rotate_left; (exact yP); rotate_left; (exact aP); refine dh (i := 9) (N := some 16) (v := ?_) (a' := ?_) (bv 18 2035) rfl rfl (dc HT_.out HW_.out (by kernel_rfl)) (fun _ _ _ h => h) (Or.inl ⟨by rfl, ?_⟩) hHeld ?_ ?_; rotate_left
  ·
   rintro w' ⟨s0, s1⟩; go_simp
   with_reducible rfl
  rotate_left; (exact aP); refine dh (i := 11) (N := some 18) (v := ?_) (a' := ?_) (bv 18 4083) rfl rfl (dc HT_.out HW_.out (by kernel_rfl)) (fun _ _ _ h => h) (Or.inl ⟨by rfl, ?_⟩) hHeld ?_ ?_; rotate_left
  ·
   rintro w' ⟨s0, s1⟩; go_simp
   with_reducible rfl
  rotate_left; (exact aP); refine er (i := 2) (N := some 9) (bv 18 4087) rfl rfl (dj HT_.out (by kernel_rfl)) (by decide) (fun K hK => ?_); refine gv Try.func67 (by kernel_rfl) rfl #[.slice aA ag.length az] (by rfl) rfl rfl lQ ?_
  with_reducible refine (fD.calls k _ _ ag uA _ ?side1 ?side2 A4.out).mono ?_
  (case side1 => exact cU (Kd.cd dr.out HB.out))
  (case side2 => exact cZ.out)
  rintro e qt ⟨alj, rfl, ho0, hb⟩; refine ⟨_, rfl, ?_⟩; have uC := Az (Kd.qZ ho0 (be (bU1 HB.out pP.out))); replace gX := kB gX.out hb; replace HB := Az xC; clear hb ho0; obtain ⟨cS, cN, mz⟩ := Kd.qX uC.out; (first | subst mz | (injection mz with aG bC aH; have bD := aG.symm; have bF := aH.symm; clear aG bC aH; subst bD; subst bF)); refine hK.out _ _ ⟨(aM gX.out 0).trans rfl, (aM gX.out 1).trans rfl⟩ (fun hHeld => ?_); clear hK K; refine bw (a' := ?_) ?_ ?_; rotate_left
  ·
   show Act.put _ (some 9) _ = _
   simp only [Act.put, List.setIfInBounds_toArray, List.set_cons_zero, List.set_cons_succ, cr, cK]; rfl
  refine ak (i := 3) (N := some 10) (v := ?_) (a' := ?_) (bv 18 4095) rfl rfl (aj HT_.out (by kernel_rfl)) (fun _ _ _ h => h) (Or.inl ⟨by rfl, ?_⟩) ?_ ?_; rotate_left; (exact yP); rotate_left; (exact aP); refine er (i := 12) (N := some 19) (bv 18 8191) rfl rfl (dj HT_.out (by kernel_rfl)) (by decide) (fun K hK => ?_); refine gv Try.func68 (by kernel_rfl) rfl #[.slice am af.length al, .slice aA ag.length az] (by rfl) rfl rfl lQ ?_
  with_reducible refine (gT.calls k _ _ af _ _ ag Ba _ ?side1 ?side2 ?side3 ?side4 A5.out).mono ?_
  (case side1 => exact cU (Kd.cd cH.out HB.out))
  (case side2 => exact cQ.out)
  (case side3 => exact cU (Kd.cd dr.out HB.out))
  (case side4 => exact cZ.out)
  rintro e sL ⟨alk, rfl, ho0, hb⟩; refine ⟨_, rfl, ?_⟩; replace uC := Az (Kd.pq (sU uC.out) (Kd.ax ho0) hb); have sP := Az (Kd.bu ho0 (be (bU1 HB.out pP.out))); replace gX := kB gX.out hb; replace HB := Az xC; clear hb ho0; obtain ⟨dx, cE, pL⟩ := Kd.aU sP.out; (first | subst pL | (injection pL with aG bC aH; have bD := aG.symm; have bF := aH.symm; clear aG bC aH; subst bD; subst bF)); refine hK.out _ _ ⟨(aM gX.out 0).trans rfl, (aM gX.out 1).trans rfl⟩ (fun hHeld => ?_); clear hK K; refine bw (a' := ?_) ?_ ?_; rotate_left
  ·
   show Act.put _ (some 19) _ = _
   simp only [Act.put, List.setIfInBounds_toArray, List.set_cons_zero, List.set_cons_succ, cr, cK]; rfl
  refine er (i := 13) (N := some 20) (bv 18 16383) rfl rfl (dj HT_.out (by kernel_rfl)) (by decide) (fun K hK => ?_); refine gv Try.func67 (by kernel_rfl) rfl #[.slice dx Ba.length cE] (by rfl) rfl rfl lQ ?_
  with_reducible refine (fD.calls k _ _ Ba uB _ ?side1 ?side2 A6.out).mono ?_
  (case side1 => exact cU ((Kd.av sP.out).2.2))
  (case side2 => exact (Kd.av sP.out).2.1)
  rintro e oN ⟨alm, rfl, ho0, hb⟩; refine ⟨_, rfl, ?_⟩; have KF := Az (Kd.qZ (Kd.tJ (Kd.tJ ho0 (Kd.G7 (sU uC.out))) (Kd.ar (rU sP.out))) (be (bU1 HB.out pP.out))); replace uC := Az (Kd.pq (sU uC.out) (Kd.CF ho0) hb); replace sP := rB sP.out hb; replace gX := kB gX.out hb; replace HB := Az xC; clear hb ho0; obtain ⟨aln, acB, AH⟩ := Kd.qX KF.out; (first | subst AH | (injection AH with aG bC aH; have bD := aG.symm; have bF := aH.symm; clear aG bC aH; subst bD; subst bF)); refine hK.out _ _ ⟨(aM gX.out 0).trans rfl, (aM gX.out 1).trans rfl⟩ (fun hHeld => ?_); clear hK K; refine bw (a' := ?_) ?_ ?_; rotate_left
  ·
   show Act.put _ (some 20) _ = _
   simp only [Act.put, List.setIfInBounds_toArray, List.set_cons_zero, List.set_cons_succ, cr, cK]; rfl
  refine ak (i := 14) (N := some 21) (v := ?_) (a' := ?_) (bv 18 32767) rfl rfl (aj HT_.out (by kernel_rfl)) (fun _ _ _ h => h) (Or.inl ⟨by rfl, ?_⟩) ?_ ?_; rotate_left; (exact yP); rotate_left; (exact aP); refine er (i := 15) (N := some 22) (bv 18 65535) rfl rfl (dj HT_.out (by kernel_rfl)) (by decide) (fun K hK => ?_); refine Kd.vN (Kd.int .i64) _ 3 ?hg (N := 22) ?hd (xs := ([(uA.length : Int), wrap64 ((af.length : Int) / 2), (uB.length : Int)] : List Int)) (inner := [.int .i64 (uA.length : Int), .int .i64 (wrap64 ((af.length : Int) / 2)), .int .i64 (uB.length : Int)]) (ok := fun _ => True) (okp := fun _ => True) ?hr ?hp (fun _ hk => hk) trivial (Below.refl _ _) (Nat.le_refl _) (by simp) ?_; (case hd => rfl); (case hg => rfl); (case hr => first | (go_simp; done) | (go_simp; rfl)); (case hp => exact (Reps.one (show Kd.M (Kd.int .i64) _ _ _ (uA.length : Int) [.int .i64 (uA.length : Int)] from rfl) (Reps.one (show Kd.M (Kd.int .i64) _ _ _ (wrap64 ((af.length : Int) / 2)) [.int .i64 (wrap64 ((af.length : Int) / 2))] from rfl) (Reps.one (show Kd.M (Kd.int .i64) _ _ _ (uB.length : Int) [.int .i64 (uB.length : Int)] from rfl) (Reps.none _ _))))); intro alo J2 uD hb hg_ hnew_; clear hg_ hnew_; (first | rw [← Er.out] at uD | (simp only [Int.reduceToNat] at uD; rw [← Er.out] at uD)); replace uC := Az (Kd.pq (sU uC.out) (Kd.ax uD) hb); replace KF := Az (Kd.pq (sU KF.out) (Kd.ax uD) hb); have adB := Az (Kd.bu (Kd.aQ uD (Kd.ar (rU sP.out))) (be (bU1 HB.out pP.out))); replace sP := Az (Kd.a8 (rU sP.out) (Kd.ax uD) hb); replace gX := kB gX.out hb; replace HB := Az xC; clear hb uD; refine hK.out _ _ ⟨(aM gX.out 0).trans rfl, (aM gX.out 1).trans rfl⟩ (fun hHeld => ?_); clear hK K; refine bw (a' := ?_) ?_ ?_; rotate_left
  ·
   show Act.put _ (some 22) _ = _
   simp only [Act.put, List.setIfInBounds_toArray, List.set_cons_zero, List.set_cons_succ, cr, cK]; rfl
  refine ak (i := 16) (N := some 2) (v := ?_) (a' := ?_) (bv 18 131071) rfl rfl (aj HT_.out (by kernel_rfl)) (fun _ _ _ h => h) (Or.inl ⟨by rfl, ?_⟩) ?_ ?_; rotate_left; (exact yP); rotate_left; (exact aP); refine ak (i := 17) (N := some 3) (v := ?_) (a' := ?_) (bv 18 262143) rfl rfl (aj HT_.out (by kernel_rfl)) (fun _ _ _ h => h) (Or.inl ⟨by rfl, ?_⟩) ?_ ?_; rotate_left; (exact yP); rotate_left; (exact aP); refine fY (gp HT_.out (by kernel_rfl)) ?_
  try go_wp2
  go_ret2
  exact ⟨_, rE, by refine rA ?_; exact Kd.ah adB.out (fun _ hk => trivial), bU1 HB.out pP.out⟩
 ·
  replace c3 := Bool.eq_false_iff.mpr c3; subst c3; rw [if_neg nT] at H; simp only [Option.some.injEq, Prod.mk.injEq] at H; obtain ⟨rfl, rfl⟩ := H; go_enter Try.func19, Try.ntmps19
  go_wp2_with (first | ((with_reducible refine gd 1 rfl ?_); refine bE 1 #[.slice aA ag.length az, .slice am af.length al] 29 ?_; intro KE hg SH hbox hb; have gX := Az (hbox); have pP := gW hg (bU0 HB.out); replace HB := Az (au (bU0 HB.out) hb); clear hb hbox hg; have Jm := bc2 gX.out) | ((with_reducible refine gK 66 rfl ?_); refine gC (some 5) Try.func66 #[.agg #[.slice aA ag.length az, .slice am af.length al]] ?_; (with_reducible refine (dN.calls k (fun k_ => k_ < w.heap.size) _ _ ag (fun k_ => k_ < w.heap.size) _ _ af false _ ?_ ?_ A2.out).mono ?_); exact Kd.jc cZ.out (Kd.gV qT (bU1 HB.out pP.out)); exact Kd.jc cQ.out (Kd.gV qS (bU1 HB.out pP.out)); rintro e pM ⟨rfl, hb⟩; refine ⟨_, rfl, ?_⟩; replace gX := kB gX.out hb; replace HB := Az xC; clear hb))
  go_ret2
  exact ⟨_, rE, by first | exact Kd.pA _ _ _ _ _ | exact Kd.sg _ _ _ _ _ | exact Kd.r9 _ _ _ _ _ | exact Kd.r5 _ _ _ _ _ | exact Kd.r6 _ _ _ _ _, bU1 HB.out pP.out⟩
def vv.f (k : Nat) (ag : List Int) (af : List Int) : Option (Int) := (dN.f k ag af).bind fun KG => (if KG = true then ((kj.f k ag af).bind fun KH => (some KH)) else (some (-1)))
set_option maxHeartbeats 8000000 in
set_option maxRecDepth 100000 in
theorem vv.calls (k : Nat) (aA : Option Addr) (az : Nat) (ag : List Int) (am : Option Addr) (al : Nat) (af : List Int) (r : Int) (w : World) (dR : Kd.C (Kd.int .i64) w aA ag.length ag) (d7 : ag.length ≤ az) (dl : Kd.C (Kd.int .i64) w am af.length af) (dq : af.length ≤ al) (h : vv.f k ag af = some r) :
  Calls Try.prog 43 #[.agg #[.slice aA ag.length az, .slice am af.length al]] w fun e w' => e = .returned (.int .i64 r) ∧ Below w.heap.size w w' := by
 have jZ := Try.underlying29; have dr := Az dR; have cZ := Az d7; clear dR d7; have cH := Az dl; have cQ := Az dq; clear dl dq; have HB := bZ w; have H := h; clear h; unfold vv.f at H; replace H := bd H; obtain ⟨KG, A2, H⟩ := H
 by_cases c3 : KG = true
 ·
  subst c3; rw [if_pos rfl] at H; replace H := bd H; obtain ⟨KH, A4, H⟩ := H; obtain rfl := Option.some.inj H; go_enter Try.func43, Try.ntmps43
  go_wp2_with (first | ((with_reducible refine gd 1 rfl ?_); refine bE 1 #[.slice aA ag.length az, .slice am af.length al] 29 ?_; intro adC hg w5 hbox hb; have rk := Az (hbox); have rl := gW hg (bU0 HB.out); replace HB := Az (au (bU0 HB.out) hb); clear hb hbox hg; have hz6 := bc2 rk.out) | ((with_reducible refine gK 66 rfl ?_); refine gC (some 4) Try.func66 #[.agg #[.slice aA ag.length az, .slice am af.length al]] ?_; (with_reducible refine (dN.calls k (fun k_ => k_ < w.heap.size) _ _ ag (fun k_ => k_ < w.heap.size) _ _ af true _ ?_ ?_ A2.out).mono ?_); exact Kd.jc cZ.out (Kd.gV qT (bU1 HB.out rl.out)); exact Kd.jc cQ.out (Kd.gV qS (bU1 HB.out rl.out)); rintro e w7 ⟨rfl, hb⟩; refine ⟨_, rfl, ?_⟩; replace rk := kB rk.out hb; replace HB := Az (au (bU1 HB.out rl.out) hb); clear hb; have um := bc2 rk.out) | ((with_reducible refine gK 87 rfl ?_); refine gC (some 7) Try.func87 #[.agg #[.slice aA ag.length az, .slice am af.length al]] ?_; (with_reducible refine (kj.calls k _ _ ag _ _ af KH _ ?_ ?_ ?_ ?_ A4.out).mono ?_); exact cU (Kd.cd dr.out HB.out); exact cZ.out; exact cU (Kd.cd cH.out HB.out); exact cQ.out; rintro e w9 ⟨rfl, hb⟩; refine ⟨_, rfl, ?_⟩; replace rk := kB rk.out hb; replace HB := Az (au (bU1 HB.out rl.out) hb); clear hb))
  go_ret; exact ⟨rE, bU1 HB.out rl.out⟩
 ·
  replace c3 := Bool.eq_false_iff.mpr c3; subst c3; rw [if_neg nT] at H; obtain rfl := Option.some.inj H; go_enter Try.func43, Try.ntmps43
  go_wp2_with (first | ((with_reducible refine gd 1 rfl ?_); refine bE 1 #[.slice aA ag.length az, .slice am af.length al] 29 ?_; intro adC hg qv hbox hb; have rk := Az (hbox); have rl := gW hg (bU0 HB.out); replace HB := Az (au (bU0 HB.out) hb); clear hb hbox hg; have TL := bc2 rk.out) | ((with_reducible refine gK 66 rfl ?_); refine gC (some 4) Try.func66 #[.agg #[.slice aA ag.length az, .slice am af.length al]] ?_; (with_reducible refine (dN.calls k (fun k_ => k_ < w.heap.size) _ _ ag (fun k_ => k_ < w.heap.size) _ _ af false _ ?_ ?_ A2.out).mono ?_); exact Kd.jc cZ.out (Kd.gV qT (bU1 HB.out rl.out)); exact Kd.jc cQ.out (Kd.gV qS (bU1 HB.out rl.out)); rintro e oa ⟨rfl, hb⟩; refine ⟨_, rfl, ?_⟩; replace rk := kB rk.out hb; replace HB := Az (au (bU1 HB.out rl.out) hb); clear hb))
  go_ret; exact ⟨rE, bU1 HB.out rl.out⟩
def oD.f (k : Nat) (ag : List Int) (af : List Int) (a1 : Int) (a2 : Int) : Option (Int) := (dN.f k ag af).bind fun KI => (if KI = true then (if a1 < 0 then (some (-1)) else (if a1 ≥ (ag.length : Int) then (some (-1)) else (if a2 < 0 then (some (-1)) else (if a2 ≥ (ag.length : Int) then (some (-1)) else ((oJ.f k ag af a1).bind fun Es => (if 0 ≤ a2 then (if a2 < (Es.length : Int) then (some (rd Es a2)) else (none)) else (none))))))) else (some (-1)))
set_option maxHeartbeats 8000000 in
set_option maxRecDepth 100000 in
theorem oD.calls (k : Nat) (aA : Option Addr) (az : Nat) (ag : List Int) (am : Option Addr) (al : Nat) (af : List Int) (a1 : Int) (a2 : Int) (r : Int) (w : World) (dR : Kd.C (Kd.int .i64) w aA ag.length ag) (d7 : ag.length ≤ az) (dl : Kd.C (Kd.int .i64) w am af.length af) (dq : af.length ≤ al) (h : oD.f k ag af a1 a2 = some r) :
  Calls Try.prog 46 #[.agg #[.slice aA ag.length az, .slice am af.length al], .int .i64 a1, .int .i64 a2] w fun e w' => e = .returned (.int .i64 r) ∧ Below w.heap.size w w' := by
 have jZ := Try.underlying29; have dr := Az dR; have cZ := Az d7; clear dR d7; have cH := Az dl; have cQ := Az dq; clear dl dq; have HB := bZ w; have H := h; clear h; unfold oD.f at H; replace H := bd H; obtain ⟨KI, A4, H⟩ := H
 by_cases c5 : KI = true
 ·
  subst c5; rw [if_pos rfl] at H
  replace H := gB H; rcases H with ⟨iK, H⟩ | ⟨iK, H⟩
  ·
   obtain rfl := Option.some.inj H; go_enter Try.func46, Try.ntmps46
   go_wp2_with (first | ((with_reducible refine gd 3 rfl ?_); (refine jf (by rfl) ?_; dsimp only); refine bE 3 #[.slice aA ag.length az, .slice am af.length al] 29 ?_; intro Bb hg w7 hbox hb; have gD := Az (hbox); have iL := gW hg (bU0 HB.out); replace HB := Az (au (bU0 HB.out) hb); clear hb hbox hg; have um := bc2 gD.out) | ((with_reducible refine gK 66 rfl ?_); refine gC (some 8) Try.func66 #[.agg #[.slice aA ag.length az, .slice am af.length al]] ?_; (with_reducible refine (dN.calls k (fun k_ => k_ < w.heap.size) _ _ ag (fun k_ => k_ < w.heap.size) _ _ af true _ ?_ ?_ A4.out).mono ?_); exact Kd.jc cZ.out (Kd.gV qT (bU1 HB.out iL.out)); exact Kd.jc cQ.out (Kd.gV qS (bU1 HB.out iL.out)); rintro e w9 ⟨rfl, hb⟩; refine ⟨_, rfl, ?_⟩; replace gD := kB gD.out hb; replace HB := Az vx; clear hb))
   go_ret; exact ⟨rE, bU1 HB.out iL.out⟩
  ·
   replace H := gB H; rcases H with ⟨nY, H⟩ | ⟨nY, H⟩
   ·
    obtain rfl := Option.some.inj H; go_enter Try.func46, Try.ntmps46
    go_wp2_with (first | ((with_reducible refine gd 3 rfl ?_); (refine jf (by rfl) ?_; dsimp only); refine bE 3 #[.slice aA ag.length az, .slice am af.length al] 29 ?_; intro Bb hg qt hbox hb; have gD := Az (hbox); have iL := gW hg (bU0 HB.out); replace HB := Az (au (bU0 HB.out) hb); clear hb hbox hg; have Au := bc2 gD.out) | ((with_reducible refine gK 66 rfl ?_); refine gC (some 8) Try.func66 #[.agg #[.slice aA ag.length az, .slice am af.length al]] ?_; (with_reducible refine (dN.calls k (fun k_ => k_ < w.heap.size) _ _ ag (fun k_ => k_ < w.heap.size) _ _ af true _ ?_ ?_ A4.out).mono ?_); exact Kd.jc cZ.out (Kd.gV qT (bU1 HB.out iL.out)); exact Kd.jc cQ.out (Kd.gV qS (bU1 HB.out iL.out)); rintro e sL ⟨rfl, hb⟩; refine ⟨_, rfl, ?_⟩; replace gD := kB gD.out hb; replace HB := Az vx; clear hb; have J1 := bc2 gD.out))
    go_ret; exact ⟨rE, bU1 HB.out iL.out⟩
   ·
    replace H := gB H; rcases H with ⟨ue, H⟩ | ⟨ue, H⟩
    ·
     obtain rfl := Option.some.inj H; go_enter Try.func46, Try.ntmps46
     go_wp2_with (first | ((with_reducible refine gd 3 rfl ?_); (refine jf (by rfl) ?_; dsimp only); refine bE 3 #[.slice aA ag.length az, .slice am af.length al] 29 ?_; intro Bb hg w16 hbox hb; have gD := Az (hbox); have iL := gW hg (bU0 HB.out); replace HB := Az (au (bU0 HB.out) hb); clear hb hbox hg; have Jl := bc2 gD.out) | ((with_reducible refine gK 66 rfl ?_); refine gC (some 8) Try.func66 #[.agg #[.slice aA ag.length az, .slice am af.length al]] ?_; (with_reducible refine (dN.calls k (fun k_ => k_ < w.heap.size) _ _ ag (fun k_ => k_ < w.heap.size) _ _ af true _ ?_ ?_ A4.out).mono ?_); exact Kd.jc cZ.out (Kd.gV qT (bU1 HB.out iL.out)); exact Kd.jc cQ.out (Kd.gV qS (bU1 HB.out iL.out)); rintro e sx ⟨rfl, hb⟩; refine ⟨_, rfl, ?_⟩; replace gD := kB gD.out hb; replace HB := Az vx; clear hb; have TK := bc2 gD.out))
     go_ret; exact ⟨rE, bU1 HB.out iL.out⟩
    ·
     replace H := gB H; rcases H with ⟨yy, H⟩ | ⟨yy, H⟩
     ·
      obtain rfl := Option.some.inj H; go_enter Try.func46, Try.ntmps46
      go_wp2_with (first | ((with_reducible refine gd 3 rfl ?_); (refine jf (by rfl) ?_; dsimp only); refine bE 3 #[.slice aA ag.length az, .slice am af.length al] 29 ?_; intro Bb hg pM hbox hb; have gD := Az (hbox); have iL := gW hg (bU0 HB.out); replace HB := Az (au (bU0 HB.out) hb); clear hb hbox hg; have adD := bc2 gD.out) | ((with_reducible refine gK 66 rfl ?_); refine gC (some 8) Try.func66 #[.agg #[.slice aA ag.length az, .slice am af.length al]] ?_; (with_reducible refine (dN.calls k (fun k_ => k_ < w.heap.size) _ _ ag (fun k_ => k_ < w.heap.size) _ _ af true _ ?_ ?_ A4.out).mono ?_); exact Kd.jc cZ.out (Kd.gV qT (bU1 HB.out iL.out)); exact Kd.jc cQ.out (Kd.gV qS (bU1 HB.out iL.out)); rintro e fA ⟨rfl, hb⟩; refine ⟨_, rfl, ?_⟩; replace gD := kB gD.out hb; replace HB := Az vx; clear hb; have adE := bc2 gD.out))
      go_ret; exact ⟨rE, bU1 HB.out iL.out⟩
     ·
      replace H := bd H; obtain ⟨Es, A25, H⟩ := H; replace H := gD2 H; obtain ⟨Ty, DW, H⟩ := H; obtain rfl := Option.some.inj H; go_enter Try.func46, Try.ntmps46
      go_wp2_with (first | ((with_reducible refine gd 3 rfl ?_); (refine jf (by rfl) ?_; dsimp only); refine bE 3 #[.slice aA ag.length az, .slice am af.length al] 29 ?_; intro Bb hg su hbox hb; have gD := Az (hbox); have iL := gW hg (bU0 HB.out); replace HB := Az (au (bU0 HB.out) hb); clear hb hbox hg; have Tz := bc2 gD.out) | ((with_reducible refine gK 66 rfl ?_); refine gC (some 8) Try.func66 #[.agg #[.slice aA ag.length az, .slice am af.length al]] ?_; (with_reducible refine (dN.calls k (fun k_ => k_ < w.heap.size) _ _ ag (fun k_ => k_ < w.heap.size) _ _ af true _ ?_ ?_ A4.out).mono ?_); exact Kd.jc cZ.out (Kd.gV qT (bU1 HB.out iL.out)); exact Kd.jc cQ.out (Kd.gV qS (bU1 HB.out iL.out)); rintro e yt ⟨rfl, hb⟩; refine ⟨_, rfl, ?_⟩; replace gD := kB gD.out hb; replace HB := Az vx; clear hb; have Up := bc2 gD.out) | ((with_reducible refine gK 88 rfl ?_); refine gC (some 34) Try.func88 #[.agg #[.slice aA ag.length az, .slice am af.length al], .int .i64 a1] ?_; (with_reducible refine (oJ.calls k _ _ ag _ _ af a1 Es _ ?_ ?_ ?_ ?_ A25.out).mono ?_); exact cU (Kd.cd dr.out HB.out); exact cZ.out; exact cU (Kd.cd cH.out HB.out); exact cQ.out; rintro e w32 ⟨alp, rfl, ho0, hb⟩; refine ⟨_, rfl, ?_⟩; have Uq := Az (Kd.bu ho0 (be (bU1 HB.out iL.out))); replace gD := kB gD.out hb; replace HB := Az vx; clear hb ho0; obtain ⟨Et, Eu, KJ⟩ := Kd.aU Uq.out; subst KJ; obtain ⟨alq, adG, _, _, alr⟩ := aI (Kd.av Uq.out).2.2 a2; cases adG))
      go_ret; exact ⟨rE, bU1 HB.out iL.out⟩
 ·
  replace c5 := Bool.eq_false_iff.mpr c5; subst c5; rw [if_neg nT] at H; obtain rfl := Option.some.inj H; go_enter Try.func46, Try.ntmps46
  go_wp2_with (first | ((with_reducible refine gd 3 rfl ?_); (refine jf (by rfl) ?_; dsimp only); refine bE 3 #[.slice aA ag.length az, .slice am af.length al] 29 ?_; intro Bb hg w34 hbox hb; have gD := Az (hbox); have iL := gW hg (bU0 HB.out); replace HB := Az (au (bU0 HB.out) hb); clear hb hbox hg; have Ur := bc2 gD.out) | ((with_reducible refine gK 66 rfl ?_); refine gC (some 8) Try.func66 #[.agg #[.slice aA ag.length az, .slice am af.length al]] ?_; (with_reducible refine (dN.calls k (fun k_ => k_ < w.heap.size) _ _ ag (fun k_ => k_ < w.heap.size) _ _ af false _ ?_ ?_ A4.out).mono ?_); exact Kd.jc cZ.out (Kd.gV qT (bU1 HB.out iL.out)); exact Kd.jc cQ.out (Kd.gV qS (bU1 HB.out iL.out)); rintro e w36 ⟨rfl, hb⟩; refine ⟨_, rfl, ?_⟩; replace gD := kB gD.out hb; replace HB := Az vx; clear hb))
  go_ret; exact ⟨rE, bU1 HB.out iL.out⟩
def ac (w0 W : World) (g : Nat) (f0 : List Int) (f1 : Int) : Prop := ∃ A0 c0, W.heap[g]? = some (.cells #[.slice A0 f0.length c0, .int .i64 f1] 104 (0, 0)) ∧ w0.heap.size ≤ g ∧ Kd.C (Kd.int .u8) w0 A0 f0.length f0
theorem ac.grown {w0 W : World} {g : Nat} {f0 : List Int} {f1 : Int} {W1 : World} {row : Option Nat} (h : ac w0 W g f0 f1) (hw : W.grownBy W1 row) (hne : some g ≠ row) : ac w0 W1 g f0 f1 := by
 obtain ⟨A0, c0, hb, hg, hr0⟩ := h; exact ⟨A0, c0, RP hb hw hne, hg, hr0⟩
theorem ac.fresh {w0 W : World} {g : Nat} {f0 : List Int} {f1 : Int} (h : ac w0 W g f0 f1) : ∀ k, W.heap.size ≤ k → k ≠ g := by
 obtain ⟨A0, c0, hb, hg, hr0⟩ := h; exact Kd.RS hb
theorem ac.kept {w0 W : World} {g : Nat} {f0 : List Int} {f1 : Int} {W1 : World} {S : Nat → Prop} (h : ac w0 W g f0 f1) (hk : Kept W W1 S) (hne : ¬ S g) : ac w0 W1 g f0 f1 := by
 obtain ⟨A0, c0, hb, hg, hr0⟩ := h; exact ⟨A0, c0, vZ hb hk hne, hg, hr0⟩
theorem ac.below {w0 W : World} {g : Nat} {f0 : List Int} {f1 : Int} {W1 : World} (h : ac w0 W g f0 f1) (hw : Below W.heap.size W W1) : ac w0 W1 g f0 f1 := h.grown (QQ hw none) (by simp)
theorem ac.alloc {w0 W : World} {g : Nat} {f0 : List Int} {f1 : Int} (h : ac w0 W g f0 f1) (o : Obj) : ac w0 (W.alloc o) g f0 f1 := h.below (bn (Below.refl _ _) o)
theorem ac.drewN {w0 W : World} {g : Nat} {f0 : List Int} {f1 : Int} (h : ac w0 W g f0 f1) (m : Nat) : ac w0 (W.drewN m) g f0 f1 := h
theorem ac.drew {w0 W : World} {g : Nat} {f0 : List Int} {f1 : Int} (h : ac w0 W g f0 f1) : ac w0 W.drew g f0 f1 := h
theorem ac.at_ {w0 W : World} {g : Nat} {f0 : List Int} {f1 : Int} {w' : World} {m : Nat} (hq : W.drewN m = w') (h : ac w0 W g f0 f1) : ac w0 w' g f0 f1 := by subst hq; exact ac.drewN h m
theorem ac.apart {w0 W : World} {g : Nat} {f0 : List Int} {f1 : Int} {α : Type} {d : Kd α} {e : Nat} {base : Nat} {ok : Nat → Prop} {v : Value} {xs : List α} (h : ac w0 W g f0 f1) (ho : d.R e W base ok v xs) (ht : ∀ q, q ∈ e :: d.E → q ≠ 104) : d.R e W base (fun k => ok k ∧ k ≠ g) v xs := by
 obtain ⟨A0, c0, hb, hg, hr0⟩ := h; exact Kd.cP ho hb ht
theorem ac.qn {w0 W : World} {g : Nat} {f0 : List Int} {f1 : Int} {α : Type} {d : Kd α} {e : Nat} {base : Nat} {ok : Nat → Prop} {v : Value} {xs : List α} (h : ac w0 W g f0 f1) (ho : d.R e W base ok v xs) (ht : e ≠ 104) : some g ≠ v.ownBlock := by
 obtain ⟨A0, c0, hb, hg, hr0⟩ := h; exact Kd.dG ho hb ht
theorem ac.mm {w0 W : World} {g : Nat} {f0 : List Int} {f1 : Int} {α : Type} {d : Kd α} {e : Nat} {base : Nat} {ok : Nat → Prop} {v : Value} {xs : List α} (h : ac w0 W g f0 f1) (ho : d.Q e W base ok v xs) (ht : ∀ q, q ∈ e :: d.E → q ≠ 104) : d.Q e W base (fun k => ok k ∧ k ≠ g) v xs := by
 obtain ⟨A0, c0, hb, hg, hr0⟩ := h; exact Kd.je ho hb ht
theorem ac.xY {w0 W : World} {g : Nat} {f0 : List Int} {f1 : Int} {α : Type} {d : Kd α} {e : Nat} {base : Nat} {ok : Nat → Prop} {v : Value} {xs : List α} (h : ac w0 W g f0 f1) (ho : d.Q e W base ok v xs) (ht : e ≠ 104) : some g ≠ v.ownBlock := by
 obtain ⟨A0, c0, hb, hg, hr0⟩ := h; exact Kd.oG ho hb ht
theorem ac.lt {w0 W : World} {g : Nat} {f0 : List Int} {f1 : Int} (h : ac w0 W g f0 f1) : g < W.heap.size := by
 obtain ⟨A0, c0, hb, hg, hr0⟩ := h; exact si hb
theorem ac.ge {w0 W : World} {g : Nat} {f0 : List Int} {f1 : Int} (h : ac w0 W g f0 f1) : w0.heap.size ≤ g := by
 obtain ⟨A0, c0, hb, hg, hr0⟩ := h; exact hg
theorem ac.Qs {w0 W : World} {g : Nat} {f0 : List Int} {f1 : Int} {a : Nat} {cs : Array Value} {t : TypeId} {fr : Nat × Nat} (h : ac w0 W g f0 f1) (hb2 : W.heap[a]? = some (.cells cs t fr)) (ht : t ≠ 104) : g ≠ a := by
 obtain ⟨A0, c0, hb, hg, hr0⟩ := h; rintro rfl; rw [hb] at hb2; injection hb2 with hb2; injection hb2 with _ ht2; exact ht ht2.symm
theorem ac.far {w0 W : World} {g : Nat} {f0 : List Int} {f1 : Int} {p : Addr} (h : ac w0 W g f0 f1) (hne : g ≠ p.block) (u : Value) : ac w0 (W.setCell p u) g f0 f1 := by
 obtain ⟨A0, c0, hb, hg, hr0⟩ := h; exact ⟨A0, c0, db hb hne u, hg, hr0⟩
theorem Db {W : World} {g : Nat} {A0 : Option Addr} {c0 : Nat} {f0 : List Int} {f1 : Int} (h : W.heap[g]? = some (.cells #[.slice A0 f0.length c0, .int .i64 f1] 104 (0, 0))) : W.cell? ⟨g, 0, none⟩ = some (.slice A0 f0.length c0) := (aM h 0).trans rfl
theorem Di {W : World} {g : Nat} {A0 : Option Addr} {c0 : Nat} {f0 : List Int} {f1 : Int} (h : W.heap[g]? = some (.cells #[.slice A0 f0.length c0, .int .i64 f1] 104 (0, 0))) : W.cell? ⟨g, 1, none⟩ = some (.int .i64 f1) := (aM h 1).trans rfl
theorem ac.aY {w0 W : World} {g : Nat} {f0 : List Int} {f1 : Int} (h : ac w0 W g f0 f1) (x : Int) : ac w0 (W.setCell ⟨g, 1, none⟩ (.int .i64 x)) g f0 x := by
 obtain ⟨A0, c0, hb, hg, hr0⟩ := h; exact ⟨A0, c0, by simpa using De hb 1 (.int .i64 x), hg, hr0⟩
def vz.f (l0 : List Int) : Option (List Int × Int) := if (l0.length : Int) > 2000 then (if 2000 ≤ (l0.length : Int) then (some (l0.take 2000, 0)) else (none)) else (some (l0, 0))
set_option maxHeartbeats 8000000 in
set_option maxRecDepth 100000 in
theorem vz.calls (A0 : Option Addr) (c0 : Nat) (l0 : List Int) (r1 : List Int) (r2 : Int) (w0 w : World) (hB : Below w0.heap.size w0 w) (hr0 : Kd.C (Kd.int .u8) w0 A0 l0.length l0) (hc0 : l0.length ≤ c0) (h : vz.f l0 = some (r1, r2)) :
  Calls Try.prog 62 #[.slice A0 l0.length c0] w fun e w' => ∃ g_ : Nat, e = .returned (.pointer (some ⟨g_, 0, none⟩)) ∧ ac w0 w' g_ r1 r2 ∧ Below w0.heap.size w0 w' ∧ Below w.heap.size w w' := by
 have als := Try.underlying104; have de := Az hr0; have gz := Az hc0; clear hr0 hc0; have HBW := bZ w; have HW0 := Az hB.size; have HB := Az hB; clear hB; have H := h; clear h; unfold vz.f at H
 by_cases c2 : (l0.length : Int) > 2000
 ·
  rw [if_pos c2] at H; have qo := decide_eq_true c2; have sn : decide (2000 < l0.length) = true := decide_eq_true (by omega); clear c2; replace H := gE H; obtain ⟨ly, sr, H⟩ := H; simp only [Option.some.injEq, Prod.mk.injEq] at H; obtain ⟨rfl, rfl⟩ := H; obtain ⟨i04, Us, _, Ut, _⟩ := info_parts info5; obtain ⟨alu, Uu, Uv⟩ := Zx (P := Try.prog) (Value.int .u8) 0 22 5 .i64 Try.underlying22 Us Ut A0 c0 l0 2000 (by omega) (oA) gz.out; have adI := Az (Kd.Hf (h1 := fun _ => rfl) (Uu _ (Kd.Dt de.out))); have alv := Az Uv; clear Uu Uv Us Ut; go_enter Try.func62, Try.ntmps62
  go_wp2_with (first | ((with_reducible refine gd 10 rfl ?_); refine bE 10 #[.slice A0 (l0.take 2000).length c0, .int .i64 0] 104 ?_; intro Ew hg w5 hbox hb; replace HB := Az (au (bU0 HB.out) hb); have adJ := Az (hbox); have adK := Az ((by rw [hg]; exact Da : w.heap.size ≤ Ew)); have Uw := Az ((Nat.le_trans HW0.out (by rw [hg]; exact Da : w.heap.size ≤ Ew) : w0.heap.size ≤ Ew)); replace HBW := Az (au HBW.out hb); clear hb hbox hg))
  go_ret; exact ⟨_, rfl, (show ac w0 _ Ew (l0.take 2000) 0 from ⟨_, _, kU adJ.out, Uw.out, adI.out⟩), bU1 HB.out Uw.out, by repeat (first | (with_reducible first | exact HBW.out | apply bn | apply bz | apply aX | refine ai ?_ adK.out) | exact HBW.out)⟩
 ·
  rw [if_neg c2] at H; have qo := decide_eq_false c2; have sn : decide (2000 < l0.length) = false := decide_eq_false (by omega); clear c2; simp only [Option.some.injEq, Prod.mk.injEq] at H; obtain ⟨rfl, rfl⟩ := H; go_enter Try.func62, Try.ntmps62
  go_wp2_with (first | ((with_reducible refine gd 10 rfl ?_); refine bE 10 #[.slice A0 l0.length c0, .int .i64 0] 104 ?_; intro Ex hg w6 hbox hb; replace HB := Az (au (bU0 HB.out) hb); have adL := Az (hbox); have adM := Az ((by rw [hg]; exact Da : w.heap.size ≤ Ex)); have Ux := Az ((Nat.le_trans HW0.out (by rw [hg]; exact Da : w.heap.size ≤ Ex) : w0.heap.size ≤ Ex)); replace HBW := Az (au HBW.out hb); clear hb hbox hg))
  go_ret; exact ⟨_, rfl, (show ac w0 _ Ex l0 0 from ⟨_, _, kU adL.out, Ux.out, de.out⟩), bU1 HB.out Ux.out, by repeat (first | (with_reducible first | exact HBW.out | apply bn | apply bz | apply aX | refine ai ?_ adM.out) | exact HBW.out)⟩
mutual
def cY.l0 : Nat → Int → Int → Int → ByteArray → List Int → Option (Bool)
 | 0, _, _, _, _, _ => none
 | k + 1, x3, x4, x5, bL, bJ => if x5 < (bL.size : Int) then (if 0 ≤ x5 then (if (bt bL x5) = 40 then (if (wrap64 (x3 + 1)) < 0 then (some false) else (cY.l0 k (wrap64 (x3 + 1)) (wrap64 (x4 + 1)) (wrap64 (x5 + 1)) bL bJ)) else (if (bt bL x5) = 41 then (if (wrap64 (x3 - 1)) < 0 then (some false) else (cY.l0 k (wrap64 (x3 - 1)) x4 (wrap64 (x5 + 1)) bL bJ)) else (some false))) else (none)) else (cY.l1 k x3 x4 0 bL bJ)
def cY.l1 : Nat → Int → Int → Int → ByteArray → List Int → Option (Bool)
 | 0, _, _, _, _, _ => none
 | k + 1, x3, x4, x6, bL, bJ => if x6 < (bJ.length : Int) then (if 0 ≤ x6 then ((j8.f (rd bJ x6) (-1) 1).bind fun KL => (if KL = true then (cY.l1 k x3 x4 (wrap64 (x6 + 1)) bL bJ) else (some false))) else (none)) else (if x3 = 0 then ((j8.f x4 1 3).bind fun KM => (if KM = true then (some ((bJ.length : Int) == x4)) else (some false))) else (some false))
end
def cY.f (k : Nat) (bY : ByteArray) (af : List Int) : Option (Bool) := cY.l0 k 0 0 0 bY af
theorem cY.mono_l : ∀ k, (∀ y0 y1 y2 y3 y4, LeO (cY.l0 k y0 y1 y2 y3 y4) (cY.l0 (k + 1) y0 y1 y2 y3 y4)) ∧ (∀ y0 y1 y2 y3 y4, LeO (cY.l1 k y0 y1 y2 y3 y4) (cY.l1 (k + 1) y0 y1 y2 y3 y4))
 | 0 => ⟨fun _ _ _ _ _ r h => by simp [cY.l0] at h, fun _ _ _ _ _ r h => by simp [cY.l1] at h⟩
 | k + 1 => by
  obtain ⟨dS, ih1⟩ := cY.mono_l k; refine ⟨?_, ?_⟩
  ·
   intro y0 y1 y2 y3 y4
   unfold cY.l0
   repeat' first
   | (with_reducible exact dS _ _ _ _ _)
   | (with_reducible exact ih1 _ _ _ _ _)
   | (with_reducible exact LeO.refl _)
   | (with_reducible exact LeO.none _)
   | (with_reducible refine LeO.ite ?_ ?_)
   | (with_reducible refine LeO.bind ?_ (fun _ => ?_))
   | exact dS _ _ _ _ _
   | exact ih1 _ _ _ _ _
   | exact LeO.none _
   | refine LeO.ite ?_ ?_
   | refine LeO.bind ?_ (fun _ => ?_)
  ·
   intro y0 y1 y2 y3 y4
   unfold cY.l1
   repeat' first
   | (with_reducible exact dS _ _ _ _ _)
   | (with_reducible exact ih1 _ _ _ _ _)
   | (with_reducible exact LeO.refl _)
   | (with_reducible exact LeO.none _)
   | (with_reducible refine LeO.ite ?_ ?_)
   | (with_reducible refine LeO.bind ?_ (fun _ => ?_))
   | exact dS _ _ _ _ _
   | exact ih1 _ _ _ _ _
   | exact LeO.none _
   | refine LeO.ite ?_ ?_
   | refine LeO.bind ?_ (fun _ => ?_)
theorem cY.mono : ∀ a0 a1 k, LeO (cY.f k a0 a1) (cY.f (k + 1) a0 a1) := by
 intro a0 a1 k; obtain ⟨dS, ih1⟩ := cY.mono_l k
 unfold cY.f
 repeat' first
   | (with_reducible exact dS _ _ _ _ _)
   | (with_reducible exact ih1 _ _ _ _ _)
   | (with_reducible exact LeO.refl _)
   | (with_reducible exact LeO.none _)
   | (with_reducible refine LeO.ite ?_ ?_)
   | (with_reducible refine LeO.bind ?_ (fun _ => ?_))
   | exact dS _ _ _ _ _
   | exact ih1 _ _ _ _ _
   | exact LeO.none _
   | refine LeO.ite ?_ ?_
   | refine LeO.bind ?_ (fun _ => ?_)
set_option maxHeartbeats 8000000 in
set_option maxRecDepth 100000 in
theorem cY.calls (k : Nat) (bY : ByteArray) (am : Option Addr) (al : Nat) (af : List Int) (r : Bool) (w : World) (dl : Kd.C (Kd.int .i64) w am af.length af) (dq : af.length ≤ al) (h : cY.f k bY af = some r) :
  Calls Try.prog 17 #[.agg #[.string bY, .slice am af.length al]] w fun e w' => e = .returned (.bool r) ∧ Below w.heap.size w w' := by
 have KN := Try.underlying25; have cH := Az dl; have cQ := Az dq; clear dl dq; have HB := bZ w; have H := h; clear h; unfold cY.f at H; have H' := Az H; clear H; go_enter Try.func17, Try.ntmps17
 go_wp2_with (first | ((with_reducible refine gd 1 rfl ?_); (refine jf (by rfl) ?_; dsimp only); refine bE 1 #[.string bY, .slice am af.length al] 25 ?_; intro Uy hg w2 hbox hb; have lD := Az (hbox); have pQ := gW hg (bU0 HB.out); replace HB := Az (au (bU0 HB.out) hb); clear hb hbox hg))
 go_loopg [3, 4, 5] k (fun kq v3 v4 v5 w' => ∃ (aD : Int) (bq : Int) (bs : Int), v3 = .int .i64 aD ∧ v4 = .int .i64 bq ∧ v5 = .int .i64 bs ∧ ae (cY.l0 kq aD bq bs bY af = some r) ∧ ae (kq ≤ k) ∧ ae (w'.heap[Uy]? = some (.cells #[.string bY, (.slice am af.length al)] 25 (0, 0))) ∧ ae (Below w.heap.size w w'))
 case atStart => exact ⟨(0), (0), (0), rS, rS, rS, H', ⟨Nat.le_refl _⟩, ⟨kU lD.out⟩, ⟨bU1 HB.out pQ.out⟩⟩
 case round =>
  clear H'; obtain ⟨aD, bq, bs, rfl, rfl, rfl, HA, eO, lD, HB⟩ := hrel
  rcases gk with _ | k1
  exact (nN HA.out).elim; have H := HA.out; clear HA; simp only [cY.l0] at H
  by_cases c3 : bs < (bY.size : Int)
  ·
   rw [if_pos c3] at H; have ly := decide_eq_true c3; clear c3; replace H := gD1 H; obtain ⟨kR, H⟩ := H
   replace H := gQ H; rcases H with ⟨iK, Ey, H⟩ | ⟨iK, Ey, H⟩
   ·
    replace H := gB H; rcases H with ⟨iw, H⟩ | ⟨iw, H⟩
    · obtain rfl := Option.some.inj H; have um := bc2 lD.out; have p5 : 0 ≤ (bs : Int) := oA; have q5 : bs < (bY.size : Int) := oA; have hx5 := tY bY bs; replace p5 := eq_true p5; replace q5 := eq_true q5; go_wp2; go_ret; exact ⟨rE, bU1 HB.out pQ.out⟩
    ·
     have H' := Az H; clear H; have D6 := bc2 lD.out; have p5 : 0 ≤ (bs : Int) := oA; have q5 : bs < (bY.size : Int) := oA; have hx5 := tY bY bs; replace p5 := eq_true p5; replace q5 := eq_true q5; go_wp2; go_roundg k1
     case measure => exact mO
     case rel => exact ⟨(wrap64 (aD + 1)), (wrap64 (bq + 1)), (wrap64 (bs + 1)), rS, rS, rS, H', ⟨mO⟩, ⟨kU lD.out⟩, ⟨bU1 HB.out pQ.out⟩⟩
   ·
    replace H := gQ H; rcases H with ⟨nY, adN, H⟩ | ⟨nY, adN, H⟩
    ·
     replace H := gB H; rcases H with ⟨oM, H⟩ | ⟨oM, H⟩
     · obtain rfl := Option.some.inj H; have Au := bc2 lD.out; have p5 : 0 ≤ (bs : Int) := oA; have q5 : bs < (bY.size : Int) := oA; have hx5 := tY bY bs; replace p5 := eq_true p5; replace q5 := eq_true q5; go_wp2; go_ret; exact ⟨rE, bU1 HB.out pQ.out⟩
     ·
      have H' := Az H; clear H; have Av := bc2 lD.out; have p5 : 0 ≤ (bs : Int) := oA; have q5 : bs < (bY.size : Int) := oA; have hx5 := tY bY bs; replace p5 := eq_true p5; replace q5 := eq_true q5; go_wp2; go_roundg k1
      case measure => exact mO
      case rel => exact ⟨(wrap64 (aD - 1)), (bq), (wrap64 (bs + 1)), rS, rS, rS, H', ⟨mO⟩, ⟨kU lD.out⟩, ⟨bU1 HB.out pQ.out⟩⟩
    · obtain rfl := Option.some.inj H; have J1 := bc2 lD.out; have p5 : 0 ≤ (bs : Int) := oA; have q5 : bs < (bY.size : Int) := oA; have hx5 := tY bY bs; replace p5 := eq_true p5; replace q5 := eq_true q5; go_wp2; go_ret; exact ⟨rE, bU1 HB.out pQ.out⟩
  ·
   rw [if_neg c3] at H; have ly := decide_eq_false c3; clear c3; have H' := Az H; clear H; have DV := bc2 lD.out; go_wp2
   go_loopg [6] k1 (fun kq v6 w' => ∃ (bU : Int), v6 = .int .i64 bU ∧ ae (cY.l1 kq aD bq bU bY af = some r) ∧ ae (kq ≤ k1) ∧ ae (w'.heap[Uy]? = some (.cells #[.string bY, (.slice am af.length al)] 25 (0, 0))) ∧ ae (Below w.heap.size w w'))
   case atStart => exact ⟨(0), rS, H', ⟨Nat.le_refl _⟩, ⟨kU lD.out⟩, ⟨bU1 HB.out pQ.out⟩⟩
   case round =>
    clear H'; obtain ⟨bU, rfl, HA, fp, lD, HB⟩ := hrel
    rcases gk with _ | k2
    exact (nN HA.out).elim; have H := HA.out; clear HA; simp only [cY.l1] at H
    replace H := gB H; rcases H with ⟨yo, H⟩ | ⟨yo, H⟩
    ·
     replace H := gD1 H; obtain ⟨yp, H⟩ := H; replace H := bd H; obtain ⟨KL, Ez, H⟩ := H
     by_cases c19 : KL = true
     ·
      subst c19; rw [if_pos rfl] at H; have H' := Az H; clear H; have Jm := bc2 lD.out; obtain ⟨adO, KO, adP, adQ, Bc⟩ := aI cH.out bU
      cases KO
      replace Bc := hT HB.out Bc
      go_wp2_with (first | ((with_reducible refine gK 63 rfl ?_); refine gC (some 42) Try.func63 #[.int .i64 (rd af bU), .int .i64 (-1), .int .i64 1] ?_; (with_reducible refine (j8.calls (rd af bU) (-1) 1 true _ Ez.out).mono ?_); rintro e w' ⟨rfl, ⟨nd, rfl⟩⟩; refine ⟨_, rfl, ?_⟩))
      go_roundg k2
      case measure => exact mO
      case rel => exact ⟨(wrap64 (bU + 1)), rS, H', ⟨mO⟩, ⟨kU lD.out⟩, ⟨bU1 HB.out pQ.out⟩⟩
     ·
      replace c19 := Bool.eq_false_iff.mpr c19; subst c19; rw [if_neg nT] at H; obtain rfl := Option.some.inj H; have Uz := bc2 lD.out; obtain ⟨adO, KO, adP, adQ, Bc⟩ := aI cH.out bU
      cases KO
      replace Bc := hT HB.out Bc
      go_wp2_with (first | ((with_reducible refine gK 63 rfl ?_); refine gC (some 42) Try.func63 #[.int .i64 (rd af bU), .int .i64 (-1), .int .i64 1] ?_; (with_reducible refine (j8.calls (rd af bU) (-1) 1 false _ Ez.out).mono ?_); rintro e w' ⟨rfl, ⟨nd, rfl⟩⟩; refine ⟨_, rfl, ?_⟩))
      go_ret; exact ⟨rE, bU1 HB.out pQ.out⟩
    ·
     replace H := gQ H; rcases H with ⟨Ax, KP, H⟩ | ⟨Ax, KP, H⟩
     ·
      replace H := bd H; obtain ⟨KM, UA, H⟩ := H
      by_cases c24 : KM = true
      ·
       subst c24; rw [if_pos rfl] at H; obtain rfl := Option.some.inj H; have TZ := bc2 lD.out
       go_wp2_with (first | (go_at_call 63; (with_reducible refine (j8.calls bq 1 3 true _ UA.out).mono ?_); rintro e w' ⟨rfl, ⟨nd, rfl⟩⟩))
       go_ret; exact ⟨rE, bU1 HB.out pQ.out⟩
      ·
       replace c24 := Bool.eq_false_iff.mpr c24; subst c24; rw [if_neg nT] at H; obtain rfl := Option.some.inj H; have UB := bc2 lD.out
       go_wp2_with (first | (go_at_call 63; (with_reducible refine (j8.calls bq 1 3 false _ UA.out).mono ?_); rintro e w' ⟨rfl, ⟨nd, rfl⟩⟩))
       go_ret; exact ⟨rE, bU1 HB.out pQ.out⟩
     · obtain rfl := Option.some.inj H; have adR := bc2 lD.out; go_wp2; go_ret; exact ⟨rE, bU1 HB.out pQ.out⟩
def ec.l0 : Nat → List Int → List Int → List Int → List Int → List Int → List Int → Int → Int → ByteArray → List Int → Option (List Int × List Int × List Int)
 | 0, _, _, _, _, _, _, _, _, _, _ => none
 | k + 1, x5, x6, x7, x8, x9, eg, cy, eQ, bL, bJ => if eQ < (bL.size : Int) then (if 0 ≤ (wrap64 ((x8.length : Int) - 1)) then (if (wrap64 ((x8.length : Int) - 1)) < (x8.length : Int) then (if x5.length < 17592186044416 then ((some (x5 ++ [rd x8 (wrap64 ((x8.length : Int) - 1))] : List Int)).bind fun Bd => (if 0 ≤ (wrap64 ((x9.length : Int) - 1)) then (if (wrap64 ((x9.length : Int) - 1)) < (x9.length : Int) then (if x6.length < 17592186044416 then ((some (x6 ++ [rd x9 (wrap64 ((x9.length : Int) - 1))] : List Int)).bind fun Be => (if 0 ≤ eQ then (if (bt bL eQ) = 40 then (if 0 ≤ cy then (if cy < (bJ.length : Int) then (if x9.length < 17592186044416 then (if x8.length < 17592186044416 then (if eg.length < 17592186044416 then (ec.l0 k Bd Be x7 (x8 ++ [wrap64 (cy + 1)]) (x9 ++ [wrap64 ((rd x9 (wrap64 ((x9.length : Int) - 1))) + (rd bJ cy))]) (eg ++ [eQ]) (wrap64 (cy + 1)) (wrap64 (eQ + 1)) bL bJ) else (none)) else (none)) else (none)) else (none)) else (none)) else (if (wrap64 ((x8.length : Int) - 1)) ≤ (x8.length : Int) then (if (wrap64 ((x9.length : Int) - 1)) ≤ (x9.length : Int) then (if 0 ≤ (wrap64 ((eg.length : Int) - 1)) then (if (wrap64 ((eg.length : Int) - 1)) < (eg.length : Int) then (if (wrap64 ((eg.length : Int) - 1)) ≤ (eg.length : Int) then (if eQ < (x7.length : Int) then (if 0 ≤ (rd eg (wrap64 ((eg.length : Int) - 1))) then (if (rd eg (wrap64 ((eg.length : Int) - 1))) < (x7.length : Int) then (ec.l0 k Bd Be ((x7.set (eQ : Int).toNat (rd eg (wrap64 ((eg.length : Int) - 1)))).set ((rd eg (wrap64 ((eg.length : Int) - 1))) : Int).toNat eQ) (x8.take ((wrap64 ((x8.length : Int) - 1)) : Int).toNat) (x9.take ((wrap64 ((x9.length : Int) - 1)) : Int).toNat) (eg.take ((wrap64 ((eg.length : Int) - 1)) : Int).toNat) cy (wrap64 (eQ + 1)) bL bJ) else (none)) else (none)) else (none)) else (none)) else (none)) else (none)) else (none)) else (none))) else (none))) else (none)) else (none)) else (none))) else (none)) else (none)) else (none)) else (some (x5, x6, x7))
def ec.f (k : Nat) (bY : ByteArray) (af : List Int) : Option (List Int × List Int × List Int) := if 0 ≤ (bY.size : Int) then (if ((bY.size : Int) : Int).toNat ≤ 35184372088832 then (ec.l0 k (([] : List Int)) (([] : List Int)) (List.replicate ((bY.size : Int) : Int).toNat 0) (([0] : List Int)) (([0] : List Int)) (([] : List Int)) 0 0 bY af) else (none)) else (none)
theorem ec.mono_l : ∀ k, (∀ y0 y1 y2 y3 y4 y5 y6 y7 y8 y9, LeO (ec.l0 k y0 y1 y2 y3 y4 y5 y6 y7 y8 y9) (ec.l0 (k + 1) y0 y1 y2 y3 y4 y5 y6 y7 y8 y9))
 | 0 => fun _ _ _ _ _ _ _ _ _ _ r h => by simp [ec.l0] at h
 | k + 1 => by
  have dS := ec.mono_l k
  ·
   intro y0 y1 y2 y3 y4 y5 y6 y7 y8 y9
   unfold ec.l0
   repeat' first
   | (with_reducible exact dS _ _ _ _ _ _ _ _ _ _)
   | (with_reducible exact LeO.refl _)
   | (with_reducible exact LeO.none _)
   | (with_reducible refine LeO.ite ?_ ?_)
   | (with_reducible refine LeO.bind ?_ (fun _ => ?_))
   | exact dS _ _ _ _ _ _ _ _ _ _
   | exact LeO.none _
   | refine LeO.ite ?_ ?_
   | refine LeO.bind ?_ (fun _ => ?_)
theorem ec.mono : ∀ a0 a1 k, LeO (ec.f k a0 a1) (ec.f (k + 1) a0 a1) := by
 intro a0 a1 k; have dS := ec.mono_l k
 unfold ec.f
 repeat' first
   | (with_reducible exact dS _ _ _ _ _ _ _ _ _ _)
   | (with_reducible exact LeO.refl _)
   | (with_reducible exact LeO.none _)
   | (with_reducible refine LeO.ite ?_ ?_)
   | (with_reducible refine LeO.bind ?_ (fun _ => ?_))
   | exact dS _ _ _ _ _ _ _ _ _ _
   | exact LeO.none _
   | refine LeO.ite ?_ ?_
   | refine LeO.bind ?_ (fun _ => ?_)
def ec.T14 : Bool × List (List Nat × List Nat) := (true, [([], []), ([], []), ([], []), ([2], [2]), ([3], [3]), ([1, 4], [1, 4]), ([5], [5]), ([], []), ([7], [7]), ([], []), ([8, 9], [8, 9]), ([10], [10]), ([6, 11], [6, 11]), ([12], [12]), ([0, 13], [0, 13]), ([14, 14, 0, 1, 2, 3, 4, 5, 6, 7, 8, 9, 10, 11, 12, 13, 14], [0, 1, 2, 14])])
def ec.B14 : List Nat := [0, 0, 0, 4, 12, 30, 62, 0, 128, 0, 896, 1920, 4094, 8190, 16383, 32767]
theorem ec.Ia : rtab .any (opsOf Try.f70 14) = ec.T14 := by kernel_rfl
theorem ec.HW : ir ec.T14.2 ec.B14 = true := by kernel_rfl
set_option maxHeartbeats 8000000 in
set_option maxRecDepth 100000 in
theorem ec.calls (k : Nat) (bY : ByteArray) (am : Option Addr) (al : Nat) (af : List Int) (r1 : List Int) (r2 : List Int) (r3 : List Int) (w : World) (dl : Kd.C (Kd.int .i64) w am af.length af) (dq : af.length ≤ al) (h : ec.f k bY af = some (r1, r2, r3)) :
  Calls Try.prog 70 #[.agg #[.string bY, .slice am af.length al]] w fun e w' => ∃ bK v1_ v2_ : Value, e = .returned (.tuple #[bK, v1_, v2_]) ∧ Kd.R (Kd.int .i64) 3 w' w.heap.size (fun k_ => oV k_ v1_ ∧ oV k_ v2_) bK r1 ∧ Kd.R (Kd.int .i64) 3 w' w.heap.size (fun k_ => oV k_ bK ∧ oV k_ v2_) v1_ r2 ∧ Kd.R (Kd.int .i64) 3 w' w.heap.size (fun k_ => oV k_ bK ∧ oV k_ v1_) v2_ r3 ∧ Below w.heap.size w w' := by
 have KN := Try.underlying25; have cH := Az dl; have cQ := Az dq; clear dl dq; have HB := bZ w; have H := h; clear h; unfold ec.f at H; obtain ⟨EA, KQ⟩ : ∃ y_ : List Int, y_ = (([] : List Int)) := ⟨_, rfl⟩; replace H : (if 0 ≤ (bY.size : Int) then (if ((bY.size : Int) : Int).toNat ≤ 35184372088832 then (ec.l0 k EA (([] : List Int)) (List.replicate ((bY.size : Int) : Int).toNat 0) (([0] : List Int)) (([0] : List Int)) (([] : List Int)) 0 0 bY af) else (none)) else (none)) = some (r1, r2, r3) := hR KQ H; have UC := Az KQ; clear KQ; obtain ⟨KR, KS⟩ : ∃ y_ : List Int, y_ = (([] : List Int)) := ⟨_, rfl⟩; replace H : (if 0 ≤ (bY.size : Int) then (if ((bY.size : Int) : Int).toNat ≤ 35184372088832 then (ec.l0 k EA KR (List.replicate ((bY.size : Int) : Int).toNat 0) (([0] : List Int)) (([0] : List Int)) (([] : List Int)) 0 0 bY af) else (none)) else (none)) = some (r1, r2, r3) := hR KS H; have UD := Az KS; clear KS; replace H := gE H; obtain ⟨qo, sn, H⟩ := H; replace H := gE H; obtain ⟨ly, sr, H⟩ := H; generalize EB : (List.replicate ((bY.size : Int) : Int).toNat 0 : List Int) = y701 at H; replace EB := Ay EB; obtain ⟨UE, KT⟩ : ∃ y_ : List Int, y_ = (([0] : List Int)) := ⟨_, rfl⟩; replace H : (ec.l0 k EA KR y701 UE (([0] : List Int)) (([] : List Int)) 0 0 bY af) = some (r1, r2, r3) := hR KT H; have UF := Az KT; clear KT; generalize EC : (([0] : List Int) : List Int) = y707 at H; replace EC := Ay EC; generalize ED : (([] : List Int) : List Int) = y710 at H; replace ED := Ay ED; have H' := Az H; clear H; go_enter Try.func70, Try.ntmps70
 go_wp2_with (first | ((with_reducible refine gd 1 rfl ?_); refine bE 1 #[.string bY, .slice am af.length al] 25 ?_; intro KU hg w4 hbox hb; have dt := Az (hbox); have oR := gW hg (bU0 HB.out); replace HB := Az (au (bU0 HB.out) hb); clear hb hbox hg) | ((with_reducible refine gd 14 rfl ?_); refine Kd.iE (Kd.int .i64) _ 3 rfl (N := 14) rfl (xs := ([] : List Int)) (inner := []) (ok := fun _ => True) (okp := fun _ => True) hS ?hp (fun _ hk => hk) trivial (Below.refl _ _) (Nat.le_refl _) (by simp) ?_; (case hp => exact (Reps.none _ _)); intro alw w5 mr hb hg_ hnew_; clear hg_ hnew_; (first | rw [← UC.out] at mr | (simp only [Int.reduceToNat] at mr; rw [← UC.out] at mr)); have mB := Az (Kd.bu mr oH); replace dt := kB dt.out hb; replace HB := Az ye; clear hb mr) | ((with_reducible refine gd 15 rfl ?_); refine Kd.iE (Kd.int .i64) _ 3 rfl (N := 15) rfl (xs := ([] : List Int)) (inner := []) (ok := fun _ => True) (okp := fun _ => True) hS ?hp (fun _ hk => hk) trivial (Below.refl _ _) (Nat.le_refl _) (by simp) ?_; (case hp => exact (Reps.none _ _)); intro alx w7 yF hb hg_ hnew_; clear hg_ hnew_; (first | rw [← UD.out] at yF | (simp only [Int.reduceToNat] at yF; rw [← UD.out] at yF)); have oU := Az (Kd.bu (Kd.aQ yF (Kd.ar (rU mB.out))) oH); replace mB := Az (Kd.a8 (rU mB.out) (Kd.ax yF) hb); replace dt := kB dt.out hb; replace HB := Az ye; clear hb yF; have D6 := bc2 dt.out) | ((with_reducible refine gd 19 rfl ?_); refine Kd.qW (Kd.int .i64) _ 3 rfl (N := 19) rfl 23 _ _ rfl (bY.size : Int) rfl rfl Try.underlying23 (.int .i64 0) 8 dP rfl (by decide) (by omega) 0 (ok := fun _ => True) (okp := fun _ => True) rfl (fun _ hk => hk) trivial (oA) (Nat.le_trans (Nat.mul_le_mul_right _ (oA : (bY.size : Int).toNat ≤ 35184372088832)) (by omega)) (Below.refl _ _) (Nat.le_refl _) ?_; intro eW qv wI hb hg_ hnew_; clear hg_ hnew_; (first | rw [← EB.out] at wI | (simp only [Int.reduceToNat] at wI; rw [← EB.out] at wI)); have rm := Az (Kd.bu (Kd.aQ (Kd.aQ wI (Kd.ar (rU mB.out))) (Kd.ar (rU oU.out))) oH); replace mB := Az (Kd.a8 (rU mB.out) (Kd.ax wI) hb); replace oU := Az (Kd.a8 (rU oU.out) (Kd.ax wI) hb); replace dt := kB dt.out hb; replace HB := Az ye; clear hb wI) | ((with_reducible refine gd 20 rfl ?_); refine Kd.iE (Kd.int .i64) _ 3 rfl (N := 20) rfl (xs := ([0] : List Int)) (inner := [.int .i64 0]) (ok := fun _ => True) (okp := fun _ => True) hS ?hp (fun _ hk => hk) trivial (Below.refl _ _) (Nat.le_refl _) (by simp) ?_; (case hp => exact (Reps.one (show Kd.M (Kd.int .i64) _ _ _ 0 [.int .i64 0] from rfl) (Reps.none _ _))); intro aly oa uE hb hg_ hnew_; clear hg_ hnew_; (first | rw [← UF.out] at uE | (simp only [Int.reduceToNat] at uE; rw [← UF.out] at uE)); have wJ := Az (Kd.bu (Kd.aQ (Kd.aQ (Kd.aQ uE (Kd.ar (rU mB.out))) (Kd.ar (rU oU.out))) (Kd.ar (rU rm.out))) oH); replace mB := Az (Kd.a8 (rU mB.out) (Kd.ax uE) hb); replace oU := Az (Kd.a8 (rU oU.out) (Kd.ax uE) hb); replace rm := Az (Kd.a8 (rU rm.out) (Kd.ax uE) hb); replace dt := kB dt.out hb; replace HB := Az ye; clear hb uE) | ((with_reducible refine gd 21 rfl ?_); refine Kd.iE (Kd.int .i64) _ 3 rfl (N := 21) rfl (xs := ([0] : List Int)) (inner := [.int .i64 0]) (ok := fun _ => True) (okp := fun _ => True) hS ?hp (fun _ hk => hk) trivial (Below.refl _ _) (Nat.le_refl _) (by simp) ?_; (case hp => exact (Reps.one (show Kd.M (Kd.int .i64) _ _ _ 0 [.int .i64 0] from rfl) (Reps.none _ _))); intro alz DU sQ hb hg_ hnew_; clear hg_ hnew_; (first | rw [← EC.out] at sQ | (simp only [Int.reduceToNat] at sQ; rw [← EC.out] at sQ)); have EE := Az (Kd.bu (Kd.aQ (Kd.aQ (Kd.aQ (Kd.aQ sQ (Kd.ar (rU mB.out))) (Kd.ar (rU oU.out))) (Kd.ar (rU rm.out))) (Kd.ar (rU wJ.out))) oH); replace mB := Az (Kd.a8 (rU mB.out) (Kd.ax sQ) hb); replace oU := Az (Kd.a8 (rU oU.out) (Kd.ax sQ) hb); replace rm := Az (Kd.a8 (rU rm.out) (Kd.ax sQ) hb); replace wJ := Az (Kd.a8 (rU wJ.out) (Kd.ax sQ) hb); replace dt := kB dt.out hb; replace HB := Az ye; clear hb sQ) | ((with_reducible refine gd 22 rfl ?_); refine Kd.iE (Kd.int .i64) _ 3 rfl (N := 22) rfl (xs := ([] : List Int)) (inner := []) (ok := fun _ => True) (okp := fun _ => True) hS ?hp (fun _ hk => hk) trivial (Below.refl _ _) (Nat.le_refl _) (by simp) ?_; (case hp => exact (Reps.none _ _)); intro alA w16 rp hb hg_ hnew_; clear hg_ hnew_; (first | rw [← ED.out] at rp | (simp only [Int.reduceToNat] at rp; rw [← ED.out] at rp)); have adS := Az (Kd.bu (Kd.aQ (Kd.aQ (Kd.aQ (Kd.aQ (Kd.aQ rp (Kd.ar (rU mB.out))) (Kd.ar (rU oU.out))) (Kd.ar (rU rm.out))) (Kd.ar (rU wJ.out))) (Kd.ar (rU EE.out))) oH); replace mB := Az (Kd.a8 (rU mB.out) (Kd.ax rp) hb); replace oU := Az (Kd.a8 (rU oU.out) (Kd.ax rp) hb); replace rm := Az (Kd.a8 (rU rm.out) (Kd.ax rp) hb); replace wJ := Az (Kd.a8 (rU wJ.out) (Kd.ax rp) hb); replace EE := Az (Kd.a8 (rU EE.out) (Kd.ax rp) hb); replace dt := kB dt.out hb; replace HB := Az ye; clear hb rp))
 go_loopg [5, 6, 8, 9, 10, 11, 12] k (fun kq v5 v6 v8 v9 v10 v11 v12 w' => ∃ (bs : List Int) (e7 : List Int) (dL : List Int) (bo : List Int) (dT : List Int) (fN : List Int) (e8 : Int) (jl : Int), v11 = .int .i64 e8 ∧ v12 = .int .i64 jl ∧ ae (ec.l0 kq bs e7 dL bo dT fN e8 jl bY af = some (r1, r2, r3)) ∧ ae (kq ≤ k) ∧ ae (Kd.R (Kd.int .i64) 3 w' w.heap.size (fun k_ => oV k_ v6 ∧ oV k_ eW ∧ oV k_ v8 ∧ oV k_ v9 ∧ oV k_ v10) v5 bs) ∧ ae (Kd.R (Kd.int .i64) 3 w' w.heap.size (fun k_ => oV k_ v5 ∧ oV k_ eW ∧ oV k_ v8 ∧ oV k_ v9 ∧ oV k_ v10) v6 e7) ∧ ae (Kd.R (Kd.int .i64) 3 w' w.heap.size (fun k_ => oV k_ v5 ∧ oV k_ v6 ∧ oV k_ v8 ∧ oV k_ v9 ∧ oV k_ v10) eW dL) ∧ ae (Kd.R (Kd.int .i64) 3 w' w.heap.size (fun k_ => oV k_ v5 ∧ oV k_ v6 ∧ oV k_ eW ∧ oV k_ v9 ∧ oV k_ v10) v8 bo) ∧ ae (Kd.R (Kd.int .i64) 3 w' w.heap.size (fun k_ => oV k_ v5 ∧ oV k_ v6 ∧ oV k_ eW ∧ oV k_ v8 ∧ oV k_ v10) v9 dT) ∧ ae (Kd.R (Kd.int .i64) 3 w' w.heap.size (fun k_ => oV k_ v5 ∧ oV k_ v6 ∧ oV k_ eW ∧ oV k_ v8 ∧ oV k_ v9) v10 fN) ∧ ae (w'.heap[KU]? = some (.cells #[.string bY, (.slice am af.length al)] 25 (0, 0))) ∧ ae (Below w.heap.size w w'))
 case atStart => exact ⟨(EA), (KR), (y701), (UE), (y707), (y710), (0), (0), rS, rS, H', ⟨Nat.le_refl _⟩, ⟨rA (Kd.ah mB.out (fun _ hk => ⟨hk.1.1.1.1.2, ⟨hk.1.1.1.2, ⟨hk.1.1.2, ⟨hk.1.2, hk.2⟩⟩⟩⟩))⟩, ⟨rA (Kd.ah oU.out (fun _ hk => ⟨hk.1.1.1.1.2, ⟨hk.1.1.1.2, ⟨hk.1.1.2, ⟨hk.1.2, hk.2⟩⟩⟩⟩))⟩, ⟨rA (Kd.ah rm.out (fun _ hk => ⟨hk.1.1.1.1.2, ⟨hk.1.1.1.2, ⟨hk.1.1.2, ⟨hk.1.2, hk.2⟩⟩⟩⟩))⟩, ⟨rA (Kd.ah wJ.out (fun _ hk => ⟨hk.1.1.1.1.2, ⟨hk.1.1.1.2, ⟨hk.1.1.2, ⟨hk.1.2, hk.2⟩⟩⟩⟩))⟩, ⟨rA (Kd.ah EE.out (fun _ hk => ⟨hk.1.1.1.1.2, ⟨hk.1.1.1.2, ⟨hk.1.1.2, ⟨hk.1.2, hk.2⟩⟩⟩⟩))⟩, ⟨rA (Kd.ah adS.out (fun _ hk => ⟨hk.1.1.1.1.2, ⟨hk.1.1.1.2, ⟨hk.1.1.2, ⟨hk.1.2, hk.2⟩⟩⟩⟩))⟩, ⟨kU dt.out⟩, ⟨bU1 HB.out oR.out⟩⟩
 case round =>
  clear H'; obtain ⟨bs, e7, dL, bo, dT, fN, e8, jl, rfl, rfl, HA, eO, bP, aN, ay, aE, jk, hZ, dt, HB⟩ := hrel
  rcases gk with _ | k1
  exact (nN HA.out).elim; have H := HA.out; clear HA; simp only [ec.l0] at H
  replace H := gB H; rcases H with ⟨uu, H⟩ | ⟨uu, H⟩
  ·
   obtain ⟨oW, KV⟩ : ∃ j_ : Int, (wrap64 ((bo.length : Int) - 1)) = j_ := ⟨_, rfl⟩; (first | rw [KV] at H | simp only [KV] at H); have alB : (IntKind.i64.wrap ((bo.length : Int) - 1)) = oW := (cr _).trans KV; replace H := gD2 H; obtain ⟨yy, Jn, H⟩ := H; replace H := gP H; obtain ⟨UG, H⟩ := H; have UH := Az UG; clear UG; generalize EF : (bs ++ [rd bo (oW)] : List Int) = Bd at H; simp only [Option.bind_some] at H; replace EF := Ay EF; obtain ⟨kY, KW⟩ : ∃ j_ : Int, (wrap64 ((dT.length : Int) - 1)) = j_ := ⟨_, rfl⟩; (first | rw [KW] at H | simp only [KW] at H); have alC : (IntKind.i64.wrap ((dT.length : Int) - 1)) = kY := (cr _).trans KW; replace H := gD2 H; obtain ⟨DD, Jp, H⟩ := H; replace H := gP H; obtain ⟨AR, H⟩ := H; have UI := Az AR; clear AR; generalize EG : (e7 ++ [rd dT (kY)] : List Int) = Be at H; replace EG := Ay EG; replace H := gD1 H; obtain ⟨DW, H⟩ := H
   replace H := gQ H; rcases H with ⟨adT, adU, H⟩ | ⟨adT, adU, H⟩
   ·
    replace H := gD2 H; obtain ⟨KX, alD, H⟩ := H; replace H := gP H; obtain ⟨c32, H⟩ := H; have KY := Az c32; clear c32; generalize KZ : (dT ++ [wrap64 ((rd dT (kY)) + (rd af e8))] : List Int) = y723 at H; replace KZ := Ay KZ; replace H := gP H; obtain ⟨UJ, H⟩ := H; have adV := Az UJ; clear UJ; generalize K0 : (bo ++ [wrap64 (e8 + 1)] : List Int) = y726 at H; replace K0 := Ay K0; replace H := gP H; obtain ⟨c34, H⟩ := H; have adW := Az c34; clear c34; generalize K1 : (fN ++ [jl] : List Int) = y729 at H; replace K1 := Ay K1; have H' := Az H; clear H; have Ur := bc2 dt.out; obtain ⟨rq, iy, K2⟩ := Kd.aU aE.out; subst K2; obtain ⟨e9, K3, adX, adY, adZ⟩ := aI (Kd.av aE.out).2.2 (oW)
    cases K3
    try go_wp2_with (first | ((with_reducible refine ki (b := .append) (xs := #[.tmp 30, .tmp 37]) rfl ?_); at_builtin; refine Kd.kP (Kd.int .i64) (w0 := w) w.heap.size rfl (.tmp 30) (.tmp 37) 23 3 (.int .i64 0) 8 rfl Try.underlying23 dP rfl (by decide) (by omega) u5 bs (rd bo (oW)) [.int .i64 (rd bo (oW))] (fun k_ => oV k_ u6 ∧ oV k_ eW ∧ some k_ ≠ (.slice (some e9) bo.length iy : Value).ownBlock ∧ oV k_ u9 ∧ oV k_ u10) (fun _ => False) rfl rfl ?aP (fun _ hk => hk.elim) ?aF ?aO ?aB ?aS ?aL ?_; (case aP => exact rfl); (case aB => exact (bU1 HB.out oR.out)); (case aF => exact (fun k_ hk => ⟨Kd.dF (Kd.ar (rU aN.out)) k_ hk, Kd.dF (Kd.ar (rU ay.out)) k_ hk, Kd.dF (Kd.ar (rU aE.out)) k_ hk, Kd.dF (Kd.ar (rU jk.out)) k_ hk, Kd.dF (Kd.ar (rU hZ.out)) k_ hk⟩)); (case aO => exact (rU bP.out)); (case aS => exact oH); (case aL => have := UH.out; omega); intro fu sR ho hb hg hat; rw [← EF.out] at ho; replace aN := Az (Kd.cJ (ok := (fun k_ => oV k_ eW ∧ some k_ ≠ (.slice (some e9) bo.length iy : Value).ownBlock ∧ oV k_ u9 ∧ oV k_ u10)) Sz hg hat); replace ay := Az (Kd.cJ (ok := (fun k_ => oV k_ u6 ∧ some k_ ≠ (.slice (some e9) bo.length iy : Value).ownBlock ∧ oV k_ u9 ∧ oV k_ u10)) RH hg hat); replace aE := Az PR; replace jk := Az (Kd.cJ (ok := (fun k_ => oV k_ u6 ∧ oV k_ eW ∧ some k_ ≠ (.slice (some e9) bo.length iy : Value).ownBlock ∧ oV k_ u10)) Re hg hat); replace hZ := Az (Kd.cJ (ok := (fun k_ => oV k_ u6 ∧ oV k_ eW ∧ some k_ ≠ (.slice (some e9) bo.length iy : Value).ownBlock ∧ oV k_ u9)) Su hg hat); replace dt := Az (kG dt.out hg (Kd.dG bP.out dt.out (by decide))); replace HB := Az (hb); have jE := Az (ho); clear bP ho hb hg hat; obtain ⟨ad0, wK, K4⟩ := Kd.aU jk.out; subst K4; obtain ⟨iM, K5, ad1, ad2, ad3⟩ := aI (Kd.av jk.out).2.2 (kY); cases K5) | ((with_reducible refine ki (b := .append) (xs := #[.tmp 39, .tmp 46]) rfl ?_); at_builtin; refine Kd.kP (Kd.int .i64) (w0 := w) w.heap.size rfl (.tmp 39) (.tmp 46) 23 3 (.int .i64 0) 8 rfl Try.underlying23 dP rfl (by decide) (by omega) u6 e7 (rd dT (kY)) [.int .i64 (rd dT (kY))] (fun k_ => oV k_ eW ∧ some k_ ≠ (.slice (some e9) bo.length iy : Value).ownBlock ∧ some k_ ≠ (.slice (some iM) dT.length wK : Value).ownBlock ∧ oV k_ u10 ∧ oV k_ fu) (fun _ => False) rfl rfl ?aP (fun _ hk => hk.elim) ?aF ?aO ?aB ?aS ?aL ?_; (case aP => exact rfl); (case aB => exact (bU1 HB.out oR.out)); (case aF => exact (fun k_ hk => ⟨Kd.dF (Kd.ar (rU ay.out)) k_ hk, Kd.dF (Kd.ar (rU aE.out)) k_ hk, Kd.dF (Kd.ar (rU jk.out)) k_ hk, Kd.dF (Kd.ar (rU hZ.out)) k_ hk, Kd.dF (Kd.ar (rU jE.out)) k_ hk⟩)); (case aO => exact Qa); (case aS => exact oH); (case aL => have := UI.out; omega); intro ic Bf ho hb hg hat; rw [← EG.out] at ho; replace ay := Az (Kd.cJ (ok := (fun k_ => some k_ ≠ (.slice (some e9) bo.length iy : Value).ownBlock ∧ some k_ ≠ (.slice (some iM) dT.length wK : Value).ownBlock ∧ oV k_ u10 ∧ oV k_ fu)) CZ hg hat); replace aE := Az (Kd.cJ (ok := (fun k_ => oV k_ eW ∧ some k_ ≠ (.slice (some iM) dT.length wK : Value).ownBlock ∧ oV k_ u10 ∧ oV k_ fu)) PU hg hat); replace jk := Az (Kd.cJ (ok := (fun k_ => oV k_ eW ∧ some k_ ≠ (.slice (some e9) bo.length iy : Value).ownBlock ∧ oV k_ u10 ∧ oV k_ fu)) Oo hg hat); replace hZ := Az (Kd.cJ (ok := (fun k_ => oV k_ eW ∧ some k_ ≠ (.slice (some e9) bo.length iy : Value).ownBlock ∧ some k_ ≠ (.slice (some iM) dT.length wK : Value).ownBlock ∧ oV k_ fu)) PW hg hat); replace dt := Az (kG dt.out hg (Kd.dG aN.out dt.out (by decide))); replace jE := Az (Kd.cJ (ok := (fun k_ => oV k_ eW ∧ some k_ ≠ (.slice (some e9) bo.length iy : Value).ownBlock ∧ some k_ ≠ (.slice (some iM) dT.length wK : Value).ownBlock ∧ oV k_ u10)) OX hg hat); replace HB := Az (hb); have lC := Az (ho); clear aN ho hb hg hat; have ad4 := bc2 dt.out; have p28 : 0 ≤ (jl : Int) := oA; have Bg : jl < (bY.size : Int) := oA; have hx28 := tY bY jl; replace p28 := eq_true p28; replace Bg := eq_true Bg))
    replace ay := Az (Kd.ci ay.out); replace aE := Az (Kd.ci aE.out); replace jk := Az (Kd.ci jk.out); replace hZ := Az (Kd.ci hZ.out); replace jE := Az (Kd.ci jE.out); replace lC := Az (Kd.ci lC.out); replace dt := Az (dk dt.out); replace HB := Az (aX HB.out); obtain ⟨_, _, UK⟩ := aJ (Kd.av jk.out).2.2 (kY); obtain ⟨UL, ad5, _, _, EH⟩ := aI cH.out e8; have K6 := EH
    cases ad5
    replace EH := hT HB.out EH; refine fX (n := 16) (S := fun w' => w'.cell? ⟨KU, 0, none⟩ = some (.string bY) ∧ w'.cell? ⟨KU, 1, none⟩ = some (.slice (some UL) af.length al) ∧ w'.cell? (iM.add ((kY)).toNat) = some (.int .i64 (rd dT (kY))) ∧ w'.cell? (UL.add (e8).toNat) = some (.int .i64 (rd af e8))) (ds := [13, 14]) (bv 16 0) (by kernel_rfl) rfl rfl ⟨(aM dt.out 0).trans rfl, (aM dt.out 1).trans rfl, UK, (by first | exact K6 | exact (HB.out.cell (World.block_lt_of_cell? w _ K6)).trans K6)⟩ (fun hHeld => ?_); refine gn ec.Ia ec.HW (fun HT_ HW_ => ?_); generalize Bf.drew = UM at ay aE jk hZ jE lC dt HB UK EH hHeld ⊢; refine ak (i := 0) (N := some 53) (v := ?_) (a' := ?_) (bv 16 1) rfl rfl (aj HT_.out (by kernel_rfl)) (fun _ _ _ h => h) (Or.inl ⟨by rfl, ?_⟩) ?_ ?_; rotate_left; (exact yP); rotate_left; (exact aP); refine ak (i := 1) (N := some 54) (v := ?_) (a' := ?_) (bv 16 3) rfl rfl (aj HT_.out (by kernel_rfl)) (fun _ _ _ h => h) (Or.inl ⟨by rfl, ?_⟩) ?_ ?_; rotate_left; (exact yP); rotate_left; (exact aP); refine ak (i := 2) (N := some 55) (v := ?_) (a' := ?_) (bv 16 7) rfl rfl (aj HT_.out (by kernel_rfl)) (fun _ _ _ h => h) (Or.inl ⟨by rfl, ?_⟩) ?_ ?_; rotate_left; (exact yP); rotate_left; (exact aP); refine ak (i := 3) (N := some 56) (v := ?_) (a' := ?_) (bv 16 15) rfl rfl (aj HT_.out (by kernel_rfl)) (fun _ _ _ h => h) (Or.inl ⟨by rfl, ?_⟩) ?_ ?_; rotate_left; (exact yP); rotate_left; (exact aP); refine ak (i := 4) (N := some 57) (v := ?_) (a' := ?_) (bv 16 31) rfl rfl (aj HT_.out (by kernel_rfl)) (fun _ _ _ h => h) (Or.inl ⟨by rfl, ?_⟩) ?_ ?_; rotate_left; (exact yP); rotate_left; (exact aP); refine ak (i := 5) (N := some 58) (v := ?_) (a' := ?_) (bv 16 63) rfl rfl (aj HT_.out (by kernel_rfl)) (fun _ _ _ h => h) (Or.inl ⟨by rfl, ?_⟩) ?_ ?_; rotate_left; (exact yP); rotate_left; (exact aP); refine ak (i := 7) (N := some 60) (v := ?_) (a' := ?_) (bv 16 191) rfl rfl (aj HT_.out (by kernel_rfl)) (fun _ _ _ h => h) (Or.inl ⟨by rfl, ?_⟩) ?_ ?_; rotate_left; (exact yP); rotate_left; (exact aP); refine ak (i := 9) (N := some 62) (v := ?_) (a' := ?_) (bv 16 703) rfl rfl (aj HT_.out (by kernel_rfl)) (fun _ _ _ h => h) (Or.inl ⟨by rfl, ?_⟩) ?_ ?_; rotate_left; (exact yP); rotate_left; (exact aP); refine dh (i := 6) (N := some 59) (v := ?_) (a' := ?_) (bv 16 767) rfl rfl (dc HT_.out HW_.out (by kernel_rfl)) (fun _ _ _ h => h) (Or.inl ⟨by rfl, ?_⟩) hHeld ?_ ?_; rotate_left
    ·
     rintro w' ⟨s0, s1, s2, s3⟩; go_simp
     with_reducible rfl
    rotate_left; (exact aP); refine dh (i := 8) (N := some 61) (v := ?_) (a' := ?_) (bv 16 1023) rfl rfl (dc HT_.out HW_.out (by kernel_rfl)) (fun _ _ _ h => h) (Or.inl ⟨by rfl, ?_⟩) hHeld ?_ ?_; rotate_left
    ·
     rintro w' ⟨s0, s1, s2, s3⟩; go_simp
     with_reducible rfl
    rotate_left; (exact aP); refine ak (i := 10) (N := some 63) (v := ?_) (a' := ?_) (bv 16 2047) rfl rfl (aj HT_.out (by kernel_rfl)) (fun _ _ _ h => h) (Or.inl ⟨by rfl, ?_⟩) ?_ ?_; rotate_left; (exact yP); rotate_left; (exact aP); refine dh (i := 11) (N := some 64) (v := ?_) (a' := ?_) (bv 16 4095) rfl rfl (dc HT_.out HW_.out (by kernel_rfl)) (fun _ _ _ h => h) (Or.inl ⟨by rfl, ?_⟩) hHeld ?_ ?_; rotate_left
    ·
     rintro w' ⟨s0, s1, s2, s3⟩; go_simp
     with_reducible rfl
    rotate_left; (exact aP); refine ak (i := 12) (N := some 65) (v := ?_) (a' := ?_) (bv 16 8191) rfl rfl (aj HT_.out (by kernel_rfl)) (fun _ _ _ h => h) (Or.inl ⟨by rfl, ?_⟩) ?_ ?_; rotate_left; (exact yP); rotate_left; (exact aP); refine mS (i := 13) (N := some 66) (bv 16 16383) rfl rfl (dj HT_.out (by kernel_rfl)) (by decide) (fun K hK => ?_); refine CJ (w1 := ?_) (v := ?_) (by rfl) rfl ?_ ?_; rotate_left 2
    ·
     go_simp
     constructor
     · rfl
     · rfl
    refine hK.out _ _ ?_; clear hK K; refine bw (a' := ?_) ?_ ?_; rotate_left
    ·
     show Act.put _ (some 66) _ = _
     simp only [Act.put, List.setIfInBounds_toArray, List.set_cons_zero, List.set_cons_succ, cr, cK]; rfl
    refine mS (i := 14) (N := some 67) (bv 16 32767) rfl rfl (dj HT_.out (by kernel_rfl)) (by decide) (fun K hK => ?_); refine Kd.ZL (Kd.int .i64) (w0 := w) w.heap.size (by rfl) (.tmp 53) (.tmp 66) 23 3 (.int .i64 0) 8 rfl Try.underlying23 dP rfl (by decide) (by omega) (.slice (some iM) dT.length wK) dT (wrap64 ((rd dT (kY)) + (rd af e8))) [.int .i64 (wrap64 ((rd dT (kY)) + (rd af e8)))] (fun k_ => oV k_ eW ∧ some k_ ≠ (.slice (some e9) bo.length iy : Value).ownBlock ∧ oV k_ u10 ∧ oV k_ fu ∧ oV k_ ic) (fun _ => False) rfl rfl ?aP (fun _ hk => hk.elim) ?aF ?aO ?aB ?aS ?aL ?_
    (case aP => exact rfl)
    (case aB => exact (bU1 HB.out oR.out))
    (case aF => exact (fun k_ hk => ⟨Kd.dF (Kd.ar (rU ay.out)) k_ hk, Kd.dF (Kd.ar (rU aE.out)) k_ hk, Kd.dF (Kd.ar (rU hZ.out)) k_ hk, Kd.dF (Kd.ar (rU jE.out)) k_ hk, Kd.dF (Kd.ar (rU lC.out)) k_ hk⟩))
    (case aO => exact (rA (Kd.ah jk.out (fun _ hk => ⟨hk.1.1, ⟨hk.1.2.1, ⟨hk.1.2.2.1, ⟨hk.1.2.2.2, hk.2⟩⟩⟩⟩))))
    (case aS => exact oH)
    (case aL => have := KY.out; omega)
    intro ru EI ho hb hg hat; rw [← KZ.out] at ho; replace ay := Az (Kd.cJ (ok := (fun k_ => some k_ ≠ (.slice (some e9) bo.length iy : Value).ownBlock ∧ oV k_ u10 ∧ oV k_ fu ∧ oV k_ ic)) (rA (Kd.ah ay.out (fun _ hk => ⟨⟨hk.1.1, ⟨hk.1.2.2.1, ⟨hk.1.2.2.2, hk.2⟩⟩⟩, hk.1.2.1⟩))) hg hat); replace aE := Az (Kd.cJ (ok := (fun k_ => oV k_ eW ∧ oV k_ u10 ∧ oV k_ fu ∧ oV k_ ic)) (rA (Kd.ah aE.out (fun _ hk => ⟨⟨hk.1.1, ⟨hk.1.2.2.1, ⟨hk.1.2.2.2, hk.2⟩⟩⟩, hk.1.2.1⟩))) hg hat); replace hZ := Az (Kd.cJ (ok := (fun k_ => oV k_ eW ∧ some k_ ≠ (.slice (some e9) bo.length iy : Value).ownBlock ∧ oV k_ fu ∧ oV k_ ic)) (rA (Kd.ah hZ.out (fun _ hk => ⟨⟨hk.1.1, ⟨hk.1.2.1, ⟨hk.1.2.2.2, hk.2⟩⟩⟩, hk.1.2.2.1⟩))) hg hat); replace dt := Az (kG dt.out hg (Kd.dG jk.out dt.out (by decide))); replace jE := Az (Kd.cJ (ok := (fun k_ => oV k_ eW ∧ some k_ ≠ (.slice (some e9) bo.length iy : Value).ownBlock ∧ oV k_ u10 ∧ oV k_ ic)) (rA (Kd.ah jE.out (fun _ hk => ⟨⟨hk.1.1, ⟨hk.1.2.1, ⟨hk.1.2.2.2, hk.2⟩⟩⟩, hk.1.2.2.1⟩))) hg hat); replace lC := Az (Kd.cJ (ok := (fun k_ => oV k_ eW ∧ some k_ ≠ (.slice (some e9) bo.length iy : Value).ownBlock ∧ oV k_ u10 ∧ oV k_ fu)) (rA (Kd.ah lC.out (fun _ hk => ⟨⟨hk.1, ⟨hk.2.1, ⟨hk.2.2.2.1, hk.2.2.2.2⟩⟩⟩, hk.2.2.1⟩))) hg hat); replace HB := Az (hb); have wL := Az (ho); clear jk ho hb hg hat; refine hK.out _ _ ?_; clear hK K; refine bw (a' := ?_) ?_ ?_; rotate_left
    ·
     show Act.put _ (some 67) _ = _
     simp only [Act.put, List.setIfInBounds_toArray, List.set_cons_zero, List.set_cons_succ, cr, cK]; rfl
    refine ak (i := 15) (N := some 9) (v := ?_) (a' := ?_) (bv 16 65535) rfl rfl (aj HT_.out (by kernel_rfl)) (fun _ _ _ h => h) (Or.inl ⟨by rfl, ?_⟩) ?_ ?_; rotate_left; (exact yP); rotate_left; (exact aP); refine fY (gp HT_.out (by kernel_rfl)) ?_
    try go_wp2_with (first | ((with_reducible refine ki (b := .append) (xs := #[.tmp 70, .tmp 72]) rfl ?_); at_builtin; refine Kd.kP (Kd.int .i64) (w0 := w) w.heap.size rfl (.tmp 70) (.tmp 72) 23 3 (.int .i64 0) 8 rfl Try.underlying23 dP rfl (by decide) (by omega) (.slice (some e9) bo.length iy) bo (wrap64 (e8 + 1)) [.int .i64 (wrap64 (e8 + 1))] (fun k_ => oV k_ eW ∧ oV k_ u10 ∧ oV k_ fu ∧ oV k_ ic ∧ oV k_ ru) (fun _ => False) rfl rfl ?aP (fun _ hk => hk.elim) ?aF ?aO ?aB ?aS ?aL ?_; (case aP => exact rfl); (case aB => exact (bU1 HB.out oR.out)); (case aF => exact (fun k_ hk => ⟨Kd.dF (Kd.ar (rU ay.out)) k_ hk, Kd.dF (Kd.ar (rU hZ.out)) k_ hk, Kd.dF (Kd.ar (rU jE.out)) k_ hk, Kd.dF (Kd.ar (rU lC.out)) k_ hk, Kd.dF (Kd.ar (rU wL.out)) k_ hk⟩)); (case aO => exact (rA (Kd.ah aE.out (fun _ hk => ⟨hk.1.1, ⟨hk.1.2.1, ⟨hk.1.2.2.1, ⟨hk.1.2.2.2, hk.2⟩⟩⟩⟩)))); (case aS => exact oH); (case aL => have := adV.out; omega); intro Bh w43 ho hb hg hat; rw [← K0.out] at ho; replace ay := Az (Kd.cJ (ok := (fun k_ => oV k_ u10 ∧ oV k_ fu ∧ oV k_ ic ∧ oV k_ ru)) CZ hg hat); replace hZ := Az (Kd.cJ (ok := (fun k_ => oV k_ eW ∧ oV k_ fu ∧ oV k_ ic ∧ oV k_ ru)) (rA (Kd.ah hZ.out (fun _ hk => ⟨⟨hk.1.1, ⟨hk.1.2.2.1, ⟨hk.1.2.2.2, hk.2⟩⟩⟩, hk.1.2.1⟩))) hg hat); replace dt := Az (kG dt.out hg (Kd.dG aE.out dt.out (by decide))); replace jE := Az (Kd.cJ (ok := (fun k_ => oV k_ eW ∧ oV k_ u10 ∧ oV k_ ic ∧ oV k_ ru)) Qv hg hat); replace lC := Az (Kd.cJ (ok := (fun k_ => oV k_ eW ∧ oV k_ u10 ∧ oV k_ fu ∧ oV k_ ru)) P2 hg hat); replace wL := Az (Kd.cJ (ok := (fun k_ => oV k_ eW ∧ oV k_ u10 ∧ oV k_ fu ∧ oV k_ ic)) (rA (Kd.ah wL.out (fun _ hk => ⟨⟨hk.1, ⟨hk.2.2.1, ⟨hk.2.2.2.1, hk.2.2.2.2⟩⟩⟩, hk.2.1⟩))) hg hat); replace HB := Az (hb); have EJ := Az (ho); clear aE ho hb hg hat) | ((with_reducible refine ki (b := .append) (xs := #[.tmp 74, .tmp 76]) rfl ?_); at_builtin; refine Kd.kP (Kd.int .i64) (w0 := w) w.heap.size rfl (.tmp 74) (.tmp 76) 23 3 (.int .i64 0) 8 rfl Try.underlying23 dP rfl (by decide) (by omega) u10 fN jl [.int .i64 jl] (fun k_ => oV k_ eW ∧ oV k_ fu ∧ oV k_ ic ∧ oV k_ ru ∧ oV k_ Bh) (fun _ => False) rfl rfl ?aP (fun _ hk => hk.elim) ?aF ?aO ?aB ?aS ?aL ?_; (case aP => exact rfl); (case aB => exact (bU1 HB.out oR.out)); (case aF => exact (fun k_ hk => ⟨Kd.dF (Kd.ar (rU ay.out)) k_ hk, Kd.dF (Kd.ar (rU jE.out)) k_ hk, Kd.dF (Kd.ar (rU lC.out)) k_ hk, Kd.dF (Kd.ar (rU wL.out)) k_ hk, Kd.dF (Kd.ar (rU EJ.out)) k_ hk⟩)); (case aO => exact (rA (Kd.ah hZ.out (fun _ hk => ⟨hk.1.1, ⟨hk.1.2.1, ⟨hk.1.2.2.1, ⟨hk.1.2.2.2, hk.2⟩⟩⟩⟩)))); (case aS => exact oH); (case aL => have := adW.out; omega); intro alE UN ho hb hg hat; rw [← K1.out] at ho; replace ay := Az (Kd.cJ (ok := (fun k_ => oV k_ fu ∧ oV k_ ic ∧ oV k_ ru ∧ oV k_ Bh)) CZ hg hat); replace dt := Az (kG dt.out hg (Kd.dG hZ.out dt.out (by decide))); replace jE := Az (Kd.cJ (ok := (fun k_ => oV k_ eW ∧ oV k_ ic ∧ oV k_ ru ∧ oV k_ Bh)) Qv hg hat); replace lC := Az (Kd.cJ (ok := (fun k_ => oV k_ eW ∧ oV k_ fu ∧ oV k_ ru ∧ oV k_ Bh)) P2 hg hat); replace wL := Az (Kd.cJ (ok := (fun k_ => oV k_ eW ∧ oV k_ fu ∧ oV k_ ic ∧ oV k_ Bh)) (rA (Kd.ah wL.out (fun _ hk => ⟨⟨hk.1.1, ⟨hk.1.2.2.1, ⟨hk.1.2.2.2, hk.2⟩⟩⟩, hk.1.2.1⟩))) hg hat); replace EJ := Az (Kd.cJ (ok := (fun k_ => oV k_ eW ∧ oV k_ fu ∧ oV k_ ic ∧ oV k_ ru)) (rA (Kd.ah EJ.out (fun _ hk => ⟨⟨hk.1, ⟨hk.2.2.1, ⟨hk.2.2.2.1, hk.2.2.2.2⟩⟩⟩, hk.2.1⟩))) hg hat); replace HB := Az (hb); have ad7 := Az (ho); clear hZ ho hb hg hat))
    go_roundg k1
    case measure => exact mO
    case rel => exact ⟨(Bd), (Be), (dL), (y726), (y723), (y729), (wrap64 (e8 + 1)), (wrap64 (jl + 1)), rS, rS, H', ⟨mO⟩, ⟨rA (Kd.ah jE.out (fun _ hk => ⟨hk.1.2.1, ⟨hk.1.1, ⟨hk.1.2.2.2, ⟨hk.1.2.2.1, hk.2⟩⟩⟩⟩))⟩, ⟨rA (Kd.ah lC.out (fun _ hk => ⟨hk.1.2.1, ⟨hk.1.1, ⟨hk.1.2.2.2, ⟨hk.1.2.2.1, hk.2⟩⟩⟩⟩))⟩, ⟨rA (Kd.ah ay.out (fun _ hk => ⟨hk.1.1, ⟨hk.1.2.1, ⟨hk.1.2.2.2, ⟨hk.1.2.2.1, hk.2⟩⟩⟩⟩))⟩, ⟨rA (Kd.ah EJ.out (fun _ hk => ⟨hk.1.2.1, ⟨hk.1.2.2.1, ⟨hk.1.1, ⟨hk.1.2.2.2, hk.2⟩⟩⟩⟩))⟩, ⟨rA (Kd.ah wL.out (fun _ hk => ⟨hk.1.2.1, ⟨hk.1.2.2.1, ⟨hk.1.1, ⟨hk.1.2.2.2, hk.2⟩⟩⟩⟩))⟩, ⟨rA (Kd.ah ad7.out (fun _ hk => ⟨hk.2.1, ⟨hk.2.2.1, ⟨hk.1, ⟨hk.2.2.2.2, hk.2.2.2.1⟩⟩⟩⟩))⟩, ⟨kU dt.out⟩, ⟨bU1 HB.out oR.out⟩⟩
   ·
    replace H := gE H; obtain ⟨K7, K8, H⟩ := H; generalize EK : (bo.take ((oW) : Int).toNat : List Int) = y732 at H; replace EK := Ay EK; replace H := gE H; obtain ⟨alF, alG, H⟩ := H; generalize EL : (dT.take ((kY) : Int).toNat : List Int) = y735 at H; replace EL := Ay EL; obtain ⟨l8, K9⟩ : ∃ j_ : Int, (wrap64 ((fN.length : Int) - 1)) = j_ := ⟨_, rfl⟩; (first | rw [K9] at H | simp only [K9] at H); have alH : (IntKind.i64.wrap ((fN.length : Int) - 1)) = l8 := (cr _).trans K9; replace H := gD2 H; obtain ⟨ad8, UO, H⟩ := H; replace H := gE H; obtain ⟨alI, alJ, H⟩ := H; generalize EM : (fN.take ((l8) : Int).toNat : List Int) = y739 at H; replace EM := Ay EM; replace H := gD1 H; obtain ⟨alK, H⟩ := H; generalize La : (dL.set (jl : Int).toNat (rd fN (l8)) : List Int) = y742 at H; replace La := Ay La; replace H := gD2 H; obtain ⟨ad9, aea, H⟩ := H; generalize Lb : (y742.set ((rd fN (l8)) : Int).toNat jl : List Int) = y743 at H; replace Lb := Ay Lb; have H' := Az H; clear H; have UP := bc2 dt.out; obtain ⟨jF, d8, Lc⟩ := Kd.aU aE.out; subst Lc; obtain ⟨e9, K3, adX, adY, adZ⟩ := aI (Kd.av aE.out).2.2 (oW)
    cases K3
    go_wp2_with (first | ((with_reducible refine ki (b := .append) (xs := #[.tmp 30, .tmp 37]) rfl ?_); at_builtin; refine Kd.kP (Kd.int .i64) (w0 := w) w.heap.size rfl (.tmp 30) (.tmp 37) 23 3 (.int .i64 0) 8 rfl Try.underlying23 dP rfl (by decide) (by omega) u5 bs (rd bo (oW)) [.int .i64 (rd bo (oW))] (fun k_ => oV k_ u6 ∧ oV k_ eW ∧ some k_ ≠ (.slice (some e9) bo.length d8 : Value).ownBlock ∧ oV k_ u9 ∧ oV k_ u10) (fun _ => False) rfl rfl ?aP (fun _ hk => hk.elim) ?aF ?aO ?aB ?aS ?aL ?_; (case aP => exact rfl); (case aB => exact (bU1 HB.out oR.out)); (case aF => exact (fun k_ hk => ⟨Kd.dF (Kd.ar (rU aN.out)) k_ hk, Kd.dF (Kd.ar (rU ay.out)) k_ hk, Kd.dF (Kd.ar (rU aE.out)) k_ hk, Kd.dF (Kd.ar (rU jk.out)) k_ hk, Kd.dF (Kd.ar (rU hZ.out)) k_ hk⟩)); (case aO => exact (rU bP.out)); (case aS => exact oH); (case aL => have := UH.out; omega); intro fu EN ho hb hg hat; rw [← EF.out] at ho; replace aN := Az (Kd.cJ (ok := (fun k_ => oV k_ eW ∧ some k_ ≠ (.slice (some e9) bo.length d8 : Value).ownBlock ∧ oV k_ u9 ∧ oV k_ u10)) Sz hg hat); replace ay := Az (Kd.cJ (ok := (fun k_ => oV k_ u6 ∧ some k_ ≠ (.slice (some e9) bo.length d8 : Value).ownBlock ∧ oV k_ u9 ∧ oV k_ u10)) RH hg hat); replace aE := Az PR; replace jk := Az (Kd.cJ (ok := (fun k_ => oV k_ u6 ∧ oV k_ eW ∧ some k_ ≠ (.slice (some e9) bo.length d8 : Value).ownBlock ∧ oV k_ u10)) Re hg hat); replace hZ := Az (Kd.cJ (ok := (fun k_ => oV k_ u6 ∧ oV k_ eW ∧ some k_ ≠ (.slice (some e9) bo.length d8 : Value).ownBlock ∧ oV k_ u9)) Su hg hat); replace dt := Az (kG dt.out hg (Kd.dG bP.out dt.out (by decide))); replace HB := Az (hb); have jE := Az (ho); clear bP ho hb hg hat; obtain ⟨aeb, lG, Ld⟩ := Kd.aU jk.out; subst Ld; obtain ⟨iM, K5, ad1, ad2, ad3⟩ := aI (Kd.av jk.out).2.2 (kY); cases K5) | ((with_reducible refine ki (b := .append) (xs := #[.tmp 39, .tmp 46]) rfl ?_); at_builtin; refine Kd.kP (Kd.int .i64) (w0 := w) w.heap.size rfl (.tmp 39) (.tmp 46) 23 3 (.int .i64 0) 8 rfl Try.underlying23 dP rfl (by decide) (by omega) u6 e7 (rd dT (kY)) [.int .i64 (rd dT (kY))] (fun k_ => oV k_ eW ∧ some k_ ≠ (.slice (some e9) bo.length d8 : Value).ownBlock ∧ some k_ ≠ (.slice (some iM) dT.length lG : Value).ownBlock ∧ oV k_ u10 ∧ oV k_ fu) (fun _ => False) rfl rfl ?aP (fun _ hk => hk.elim) ?aF ?aO ?aB ?aS ?aL ?_; (case aP => exact rfl); (case aB => exact (bU1 HB.out oR.out)); (case aF => exact (fun k_ hk => ⟨Kd.dF (Kd.ar (rU ay.out)) k_ hk, Kd.dF (Kd.ar (rU aE.out)) k_ hk, Kd.dF (Kd.ar (rU jk.out)) k_ hk, Kd.dF (Kd.ar (rU hZ.out)) k_ hk, Kd.dF (Kd.ar (rU jE.out)) k_ hk⟩)); (case aO => exact Qa); (case aS => exact oH); (case aL => have := UI.out; omega); intro ic qA ho hb hg hat; rw [← EG.out] at ho; replace ay := Az (Kd.cJ (ok := (fun k_ => some k_ ≠ (.slice (some e9) bo.length d8 : Value).ownBlock ∧ some k_ ≠ (.slice (some iM) dT.length lG : Value).ownBlock ∧ oV k_ u10 ∧ oV k_ fu)) CZ hg hat); replace aE := Az (Kd.cJ (ok := (fun k_ => oV k_ eW ∧ some k_ ≠ (.slice (some iM) dT.length lG : Value).ownBlock ∧ oV k_ u10 ∧ oV k_ fu)) PU hg hat); replace jk := Az (Kd.cJ (ok := (fun k_ => oV k_ eW ∧ some k_ ≠ (.slice (some e9) bo.length d8 : Value).ownBlock ∧ oV k_ u10 ∧ oV k_ fu)) Oo hg hat); replace hZ := Az (Kd.cJ (ok := (fun k_ => oV k_ eW ∧ some k_ ≠ (.slice (some e9) bo.length d8 : Value).ownBlock ∧ some k_ ≠ (.slice (some iM) dT.length lG : Value).ownBlock ∧ oV k_ fu)) PW hg hat); replace dt := Az (kG dt.out hg (Kd.dG aN.out dt.out (by decide))); replace jE := Az (Kd.cJ (ok := (fun k_ => oV k_ eW ∧ some k_ ≠ (.slice (some e9) bo.length d8 : Value).ownBlock ∧ some k_ ≠ (.slice (some iM) dT.length lG : Value).ownBlock ∧ oV k_ u10)) OX hg hat); replace HB := Az (hb); have lC := Az (ho); clear aN ho hb hg hat; have alL := bc2 dt.out; have p28 : 0 ≤ (jl : Int) := oA; have Bg : jl < (bY.size : Int) := oA; have hx28 := tY bY jl; replace p28 := eq_true p28; replace Bg := eq_true Bg; have wM : ((oW) : Int) ≤ ((bo.length : Int) : Int) := oA; obtain ⟨alM, UQ, _, aec, _⟩ := info_parts dP; have aed := Hk (P := Try.prog) 23 3 .i64 Try.underlying23 UQ (some e9) bo.length d8 (oW) (oA) wM (Kd.av aE.out).2.1; have EO := Kd.Ip (m := ((oW) : Int).toNat) aE.out (by omega); have UR : y732.length = ((oW) : Int).toNat := (by rw [EK.out, List.length_take]; omega); rw [← EK.out] at EO; rw [← UR] at EO aed; clear UR UQ aec aE; have Bi := Az EO; clear EO; replace wM := eq_true wM; have wN : ((kY) : Int) ≤ ((dT.length : Int) : Int) := oA; obtain ⟨alN, US, _, aee, _⟩ := info_parts dP; have aef := Hk (P := Try.prog) 23 3 .i64 Try.underlying23 US (some iM) dT.length lG (kY) (oA) wN (Kd.av jk.out).2.1; have EP := Kd.Ip (m := ((kY) : Int).toNat) jk.out (by omega); have UT : y735.length = ((kY) : Int).toNat := (by rw [EL.out, List.length_take]; omega); rw [← EL.out] at EP; rw [← UT] at EP aef; clear UT US aee jk; have Bj := Az EP; clear EP; replace wN := eq_true wN; obtain ⟨Bl, j3, sS⟩ := Kd.aU hZ.out; subst sS; obtain ⟨pS, aeg, _, _, alO⟩ := aI (Kd.av hZ.out).2.2 (l8); cases aeg; have Le : ((l8) : Int) ≤ ((fN.length : Int) : Int) := oA; obtain ⟨alP, UU, _, aeh, _⟩ := info_parts dP; have aei := Hk (P := Try.prog) 23 3 .i64 Try.underlying23 UU (some pS) fN.length j3 (l8) (oA) Le (Kd.av hZ.out).2.1; have EQ := Kd.Ip (m := ((l8) : Int).toNat) hZ.out (by omega); have UV : y739.length = ((l8) : Int).toNat := (by rw [EM.out, List.length_take]; omega); rw [← EM.out] at EQ; rw [← UV] at EQ aei; clear UV UU aeh hZ; have Bm := Az EQ; clear EQ; replace Le := eq_true Le; have p52 : 0 ≤ (jl : Int) := oA; have Lf : (jl : Int) < ((dL.length : Int) : Int) := oA; obtain ⟨iz, eH, ES, UW, aej, alQ, UX⟩ := Kd.ky ay.out (by omega); (first | cases ES | (injection ES with ea_ en_ ec_; (first | subst ea_ | (injection ea_ with ea_; subst ea_)); subst ec_; clear en_)); have UY := Az UW; have alR := Az UX; clear UW aej UX; obtain ⟨alS, alT⟩ := Kd.dw 0 ay.out (jl : Int) p52 Lf; replace p52 := eq_true p52; replace Lf := eq_true Lf; have n_ := Az (Kd.ah (ok' := (fun k_ => some k_ ≠ (.slice (some e9) y732.length d8 : Value).ownBlock ∧ some k_ ≠ (.slice (some iM) y735.length lG : Value).ownBlock ∧ some k_ ≠ (.slice (some pS) y739.length j3 : Value).ownBlock ∧ oV k_ fu ∧ oV k_ ic)) ay.out (fun k_ hk => ⟨hk.1.1, ⟨hk.1.2.1, ⟨hk.1.2.2.1, ⟨hk.1.2.2.2, hk.2⟩⟩⟩⟩)); clear ay; have ay := n_; clear n_; obtain ⟨alU, alV⟩ := Kd.dw 0 ay.out (jl : Int) (oA) (oA); have Lg := Kd.jS ay.out (jl : Int) (rd fN (l8))) | ((with_reducible refine gs 3 102 rfl ?_); refine sE 3 102 (qA.setCell ⟨iz, (jl : Int).toNat, none⟩ (.int .i64 (rd fN (l8)))) ?_; intro Bn hw; have hg : qA.grownBy Bn (some iz) := (by rw [hw]; exact Lg.2); have hp_ : Kd.R (Kd.int .i64) 3 Bn w.heap.size (fun k_ => some k_ ≠ (.slice (some e9) y732.length d8 : Value).ownBlock ∧ some k_ ≠ (.slice (some iM) y735.length lG : Value).ownBlock ∧ some k_ ≠ (.slice (some pS) y739.length j3 : Value).ownBlock ∧ oV k_ fu ∧ oV k_ ic) (.slice (some ⟨iz, 0, none⟩) dL.length eH) y742 := (by rw [hw, La.out]; exact Lg.1); clear Lg; replace Bi := Az (Kd.cJ (v := (.slice (some ⟨iz, 0, none⟩) dL.length eH)) (v1 := (.slice (some ⟨iz, 0, none⟩) dL.length eH)) (ok := (fun k_ => some k_ ≠ (.slice (some iM) y735.length lG : Value).ownBlock ∧ some k_ ≠ (.slice (some pS) y739.length j3 : Value).ownBlock ∧ oV k_ fu ∧ oV k_ ic)) (rA (Kd.ah Bi.out (fun _ hk => ⟨⟨hk.1.2.1, ⟨hk.1.2.2.1, ⟨hk.1.2.2.2, hk.2⟩⟩⟩, hk.1.1⟩))) hg (.inl rfl)); replace Bj := Az (Kd.cJ (v := (.slice (some ⟨iz, 0, none⟩) dL.length eH)) (v1 := (.slice (some ⟨iz, 0, none⟩) dL.length eH)) (ok := (fun k_ => some k_ ≠ (.slice (some e9) y732.length d8 : Value).ownBlock ∧ some k_ ≠ (.slice (some pS) y739.length j3 : Value).ownBlock ∧ oV k_ fu ∧ oV k_ ic)) (rA (Kd.ah Bj.out (fun _ hk => ⟨⟨hk.1.2.1, ⟨hk.1.2.2.1, ⟨hk.1.2.2.2, hk.2⟩⟩⟩, hk.1.1⟩))) hg (.inl rfl)); replace Bm := Az (Kd.cJ (v := (.slice (some ⟨iz, 0, none⟩) dL.length eH)) (v1 := (.slice (some ⟨iz, 0, none⟩) dL.length eH)) (ok := (fun k_ => some k_ ≠ (.slice (some e9) y732.length d8 : Value).ownBlock ∧ some k_ ≠ (.slice (some iM) y735.length lG : Value).ownBlock ∧ oV k_ fu ∧ oV k_ ic)) (rA (Kd.ah Bm.out (fun _ hk => ⟨⟨hk.1.2.1, ⟨hk.1.2.2.1, ⟨hk.1.2.2.2, hk.2⟩⟩⟩, hk.1.1⟩))) hg (.inl rfl)); replace dt := Az (kG dt.out hg (Kd.dG ay.out dt.out (by decide))); replace ay := Az (hp_); replace jE := Az (Kd.cJ (v := (.slice (some ⟨iz, 0, none⟩) dL.length eH)) (v1 := (.slice (some ⟨iz, 0, none⟩) dL.length eH)) (ok := (fun k_ => some k_ ≠ (.slice (some e9) y732.length d8 : Value).ownBlock ∧ some k_ ≠ (.slice (some iM) y735.length lG : Value).ownBlock ∧ some k_ ≠ (.slice (some pS) y739.length j3 : Value).ownBlock ∧ oV k_ ic)) (rA (Kd.ah jE.out (fun _ hk => ⟨⟨hk.1.2.1, ⟨hk.1.2.2.1, ⟨hk.1.2.2.2, hk.2⟩⟩⟩, hk.1.1⟩))) hg (.inl rfl)); replace lC := Az (Kd.cJ (v := (.slice (some ⟨iz, 0, none⟩) dL.length eH)) (v1 := (.slice (some ⟨iz, 0, none⟩) dL.length eH)) (ok := (fun k_ => some k_ ≠ (.slice (some e9) y732.length d8 : Value).ownBlock ∧ some k_ ≠ (.slice (some iM) y735.length lG : Value).ownBlock ∧ some k_ ≠ (.slice (some pS) y739.length j3 : Value).ownBlock ∧ oV k_ fu)) (rA (Kd.ah lC.out (fun _ hk => ⟨⟨hk.2.1, ⟨hk.2.2.1, ⟨hk.2.2.2.1, hk.2.2.2.2⟩⟩⟩, hk.1⟩))) hg (.inl rfl)); replace HB := Az ((by rw [hw]; exact ai (HB.out) UY.out : Below w.heap.size w Bn)); clear hg hw hp_; have p55 : 0 ≤ ((rd fN (l8)) : Int) := oA; have Lh : ((rd fN (l8)) : Int) < ((dL.length : Int) : Int) := oA; obtain ⟨alW, alX⟩ := Kd.dw 0 ay.out ((rd fN (l8)) : Int) p55 Lh; replace p55 := eq_true p55; replace Lh := eq_true Lh; obtain ⟨alY, alZ⟩ := Kd.dw 0 ay.out ((rd fN (l8)) : Int) (oA) (oA); have Li := Kd.jS ay.out ((rd fN (l8)) : Int) jl) | ((with_reducible refine gs 3 106 rfl ?_); refine sE 3 106 (Bn.setCell ⟨iz, ((rd fN (l8)) : Int).toNat, none⟩ (.int .i64 jl)) ?_; intro wO hw; have hg : Bn.grownBy wO (some iz) := (by rw [hw]; exact Li.2); have hp_ : Kd.R (Kd.int .i64) 3 wO w.heap.size (fun k_ => some k_ ≠ (.slice (some e9) y732.length d8 : Value).ownBlock ∧ some k_ ≠ (.slice (some iM) y735.length lG : Value).ownBlock ∧ some k_ ≠ (.slice (some pS) y739.length j3 : Value).ownBlock ∧ oV k_ fu ∧ oV k_ ic) (.slice (some ⟨iz, 0, none⟩) dL.length eH) y743 := (by rw [hw, Lb.out]; exact Li.1); clear Li; replace Bi := Az (Kd.cJ (v := (.slice (some ⟨iz, 0, none⟩) dL.length eH)) (v1 := (.slice (some ⟨iz, 0, none⟩) dL.length eH)) (ok := (fun k_ => some k_ ≠ (.slice (some iM) y735.length lG : Value).ownBlock ∧ some k_ ≠ (.slice (some pS) y739.length j3 : Value).ownBlock ∧ oV k_ fu ∧ oV k_ ic)) (rU Bi.out) hg (.inl rfl)); replace Bj := Az (Kd.cJ (v := (.slice (some ⟨iz, 0, none⟩) dL.length eH)) (v1 := (.slice (some ⟨iz, 0, none⟩) dL.length eH)) (ok := (fun k_ => some k_ ≠ (.slice (some e9) y732.length d8 : Value).ownBlock ∧ some k_ ≠ (.slice (some pS) y739.length j3 : Value).ownBlock ∧ oV k_ fu ∧ oV k_ ic)) (rU Bj.out) hg (.inl rfl)); replace Bm := Az (Kd.cJ (v := (.slice (some ⟨iz, 0, none⟩) dL.length eH)) (v1 := (.slice (some ⟨iz, 0, none⟩) dL.length eH)) (ok := (fun k_ => some k_ ≠ (.slice (some e9) y732.length d8 : Value).ownBlock ∧ some k_ ≠ (.slice (some iM) y735.length lG : Value).ownBlock ∧ oV k_ fu ∧ oV k_ ic)) (rU Bm.out) hg (.inl rfl)); replace dt := Az (kG dt.out hg (Kd.dG ay.out dt.out (by decide))); replace ay := Az (hp_); replace jE := Az (Kd.cJ (v := (.slice (some ⟨iz, 0, none⟩) dL.length eH)) (v1 := (.slice (some ⟨iz, 0, none⟩) dL.length eH)) (ok := (fun k_ => some k_ ≠ (.slice (some e9) y732.length d8 : Value).ownBlock ∧ some k_ ≠ (.slice (some iM) y735.length lG : Value).ownBlock ∧ some k_ ≠ (.slice (some pS) y739.length j3 : Value).ownBlock ∧ oV k_ ic)) (rU jE.out) hg (.inl rfl)); replace lC := Az (Kd.cJ (v := (.slice (some ⟨iz, 0, none⟩) dL.length eH)) (v1 := (.slice (some ⟨iz, 0, none⟩) dL.length eH)) (ok := (fun k_ => some k_ ≠ (.slice (some e9) y732.length d8 : Value).ownBlock ∧ some k_ ≠ (.slice (some iM) y735.length lG : Value).ownBlock ∧ some k_ ≠ (.slice (some pS) y739.length j3 : Value).ownBlock ∧ oV k_ fu)) (rU lC.out) hg (.inl rfl)); replace HB := Az ((by rw [hw]; exact ai (HB.out) UY.out : Below w.heap.size w wO)); clear hg hw hp_))
    go_roundg k1
    case measure => exact mO
    case rel => exact ⟨(Bd), (Be), (y743), (y732), (y735), (y739), (e8), (wrap64 (jl + 1)), rS, rS, H', ⟨mO⟩, ⟨rA (Kd.ah jE.out (fun _ hk => ⟨hk.1.2.2.2, ⟨hk.2, ⟨hk.1.1, ⟨hk.1.2.1, hk.1.2.2.1⟩⟩⟩⟩))⟩, ⟨rA (Kd.ah lC.out (fun _ hk => ⟨hk.1.2.2.2, ⟨hk.2, ⟨hk.1.1, ⟨hk.1.2.1, hk.1.2.2.1⟩⟩⟩⟩))⟩, ⟨rA (Kd.ah ay.out (fun _ hk => ⟨hk.2.2.2.1, ⟨hk.2.2.2.2, ⟨hk.1, ⟨hk.2.1, hk.2.2.1⟩⟩⟩⟩))⟩, ⟨rA (Kd.ah Bi.out (fun _ hk => ⟨hk.1.2.2.1, ⟨hk.1.2.2.2, ⟨hk.2, ⟨hk.1.1, hk.1.2.1⟩⟩⟩⟩))⟩, ⟨rA (Kd.ah Bj.out (fun _ hk => ⟨hk.1.2.2.1, ⟨hk.1.2.2.2, ⟨hk.2, ⟨hk.1.1, hk.1.2.1⟩⟩⟩⟩))⟩, ⟨rA (Kd.ah Bm.out (fun _ hk => ⟨hk.1.2.2.1, ⟨hk.1.2.2.2, ⟨hk.2, ⟨hk.1.1, hk.1.2.1⟩⟩⟩⟩))⟩, ⟨kU dt.out⟩, ⟨bU1 HB.out oR.out⟩⟩
  ·
   simp only [Option.some.injEq, Prod.mk.injEq] at H; obtain ⟨rfl, rfl, rfl⟩ := H; have al0 := bc2 dt.out; go_wp2
   go_ret3
   exact ⟨_, _, _, rE, by refine rA ?_; exact Kd.ah bP.out (fun _ hk => ⟨hk.1, hk.2.1⟩), by refine rA ?_; exact Kd.ah aN.out (fun _ hk => ⟨hk.1, hk.2.1⟩), by refine rA ?_; exact Kd.ah ay.out (fun _ hk => ⟨hk.1, hk.2.1⟩), bU1 HB.out oR.out⟩
mutual
def dH.l0 : Nat → List Int → List Int → Int → Option (List Int)
 | 0, _, _, _ => none
 | k + 1, x0, x3, x4 => if x4 < (x0.length : Int) then (dH.l1 k x0 x3 x4 (-1) 1) else (some x3)
def dH.l1 : Nat → List Int → List Int → Int → Int → Int → Option (List Int)
 | 0, _, _, _, _, _ => none
 | k + 1, x0, x3, x4, x5, x6 => if x6 < (x0.length : Int) then (dH.j2 k x0 x3 x4 x5 x6 (decide (x5 < 0))) else (dH.j2 k x0 x3 x4 x5 x6 false)
def dH.j2 : Nat → List Int → List Int → Int → Int → Int → Bool → Option (List Int)
 | 0, _, _, _, _, _, _ => none
 | k + 1, x0, x3, x4, x5, x6, kS => if kS = true then (if (x0.length : Int) = 0 then (none) else (if 0 ≤ (Int.tmod (wrap64 (x4 + x6)) (x0.length : Int)) then (if (Int.tmod (wrap64 (x4 + x6)) (x0.length : Int)) < (x0.length : Int) then (if 0 ≤ x4 then (if x4 < (x0.length : Int) then (if (rd x0 (Int.tmod (wrap64 (x4 + x6)) (x0.length : Int))) = (wrap64 ((rd x0 x4) - 1)) then (dH.l1 k x0 x3 x4 (Int.tmod (wrap64 (x4 + x6)) (x0.length : Int)) (wrap64 (x6 + 1))) else (dH.l1 k x0 x3 x4 x5 (wrap64 (x6 + 1)))) else (none)) else (none)) else (none)) else (none))) else (if x3.length < 17592186044416 then (dH.l0 k x0 (x3 ++ [x5]) (wrap64 (x4 + 1))) else (none))
end
def dH.f (k : Nat) (l0 : List Int) : Option (List Int) := dH.l0 k l0 (([] : List Int)) 0
theorem dH.mono_l : ∀ k, (∀ y0 y1 y2, LeO (dH.l0 k y0 y1 y2) (dH.l0 (k + 1) y0 y1 y2)) ∧ (∀ y0 y1 y2 y3 y4, LeO (dH.l1 k y0 y1 y2 y3 y4) (dH.l1 (k + 1) y0 y1 y2 y3 y4)) ∧ (∀ y0 y1 y2 y3 y4 y5, LeO (dH.j2 k y0 y1 y2 y3 y4 y5) (dH.j2 (k + 1) y0 y1 y2 y3 y4 y5))
 | 0 => ⟨fun _ _ _ r h => by simp [dH.l0] at h, fun _ _ _ _ _ r h => by simp [dH.l1] at h, fun _ _ _ _ _ _ r h => by simp [dH.j2] at h⟩
 | k + 1 => by
  obtain ⟨dS, ih1, ih2⟩ := dH.mono_l k; refine ⟨?_, ?_, ?_⟩
  ·
   intro y0 y1 y2
   unfold dH.l0
   repeat' first
   | (with_reducible exact dS _ _ _)
   | (with_reducible exact ih1 _ _ _ _ _)
   | (with_reducible exact ih2 _ _ _ _ _ _)
   | (with_reducible exact LeO.refl _)
   | (with_reducible exact LeO.none _)
   | (with_reducible refine LeO.ite ?_ ?_)
   | (with_reducible refine LeO.bind ?_ (fun _ => ?_))
   | exact dS _ _ _
   | exact ih1 _ _ _ _ _
   | exact ih2 _ _ _ _ _ _
   | exact LeO.none _
   | refine LeO.ite ?_ ?_
   | refine LeO.bind ?_ (fun _ => ?_)
  ·
   intro y0 y1 y2 y3 y4
   unfold dH.l1
   repeat' first
   | (with_reducible exact dS _ _ _)
   | (with_reducible exact ih1 _ _ _ _ _)
   | (with_reducible exact ih2 _ _ _ _ _ _)
   | (with_reducible exact LeO.refl _)
   | (with_reducible exact LeO.none _)
   | (with_reducible refine LeO.ite ?_ ?_)
   | (with_reducible refine LeO.bind ?_ (fun _ => ?_))
   | exact dS _ _ _
   | exact ih1 _ _ _ _ _
   | exact ih2 _ _ _ _ _ _
   | exact LeO.none _
   | refine LeO.ite ?_ ?_
   | refine LeO.bind ?_ (fun _ => ?_)
  ·
   intro y0 y1 y2 y3 y4 y5
   unfold dH.j2
   repeat' first
   | (with_reducible exact dS _ _ _)
   | (with_reducible exact ih1 _ _ _ _ _)
   | (with_reducible exact ih2 _ _ _ _ _ _)
   | (with_reducible exact LeO.refl _)
   | (with_reducible exact LeO.none _)
   | (with_reducible refine LeO.ite ?_ ?_)
   | (with_reducible refine LeO.bind ?_ (fun _ => ?_))
   | exact dS _ _ _
   | exact ih1 _ _ _ _ _
   | exact ih2 _ _ _ _ _ _
   | exact LeO.none _
   | refine LeO.ite ?_ ?_
   | refine LeO.bind ?_ (fun _ => ?_)
theorem dH.mono : ∀ a0 k, LeO (dH.f k a0) (dH.f (k + 1) a0) := by
 intro a0 k; obtain ⟨dS, ih1, ih2⟩ := dH.mono_l k
 unfold dH.f
 repeat' first
   | (with_reducible exact dS _ _ _)
   | (with_reducible exact ih1 _ _ _ _ _)
   | (with_reducible exact ih2 _ _ _ _ _ _)
   | (with_reducible exact LeO.refl _)
   | (with_reducible exact LeO.none _)
   | (with_reducible refine LeO.ite ?_ ?_)
   | (with_reducible refine LeO.bind ?_ (fun _ => ?_))
   | exact dS _ _ _
   | exact ih1 _ _ _ _ _
   | exact ih2 _ _ _ _ _ _
   | exact LeO.none _
   | refine LeO.ite ?_ ?_
   | refine LeO.bind ?_ (fun _ => ?_)
set_option maxHeartbeats 8000000 in
set_option maxRecDepth 100000 in
theorem dH.calls (k : Nat) (A0 : Option Addr) (c0 : Nat) (l0 : List Int) (r : List Int) (w : World) (hr0 : Kd.C (Kd.int .i64) w A0 l0.length l0) (hc0 : l0.length ≤ c0) (h : dH.f k l0 = some r) :
  Calls Try.prog 71 #[.slice A0 l0.length c0] w fun e w' => ∃ bK : Value, e = .returned (bK) ∧ Kd.R (Kd.int .i64) 3 w' w.heap.size (fun _ => True) bK r ∧ Below w.heap.size w w' := by
 have de := Az hr0; have gz := Az hc0; clear hr0 hc0; have HB := bZ w; have H := h; clear h; unfold dH.f at H; generalize ET : (([] : List Int) : List Int) = y744 at H; replace ET := Ay ET; have H' := Az H; clear H; go_enter Try.func71, Try.ntmps71
 go_wp2_with (first | ((with_reducible refine gd 8 rfl ?_); refine Kd.iE (Kd.int .i64) _ 3 rfl (N := 8) rfl (xs := ([] : List Int)) (inner := []) (ok := fun _ => True) (okp := fun _ => True) hS ?hp (fun _ hk => hk) trivial (Below.refl _ _) (Nat.le_refl _) (by simp) ?_; (case hp => exact (Reps.none _ _)); intro al1 w2 ho3 hb hg_ hnew_; clear hg_ hnew_; (first | rw [← ET.out] at ho3 | (simp only [Int.reduceToNat] at ho3; rw [← ET.out] at ho3)); have aek := Az (Kd.bu ho3 (be (bU0 HB.out))); replace HB := Az (au (bU0 HB.out) hb); clear hb ho3))
 repeat (go_quiet (fail); try go_wp2_with (fail))
 go_loopg [3, 4] k (fun kq v3 v4 w' => ∃ (aD : List Int) (bq : Int), v4 = .int .i64 bq ∧ ae (dH.l0 kq l0 aD bq = some r) ∧ ae (kq ≤ k) ∧ ae (Kd.R (Kd.int .i64) 3 w' w.heap.size (fun _ => True) v3 aD) ∧ ae (Below w.heap.size w w'))
 case atStart => exact ⟨(y744), (0), rS, H', ⟨Nat.le_refl _⟩, ⟨rU aek.out⟩, ⟨bU0 HB.out⟩⟩
 case round =>
  clear H'; obtain ⟨aD, bq, rfl, HA, eO, aC, HB⟩ := hrel
  rcases gk with _ | k1
  exact (nN HA.out).elim; have H := HA.out; clear HA; simp only [dH.l0] at H
  by_cases c4 : bq < (l0.length : Int)
  ·
   rw [if_pos c4] at H; have kR := decide_eq_true c4; clear c4; have H' := Az H; clear H; go_wp2
   repeat (go_quiet (fail); try go_wp2)
   go_loopg [5, 6] k1 (fun kq v5 v6 w' => ∃ (fq : Int) (bU : Int), v5 = .int .i64 fq ∧ v6 = .int .i64 bU ∧ ae (dH.l1 kq l0 aD bq fq bU = some r) ∧ ae (kq ≤ k1) ∧ ae (Kd.R (Kd.int .i64) 3 w' w.heap.size (fun _ => True) u3 aD) ∧ ae (Below w.heap.size w w'))
   case atStart => exact ⟨((-1)), (1), rS, rS, H', ⟨Nat.le_refl _⟩, ⟨rU aC.out⟩, ⟨bU0 HB.out⟩⟩
   case round =>
    clear H'; obtain ⟨fq, bU, rfl, rfl, HA, fp, aC, HB⟩ := hrel
    rcases gk with _ | k2
    exact (nN HA.out).elim; have H := HA.out; clear HA; simp only [dH.l1] at H; have Lj := Az H; clear H
    go_upto_region 7 with (fail)
    repeat (go_quiet (fail); go_upto_region 7 with (fail))
    go_cut [22] (fun v22 wc => ∃ (kq : Nat) (EU : Bool), v22 = .bool EU ∧ ae (dH.j2 kq l0 aD bq fq bU EU = some r) ∧ ae (kq ≤ k2) ∧ ae (Kd.R (Kd.int .i64) 3 wc w.heap.size (fun _ => True) u3 aD) ∧ ae (Below w.heap.size w wc))
    case first =>
     have H := Lj.out; clear Lj
     replace H := gB H; rcases H with ⟨iK, H⟩ | ⟨iK, H⟩
     ·
      have H' := Az H; clear H; go_wp2
      repeat (go_quiet (fail); try go_wp2)
      go_meet
      case rel => exact ⟨_, (decide (fq < 0)), rS, H', ⟨mO⟩, ⟨rU aC.out⟩, ⟨bU0 HB.out⟩⟩
     ·
      have H' := Az H; clear H; go_wp2
      repeat (go_quiet (fail); try go_wp2)
      go_meet
      case rel => exact ⟨_, (false), rS, H', ⟨mO⟩, ⟨rU aC.out⟩, ⟨bU0 HB.out⟩⟩
    case rest =>
     clear Lj; obtain ⟨kq, EU, rfl, HA, yG, aC, HB⟩ := hcut
     rcases kq with _ | Lk
     exact (nN HA.out).elim; have H := HA.out; clear HA; simp only [dH.j2] at H
     by_cases c7 : EU = true
     ·
      subst c7; rw [if_pos rfl] at H
      by_cases c8 : (l0.length : Int) = 0
      · rw [if_pos c8] at H; exact absurd H (by simp)
      ·
       rw [if_neg c8] at H; have iJ := beq_eq_false_iff_ne.mpr c8; have J0 := bne_iff_ne.mpr c8
       have al2 : ¬ (l0 = []) := fun h_ => c8 (by rw [h_]; rfl)
       obtain ⟨yH, sV⟩ : ∃ j_ : Int, (Int.tmod (wrap64 (bq + bU)) (l0.length : Int)) = j_ := ⟨_, rfl⟩; (first | rw [sV] at H | simp only [sV] at H); replace H := gD4 H; obtain ⟨nY, oM, wa, re, H⟩ := H
       replace H := gQ H; rcases H with ⟨ui, ael, H⟩ | ⟨ui, ael, H⟩
       ·
        have H' := Az H; clear H; obtain ⟨aem, Ll, aen, aeo, Bo⟩ := aI de.out (yH)
        cases Ll
        replace Bo := hT HB.out Bo; obtain ⟨aep, aeq, Bp⟩ := aJ de.out bq; replace Bp := hT HB.out Bp; go_wp2
        repeat (go_quiet (fail); try go_wp2)
        go_roundg Lk
        case measure => have := eO.out; have := fp.out; have := yG.out; omega
        case rel => exact ⟨(yH), (wrap64 (bU + 1)), (by first | rfl | (simp; done) | (simp only [← sV] <;> (first | rfl | simp)) | (simp [*]; done)), rS, H', ⟨by have := eO.out; have := fp.out; have := yG.out; omega⟩, ⟨rU aC.out⟩, ⟨bU0 HB.out⟩⟩
       ·
        have H' := Az H; clear H; obtain ⟨aem, Ll, aen, aeo, Bo⟩ := aI de.out (yH)
        cases Ll
        replace Bo := hT HB.out Bo; obtain ⟨aep, aeq, Bp⟩ := aJ de.out bq; replace Bp := hT HB.out Bp; go_wp2
        repeat (go_quiet (fail); try go_wp2)
        go_roundg Lk
        case measure => have := eO.out; have := fp.out; have := yG.out; omega
        case rel => exact ⟨(fq), (wrap64 (bU + 1)), rS, rS, H', ⟨by have := eO.out; have := fp.out; have := yG.out; omega⟩, ⟨rU aC.out⟩, ⟨bU0 HB.out⟩⟩
     ·
      replace c7 := Bool.eq_false_iff.mpr c7; subst c7; rw [if_neg nT] at H; replace H := gP H; obtain ⟨c15, H⟩ := H; have aer := Az c15; clear c15; generalize Lm : (aD ++ [fq] : List Int) = y749 at H; replace Lm := Ay Lm; have H' := Az H; clear H
      go_wp2_with (first | ((with_reducible refine ki (b := .append) (xs := #[.tmp 42, .tmp 44]) rfl ?_); at_builtin; refine Kd.kP (Kd.int .i64) (w0 := w) w.heap.size rfl (.tmp 42) (.tmp 44) 23 3 (.int .i64 0) 8 rfl Try.underlying23 dP rfl (by decide) (by omega) u3 aD fq [.int .i64 fq] (fun _ => True) (fun _ => False) rfl rfl ?aP (fun _ hk => hk.elim) ?aF ?aO ?aB ?aS ?aL ?_; (case aP => exact rfl); (case aB => exact (bU0 HB.out)); (case aF => exact (fun _ _ => trivial)); (case aO => exact (rU aC.out)); (case aS => exact (be (bU0 HB.out))); (case aL => have := aer.out; omega); intro al3 w16 ho hb hg hat; rw [← Lm.out] at ho; replace HB := Az (hb); have aes := Az (ho); clear aC ho hb hg hat))
      repeat (go_quiet (fail); try go_wp2_with (fail))
      go_roundg Lk
      case measure => have := eO.out; have := fp.out; have := yG.out; omega
      case rel => exact ⟨(y749), (wrap64 (bq + 1)), rS, H', ⟨by have := eO.out; have := fp.out; have := yG.out; omega⟩, ⟨rU aes.out⟩, ⟨bU0 HB.out⟩⟩
  ·
   rw [if_neg c4] at H; have kR := decide_eq_false c4; clear c4; obtain rfl := Option.some.inj H; go_wp2
   repeat (go_quiet (fail); try go_wp2)
   go_ret; exact ⟨_, rE, rU aC.out, bU0 HB.out⟩
def eK.l0 : Nat → Int → List Int → Int → Option (List Int)
 | 0, _, _, _ => none
 | k + 1, x0, x3, x4 => if x4 < x0 then ((some (([wrap64 ((wrap64 (2 * x4)) + 1), wrap64 (2 * x4)] : List Int) : List Int)).bind fun yI => (if x3.length + yI.length < 17592186044416 then (eK.l0 k x0 (x3 ++ yI) (wrap64 (x4 + 1))) else (none))) else (some x3)
def eK.f (k : Nat) (a0 : Int) : Option (List Int) := eK.l0 k a0 (([] : List Int)) 0
theorem eK.mono_l : ∀ k, (∀ y0 y1 y2, LeO (eK.l0 k y0 y1 y2) (eK.l0 (k + 1) y0 y1 y2))
 | 0 => fun _ _ _ r h => by simp [eK.l0] at h
 | k + 1 => by
  have dS := eK.mono_l k
  ·
   intro y0 y1 y2
   unfold eK.l0
   repeat' first
   | (with_reducible exact dS _ _ _)
   | (with_reducible exact LeO.refl _)
   | (with_reducible exact LeO.none _)
   | (with_reducible refine LeO.ite ?_ ?_)
   | (with_reducible refine LeO.bind ?_ (fun _ => ?_))
   | exact dS _ _ _
   | exact LeO.none _
   | refine LeO.ite ?_ ?_
   | refine LeO.bind ?_ (fun _ => ?_)
theorem eK.mono : ∀ a0 k, LeO (eK.f k a0) (eK.f (k + 1) a0) := by
 intro a0 k; have dS := eK.mono_l k
 unfold eK.f
 repeat' first
   | (with_reducible exact dS _ _ _)
   | (with_reducible exact LeO.refl _)
   | (with_reducible exact LeO.none _)
   | (with_reducible refine LeO.ite ?_ ?_)
   | (with_reducible refine LeO.bind ?_ (fun _ => ?_))
   | exact dS _ _ _
   | exact LeO.none _
   | refine LeO.ite ?_ ?_
   | refine LeO.bind ?_ (fun _ => ?_)
set_option maxHeartbeats 8000000 in
set_option maxRecDepth 100000 in
theorem eK.calls (k : Nat) (a0 : Int) (r : List Int) (w : World) (h : eK.f k a0 = some r) :
  Calls Try.prog 72 #[.int .i64 a0] w fun e w' => ∃ bK : Value, e = .returned (bK) ∧ Kd.R (Kd.int .i64) 3 w' w.heap.size (fun _ => True) bK r ∧ Below w.heap.size w w' := by
 have HB := bZ w; have H := h; clear h; unfold eK.f at H; generalize EV : (([] : List Int) : List Int) = y752 at H; replace EV := Ay EV; have H' := Az H; clear H; go_enter Try.func72, Try.ntmps72
 go_wp2_with (first | ((with_reducible refine gd 5 rfl ?_); refine Kd.iE (Kd.int .i64) _ 3 rfl (N := 5) rfl (xs := ([] : List Int)) (inner := []) (ok := fun _ => True) (okp := fun _ => True) hS ?hp (fun _ hk => hk) trivial (Below.refl _ _) (Nat.le_refl _) (by simp) ?_; (case hp => exact (Reps.none _ _)); intro al4 w2 ho3 hb hg_ hnew_; clear hg_ hnew_; (first | rw [← EV.out] at ho3 | (simp only [Int.reduceToNat] at ho3; rw [← EV.out] at ho3)); have aet := Az (Kd.bu ho3 (be (bU0 HB.out))); replace HB := Az (au (bU0 HB.out) hb); clear hb ho3))
 go_loopg [3, 4] k (fun kq v3 v4 w' => ∃ (aD : List Int) (bq : Int), v4 = .int .i64 bq ∧ ae (eK.l0 kq a0 aD bq = some r) ∧ ae (kq ≤ k) ∧ ae (Kd.R (Kd.int .i64) 3 w' w.heap.size (fun _ => True) v3 aD) ∧ ae (Below w.heap.size w w'))
 case atStart => exact ⟨(y752), (0), rS, H', ⟨Nat.le_refl _⟩, ⟨rU aet.out⟩, ⟨bU0 HB.out⟩⟩
 case round =>
  clear H'; obtain ⟨aD, bq, rfl, HA, eO, aC, HB⟩ := hrel
  rcases gk with _ | k1
  exact (nN HA.out).elim; have H := HA.out; clear HA; simp only [eK.l0] at H
  replace H := gB H; rcases H with ⟨kR, H⟩ | ⟨kR, H⟩
  ·
   generalize EW : (([wrap64 ((wrap64 (2 * bq)) + 1), wrap64 (2 * bq)] : List Int) : List Int) = yI at H; simp only [Option.bind_some] at H; replace EW := Ay EW; replace H := gP H; obtain ⟨c5, H⟩ := H; have JN := Az c5; clear c5; generalize Ln : (aD ++ yI : List Int) = y758 at H; replace Ln := Ay Ln; have H' := Az H; clear H
   go_wp2_with (first | ((with_reducible refine gd 17 rfl ?_); refine Kd.iE (Kd.int .i64) _ 3 rfl (N := 17) rfl (xs := ([wrap64 ((wrap64 (2 * bq)) + 1), wrap64 (2 * bq)] : List Int)) (inner := [.int .i64 (wrap64 ((wrap64 (2 * bq)) + 1)), .int .i64 (wrap64 (2 * bq))]) (ok := fun _ => True) (okp := fun _ => True) hS ?hp (fun _ hk => hk) trivial (Below.refl _ _) (Nat.le_refl _) (by simp) ?_; (case hp => exact (Reps.one (show Kd.M (Kd.int .i64) _ _ _ (wrap64 ((wrap64 (2 * bq)) + 1)) [.int .i64 (wrap64 ((wrap64 (2 * bq)) + 1))] from rfl) (Reps.one (show Kd.M (Kd.int .i64) _ _ _ (wrap64 (2 * bq)) [.int .i64 (wrap64 (2 * bq))] from rfl) (Reps.none _ _)))); intro al5 w6 ji hb hg_ hnew_; clear hg_ hnew_; (first | rw [← EW.out] at ji | (simp only [Int.reduceToNat] at ji; rw [← EW.out] at ji)); have Bq := Az (Kd.bu (Kd.aQ ji (Kd.ar (rU aC.out))) (be (bU0 HB.out))); replace aC := Az (Kd.a8 (rU aC.out) (Kd.ax ji) hb); replace HB := Az (au (bU0 HB.out) hb); clear hb ji; obtain ⟨sN, sO, wH⟩ := Kd.aU Bq.out; subst wH) | ((with_reducible refine ki (b := .append) (xs := #[.tmp 11, .tmp 17]) rfl ?_); at_builtin; refine Kd.Zz (Kd.int .i64) (w0 := w) w.heap.size rfl (.tmp 11) (.tmp 17) 23 3 (.int .i64 0) 8 rfl Try.underlying23 dP rfl (by decide) (by omega) u3 aD yI _ _ _ (fun k_ => oS k_ sN yI.length sO) (fun _ => False) rfl rfl ?aO ?aR (fun _ _ h => h) (fun _ h => h.elim) ?aF ?aB ?aS ?aL ?_; (case aR => exact cU ((Kd.av Bq.out).2.2)); (case aB => exact (bU0 HB.out)); (case aF => exact (fun k_ hk => Kd.dF (Kd.ar (rU Bq.out)) k_ hk)); (case aO => exact (rU (Kd.ah aC.out (fun _ hk => hk.2)))); (case aS => exact (be (bU0 HB.out))); (case aL => have := JN.out; omega); intro al6 w8 ho hb hg hat; rw [← Ln.out] at ho; replace Bq := Az (Kd.cJ (ok := (fun _ => True)) (rU Bq.out) hg hat); replace HB := Az (hb); have aeu := Az (ho); clear aC ho hb hg hat))
   go_roundg k1
   case measure => exact mO
   case rel => exact ⟨(y758), (wrap64 (bq + 1)), rS, H', ⟨mO⟩, ⟨rM aeu.out⟩, ⟨bU0 HB.out⟩⟩
  · obtain rfl := Option.some.inj H; go_wp2; go_ret; exact ⟨_, rE, rU aC.out, bU0 HB.out⟩
def eE.l0 : Nat → List Int → List Int → Int → Option (List Int)
 | 0, _, _, _ => none
 | k + 1, x0, x1, x4 => if x4 < (x1.length : Int) then (if 0 ≤ x4 then (if (x1.length : Int) = 0 then (none) else (if 0 ≤ (Int.tmod (wrap64 (x4 + 1)) (x1.length : Int)) then (if (Int.tmod (wrap64 (x4 + 1)) (x1.length : Int)) < (x1.length : Int) then (if 0 ≤ (rd x1 x4) then (if (rd x1 x4) < (x0.length : Int) then (eE.l0 k (x0.set ((rd x1 x4) : Int).toNat (rd x1 (Int.tmod (wrap64 (x4 + 1)) (x1.length : Int)))) x1 (wrap64 (x4 + 1))) else (none)) else (none)) else (none)) else (none))) else (none)) else (some x0)
def eE.f (k : Nat) (l0 : List Int) (l1 : List Int) : Option (List Int) := eE.l0 k l0 l1 0
theorem eE.mono_l : ∀ k, (∀ y0 y1 y2, LeO (eE.l0 k y0 y1 y2) (eE.l0 (k + 1) y0 y1 y2))
 | 0 => fun _ _ _ r h => by simp [eE.l0] at h
 | k + 1 => by
  have dS := eE.mono_l k
  ·
   intro y0 y1 y2
   unfold eE.l0
   repeat' first
   | (with_reducible exact dS _ _ _)
   | (with_reducible exact LeO.refl _)
   | (with_reducible exact LeO.none _)
   | (with_reducible refine LeO.ite ?_ ?_)
   | (with_reducible refine LeO.bind ?_ (fun _ => ?_))
   | exact dS _ _ _
   | exact LeO.none _
   | refine LeO.ite ?_ ?_
   | refine LeO.bind ?_ (fun _ => ?_)
theorem eE.mono : ∀ a0 a1 k, LeO (eE.f k a0 a1) (eE.f (k + 1) a0 a1) := by
 intro a0 a1 k; have dS := eE.mono_l k
 unfold eE.f
 repeat' first
   | (with_reducible exact dS _ _ _)
   | (with_reducible exact LeO.refl _)
   | (with_reducible exact LeO.none _)
   | (with_reducible refine LeO.ite ?_ ?_)
   | (with_reducible refine LeO.bind ?_ (fun _ => ?_))
   | exact dS _ _ _
   | exact LeO.none _
   | refine LeO.ite ?_ ?_
   | refine LeO.bind ?_ (fun _ => ?_)
def eE.T3 : Bool × List (List Nat × List Nat) := (true, [([], []), ([], []), ([], []), ([1, 2], [1, 2]), ([3], [3]), ([], []), ([], []), ([6], [6]), ([], []), ([8], [8]), ([7, 9], [7, 9]), ([5, 10], [5, 10]), ([11], [11]), ([0, 4, 0, 1, 2, 3, 4, 5, 6, 7, 8, 9, 10, 11, 12], [0, 4]), ([13, 12, 0, 1, 2, 3, 4, 5, 6, 7, 8, 9, 10, 11, 12], [12, 13])])
def eE.B3 : List Nat := [0, 0, 0, 6, 14, 0, 0, 64, 0, 256, 960, 2016, 4064, 8191, 16383]
theorem eE.zw : rtab .any (opsOf Try.f73 3) = eE.T3 := by kernel_rfl
theorem eE.zN : ir eE.T3.2 eE.B3 = true := by kernel_rfl
set_option maxHeartbeats 8000000 in
set_option maxRecDepth 100000 in
theorem eE.calls (k : Nat) (jB : Nat → Prop) (ob : Value) (l0 : List Int) (A1 : Option Addr) (c1 : Nat) (l1 : List Int) (r : List Int) (w0 w : World) (hB : Below w0.heap.size w0 w) (ho0 : Kd.R (Kd.int .i64) 3 w w0.heap.size jB ob l0) (hr1 : ∀ W_, Kept w W_ (fun k_ => jB k_) → Kd.C (Kd.int .i64) W_ A1 l1.length l1) (hc1 : l1.length ≤ c1) (h : eE.f k l0 l1 = some r) :
  Calls Try.prog 73 #[ob, .slice A1 l1.length c1] w fun e w' => e = .returned (.tuple #[]) ∧ Kd.R (Kd.int .i64) 3 w' w0.heap.size (fun k_ => (jB k_ ∨ w.heap.size ≤ k_)) ob r ∧ Below w0.heap.size w0 w' ∧ Kept w w' (fun k_ => jB k_) := by
 have DY := Az (show Kd.R (Kd.int .i64) 3 w w0.heap.size (fun k_ => (jB k_ ∨ w.heap.size ≤ k_)) ob l0 from Kd.ah ho0 (fun k_ hk => (.inl hk))); have HR1 := Az hr1; have mq := Az hc1; clear hr1 hc1; have HK := Az (Kept.refl w (fun k_ => jB k_)); have HW0 := Az hB.size; have HB := Az hB; clear hB; have H := h; clear h; unfold eE.f at H; have H' := Az H; clear H; go_enter Try.func73, Try.ntmps73; go_wp2
 go_loopg [4] k (fun kq v4 w' => ∃ (lz : List Int) (bq : Int), v4 = .int .i64 bq ∧ ae (eE.l0 kq lz l1 bq = some r) ∧ ae (kq ≤ k) ∧ ae (Kd.R (Kd.int .i64) 3 w' w0.heap.size (fun k_ => (jB k_ ∨ w.heap.size ≤ k_)) ob lz) ∧ ae (Kept w w' (fun k_ => jB k_)) ∧ ae (Below w0.heap.size w0 w'))
 case atStart => exact ⟨(l0), (0), rS, H', ⟨Nat.le_refl _⟩, ⟨rU DY.out⟩, ⟨qr_⟩, ⟨bU0 HB.out⟩⟩
 case round =>
  clear H'; obtain ⟨lz, bq, rfl, HA, eO, jC, HK, HB⟩ := hrel
  rcases gk with _ | k1
  exact (nN HA.out).elim; have H := HA.out; clear HA; simp only [eE.l0] at H
  replace H := gB H; rcases H with ⟨ly, H⟩ | ⟨ly, H⟩
  ·
   replace H := gD1 H; obtain ⟨kR, H⟩ := H
   by_cases c5 : (l1.length : Int) = 0
   · rw [if_pos c5] at H; exact absurd H (by simp)
   ·
    rw [if_neg c5] at H; have nZ := beq_eq_false_iff_ne.mpr c5; have adt := bne_iff_ne.mpr c5
    have al7 : ¬ (l1 = []) := fun h_ => c5 (by rw [h_]; rfl)
    obtain ⟨kC, pK⟩ : ∃ j_ : Int, (Int.tmod (wrap64 (bq + 1)) (l1.length : Int)) = j_ := ⟨_, rfl⟩; (first | rw [pK] at H | simp only [pK] at H); replace H := gD4 H; obtain ⟨iw, iJ, nX, nY, H⟩ := H; generalize Lp : (lz.set ((rd l1 bq) : Int).toNat (rd l1 (kC)) : List Int) = y763 at H; replace Lp := Ay Lp; have H' := Az H; clear H
    try go_wp2
    replace jC := Az (Kd.ci jC.out); replace HK := Az (Kept.drew HK.out); replace HB := Az (aX HB.out); obtain ⟨Lq, aev, aew, aex, UZ⟩ := aI (Kd.QN HR1.out HK.out) bq; have al8 := UZ
    cases aev; obtain ⟨aey, aez, aeA, aeB, U0⟩ := aI (Kd.QN HR1.out HK.out) (kC); have al9 := U0; obtain rfl : Lq = aey := (by injection aez); have uF : 0 ≤ ((rd l1 bq) : Int) := oA; have wP : ((rd l1 bq) : Int) < ((lz.length : Int) : Int) := oA; obtain ⟨yJ, us, qw, Br, Lr, aeC, Bs⟩ := Kd.ky jC.out (by omega); (first | cases qw | (injection qw with ea_ en_ ec_; (first | subst ea_ | (injection ea_ with ea_; subst ea_)); subst ec_; clear en_)); have Ls := Az Br; have U1 := Az Bs; clear Br Lr Bs; have Lt := Az (show (jB yJ ∨ w.heap.size ≤ yJ) from (jC.out.1 _ rfl)); obtain ⟨U2, U3⟩ := Kd.dw 0 jC.out ((rd l1 bq) : Int) uF wP; replace uF := eq_true uF; replace wP := eq_true wP; have Lu := Kd.r8 jC.out ((rd l1 bq) : Int) (rd l1 (kC)); rw [← Lp.out] at Lu; have U4 := Az Lu; clear Lu; refine fX (n := 15) (S := fun w' => w'.cell? (Lq.add (bq).toNat) = some (.int .i64 (rd l1 bq)) ∧ w'.cell? (Lq.add ((kC)).toNat) = some (.int .i64 (rd l1 (kC)))) (ds := [14]) (bv 15 0) (by kernel_rfl) rfl rfl ⟨(Kd.Pz (HR1.out _ (by repeat (first | exact HK.out | apply Kept.alloc | apply Kept.drewN | apply Kept.drew | refine Kept.setCell ?_ Lt.out _))) bq (of_eq_true aew) (of_eq_true aex)), (Kd.Pz (HR1.out _ (by repeat (first | exact HK.out | apply Kept.alloc | apply Kept.drewN | apply Kept.drew | refine Kept.setCell ?_ Lt.out _))) (kC) (of_eq_true aeA) (of_eq_true aeB))⟩ (fun hHeld => ?_); refine gn eE.zw eE.zN (fun HT_ HW_ => ?_); generalize wr.drew = oa at jC HK HB U1 U4 U3 U2 UZ U0 hHeld ⊢; refine ak (i := 0) (N := some 11) (v := ?_) (a' := ?_) (bv 15 1) rfl rfl (aj HT_.out (by kernel_rfl)) (fun _ _ _ h => h) (Or.inl ⟨by rfl, ?_⟩) ?_ ?_; rotate_left; (exact yP); rotate_left; (exact aP); refine ak (i := 1) (N := some 12) (v := ?_) (a' := ?_) (bv 15 3) rfl rfl (aj HT_.out (by kernel_rfl)) (fun _ _ _ h => h) (Or.inl ⟨by rfl, ?_⟩) ?_ ?_; rotate_left; (exact yP); rotate_left; (exact aP); refine ak (i := 2) (N := some 13) (v := ?_) (a' := ?_) (bv 15 7) rfl rfl (aj HT_.out (by kernel_rfl)) (fun _ _ _ h => h) (Or.inl ⟨by rfl, ?_⟩) ?_ ?_; rotate_left; (exact yP); rotate_left; (exact aP); refine ak (i := 3) (N := some 14) (v := ?_) (a' := ?_) (bv 15 15) rfl rfl (aj HT_.out (by kernel_rfl)) (fun _ _ _ h => h) (Or.inl ⟨by rfl, ?_⟩) ?_ ?_; rotate_left; (exact yP); rotate_left; (exact aP); refine ak (i := 5) (N := some 16) (v := ?_) (a' := ?_) (bv 15 47) rfl rfl (aj HT_.out (by kernel_rfl)) (fun _ _ _ h => h) (Or.inl ⟨by rfl, ?_⟩) ?_ ?_; rotate_left; (exact yP); rotate_left; (exact aP); refine ak (i := 6) (N := some 17) (v := ?_) (a' := ?_) (bv 15 111) rfl rfl (aj HT_.out (by kernel_rfl)) (fun _ _ _ h => h) (Or.inl ⟨by rfl, ?_⟩) ?_ ?_; rotate_left; (exact yP); rotate_left; (exact aP); refine ak (i := 7) (N := some 18) (v := ?_) (a' := ?_) (bv 15 239) rfl rfl (aj HT_.out (by kernel_rfl)) (fun _ _ _ h => h) (Or.inl ⟨by rfl, ?_⟩) ?_ ?_; rotate_left; (exact yP); rotate_left; (exact aP); refine ak (i := 8) (N := some 19) (v := ?_) (a' := ?_) (bv 15 495) rfl rfl (aj HT_.out (by kernel_rfl)) (fun _ _ _ h => h) (Or.inl ⟨by rfl, ?_⟩) ?_ ?_; rotate_left; (exact yP); rotate_left; (exact aP); refine ak (i := 9) (N := some 20) (v := ?_) (a' := ?_) (bv 15 1007) rfl rfl (aj HT_.out (by kernel_rfl)) (fun _ _ _ h => h) (Or.inl ⟨by rfl, ?_⟩) ?_ ?_; rotate_left; (exact yP); rotate_left; (exact aP); refine ak (i := 10) (N := some 21) (v := ?_) (a' := ?_) (bv 15 2031) rfl rfl (aj HT_.out (by kernel_rfl)) (fun _ _ _ h => h) (Or.inl ⟨by rfl, ?_⟩) ?_ ?_; rotate_left; (exact yP); rotate_left; (exact aP); refine ak (i := 11) (N := some 22) (v := ?_) (a' := ?_) (bv 15 4079) rfl rfl (aj HT_.out (by kernel_rfl)) (fun _ _ _ h => h) (Or.inl ⟨by rfl, ?_⟩) ?_ ?_; rotate_left; (exact yP); rotate_left; (exact aP); refine dh (i := 4) (N := some 15) (v := ?_) (a' := ?_) (bv 15 4095) rfl rfl (dc HT_.out HW_.out (by kernel_rfl)) (fun _ _ _ h => h) (Or.inl ⟨by rfl, ?_⟩) hHeld ?_ ?_; rotate_left
    ·
     rintro w' ⟨s0, s1⟩; go_simp
     with_reducible rfl
    rotate_left; (exact aP); refine dh (i := 12) (N := some 23) (v := ?_) (a' := ?_) (bv 15 8191) rfl rfl (dc HT_.out HW_.out (by kernel_rfl)) (fun _ _ _ h => h) (Or.inl ⟨by rfl, ?_⟩) hHeld ?_ ?_; rotate_left
    ·
     rintro w' ⟨s0, s1⟩; go_simp
     with_reducible rfl
    rotate_left; (exact aP); refine ak (i := 13) (N := some 24) (v := ?_) (a' := ?_) (bv 15 16383) rfl rfl (aj HT_.out (by kernel_rfl)) (fun _ _ _ h => h) (Or.inl ⟨by rfl, ?_⟩) ?_ ?_; rotate_left; (exact yP); rotate_left; (exact aP); refine mS (i := 14) (N := none) (bv 15 32767) rfl rfl (dj HT_.out (by kernel_rfl)) (by decide) (fun K hK => ?_); refine lV (w1 := ?_) (by rfl) rfl ?_ ?_; rotate_left
    · go_simp; rfl
    refine hK.out _ _ ?_; clear hK K; refine fY (gp HT_.out (by kernel_rfl)) ?_
    try go_wp2
    go_roundg k1
    case measure => exact mO
    case rel => exact ⟨(y763), (wrap64 (bq + 1)), rS, H', ⟨mO⟩, ⟨rU U4.out⟩, ⟨by repeat (first | (with_reducible first | exact HK.out | apply Kept.alloc | apply Kept.drewN | apply Kept.drew | refine Kept.setCell ?_ Lt.out _) | exact HK.out)⟩, ⟨bU1 HB.out Ls.out⟩⟩
  ·
   obtain rfl := Option.some.inj H; go_wp2
   first | go_end0 | ((try simp only [Exit.inBlock, Exit.then]); refine bodyPost_ret (results_none rfl _ _ _) rfl ?_)
   exact ⟨rE, rU jC.out, bU0 HB.out, qr_⟩
end Go.Proofs.Ytlpbalebodlipaa.PL
