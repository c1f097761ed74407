/- A part of the proof of FnQuad. There are no conditions. -/
import Derived.Test.YtlpbalebodlipaaKFnQuadOwnx6
namespace Go.Proofs.Ytlpbalebodlipaa.PL
open Go.RowKit Go.Proofs.YtlpbalebodlipaaW.PrintWords Go.Proofs.YtlpbalebodlipaaW.PrintLast Go.Proofs.YtlpbalebodlipaaW.PrintMore
theorem lU {p : Prop} (h : p := by exact (au (bU1 HB.out jv.out) hb)) : p := h
theorem C8 {p : Prop} (h : p := by exact (Kd.bu (Kd.aQ (Kd.aQ (Kd.aQ ho0 (Kd.ar (rU aE.out))) (Kd.kO (qU bT.out))) (Kd.ar (rU bO.out))) (be (bU1 HB.out jv.out)))) : p := h
theorem Dq {p : Prop} (h : p := by exact (Kd.bu (Kd.aQ (Kd.aQ (Kd.aQ ho1 (Kd.ar (rU aE.out))) (Kd.kO (qU bT.out))) (Kd.ar (rU bO.out))) (be (bU1 HB.out jv.out)))) : p := h
theorem Dv {p : Prop} (h : p := by exact (Kd.dI (Kd.sl (Kd.sl (Kd.Dd (qU bT.out) hb) (Kd.ax ho0)) (Kd.ax ho1)) (fun _ h_ => h_.1))) : p := h
theorem CM {p : Prop} (h : p := by exact (Kd.ah (Kd.lq (Kd.lq (Kd.vF (rU bO.out) hb) (Kd.ax ho0)) (Kd.ax ho1)) (fun _ h_ => h_.1))) : p := h
theorem CO {p : Prop} (h : p := by exact (Kd.ah (Kd.lq (Kd.lq (Kd.vF (rU aE.out) hb) (Kd.ax ho0)) (Kd.ax ho1)) (fun _ h_ => h_.1))) : p := h
attribute [local go_sem] nV nQ nE ny nA nG nO nR   -- for this text's walks alone
set_option linter.unusedVariables false
set_option linter.unusedSimpArgs false
mutual
def cL.j0 : Nat → List Int → List Int → Bool → Option (Bool)
 | 0, _, _, _ => none
 | k + 1, x0, x1, kS => if kS = true then (some true) else ((vK.f k x0).bind fun u0 => ((nF.f k u0.1 u0.2).bind fun mM => ((tH.f k u0.1 u0.2).bind fun oB => (if (mM != oB) = true then (cL.j1 k x1 mM oB true u0.1 u0.2) else (cL.j1 k x1 mM oB (!mM) u0.1 u0.2)))))
def cL.j1 : Nat → List Int → Bool → Bool → Bool → List Int → List Int → Option (Bool)
 | 0, _, _, _, _, _, _ => none
 | k + 1, x1, x6, x7, ku, qN, x1068001 => if ku = true then (some (x6 == x7)) else ((mj.f k qN x1068001).bind fun Xy => (if (qN.length : Int) = 0 then (none) else (cL.l0 k Xy.1 Xy.2 ((x1.length : Int) % (qN.length : Int)) 0 qN x1068001)))
def cL.l0 : Nat → List Int → Bool → Int → Int → List Int → List Int → Option (Bool)
 | 0, _, _, _, _, _, _ => none
 | k + 1, x8, x9, eg, cy, qN, x1068001 => if cy < (qN.length : Int) then ((oD.f k qN x1068001 eg cy).bind fun zo => (if 0 ≤ cy then (if cy < (x1068001.length : Int) then ((oD.f k qN x1068001 eg (rd x1068001 cy)).bind fun zp => (if (wrap64 (zo - zp)) = 1 then (cL.l0 k x8 x9 eg (wrap64 (cy + 1)) qN x1068001) else (if (wrap64 (zo - zp)) = (-1) then (cL.l0 k x8 x9 eg (wrap64 (cy + 1)) qN x1068001) else (some false)))) else (none)) else (none))) else ((ce.f k qN x1068001 eg).bind fun NO => (if x9 = true then (if NO.2.2 = true then (if 0 < (x8.length : Int) then (if 2 < (x8.length : Int) then (if (rd x8 0) = (wrap64 ((rd x8 2) + 2)) then ((vv.f k NO.1 NO.2.1).bind fun NP => (some (NP == 0))) else (some false)) else (none)) else (none)) else (some false)) else (some false)))
end
def cL.f (k : Nat) (l0 : List Int) (l1 : List Int) : Option (Bool) := if (l0.length : Int) > 1048576 then (cL.j0 k l0 l1 true) else (cL.j0 k l0 l1 (decide ((l1.length : Int) > 1048576)))
def cL.T13 : Bool × List (List Nat × List Nat) := (true, [([], []), ([], []), ([], []), ([0, 1, 2], [0, 1, 2]), ([], []), ([], []), ([], []), ([6], [6]), ([], []), ([7, 8], [7, 8]), ([9], [9]), ([4, 5, 10, 3], [4, 5, 10]), ([3, 11], [3, 11]), ([12, 11, 0, 1, 2, 3, 4, 5, 6, 7, 8, 9, 10, 11, 12], [12])])
def cL.B13 : List Nat := [0, 0, 0, 7, 0, 0, 0, 64, 0, 448, 960, 2047, 4095, 8191]
theorem cL.zG : rtab .any (opsOf Try.f10 13) = cL.T13 := by kernel_rfl
theorem cL.zX : ir cL.T13.2 cL.B13 = true := by kernel_rfl
def cL.T17 : Bool × List (List Nat × List Nat) := (true, [([], []), ([0], [0]), ([1], [1]), ([1, 2], [1, 2]), ([3, 1], [3]), ([4], [4]), ([5, 4], [4, 5]), ([6, 4], [4, 6]), ([4], [4]), ([8, 4], [4, 8]), ([9, 4], [4, 9]), ([10, 4], [4, 10]), ([7, 11, 4], [4, 7, 11]), ([4, 12], [4, 12]), ([13, 4], [13]), ([14], [14]), ([15, 14, 14], [14, 15]), ([16, 14], [14, 16]), ([14, 17], [14, 17]), ([18, 16, 0, 1, 2, 3, 4, 5, 6, 7, 8, 9, 10, 11, 12, 13, 14, 15, 16, 17, 18], [18])])
def cL.B17 : List Nat := [0, 1, 3, 7, 15, 31, 63, 127, 31, 287, 799, 1823, 4095, 8191, 16383, 32767, 65535, 131071, 262143, 524287]
theorem cL.C2 : rtab .any (opsOf Try.f10 17) = cL.T17 := by kernel_rfl
theorem cL.Do : ir cL.T17.2 cL.B17 = true := by kernel_rfl
set_option maxHeartbeats 8000000 in
set_option maxRecDepth 100000 in
theorem cL.calls (k : Nat) (A0 : Option Addr) (c0 : Nat) (l0 : List Int) (A1 : Option Addr) (c1 : Nat) (l1 : List Int) (r : Bool) (w : World) (hr0 : Kd.C (Kd.int .u8) w A0 l0.length l0) (hc0 : l0.length ≤ c0) (hr1 : Kd.C (Kd.int .u8) w A1 l1.length l1) (hc1 : l1.length ≤ c1) (h : cL.f k l0 l1 = some r) :
  Calls Try.prog 10 #[.slice A0 l0.length c0, .slice A1 l1.length c1] w fun e w' => e = .returned (.bool r) ∧ Below w.heap.size w w' := by
 have jZ := Try.underlying29; have de := Az hr0; have gz := Az hc0; clear hr0 hc0; have HR1 := Az hr1; have mq := Az hc1; clear hr1 hc1; have HB := bZ w; have H := h; clear h; unfold cL.f at H; have nk := Az H; clear H; go_enter Try.func10, Try.ntmps10
 go_upto_region 1 with (fail)
 go_cut [22] (fun v22 wc => ∃ (kq : Nat) (Gu : Bool), v22 = .bool Gu ∧ ae (cL.j0 kq l0 l1 Gu = some r) ∧ ae (kq ≤ k) ∧ ae (Below w.heap.size w wc))
 case first =>
  have H := nk.out; clear nk
  by_cases c4 : (l0.length : Int) > 1048576
  ·
   rw [if_pos c4] at H; have kR := decide_eq_true c4; have II : decide (1048576 < l0.length) = true := decide_eq_true (by omega); clear c4; have H' := Az H; clear H; go_wp2; go_meet
   case rel => exact ⟨_, (true), rS, H', ⟨mO⟩, ⟨bU0 HB.out⟩⟩
  ·
   rw [if_neg c4] at H; have kR := decide_eq_false c4; have II : decide (1048576 < l0.length) = false := decide_eq_false (by omega); clear c4; have H' := Az H; clear H; go_wp2; go_meet
   case rel => exact ⟨_, (decide ((l1.length : Int) > 1048576)), rS, H', ⟨mO⟩, ⟨bU0 HB.out⟩⟩
 case rest =>
  clear nk; obtain ⟨kq, Gu, rfl, HA, HJ2, HB⟩ := hcut
  rcases kq with _ | mF
  exact (nN HA.out).elim; have H := HA.out; clear HA; simp only [cL.j0] at H
  by_cases c5 : Gu = true
  · subst c5; rw [if_pos rfl] at H; obtain rfl := Option.some.inj H; go_wp2; go_ret; exact ⟨rE, bU0 HB.out⟩
  ·
   replace c5 := Bool.eq_false_iff.mpr c5; subst c5; rw [if_neg nT] at H; replace H := bd H; obtain ⟨⟨bG, b8⟩, A6, H⟩ := H; dsimp only at H; replace H := bd H; obtain ⟨mM, A7, H⟩ := H; replace H := bd H; obtain ⟨oB, A8, H⟩ := H; have NQ := Az H; clear H
   go_upto_region 6 with (first | ((with_reducible refine gK 52 rfl ?_); refine gC (some 24) Try.func52 #[.slice A0 l0.length c0] ?_; (with_reducible refine (vK.calls mF _ _ l0 bG b8 _ ?_ ?_ A6.out).mono ?_); exact cU (Kd.cd de.out HB.out); exact gz.out; rintro e qv ⟨arl, arm, rfl, ho0, ho1, hb⟩; refine ⟨_, rfl, ?_⟩; have pk := Az (Kd.vJ ho0 (be (bU0 HB.out))); have pm := Az (Kd.bu ho1 (be (bU0 HB.out))); replace HB := Az (au (bU0 HB.out) hb); clear hb ho0 ho1) | ((with_reducible refine gd 5 rfl ?_); (refine jf (by rfl) ?_; dsimp only); refine bE 5 #[.slice none 0 0, .slice none 0 0] 29 ?_; intro po hg qt hbox hb; replace pk := qB pk.out hb; replace pm := rB pm.out hb; have br := Az (hbox); have jv := gW hg (bU0 HB.out); replace HB := Az (au (bU0 HB.out) hb); clear hb hbox hg; obtain ⟨cS, cN, mz, _⟩ := Kd.kz pk.out; subst mz; have Av := bc2 br.out; obtain ⟨dx, cE, pL⟩ := Kd.aU pm.out; subst pL) | ((with_reducible refine gK 48 rfl ?_); refine gC (some 26) Try.func48 #[.agg #[.slice cS bG.length cN, .slice dx b8.length cE]] ?_; (with_reducible refine (nF.calls mF _ _ bG _ _ b8 mM _ ?side1 ?side2 ?side3 ?side4 A7.out).mono ?_); (case side1 => refine (Kd.dQ (e := 3) (base := w.heap.size) (ok := fun k_ => oS k_ dx b8.length cE) (n := bG.length) (c := cN) ?_).2.2; exact (qW2 pk.out br.out)); (case side2 => exact (Kd.dQ pk.out).2.1); (case side3 => refine (Kd.av (e := 3) (base := w.heap.size) (ok := fun k_ => oS k_ cS bG.length cN) (n := b8.length) (c := cE) ?_).2.2; exact (rW3 pm.out br.out)); (case side4 => exact (Kd.av pm.out).2.1); rintro e oN ⟨rfl, hb⟩; refine ⟨_, rfl, ?_⟩; replace pk := Az (Kd.xx (qW2 pk.out br.out) hb); replace pm := Az (Kd.xy (rW3 pm.out br.out) hb); replace br := Az (xA (g := po) (o := .cells #[.slice cS bG.length cN, .slice dx b8.length cE] 29 (0, 0)) (by refine sA ?_; refine cC (cs := #[.slice cS bG.length cN, .slice none 0 0]) ?_ 1 _ rfl; refine sA ?_; refine cC (cs := #[.slice none 0 0, .slice none 0 0]) ?_ 0 _ rfl; refine sA ?_; exact br.out) hb); replace HB := Az lU; clear hb; have TW := bc2 br.out) | ((with_reducible refine gK 50 rfl ?_); refine gC (some 28) Try.func50 #[.agg #[.slice cS bG.length cN, .slice dx b8.length cE]] ?_; (with_reducible refine (tH.calls mF _ _ bG _ _ b8 oB _ ?_ ?_ ?_ ?_ A8.out).mono ?_); exact cU ((Kd.dQ pk.out).2.2); exact (Kd.dQ pk.out).2.1; exact cU ((Kd.av pm.out).2.2); exact (Kd.av pm.out).2.1; rintro e J2 ⟨rfl, hb⟩; refine ⟨_, rfl, ?_⟩; replace pk := qB pk.out hb; replace pm := rB pm.out hb; replace br := kB br.out hb; replace HB := Az lU; clear hb))
   go_cut [35] (fun v35 wc => ∃ (kq : Nat) (Gv : Bool), v35 = .bool Gv ∧ ae (cL.j1 kq l1 mM oB Gv bG b8 = some r) ∧ ae (kq ≤ mF) ∧ ae (Kd.Q (Kd.int .i64) 3 wc w.heap.size (fun k_ => some k_ ≠ ((.slice dx b8.length cE) : Value).ownBlock) (.slice cS bG.length cN) bG) ∧ ae (Kd.R (Kd.int .i64) 3 wc w.heap.size (fun k_ => some k_ ≠ ((.slice cS bG.length cN) : Value).ownBlock) (.slice dx b8.length cE) b8) ∧ ae (wc.heap[po]? = some (.cells #[(.slice cS bG.length cN), (.slice dx b8.length cE)] 29 (0, 0))) ∧ ae (Below w.heap.size w wc))
   case first =>
    have H := NQ.out; clear NQ
    by_cases c18 : (mM != oB) = true
    ·
     rw [if_pos c18] at H; have uu : (mM != oB) = true := c18; (have aiP : decide (mM = oB) = false := by simpa using c18); (have aiQ : (mM == oB) = false := by simpa using c18); (have arn : ¬ (mM = oB) := by simpa using c18); clear c18; have H' := Az H; clear H; go_wp2; go_meet
     case rel => exact ⟨_, (true), rS, H', ⟨by have := HJ2.out; first | omega | exact Nat.le_refl _⟩, ⟨qU pk.out⟩, ⟨rU pm.out⟩, ⟨kU br.out⟩, ⟨bU1 HB.out jv.out⟩⟩
    ·
     rw [if_neg c18] at H
     have uu : (mM != oB) = false := by simpa using c18
     (have aiP : decide (mM = oB) = true := by simpa using c18); (have aiQ : (mM == oB) = true := by simpa using c18); clear c18; have H' := Az H; clear H; go_wp2; go_meet
     case rel => exact ⟨_, (!mM), rS, H', ⟨by have := HJ2.out; first | omega | exact Nat.le_refl _⟩, ⟨qU pk.out⟩, ⟨rU pm.out⟩, ⟨kU br.out⟩, ⟨bU1 HB.out jv.out⟩⟩
   case rest =>
    clear NQ; obtain ⟨kq, Gv, rfl, HA, Gw, bT, bO, br, HB⟩ := hcut
    rcases kq with _ | NR
    exact (nN HA.out).elim; have H := HA.out; clear HA; simp only [cL.j1] at H
    by_cases c19 : Gv = true
    · subst c19; rw [if_pos rfl] at H; obtain rfl := Option.some.inj H; go_wp2; go_ret; exact ⟨rE, bU1 HB.out jv.out⟩
    ·
     replace c19 := Bool.eq_false_iff.mpr c19; subst c19; rw [if_neg nT] at H; replace H := bd H; obtain ⟨⟨kv, NS⟩, A20, H⟩ := H; dsimp only at H
     by_cases c21 : (bG.length : Int) = 0
     · rw [if_pos c21] at H; exact absurd H (by simp)
     ·
      rw [if_neg c21] at H; have Jn := beq_eq_false_iff_ne.mpr c21; have aro := bne_iff_ne.mpr c21
      have arp : ¬ (bG = []) := fun h_ => c21 (by rw [h_]; rfl)
      have H' := Az H; clear H; have adD := bc2 br.out
      go_wp2_with (first | ((with_reducible refine gK 19 rfl ?_); refine gC (some 41) Try.func19 #[.agg #[.slice cS bG.length cN, .slice dx b8.length cE]] ?_; (with_reducible refine (mj.calls NR _ _ bG _ _ b8 kv NS _ ?_ ?_ ?_ ?_ A20.out).mono ?_); exact cU ((Kd.dQ bT.out).2.2); exact (Kd.dQ bT.out).2.1; exact cU ((Kd.av bO.out).2.2); exact (Kd.av bO.out).2.1; rintro e fA ⟨jQ, rfl, ho0, hb⟩; refine ⟨_, rfl, ?_⟩; have aiS := Az (Kd.bu (Kd.aQ (Kd.aQ ho0 (Kd.kO (qU bT.out))) (Kd.ar (rU bO.out))) (be (bU1 HB.out jv.out))); replace bT := Az (Kd.xX (qU bT.out) (Kd.ax ho0) hb); replace bO := Az (Kd.a8 (rU bO.out) (Kd.ax ho0) hb); replace br := kB br.out hb; replace HB := Az lU; clear hb ho0; have adE := bc2 br.out))
      go_loopg [11] NR (fun kq v11 w' => ∃ (cM : Int), v11 = .int .i64 cM ∧ ae (cL.l0 kq kv NS ((l1.length : Int) % (bG.length : Int)) cM bG b8 = some r) ∧ ae (kq ≤ NR) ∧ ae (Kd.R (Kd.int .i64) 3 w' w.heap.size (fun k_ => some k_ ≠ ((.slice cS bG.length cN) : Value).ownBlock ∧ some k_ ≠ ((.slice dx b8.length cE) : Value).ownBlock) jQ kv) ∧ ae (Kd.Q (Kd.int .i64) 3 w' w.heap.size (fun k_ => oV k_ jQ ∧ some k_ ≠ ((.slice dx b8.length cE) : Value).ownBlock) (.slice cS bG.length cN) bG) ∧ ae (Kd.R (Kd.int .i64) 3 w' w.heap.size (fun k_ => oV k_ jQ ∧ some k_ ≠ ((.slice cS bG.length cN) : Value).ownBlock) (.slice dx b8.length cE) b8) ∧ ae (w'.heap[po]? = some (.cells #[(.slice cS bG.length cN), (.slice dx b8.length cE)] 29 (0, 0))) ∧ ae (Below w.heap.size w w'))
      case atStart => exact ⟨(0), rS, H', ⟨Nat.le_refl _⟩, ⟨rA (Kd.ah aiS.out (fun _ hk => ⟨hk.1.2, hk.2⟩))⟩, ⟨by (with_reducible repeat (first | apply Kd.jW | apply Kd.jY | apply Kd.fC)); exact Kd.dI bT.out (fun _ hk => ⟨hk.2, hk.1⟩)⟩, ⟨rA (Kd.ah bO.out (fun _ hk => ⟨hk.2, hk.1⟩))⟩, ⟨kU br.out⟩, ⟨bU1 HB.out jv.out⟩⟩
      case round =>
       clear H'; obtain ⟨cM, rfl, HA, pI, aE, bT, bO, br, HB⟩ := hrel
       rcases gk with _ | k3
       exact (nN HA.out).elim; have H := HA.out; clear HA; simp only [cL.l0] at H
       replace H := gB H; rcases H with ⟨Jp, H⟩ | ⟨Jp, H⟩
       ·
        replace H := bd H; obtain ⟨zo, NT, H⟩ := H; replace H := gD2 H; obtain ⟨DW, arq, H⟩ := H; replace H := bd H; obtain ⟨zp, NU, H⟩ := H
        replace H := gQ H; rcases H with ⟨KX, Vu, H⟩ | ⟨KX, Vu, H⟩
        ·
         have H' := Az H; clear H; have Up := bc2 br.out
         try go_wp2
         replace aE := Az (Kd.ci aE.out); replace bT := Az (Kd.fC bT.out); replace bO := Az (Kd.ci bO.out); replace br := Az (dk br.out); replace HB := Az (aX HB.out); obtain ⟨oC, Cx, Xz, XA, u7⟩ := aI (Kd.av bO.out).2.2 cM
         cases Cx; refine fX (n := 14) (S := fun w' => w'.cell? ⟨po, 0, none⟩ = some (.slice cS bG.length cN) ∧ w'.cell? ⟨po, 1, none⟩ = some (.slice (some oC) b8.length cE) ∧ w'.cell? (oC.add (cM).toNat) = some (.int .i64 (rd b8 cM))) (ds := []) (bv 14 0) (by kernel_rfl) rfl rfl ⟨(aM br.out 0).trans rfl, (aM br.out 1).trans rfl, u7⟩ (fun hHeld => ?_); refine gn cL.zG cL.zX (fun HT_ HW_ => ?_); generalize wr.drew = w32 at aE bT bO br HB u7 hHeld ⊢; refine ak (i := 1) (N := some 58) (v := ?_) (a' := ?_) (bv 14 2) rfl rfl (aj HT_.out (by kernel_rfl)) (fun _ _ _ h => h) (Or.inl ⟨by rfl, ?_⟩) ?_ ?_; rotate_left; (exact yP); rotate_left; (exact aP); refine ak (i := 2) (N := some 59) (v := ?_) (a' := ?_) (bv 14 6) rfl rfl (aj HT_.out (by kernel_rfl)) (fun _ _ _ h => h) (Or.inl ⟨by rfl, ?_⟩) ?_ ?_; rotate_left; (exact yP); rotate_left; (exact aP); refine ak (i := 5) (N := some 62) (v := ?_) (a' := ?_) (bv 14 38) rfl rfl (aj HT_.out (by kernel_rfl)) (fun _ _ _ h => h) (Or.inl ⟨by rfl, ?_⟩) ?_ ?_; rotate_left; (exact yP); rotate_left; (exact aP); refine ak (i := 6) (N := some 63) (v := ?_) (a' := ?_) (bv 14 102) rfl rfl (aj HT_.out (by kernel_rfl)) (fun _ _ _ h => h) (Or.inl ⟨by rfl, ?_⟩) ?_ ?_; rotate_left; (exact yP); rotate_left; (exact aP); refine ak (i := 8) (N := some 65) (v := ?_) (a' := ?_) (bv 14 358) rfl rfl (aj HT_.out (by kernel_rfl)) (fun _ _ _ h => h) (Or.inl ⟨by rfl, ?_⟩) ?_ ?_; rotate_left; (exact yP); rotate_left; (exact aP); refine dh (i := 0) (N := some 57) (v := ?_) (a' := ?_) (bv 14 359) rfl rfl (dc HT_.out HW_.out (by kernel_rfl)) (fun _ _ _ h => h) (Or.inl ⟨by rfl, ?_⟩) hHeld ?_ ?_; rotate_left
         ·
          rintro w' ⟨s0, s1, s2⟩; go_simp
          with_reducible rfl
         rotate_left; (exact aP); refine dh (i := 4) (N := some 61) (v := ?_) (a' := ?_) (bv 14 375) rfl rfl (dc HT_.out HW_.out (by kernel_rfl)) (fun _ _ _ h => h) (Or.inl ⟨by rfl, ?_⟩) hHeld ?_ ?_; rotate_left
         ·
          rintro w' ⟨s0, s1, s2⟩; go_simp
          with_reducible rfl
         rotate_left; (exact aP); refine dh (i := 7) (N := some 64) (v := ?_) (a' := ?_) (bv 14 503) rfl rfl (dc HT_.out HW_.out (by kernel_rfl)) (fun _ _ _ h => h) (Or.inl ⟨by rfl, ?_⟩) hHeld ?_ ?_; rotate_left
         ·
          rintro w' ⟨s0, s1, s2⟩; go_simp
          with_reducible rfl
         rotate_left; (exact aP); refine ak (i := 9) (N := some 66) (v := ?_) (a' := ?_) (bv 14 1015) rfl rfl (aj HT_.out (by kernel_rfl)) (fun _ _ _ h => h) (Or.inl ⟨by rfl, ?_⟩) ?_ ?_; rotate_left; (exact yP); rotate_left; (exact aP); refine dh (i := 10) (N := some 67) (v := ?_) (a' := ?_) (bv 14 2039) rfl rfl (dc HT_.out HW_.out (by kernel_rfl)) (fun _ _ _ h => h) (Or.inl ⟨by rfl, ?_⟩) hHeld ?_ ?_; rotate_left
         ·
          rintro w' ⟨s0, s1, s2⟩; go_simp
          with_reducible rfl
         rotate_left; (exact aP); refine er (i := 3) (N := some 60) (bv 14 2047) rfl rfl (dj HT_.out (by kernel_rfl)) (by decide) (fun K hK => ?_); refine gv Try.func46 (by kernel_rfl) rfl #[.agg #[.slice cS bG.length cN, .slice (some oC) b8.length cE], .int .i64 ((l1.length : Int) % (bG.length : Int)), .int .i64 cM] (by rfl) rfl rfl lQ ?_
         with_reducible refine (oD.calls k3 _ _ bG _ _ b8 ((l1.length : Int) % (bG.length : Int)) cM zo _ ?side1 ?side2 ?side3 ?side4 NT.out).mono ?_
         (case side1 => exact cU ((Kd.dQ bT.out).2.2))
         (case side2 => exact (Kd.dQ bT.out).2.1)
         (case side3 => exact cU ((Kd.av bO.out).2.2))
         (case side4 => exact (Kd.av bO.out).2.1)
         rintro e Jq ⟨rfl, hb⟩; have pp := (hb.cell (World.block_lt_of_cell? _ _ (hHeld.2.2))).trans (hHeld.2.2); refine ⟨_, rfl, ?_⟩; replace aE := rB aE.out hb; replace bT := qB bT.out hb; replace bO := rB bO.out hb; replace br := kB br.out hb; replace HB := Az lU; clear hb; refine hK.out _ _ ⟨(aM br.out 0).trans rfl, (aM br.out 1).trans rfl, pp⟩ (fun hHeld => ?_); clear hK K; refine bw (a' := ?_) ?_ ?_; rotate_left
         ·
          show Act.put _ (some 60) _ = _
          simp only [Act.put, List.setIfInBounds_toArray, List.set_cons_zero, List.set_cons_succ, cr, cK]; rfl
         refine er (i := 11) (N := some 68) (bv 14 4095) rfl rfl (dj HT_.out (by kernel_rfl)) (by decide) (fun K hK => ?_); refine gv Try.func46 (by kernel_rfl) rfl #[.agg #[.slice cS bG.length cN, .slice (some oC) b8.length cE], .int .i64 ((l1.length : Int) % (bG.length : Int)), .int .i64 (rd b8 cM)] (by rfl) rfl rfl lQ ?_
         with_reducible refine (oD.calls k3 _ _ bG _ _ b8 ((l1.length : Int) % (bG.length : Int)) (rd b8 cM) zp _ ?side1 ?side2 ?side3 ?side4 NU.out).mono ?_
         (case side1 => exact cU ((Kd.dQ bT.out).2.2))
         (case side2 => exact (Kd.dQ bT.out).2.1)
         (case side3 => exact cU ((Kd.av bO.out).2.2))
         (case side4 => exact (Kd.av bO.out).2.1)
         rintro e w34 ⟨rfl, hb⟩; have pp := (hb.cell (World.block_lt_of_cell? _ _ (hHeld.2.2))).trans (hHeld.2.2); refine ⟨_, rfl, ?_⟩; replace aE := rB aE.out hb; replace bT := qB bT.out hb; replace bO := rB bO.out hb; replace br := kB br.out hb; replace HB := Az lU; clear hb; refine hK.out _ _ ⟨(aM br.out 0).trans rfl, (aM br.out 1).trans rfl, pp⟩ (fun hHeld => ?_); clear hK K; refine bw (a' := ?_) ?_ ?_; rotate_left
         ·
          show Act.put _ (some 68) _ = _
          simp only [Act.put, List.setIfInBounds_toArray, List.set_cons_zero, List.set_cons_succ, cr, cK]; rfl
         refine ak (i := 12) (N := some 69) (v := ?_) (a' := ?_) (bv 14 8191) rfl rfl (aj HT_.out (by kernel_rfl)) (fun _ _ _ h => h) (Or.inl ⟨by rfl, ?_⟩) ?_ ?_; rotate_left; (exact yP); rotate_left; (exact aP); refine ak (i := 13) (N := some 12) (v := ?_) (a' := ?_) (bv 14 16383) rfl rfl (aj HT_.out (by kernel_rfl)) (fun _ _ _ h => h) (Or.inl ⟨by rfl, ?_⟩) ?_ ?_; rotate_left; (exact yP); rotate_left; (exact aP); refine fY (gp HT_.out (by kernel_rfl)) ?_
         try go_wp2
         go_roundg k3
         case measure => have := HJ2.out; have := Gw.out; have := pI.out; omega
         case rel => exact ⟨(wrap64 (cM + 1)), rS, H', ⟨by have := HJ2.out; have := Gw.out; have := pI.out; omega⟩, ⟨rU aE.out⟩, ⟨qU bT.out⟩, ⟨rU bO.out⟩, ⟨kU br.out⟩, ⟨bU1 HB.out jv.out⟩⟩
        ·
         replace H := gQ H; rcases H with ⟨uG, aiT, H⟩ | ⟨uG, aiT, H⟩
         ·
          have H' := Az H; clear H; have ars := bc2 br.out
          try go_wp2
          replace aE := Az (Kd.ci aE.out); replace bT := Az (Kd.fC bT.out); replace bO := Az (Kd.ci bO.out); replace br := Az (dk br.out); replace HB := Az (aX HB.out); obtain ⟨oC, Cx, Xz, XA, u7⟩ := aI (Kd.av bO.out).2.2 cM
          cases Cx; refine fX (n := 14) (S := fun w' => w'.cell? ⟨po, 0, none⟩ = some (.slice cS bG.length cN) ∧ w'.cell? ⟨po, 1, none⟩ = some (.slice (some oC) b8.length cE) ∧ w'.cell? (oC.add (cM).toNat) = some (.int .i64 (rd b8 cM))) (ds := []) (bv 14 0) (by kernel_rfl) rfl rfl ⟨(aM br.out 0).trans rfl, (aM br.out 1).trans rfl, u7⟩ (fun hHeld => ?_); refine gn cL.zG cL.zX (fun HT_ HW_ => ?_); generalize wr.drew = sR at aE bT bO br HB u7 hHeld ⊢; refine ak (i := 1) (N := some 58) (v := ?_) (a' := ?_) (bv 14 2) rfl rfl (aj HT_.out (by kernel_rfl)) (fun _ _ _ h => h) (Or.inl ⟨by rfl, ?_⟩) ?_ ?_; rotate_left; (exact yP); rotate_left; (exact aP); refine ak (i := 2) (N := some 59) (v := ?_) (a' := ?_) (bv 14 6) rfl rfl (aj HT_.out (by kernel_rfl)) (fun _ _ _ h => h) (Or.inl ⟨by rfl, ?_⟩) ?_ ?_; rotate_left; (exact yP); rotate_left; (exact aP); refine ak (i := 5) (N := some 62) (v := ?_) (a' := ?_) (bv 14 38) rfl rfl (aj HT_.out (by kernel_rfl)) (fun _ _ _ h => h) (Or.inl ⟨by rfl, ?_⟩) ?_ ?_; rotate_left; (exact yP); rotate_left; (exact aP); refine ak (i := 6) (N := some 63) (v := ?_) (a' := ?_) (bv 14 102) rfl rfl (aj HT_.out (by kernel_rfl)) (fun _ _ _ h => h) (Or.inl ⟨by rfl, ?_⟩) ?_ ?_; rotate_left; (exact yP); rotate_left; (exact aP); refine ak (i := 8) (N := some 65) (v := ?_) (a' := ?_) (bv 14 358) rfl rfl (aj HT_.out (by kernel_rfl)) (fun _ _ _ h => h) (Or.inl ⟨by rfl, ?_⟩) ?_ ?_; rotate_left; (exact yP); rotate_left; (exact aP); refine dh (i := 0) (N := some 57) (v := ?_) (a' := ?_) (bv 14 359) rfl rfl (dc HT_.out HW_.out (by kernel_rfl)) (fun _ _ _ h => h) (Or.inl ⟨by rfl, ?_⟩) hHeld ?_ ?_; rotate_left
          ·
           rintro w' ⟨s0, s1, s2⟩; go_simp
           with_reducible rfl
          rotate_left; (exact aP); refine dh (i := 4) (N := some 61) (v := ?_) (a' := ?_) (bv 14 375) rfl rfl (dc HT_.out HW_.out (by kernel_rfl)) (fun _ _ _ h => h) (Or.inl ⟨by rfl, ?_⟩) hHeld ?_ ?_; rotate_left
          ·
           rintro w' ⟨s0, s1, s2⟩; go_simp
           with_reducible rfl
          rotate_left; (exact aP); refine dh (i := 7) (N := some 64) (v := ?_) (a' := ?_) (bv 14 503) rfl rfl (dc HT_.out HW_.out (by kernel_rfl)) (fun _ _ _ h => h) (Or.inl ⟨by rfl, ?_⟩) hHeld ?_ ?_; rotate_left
          ·
           rintro w' ⟨s0, s1, s2⟩; go_simp
           with_reducible rfl
          rotate_left; (exact aP); refine ak (i := 9) (N := some 66) (v := ?_) (a' := ?_) (bv 14 1015) rfl rfl (aj HT_.out (by kernel_rfl)) (fun _ _ _ h => h) (Or.inl ⟨by rfl, ?_⟩) ?_ ?_; rotate_left; (exact yP); rotate_left; (exact aP); refine dh (i := 10) (N := some 67) (v := ?_) (a' := ?_) (bv 14 2039) rfl rfl (dc HT_.out HW_.out (by kernel_rfl)) (fun _ _ _ h => h) (Or.inl ⟨by rfl, ?_⟩) hHeld ?_ ?_; rotate_left
          ·
           rintro w' ⟨s0, s1, s2⟩; go_simp
           with_reducible rfl
          rotate_left; (exact aP); refine er (i := 3) (N := some 60) (bv 14 2047) rfl rfl (dj HT_.out (by kernel_rfl)) (by decide) (fun K hK => ?_); refine gv Try.func46 (by kernel_rfl) rfl #[.agg #[.slice cS bG.length cN, .slice (some oC) b8.length cE], .int .i64 ((l1.length : Int) % (bG.length : Int)), .int .i64 cM] (by rfl) rfl rfl lQ ?_
          with_reducible refine (oD.calls k3 _ _ bG _ _ b8 ((l1.length : Int) % (bG.length : Int)) cM zo _ ?side1 ?side2 ?side3 ?side4 NT.out).mono ?_
          (case side1 => exact cU ((Kd.dQ bT.out).2.2))
          (case side2 => exact (Kd.dQ bT.out).2.1)
          (case side3 => exact cU ((Kd.av bO.out).2.2))
          (case side4 => exact (Kd.av bO.out).2.1)
          rintro e w38 ⟨rfl, hb⟩; have pp := (hb.cell (World.block_lt_of_cell? _ _ (hHeld.2.2))).trans (hHeld.2.2); refine ⟨_, rfl, ?_⟩; replace aE := rB aE.out hb; replace bT := qB bT.out hb; replace bO := rB bO.out hb; replace br := kB br.out hb; replace HB := Az lU; clear hb; refine hK.out _ _ ⟨(aM br.out 0).trans rfl, (aM br.out 1).trans rfl, pp⟩ (fun hHeld => ?_); clear hK K; refine bw (a' := ?_) ?_ ?_; rotate_left
          ·
           show Act.put _ (some 60) _ = _
           simp only [Act.put, List.setIfInBounds_toArray, List.set_cons_zero, List.set_cons_succ, cr, cK]; rfl
          refine er (i := 11) (N := some 68) (bv 14 4095) rfl rfl (dj HT_.out (by kernel_rfl)) (by decide) (fun K hK => ?_); refine gv Try.func46 (by kernel_rfl) rfl #[.agg #[.slice cS bG.length cN, .slice (some oC) b8.length cE], .int .i64 ((l1.length : Int) % (bG.length : Int)), .int .i64 (rd b8 cM)] (by rfl) rfl rfl lQ ?_
          with_reducible refine (oD.calls k3 _ _ bG _ _ b8 ((l1.length : Int) % (bG.length : Int)) (rd b8 cM) zp _ ?side1 ?side2 ?side3 ?side4 NU.out).mono ?_
          (case side1 => exact cU ((Kd.dQ bT.out).2.2))
          (case side2 => exact (Kd.dQ bT.out).2.1)
          (case side3 => exact cU ((Kd.av bO.out).2.2))
          (case side4 => exact (Kd.av bO.out).2.1)
          rintro e Bf ⟨rfl, hb⟩; have pp := (hb.cell (World.block_lt_of_cell? _ _ (hHeld.2.2))).trans (hHeld.2.2); refine ⟨_, rfl, ?_⟩; replace aE := rB aE.out hb; replace bT := qB bT.out hb; replace bO := rB bO.out hb; replace br := kB br.out hb; replace HB := Az lU; clear hb; refine hK.out _ _ ⟨(aM br.out 0).trans rfl, (aM br.out 1).trans rfl, pp⟩ (fun hHeld => ?_); clear hK K; refine bw (a' := ?_) ?_ ?_; rotate_left
          ·
           show Act.put _ (some 68) _ = _
           simp only [Act.put, List.setIfInBounds_toArray, List.set_cons_zero, List.set_cons_succ, cr, cK]; rfl
          refine ak (i := 12) (N := some 69) (v := ?_) (a' := ?_) (bv 14 8191) rfl rfl (aj HT_.out (by kernel_rfl)) (fun _ _ _ h => h) (Or.inl ⟨by rfl, ?_⟩) ?_ ?_; rotate_left; (exact yP); rotate_left; (exact aP); refine ak (i := 13) (N := some 12) (v := ?_) (a' := ?_) (bv 14 16383) rfl rfl (aj HT_.out (by kernel_rfl)) (fun _ _ _ h => h) (Or.inl ⟨by rfl, ?_⟩) ?_ ?_; rotate_left; (exact yP); rotate_left; (exact aP); refine fY (gp HT_.out (by kernel_rfl)) ?_
          try go_wp2
          go_roundg k3
          case measure => have := HJ2.out; have := Gw.out; have := pI.out; omega
          case rel => exact ⟨(wrap64 (cM + 1)), rS, H', ⟨by have := HJ2.out; have := Gw.out; have := pI.out; omega⟩, ⟨rU aE.out⟩, ⟨qU bT.out⟩, ⟨rU bO.out⟩, ⟨kU br.out⟩, ⟨bU1 HB.out jv.out⟩⟩
         ·
          obtain rfl := Option.some.inj H; have ad4 := bc2 br.out
          try go_wp2
          replace aE := Az (Kd.ci aE.out); replace bT := Az (Kd.fC bT.out); replace bO := Az (Kd.ci bO.out); replace br := Az (dk br.out); replace HB := Az (aX HB.out); obtain ⟨oC, Cx, Xz, XA, u7⟩ := aI (Kd.av bO.out).2.2 cM
          cases Cx; refine fX (n := 14) (S := fun w' => w'.cell? ⟨po, 0, none⟩ = some (.slice cS bG.length cN) ∧ w'.cell? ⟨po, 1, none⟩ = some (.slice (some oC) b8.length cE) ∧ w'.cell? (oC.add (cM).toNat) = some (.int .i64 (rd b8 cM))) (ds := []) (bv 14 0) (by kernel_rfl) rfl rfl ⟨(aM br.out 0).trans rfl, (aM br.out 1).trans rfl, u7⟩ (fun hHeld => ?_); refine gn cL.zG cL.zX (fun HT_ HW_ => ?_); generalize wr.drew = UM at aE bT bO br HB u7 hHeld ⊢; refine ak (i := 1) (N := some 58) (v := ?_) (a' := ?_) (bv 14 2) rfl rfl (aj HT_.out (by kernel_rfl)) (fun _ _ _ h => h) (Or.inl ⟨by rfl, ?_⟩) ?_ ?_; rotate_left; (exact yP); rotate_left; (exact aP); refine ak (i := 2) (N := some 59) (v := ?_) (a' := ?_) (bv 14 6) rfl rfl (aj HT_.out (by kernel_rfl)) (fun _ _ _ h => h) (Or.inl ⟨by rfl, ?_⟩) ?_ ?_; rotate_left; (exact yP); rotate_left; (exact aP); refine ak (i := 5) (N := some 62) (v := ?_) (a' := ?_) (bv 14 38) rfl rfl (aj HT_.out (by kernel_rfl)) (fun _ _ _ h => h) (Or.inl ⟨by rfl, ?_⟩) ?_ ?_; rotate_left; (exact yP); rotate_left; (exact aP); refine ak (i := 6) (N := some 63) (v := ?_) (a' := ?_) (bv 14 102) rfl rfl (aj HT_.out (by kernel_rfl)) (fun _ _ _ h => h) (Or.inl ⟨by rfl, ?_⟩) ?_ ?_; rotate_left; (exact yP); rotate_left; (exact aP); refine ak (i := 8) (N := some 65) (v := ?_) (a' := ?_) (bv 14 358) rfl rfl (aj HT_.out (by kernel_rfl)) (fun _ _ _ h => h) (Or.inl ⟨by rfl, ?_⟩) ?_ ?_; rotate_left; (exact yP); rotate_left; (exact aP); refine dh (i := 0) (N := some 57) (v := ?_) (a' := ?_) (bv 14 359) rfl rfl (dc HT_.out HW_.out (by kernel_rfl)) (fun _ _ _ h => h) (Or.inl ⟨by rfl, ?_⟩) hHeld ?_ ?_; rotate_left
          ·
           rintro w' ⟨s0, s1, s2⟩; go_simp
           with_reducible rfl
          rotate_left; (exact aP); refine dh (i := 4) (N := some 61) (v := ?_) (a' := ?_) (bv 14 375) rfl rfl (dc HT_.out HW_.out (by kernel_rfl)) (fun _ _ _ h => h) (Or.inl ⟨by rfl, ?_⟩) hHeld ?_ ?_; rotate_left
          ·
           rintro w' ⟨s0, s1, s2⟩; go_simp
           with_reducible rfl
          rotate_left; (exact aP); refine dh (i := 7) (N := some 64) (v := ?_) (a' := ?_) (bv 14 503) rfl rfl (dc HT_.out HW_.out (by kernel_rfl)) (fun _ _ _ h => h) (Or.inl ⟨by rfl, ?_⟩) hHeld ?_ ?_; rotate_left
          ·
           rintro w' ⟨s0, s1, s2⟩; go_simp
           with_reducible rfl
          rotate_left; (exact aP); refine ak (i := 9) (N := some 66) (v := ?_) (a' := ?_) (bv 14 1015) rfl rfl (aj HT_.out (by kernel_rfl)) (fun _ _ _ h => h) (Or.inl ⟨by rfl, ?_⟩) ?_ ?_; rotate_left; (exact yP); rotate_left; (exact aP); refine dh (i := 10) (N := some 67) (v := ?_) (a' := ?_) (bv 14 2039) rfl rfl (dc HT_.out HW_.out (by kernel_rfl)) (fun _ _ _ h => h) (Or.inl ⟨by rfl, ?_⟩) hHeld ?_ ?_; rotate_left
          ·
           rintro w' ⟨s0, s1, s2⟩; go_simp
           with_reducible rfl
          rotate_left; (exact aP); refine er (i := 3) (N := some 60) (bv 14 2047) rfl rfl (dj HT_.out (by kernel_rfl)) (by decide) (fun K hK => ?_); refine gv Try.func46 (by kernel_rfl) rfl #[.agg #[.slice cS bG.length cN, .slice (some oC) b8.length cE], .int .i64 ((l1.length : Int) % (bG.length : Int)), .int .i64 cM] (by rfl) rfl rfl lQ ?_
          with_reducible refine (oD.calls k3 _ _ bG _ _ b8 ((l1.length : Int) % (bG.length : Int)) cM zo _ ?side1 ?side2 ?side3 ?side4 NT.out).mono ?_
          (case side1 => exact cU ((Kd.dQ bT.out).2.2))
          (case side2 => exact (Kd.dQ bT.out).2.1)
          (case side3 => exact cU ((Kd.av bO.out).2.2))
          (case side4 => exact (Kd.av bO.out).2.1)
          rintro e EI ⟨rfl, hb⟩; have pp := (hb.cell (World.block_lt_of_cell? _ _ (hHeld.2.2))).trans (hHeld.2.2); refine ⟨_, rfl, ?_⟩; replace aE := rB aE.out hb; replace bT := qB bT.out hb; replace bO := rB bO.out hb; replace br := kB br.out hb; replace HB := Az lU; clear hb; refine hK.out _ _ ⟨(aM br.out 0).trans rfl, (aM br.out 1).trans rfl, pp⟩ (fun hHeld => ?_); clear hK K; refine bw (a' := ?_) ?_ ?_; rotate_left
          ·
           show Act.put _ (some 60) _ = _
           simp only [Act.put, List.setIfInBounds_toArray, List.set_cons_zero, List.set_cons_succ, cr, cK]; rfl
          refine er (i := 11) (N := some 68) (bv 14 4095) rfl rfl (dj HT_.out (by kernel_rfl)) (by decide) (fun K hK => ?_); refine gv Try.func46 (by kernel_rfl) rfl #[.agg #[.slice cS bG.length cN, .slice (some oC) b8.length cE], .int .i64 ((l1.length : Int) % (bG.length : Int)), .int .i64 (rd b8 cM)] (by rfl) rfl rfl lQ ?_
          with_reducible refine (oD.calls k3 _ _ bG _ _ b8 ((l1.length : Int) % (bG.length : Int)) (rd b8 cM) zp _ ?side1 ?side2 ?side3 ?side4 NU.out).mono ?_
          (case side1 => exact cU ((Kd.dQ bT.out).2.2))
          (case side2 => exact (Kd.dQ bT.out).2.1)
          (case side3 => exact cU ((Kd.av bO.out).2.2))
          (case side4 => exact (Kd.av bO.out).2.1)
          rintro e w43 ⟨rfl, hb⟩; have pp := (hb.cell (World.block_lt_of_cell? _ _ (hHeld.2.2))).trans (hHeld.2.2); refine ⟨_, rfl, ?_⟩; replace aE := rB aE.out hb; replace bT := qB bT.out hb; replace bO := rB bO.out hb; replace br := kB br.out hb; replace HB := Az lU; clear hb; refine hK.out _ _ ⟨(aM br.out 0).trans rfl, (aM br.out 1).trans rfl, pp⟩ (fun hHeld => ?_); clear hK K; refine bw (a' := ?_) ?_ ?_; rotate_left
          ·
           show Act.put _ (some 68) _ = _
           simp only [Act.put, List.setIfInBounds_toArray, List.set_cons_zero, List.set_cons_succ, cr, cK]; rfl
          refine ak (i := 12) (N := some 69) (v := ?_) (a' := ?_) (bv 14 8191) rfl rfl (aj HT_.out (by kernel_rfl)) (fun _ _ _ h => h) (Or.inl ⟨by rfl, ?_⟩) ?_ ?_; rotate_left; (exact yP); rotate_left; (exact aP); refine ak (i := 13) (N := some 12) (v := ?_) (a' := ?_) (bv 14 16383) rfl rfl (aj HT_.out (by kernel_rfl)) (fun _ _ _ h => h) (Or.inl ⟨by rfl, ?_⟩) ?_ ?_; rotate_left; (exact yP); rotate_left; (exact aP); refine fY (gp HT_.out (by kernel_rfl)) ?_
          try go_wp2
          go_ret; exact ⟨rE, bU1 HB.out jv.out⟩
       ·
        replace H := bd H; obtain ⟨⟨bH, bN, XB⟩, Gx, H⟩ := H; dsimp only at H
        by_cases uH : NS = true
        ·
         subst uH; rw [if_pos rfl] at H
         by_cases c46 : XB = true
         ·
          subst c46; rw [if_pos rfl] at H; replace H := gP H; obtain ⟨BG, H⟩ := H; have art := decide_eq_true BG; have aru : decide (0 < kv.length) = true := decide_eq_true (by omega); clear BG; replace H := gP H; obtain ⟨rH, H⟩ := H; have ad8 := decide_eq_true rH; have arv : decide (2 < kv.length) = true := decide_eq_true (by omega); clear rH
          replace H := gQ H; rcases H with ⟨UO, aiU, H⟩ | ⟨UO, aiU, H⟩
          ·
           replace H := bd H; obtain ⟨NP, A50, H⟩ := H; obtain rfl := Option.some.inj H; have ah3 := bc2 br.out
           try go_wp2_with (first | ((with_reducible refine gK 53 rfl ?_); refine gC (some 79) Try.func53 #[.agg #[.slice cS bG.length cN, .slice dx b8.length cE], .int .i64 ((l1.length : Int) % (bG.length : Int))] ?_; (with_reducible refine (ce.calls k3 _ _ bG _ _ b8 ((l1.length : Int) % (bG.length : Int)) bH bN true _ ?_ ?_ ?_ ?_ Gx.out).mono ?_); exact cU ((Kd.dQ bT.out).2.2); exact (Kd.dQ bT.out).2.1; exact cU ((Kd.av bO.out).2.2); exact (Kd.av bO.out).2.1; rintro e w52 ⟨NV, NW, rfl, ho0, ho1, hb⟩; refine ⟨_, rfl, ?_⟩; have fg := Az C8; have fh := Az Dq; replace aE := Az CO; replace bT := Az Dv; replace bO := Az CM; replace br := kB br.out hb; replace HB := Az lU; clear hb ho0 ho1) | ((with_reducible refine gd 13 rfl ?_); (refine jf (by rfl) ?_; dsimp only); refine bE 13 #[.slice none 0 0, .slice none 0 0] 29 ?_; intro a6 hg pW hbox hb; replace aE := rB aE.out hb; replace bT := qB bT.out hb; replace bO := rB bO.out hb; replace fg := rB fg.out hb; replace fh := rB fh.out hb; have dA := Az (hbox); have qc := gW hg (bU1 HB.out jv.out); replace HB := Az lU; have nv := nL hg (kU br.out); replace br := kB br.out hb; clear hb hbox hg; obtain ⟨fv, fw, Mw⟩ := Kd.aU fg.out; subst Mw; have arw := nP nv; have UP := bc2 dA.out; obtain ⟨jF, d8, Lc⟩ := Kd.aU fh.out; subst Lc))
           have n0 : ae (Kd.R (Kd.int .i64) 3 ((pW.setCell ⟨a6, 0, none⟩ (.slice fv bH.length fw)).setCell ⟨a6, 1, none⟩ (.slice jF bN.length d8)) w.heap.size (fun k_ => oS k_ cS bG.length cN ∧ oS k_ dx b8.length cE ∧ oS k_ fv bH.length fw ∧ oS k_ jF bN.length d8) jQ kv) := ⟨rA (Kd.ah (Kd.aT (p := ⟨a6, 1, none⟩) (Kd.aT (p := ⟨a6, 0, none⟩) (Kd.cP aE.out dA.out (by decide)) (fun _ hk => hk.2) (.slice fv bH.length fw)) (fun _ hk => hk.2) (.slice jF bN.length d8)) (fun _ hk => ⟨hk.1.1.1.1, ⟨hk.1.1.1.2, ⟨hk.1.1.2, hk.1.2⟩⟩⟩))⟩; have n1 : ae (Kd.Q (Kd.int .i64) 3 ((pW.setCell ⟨a6, 0, none⟩ (.slice fv bH.length fw)).setCell ⟨a6, 1, none⟩ (.slice jF bN.length d8)) w.heap.size (fun k_ => oV k_ jQ ∧ oS k_ dx b8.length cE ∧ oS k_ fv bH.length fw ∧ oS k_ jF bN.length d8) (.slice cS bG.length cN) bG) := ⟨by (with_reducible repeat (first | apply Kd.jW | apply Kd.jY | apply Kd.fC)); exact Kd.dI (Kd.eZ (p := ⟨a6, 1, none⟩) (Kd.eZ (p := ⟨a6, 0, none⟩) (Kd.je bT.out dA.out (by decide)) (fun _ hk => hk.2) (.slice fv bH.length fw)) (fun _ hk => hk.2) (.slice jF bN.length d8)) (fun _ hk => ⟨hk.1.1.1.1, ⟨hk.1.1.1.2, ⟨hk.1.1.2, hk.1.2⟩⟩⟩)⟩; have n2 : ae (Kd.R (Kd.int .i64) 3 ((pW.setCell ⟨a6, 0, none⟩ (.slice fv bH.length fw)).setCell ⟨a6, 1, none⟩ (.slice jF bN.length d8)) w.heap.size (fun k_ => oV k_ jQ ∧ oS k_ cS bG.length cN ∧ oS k_ fv bH.length fw ∧ oS k_ jF bN.length d8) (.slice dx b8.length cE) b8) := ⟨rA (Kd.ah (Kd.aT (p := ⟨a6, 1, none⟩) (Kd.aT (p := ⟨a6, 0, none⟩) (Kd.cP bO.out dA.out (by decide)) (fun _ hk => hk.2) (.slice fv bH.length fw)) (fun _ hk => hk.2) (.slice jF bN.length d8)) (fun _ hk => ⟨hk.1.1.1.1, ⟨hk.1.1.1.2, ⟨hk.1.1.2, hk.1.2⟩⟩⟩))⟩; have n3 : ae (Kd.R (Kd.int .i64) 3 ((pW.setCell ⟨a6, 0, none⟩ (.slice fv bH.length fw)).setCell ⟨a6, 1, none⟩ (.slice jF bN.length d8)) w.heap.size (fun k_ => oV k_ jQ ∧ oS k_ cS bG.length cN ∧ oS k_ dx b8.length cE ∧ oS k_ jF bN.length d8) (.slice fv bH.length fw) bH) := ⟨rA (Kd.ah (Kd.aT (p := ⟨a6, 1, none⟩) (Kd.aT (p := ⟨a6, 0, none⟩) (Kd.cP fg.out dA.out (by decide)) (fun _ hk => hk.2) (.slice fv bH.length fw)) (fun _ hk => hk.2) (.slice jF bN.length d8)) (fun _ hk => ⟨hk.1.1.1.2, ⟨hk.1.1.2, ⟨hk.1.2, hk.1.1.1.1⟩⟩⟩))⟩; have n4 : ae (Kd.R (Kd.int .i64) 3 ((pW.setCell ⟨a6, 0, none⟩ (.slice fv bH.length fw)).setCell ⟨a6, 1, none⟩ (.slice jF bN.length d8)) w.heap.size (fun k_ => oV k_ jQ ∧ oS k_ cS bG.length cN ∧ oS k_ dx b8.length cE ∧ oS k_ fv bH.length fw) (.slice jF bN.length d8) bN) := ⟨rA (Kd.ah (Kd.aT (p := ⟨a6, 1, none⟩) (Kd.aT (p := ⟨a6, 0, none⟩) (Kd.cP fh.out dA.out (by decide)) (fun _ hk => hk.2) (.slice fv bH.length fw)) (fun _ hk => hk.2) (.slice jF bN.length d8)) (fun _ hk => ⟨hk.1.1.1.2, ⟨hk.1.1.2, ⟨hk.1.2, hk.1.1.1.1⟩⟩⟩))⟩; have n5 : ae (((pW.setCell ⟨a6, 0, none⟩ (.slice fv bH.length fw)).setCell ⟨a6, 1, none⟩ (.slice jF bN.length d8)).heap[po]? = some (.cells #[.slice cS bG.length cN, .slice dx b8.length cE] 29 (0, 0))) := ⟨by refine sA ?_; refine db ?_ nv.out _; refine sA ?_; refine db ?_ nv.out _; refine sA ?_; exact br.out⟩; have n6 : ae (((pW.setCell ⟨a6, 0, none⟩ (.slice fv bH.length fw)).setCell ⟨a6, 1, none⟩ (.slice jF bN.length d8)).heap[a6]? = some (.cells #[.slice fv bH.length fw, .slice jF bN.length d8] 29 (0, 0))) := ⟨by refine sA ?_; refine cC (cs := #[.slice fv bH.length fw, .slice none 0 0]) ?_ 1 _ rfl; refine sA ?_; refine cC (cs := #[.slice none 0 0, .slice none 0 0]) ?_ 0 _ rfl; refine sA ?_; exact dA.out⟩; have n7 : ae (Below w.heap.size w ((pW.setCell ⟨a6, 0, none⟩ (.slice fv bH.length fw)).setCell ⟨a6, 1, none⟩ (.slice jF bN.length d8))) := ⟨bU2 HB.out jv.out qc.out⟩; generalize ((pW.setCell ⟨a6, 0, none⟩ (.slice fv bH.length fw)).setCell ⟨a6, 1, none⟩ (.slice jF bN.length d8)) = EN at n0 n1 n2 n3 n4 n5 n6 n7 ⊢; have aE := n0; have bT := n1; have bO := n2; have fg := n3; have fh := n4; have br := n5; have dA := n6; have HB := n7; clear n0 n1 n2 n3 n4 n5 n6 n7; replace aE := Az (Kd.ci aE.out); replace bT := Az (Kd.fC bT.out); replace bO := Az (Kd.ci bO.out); replace fg := Az (Kd.ci fg.out); replace fh := Az (Kd.ci fh.out); replace br := Az (dk br.out); replace dA := Az (dk dA.out); replace HB := Az (aX HB.out); obtain ⟨Ge, Gf, Cn⟩ := Kd.aU aE.out; (first | subst Cn | (injection Cn with aG bC aH; have bD := aG.symm; have bF := aH.symm; clear aG bC aH; subst bD; subst bF)); have xn : 0 ≤ (0 : Int) := (by omega); have xo : 0 < (kv.length : Int) := oA; obtain ⟨tC, NY, tE⟩ := Kd.lu (Kd.av aE.out).2.2 0 xn xo
           cases NY
           have aiW : (0 < kv.length) = True := eq_true (by omega); rw [show ((0 : Int)).toNat = 0 from rfl] at tE; rw [Addr.add_zero'] at tE; replace xn := eq_true xn; replace xo := eq_true xo; have xp : 0 ≤ (2 : Int) := (by omega); have xq : 2 < (kv.length : Int) := oA; obtain ⟨NZ, N0, xr⟩ := Kd.lu (Kd.av aE.out).2.2 2 xp xq; obtain rfl : tC = NZ := (by injection N0); simp only [show (2 : Int).toNat = 2 from rfl, Nat.reduceMul, Nat.reduceEqDiff, Go.Addr.add, ↓reduceIte] at xr; have aiX : (2 < kv.length) = True := eq_true (by omega); replace xp := eq_true xp; replace xq := eq_true xq; refine fX (n := 20) (S := fun w' => w'.cell? ⟨a6, 0, none⟩ = some (.slice fv bH.length fw) ∧ w'.cell? ⟨a6, 1, none⟩ = some (.slice jF bN.length d8) ∧ w'.cell? tC = some (.int .i64 (rd kv 0)) ∧ w'.cell? ⟨tC.block, tC.off + 2, none⟩ = some (.int .i64 (rd kv 2))) (ds := []) (bv 20 0) (by kernel_rfl) rfl rfl ⟨(aM dA.out 0).trans rfl, (aM dA.out 1).trans rfl, tE, xr⟩ (fun hHeld => ?_); refine gn cL.C2 cL.Do (fun HT_ HW_ => ?_); generalize EN.drew = Nw at aE bT bO fg fh br dA HB tE xr hHeld ⊢; refine ak (i := 0) (N := some 82) (v := ?_) (a' := ?_) (bv 20 1) rfl rfl (aj HT_.out (by kernel_rfl)) (fun _ _ _ h => h) (Or.inl ⟨by rfl, ?_⟩) ?_ ?_; rotate_left; (exact yP); rotate_left; (exact aP); refine ak (i := 1) (N := some 83) (v := ?_) (a' := ?_) (bv 20 3) rfl rfl (aj HT_.out (by kernel_rfl)) (fun _ _ _ h => h) (Or.inl ⟨by rfl, ?_⟩) ?_ ?_; rotate_left; (exact yP); rotate_left; (exact aP); refine ak (i := 2) (N := some 84) (v := ?_) (a' := ?_) (bv 20 7) rfl rfl (aj HT_.out (by kernel_rfl)) (fun _ _ _ h => h) (Or.inl ⟨by rfl, ?_⟩) ?_ ?_; rotate_left; (exact yP); rotate_left; (exact aP); refine ak (i := 3) (N := some 85) (v := ?_) (a' := ?_) (bv 20 15) rfl rfl (aj HT_.out (by kernel_rfl)) (fun _ _ _ h => h) (Or.inl ⟨by rfl, ?_⟩) ?_ ?_; rotate_left; (exact yP); rotate_left; (exact aP); refine ak (i := 4) (N := some 86) (v := ?_) (a' := ?_) (bv 20 31) rfl rfl (aj HT_.out (by kernel_rfl)) (fun _ _ _ h => h) (Or.inl ⟨by rfl, ?_⟩) ?_ ?_; rotate_left; (exact yP); rotate_left; (exact aP); refine ak (i := 5) (N := some 87) (v := ?_) (a' := ?_) (bv 20 63) rfl rfl (aj HT_.out (by kernel_rfl)) (fun _ _ _ h => h) (Or.inl ⟨by rfl, ?_⟩) ?_ ?_; rotate_left; (exact yP); rotate_left; (exact aP); refine ak (i := 6) (N := some 88) (v := ?_) (a' := ?_) (bv 20 127) rfl rfl (aj HT_.out (by kernel_rfl)) (fun _ _ _ h => h) (Or.inl ⟨by rfl, ?_⟩) ?_ ?_; rotate_left; (exact yP); rotate_left; (exact aP); refine ak (i := 8) (N := some 90) (v := ?_) (a' := ?_) (bv 20 383) rfl rfl (aj HT_.out (by kernel_rfl)) (fun _ _ _ h => h) (Or.inl ⟨by rfl, ?_⟩) ?_ ?_; rotate_left; (exact yP); rotate_left; (exact aP); refine ak (i := 9) (N := some 91) (v := ?_) (a' := ?_) (bv 20 895) rfl rfl (aj HT_.out (by kernel_rfl)) (fun _ _ _ h => h) (Or.inl ⟨by rfl, ?_⟩) ?_ ?_; rotate_left; (exact yP); rotate_left; (exact aP); refine dh (i := 7) (N := some 89) (v := ?_) (a' := ?_) (bv 20 1023) rfl rfl (dc HT_.out HW_.out (by kernel_rfl)) (fun _ _ _ h => h) (Or.inl ⟨by rfl, ?_⟩) hHeld ?_ ?_; rotate_left
           ·
            rintro w' ⟨s0, s1, s2, s3⟩; go_simp
            with_reducible rfl
           rotate_left; (exact aP); refine dh (i := 10) (N := some 92) (v := ?_) (a' := ?_) (bv 20 2047) rfl rfl (dc HT_.out HW_.out (by kernel_rfl)) (fun _ _ _ h => h) (Or.inl ⟨by rfl, ?_⟩) hHeld ?_ ?_; rotate_left
           ·
            rintro w' ⟨s0, s1, s2, s3⟩; go_simp
            with_reducible rfl
           rotate_left; (exact aP); refine ak (i := 11) (N := some 93) (v := ?_) (a' := ?_) (bv 20 4095) rfl rfl (aj HT_.out (by kernel_rfl)) (fun _ _ _ h => h) (Or.inl ⟨by rfl, ?_⟩) ?_ ?_; rotate_left; (exact yP); rotate_left; (exact aP); refine ak (i := 12) (N := some 94) (v := ?_) (a' := ?_) (bv 20 8191) rfl rfl (aj HT_.out (by kernel_rfl)) (fun _ _ _ h => h) (Or.inl ⟨by rfl, ?_⟩) ?_ ?_; rotate_left; (exact yP); rotate_left; (exact aP); refine ak (i := 13) (N := some 95) (v := ?_) (a' := ?_) (bv 20 16383) rfl rfl (aj HT_.out (by kernel_rfl)) (fun _ _ _ h => h) (Or.inl ⟨by rfl, ?_⟩) ?_ ?_; rotate_left; (exact yP); rotate_left; (exact aP); refine ak (i := 14) (N := some 96) (v := ?_) (a' := ?_) (bv 20 32767) rfl rfl (aj HT_.out (by kernel_rfl)) (fun _ _ _ h => h) (Or.inl ⟨by rfl, ?_⟩) ?_ ?_; rotate_left; (exact yP); rotate_left; (exact aP); refine dh (i := 15) (N := some 97) (v := ?_) (a' := ?_) (bv 20 65535) rfl rfl (dc HT_.out HW_.out (by kernel_rfl)) (fun _ _ _ h => h) (Or.inl ⟨by rfl, ?_⟩) hHeld ?_ ?_; rotate_left
           ·
            rintro w' ⟨s0, s1, s2, s3⟩; go_simp
            with_reducible rfl
           rotate_left; (exact aP); refine er (i := 16) (N := some 98) (bv 20 131071) rfl rfl (dj HT_.out (by kernel_rfl)) (by decide) (fun K hK => ?_); refine gv Try.func43 (by kernel_rfl) rfl #[.agg #[.slice fv bH.length fw, .slice jF bN.length d8]] (by rfl) rfl rfl lQ ?_
           with_reducible refine (vv.calls k3 _ _ bH _ _ bN NP _ ?side1 ?side2 ?side3 ?side4 A50.out).mono ?_
           (case side1 => exact cU ((Kd.av fg.out).2.2))
           (case side2 => exact (Kd.av fg.out).2.1)
           (case side3 => exact cU ((Kd.av fh.out).2.2))
           (case side4 => exact (Kd.av fh.out).2.1)
           rintro e kJ ⟨rfl, hb⟩; have pp := (hb.cell (World.block_lt_of_cell? _ _ (hHeld.2.2.1))).trans (hHeld.2.2.1); have aiY := (hb.cell (World.block_lt_of_cell? _ _ (hHeld.2.2.2))).trans (hHeld.2.2.2); refine ⟨_, rfl, ?_⟩; replace aE := rB aE.out hb; replace bT := qB bT.out hb; replace bO := rB bO.out hb; replace fg := rB fg.out hb; replace fh := rB fh.out hb; replace br := kB br.out hb; replace dA := kB dA.out hb; replace HB := Az (au (bU2 HB.out jv.out qc.out) hb); clear hb; refine hK.out _ _ ⟨(aM dA.out 0).trans rfl, (aM dA.out 1).trans rfl, pp, aiY⟩ (fun hHeld => ?_); clear hK K; refine bw (a' := ?_) ?_ ?_; rotate_left
           ·
            show Act.put _ (some 98) _ = _
            simp only [Act.put, List.setIfInBounds_toArray, List.set_cons_zero, List.set_cons_succ, cr, cK]; rfl
           refine ak (i := 17) (N := some 99) (v := ?_) (a' := ?_) (bv 20 262143) rfl rfl (aj HT_.out (by kernel_rfl)) (fun _ _ _ h => h) (Or.inl ⟨by rfl, ?_⟩) ?_ ?_; rotate_left; (exact yP); rotate_left; (exact aP); refine ak (i := 18) (N := some 100) (v := ?_) (a' := ?_) (bv 20 524287) rfl rfl (aj HT_.out (by kernel_rfl)) (fun _ _ _ h => h) (Or.inl ⟨by rfl, ?_⟩) ?_ ?_; rotate_left; (exact yP); rotate_left; (exact aP); refine ak (i := 19) (N := some 4) (v := ?_) (a' := ?_) (bv 20 1048575) rfl rfl (aj HT_.out (by kernel_rfl)) (fun _ _ _ h => h) (Or.inl ⟨by rfl, ?_⟩) ?_ ?_; rotate_left; (exact yP); rotate_left; (exact aP); refine fY (gp HT_.out (by kernel_rfl)) ?_
           try go_wp2
           go_ret; exact ⟨rE, bU2 HB.out jv.out qc.out⟩
          ·
           obtain rfl := Option.some.inj H; have arx := bc2 br.out
           try go_wp2_with (first | ((with_reducible refine gK 53 rfl ?_); refine gC (some 79) Try.func53 #[.agg #[.slice cS bG.length cN, .slice dx b8.length cE], .int .i64 ((l1.length : Int) % (bG.length : Int))] ?_; (with_reducible refine (ce.calls k3 _ _ bG _ _ b8 ((l1.length : Int) % (bG.length : Int)) bH bN true _ ?_ ?_ ?_ ?_ Gx.out).mono ?_); exact cU ((Kd.dQ bT.out).2.2); exact (Kd.dQ bT.out).2.1; exact cU ((Kd.av bO.out).2.2); exact (Kd.av bO.out).2.1; rintro e W7 ⟨NV, NW, rfl, ho0, ho1, hb⟩; refine ⟨_, rfl, ?_⟩; have fg := Az C8; have fh := Az Dq; replace aE := Az CO; replace bT := Az Dv; replace bO := Az CM; replace br := kB br.out hb; replace HB := Az lU; clear hb ho0 ho1) | ((with_reducible refine gd 13 rfl ?_); (refine jf (by rfl) ?_; dsimp only); refine bE 13 #[.slice none 0 0, .slice none 0 0] 29 ?_; intro a6 hg w64 hbox hb; replace aE := rB aE.out hb; replace bT := qB bT.out hb; replace bO := rB bO.out hb; replace fg := rB fg.out hb; replace fh := rB fh.out hb; have dA := Az (hbox); have qc := gW hg (bU1 HB.out jv.out); replace HB := Az lU; have nv := nL hg (kU br.out); replace br := kB br.out hb; clear hb hbox hg; obtain ⟨gR, gS, pj⟩ := Kd.aU fg.out; subst pj; have agT := nP nv; have agU := bc2 dA.out; obtain ⟨fZ, ga, wS⟩ := Kd.aU fh.out; subst wS))
           have n0 : ae (Kd.R (Kd.int .i64) 3 ((w64.setCell ⟨a6, 0, none⟩ (.slice gR bH.length gS)).setCell ⟨a6, 1, none⟩ (.slice fZ bN.length ga)) w.heap.size (fun k_ => oS k_ cS bG.length cN ∧ oS k_ dx b8.length cE ∧ oS k_ gR bH.length gS ∧ oS k_ fZ bN.length ga) jQ kv) := ⟨rA (Kd.ah (Kd.aT (p := ⟨a6, 1, none⟩) (Kd.aT (p := ⟨a6, 0, none⟩) (Kd.cP aE.out dA.out (by decide)) (fun _ hk => hk.2) (.slice gR bH.length gS)) (fun _ hk => hk.2) (.slice fZ bN.length ga)) (fun _ hk => ⟨hk.1.1.1.1, ⟨hk.1.1.1.2, ⟨hk.1.1.2, hk.1.2⟩⟩⟩))⟩; have n1 : ae (Kd.Q (Kd.int .i64) 3 ((w64.setCell ⟨a6, 0, none⟩ (.slice gR bH.length gS)).setCell ⟨a6, 1, none⟩ (.slice fZ bN.length ga)) w.heap.size (fun k_ => oV k_ jQ ∧ oS k_ dx b8.length cE ∧ oS k_ gR bH.length gS ∧ oS k_ fZ bN.length ga) (.slice cS bG.length cN) bG) := ⟨by (with_reducible repeat (first | apply Kd.jW | apply Kd.jY | apply Kd.fC)); exact Kd.dI (Kd.eZ (p := ⟨a6, 1, none⟩) (Kd.eZ (p := ⟨a6, 0, none⟩) (Kd.je bT.out dA.out (by decide)) (fun _ hk => hk.2) (.slice gR bH.length gS)) (fun _ hk => hk.2) (.slice fZ bN.length ga)) (fun _ hk => ⟨hk.1.1.1.1, ⟨hk.1.1.1.2, ⟨hk.1.1.2, hk.1.2⟩⟩⟩)⟩; have n2 : ae (Kd.R (Kd.int .i64) 3 ((w64.setCell ⟨a6, 0, none⟩ (.slice gR bH.length gS)).setCell ⟨a6, 1, none⟩ (.slice fZ bN.length ga)) w.heap.size (fun k_ => oV k_ jQ ∧ oS k_ cS bG.length cN ∧ oS k_ gR bH.length gS ∧ oS k_ fZ bN.length ga) (.slice dx b8.length cE) b8) := ⟨rA (Kd.ah (Kd.aT (p := ⟨a6, 1, none⟩) (Kd.aT (p := ⟨a6, 0, none⟩) (Kd.cP bO.out dA.out (by decide)) (fun _ hk => hk.2) (.slice gR bH.length gS)) (fun _ hk => hk.2) (.slice fZ bN.length ga)) (fun _ hk => ⟨hk.1.1.1.1, ⟨hk.1.1.1.2, ⟨hk.1.1.2, hk.1.2⟩⟩⟩))⟩; have n3 : ae (Kd.R (Kd.int .i64) 3 ((w64.setCell ⟨a6, 0, none⟩ (.slice gR bH.length gS)).setCell ⟨a6, 1, none⟩ (.slice fZ bN.length ga)) w.heap.size (fun k_ => oV k_ jQ ∧ oS k_ cS bG.length cN ∧ oS k_ dx b8.length cE ∧ oS k_ fZ bN.length ga) (.slice gR bH.length gS) bH) := ⟨rA (Kd.ah (Kd.aT (p := ⟨a6, 1, none⟩) (Kd.aT (p := ⟨a6, 0, none⟩) (Kd.cP fg.out dA.out (by decide)) (fun _ hk => hk.2) (.slice gR bH.length gS)) (fun _ hk => hk.2) (.slice fZ bN.length ga)) (fun _ hk => ⟨hk.1.1.1.2, ⟨hk.1.1.2, ⟨hk.1.2, hk.1.1.1.1⟩⟩⟩))⟩; have n4 : ae (Kd.R (Kd.int .i64) 3 ((w64.setCell ⟨a6, 0, none⟩ (.slice gR bH.length gS)).setCell ⟨a6, 1, none⟩ (.slice fZ bN.length ga)) w.heap.size (fun k_ => oV k_ jQ ∧ oS k_ cS bG.length cN ∧ oS k_ dx b8.length cE ∧ oS k_ gR bH.length gS) (.slice fZ bN.length ga) bN) := ⟨rA (Kd.ah (Kd.aT (p := ⟨a6, 1, none⟩) (Kd.aT (p := ⟨a6, 0, none⟩) (Kd.cP fh.out dA.out (by decide)) (fun _ hk => hk.2) (.slice gR bH.length gS)) (fun _ hk => hk.2) (.slice fZ bN.length ga)) (fun _ hk => ⟨hk.1.1.1.2, ⟨hk.1.1.2, ⟨hk.1.2, hk.1.1.1.1⟩⟩⟩))⟩; have n5 : ae (((w64.setCell ⟨a6, 0, none⟩ (.slice gR bH.length gS)).setCell ⟨a6, 1, none⟩ (.slice fZ bN.length ga)).heap[po]? = some (.cells #[.slice cS bG.length cN, .slice dx b8.length cE] 29 (0, 0))) := ⟨by refine sA ?_; refine db ?_ nv.out _; refine sA ?_; refine db ?_ nv.out _; refine sA ?_; exact br.out⟩; have n6 : ae (((w64.setCell ⟨a6, 0, none⟩ (.slice gR bH.length gS)).setCell ⟨a6, 1, none⟩ (.slice fZ bN.length ga)).heap[a6]? = some (.cells #[.slice gR bH.length gS, .slice fZ bN.length ga] 29 (0, 0))) := ⟨by refine sA ?_; refine cC (cs := #[.slice gR bH.length gS, .slice none 0 0]) ?_ 1 _ rfl; refine sA ?_; refine cC (cs := #[.slice none 0 0, .slice none 0 0]) ?_ 0 _ rfl; refine sA ?_; exact dA.out⟩; have n7 : ae (Below w.heap.size w ((w64.setCell ⟨a6, 0, none⟩ (.slice gR bH.length gS)).setCell ⟨a6, 1, none⟩ (.slice fZ bN.length ga))) := ⟨bU2 HB.out jv.out qc.out⟩; generalize ((w64.setCell ⟨a6, 0, none⟩ (.slice gR bH.length gS)).setCell ⟨a6, 1, none⟩ (.slice fZ bN.length ga)) = wO at n0 n1 n2 n3 n4 n5 n6 n7 ⊢; have aE := n0; have bT := n1; have bO := n2; have fg := n3; have fh := n4; have br := n5; have dA := n6; have HB := n7; clear n0 n1 n2 n3 n4 n5 n6 n7; replace aE := Az (Kd.ci aE.out); replace bT := Az (Kd.fC bT.out); replace bO := Az (Kd.ci bO.out); replace fg := Az (Kd.ci fg.out); replace fh := Az (Kd.ci fh.out); replace br := Az (dk br.out); replace dA := Az (dk dA.out); replace HB := Az (aX HB.out); obtain ⟨ary, arz, XC⟩ := Kd.aU aE.out; (first | subst XC | (injection XC with aG bC aH; have bD := aG.symm; have bF := aH.symm; clear aG bC aH; subst bD; subst bF)); have xn : 0 ≤ (0 : Int) := (by omega); have xo : 0 < (kv.length : Int) := oA; obtain ⟨tC, NY, tE⟩ := Kd.lu (Kd.av aE.out).2.2 0 xn xo
           cases NY
           have aiW : (0 < kv.length) = True := eq_true (by omega); rw [show ((0 : Int)).toNat = 0 from rfl] at tE; rw [Addr.add_zero'] at tE; replace xn := eq_true xn; replace xo := eq_true xo; have xp : 0 ≤ (2 : Int) := (by omega); have xq : 2 < (kv.length : Int) := oA; obtain ⟨NZ, N0, xr⟩ := Kd.lu (Kd.av aE.out).2.2 2 xp xq; obtain rfl : tC = NZ := (by injection N0); simp only [show (2 : Int).toNat = 2 from rfl, Nat.reduceMul, Nat.reduceEqDiff, Go.Addr.add, ↓reduceIte] at xr; have aiX : (2 < kv.length) = True := eq_true (by omega); replace xp := eq_true xp; replace xq := eq_true xq; refine fX (n := 20) (S := fun w' => w'.cell? tC = some (.int .i64 (rd kv 0)) ∧ w'.cell? ⟨tC.block, tC.off + 2, none⟩ = some (.int .i64 (rd kv 2))) (ds := []) (bv 20 0) (by kernel_rfl) rfl rfl ⟨tE, xr⟩ (fun hHeld => ?_); refine gn cL.C2 cL.Do (fun HT_ HW_ => ?_); generalize wO.drew = w70 at aE bT bO fg fh br dA HB tE xr hHeld ⊢; refine ak (i := 0) (N := some 82) (v := ?_) (a' := ?_) (bv 20 1) rfl rfl (aj HT_.out (by kernel_rfl)) (fun _ _ _ h => h) (Or.inl ⟨by rfl, ?_⟩) ?_ ?_; rotate_left; (exact yP); rotate_left; (exact aP); refine ak (i := 1) (N := some 83) (v := ?_) (a' := ?_) (bv 20 3) rfl rfl (aj HT_.out (by kernel_rfl)) (fun _ _ _ h => h) (Or.inl ⟨by rfl, ?_⟩) ?_ ?_; rotate_left; (exact yP); rotate_left; (exact aP); refine ak (i := 2) (N := some 84) (v := ?_) (a' := ?_) (bv 20 7) rfl rfl (aj HT_.out (by kernel_rfl)) (fun _ _ _ h => h) (Or.inl ⟨by rfl, ?_⟩) ?_ ?_; rotate_left; (exact yP); rotate_left; (exact aP); refine ak (i := 3) (N := some 85) (v := ?_) (a' := ?_) (bv 20 15) rfl rfl (aj HT_.out (by kernel_rfl)) (fun _ _ _ h => h) (Or.inl ⟨by rfl, ?_⟩) ?_ ?_; rotate_left; (exact yP); rotate_left; (exact aP); refine ak (i := 4) (N := some 86) (v := ?_) (a' := ?_) (bv 20 31) rfl rfl (aj HT_.out (by kernel_rfl)) (fun _ _ _ h => h) (Or.inl ⟨by rfl, ?_⟩) ?_ ?_; rotate_left; (exact yP); rotate_left; (exact aP); refine ak (i := 5) (N := some 87) (v := ?_) (a' := ?_) (bv 20 63) rfl rfl (aj HT_.out (by kernel_rfl)) (fun _ _ _ h => h) (Or.inl ⟨by rfl, ?_⟩) ?_ ?_; rotate_left; (exact yP); rotate_left; (exact aP); refine ak (i := 6) (N := some 88) (v := ?_) (a' := ?_) (bv 20 127) rfl rfl (aj HT_.out (by kernel_rfl)) (fun _ _ _ h => h) (Or.inl ⟨by rfl, ?_⟩) ?_ ?_; rotate_left; (exact yP); rotate_left; (exact aP); refine ak (i := 8) (N := some 90) (v := ?_) (a' := ?_) (bv 20 383) rfl rfl (aj HT_.out (by kernel_rfl)) (fun _ _ _ h => h) (Or.inl ⟨by rfl, ?_⟩) ?_ ?_; rotate_left; (exact yP); rotate_left; (exact aP); refine ak (i := 9) (N := some 91) (v := ?_) (a' := ?_) (bv 20 895) rfl rfl (aj HT_.out (by kernel_rfl)) (fun _ _ _ h => h) (Or.inl ⟨by rfl, ?_⟩) ?_ ?_; rotate_left; (exact yP); rotate_left; (exact aP); refine dh (i := 7) (N := some 89) (v := ?_) (a' := ?_) (bv 20 1023) rfl rfl (dc HT_.out HW_.out (by kernel_rfl)) (fun _ _ _ h => h) (Or.inl ⟨by rfl, ?_⟩) hHeld ?_ ?_; rotate_left
           ·
            rintro w' ⟨s0, s1⟩; go_simp
            with_reducible rfl
           rotate_left; (exact aP); refine dh (i := 10) (N := some 92) (v := ?_) (a' := ?_) (bv 20 2047) rfl rfl (dc HT_.out HW_.out (by kernel_rfl)) (fun _ _ _ h => h) (Or.inl ⟨by rfl, ?_⟩) hHeld ?_ ?_; rotate_left
           ·
            rintro w' ⟨s0, s1⟩; go_simp
            with_reducible rfl
           rotate_left; (exact aP); refine ak (i := 11) (N := some 93) (v := ?_) (a' := ?_) (bv 20 4095) rfl rfl (aj HT_.out (by kernel_rfl)) (fun _ _ _ h => h) (Or.inl ⟨by rfl, ?_⟩) ?_ ?_; rotate_left; (exact yP); rotate_left; (exact aP); refine ak (i := 12) (N := some 94) (v := ?_) (a' := ?_) (bv 20 8191) rfl rfl (aj HT_.out (by kernel_rfl)) (fun _ _ _ h => h) (Or.inl ⟨by rfl, ?_⟩) ?_ ?_; rotate_left; (exact yP); rotate_left; (exact aP); refine ak (i := 13) (N := some 95) (v := ?_) (a' := ?_) (bv 20 16383) rfl rfl (aj HT_.out (by kernel_rfl)) (fun _ _ _ h => h) (Or.inl ⟨by rfl, ?_⟩) ?_ ?_; rotate_left; (exact yP); rotate_left; (exact aP); refine ak (i := 14) (N := some 96) (v := ?_) (a' := ?_) (bv 20 32767) rfl rfl (aj HT_.out (by kernel_rfl)) (fun _ _ _ h => h) (Or.inl ⟨by rfl, ?_⟩) ?_ ?_; rotate_left; (exact yP); rotate_left; (exact aP); refine ak (i := 15) (N := some 97) (v := undef) (a' := ?_) (bv 20 65535) rfl rfl (aj HT_.out (by kernel_rfl)) (fun _ _ _ h => h) (Or.inr ⟨by rfl, rfl⟩) ?_ ?_; rotate_left; (exact aP); refine ak (i := 16) (N := some 98) (v := undef) (a' := ?_) (bv 20 131071) rfl rfl (aj HT_.out (by kernel_rfl)) (fun _ _ _ h => h) (Or.inr ⟨by rfl, rfl⟩) ?_ ?_; rotate_left; (exact aP); refine ak (i := 17) (N := some 99) (v := undef) (a' := ?_) (bv 20 262143) rfl rfl (aj HT_.out (by kernel_rfl)) (fun _ _ _ h => h) (Or.inr ⟨by rfl, rfl⟩) ?_ ?_; rotate_left; (exact aP); refine ak (i := 18) (N := some 100) (v := ?_) (a' := ?_) (bv 20 524287) rfl rfl (aj HT_.out (by kernel_rfl)) (fun _ _ _ h => h) (Or.inl ⟨by rfl, ?_⟩) ?_ ?_; rotate_left; (exact yP); rotate_left; (exact aP); refine ak (i := 19) (N := some 4) (v := ?_) (a' := ?_) (bv 20 1048575) rfl rfl (aj HT_.out (by kernel_rfl)) (fun _ _ _ h => h) (Or.inl ⟨by rfl, ?_⟩) ?_ ?_; rotate_left; (exact yP); rotate_left; (exact aP); refine fY (gp HT_.out (by kernel_rfl)) ?_
           try go_wp2
           go_ret; exact ⟨rE, bU2 HB.out jv.out qc.out⟩
         ·
          replace c46 := Bool.eq_false_iff.mpr c46; subst c46; rw [if_neg nT] at H; obtain rfl := Option.some.inj H; have afa := bc2 br.out
          try go_wp2_with (first | ((with_reducible refine gK 53 rfl ?_); refine gC (some 79) Try.func53 #[.agg #[.slice cS bG.length cN, .slice dx b8.length cE], .int .i64 ((l1.length : Int) % (bG.length : Int))] ?_; (with_reducible refine (ce.calls k3 _ _ bG _ _ b8 ((l1.length : Int) % (bG.length : Int)) bH bN false _ ?_ ?_ ?_ ?_ Gx.out).mono ?_); exact cU ((Kd.dQ bT.out).2.2); exact (Kd.dQ bT.out).2.1; exact cU ((Kd.av bO.out).2.2); exact (Kd.av bO.out).2.1; rintro e BW ⟨NV, NW, rfl, ho0, ho1, hb⟩; refine ⟨_, rfl, ?_⟩; have fg := Az C8; have fh := Az Dq; replace aE := Az CO; replace bT := Az Dv; replace bO := Az CM; replace br := kB br.out hb; replace HB := Az lU; clear hb ho0 ho1) | ((with_reducible refine gd 13 rfl ?_); (refine jf (by rfl) ?_; dsimp only); refine bE 13 #[.slice none 0 0, .slice none 0 0] 29 ?_; intro a6 hg tG hbox hb; replace aE := rB aE.out hb; replace bT := qB bT.out hb; replace bO := rB bO.out hb; replace fg := rB fg.out hb; replace fh := rB fh.out hb; have dA := Az (hbox); have qc := gW hg (bU1 HB.out jv.out); replace HB := Az lU; have nv := nL hg (kU br.out); replace br := kB br.out hb; clear hb hbox hg; obtain ⟨i7, ja, Nh⟩ := Kd.aU fg.out; subst Nh; have arA := nP nv; have arB := bc2 dA.out; obtain ⟨iQ, iT, E7⟩ := Kd.aU fh.out; subst E7))
          have n0 : ae (Kd.R (Kd.int .i64) 3 ((tG.setCell ⟨a6, 0, none⟩ (.slice i7 bH.length ja)).setCell ⟨a6, 1, none⟩ (.slice iQ bN.length iT)) w.heap.size (fun k_ => oS k_ cS bG.length cN ∧ oS k_ dx b8.length cE ∧ oS k_ i7 bH.length ja ∧ oS k_ iQ bN.length iT) jQ kv) := ⟨rA (Kd.ah (Kd.aT (p := ⟨a6, 1, none⟩) (Kd.aT (p := ⟨a6, 0, none⟩) (Kd.cP aE.out dA.out (by decide)) (fun _ hk => hk.2) (.slice i7 bH.length ja)) (fun _ hk => hk.2) (.slice iQ bN.length iT)) (fun _ hk => ⟨hk.1.1.1.1, ⟨hk.1.1.1.2, ⟨hk.1.1.2, hk.1.2⟩⟩⟩))⟩; have n1 : ae (Kd.Q (Kd.int .i64) 3 ((tG.setCell ⟨a6, 0, none⟩ (.slice i7 bH.length ja)).setCell ⟨a6, 1, none⟩ (.slice iQ bN.length iT)) w.heap.size (fun k_ => oV k_ jQ ∧ oS k_ dx b8.length cE ∧ oS k_ i7 bH.length ja ∧ oS k_ iQ bN.length iT) (.slice cS bG.length cN) bG) := ⟨by (with_reducible repeat (first | apply Kd.jW | apply Kd.jY | apply Kd.fC)); exact Kd.dI (Kd.eZ (p := ⟨a6, 1, none⟩) (Kd.eZ (p := ⟨a6, 0, none⟩) (Kd.je bT.out dA.out (by decide)) (fun _ hk => hk.2) (.slice i7 bH.length ja)) (fun _ hk => hk.2) (.slice iQ bN.length iT)) (fun _ hk => ⟨hk.1.1.1.1, ⟨hk.1.1.1.2, ⟨hk.1.1.2, hk.1.2⟩⟩⟩)⟩; have n2 : ae (Kd.R (Kd.int .i64) 3 ((tG.setCell ⟨a6, 0, none⟩ (.slice i7 bH.length ja)).setCell ⟨a6, 1, none⟩ (.slice iQ bN.length iT)) w.heap.size (fun k_ => oV k_ jQ ∧ oS k_ cS bG.length cN ∧ oS k_ i7 bH.length ja ∧ oS k_ iQ bN.length iT) (.slice dx b8.length cE) b8) := ⟨rA (Kd.ah (Kd.aT (p := ⟨a6, 1, none⟩) (Kd.aT (p := ⟨a6, 0, none⟩) (Kd.cP bO.out dA.out (by decide)) (fun _ hk => hk.2) (.slice i7 bH.length ja)) (fun _ hk => hk.2) (.slice iQ bN.length iT)) (fun _ hk => ⟨hk.1.1.1.1, ⟨hk.1.1.1.2, ⟨hk.1.1.2, hk.1.2⟩⟩⟩))⟩; have n3 : ae (Kd.R (Kd.int .i64) 3 ((tG.setCell ⟨a6, 0, none⟩ (.slice i7 bH.length ja)).setCell ⟨a6, 1, none⟩ (.slice iQ bN.length iT)) w.heap.size (fun k_ => oV k_ jQ ∧ oS k_ cS bG.length cN ∧ oS k_ dx b8.length cE ∧ oS k_ iQ bN.length iT) (.slice i7 bH.length ja) bH) := ⟨rA (Kd.ah (Kd.aT (p := ⟨a6, 1, none⟩) (Kd.aT (p := ⟨a6, 0, none⟩) (Kd.cP fg.out dA.out (by decide)) (fun _ hk => hk.2) (.slice i7 bH.length ja)) (fun _ hk => hk.2) (.slice iQ bN.length iT)) (fun _ hk => ⟨hk.1.1.1.2, ⟨hk.1.1.2, ⟨hk.1.2, hk.1.1.1.1⟩⟩⟩))⟩; have n4 : ae (Kd.R (Kd.int .i64) 3 ((tG.setCell ⟨a6, 0, none⟩ (.slice i7 bH.length ja)).setCell ⟨a6, 1, none⟩ (.slice iQ bN.length iT)) w.heap.size (fun k_ => oV k_ jQ ∧ oS k_ cS bG.length cN ∧ oS k_ dx b8.length cE ∧ oS k_ i7 bH.length ja) (.slice iQ bN.length iT) bN) := ⟨rA (Kd.ah (Kd.aT (p := ⟨a6, 1, none⟩) (Kd.aT (p := ⟨a6, 0, none⟩) (Kd.cP fh.out dA.out (by decide)) (fun _ hk => hk.2) (.slice i7 bH.length ja)) (fun _ hk => hk.2) (.slice iQ bN.length iT)) (fun _ hk => ⟨hk.1.1.1.2, ⟨hk.1.1.2, ⟨hk.1.2, hk.1.1.1.1⟩⟩⟩))⟩; have n5 : ae (((tG.setCell ⟨a6, 0, none⟩ (.slice i7 bH.length ja)).setCell ⟨a6, 1, none⟩ (.slice iQ bN.length iT)).heap[po]? = some (.cells #[.slice cS bG.length cN, .slice dx b8.length cE] 29 (0, 0))) := ⟨by refine sA ?_; refine db ?_ nv.out _; refine sA ?_; refine db ?_ nv.out _; refine sA ?_; exact br.out⟩; have n6 : ae (((tG.setCell ⟨a6, 0, none⟩ (.slice i7 bH.length ja)).setCell ⟨a6, 1, none⟩ (.slice iQ bN.length iT)).heap[a6]? = some (.cells #[.slice i7 bH.length ja, .slice iQ bN.length iT] 29 (0, 0))) := ⟨by refine sA ?_; refine cC (cs := #[.slice i7 bH.length ja, .slice none 0 0]) ?_ 1 _ rfl; refine sA ?_; refine cC (cs := #[.slice none 0 0, .slice none 0 0]) ?_ 0 _ rfl; refine sA ?_; exact dA.out⟩; have n7 : ae (Below w.heap.size w ((tG.setCell ⟨a6, 0, none⟩ (.slice i7 bH.length ja)).setCell ⟨a6, 1, none⟩ (.slice iQ bN.length iT))) := ⟨bU2 HB.out jv.out qc.out⟩; generalize ((tG.setCell ⟨a6, 0, none⟩ (.slice i7 bH.length ja)).setCell ⟨a6, 1, none⟩ (.slice iQ bN.length iT)) = w79 at n0 n1 n2 n3 n4 n5 n6 n7 ⊢; have aE := n0; have bT := n1; have bO := n2; have fg := n3; have fh := n4; have br := n5; have dA := n6; have HB := n7; clear n0 n1 n2 n3 n4 n5 n6 n7; replace aE := Az (Kd.ci aE.out); replace bT := Az (Kd.fC bT.out); replace bO := Az (Kd.ci bO.out); replace fg := Az (Kd.ci fg.out); replace fh := Az (Kd.ci fh.out); replace br := Az (dk br.out); replace dA := Az (dk dA.out); replace HB := Az (aX HB.out); refine fX (n := 20) (S := fun w' => True) (ds := []) (bv 20 0) (by kernel_rfl) rfl rfl trivial (fun hHeld => ?_); refine gn cL.C2 cL.Do (fun HT_ HW_ => ?_); generalize w79.drew = w80 at aE bT bO fg fh br dA HB hHeld ⊢; refine ak (i := 0) (N := some 82) (v := ?_) (a' := ?_) (bv 20 1) rfl rfl (aj HT_.out (by kernel_rfl)) (fun _ _ _ h => h) (Or.inl ⟨by rfl, ?_⟩) ?_ ?_; rotate_left; (exact yP); rotate_left; (exact aP); refine ak (i := 1) (N := some 83) (v := ?_) (a' := ?_) (bv 20 3) rfl rfl (aj HT_.out (by kernel_rfl)) (fun _ _ _ h => h) (Or.inl ⟨by rfl, ?_⟩) ?_ ?_; rotate_left; (exact yP); rotate_left; (exact aP); refine ak (i := 2) (N := some 84) (v := ?_) (a' := ?_) (bv 20 7) rfl rfl (aj HT_.out (by kernel_rfl)) (fun _ _ _ h => h) (Or.inl ⟨by rfl, ?_⟩) ?_ ?_; rotate_left; (exact yP); rotate_left; (exact aP); refine ak (i := 3) (N := some 85) (v := ?_) (a' := ?_) (bv 20 15) rfl rfl (aj HT_.out (by kernel_rfl)) (fun _ _ _ h => h) (Or.inl ⟨by rfl, ?_⟩) ?_ ?_; rotate_left; (exact yP); rotate_left; (exact aP); refine ak (i := 4) (N := some 86) (v := ?_) (a' := ?_) (bv 20 31) rfl rfl (aj HT_.out (by kernel_rfl)) (fun _ _ _ h => h) (Or.inl ⟨by rfl, ?_⟩) ?_ ?_; rotate_left; (exact yP); rotate_left; (exact aP); refine ak (i := 5) (N := some 87) (v := undef) (a' := ?_) (bv 20 63) rfl rfl (aj HT_.out (by kernel_rfl)) (fun _ _ _ h => h) (Or.inr ⟨by rfl, rfl⟩) ?_ ?_; rotate_left; (exact aP); refine ak (i := 6) (N := some 88) (v := undef) (a' := ?_) (bv 20 127) rfl rfl (aj HT_.out (by kernel_rfl)) (fun _ _ _ h => h) (Or.inr ⟨by rfl, rfl⟩) ?_ ?_; rotate_left; (exact aP); refine ak (i := 7) (N := some 89) (v := undef) (a' := ?_) (bv 20 255) rfl rfl (aj HT_.out (by kernel_rfl)) (fun _ _ _ h => h) (Or.inr ⟨by rfl, rfl⟩) ?_ ?_; rotate_left; (exact aP); refine ak (i := 8) (N := some 90) (v := undef) (a' := ?_) (bv 20 511) rfl rfl (aj HT_.out (by kernel_rfl)) (fun _ _ _ h => h) (Or.inr ⟨by rfl, rfl⟩) ?_ ?_; rotate_left; (exact aP); refine ak (i := 9) (N := some 91) (v := undef) (a' := ?_) (bv 20 1023) rfl rfl (aj HT_.out (by kernel_rfl)) (fun _ _ _ h => h) (Or.inr ⟨by rfl, rfl⟩) ?_ ?_; rotate_left; (exact aP); refine ak (i := 10) (N := some 92) (v := undef) (a' := ?_) (bv 20 2047) rfl rfl (aj HT_.out (by kernel_rfl)) (fun _ _ _ h => h) (Or.inr ⟨by rfl, rfl⟩) ?_ ?_; rotate_left; (exact aP); refine ak (i := 11) (N := some 93) (v := undef) (a' := ?_) (bv 20 4095) rfl rfl (aj HT_.out (by kernel_rfl)) (fun _ _ _ h => h) (Or.inr ⟨by rfl, rfl⟩) ?_ ?_; rotate_left; (exact aP); refine ak (i := 12) (N := some 94) (v := undef) (a' := ?_) (bv 20 8191) rfl rfl (aj HT_.out (by kernel_rfl)) (fun _ _ _ h => h) (Or.inr ⟨by rfl, rfl⟩) ?_ ?_; rotate_left; (exact aP); refine ak (i := 13) (N := some 95) (v := ?_) (a' := ?_) (bv 20 16383) rfl rfl (aj HT_.out (by kernel_rfl)) (fun _ _ _ h => h) (Or.inl ⟨by rfl, ?_⟩) ?_ ?_; rotate_left; (exact yP); rotate_left; (exact aP); refine ak (i := 14) (N := some 96) (v := ?_) (a' := ?_) (bv 20 32767) rfl rfl (aj HT_.out (by kernel_rfl)) (fun _ _ _ h => h) (Or.inl ⟨by rfl, ?_⟩) ?_ ?_; rotate_left; (exact yP); rotate_left; (exact aP); refine ak (i := 15) (N := some 97) (v := undef) (a' := ?_) (bv 20 65535) rfl rfl (aj HT_.out (by kernel_rfl)) (fun _ _ _ h => h) (Or.inr ⟨by rfl, rfl⟩) ?_ ?_; rotate_left; (exact aP); refine ak (i := 16) (N := some 98) (v := undef) (a' := ?_) (bv 20 131071) rfl rfl (aj HT_.out (by kernel_rfl)) (fun _ _ _ h => h) (Or.inr ⟨by rfl, rfl⟩) ?_ ?_; rotate_left; (exact aP); refine ak (i := 17) (N := some 99) (v := undef) (a' := ?_) (bv 20 262143) rfl rfl (aj HT_.out (by kernel_rfl)) (fun _ _ _ h => h) (Or.inr ⟨by rfl, rfl⟩) ?_ ?_; rotate_left; (exact aP); refine ak (i := 18) (N := some 100) (v := ?_) (a' := ?_) (bv 20 524287) rfl rfl (aj HT_.out (by kernel_rfl)) (fun _ _ _ h => h) (Or.inl ⟨by rfl, ?_⟩) ?_ ?_; rotate_left; (exact yP); rotate_left; (exact aP); refine ak (i := 19) (N := some 4) (v := ?_) (a' := ?_) (bv 20 1048575) rfl rfl (aj HT_.out (by kernel_rfl)) (fun _ _ _ h => h) (Or.inl ⟨by rfl, ?_⟩) ?_ ?_; rotate_left; (exact yP); rotate_left; (exact aP); refine fY (gp HT_.out (by kernel_rfl)) ?_
          try go_wp2
          go_ret; exact ⟨rE, bU2 HB.out jv.out qc.out⟩
        ·
         replace uH := Bool.eq_false_iff.mpr uH; subst uH; rw [if_neg nT] at H; obtain rfl := Option.some.inj H; have ag0 := bc2 br.out
         try go_wp2_with (first | ((with_reducible refine gK 53 rfl ?_); refine gC (some 79) Try.func53 #[.agg #[.slice cS bG.length cN, .slice dx b8.length cE], .int .i64 ((l1.length : Int) % (bG.length : Int))] ?_; (with_reducible refine (ce.calls k3 _ _ bG _ _ b8 ((l1.length : Int) % (bG.length : Int)) bH bN XB _ ?_ ?_ ?_ ?_ Gx.out).mono ?_); exact cU ((Kd.dQ bT.out).2.2); exact (Kd.dQ bT.out).2.1; exact cU ((Kd.av bO.out).2.2); exact (Kd.av bO.out).2.1; rintro e w82 ⟨NV, NW, rfl, ho0, ho1, hb⟩; refine ⟨_, rfl, ?_⟩; have fg := Az C8; have fh := Az Dq; replace aE := Az CO; replace bT := Az Dv; replace bO := Az CM; replace br := kB br.out hb; replace HB := Az lU; clear hb ho0 ho1) | ((with_reducible refine gd 13 rfl ?_); (refine jf (by rfl) ?_; dsimp only); refine bE 13 #[.slice none 0 0, .slice none 0 0] 29 ?_; intro a6 hg o7 hbox hb; replace aE := rB aE.out hb; replace bT := qB bT.out hb; replace bO := rB bO.out hb; replace fg := rB fg.out hb; replace fh := rB fh.out hb; have dA := Az (hbox); have qc := gW hg (bU1 HB.out jv.out); replace HB := Az lU; have nv := nL hg (kU br.out); replace br := kB br.out hb; clear hb hbox hg; obtain ⟨kw, kx, ai0⟩ := Kd.aU fg.out; subst ai0; have arD := nP nv; have arE := bc2 dA.out; obtain ⟨kL, kM, ai1⟩ := Kd.aU fh.out; subst ai1))
         have n0 : ae (Kd.R (Kd.int .i64) 3 ((o7.setCell ⟨a6, 0, none⟩ (.slice kw bH.length kx)).setCell ⟨a6, 1, none⟩ (.slice kL bN.length kM)) w.heap.size (fun k_ => oS k_ cS bG.length cN ∧ oS k_ dx b8.length cE ∧ oS k_ kw bH.length kx ∧ oS k_ kL bN.length kM) jQ kv) := ⟨rA (Kd.ah (Kd.aT (p := ⟨a6, 1, none⟩) (Kd.aT (p := ⟨a6, 0, none⟩) (Kd.cP aE.out dA.out (by decide)) (fun _ hk => hk.2) (.slice kw bH.length kx)) (fun _ hk => hk.2) (.slice kL bN.length kM)) (fun _ hk => ⟨hk.1.1.1.1, ⟨hk.1.1.1.2, ⟨hk.1.1.2, hk.1.2⟩⟩⟩))⟩; have n1 : ae (Kd.Q (Kd.int .i64) 3 ((o7.setCell ⟨a6, 0, none⟩ (.slice kw bH.length kx)).setCell ⟨a6, 1, none⟩ (.slice kL bN.length kM)) w.heap.size (fun k_ => oV k_ jQ ∧ oS k_ dx b8.length cE ∧ oS k_ kw bH.length kx ∧ oS k_ kL bN.length kM) (.slice cS bG.length cN) bG) := ⟨by (with_reducible repeat (first | apply Kd.jW | apply Kd.jY | apply Kd.fC)); exact Kd.dI (Kd.eZ (p := ⟨a6, 1, none⟩) (Kd.eZ (p := ⟨a6, 0, none⟩) (Kd.je bT.out dA.out (by decide)) (fun _ hk => hk.2) (.slice kw bH.length kx)) (fun _ hk => hk.2) (.slice kL bN.length kM)) (fun _ hk => ⟨hk.1.1.1.1, ⟨hk.1.1.1.2, ⟨hk.1.1.2, hk.1.2⟩⟩⟩)⟩; have n2 : ae (Kd.R (Kd.int .i64) 3 ((o7.setCell ⟨a6, 0, none⟩ (.slice kw bH.length kx)).setCell ⟨a6, 1, none⟩ (.slice kL bN.length kM)) w.heap.size (fun k_ => oV k_ jQ ∧ oS k_ cS bG.length cN ∧ oS k_ kw bH.length kx ∧ oS k_ kL bN.length kM) (.slice dx b8.length cE) b8) := ⟨rA (Kd.ah (Kd.aT (p := ⟨a6, 1, none⟩) (Kd.aT (p := ⟨a6, 0, none⟩) (Kd.cP bO.out dA.out (by decide)) (fun _ hk => hk.2) (.slice kw bH.length kx)) (fun _ hk => hk.2) (.slice kL bN.length kM)) (fun _ hk => ⟨hk.1.1.1.1, ⟨hk.1.1.1.2, ⟨hk.1.1.2, hk.1.2⟩⟩⟩))⟩; have n3 : ae (Kd.R (Kd.int .i64) 3 ((o7.setCell ⟨a6, 0, none⟩ (.slice kw bH.length kx)).setCell ⟨a6, 1, none⟩ (.slice kL bN.length kM)) w.heap.size (fun k_ => oV k_ jQ ∧ oS k_ cS bG.length cN ∧ oS k_ dx b8.length cE ∧ oS k_ kL bN.length kM) (.slice kw bH.length kx) bH) := ⟨rA (Kd.ah (Kd.aT (p := ⟨a6, 1, none⟩) (Kd.aT (p := ⟨a6, 0, none⟩) (Kd.cP fg.out dA.out (by decide)) (fun _ hk => hk.2) (.slice kw bH.length kx)) (fun _ hk => hk.2) (.slice kL bN.length kM)) (fun _ hk => ⟨hk.1.1.1.2, ⟨hk.1.1.2, ⟨hk.1.2, hk.1.1.1.1⟩⟩⟩))⟩; have n4 : ae (Kd.R (Kd.int .i64) 3 ((o7.setCell ⟨a6, 0, none⟩ (.slice kw bH.length kx)).setCell ⟨a6, 1, none⟩ (.slice kL bN.length kM)) w.heap.size (fun k_ => oV k_ jQ ∧ oS k_ cS bG.length cN ∧ oS k_ dx b8.length cE ∧ oS k_ kw bH.length kx) (.slice kL bN.length kM) bN) := ⟨rA (Kd.ah (Kd.aT (p := ⟨a6, 1, none⟩) (Kd.aT (p := ⟨a6, 0, none⟩) (Kd.cP fh.out dA.out (by decide)) (fun _ hk => hk.2) (.slice kw bH.length kx)) (fun _ hk => hk.2) (.slice kL bN.length kM)) (fun _ hk => ⟨hk.1.1.1.2, ⟨hk.1.1.2, ⟨hk.1.2, hk.1.1.1.1⟩⟩⟩))⟩; have n5 : ae (((o7.setCell ⟨a6, 0, none⟩ (.slice kw bH.length kx)).setCell ⟨a6, 1, none⟩ (.slice kL bN.length kM)).heap[po]? = some (.cells #[.slice cS bG.length cN, .slice dx b8.length cE] 29 (0, 0))) := ⟨by refine sA ?_; refine db ?_ nv.out _; refine sA ?_; refine db ?_ nv.out _; refine sA ?_; exact br.out⟩; have n6 : ae (((o7.setCell ⟨a6, 0, none⟩ (.slice kw bH.length kx)).setCell ⟨a6, 1, none⟩ (.slice kL bN.length kM)).heap[a6]? = some (.cells #[.slice kw bH.length kx, .slice kL bN.length kM] 29 (0, 0))) := ⟨by refine sA ?_; refine cC (cs := #[.slice kw bH.length kx, .slice none 0 0]) ?_ 1 _ rfl; refine sA ?_; refine cC (cs := #[.slice none 0 0, .slice none 0 0]) ?_ 0 _ rfl; refine sA ?_; exact dA.out⟩; have n7 : ae (Below w.heap.size w ((o7.setCell ⟨a6, 0, none⟩ (.slice kw bH.length kx)).setCell ⟨a6, 1, none⟩ (.slice kL bN.length kM))) := ⟨bU2 HB.out jv.out qc.out⟩; generalize ((o7.setCell ⟨a6, 0, none⟩ (.slice kw bH.length kx)).setCell ⟨a6, 1, none⟩ (.slice kL bN.length kM)) = w88 at n0 n1 n2 n3 n4 n5 n6 n7 ⊢; have aE := n0; have bT := n1; have bO := n2; have fg := n3; have fh := n4; have br := n5; have dA := n6; have HB := n7; clear n0 n1 n2 n3 n4 n5 n6 n7; replace aE := Az (Kd.ci aE.out); replace bT := Az (Kd.fC bT.out); replace bO := Az (Kd.ci bO.out); replace fg := Az (Kd.ci fg.out); replace fh := Az (Kd.ci fh.out); replace br := Az (dk br.out); replace dA := Az (dk dA.out); replace HB := Az (aX HB.out); refine fX (n := 20) (S := fun w' => True) (ds := []) (bv 20 0) (by kernel_rfl) rfl rfl trivial (fun hHeld => ?_); refine gn cL.C2 cL.Do (fun HT_ HW_ => ?_); generalize w88.drew = w89 at aE bT bO fg fh br dA HB hHeld ⊢; refine ak (i := 0) (N := some 82) (v := ?_) (a' := ?_) (bv 20 1) rfl rfl (aj HT_.out (by kernel_rfl)) (fun _ _ _ h => h) (Or.inl ⟨by rfl, ?_⟩) ?_ ?_; rotate_left; (exact yP); rotate_left; (exact aP); refine ak (i := 1) (N := some 83) (v := ?_) (a' := ?_) (bv 20 3) rfl rfl (aj HT_.out (by kernel_rfl)) (fun _ _ _ h => h) (Or.inl ⟨by rfl, ?_⟩) ?_ ?_; rotate_left; (exact yP); rotate_left; (exact aP); refine ak (i := 2) (N := some 84) (v := undef) (a' := ?_) (bv 20 7) rfl rfl (aj HT_.out (by kernel_rfl)) (fun _ _ _ h => h) (Or.inr ⟨by rfl, rfl⟩) ?_ ?_; rotate_left; (exact aP); refine ak (i := 3) (N := some 85) (v := ?_) (a' := ?_) (bv 20 15) rfl rfl (aj HT_.out (by kernel_rfl)) (fun _ _ _ h => h) (Or.inl ⟨by rfl, ?_⟩) ?_ ?_; rotate_left; (exact yP); rotate_left; (exact aP); refine ak (i := 4) (N := some 86) (v := ?_) (a' := ?_) (bv 20 31) rfl rfl (aj HT_.out (by kernel_rfl)) (fun _ _ _ h => h) (Or.inl ⟨by rfl, ?_⟩) ?_ ?_; rotate_left; (exact yP); rotate_left; (exact aP); refine ak (i := 5) (N := some 87) (v := undef) (a' := ?_) (bv 20 63) rfl rfl (aj HT_.out (by kernel_rfl)) (fun _ _ _ h => h) (Or.inr ⟨by rfl, rfl⟩) ?_ ?_; rotate_left; (exact aP); refine ak (i := 6) (N := some 88) (v := undef) (a' := ?_) (bv 20 127) rfl rfl (aj HT_.out (by kernel_rfl)) (fun _ _ _ h => h) (Or.inr ⟨by rfl, rfl⟩) ?_ ?_; rotate_left; (exact aP); refine ak (i := 7) (N := some 89) (v := undef) (a' := ?_) (bv 20 255) rfl rfl (aj HT_.out (by kernel_rfl)) (fun _ _ _ h => h) (Or.inr ⟨by rfl, rfl⟩) ?_ ?_; rotate_left; (exact aP); refine ak (i := 8) (N := some 90) (v := undef) (a' := ?_) (bv 20 511) rfl rfl (aj HT_.out (by kernel_rfl)) (fun _ _ _ h => h) (Or.inr ⟨by rfl, rfl⟩) ?_ ?_; rotate_left; (exact aP); refine ak (i := 9) (N := some 91) (v := undef) (a' := ?_) (bv 20 1023) rfl rfl (aj HT_.out (by kernel_rfl)) (fun _ _ _ h => h) (Or.inr ⟨by rfl, rfl⟩) ?_ ?_; rotate_left; (exact aP); refine ak (i := 10) (N := some 92) (v := undef) (a' := ?_) (bv 20 2047) rfl rfl (aj HT_.out (by kernel_rfl)) (fun _ _ _ h => h) (Or.inr ⟨by rfl, rfl⟩) ?_ ?_; rotate_left; (exact aP); refine ak (i := 11) (N := some 93) (v := undef) (a' := ?_) (bv 20 4095) rfl rfl (aj HT_.out (by kernel_rfl)) (fun _ _ _ h => h) (Or.inr ⟨by rfl, rfl⟩) ?_ ?_; rotate_left; (exact aP); refine ak (i := 12) (N := some 94) (v := undef) (a' := ?_) (bv 20 8191) rfl rfl (aj HT_.out (by kernel_rfl)) (fun _ _ _ h => h) (Or.inr ⟨by rfl, rfl⟩) ?_ ?_; rotate_left; (exact aP); refine ak (i := 13) (N := some 95) (v := ?_) (a' := ?_) (bv 20 16383) rfl rfl (aj HT_.out (by kernel_rfl)) (fun _ _ _ h => h) (Or.inl ⟨by rfl, ?_⟩) ?_ ?_; rotate_left; (exact yP); rotate_left; (exact aP); refine ak (i := 14) (N := some 96) (v := ?_) (a' := ?_) (bv 20 32767) rfl rfl (aj HT_.out (by kernel_rfl)) (fun _ _ _ h => h) (Or.inl ⟨by rfl, ?_⟩) ?_ ?_; rotate_left; (exact yP); rotate_left; (exact aP); refine ak (i := 15) (N := some 97) (v := undef) (a' := ?_) (bv 20 65535) rfl rfl (aj HT_.out (by kernel_rfl)) (fun _ _ _ h => h) (Or.inr ⟨by rfl, rfl⟩) ?_ ?_; rotate_left; (exact aP); refine ak (i := 16) (N := some 98) (v := undef) (a' := ?_) (bv 20 131071) rfl rfl (aj HT_.out (by kernel_rfl)) (fun _ _ _ h => h) (Or.inr ⟨by rfl, rfl⟩) ?_ ?_; rotate_left; (exact aP); refine ak (i := 17) (N := some 99) (v := undef) (a' := ?_) (bv 20 262143) rfl rfl (aj HT_.out (by kernel_rfl)) (fun _ _ _ h => h) (Or.inr ⟨by rfl, rfl⟩) ?_ ?_; rotate_left; (exact aP); refine ak (i := 18) (N := some 100) (v := ?_) (a' := ?_) (bv 20 524287) rfl rfl (aj HT_.out (by kernel_rfl)) (fun _ _ _ h => h) (Or.inl ⟨by rfl, ?_⟩) ?_ ?_; rotate_left; (exact yP); rotate_left; (exact aP); refine ak (i := 19) (N := some 4) (v := ?_) (a' := ?_) (bv 20 1048575) rfl rfl (aj HT_.out (by kernel_rfl)) (fun _ _ _ h => h) (Or.inl ⟨by rfl, ?_⟩) ?_ ?_; rotate_left; (exact yP); rotate_left; (exact aP); refine fY (gp HT_.out (by kernel_rfl)) ?_
         try go_wp2
         go_ret; exact ⟨rE, bU2 HB.out jv.out qc.out⟩
def cL.Pure : Prop := ∀ (l0 : List Int) (l1 : List Int), l0.length ≤ maxLen → l0.length * 1 ≤ 140737488351232 → (∀ x ∈ l0, (Lit.int .u8 x).wf = true) → l1.length ≤ maxLen → l1.length * 1 ≤ 140737488351232 → (∀ x ∈ l1, (Lit.int .u8 x).wf = true) → ∃ k, cL.f k l0 l1 = some true
theorem cL.walk (P : cL.Pure) (a0 : Option Addr) (vk cap0 : Nat) (z0 : List Int) (a1 : Option Addr) (vl vm : Nat) (z1 : List Int) (w : World) (w0 : (a0 = none ∧ vk = 0 ∧ cap0 = 0 ∧ z0 = []) ∨ ∃ x, a0 = some x ∧ vk ≤ cap0 ∧ cap0 ≤ maxLen ∧ z0.length = cap0 ∧ (∀ i, i < z0.length → w.cell? (x.add i) = some (.int .u8 (z0.getD i 0))) ∧ ∀ n ∈ z0, (Lit.int .u8 n).wf = true) (y0 : vk * 1 ≤ 140737488351232) (w1 : (a1 = none ∧ vl = 0 ∧ vm = 0 ∧ z1 = []) ∨ ∃ x, a1 = some x ∧ vl ≤ vm ∧ vm ≤ maxLen ∧ z1.length = vm ∧ (∀ i, i < z1.length → w.cell? (x.add i) = some (.int .u8 (z1.getD i 0))) ∧ ∀ n ∈ z1, (Lit.int .u8 n).wf = true) (y1 : vl * 1 ≤ 140737488351232) :
  Calls Try.prog 10 #[.slice a0 vk cap0, .slice a1 vl vm] w fun e w' => e = .returned (.bool true) ∧ Below w.heap.size w w' := by
 obtain ⟨l0, rfl, hr0, hm0, hw0, hc0⟩ := jg.Qy w0; obtain ⟨l1, rfl, hr1, hm1, hw1, hc1⟩ := jg.Qy w1; obtain ⟨k, h⟩ := P l0 l1 hm0 y0 hw0 hm1 y1 hw1; refine (cL.calls k _ _ l0 _ _ l1 true w (Kd.Hf (d := (0 : Int)) (h1 := fun _ => rfl) hr0) hc0 (Kd.Hf (d := (0 : Int)) (h1 := fun _ => rfl) hr1) hc1 h).mono ?_; rintro e w' ⟨rfl, hd⟩; exact ⟨rfl, hd⟩
end Go.Proofs.Ytlpbalebodlipaa.PL

set_option linter.unusedVariables false
set_option linter.unusedSimpArgs false
namespace Go.Proofs.Ytlpbalebodlipaa.PL
open Go.RowKit Go.Proofs.YtlpbalebodlipaaW.PrintWords Go.Proofs.YtlpbalebodlipaaW.PrintLast Go.Proofs.YtlpbalebodlipaaW.PrintMore
theorem Ev.s {α : Type} {g : Nat → Option α} {r : α} (h : Ev (fun k => g (k + 1)) r) : Ev g r := Ev.step (fun _ => rfl) h
theorem Ev.const {α : Type} {o : Option α} {r : α} (h : o = some r) : Ev (fun _ => o) r := ⟨0, fun _ _ => h⟩
theorem Ev.uniq {α : Type} {g : Nat → Option α} {r r' : α} (h : Ev g r) (h' : Ev g r') : r = r' := by
  obtain ⟨K, h⟩ := h; obtain ⟨K', h'⟩ := h'; have h1 := h (max K K') (by omega); rw [h' (max K K') (by omega)] at h1; exact (Option.some.inj h1).symm
theorem w64 {x : Int} (h1 : -9223372036854775808 ≤ x) (h2 : x < 9223372036854775808) : wrap64 x = x := by unfold wrap64; omega
theorem eM {i : Nat} (h : i < 4611686018427387904) : wrap64 ((i : Int) + 1) = ((i + 1 : Nat) : Int) := by rw [w64 (by omega) (by omega)]; omega
theorem gU (l : List Int) (i : Nat) (h : i < l.length) : rd l (i : Int) = l[i] := by
  unfold rd
  rw [Int.toNat_natCast, List.getD_eq_getElem?_getD, List.getElem?_eq_getElem h]; rfl
def xI (l : List Int) (i : Nat) : Prop := 0 ≤ rd l i ∧ rd l i < l.length ∧ ∀ k : Nat, k < i → rd l k ≠ rd l i
def qg (l : List Int) : Prop := 1 ≤ l.length ∧ l.length ≤ 12 ∧ ∀ i : Nat, i < l.length → xI l i
theorem zx (a b c : Int) : j8.f a b c = some (decide (b ≤ a ∧ a ≤ c)) := by
  unfold j8.f
  by_cases h1 : a ≥ b
  · by_cases h2 : a ≤ c <;> simp [h1, h2]
  · simp [h1]
theorem OK (l : List Int) (hl : l.length ≤ 1048576) (i : Nat) (hi : i < l.length) : ∀ (d k : Nat), i - k = d → k ≤ i →
    ((∀ q : Nat, k ≤ q → q < i → rd l q ≠ rd l i) → ∀ r, Ev (fun z => fz.l0 z l ((i + 1 : Nat) : Int)) r → Ev (fun z => fz.l1 z l i k) r) ∧
    (¬ (∀ q : Nat, k ≤ q → q < i → rd l q ≠ rd l i) → Ev (fun z => fz.l1 z l i k) false)
  | 0, k, hd, hk => by
    refine ⟨fun _ r h => Ev.s ?_, fun h => absurd (fun q h1 h2 => by omega) h⟩; simp only [fz.l1, show ¬ (k : Int) < (i : Int) by omega, if_false]; rw [w64 (x := (i : Int) + 1) (by omega) (by omega), show ((i : Int) + 1) = ((i + 1 : Nat) : Int) by omega]; exact h
  | d + 1, k, hd, hk => by
    have ih := OK l hl i hi d (k + 1) (by omega) (by omega)
    have hw : wrap64 ((k : Int) + 1) = ((k + 1 : Nat) : Int) := by rw [w64 (by omega) (by omega)]; omega
    by_cases e : rd l k = rd l i
    · refine ⟨fun h => absurd e (h k (Nat.le_refl _) (by omega)), fun h => Ev.s ?_⟩
      simp only [fz.l1, show (k : Int) < (i : Int) by omega, show (0 : Int) ≤ k by omega, show (k : Int) < (l.length : Int) by omega, show (0 : Int) ≤ i by omega, show (i : Int) < (l.length : Int) by omega, e, if_true]; exact Ev.const rfl
    · refine ⟨fun h r hr => Ev.s ?_, fun h => Ev.s ?_⟩
      · simp only [fz.l1, show (k : Int) < (i : Int) by omega, show (0 : Int) ≤ k by omega, show (k : Int) < (l.length : Int) by omega, show (0 : Int) ≤ i by omega, show (i : Int) < (l.length : Int) by omega, e, if_true, if_false, hw]
        exact ih.1 (fun q h1 h2 => h q (by omega) h2) r hr
      · simp only [fz.l1, show (k : Int) < (i : Int) by omega, show (0 : Int) ≤ k by omega, show (k : Int) < (l.length : Int) by omega, show (0 : Int) ≤ i by omega, show (i : Int) < (l.length : Int) by omega, e, if_true, if_false, hw]
        refine ih.2 fun h' => h fun q h1 h2 => ?_
        by_cases eq : q = k
        · rw [eq]; exact e
        · exact h' q (by omega) h2
theorem OR (l : List Int) (hl : l.length ≤ 1048576) : ∀ (d i : Nat), l.length - i = d → i ≤ l.length →
    ((∀ q : Nat, i ≤ q → q < l.length → xI l q) → Ev (fun z => fz.l0 z l i) (decide (1 ≤ (l.length : Int) ∧ (l.length : Int) ≤ 12))) ∧
    (¬ (∀ q : Nat, i ≤ q → q < l.length → xI l q) → Ev (fun z => fz.l0 z l i) false)
  | 0, i, hd, hi => by
    refine ⟨fun _ => Ev.s ?_, fun h => absurd (fun q h1 h2 => by omega) h⟩; simp only [fz.l0, show ¬ (i : Int) < (l.length : Int) by omega, if_false, zx, Option.bind_some]; exact Ev.const rfl
  | d + 1, i, hd, hi => by
    have hlt : i < l.length := by omega
    have ih := OR l hl d (i + 1) (by omega) (by omega); have hin := OK l hl i hlt i 0 (by omega) (by omega); have hwl : wrap64 ((l.length : Int) - 1) = (l.length : Int) - 1 := w64 (by omega) (by omega)
    by_cases hr : 0 ≤ rd l i ∧ rd l i ≤ (l.length : Int) - 1
    · by_cases hn : ∀ q : Nat, 0 ≤ q → q < i → rd l q ≠ rd l i
      · refine ⟨fun h => Ev.s ?_, fun h => Ev.s ?_⟩
        · simp only [fz.l0, show (i : Int) < (l.length : Int) by omega, show (0 : Int) ≤ i by omega, if_true, zx, Option.bind_some, hwl, hr, decide_true, and_self]
          exact hin.1 hn _ (ih.1 fun q h1 h2 => h q (by omega) h2)
        · simp only [fz.l0, show (i : Int) < (l.length : Int) by omega, show (0 : Int) ≤ i by omega, if_true, zx, Option.bind_some, hwl, hr, decide_true, and_self]
          refine hin.1 hn _ (ih.2 fun h' => h fun q h1 h2 => ?_)
          by_cases e : q = i
          · rw [e]; exact ⟨hr.1, by omega, fun k hk => hn k (by omega) hk⟩
          · exact h' q (by omega) h2
      · refine ⟨fun h => absurd (fun q _ h2 => (h i (Nat.le_refl _) hlt).2.2 q h2) hn, fun h => Ev.s ?_⟩
        simp only [fz.l0, show (i : Int) < (l.length : Int) by omega, show (0 : Int) ≤ i by omega, if_true, zx, Option.bind_some, hwl, hr, decide_true, and_self]; exact hin.2 hn
    · refine ⟨fun h => absurd ⟨(h i (Nat.le_refl _) hlt).1, by have := (h i (Nat.le_refl _) hlt).2.1; omega⟩ hr, fun h => Ev.s ?_⟩
      simp only [fz.l0, show (i : Int) < (l.length : Int) by omega, show (0 : Int) ≤ i by omega, if_true, zx, Option.bind_some, hwl, hr, decide_false, Bool.false_eq_true, if_false]; exact Ev.const rfl
theorem Ha (l : List Int) (hl : l.length ≤ 12) : ∀ (d i : Nat) (s : List Bool), l.length - i = d → i ≤ l.length → s.length = 12 → (∀ v : Nat, v < 12 → (s.getD v false = true ↔ ∃ k : Nat, k < i ∧ rd l k = v)) →
    ((∀ q : Nat, i ≤ q → q < l.length → xI l q) → Ev (fun z => iI.l0 z l s i) true) ∧
    (¬ (∀ q : Nat, i ≤ q → q < l.length → xI l q) → Ev (fun z => iI.l0 z l s i) false)
  | 0, i, s, hd, hi, hs, hv => by
    refine ⟨fun _ => Ev.s ?_, fun h => absurd (fun q h1 h2 => by omega) h⟩; simp only [iI.l0, show ¬ (i : Int) < (l.length : Int) by omega, if_false]; exact Ev.const rfl
  | d + 1, i, s, hd, hi, hs, hv => by
    have hlt : i < l.length := by omega
    have hd1 : l.length - (i + 1) = d := by omega
    have hw : wrap64 ((i : Int) + 1) = ((i + 1 : Nat) : Int) := by rw [w64 (by omega) (by omega)]; omega
    by_cases h0 : rd l i < 0
    · refine ⟨fun h => absurd (h i (Nat.le_refl _) hlt).1 (by omega), fun h => Ev.s ?_⟩
      simp only [iI.l0, show (i : Int) < (l.length : Int) by omega, show (0 : Int) ≤ i by omega, h0, if_true]; exact Ev.const rfl
    · by_cases h1 : rd l i ≥ (l.length : Int)
      · refine ⟨fun h => absurd (h i (Nat.le_refl _) hlt).2.1 (by omega), fun h => Ev.s ?_⟩
        simp only [iI.l0, show (i : Int) < (l.length : Int) by omega, show (0 : Int) ≤ i by omega, h0, h1, if_true, if_false]; exact Ev.const rfl
      · have hvi := hv (rd l i).toNat (by omega)
        have hcast : (((rd l i).toNat : Nat) : Int) = rd l i := by omega
        rw [hcast] at hvi
        by_cases h2 : s.getD (rd l i).toNat false = true
        · obtain ⟨k, hk, hke⟩ := hvi.1 h2
          refine ⟨fun h => absurd hke ((h i (Nat.le_refl _) hlt).2.2 k hk), fun h => Ev.s ?_⟩; simp only [iI.l0, show (i : Int) < (l.length : Int) by omega, show (0 : Int) ≤ i by omega, h0, h1, h2, if_true, if_false]; exact Ev.const rfl
        · have hnew : ∀ k : Nat, k < i → rd l k ≠ rd l i := fun k hk e => h2 (hvi.2 ⟨k, hk, e⟩)
          have ih := Ha l hl d (i + 1) (s.set (rd l i).toNat true) hd1 hlt (by simpa using hs) (fun v ai3 => by
            by_cases ev : v = (rd l i).toNat
            · subst ev
              rw [List.getD_eq_getElem?_getD, List.getElem?_set_self (by omega)]; simp only [Option.getD_some, true_iff]; exact ⟨i, Nat.lt_succ_self i, hcast.symm⟩
            · rw [List.getD_eq_getElem?_getD, List.getElem?_set_ne (Ne.symm ev), ← List.getD_eq_getElem?_getD, hv v ai3]
              constructor
              · rintro ⟨k, hk, hke⟩; exact ⟨k, by omega, hke⟩
              · rintro ⟨k, hk, hke⟩
                by_cases e : k = i
                · subst e; omega
                · exact ⟨k, by omega, hke⟩)
          refine ⟨fun h => Ev.s ?_, fun h => Ev.s ?_⟩
          · simp only [iI.l0, show (i : Int) < (l.length : Int) by omega, show (0 : Int) ≤ i by omega, h0, h1, h2, if_true, if_false, hw]
            exact ih.1 fun q g1 g2 => h q (by omega) g2
          · simp only [iI.l0, show (i : Int) < (l.length : Int) by omega, show (0 : Int) ≤ i by omega, h0, h1, h2, if_true, if_false, hw]
            refine ih.2 fun h' => h fun q g1 g2 => ?_
            by_cases e : q = i
            · rw [e]; exact ⟨by omega, by omega, hnew⟩
            · exact h' q (by omega) g2
theorem CP (l : List Int) (hl : l.length ≤ 1048576) : ∃ b : Bool, Ev (fun k => fz.f k l) b ∧ Ev (fun k => iI.f k l) b ∧ (b = true ↔ qg l) := by
  unfold fz.f iI.f
  have hs := OR l hl l.length 0 (by omega) (by omega)
  by_cases hall : ∀ q : Nat, 0 ≤ q → q < l.length → xI l q
  · refine ⟨decide (1 ≤ (l.length : Int) ∧ (l.length : Int) ≤ 12), hs.1 hall, ?_, ?_⟩
    · by_cases h1 : (l.length : Int) < 1
      · simp only [h1, if_true]
        exact Ev.const (by congr 1; symm; rw [decide_eq_false_iff_not]; omega)
      · by_cases h2 : (l.length : Int) > 12
        · simp only [h1, h2, if_true, if_false]
          exact Ev.const (by congr 1; symm; rw [decide_eq_false_iff_not]; omega)
        · simp only [h1, h2, if_false]
          rw [decide_eq_true (by omega)]; refine (Ha l (by omega) l.length 0 _ (by omega) (by omega) (by simp) fun v hv => ?_).1 hall
          constructor
          · intro h
            rw [List.getD_eq_getElem?_getD, List.getElem?_replicate, if_pos hv] at h
            cases h
          · rintro ⟨k, hk, _⟩; omega
    · rw [decide_eq_true_eq]
      exact ⟨fun h => ⟨by omega, by omega, fun i hi => hall i (by omega) hi⟩, fun h => ⟨by have := h.1; omega, by have := h.2.1; omega⟩⟩
  · refine ⟨false, hs.2 hall, ?_, ?_⟩
    · by_cases h1 : (l.length : Int) < 1
      · simp only [h1, if_true]; exact Ev.const rfl
      · by_cases h2 : (l.length : Int) > 12
        · simp only [h1, h2, if_true, if_false]; exact Ev.const rfl
        · simp only [h1, h2, if_false]
          refine (Ha l (by omega) l.length 0 _ (by omega) (by omega) (by simp) fun v hv => ?_).2 hall
          constructor
          · intro h
            rw [List.getD_eq_getElem?_getD, List.getElem?_replicate, if_pos hv] at h
            cases h
          · rintro ⟨k, hk, _⟩; omega
    · exact ⟨fun h => (by cases h), fun h => absurd (fun q _ hq => h.2.2 q hq) hall⟩
def stl (n : Nat) : List Int := (List.range n).map fun (i : Nat) => (i : Int)
theorem xL (n : Nat) : (stl n).length = n := by simp [stl]
theorem CK (n i : Nat) (h : i < n) : rd (stl n) i = i := by
  rw [gU _ _ (by rw [xL]; exact h)]
  simp [stl]
theorem Z3 (n : Nat) : stl (n + 1) = stl n ++ [(n : Int)] := by simp [stl, List.range_succ]
theorem mg (l : List Int) (i : Nat) (v : Int) (h : i < l.length) : rd (l.set i v) i = v := by
  rw [gU _ _ (by simpa using h)]; simp
theorem lT (l : List Int) (i j : Nat) (v : Int) (h : i ≠ j) : rd (l.set i v) j = rd l j := by
  unfold rd
  rw [Int.toNat_natCast, List.getD_eq_getElem?_getD, List.getD_eq_getElem?_getD, List.getElem?_set_ne h]
theorem zJ (l m : List Int) (i : Nat) (h : i < l.length) : rd (l ++ m) i = rd l i := by
  unfold rd
  rw [Int.toNat_natCast, List.getD_eq_getElem?_getD, List.getD_eq_getElem?_getD, List.getElem?_append_left h]
theorem pB (a b : List Int) (h : a.length = b.length) (hr : ∀ i : Nat, i < a.length → rd a i = rd b i) : a = b := by
  refine List.ext_getElem h fun i h1 h2 => ?_
  have := hr i h1
  rwa [gU a i h1, gU b i h2] at this
theorem RA (n : Nat) (hn : n ≤ 1048576) : ∀ (d i : Nat), n - i = d → i ≤ n → Ev (fun k => mW.l0 k n (stl i) i) (stl n)
  | 0, i, hd, hi => by
    refine Ev.s ?_; simp only [mW.l0, show ¬ (i : Int) < (n : Int) by omega, if_false]
    have : i = n := by omega
    subst this; exact Ev.const rfl
  | d + 1, i, hd, hi => by
    refine Ev.s ?_; simp only [mW.l0, show (i : Int) < (n : Int) by omega, if_true, xL, show i < 17592186044416 by omega]; rw [w64 (x := (i : Int) + 1) (by omega) (by omega), show ((i : Int) + 1) = ((i + 1 : Nat) : Int) by omega, ← Z3]; exact RA n hn d (i + 1) (by omega) (by omega)
theorem Zt (n : Nat) (hn : n ≤ 1048576) : Ev (fun k => mW.f k n) (stl n) := by
  unfold mW.f
  exact RA n hn n 0 (by omega) (by omega)
theorem Sl (n : Nat) (hn : n ≤ 1048576) : ∀ (d i : Nat) (l : List Int), n - i = d → i ≤ n → l.length = n → l.take i = (stl n).take i → Ev (fun k => na.l0 k l n i) (stl n)
  | 0, i, l, hd, hi, hl, ht => by
    refine Ev.s ?_; simp only [na.l0, show ¬ (i : Int) < (n : Int) by omega, if_false]
    have : i = n := by omega
    subst this
    have e : (stl i).take i = stl i := by rw [List.take_of_length_le]; rw [xL]; exact Nat.le_refl _
    rw [e, List.take_of_length_le (by omega)] at ht; exact Ev.const (by rw [ht])
  | d + 1, i, l, hd, hi, hl, ht => by
    have hlt : i < l.length := by omega
    refine Ev.s ?_; simp only [na.l0, show (i : Int) < (n : Int) by omega, show (0 : Int) ≤ i by omega, show (i : Int) < (l.length : Int) by omega, if_true]; rw [w64 (x := (i : Int) + 1) (by omega) (by omega), show ((i : Int) + 1) = ((i + 1 : Nat) : Int) by omega, Int.toNat_natCast]; refine Sl n hn d (i + 1) _ (by omega) (by omega) (by simpa using hl) ?_
    have h2 : i < (stl n).length := by rw [xL]; omega
    rw [List.take_succ_eq_append_getElem (by simpa using hlt), List.take_succ_eq_append_getElem h2, List.take_set_of_le (Nat.le_refl _), ht]
    simp [stl]
theorem Y8 (n : Nat) (hn : n ≤ 1048576) : Ev (fun k => na.f k n) (stl n) := by
  unfold na.f
  have h1 : n ≤ 35184372088832 := by omega
  have h2 : (0 : Int) ≤ (n : Int) := by omega
  simp only [Int.toNat_natCast, h1, h2, if_true, Option.bind_some, List.length_replicate]; exact Sl n hn n 0 _ (by omega) (by omega) (by simp) (by simp)
def inR (n : Nat) (p : List Int) : Prop := p.length = n ∧ ∀ i : Nat, i < n → 0 ≤ rd p i ∧ rd p i < n
def qf (ps : List (List Int)) (n : Nat) (S : Nat → Prop) : Prop := ∀ p ∈ ps, ∀ k, k < n → (S k ↔ S (rd p k).toNat)
def Reach (ps : List (List Int)) (n : Nat) (i j : Nat) : Prop := ∀ S, qf ps n S → (S i ↔ S j)
theorem Reach.refl (ps : List (List Int)) (n i : Nat) : Reach ps n i i := fun S _ => Iff.rfl
theorem Reach.symm {ps : List (List Int)} {n i j : Nat} (h : Reach ps n i j) : Reach ps n j i := fun S c => (h S c).symm
theorem Reach.trans {ps : List (List Int)} {n i j k : Nat} (h : Reach ps n i j) (h' : Reach ps n j k) : Reach ps n i k := fun S c => (h S c).trans (h' S c)
theorem Reach.step {ps : List (List Int)} {n : Nat} {p : List Int} (hp : p ∈ ps) {k : Nat} (hk : k < n) : Reach ps n k (rd p k).toNat := fun S c => c p hp k hk
def oK (ps : List (List Int)) (n : Nat) (o : List Int) : Prop := o.length = n ∧ ∀ i : Nat, i < n → 0 ≤ rd o i ∧ rd o i ≤ i ∧ Reach ps n (rd o i).toNat i
def tP (ps : List (List Int)) (n : Nat) (o : List Int) : Prop := oK ps n o ∧ ∀ p ∈ ps, ∀ i : Nat, i < n → rd o (rd p i) = rd o i
theorem Qg (ps : List (List Int)) (n : Nat) : oK ps n (stl n) := by
  refine ⟨xL n, fun i hi => ?_⟩; rw [CK n i hi]; exact ⟨by omega, by omega, by rw [Int.toNat_natCast]; exact Reach.refl _ _ _⟩
theorem HV {ps : List (List Int)} {n : Nat} {o : List Int} (h : tP ps n o) (hp : ∀ p ∈ ps, inR n p) {i j : Nat} (hr : Reach ps n i j) : rd o i = rd o j := by
  have := hr (fun k => rd o k = rd o i) (fun p hp' k hk => by
    have h1 := h.2 p hp' k hk; have h2 := (hp p hp').2 k hk
    have e : (((rd p k).toNat : Nat) : Int) = rd p k := by omega
    show (rd o k = rd o i) ↔ (rd o (((rd p k).toNat : Nat) : Int) = rd o i)
    rw [e, h1])
  exact (this.1 rfl).symm
theorem xw {ps : List (List Int)} {n : Nat} {o o' : List Int} (h : tP ps n o) (h' : oK ps n o') (hp : ∀ p ∈ ps, inR n p) {i : Nat} (hi : i < n) : rd o i ≤ rd o' i := by
  obtain ⟨g0, g1, g2⟩ := h'.2 i hi; have e := HV h hp g2
  have hlt : (rd o' i).toNat < n := by omega
  have := (h.1.2 _ hlt).2.1
  have e2 : (((rd o' i).toNat : Nat) : Int) = rd o' i := by omega
  omega
theorem GT (a b : Int) : mn a b ≤ a ∧ mn a b ≤ b ∧ (mn a b = a ∨ mn a b = b) := by unfold mn; split <;> omega
theorem zu {ps : List (List Int)} {n : Nat} {o : List Int} (h : oK ps n o) {i : Nat} (hi : i < n) {v : Int} (h0 : 0 ≤ v) (h1 : v ≤ i) (hr : Reach ps n v.toNat i) : oK ps n (o.set i v) := by
  refine ⟨by simpa using h.1, fun j hj => ?_⟩
  by_cases e : i = j
  · subst e
    rw [mg _ _ _ (by rw [h.1]; exact hi)]; exact ⟨h0, h1, hr⟩
  · rw [lT _ _ _ _ e]
    exact h.2 j hj
def tot : List Int → Int
  | [] => 0
  | x :: xs => x + tot xs
theorem Hb : ∀ (l : List Int) (i : Nat) (v : Int), i < l.length → tot (l.set i v) + rd l i = tot l + v
  | [], i, v, h => by simp at h
  | x :: xs, 0, v, h => by simp [tot, rd]; omega
  | x :: xs, i + 1, v, h => by
    have ih := Hb xs i v (by simpa using h)
    have e : rd (x :: xs) ((i + 1 : Nat) : Int) = rd xs i := by unfold rd; rw [Int.toNat_natCast, Int.toNat_natCast]; rfl
    rw [e]; simp only [List.set_cons_succ, tot]; omega
theorem GI : ∀ (l : List Int), (∀ i : Nat, i < l.length → 0 ≤ rd l i) → 0 ≤ tot l
  | [], _ => by simp [tot]
  | x :: xs, h => by
    have h0 := h 0 (by simp); have e0 : rd (x :: xs) ((0 : Nat) : Int) = x := rfl; rw [e0] at h0
    have := GI xs fun i hi => by
      have := h (i + 1) (by simpa using hi)
      have e : rd (x :: xs) ((i + 1 : Nat) : Int) = rd xs i := by unfold rd; rw [Int.toNat_natCast, Int.toNat_natCast]; rfl
      rwa [e] at this
    simp only [tot]; omega
theorem yc (ps : List (List Int)) (q : Nat) (h : q < ps.length) : dp ps (q : Int) = ps[q] := by
  have e : (q : Int).toNat = q := Int.toNat_natCast q
  unfold dp
  rw [e, List.getD_eq_getElem?_getD, List.getElem?_eq_getElem h]; rfl
theorem GN (ps : List (List Int)) (n : Nat) (hn : n ≤ 12) (q : Nat) (hq : q < ps.length) (hL : ps.length ≤ 1048576) (P : List Int) (hP : P ∈ ps) (pl : P.length = n) (pr : ∀ i : Nat, i < n → 0 ≤ rd P i ∧ rd P i < n) : ∀ (d i : Nat) (o : List Int) (g : Bool), n - i = d → i ≤ n → oK ps n o →
    ∃ (o' : List Int) (g' : Bool), oK ps n o' ∧ (∀ r, Ev (fun k => eU.l1 k ps o' g' ps ps.length ((q + 1 : Nat) : Int)) r → Ev (fun k => eU.l2 k ps o g ps ps.length q P n i) r) ∧ tot o' ≤ tot o ∧
      (g' = true → g = true ∨ tot o' < tot o) ∧ (g' = false → g = false ∧ o' = o ∧ ∀ j : Nat, i ≤ j → j < n → rd o (rd P j) = rd o j)
  | 0, i, o, g, hd, hi, ho => by
    refine ⟨o, g, ho, fun r h => Ev.s ?_, by omega, fun h => .inl h, fun h => ⟨h, rfl, fun j h1 h2 => by omega⟩⟩; simp only [eU.l2, show ¬ (i : Int) < (n : Int) by omega, if_false]; rw [w64 (x := (q : Int) + 1) (by omega) (by omega), show ((q : Int) + 1) = ((q + 1 : Nat) : Int) by omega]; exact h
  | d + 1, i, o, g, hd, hi, ho => by
    have hlt : i < n := by omega
    have hd1 : n - (i + 1) = d := by omega
    have hw : wrap64 ((i : Int) + 1) = ((i + 1 : Nat) : Int) := by rw [w64 (by omega) (by omega)]; omega
    have hr := pr i hlt; have hst := Reach.step hP hlt; have hlen := ho.1; obtain ⟨t, ht⟩ : ∃ t : Nat, rd P i = t := ⟨(rd P i).toNat, by omega⟩; rw [ht, Int.toNat_natCast] at hst
    have htn : t < n := by omega
    obtain ⟨i0, i1, i2⟩ := ho.2 i hlt; obtain ⟨t0, t1, t2⟩ := ho.2 t htn; obtain ⟨hm1, hm2, XD⟩ := GT (rd o i) (rd o t)
    have g1 : (i : Int) < (n : Int) := by omega
    have g2 : (0 : Int) ≤ (i : Int) := by omega
    have g3 : (0 : Int) ≤ (t : Int) := by omega
    have g4 : (t : Int) < (n : Int) := by omega
    obtain ⟨v, hv⟩ : ∃ v, mn (rd o i) (rd o t) = v := ⟨_, rfl⟩; rw [hv] at hm1 hm2 XD
    by_cases hc : rd o i = v ∧ rd o t = v
    · obtain ⟨c1, c2⟩ := hc
      obtain ⟨o', g', a1, a2, a3, a4, a5⟩ := GN ps n hn q hq hL P hP pl pr d (i + 1) o g hd1 hlt ho; refine ⟨o', g', a1, fun r h => Ev.s ?_, a3, a4, fun h => ?_⟩
      · simp only [eU.l2, g1, g2, g3, g4, pl, hlen, ht, hv, if_true, hw]
        simp only [c1, c2, if_true]; exact a2 r h
      · obtain ⟨b1, b2, b3⟩ := a5 h
        refine ⟨b1, b2, fun j h1 h2 => ?_⟩
        by_cases e : j = i
        · rw [e, ht]; omega
        · exact b3 j (by omega) h2
    · have hv0 : 0 ≤ v := by omega
      have hrv : Reach ps n v.toNat i := by
        rcases XD with e | e
        · rw [e]; exact i2
        · rw [e]; exact t2.trans hst.symm
      have ho1 := zu ho hlt hv0 (by omega) hrv; have ho2 := zu ho1 htn hv0 (by omega) (hrv.trans hst)
      have hd2 : tot ((o.set i v).set t v) < tot o := by
        have z1 := Hb o i v (by omega); have z2 := Hb (o.set i v) t v (by rw [List.length_set]; omega)
        by_cases e : i = t
        · subst e
          rw [mg _ _ _ (by omega)] at z2; omega
        · rw [lT _ _ _ _ e] at z2
          omega
      obtain ⟨o', g', a1, a2, a3, a4, a5⟩ := GN ps n hn q hq hL P hP pl pr d (i + 1) ((o.set i v).set t v) true hd1 hlt ho2; refine ⟨o', g', a1, fun r h => Ev.s ?_, by omega, fun h => .inr (by omega), fun h => ?_⟩
      · have hgo := a2 r h
        by_cases c1 : rd o i = v
        · have c2 : ¬ rd o t = v := fun e => hc ⟨c1, e⟩
          simp only [eU.l2, g1, g2, g3, g4, pl, hlen, ht, hv, if_true, hw, Int.toNat_natCast]; simp only [c1, c2, if_true, if_false]; exact hgo
        · simp only [eU.l2, g1, g2, g3, g4, pl, hlen, ht, hv, if_true, hw, Int.toNat_natCast]
          simp only [c1, if_false]; exact hgo
      · have := (a5 h).1
        cases this
theorem OB (ps : List (List Int)) (n : Nat) (hn : n ≤ 12) (hL : ps.length ≤ 1048576) (hp : ∀ p ∈ ps, inR n p) : ∀ (d q : Nat) (o : List Int) (g : Bool), ps.length - q = d → q ≤ ps.length → oK ps n o →
    ∃ (o' : List Int) (g' : Bool), oK ps n o' ∧ (∀ r, Ev (fun k => eU.l0 k ps o' g') r → Ev (fun k => eU.l1 k ps o g ps ps.length q) r) ∧ tot o' ≤ tot o ∧
      (g' = true → g = true ∨ tot o' < tot o) ∧ (g' = false → g = false ∧ o' = o ∧ ∀ z : Nat, q ≤ z → z < ps.length → ∀ j : Nat, j < n → rd o (rd (dp ps z) j) = rd o j)
  | 0, q, o, g, hd, hi, ho => by
    refine ⟨o, g, ho, fun r h => Ev.s ?_, by omega, fun h => .inl h, fun h => ⟨h, rfl, fun j h1 h2 => by omega⟩⟩; simp only [eU.l1, show ¬ (q : Int) < (ps.length : Int) by omega, if_false]; exact h
  | d + 1, q, o, g, hd, hi, ho => by
    have hlt : q < ps.length := by omega
    have hd1 : ps.length - (q + 1) = d := by omega
    have hP : dp ps q ∈ ps := by rw [yc ps q hlt]; exact List.getElem_mem hlt
    obtain ⟨pl, pr⟩ := hp _ hP; obtain ⟨o1, b1, c1, c2, c3, c4, c5⟩ := GN ps n hn q hlt hL _ hP pl pr n 0 o g (by omega) (by omega) ho; obtain ⟨o2, b2, e1, e2, e3, e4, e5⟩ := OB ps n hn hL hp d (q + 1) o1 b1 hd1 hlt c1; refine ⟨o2, b2, e1, fun r h => Ev.s ?_, by omega, fun h => ?_, fun h => ?_⟩
    · simp only [eU.l1, show (q : Int) < (ps.length : Int) by omega, show (0 : Int) ≤ (q : Int) by omega, if_true, pl]
      exact c2 r (e2 r h)
    · rcases e4 h with z | z
      · rcases c4 z with y | y
        · exact .inl y
        · exact .inr (by omega)
      · exact .inr (by omega)
    · obtain ⟨f1, f2, f3⟩ := e5 h
      obtain ⟨g1, g2, g3⟩ := c5 f1; refine ⟨g1, f2.trans g2, fun z hz hz' j hj => ?_⟩
      by_cases e : z = q
      · rw [e]; exact g3 j (by omega) hj
      · have := f3 z (by omega) hz' j hj
        rwa [g2] at this
theorem YJ (ps : List (List Int)) (n : Nat) (hn : n ≤ 12) (hL : ps.length ≤ 1048576) (hp : ∀ p ∈ ps, inR n p) : ∀ (m : Nat) (o : List Int), tot o ≤ m → oK ps n o → ∃ o', tP ps n o' ∧ Ev (fun k => eU.l0 k ps o true) o' := by
  intro m
  induction m using Nat.strongRecOn with
  | _ m ih =>
    intro o hm ho; obtain ⟨o1, g1, c1, c2, c3, c4, c5⟩ := OB ps n hn hL hp ps.length 0 o false (by omega) (by omega) ho
    cases g1 with
    | false =>
      obtain ⟨_, e2, e3⟩ := c5 rfl; refine ⟨o, ⟨ho, fun p hp' i hi => ?_⟩, Ev.s ?_⟩
      · obtain ⟨z, hz, rfl⟩ := List.mem_iff_getElem.1 hp'
        have := e3 z (by omega) hz i hi
        rwa [yc ps z hz] at this
      · simp only [eU.l0, if_true]
        refine c2 o (Ev.s ?_); simp only [eU.l0, Bool.false_eq_true, if_false]; exact Ev.const (by rw [e2])
    | true =>
      have hlt : tot o1 < tot o := by
        rcases c4 rfl with z | z
        · cases z
        · exact z
      have h0 := GI o1 fun i hi => (c1.2 i (by rw [← c1.1]; exact hi)).1
      obtain ⟨o', h1, h2⟩ := ih (tot o1).toNat (by omega) o1 (by omega) c1; refine ⟨o', h1, Ev.s ?_⟩; simp only [eU.l0, if_true]; exact c2 o' h2
theorem aaz (ps : List (List Int)) (n : Nat) (hn : n ≤ 12) (h0 : 0 < ps.length) (hL : ps.length ≤ 1048576) (hp : ∀ p ∈ ps, inR n p) : ∃ o, tP ps n o ∧ Ev (fun k => eU.f k ps) o := by
  obtain ⟨o, h1, h2⟩ := YJ ps n hn hL hp (tot (stl n)).toNat (stl n) (by have := GI (stl n) (fun i hi => by rw [CK n i (by rwa [xL] at hi)]; omega); omega) (Qg ps n); refine ⟨o, h1, ?_⟩
  unfold eU.f
  have hz : (dp ps 0).length = n := by
    have := yc ps 0 h0; rw [show ((0 : Nat) : Int) = 0 from rfl] at this; rw [this]; exact (hp _ (List.getElem_mem h0)).1
  simp only [show (0 : Int) < (ps.length : Int) by omega, if_true, hz]; exact Ev.bind (Y8 n (by omega)) h2
def lag (o g : List Int) : Nat → Nat
  | 0 => 0
  | i + 1 => (if rd o i = rd g i then 0 else 1) + lag o g i
theorem GH (o g : List Int) : ∀ i, lag o g i ≤ i
  | 0 => Nat.le_refl _
  | i + 1 => by have := GH o g i; simp only [lag]; split <;> omega
theorem CI (o g : List Int) : ∀ n, lag o g n = 0 → ∀ i, i < n → rd o i = rd g i
  | 0, _, i, h => by omega
  | n + 1, hz, i, h => by
    simp only [lag] at hz
    by_cases e : i = n
    · subst e
      by_cases c : rd o i = rd g i
      · exact c
      · rw [if_neg c] at hz; omega
    · exact CI o g n (by omega) i (by omega)
theorem CQ (o o' g : List Int) (h : ∀ i : Nat, rd o i = rd g i → rd o' i = rd g i) : ∀ n, lag o' g n ≤ lag o g n
  | 0 => Nat.le_refl _
  | n + 1 => by
    have ih := CQ o o' g h n; simp only [lag]
    by_cases c : rd o n = rd g n
    · rw [if_pos c, if_pos (h n c)]; omega
    · rw [if_neg c]; split <;> omega
theorem CU (o o' g : List Int) (h : ∀ i : Nat, rd o i = rd g i → rd o' i = rd g i) (z : Nat) (hz : rd o z ≠ rd g z) (hz' : rd o' z = rd g z) : ∀ n, z < n → lag o' g n < lag o g n
  | 0, hn => by omega
  | n + 1, hn => by
    simp only [lag]
    by_cases e : z = n
    · subst e
      have := CQ o o' g h z; rw [if_neg hz, if_pos hz']; omega
    · have ih := CU o o' g h z hz hz' n (by omega)
      by_cases c : rd o n = rd g n
      · rw [if_pos c, if_pos (h n c)]; omega
      · rw [if_neg c]; split <;> omega
theorem Qk (a b : Int) : mn a b = if a ≤ b then a else b := by unfold mn; split <;> split <;> omega
theorem PY (t f : List Int) (n : Nat) (hn : n ≤ 12) (ht : inR n t) (hf : inR n f) (g : List Int) (hg : tP [t, f] n g) (round : Int) : ∀ (d i : Nat) (o : List Int), n - i = d → i ≤ n → oK [t, f] n o →
    ∃ o', oK [t, f] n o' ∧ (∀ r, Ev (fun k => hU.l0 k t f o' (wrap64 (round + 1))) r → Ev (fun k => hU.l1 k t f o round i) r) ∧ (∀ z : Nat, z < n → rd o z = rd g z → rd o' z = rd g z) ∧
      (∀ j : Nat, i ≤ j → j < n → (rd o j = rd g j ∨ rd o (rd t j) = rd g (rd t j) ∨ rd o (rd f j) = rd g (rd f j)) → rd o' j = rd g j ∧ rd o' (rd t j) = rd g (rd t j) ∧ rd o' (rd f j) = rd g (rd f j))
  | 0, i, o, hd, hi, ho => by
    refine ⟨o, ho, fun r h => Ev.s ?_, fun z _ h => h, fun j h1 h2 => by omega⟩; simp only [hU.l1, ht.1, show ¬ (i : Int) < (n : Int) by omega, if_false]; exact h
  | d + 1, i, o, hd, hi, ho => by
    have hlt : i < n := by omega
    have hd1 : n - (i + 1) = d := by omega
    have hw : wrap64 ((i : Int) + 1) = ((i + 1 : Nat) : Int) := by rw [w64 (by omega) (by omega)]; omega
    have hps : ∀ p ∈ [t, f], inR n p := by intro p hp; simp at hp; rcases hp with rfl | rfl <;> assumption
    have hra := ht.2 i hlt; have hrb := hf.2 i hlt; have sta := Reach.step (ps := [t, f]) (p := t) (by simp) hlt; have stb := Reach.step (ps := [t, f]) (p := f) (by simp) hlt; have ca := hg.2 t (by simp) i hlt; have cb := hg.2 f (by simp) i hlt; obtain ⟨a, hta⟩ : ∃ a : Nat, rd t i = a := ⟨(rd t i).toNat, by omega⟩; obtain ⟨b, hfb⟩ : ∃ b : Nat, rd f i = b := ⟨(rd f i).toNat, by omega⟩; rw [hta, Int.toNat_natCast] at sta; rw [hfb, Int.toNat_natCast] at stb; rw [hta] at ca; rw [hfb] at cb
    have han : a < n := by omega
    have hbn : b < n := by omega
    have hlen := ho.1; obtain ⟨i0, i1, i2⟩ := ho.2 i hlt; obtain ⟨a0, a1, a2⟩ := ho.2 a han; obtain ⟨b0, b1, b2⟩ := ho.2 b hbn; have li := xw hg ho hps hlt; have la := xw hg ho hps han; have lb := xw hg ho hps hbn; obtain ⟨v, hv⟩ : ∃ v, mn (rd o i) (mn (rd o a) (rd o b)) = v := ⟨_, rfl⟩
    have hvm : v ≤ rd o i ∧ v ≤ rd o a ∧ v ≤ rd o b ∧ (v = rd o i ∨ v = rd o a ∨ v = rd o b) := by
      rw [← hv, Qk, Qk]
      split <;> split at * <;> omega
    have hv0 : 0 ≤ v := by omega
    have hrv : Reach [t, f] n v.toNat i := by
      rcases hvm.2.2.2 with e | e | e
      · rw [e]; exact i2
      · rw [e]; exact a2.trans sta.symm
      · rw [e]; exact b2.trans stb.symm
    have ho1 := zu ho hlt hv0 (by omega) hrv; have ho2 := zu ho1 han hv0 (by omega) (hrv.trans sta); have ho3 := zu ho2 hbn hv0 (by omega) (hrv.trans stb); obtain ⟨o3, N1⟩ : ∃ o3, ((o.set i v).set a v).set b v = o3 := ⟨_, rfl⟩; rw [N1] at ho3
    have Gy : ∀ z : Nat, rd o3 z = if z = i ∨ z = a ∨ z = b then v else rd o z := by
      intro z; rw [← N1]
      by_cases z3 : b = z
      · subst z3; rw [mg _ _ _ (by simp; omega)]; simp
      · rw [lT _ _ _ _ z3]
        by_cases z2 : a = z
        · subst z2; rw [mg _ _ _ (by simp; omega)]; simp
        · rw [lT _ _ _ _ z2]
          by_cases z1 : i = z
          · subst z1; rw [mg _ _ _ (by omega)]; simp
          · rw [lT _ _ _ _ z1, if_neg (by omega)]
    have Gz : ∀ z : Nat, z < n → rd o z = rd g z → rd o3 z = rd g z := by
      intro z hz e; have l3 := xw hg ho3 hps hz; rw [Gy z] at l3 ⊢
      by_cases c : z = i ∨ z = a ∨ z = b
      · rw [if_pos c] at l3 ⊢
        have : v ≤ rd o z := by rcases c with rfl | rfl | rfl <;> omega
        omega
      · rw [if_neg c]; exact e
    obtain ⟨o', c1, c2, c3, c4⟩ := PY t f n hn ht hf g hg round d (i + 1) o3 hd1 hlt ho3; refine ⟨o', c1, fun r h => Ev.s ?_, fun z hz e => c3 z hz (Gz z hz e), fun j h1 h2 hj => ?_⟩
    · have hgo := c2 r h
      have g1 : (i : Int) < (n : Int) := by omega
      have g2 : (0 : Int) ≤ (i : Int) := by omega
      have g3 : (0 : Int) ≤ (a : Int) := by omega
      have g4 : (a : Int) < (n : Int) := by omega
      have g5 : (0 : Int) ≤ (b : Int) := by omega
      have g6 : (b : Int) < (n : Int) := by omega
      simp only [hU.l1, ht.1, hf.1, hlen, g1, g2, g3, g4, g5, g6, hta, hfb, hv, if_true, hw, Int.toNat_natCast, N1]; exact hgo
    · by_cases e : j = i
      · subst e
        have l3 := xw hg ho3 hps hlt
        have e3 : rd o3 j = v := by rw [Gy j, if_pos (.inl rfl)]
        have ea3 : rd o3 a = v := by rw [Gy a, if_pos (.inr (.inl rfl))]
        have eb3 : rd o3 b = v := by rw [Gy b, if_pos (.inr (.inr rfl))]
        rw [hta, hfb] at hj ⊢
        have hvg : v = rd g j := by
          rcases hj with z | z | z <;> omega
        exact ⟨c3 j hlt (by omega), c3 a han (by omega), c3 b hbn (by omega)⟩
      · refine c4 j (by omega) h2 ?_
        have hta' := ht.2 j h2; have hfb' := hf.2 j h2; obtain ⟨a', ha'⟩ : ∃ a' : Nat, rd t j = a' := ⟨(rd t j).toNat, by omega⟩; obtain ⟨b', hb'⟩ : ∃ b' : Nat, rd f j = b' := ⟨(rd f j).toNat, by omega⟩; rw [ha', hb'] at hj ⊢
        rcases hj with z | z | z
        · exact .inl (Gz j h2 z)
        · exact .inr (.inl (Gz a' (by omega) z))
        · exact .inr (.inr (Gz b' (by omega) z))
theorem QZ (t f : List Int) (n : Nat) (hn : n ≤ 12) (ht : inR n t) (hf : inR n f) (g : List Int) (hg : tP [t, f] n g) : ∀ (d i : Nat) (o : List Int), n - i = d → i ≤ n → oK [t, f] n o → lag o g n ≤ d → Ev (fun k => hU.l0 k t f o i) g
  | 0, i, o, hd, hi, ho, hl => by
    refine Ev.s ?_; simp only [hU.l0, ht.1, show ¬ (i : Int) < (n : Int) by omega, if_false]
    have : o = g := pB o g (ho.1.trans hg.1.1.symm) fun z hz => CI o g n (by omega) z (by rw [← ho.1]; exact hz)
    exact Ev.const (by rw [this])
  | d + 1, i, o, hd, hi, ho, hl => by
    have hlt : i < n := by omega
    have hd1 : n - (i + 1) = d := by omega
    have hw : wrap64 ((i : Int) + 1) = ((i + 1 : Nat) : Int) := by rw [w64 (by omega) (by omega)]; omega
    have hps : ∀ p ∈ [t, f], inR n p := by intro p hp; simp at hp; rcases hp with rfl | rfl <;> assumption
    obtain ⟨o', c1, c2, c3, c4⟩ := PY t f n hn ht hf g hg i n 0 o (by omega) (by omega) ho; refine Ev.s ?_; simp only [hU.l0, ht.1, show (i : Int) < (n : Int) by omega, if_true]; refine c2 g ?_; rw [hw]; refine QZ t f n hn ht hf g hg d (i + 1) o' hd1 hlt c1 ?_
    have hout : ∀ z : Nat, ¬ z < n → rd o z = rd o' z := by
      intro z hz
      unfold rd
      rw [Int.toNat_natCast, List.getD_eq_getElem?_getD, List.getD_eq_getElem?_getD, List.getElem?_eq_none (by rw [ho.1]; omega), List.getElem?_eq_none (by rw [c1.1]; omega)]
    have keep : ∀ z : Nat, rd o z = rd g z → rd o' z = rd g z := fun z e => by
      by_cases hz : z < n
      · exact c3 z hz e
      · rw [← hout z hz]; exact e
    by_cases hz : lag o g n = 0
    · have := CQ o o' g keep n
      omega
    · -- some point has not its label: some step leads from one that has it to one that has it not
      have hex : ∃ z : Nat, z < n ∧ rd o z ≠ rd g z ∧ rd o' z = rd g z := by
        refine Classical.byContradiction fun hno => ?_
        have hsame : ∀ z : Nat, z < n → (rd o z = rd g z ↔ rd o' z = rd g z) := fun z hz => ⟨keep z, fun e => Classical.byContradiction fun hne => hno ⟨z, hz, hne, e⟩⟩
        have hcl : qf [t, f] n (fun z => rd o z = rd g z) := by
          intro p hp k hk; have hr := (hps p hp).2 k hk; obtain ⟨a, ha⟩ : ∃ a : Nat, rd p k = a := ⟨(rd p k).toNat, by omega⟩
          have han : a < n := by omega
          rw [ha, Int.toNat_natCast]
          show rd o k = rd g k ↔ rd o a = rd g a
          have h4 := c4 k (by omega) hk
          simp at hp
          rcases hp with rfl | rfl
          · rw [ha] at h4
            exact ⟨fun e => (hsame a han).2 (h4 (.inl e)).2.1, fun e => (hsame k hk).2 (h4 (.inr (.inl e))).1⟩
          · rw [ha] at h4
            exact ⟨fun e => (hsame a han).2 (h4 (.inl e)).2.2, fun e => (hsame k hk).2 (h4 (.inr (.inr e))).1⟩
        have hall : ∀ z : Nat, z < n → rd o z = rd g z := by
          intro z hz; obtain ⟨g0, g1, g2⟩ := hg.1.2 z hz
          have hm : (rd g z).toNat < n := by omega
          have e1 : ((rd g z).toNat : Int) = rd g z := by omega
          have hgm : rd g ((rd g z).toNat : Nat) = rd g z := HV hg hps g2
          have hom : rd o ((rd g z).toNat : Nat) = rd g ((rd g z).toNat : Nat) := by
            have h1 := xw hg ho hps hm; have h2 := (ho.2 _ hm).2.1; omega
          exact (g2 _ hcl).1 hom
        have : lag o g n = 0 := by
          have hz0 : ∀ m, m ≤ n → lag o g m = 0 := by
            intro m
            induction m with
            | zero => intro _; rfl
            | succ m ih => intro hm; simp only [lag]; rw [if_pos (hall m (by omega)), ih (by omega)]
          exact hz0 n (Nat.le_refl _)
        exact hz this
      obtain ⟨z, z1, z2, z3⟩ := hex; have := CU o o' g keep z z2 z3 n z1; omega
theorem Og (t f : List Int) (n : Nat) (hn : n ≤ 12) (h1 : 1 ≤ n) (ht : inR n t) (hf : inR n f) : ∃ o, tP [t, f] n o ∧ Ev (fun k => hU.f k t f) o ∧ Ev (fun k => eU.f k [t, f]) o := by
  have hps : ∀ p ∈ [t, f], inR n p := by intro p hp; simp at hp; rcases hp with rfl | rfl <;> assumption
  obtain ⟨o, ho, he⟩ := aaz [t, f] n hn (by simp) (by simp) hps; refine ⟨o, ho, ?_, he⟩
  unfold hU.f
  rw [ht.1]; refine Ev.bind (Zt n (by omega)) ?_; refine QZ t f n hn ht hf o ho n 0 (stl n) (by omega) (by omega) (Qg _ n) ?_; exact GH _ _ n
theorem nJ (l : List Int) (h : qg l) : inR l.length l := ⟨rfl, fun i hi => ⟨(h.2.2 i hi).1, (h.2.2 i hi).2.1⟩⟩
def jw (f : List Int) (i : Nat) : Prop := rd f i ≠ i ∧ rd f (rd f i) = i
def isMap (t f : List Int) : Prop := qg t ∧ qg f ∧ t.length = f.length ∧ (∀ i : Nat, i < f.length → jw f i) ∧ ∀ i j : Nat, i < f.length → j < f.length → Reach [t, f] f.length i j
def vO : List Int → Int → Int
  | [], m => m
  | x :: xs, m => vO xs (mx m x)
theorem Qh : ∀ (l : List Int) (m : Int), 0 ≤ m → (∀ x ∈ l, 0 ≤ x) → 0 ≤ vO l m ∧ (vO l m = 0 ↔ m = 0 ∧ ∀ x ∈ l, x = 0)
  | [], m, hm, _ => by simp [vO, hm]
  | x :: xs, m, hm, hx => by
    have hx0 := hx x (by simp)
    have hmx : 0 ≤ mx m x ∧ (mx m x = 0 ↔ m = 0 ∧ x = 0) := by unfold mx; split <;> omega
    obtain ⟨h1, h2⟩ := Qh xs (mx m x) hmx.1 fun y hy => hx y (by simp [hy])
    refine ⟨h1, ?_⟩; simp only [vO, h2, hmx.2, List.mem_cons, forall_eq_or_imp, and_assoc]
theorem SA (l : List Int) (hl : l.length ≤ 1048576) : ∀ (d i : Nat) (m : Int), l.length - i = d → i ≤ l.length → Ev (fun k => mf.l0 k l m i) (vO (l.drop i) m)
  | 0, i, m, hd, hi => by
    refine Ev.s ?_; simp only [mf.l0, show ¬ (i : Int) < (l.length : Int) by omega, if_false]; rw [List.drop_eq_nil_of_le (by omega)]; exact Ev.const rfl
  | d + 1, i, m, hd, hi => by
    have hlt : i < l.length := by omega
    refine Ev.s ?_; simp only [mf.l0, show (i : Int) < (l.length : Int) by omega, show (0 : Int) ≤ (i : Int) by omega, if_true]; rw [w64 (x := (i : Int) + 1) (by omega) (by omega), show ((i : Int) + 1) = ((i + 1 : Nat) : Int) by omega, List.drop_eq_getElem_cons hlt, gU l i hlt]; exact SA l hl d (i + 1) _ (by omega) (by omega)
theorem X0 (l : List Int) (hl : l.length ≤ 1048576) (h1 : 1 ≤ l.length) (h0 : ∀ x ∈ l, 0 ≤ x) : ∃ m, Ev (fun k => mf.f k l) m ∧ (m = 0 ↔ ∀ x ∈ l, x = 0) := by
  cases l with
  | nil => simp at h1
  | cons x xs =>
    refine ⟨vO xs x, ?_, ?_⟩
    · unfold mf.f
      simp only [show ¬ (((x :: xs).length : Nat) : Int) < 1 by omega, show (0 : Int) < (((x :: xs).length : Nat) : Int) by omega, if_true, if_false]; exact SA (x :: xs) hl _ 1 x rfl h1
    · rw [(Qh xs x (h0 x (by simp)) fun y hy => h0 y (by simp [hy])).2]
      simp
theorem O1 (t f : List Int) (hf : qg f) : ∀ (d i : Nat), f.length - i = d → i ≤ f.length →
    ((∀ q : Nat, i ≤ q → q < f.length → jw f q) → ∀ r, Ev (fun k => (hU.f k t f).bind fun o => eL.l1 k o 0) r → Ev (fun k => eL.l0 k i t f) r) ∧ (¬ (∀ q : Nat, i ≤ q → q < f.length → jw f q) → Ev (fun k => eL.l0 k i t f) false)
  | 0, i, hd, hi => by
    refine ⟨fun _ r h => Ev.s ?_, fun h => absurd (fun q h1 h2 => by omega) h⟩; simp only [eL.l0, show ¬ (i : Int) < (f.length : Int) by omega, if_false]; exact h
  | d + 1, i, hd, hi => by
    have hlt : i < f.length := by omega
    have hl12 := hf.2.1; have hr := (nJ f hf).2 i hlt; have ih := O1 t f hf d (i + 1) (by omega) (by omega)
    have hw : wrap64 ((i : Int) + 1) = ((i + 1 : Nat) : Int) := by rw [w64 (by omega) (by omega)]; omega
    have g1 : (i : Int) < (f.length : Int) := by omega
    have g2 : (0 : Int) ≤ (i : Int) := by omega
    by_cases c1 : rd f i = i
    · refine ⟨fun h => absurd c1 (h i (Nat.le_refl _) hlt).1, fun h => Ev.s ?_⟩
      simp only [eL.l0, g1, g2, c1, if_true]; exact Ev.const rfl
    · by_cases c2 : rd f (rd f i) = i
      · refine ⟨fun h r hr' => Ev.s ?_, fun h => Ev.s ?_⟩
        · simp only [eL.l0, g1, g2, c1, c2, hr.1, hr.2, if_true, if_false, hw]
          exact ih.1 (fun q h1 h2 => h q (by omega) h2) r hr'
        · simp only [eL.l0, g1, g2, c1, c2, hr.1, hr.2, if_true, if_false, hw]
          refine ih.2 fun h' => h fun q h1 h2 => ?_
          by_cases e : q = i
          · rw [e]; exact ⟨c1, c2⟩
          · exact h' q (by omega) h2
      · refine ⟨fun h => absurd (h i (Nat.le_refl _) hlt).2 c2, fun h => Ev.s ?_⟩
        simp only [eL.l0, g1, g2, c1, c2, hr.1, hr.2, if_true, if_false]; exact Ev.const rfl
theorem Pb (t f : List Int) (hf : qg f) : ∀ (d i : Nat), f.length - i = d → i ≤ f.length →
    ((∀ q : Nat, i ≤ q → q < f.length → jw f q) → ∀ r, Ev (fun k => (eU.f k [t, f]).bind fun o => (mf.f k o).bind fun m => some (m == 0)) r → Ev (fun k => dN.l0 k f f.length i t f) r) ∧ (¬ (∀ q : Nat, i ≤ q → q < f.length → jw f q) → Ev (fun k => dN.l0 k f f.length i t f) false)
  | 0, i, hd, hi => by
    refine ⟨fun _ r h => Ev.s ?_, fun h => absurd (fun q h1 h2 => by omega) h⟩; simp only [dN.l0, show ¬ (i : Int) < (f.length : Int) by omega, if_false]; exact h
  | d + 1, i, hd, hi => by
    have hlt : i < f.length := by omega
    have hl12 := hf.2.1; have hr := (nJ f hf).2 i hlt; have ih := Pb t f hf d (i + 1) (by omega) (by omega)
    have hw : wrap64 ((i : Int) + 1) = ((i + 1 : Nat) : Int) := by rw [w64 (by omega) (by omega)]; omega
    have g1 : (i : Int) < (f.length : Int) := by omega
    have g2 : (0 : Int) ≤ (i : Int) := by omega
    by_cases c1 : rd f i = i
    · refine ⟨fun h => absurd c1 (h i (Nat.le_refl _) hlt).1, fun h => Ev.s ?_⟩
      simp only [dN.l0, g1, g2, c1, if_true]; exact Ev.const rfl
    · by_cases c2 : rd f (rd f i) = i
      · refine ⟨fun h r hr' => Ev.s ?_, fun h => Ev.s ?_⟩
        · simp only [dN.l0, g1, g2, c1, c2, hr.1, hr.2, if_true, if_false, hw]
          exact ih.1 (fun q h1 h2 => h q (by omega) h2) r hr'
        · simp only [dN.l0, g1, g2, c1, c2, hr.1, hr.2, if_true, if_false, hw]
          refine ih.2 fun h' => h fun q h1 h2 => ?_
          by_cases e : q = i
          · rw [e]; exact ⟨c1, c2⟩
          · exact h' q (by omega) h2
      · refine ⟨fun h => absurd (h i (Nat.le_refl _) hlt).2 c2, fun h => Ev.s ?_⟩
        simp only [dN.l0, g1, g2, c1, c2, hr.1, hr.2, if_true, if_false]; exact Ev.const rfl
theorem Q8 (o : List Int) (hl : o.length ≤ 1048576) : ∀ (d i : Nat), o.length - i = d → i ≤ o.length →
    ((∀ q : Nat, i ≤ q → q < o.length → rd o q = 0) → Ev (fun k => eL.l1 k o i) true) ∧ (¬ (∀ q : Nat, i ≤ q → q < o.length → rd o q = 0) → Ev (fun k => eL.l1 k o i) false)
  | 0, i, hd, hi => by
    refine ⟨fun _ => Ev.s ?_, fun h => absurd (fun q h1 h2 => by omega) h⟩; simp only [eL.l1, show ¬ (i : Int) < (o.length : Int) by omega, if_false]; exact Ev.const rfl
  | d + 1, i, hd, hi => by
    have hlt : i < o.length := by omega
    have ih := Q8 o hl d (i + 1) (by omega) (by omega)
    have hw : wrap64 ((i : Int) + 1) = ((i + 1 : Nat) : Int) := by rw [w64 (by omega) (by omega)]; omega
    have g1 : (i : Int) < (o.length : Int) := by omega
    have g2 : (0 : Int) ≤ (i : Int) := by omega
    by_cases c : rd o i = 0
    · refine ⟨fun h => Ev.s ?_, fun h => Ev.s ?_⟩
      · simp only [eL.l1, g1, g2, c, if_true, hw]
        exact ih.1 fun q h1 h2 => h q (by omega) h2
      · simp only [eL.l1, g1, g2, c, if_true, hw]
        refine ih.2 fun h' => h fun q h1 h2 => ?_
        by_cases e : q = i
        · rw [e]; exact c
        · exact h' q (by omega) h2
    · refine ⟨fun h => absurd (h i (Nat.le_refl _) hlt) c, fun h => Ev.s ?_⟩
      simp only [eL.l1, g1, g2, c, if_true, if_false]; exact Ev.const rfl
theorem R3 (t f : List Int) (n : Nat) (h1 : 1 ≤ n) (ht : inR n t) (hf : inR n f) (o : List Int) (ho : tP [t, f] n o) : (∀ q : Nat, q < n → rd o q = 0) ↔ ∀ i j : Nat, i < n → j < n → Reach [t, f] n i j := by
  have hps : ∀ p ∈ [t, f], inR n p := by intro p hp; simp at hp; rcases hp with rfl | rfl <;> assumption
  constructor
  · intro h i j hi hj
    have e1 := (ho.1.2 i hi).2.2; have e2 := (ho.1.2 j hj).2.2; rw [h i hi] at e1; rw [h j hj] at e2; exact e1.symm.trans e2
  · intro h q hq
    have := HV ho hps (h q 0 hq (by omega)); have h0 := ho.1.2 0 (by omega); omega
theorem sc (t f : List Int) (ht : t.length ≤ 1048576) (hf : f.length ≤ 1048576) : ∃ b : Bool, Ev (fun k => eL.f k t f) b ∧ Ev (fun k => dN.f k t f) b ∧ (b = true ↔ isMap t f) := by
  obtain ⟨bt, t1, t2, t3⟩ := CP t ht; obtain ⟨bf, f1, f2, f3⟩ := CP f hf
  have hb : ∀ b : Bool, (∃ c : Bool, Ev (fun k => oE.f k t f) c ∧ (c = true ↔ qg t ∧ qg f ∧ t.length = f.length)) := fun _ => by
    unfold oE.f
    cases bt with
    | false => exact ⟨false, Ev.bind t1 (Ev.const rfl), ⟨fun h => (by cases h), fun h => absurd (t3.2 h.1) (by decide)⟩⟩
    | true =>
      cases bf with
      | false => exact ⟨false, Ev.bind t1 (by simp only [if_true]; exact Ev.bind f1 (Ev.const rfl)), ⟨fun h => (by cases h), fun h => absurd (f3.2 h.2.1) (by decide)⟩⟩
      | true => exact ⟨((t.length : Int) == (f.length : Int)), Ev.bind t1 (by simp only [if_true]; exact Ev.bind f1 (Ev.const rfl)), ⟨fun h => ⟨t3.1 rfl, f3.1 rfl, by have := beq_iff_eq.1 h; omega⟩, fun h => by rw [beq_iff_eq]; omega⟩⟩
  obtain ⟨c, c1, c2⟩ := hb true
  by_cases hall : qg t ∧ qg f ∧ t.length = f.length
  · obtain ⟨pt, pf, hlen⟩ := hall
    have hc : c = true := c2.2 ⟨pt, pf, hlen⟩; subst hc; have hbt : bt = true := t3.2 pt; have hbf : bf = true := f3.2 pf; subst hbt; subst hbf
    have hne : (((t.length : Int)) != (f.length : Int)) = false := by rw [bne_eq_false_iff_eq]; omega
    have hrt : inR f.length t := by have := nJ t pt; rwa [hlen] at this
    have hrf := nJ f pf; obtain ⟨o, o1, o2, o3⟩ := Og t f f.length pf.2.1 pf.1 hrt hrf
    have hS : ∀ r, Ev (fun k => eL.l0 k 0 t f) r → Ev (fun k => eL.f k t f) r := fun r h => by
      unfold eL.f
      refine Ev.bind c1 ?_; simp only [if_true]; exact h
    have hI : ∀ r, Ev (fun k => dN.l0 k f f.length 0 t f) r → Ev (fun k => dN.f k t f) r := fun r h => by
      unfold dN.f
      refine Ev.bind t2 ?_; simp only [if_true]; refine Ev.bind f2 ?_; simp only [if_true, hne]; refine Ev.s ?_; simp only [dN.j0, Bool.false_eq_true, if_false]; exact h
    have sF := O1 t f pf f.length 0 (by omega) (by omega); have iF := Pb t f pf f.length 0 (by omega) (by omega)
    by_cases hfl : ∀ q : Nat, 0 ≤ q → q < f.length → jw f q
    · have zr := Q8 o (by rw [o1.1.1]; omega) o.length 0 (by omega) (by omega)
      have oz := R3 t f f.length pf.1 hrt hrf o o1; obtain ⟨m, m1, m2⟩ := X0 o (by rw [o1.1.1]; omega) (by rw [o1.1.1]; exact pf.1) (fun x hx => by
        obtain ⟨i, hi, rfl⟩ := List.mem_iff_getElem.1 hx; have := (o1.1.2 i (by rw [← o1.1.1]; exact hi)).1
        rwa [gU o i hi] at this)
      have hmz : m = 0 ↔ ∀ q : Nat, 0 ≤ q → q < o.length → rd o q = 0 := by
        rw [m2]
        constructor
        · intro h q _ hq
          rw [gU o q hq]; exact h _ (List.getElem_mem hq)
        · intro h x hx
          obtain ⟨i, hi, rfl⟩ := List.mem_iff_getElem.1 hx; have := h i (by omega) hi
          rwa [gU o i hi] at this
      by_cases hz : ∀ q : Nat, 0 ≤ q → q < o.length → rd o q = 0
      · refine ⟨true, hS _ (sF.1 hfl _ (Ev.bind o2 (zr.1 hz))), hI _ (iF.1 hfl _ (Ev.bind o3 (Ev.bind m1 (Ev.const ?_)))), ?_⟩
        · rw [hmz.2 hz]; rfl
        · refine ⟨fun _ => ⟨pt, pf, hlen, fun i hi => hfl i (by omega) hi, oz.1 fun q hq => hz q (by omega) (by rw [o1.1.1]; exact hq)⟩, fun _ => rfl⟩
      · refine ⟨false, hS _ (sF.1 hfl _ (Ev.bind o2 (zr.2 hz))), hI _ (iF.1 hfl _ (Ev.bind o3 (Ev.bind m1 (Ev.const ?_)))), ?_⟩
        · have : ¬ m = 0 := fun e => hz (hmz.1 e)
          simp [this]
        · exact ⟨fun h => (by cases h), fun h => absurd (fun q _ hq => oz.2 h.2.2.2.2 q (by rw [← o1.1.1]; exact hq)) hz⟩
    · exact ⟨false, hS _ (sF.2 hfl), hI _ (iF.2 hfl), ⟨fun h => (by cases h), fun h => absurd (fun q _ hq => h.2.2.2.1 q hq) hfl⟩⟩
  · have hc : c = false := by
      cases c with
      | false => rfl
      | true => exact absurd (c2.1 rfl) hall
    subst hc; refine ⟨false, ?_, ?_, ⟨fun h => (by cases h), fun h => absurd ⟨h.1, h.2.1, h.2.2.1⟩ hall⟩⟩
    · unfold eL.f
      exact Ev.bind c1 (Ev.const rfl)
    · have hj : Ev (fun k => dN.j0 k true t f) false := by
        refine Ev.s ?_; simp only [dN.j0, if_true]; exact Ev.const rfl
      unfold dN.f
      refine Ev.bind t2 ?_
      cases bt with
      | false => simp only [Bool.false_eq_true, if_false]; exact hj
      | true =>
        simp only [if_true]; refine Ev.bind f2 ?_
        cases bf with
        | false => simp only [Bool.false_eq_true, if_false]; exact hj
        | true =>
          have hne : (((t.length : Int)) != (f.length : Int)) = true := by
            rw [bne_iff_ne]; intro e; exact hall ⟨t3.1 rfl, f3.1 rfl, by omega⟩
          simp only [if_true, hne]; exact hj
theorem zP (l : List Int) (i : Nat) (v : Int) (h : i < l.length) : (l.set i v).take (i + 1) = l.take i ++ [v] := by
  rw [List.take_succ_eq_append_getElem (by simpa using h), List.take_set_of_le (Nat.le_refl _), List.getElem_set_self]
def aZ (a b : List Int) : Nat → List Int
  | 0 => []
  | i + 1 => aZ a b i ++ [rd b (rd a i)]
theorem mT (a b : List Int) : ∀ n, (aZ a b n).length = n
  | 0 => rfl
  | n + 1 => by simp [aZ, mT a b n]
theorem jV (a b : List Int) : ∀ (n i : Nat), i < n → rd (aZ a b n) i = rd b (rd a i)
  | n + 1, i, h => by
    simp only [aZ]
    by_cases e : i < n
    · rw [zJ _ _ _ (by rw [mT]; exact e), jV a b n i e]
    · have : i = n := by omega
      subst this
      have h2 : i < (aZ a b i ++ [rd b (rd a (i : Int))]).length := by simp [mT]
      rw [gU _ i h2, List.getElem_append_right (by rw [mT]; exact Nat.le_refl _)]
      simp [mT]
theorem lp (n : Nat) (a b : List Int) (ha : inR n a) (hb : inR n b) : inR n (aZ a b n) := by
  refine ⟨mT a b n, fun i hi => ?_⟩; rw [jV a b n i hi]; have h1 := ha.2 i hi; have h2 := hb.2 (rd a i).toNat (by omega)
  rwa [show ((rd a i).toNat : Int) = rd a i by omega] at h2
theorem RG (n : Nat) (hn : n ≤ 1048576) (a b : List Int) (ha : inR n a) (hb : inR n b) : ∀ (d i : Nat), n - i = d → i ≤ n → Ev (fun k => kQ.l0 k a b (aZ a b i) i) (aZ a b n)
  | 0, i, hd, hi => by
    have : i = n := by omega
    subst this; refine Ev.s ?_; simp only [kQ.l0, ha.1, show ¬ (i : Int) < (i : Int) by omega, if_false]; exact Ev.const rfl
  | d + 1, i, hd, hi => by
    have h1 := ha.2 i (by omega); have hb1 := hb.1; refine Ev.s ?_; simp only [kQ.l0, ha.1, hb1, mT, show (i : Int) < (n : Int) by omega, show (0 : Int) ≤ (i : Int) by omega, h1.1, h1.2, show i < 17592186044416 by omega, if_true]; rw [eM (by omega)]; exact RG n hn a b ha hb d (i + 1) (by omega) (by omega)
theorem zS (n : Nat) (hn : n ≤ 1048576) (a b : List Int) (ha : inR n a) (hb : inR n b) : Ev (fun k => kQ.f k a b) (aZ a b n) := by
  unfold kQ.f
  exact RG n hn a b ha hb n 0 (by omega) (by omega)
theorem Q4 (n : Nat) (hn : n ≤ 1048576) (a b : List Int) (ha : inR n a) (hb : inR n b) : ∀ (d i : Nat) (l : List Int), n - i = d → i ≤ n → l.length = n → l.take i = aZ a b i → Ev (fun k => gT.l0 k b l a n i) (aZ a b n)
  | 0, i, l, hd, hi, hl, ht => by
    have : i = n := by omega
    subst this; refine Ev.s ?_; simp only [gT.l0, show ¬ (i : Int) < (i : Int) by omega, if_false]; rw [List.take_of_length_le (by omega)] at ht; exact Ev.const (by rw [ht])
  | d + 1, i, l, hd, hi, hl, ht => by
    have h1 := ha.2 i (by omega); have hb1 := hb.1; refine Ev.s ?_; simp only [gT.l0, ha.1, hb1, hl, show (i : Int) < (n : Int) by omega, show (0 : Int) ≤ (i : Int) by omega, h1.1, h1.2, if_true, Int.toNat_natCast]; rw [eM (by omega)]; refine Q4 n hn a b ha hb d (i + 1) _ (by omega) (by omega) (by simpa using hl) ?_; rw [zP _ _ _ (by omega), ht]; rfl
theorem oI (n : Nat) (hn : n ≤ 1048576) (a b : List Int) (ha : inR n a) (hb : inR n b) : Ev (fun k => gT.f k a b) (aZ a b n) := by
  unfold gT.f
  have h1 : n ≤ 35184372088832 := by omega
  have h2 : (0 : Int) ≤ (n : Int) := by omega
  simp only [ha.1, Int.toNat_natCast, h1, h2, if_true]; exact Q4 n hn a b ha hb n 0 _ (by omega) (by omega) (by simp) (by simp [aZ])
def eN (p : List Int) (n : Nat) : Nat → List Int
  | 0 => List.replicate n 0
  | i + 1 => (eN p n i).set (rd p i).toNat i
theorem xP (p : List Int) (n : Nat) : ∀ i, (eN p n i).length = n
  | 0 => by simp [eN]
  | i + 1 => by simp [eN, xP p n i]
theorem Ot (p : List Int) (n : Nat) : ∀ (i : Nat), i ≤ n → ∀ j : Nat, j < n → 0 ≤ rd (eN p n i) j ∧ rd (eN p n i) j < n
  | 0, _, j, hj => by
    have : rd (eN p n 0) j = 0 := by
      rw [gU _ j (by simp [eN]; exact hj)]
      simp [eN]
    omega
  | i + 1, hi, j, hj => by
    have ih := Ot p n i (by omega) j hj; simp only [eN]
    by_cases e : (rd p i).toNat = j
    · subst e
      rw [mg _ _ _ (by rw [xP]; exact hj)]; omega
    · rw [lT _ _ _ _ e]
      exact ih
theorem tQ (p : List Int) (n : Nat) : inR n (eN p n n) := ⟨xP p n n, Ot p n n (Nat.le_refl _)⟩
theorem zU (p : List Int) (n : Nat) (hp : inR n p) (inj : ∀ i j : Nat, i < n → j < n → rd p i = rd p j → i = j) : ∀ (i : Nat), i ≤ n → ∀ j : Nat, j < i → rd (eN p n i) (rd p j) = j
  | i + 1, hi, j, hj => by
    have hpj := hp.2 j (by omega); have hpi := hp.2 i (by omega); simp only [eN]
    by_cases e : j = i
    · subst e
      have h2 := mg (eN p n j) (rd p j).toNat j (by rw [xP]; omega)
      rwa [show ((rd p j).toNat : Int) = rd p j by omega] at h2
    · have hne : (rd p i).toNat ≠ (rd p j).toNat := fun h => e (inj j i (by omega) (by omega) (by omega))
      have h2 := lT (eN p n i) (rd p i).toNat (rd p j).toNat i hne; rw [show ((rd p j).toNat : Int) = rd p j by omega] at h2; rw [h2]; exact zU p n hp inj i (by omega) j (by omega)
theorem RX (n : Nat) (hn : n ≤ 1048576) (p : List Int) (hp : inR n p) : ∀ (d i : Nat), n - i = d → i ≤ n → Ev (fun k => lS.l0 k p (eN p n i) i) (eN p n n)
  | 0, i, hd, hi => by
    have : i = n := by omega
    subst this; refine Ev.s ?_; simp only [lS.l0, hp.1, show ¬ (i : Int) < (i : Int) by omega, if_false]; exact Ev.const rfl
  | d + 1, i, hd, hi => by
    have h1 := hp.2 i (by omega); refine Ev.s ?_; simp only [lS.l0, hp.1, xP, show (i : Int) < (n : Int) by omega, show (0 : Int) ≤ (i : Int) by omega, h1.1, h1.2, if_true]; rw [eM (by omega)]; exact RX n hn p hp d (i + 1) (by omega) (by omega)
theorem O9 (n : Nat) (hn : n ≤ 1048576) (p : List Int) (hp : inR n p) : Ev (fun k => lS.f k p) (eN p n n) := by
  unfold lS.f
  have h1 : n ≤ 35184372088832 := by omega
  have h2 : (0 : Int) ≤ (n : Int) := by omega
  simp only [hp.1, Int.toNat_natCast, h1, h2, if_true]; exact RX n hn p hp n 0 (by omega) (by omega)
theorem QY (n : Nat) (hn : n ≤ 1048576) (p : List Int) (hp : inR n p) : ∀ (d i : Nat), n - i = d → i ≤ n → Ev (fun k => ln.l0 k (eN p n i) p n i) (eN p n n)
  | 0, i, hd, hi => by
    have : i = n := by omega
    subst this; refine Ev.s ?_; simp only [ln.l0, show ¬ (i : Int) < (i : Int) by omega, if_false]; exact Ev.const rfl
  | d + 1, i, hd, hi => by
    have h1 := hp.2 i (by omega); refine Ev.s ?_; simp only [ln.l0, hp.1, xP, show (i : Int) < (n : Int) by omega, show (0 : Int) ≤ (i : Int) by omega, h1.1, h1.2, if_true]; rw [eM (by omega)]; exact QY n hn p hp d (i + 1) (by omega) (by omega)
theorem CL (n : Nat) (hn : n ≤ 1048576) (p : List Int) (hp : inR n p) : Ev (fun k => ln.f k p) (eN p n n) := by
  unfold ln.f
  have h1 : n ≤ 35184372088832 := by omega
  have h2 : (0 : Int) ≤ (n : Int) := by omega
  simp only [hp.1, Int.toNat_natCast, h1, h2, if_true]; exact QY n hn p hp n 0 (by omega) (by omega)
end Go.Proofs.Ytlpbalebodlipaa.PL

namespace Go.Proofs.Ytlpbalebodlipaa.PL
open Go.RowKit Go.Proofs.YtlpbalebodlipaaW.PrintWords Go.Proofs.YtlpbalebodlipaaW.PrintLast Go.Proofs.YtlpbalebodlipaaW.PrintMore
attribute [local go_sem] nV nQ nE ny nA nG nO nR   -- for this text's walks alone
set_option linter.unusedVariables false
set_option linter.unusedSimpArgs false
mutual
def jT.j0 : Nat → Bool → List Int → List Int → Option (List Int × List Int × Bool)
 | 0, _, _, _ => none
 | k + 1, jj, x1161000, GA => if jj = true then (some (([] : List Int), ([] : List Int), false)) else ((gT.f k GA x1161000).bind fun ai4 => ((ln.f k ai4).bind fun ai5 => (if 0 ≤ (wrap64 (2 * (x1161000.length : Int))) then (if (wrap64 (2 * (x1161000.length : Int)) : Int).toNat ≤ 35184372088832 then (jT.l0 k ai5 (x1161000.length : Int) 0 x1161000 GA (List.replicate (wrap64 (2 * (x1161000.length : Int)) : Int).toNat 0) (List.replicate (wrap64 (2 * (x1161000.length : Int)) : Int).toNat 0)) else (none)) else (none))))
def jT.l0 : Nat → List Int → Int → Int → List Int → List Int → List Int → List Int → Option (List Int × List Int × Bool)
 | 0, _, _, _, _, _, _, _ => none
 | k + 1, x5, x34, ku, x1161000, GA, GC, x1176001 => if ku < x34 then (if 0 ≤ (wrap64 (2 * ku)) then (if (wrap64 (2 * ku)) < (x1176001.length : Int) then (if 0 ≤ (wrap64 ((wrap64 (2 * ku)) + 1)) then (if (wrap64 ((wrap64 (2 * ku)) + 1)) < (x1176001.length : Int) then (if 0 ≤ ku then (if ku < (x1161000.length : Int) then (if (wrap64 (2 * ku)) < (GC.length : Int) then (if ku < (x5.length : Int) then (if (wrap64 ((wrap64 (2 * ku)) + 1)) < (GC.length : Int) then (jT.l0 k x5 x34 (wrap64 (ku + 1)) x1161000 GA ((GC.set ((wrap64 (2 * ku)) : Int).toNat (wrap64 (2 * (rd x1161000 ku)))).set ((wrap64 ((wrap64 (2 * ku)) + 1)) : Int).toNat (wrap64 ((wrap64 (2 * (rd x5 ku))) + 1))) ((x1176001.set ((wrap64 (2 * ku)) : Int).toNat (wrap64 ((wrap64 (2 * ku)) + 1))).set ((wrap64 ((wrap64 (2 * ku)) + 1)) : Int).toNat (wrap64 (2 * ku)))) else (none)) else (none)) else (none)) else (none)) else (none)) else (none)) else (none)) else (none)) else (none)) else (some (GC, x1176001, true))
end
def jT.f (k : Nat) (ag : List Int) (af : List Int) : Option (List Int × List Int × Bool) := (dN.f k ag af).bind fun ai6 => (if ai6 = true then (jT.j0 k (decide ((ag.length : Int) > 6)) ag af) else (jT.j0 k true ag af))
def jT.T9 : Bool × List (List Nat × List Nat) := (true, [([], []), ([0], [0]), ([], []), ([2], [2]), ([], []), ([4], [4]), ([], []), ([6], [6]), ([7], [7]), ([], []), ([9], [9]), ([10], [10]), ([], []), ([12], [12]), ([1, 3, 0, 1, 2, 3, 9, 10, 11], [1, 3]), ([14, 11, 0, 1, 2, 3, 9, 10, 11], [11, 14]), ([5, 8, 0, 1, 2, 3, 4, 5, 6, 7, 8, 9, 10, 11, 12, 13, 14, 15], [5, 8]), ([16, 13, 15, 0, 1, 2, 3, 4, 5, 6, 7, 8, 9, 10, 11, 12, 13, 14, 15], [13, 16])])
def jT.B9 : List Nat := [0, 1, 0, 4, 0, 16, 0, 64, 192, 0, 512, 1536, 0, 4096, 3599, 19983, 65535, 131071]
def jT.T11 : Bool × List (List Nat × List Nat) := (true, [([], []), ([0], [0]), ([], []), ([2], [2]), ([3], [3]), ([], []), ([], []), ([5, 6], [5, 6]), ([7], [7]), ([8], [8]), ([9], [9]), ([1, 4, 0, 1, 2, 3, 4, 5, 6, 7, 8, 9, 10], [1, 4]), ([11, 10, 0, 1, 2, 3, 4, 5, 6, 7, 8, 9, 10], [10, 11])])
def jT.B11 : List Nat := [0, 1, 0, 4, 12, 0, 0, 96, 224, 480, 992, 2047, 4095]
end Go.Proofs.Ytlpbalebodlipaa.PL

set_option linter.unusedVariables false
set_option linter.unusedSimpArgs false
namespace Go.Proofs.Ytlpbalebodlipaa.PL
open Go.RowKit Go.Proofs.YtlpbalebodlipaaW.PrintWords Go.Proofs.YtlpbalebodlipaaW.PrintLast Go.Proofs.YtlpbalebodlipaaW.PrintMore
def tqT (a b : List Int) : Nat → List Int
  | 0 => []
  | i + 1 => tqT a b i ++ [2 * rd a i, 2 * rd b i + 1]
def tqF : Nat → List Int
  | 0 => []
  | i + 1 => tqF i ++ [2 * (i : Int) + 1, 2 * (i : Int)]
theorem Ab (a b : List Int) : ∀ n, (tqT a b n).length = 2 * n
  | 0 => rfl
  | n + 1 => by simp [tqT, Ab a b n]; omega
theorem zY : ∀ n, (tqF n).length = 2 * n
  | 0 => rfl
  | n + 1 => by simp [tqF, zY n]; omega
theorem Pg (n : Nat) (hn : n ≤ 1048576) : ∀ (d i : Nat), n - i = d → i ≤ n → Ev (fun k => eK.l0 k n (tqF i) i) (tqF n)
  | 0, i, hd, hi => by
    have : i = n := by omega
    subst this; refine Ev.s ?_; simp only [eK.l0, show ¬ (i : Int) < (i : Int) by omega, if_false]; exact Ev.const rfl
  | d + 1, i, hd, hi => by
    refine Ev.s ?_; have e1 : wrap64 (2 * (i : Int)) = 2 * (i : Int) := w64 (by omega) (by omega); have e2 : wrap64 (2 * (i : Int) + 1) = 2 * (i : Int) + 1 := w64 (by omega) (by omega); simp only [eK.l0, show (i : Int) < (n : Int) by omega, if_true, Option.bind_some, e1, e2, zY, List.length_cons, List.length_nil, show 2 * i + (0 + 1 + 1) < 17592186044416 by omega]; rw [eM (by omega)]; exact Pg n hn d (i + 1) (by omega) (by omega)
theorem aaw (n : Nat) (hn : n ≤ 1048576) : Ev (fun k => eK.f k n) (tqF n) := by
  unfold eK.f
  exact Pg n hn n 0 (by omega) (by omega)
theorem OW (n : Nat) (hn : n ≤ 12) (t f b F : List Int) (ht : inR n t) (hb : inR n b) : ∀ (d i : Nat), n - i = d → i ≤ n → Ev (fun k => fL.l0 k b i t f (tqT t b i) F) (tqT t b n, F, true)
  | 0, i, hd, hi => by
    have : i = n := by omega
    subst this; refine Ev.s ?_; simp only [fL.l0, ht.1, show ¬ (i : Int) < (i : Int) by omega, if_false]; exact Ev.const rfl
  | d + 1, i, hd, hi => by
    have h1 := ht.2 i (by omega); have h2 := hb.2 i (by omega); refine Ev.s ?_; have e1 : wrap64 (2 * rd t i) = 2 * rd t i := w64 (by omega) (by omega); have e2 : wrap64 (2 * rd b i) = 2 * rd b i := w64 (by omega) (by omega); have e3 : wrap64 (2 * rd b i + 1) = 2 * rd b i + 1 := w64 (by omega) (by omega)
    have hi' : (i : Int) < (n : Int) := by omega
    have h0 : (0 : Int) ≤ (i : Int) := by omega
    have hz : 2 * i + (0 + 1 + 1) < 17592186044416 := by omega
    simp only [fL.l0, ht.1, hb.1, hi', h0, if_true, Option.bind_some, e1, e2, e3, Ab, List.length_cons, List.length_nil, hz]; rw [eM (by omega)]; exact OW n hn t f b F ht hb d (i + 1) (by omega) (by omega)
theorem Qu (l m : List Int) (i : Nat) (x y : Int) (hl : 2 * i + 1 < l.length) (h : l.take (2 * i) = m) : ((l.set (2 * i) x).set (2 * i + 1) y).take (2 * (i + 1)) = m ++ [x, y] := by
  rw [show 2 * (i + 1) = 2 * i + 1 + 1 by omega, zP _ _ _ (by simpa using hl), zP _ _ _ (by omega), h]
  simp
theorem Ib (n : Nat) (hn : n ≤ 12) (t f b : List Int) (ht : inR n t) (hb : inR n b) : ∀ (d i : Nat) (T F : List Int), n - i = d → i ≤ n → T.length = 2 * n → F.length = 2 * n → T.take (2 * i) = tqT t b i → F.take (2 * i) = tqF i →
    Ev (fun k => jT.l0 k b n i t f T F) (tqT t b n, tqF n, true)
  | 0, i, T, F, hd, hi, hT, hF, tT, tF => by
    have : i = n := by omega
    subst this; refine Ev.s ?_; simp only [jT.l0, show ¬ (i : Int) < (i : Int) by omega, if_false]; rw [List.take_of_length_le (by omega)] at tT tF; exact Ev.const (by rw [tT, tF])
  | d + 1, i, T, F, hd, hi, hT, hF, tT, tF => by
    have h1 := ht.2 i (by omega); have h2 := hb.2 i (by omega); refine Ev.s ?_; have e1 : wrap64 (2 * rd t i) = 2 * rd t i := w64 (by omega) (by omega); have e2 : wrap64 (2 * rd b i) = 2 * rd b i := w64 (by omega) (by omega); have e3 : wrap64 (2 * rd b i + 1) = 2 * rd b i + 1 := w64 (by omega) (by omega); have e4 : wrap64 (2 * (i : Int)) = 2 * (i : Int) := w64 (by omega) (by omega); have e5 : wrap64 (2 * (i : Int) + 1) = 2 * (i : Int) + 1 := w64 (by omega) (by omega)
    have hi' : (i : Int) < (n : Int) := by omega
    have h0 : (0 : Int) ≤ (i : Int) := by omega
    have g1 : (0 : Int) ≤ 2 * (i : Int) := by omega
    have g2 : 2 * (i : Int) < ((2 * n : Nat) : Int) := by omega
    have g3 : (0 : Int) ≤ 2 * (i : Int) + 1 := by omega
    have g4 : 2 * (i : Int) + 1 < ((2 * n : Nat) : Int) := by omega
    have n1 : (2 * (i : Int)).toNat = 2 * i := by omega
    have n2 : (2 * (i : Int) + 1).toNat = 2 * i + 1 := by omega
    simp only [jT.l0, ht.1, hb.1, hT, hF, hi', h0, e1, e2, e3, e4, e5, g1, g2, g3, g4, if_true, n1, n2]; rw [eM (by omega)]; exact Ib n hn t f b ht hb d (i + 1) _ _ (by omega) (by omega) (by simpa using hT) (by simpa using hF) (Qu _ _ _ _ _ (by omega) tT) (Qu _ _ _ _ _ (by omega) tF)
theorem Z1 (t f : List Int) (ht : t.length ≤ 1048576) (hf : f.length ≤ 1048576) : ∃ (T F : List Int) (b : Bool), Ev (fun k => fL.f k t f) (T, F, b) ∧ Ev (fun k => jT.f k t f) (T, F, b) ∧ T.length ≤ 12 ∧ F.length ≤ 12 := by
  obtain ⟨b, b1, b2, b3⟩ := sc t f ht hf; have hno : Ev (fun k => fL.j0 k true t f) ([], [], false) := Ev.s (by simp only [fL.j0, if_true]; exact Ev.const rfl); have hno' : Ev (fun k => jT.j0 k true t f) ([], [], false) := Ev.s (by simp only [jT.j0, if_true]; exact Ev.const rfl)
  unfold fL.f jT.f
  cases b with
  | false => exact ⟨[], [], false, Ev.bind b1 (by simp only [Bool.false_eq_true, if_false]; exact hno), Ev.bind b2 (by simp only [Bool.false_eq_true, if_false]; exact hno'), by simp, by simp⟩
  | true =>
    obtain ⟨pt, pf, hlen, -, -⟩ := b3.1 rfl
    by_cases h6 : (t.length : Int) > 6
    · refine ⟨[], [], false, Ev.bind b1 ?_, Ev.bind b2 ?_, by simp, by simp⟩
      · simp only [if_true, decide_eq_true h6]; exact hno
      · simp only [if_true, decide_eq_true h6]; exact hno'
    · have hrt : inR t.length t := nJ t pt
      have hrf : inR t.length f := by have := nJ f pf; rwa [← hlen] at this
      have hn : t.length ≤ 6 := by omega
      have hm := lp t.length f t hrf hrt; have hb := tQ (aZ f t t.length) t.length; refine ⟨tqT t (eN (aZ f t t.length) t.length t.length) t.length, tqF t.length, true, Ev.bind b1 ?_, Ev.bind b2 ?_, by rw [Ab]; omega, by rw [zY]; omega⟩
      · simp only [if_true, decide_eq_false h6]
        refine Ev.s ?_; simp only [fL.j0, Bool.false_eq_true, if_false]
        have hfaces : Ev (fun k => mN.f k t f) (aZ f t t.length) := by
          unfold mN.f
          exact Ev.bind (zS t.length (by omega) f t hrf hrt) (Ev.const rfl)
        refine Ev.bind hfaces ?_; refine Ev.bind (O9 t.length (by omega) _ hm) ?_; refine Ev.bind (aaw t.length (by omega)) ?_; exact OW t.length (by omega) t f _ _ hrt hb t.length 0 (by omega) (by omega)
      · simp only [if_true, decide_eq_false h6]
        refine Ev.s ?_; simp only [jT.j0, Bool.false_eq_true, if_false]; refine Ev.bind (oI t.length (by omega) f t hrf hrt) ?_; refine Ev.bind (CL t.length (by omega) _ hm) ?_; have e1 : wrap64 (2 * (t.length : Int)) = 2 * (t.length : Int) := w64 (by omega) (by omega)
        have n1 : (2 * (t.length : Int)).toNat = 2 * t.length := by omega
        have g1 : (0 : Int) ≤ 2 * (t.length : Int) := by omega
        have g2 : 2 * t.length ≤ 35184372088832 := by omega
        simp only [e1, n1, g1, g2, if_true]; exact Ib t.length (by omega) t f _ hrt hb t.length 0 (List.replicate (2 * t.length) 0) (List.replicate (2 * t.length) 0) (by omega) (by omega) (by simp) (by simp) rfl rfl
theorem nH : ∀ (a b : List Nat), a.Nodup → (∀ x ∈ a, x ∈ b) → a.length ≤ b.length
  | [], b, _, _ => Nat.zero_le _
  | x :: a, b, hn, h => by
    have hx := h x (by simp); obtain ⟨hxa, hna⟩ := List.nodup_cons.1 hn
    have ih := nH a (b.erase x) hna fun y hy => (List.mem_erase_of_ne (by rintro rfl; exact hxa hy)).2 (h y (by simp [hy]))
    rw [List.length_erase_of_mem hx] at ih; have := List.length_pos_of_mem hx; simp only [List.length_cons]; omega
def itr (t : List Int) : Nat → Int → Int
  | 0, x => x
  | k + 1, x => itr t k (rd t x)
theorem nD (t : List Int) (n : Nat) (ht : inR n t) : ∀ (k : Nat) (x : Int), 0 ≤ x ∧ x < n → 0 ≤ itr t k x ∧ itr t k x < n
  | 0, x, h => h
  | k + 1, x, h => by
    have := ht.2 x.toNat (by omega); rw [show ((x.toNat : Nat) : Int) = x by omega] at this; exact nD t n ht k _ this
theorem nI (t : List Int) : ∀ (a b : Nat) (x : Int), itr t (a + b) x = itr t b (itr t a x)
  | 0, b, x => by rw [Nat.zero_add]; rfl
  | a + 1, b, x => by
    rw [show a + 1 + b = (a + b) + 1 by omega]; exact nI t a b _
def da (n : Nat) (t : List Int) : Prop := ∀ i j : Nat, i < n → j < n → rd t i = rd t j → i = j
theorem CB (t : List Int) (n : Nat) (ht : inR n t) (hi : da n t) : ∀ (k : Nat) (x y : Int), 0 ≤ x ∧ x < n → 0 ≤ y ∧ y < n → itr t k x = itr t k y → x = y
  | 0, x, y, _, _, h => h
  | k + 1, x, y, hx, hy, h => by
    have a1 := ht.2 x.toNat (by omega); have a2 := ht.2 y.toNat (by omega)
    have ex : ((x.toNat : Nat) : Int) = x := by omega
    have ey : ((y.toNat : Nat) : Int) = y := by omega
    rw [ex] at a1; rw [ey] at a2; have h1 := CB t n ht hi k _ _ a1 a2 h; have := hi x.toNat y.toNat (by omega) (by omega) (by rw [ex, ey]; exact h1); omega
theorem xR (t : List Int) (n : Nat) (ht : inR n t) (hi : da n t) (x : Int) (hx : 0 ≤ x ∧ x < n) : ∃ k : Nat, k < n ∧ itr t (k + 1) x = x := by
  by_cases h : ∃ i j : Nat, i < j ∧ j ≤ n ∧ itr t i x = itr t j x
  · obtain ⟨i, j, h1, h2, h3⟩ := h
    refine ⟨j - i - 1, by omega, ?_⟩
    have e : itr t j x = itr t i (itr t (j - i - 1 + 1) x) := by rw [← nI, show j - i - 1 + 1 + i = j by omega]
    rw [e] at h3; exact (CB t n ht hi i _ _ hx (nD t n ht _ x hx) h3).symm
  · exfalso
    have h1 := nH ((List.range (n + 1)).map fun i => (itr t i x).toNat) (List.range n) ?_ ?_
    · rw [List.length_map, List.length_range, List.length_range] at h1
      omega
    · rw [List.Nodup, List.pairwise_map]
      refine List.Pairwise.imp_of_mem ?_ (List.pairwise_lt_range (n := n + 1)); intro a b ha hb hab e; have ia := nD t n ht a x hx; have ib := nD t n ht b x hx; exact h ⟨a, b, hab, by have := List.mem_range.1 hb; omega, by omega⟩
    · intro y hy
      obtain ⟨a, ha, rfl⟩ := List.mem_map.1 hy; have ia := nD t n ht a x hx; exact List.mem_range.2 (by omega)
def Cnt (n : Nat) (P : Nat → Prop) (k : Nat) : Prop := ∃ L : List Nat, L.Nodup ∧ (∀ x, x ∈ L ↔ x < n ∧ P x) ∧ L.length = k
theorem Cnt.ex (P : Nat → Prop) : ∀ n, ∃ k, Cnt n P k ∧ k ≤ n
  | 0 => ⟨0, ⟨[], List.nodup_nil, by simp, rfl⟩, Nat.le_refl _⟩
  | n + 1 => by
    obtain ⟨k, ⟨L, h1, h2, h3⟩, hk⟩ := Cnt.ex P n
    by_cases h : P n
    · refine ⟨k + 1, ⟨n :: L, List.nodup_cons.2 ⟨fun z => by have := ((h2 n).1 z).1; omega, h1⟩, fun x => ?_, by simp [h3]⟩, by omega⟩
      rw [List.mem_cons, h2]
      constructor
      · rintro (rfl | ⟨a, b⟩)
        · exact ⟨by omega, h⟩
        · exact ⟨by omega, b⟩
      · rintro ⟨a, b⟩
        by_cases e : x = n
        · exact .inl e
        · exact .inr ⟨by omega, b⟩
    · refine ⟨k, ⟨L, h1, fun x => ?_, h3⟩, by omega⟩
      rw [h2]
      constructor
      · rintro ⟨a, b⟩; exact ⟨by omega, b⟩
      · rintro ⟨a, b⟩
        by_cases e : x = n
        · exact absurd (e ▸ b) h
        · exact ⟨by omega, b⟩
theorem Cnt.le {n : Nat} {P Q : Nat → Prop} {k l : Nat} (hp : Cnt n P k) (hq : Cnt n Q l) (g : Nat → Nat) (hg : ∀ x, x < n → P x → g x < n ∧ Q (g x)) (hi : ∀ x y, x < n → P x → y < n → P y → g x = g y → x = y) : k ≤ l := by
  obtain ⟨L, h1, h2, rfl⟩ := hp; obtain ⟨M, m1, m2, rfl⟩ := hq; rw [← List.length_map (f := g)]; refine nH _ _ ?_ ?_
  · rw [List.Nodup, List.pairwise_map]
    refine List.Pairwise.imp_of_mem ?_ h1; intro a b ha hb hab e; exact hab (hi a b ((h2 a).1 ha).1 ((h2 a).1 ha).2 ((h2 b).1 hb).1 ((h2 b).1 hb).2 e)
  · intro y hy
    obtain ⟨a, ha, rfl⟩ := List.mem_map.1 hy; exact (m2 _).2 (hg a ((h2 a).1 ha).1 ((h2 a).1 ha).2)
theorem Cnt.sub {n : Nat} {P Q : Nat → Prop} {k l : Nat} (hp : Cnt n P k) (hq : Cnt n Q l) (h : ∀ x, x < n → P x → Q x) : k ≤ l :=
  hp.le hq (fun x => x) (fun x hx px => ⟨hx, h x hx px⟩) (fun _ _ _ _ _ _ e => e)
theorem Cnt.same {n : Nat} {P Q : Nat → Prop} {k l : Nat} (hp : Cnt n P k) (hq : Cnt n Q l) (h : ∀ x, x < n → (P x ↔ Q x)) : k = l :=
  Nat.le_antisymm (hp.sub hq fun x hx => (h x hx).1) (hq.sub hp fun x hx => (h x hx).2)
theorem Cnt.congr {n : Nat} {P Q : Nat → Prop} {k : Nat} (hp : Cnt n P k) (h : ∀ x, x < n → (P x ↔ Q x)) : Cnt n Q k := by
  obtain ⟨L, h1, h2, h3⟩ := hp; exact ⟨L, h1, fun x => by rw [h2]; exact ⟨fun z => ⟨z.1, (h x z.1).1 z.2⟩, fun z => ⟨z.1, (h x z.1).2 z.2⟩⟩, h3⟩
theorem Cnt.reps {n : Nat} {P Q : Nat → Prop} {k l : Nat} (R : Nat → Nat → Prop) (hs : ∀ x y, R x y → R y x) (ht : ∀ x y z, R x y → R y z → R x z) (hp : Cnt n P k) (hq : Cnt n Q l)
    (h : ∀ x, x < n → P x → ∃ y, y < n ∧ Q y ∧ R x y) (hu : ∀ x y, x < n → P x → y < n → P y → R x y → x = y) : k ≤ l := by
  classical
  refine hp.le hq (fun x => if hx : x < n ∧ P x then Classical.choose (h x hx.1 hx.2) else 0) (fun x hx px => ?_) (fun x y hx px hy py e => ?_)
  · rw [dif_pos ⟨hx, px⟩]
    have := Classical.choose_spec (h x hx px); exact ⟨this.1, this.2.1⟩
  · rw [dif_pos ⟨hx, px⟩, dif_pos ⟨hy, py⟩] at e
    have h1 := (Classical.choose_spec (h x hx px)).2.2; have h2 := (Classical.choose_spec (h y hy py)).2.2; rw [e] at h1; exact hu x y hx px hy py (ht _ _ _ h1 (hs _ _ h2))
theorem Cnt.drop {n : Nat} {P Q : Nat → Prop} {k : Nat} (hp : Cnt n P k) (z : Nat) (hz : z < n) (pz : P z) (h : ∀ x, x < n → (Q x ↔ P x ∧ x ≠ z)) : 1 ≤ k ∧ Cnt n Q (k - 1) := by
  obtain ⟨L, h1, h2, rfl⟩ := hp; have hm : z ∈ L := (h2 z).2 ⟨hz, pz⟩; have := List.length_pos_of_mem hm; refine ⟨this, L.erase z, h1.erase z, fun x => ?_, List.length_erase_of_mem hm⟩; rw [h1.mem_erase_iff, h2]
  constructor
  · rintro ⟨a, b, c⟩; exact ⟨b, (h x b).2 ⟨c, a⟩⟩
  · rintro ⟨a, b⟩; have := (h x a).1 b; exact ⟨this.2, a, this.1⟩
def lst (R : Nat → Nat → Prop) (j : Nat) : Prop := ∀ i, i < j → ¬ R i j
def Cl (n : Nat) (R : Nat → Nat → Prop) (k : Nat) : Prop := Cnt n (lst R) k
theorem vn (R : Nat → Nat → Prop) (hr : ∀ x, R x x) (hs : ∀ x y, R x y → R y x) (ht : ∀ x y z, R x y → R y z → R x z) : ∀ x, ∃ y, y ≤ x ∧ lst R y ∧ R y x := by
  intro x
  induction x using Nat.strongRecOn with
  | ind x ih =>
    by_cases h : ∃ i, i < x ∧ R i x
    · obtain ⟨i, hi, hri⟩ := h
      obtain ⟨y, y1, y2, y3⟩ := ih i hi; exact ⟨y, by omega, y2, ht _ _ _ y3 hri⟩
    · exact ⟨x, Nat.le_refl _, fun i hi hri => h ⟨i, hi, hri⟩, hr x⟩
theorem zL (R : Nat → Nat → Prop) (hs : ∀ x y, R x y → R y x) (x y : Nat) (hx : lst R x) (hy : lst R y) (h : R x y) : x = y := by
  by_cases h1 : x < y
  · exact absurd h (hy x h1)
  · by_cases h2 : y < x
    · exact absurd (hs _ _ h) (hx y h2)
    · omega
theorem Cl.merge {n : Nat} {R S : Nat → Nat → Prop} {k : Nat} (hr : ∀ x, R x x) (hs : ∀ x y, R x y → R y x) (ht : ∀ x y z, R x y → R y z → R x z) (hk : Cl n R k) (a b : Nat) (ha : a < n) (hb : b < n) (hab : ¬ R a b)
    (hS : ∀ x y, S x y ↔ R x y ∨ (R x a ∧ R b y) ∨ (R x b ∧ R a y)) : 1 ≤ k ∧ Cl n S (k - 1) := by
  obtain ⟨p, p1, p2, p3⟩ := vn R hr hs ht a; obtain ⟨q, q1, q2, q3⟩ := vn R hr hs ht b
  have hpq : p ≠ q := by rintro rfl; exact hab (ht _ _ _ (hs _ _ p3) q3)
  have key : ∀ (p q a b : Nat), p < q → lst R p → lst R q → R p a → R q b → q < n → ¬ R a b → (∀ x y, S x y ↔ R x y ∨ (R x a ∧ R b y) ∨ (R x b ∧ R a y)) → 1 ≤ k ∧ Cl n S (k - 1) := by
    intro p q a b hlt p2 q2 p3 q3 hq hab hS
    refine Cnt.drop hk q hq q2 fun x hx => ⟨fun h => ⟨fun i hi z => h i hi ((hS _ _).2 (.inl z)), ?_⟩, fun ⟨h1, h2⟩ i hi z => ?_⟩
    · rintro rfl
      exact h p hlt ((hS _ _).2 (.inr (.inl ⟨p3, hs _ _ q3⟩)))
    · rcases (hS _ _).1 z with z | ⟨z1, z2⟩ | ⟨z1, z2⟩
      · exact h1 i hi z
      · exact h2 (zL R hs x q h1 q2 (ht _ _ _ (hs _ _ z2) (hs _ _ q3)))
      · have e := zL R hs x p h1 p2 (ht _ _ _ (hs _ _ z2) (hs _ _ p3))
        subst e; exact q2 i (by omega) (ht _ _ _ z1 (hs _ _ q3))
  rcases Nat.lt_or_gt_of_ne hpq with h | h
  · exact key p q a b h p2 q2 p3 q3 (by omega) hab hS
  · exact key q p b a h q2 p2 q3 p3 (by omega) (fun z => hab (hs _ _ z)) (fun x y => by rw [hS]; exact ⟨fun z => z.elim .inl (fun z => .inr (z.elim .inr .inl)), fun z => z.elim .inl (fun z => .inr (z.elim .inr .inl))⟩)
theorem mP (p : List Int) (n : Nat) (hp : inR n p) (hi : da n p) (S : Nat → Prop) (h : ∀ k, k < n → S k → S (rd p k).toNat) : qf [p] n S := by
  intro q hq k hk
  have e : q = p := by simpa using hq
  subst e; refine ⟨h k hk, fun hs => ?_⟩; obtain ⟨m, h1, h2⟩ := xR q n hp hi k (by omega)
  have g : ∀ (j : Nat) (x : Int), 0 ≤ x ∧ x < n → S x.toNat → S (itr q j x).toNat := by
    intro j
    induction j with
    | zero => intro x _ h; exact h
    | succ j ih =>
      intro x hx hsx; have := hp.2 x.toNat (by omega); have e := h x.toNat (by omega) hsx; rw [show ((x.toNat : Nat) : Int) = x by omega] at this e; exact ih _ this e
  have := g m (rd q k) (hp.2 k hk) hs; rw [show itr q m (rd q k) = itr q (m + 1) k from rfl, h2] at this
  simpa using this
theorem HQ (ps : List (List Int)) (p : List Int) (n : Nat) (hp : inR n p) (hm : p ∈ ps) : ∀ (k : Nat) (x : Int), 0 ≤ x ∧ x < n → Reach ps n x.toNat (itr p k x).toNat
  | 0, x, h => Reach.refl _ _ _
  | k + 1, x, h => by
    have h1 := hp.2 x.toNat (by omega); have h2 := Reach.step (ps := ps) (n := n) hm (k := x.toNat) (by omega); rw [show ((x.toNat : Nat) : Int) = x by omega] at h1 h2; exact h2.trans (HQ ps p n hp hm k _ h1)
theorem QW (p : List Int) (n : Nat) (hp : inR n p) (hi : da n p) (a b : Nat) (ha : a < n) (h : Reach [p] n a b) : ∃ k : Nat, itr p k (rd p a) = b := by
  have hc := mP p n hp hi (fun x => ∃ k : Nat, itr p k (rd p a) = x) (fun k hk ⟨m, hm⟩ => ⟨m + 1, by
    rw [nI p m 1, hm]; have := hp.2 k hk
    show rd p k = _
    omega⟩)
  obtain ⟨m, h1, h2⟩ := xR p n hp hi a (by omega); exact (h _ hc).1 ⟨m, h2⟩
theorem Oh (p : List Int) (x : Int) (b : Int) (k : Nat) (h : itr p k x = b) : ∃ m, m ≤ k ∧ itr p m x = b ∧ ∀ j, j < m → itr p j x ≠ b := by
  induction k using Nat.strongRecOn with
  | ind k ih =>
    by_cases e : ∃ j, j < k ∧ itr p j x = b
    · obtain ⟨j, h1, h2⟩ := e
      obtain ⟨m, m1, m2, m3⟩ := ih j h1 h2; exact ⟨m, by omega, m2, m3⟩
    · exact ⟨k, Nat.le_refl _, h, fun j hj z => e ⟨j, hj, z⟩⟩
def Exch (n : Nat) (p q : List Int) (a b : Nat) : Prop := a < n ∧ b < n ∧ a ≠ b ∧ rd q a = rd p b ∧ rd q b = rd p a ∧ ∀ x : Nat, x < n → x ≠ a → x ≠ b → rd q x = rd p x
theorem Exch.symm {n : Nat} {p q : List Int} {a b : Nat} (h : Exch n p q a b) : Exch n q p a b := ⟨h.1, h.2.1, h.2.2.1, h.2.2.2.2.1.symm, h.2.2.2.1.symm, fun x hx h1 h2 => (h.2.2.2.2.2 x hx h1 h2).symm⟩
theorem aaf {n : Nat} {p q : List Int} {a b : Nat} (hp : inR n p) (hq : inR n q) (ip : da n p) (iq : da n q) (h : Exch n p q a b) (hab : ¬ Reach [p] n a b) : Reach [q] n a b := by
  obtain ⟨ha, hb, hne, e1, e2, e3⟩ := h; obtain ⟨k, hk⟩ := QW p n hp ip b b hb (Reach.refl _ _ _); obtain ⟨m, m1, m2, m3⟩ := Oh p (rd p b) b k hk; have pb := hp.2 b hb
  have run : ∀ j, j ≤ m → Reach [q] n a (itr p j (rd p b)).toNat := by
    intro j
    induction j with
    | zero =>
      intro _; have := Reach.step (ps := [q]) (n := n) (p := q) (by simp) ha; rw [e1] at this; exact this
    | succ j ih =>
      intro hj; have h1 := ih (by omega); have h2 := nD p n hp j _ pb; have h3 := m3 j (by omega)
      have h4 : (itr p j (rd p b)).toNat ≠ a := by
        intro e
        apply hab
        have z := HQ [p] p n hp (by simp) (j + 1) (b : Int) (by omega); rw [show itr p (j + 1) (b : Int) = itr p j (rd p b) from rfl, e] at z; exact z.symm
      have s := Reach.step (ps := [q]) (n := n) (p := q) (by simp) (k := (itr p j (rd p b)).toNat) (by omega); rw [e3 _ (by omega) h4 (by omega), show (((itr p j (rd p b)).toNat : Nat) : Int) = itr p j (rd p b) by omega] at s; rw [nI p j 1]; exact h1.trans s
  have := run m (Nat.le_refl _); rw [m2] at this; exact this
theorem XX {n : Nat} {p q : List Int} {a b : Nat} (hp : inR n p) (hq : inR n q) (ip : da n p) (iq : da n q) (h : Exch n p q a b) (hab : Reach [p] n a b) : ¬ Reach [q] n a b := by
  obtain ⟨ha, hb, hne, e1, e2, e3⟩ := h; obtain ⟨k, hk⟩ := QW p n hp ip b a hb hab.symm; obtain ⟨m, m1, m2, m3⟩ := Oh p (rd p b) a k hk; have pb := hp.2 b hb
  have nb : ∀ j, j ≤ m → itr p j (rd p b) ≠ b := by
    intro j hj e
    by_cases ej : j = m
    · rw [ej, m2] at e
      omega
    · have : itr p (m - j - 1) (rd p b) = a := by
        have z : itr p m (rd p b) = itr p (m - j - 1) (rd p (itr p j (rd p b))) := by
          rw [show m = j + (1 + (m - j - 1)) by omega, nI, nI p 1]; rw [show j + (1 + (m - j - 1)) - j - 1 = m - j - 1 by omega]; rfl
        rw [e, m2] at z; exact z.symm
      exact m3 (m - j - 1) (by omega) this
  have hc := mP q n hq iq (fun x => ∃ j, j ≤ m ∧ itr p j (rd p b) = x) (fun x hx ⟨j, hj, hjx⟩ => by
    have qx := hq.2 x hx
    by_cases ex : x = a
    · subst ex
      exact ⟨0, by omega, by rw [e1]; show rd p b = _; omega⟩
    · have hxb : x ≠ b := by
        intro e; exact nb j hj (by rw [hjx, e])
      have jm : j ≠ m := by
        rintro rfl; rw [m2] at hjx; omega
      refine ⟨j + 1, by omega, ?_⟩; rw [nI p j 1, hjx, e3 x hx ex hxb]; have := hp.2 x hx
      show rd p x = _
      omega)
  intro hr; obtain ⟨j, hj, hjb⟩ := (hr _ hc).1 ⟨m, Nat.le_refl _, m2⟩; exact nb j hj hjb
theorem Cl.ex (n : Nat) (R : Nat → Nat → Prop) : ∃ k, Cl n R k ∧ k ≤ n := Cnt.ex _ n
theorem Cl.uniq {n : Nat} {R : Nat → Nat → Prop} {k l : Nat} (h : Cl n R k) (h' : Cl n R l) : k = l := Cnt.same h h' fun _ _ => Iff.rfl
theorem QT {n : Nat} {p q : List Int} {a b : Nat} (hp : inR n p) (hq : inR n q) (ip : da n p) (iq : da n q) (h : Exch n p q a b) (hab : ¬ Reach [p] n a b) (x y : Nat) :
    Reach [q] n x y ↔ Reach [p] n x y ∨ (Reach [p] n x a ∧ Reach [p] n b y) ∨ (Reach [p] n x b ∧ Reach [p] n a y) := by
  have hj := aaf hp hq ip iq h hab; obtain ⟨ha, hb, hne, e1, e2, e3⟩ := h
  have up : ∀ x y, Reach [p] n x y → Reach [q] n x y := by
    intro x y hr S hS
    refine hr S fun r hr' k hk => ?_
    have : r = p := by simpa using hr'
    subst this; have sq := hS q (by simp)
    by_cases ka : k = a
    · subst ka
      have z := sq b hb; rw [e2] at z; exact (hj S hS).trans z
    · by_cases kb : k = b
      · subst kb
        have z := sq a ha; rw [e1] at z; exact (hj S hS).symm.trans z
      · have z := sq k hk
        rw [e3 k hk ka kb] at z; exact z
  constructor
  · intro hr
    have hc : qf [q] n (fun z => Reach [p] n x z ∨ (Reach [p] n x a ∧ Reach [p] n b z) ∨ (Reach [p] n x b ∧ Reach [p] n a z)) := by
      refine mP q n hq iq _ fun k hk hz => ?_
      have stp : ∀ z, z < n → Reach [p] n z (rd p z).toNat := fun z hz => Reach.step (by simp) hz
      by_cases ka : k = a
      · subst ka
        rw [e1]
        rcases hz with z | ⟨z1, z2⟩ | ⟨z1, z2⟩
        · exact .inr (.inl ⟨z, stp b hb⟩)
        · exact .inr (.inl ⟨z1, stp b hb⟩)
        · exact .inl (z1.trans (stp b hb))
      · by_cases kb : k = b
        · subst kb
          rw [e2]
          rcases hz with z | ⟨z1, z2⟩ | ⟨z1, z2⟩
          · exact .inr (.inr ⟨z, stp a ha⟩)
          · exact .inl (z1.trans (stp a ha))
          · exact .inr (.inr ⟨z1, stp a ha⟩)
        · rw [e3 k hk ka kb]
          have s := stp k hk
          rcases hz with z | ⟨z1, z2⟩ | ⟨z1, z2⟩
          · exact .inl (z.trans s)
          · exact .inr (.inl ⟨z1, z2.trans s⟩)
          · exact .inr (.inr ⟨z1, z2.trans s⟩)
    exact (hr _ hc).1 (.inl (Reach.refl _ _ _))
  · rintro (z | ⟨z1, z2⟩ | ⟨z1, z2⟩)
    · exact up _ _ z
    · exact (up _ _ z1).trans (hj.trans (up _ _ z2))
    · exact (up _ _ z1).trans (hj.symm.trans (up _ _ z2))
theorem PO {n : Nat} {p q : List Int} {a b k l : Nat} (hp : inR n p) (hq : inR n q) (ip : da n p) (iq : da n q) (h : Exch n p q a b) (hk : Cl n (Reach [p] n) k) (hl : Cl n (Reach [q] n) l) :
    (¬ Reach [p] n a b → l + 1 = k) ∧ (Reach [p] n a b → l = k + 1) := by
  have sy : ∀ p : List Int, ∀ x y, Reach [p] n x y → Reach [p] n y x := fun p x y h => h.symm
  have tr : ∀ p : List Int, ∀ x y z, Reach [p] n x y → Reach [p] n y z → Reach [p] n x z := fun p x y z h h' => h.trans h'
  constructor
  · intro hab
    have := Cl.merge (S := Reach [q] n) (fun x => Reach.refl _ _ x) (sy p) (tr p) hk a b h.1 h.2.1 hab (QT hp hq ip iq h hab); have e := Cl.uniq hl this.2; omega
  · intro hab
    have hab' := XX hp hq ip iq h hab; have := Cl.merge (S := Reach [p] n) (fun x => Reach.refl _ _ x) (sy q) (tr q) hl a b h.1 h.2.1 hab' (QT hq hp iq ip h.symm hab'); have e := Cl.uniq hk this.2; omega
end Go.Proofs.Ytlpbalebodlipaa.PL

namespace Go.Proofs.Ytlpbalebodlipaa.PL
open Go.RowKit Go.Proofs.YtlpbalebodlipaaW.PrintWords Go.Proofs.YtlpbalebodlipaaW.PrintLast Go.Proofs.YtlpbalebodlipaaW.PrintMore
attribute [local go_sem] nV nQ nE ny nA nG nO nR   -- for this text's walks alone
set_option linter.unusedVariables false
set_option linter.unusedSimpArgs false
mutual
def hD.l0 : Nat → Int → List Int → Int → List Int → List Int → Option (List Int)
 | 0, _, _, _, _, _ => none
 | k + 1, x1, x5, x6, bL, bJ => if x6 < (x5.length : Int) then (if 0 ≤ x6 then (hD.l0 k x1 (x5.set (x6 : Int).toNat (x5.length : Int)) (wrap64 (x6 + 1)) bL bJ) else (none)) else (if 0 ≤ x1 then (if x1 < (x5.length : Int) then (hD.l1 k (x5.set (x1 : Int).toNat 0) 0 bL bJ) else (none)) else (none))
def hD.l1 : Nat → List Int → Int → List Int → List Int → Option (List Int)
 | 0, _, _, _, _ => none
 | k + 1, x5, x7, bL, bJ => if x7 < (wrap64 (2 * (x5.length : Int))) then (hD.l2 k x5 x7 0 bL bJ) else (some x5)
def hD.l2 : Nat → List Int → Int → Int → List Int → List Int → Option (List Int)
 | 0, _, _, _, _, _ => none
 | k + 1, x5, x7, x8, bL, bJ => if x8 < (x5.length : Int) then (if 0 ≤ x8 then (if x8 < (bJ.length : Int) then (if 0 ≤ (rd bJ x8) then (if (rd bJ x8) < (x5.length : Int) then ((some (x5.set (x8 : Int).toNat (mn (rd x5 x8) (wrap64 ((rd x5 (rd bJ x8)) + 1))) : List Int)).bind fun N2 => (if x8 < (bL.length : Int) then (if 0 ≤ (rd bL x8) then (if (rd bL x8) < (x5.length : Int) then (hD.l2 k (N2.set ((rd bL x8) : Int).toNat (mn (rd N2 (rd bL x8)) (rd N2 x8))) x7 (wrap64 (x8 + 1)) bL bJ) else (none)) else (none)) else (none))) else (none)) else (none)) else (none)) else (none)) else (hD.l1 k x5 (wrap64 (x7 + 1)) bL bJ)
end
def hD.f (k : Nat) (ag : List Int) (af : List Int) (a1 : Int) : Option (List Int) := if 0 ≤ (ag.length : Int) then (if ((ag.length : Int) : Int).toNat ≤ 35184372088832 then (hD.l0 k a1 (List.replicate ((ag.length : Int) : Int).toNat 0) 0 ag af) else (none)) else (none)
def hD.T13 : Bool × List (List Nat × List Nat) := (true, [([], []), ([], []), ([], []), ([], []), ([2, 3], [2, 3]), ([4], [4]), ([], []), ([], []), ([7], [7]), ([], []), ([8, 9], [8, 9]), ([10], [10]), ([6, 11], [6, 11]), ([12], [12]), ([13], [13]), ([5, 14], [5, 14]), ([0, 1, 0, 1, 2, 3, 4, 5, 6, 7, 8, 9, 10, 11, 12, 13, 14, 15], [0, 1]), ([16, 15, 0, 1, 2, 3, 4, 5, 6, 7, 8, 9, 10, 11, 12, 13, 14, 15], [15, 16])])
def hD.B13 : List Nat := [0, 0, 0, 0, 12, 28, 0, 0, 128, 0, 896, 1920, 4032, 8128, 16320, 32764, 65535, 131071]
def hD.T14 : Bool × List (List Nat × List Nat) := (true, [([], []), ([], []), ([1], [1]), ([], []), ([2, 3], [2, 3]), ([4], [4]), ([], []), ([], []), ([7], [7]), ([], []), ([8, 9], [8, 9]), ([10], [10]), ([6, 11], [6, 11]), ([12], [12]), ([], []), ([], []), ([14, 15], [14, 15]), ([16], [16]), ([13, 17], [13, 17]), ([0, 5, 0, 1, 2, 3, 4, 5, 6, 7, 8, 9, 10, 11, 12, 13, 14, 15, 16, 17, 18], [0, 5]), ([19, 18, 0, 1, 2, 3, 4, 5, 6, 7, 8, 9, 10, 11, 12, 13, 14, 15, 16, 17, 18], [18, 19])])
def hD.B14 : List Nat := [0, 0, 2, 0, 14, 30, 0, 0, 128, 0, 896, 1920, 4032, 8128, 0, 0, 49152, 114688, 262080, 524287, 1048575]
end Go.Proofs.Ytlpbalebodlipaa.PL
