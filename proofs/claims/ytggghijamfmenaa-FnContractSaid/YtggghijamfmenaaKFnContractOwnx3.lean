/- For every code: of the map and the edge that the statement draws, EdgeContract of the program answers what the reference answers; one vertex and one edge go, the faces and the genus stay; and where the dual's edge can be deleted, the rest is the dual of what is left. There are no conditions. -/
import Derived.Test.YtggghijamfmenaaKFnContractOwnx2
namespace Go.Proofs.Ytggghijamfmenaa.PC
open Go.RowKit Go.Proofs.YtggghijamfmenaaW.PrintWords Go.Proofs.YtggghijamfmenaaW.PrintLast Go.Proofs.YtggghijamfmenaaW.PrintMore
theorem z3_0 {p : Prop} (h : p := by (with_reducible repeat (first | refine blk_drewN ?_ _ | refine blk_drew ?_ | refine blk_alloc ?_ _)); refine blk_put (cs := #[.slice Ao57 xZ2_2.length co57, .slice none 0 0]) ?_ 1 _ rfl; (with_reducible repeat (first | refine blk_drewN ?_ _ | refine blk_drew ?_ | refine blk_alloc ?_ _)); refine blk_put (cs := #[.slice none 0 0, .slice none 0 0]) ?_ 0 _ rfl; (with_reducible repeat (first | refine blk_drewN ?_ _ | refine blk_drew ?_ | refine blk_alloc ?_ _)); exact BK461.out) : p := h
theorem z3_1 {p : Prop} (h : p := by first | exact hw467_0 | exact (HB.out.cell (World.block_lt_of_cell? w _ hw467_0)).trans hw467_0) : p := h
theorem z3_2 {p : Prop} (h : p := by exact (rU (Kd.R_mono (Kd.R_far (p := ⟨gb263, 0, none⟩) (Kd.R_far1 HO259.out rfl NE263_259.out) (fun _ hk => hk.2) (.int .i64 (rd l0_1 (rd t257 a1)))) (fun _ h_ => h_.1)))) : p := h
theorem z3_3 {p : Prop} (h : p := by first | exact hw473_0 | exact (HB.out.cell (World.block_lt_of_cell? w _ hw473_0)).trans hw473_0) : p := h
theorem z3_4 {p : Prop} (h : p := by exact (bU4 HB.out GW254.out GW255.out GW261.out GW263.out)) : p := h
theorem z3_5 {p : Prop} (h : p := by (with_reducible repeat (first | refine blk_drewN ?_ _ | refine blk_drew ?_ | refine blk_alloc ?_ _)); refine blk_put (cs := #[.int .i64 0]) ?_ 0 _ rfl; (with_reducible repeat (first | refine blk_drewN ?_ _ | refine blk_drew ?_ | refine blk_alloc ?_ _)); exact BK261.out) : p := h
theorem z3_6 {p : Prop} (h : p := by exact (bU3 HB.out GW460.out GW461.out GW466.out)) : p := h
theorem z3_7 {p : Prop} (h : p := by exact (bU2 HB.out GW460.out GW461.out)) : p := h
theorem z3_8 {p : Prop} (h : p := by exact (Kd.R_ne HO_9.out BK460.out (by decide))) : p := h
theorem z3_9 {p : Prop} (h : p := by exact (Kd.R_ne HO_9.out BK461.out (by decide))) : p := h
theorem z3_10 {p : Prop} (h : p := by exact (Kd.R_mono (Kd.R_far (p := ⟨gb261, 0, none⟩) (Kd.R_far1 HO259.out rfl NE261_259.out) (fun _ hk => hk.2) (.int .i64 (rd t257 a1))) (fun _ h_ => h_.1))) : p := h
attribute [local go_sem] max2_int min2_int max_two min_two max_three min_three max_four min_four   -- for this text's walks alone
set_option linter.unusedVariables false
set_option linter.unusedSimpArgs false
theorem edel.goes {P : Program} {ops : Array Oper} {Q : Exit → Act → World → Prop} {oi : Oper} {N : Option Tmp} {a : Act} {w : World} {K : Act → World → Prop} {f : FuncId} {fn : Func} {t : Operand} {as_ : Array Operand} {ts : Array TypeId} {caps : Array Value} (hf : P.funcs[f]? = some fn) (hname : (fn.name == "runtime.NumGoroutine") = false) (hb : fn.body.isSome = true) (args : Array Value)
  (hw : Region.wanted oi (yielded ops a.tmps) = true) (hN : oi.dst = N) (hop : oi.op = .call { callee := .value t, args := as_, argTypes := ts }) (hv : a.eval t = .func (.func f) #[] caps) (hargs : as_.map a.eval ++ caps = args)
  (h : Calls P f args w fun e w' => ∃ v, e = .returned v ∧ K (a.put N v) w') : if Region.wanted oi (yielded ops a.tmps) = true then Oper.wp P oi a w K Q else K (a.put N undef) w := by
 refine call_ f args hw hN ?_ h; have he := enters_ hf hname hb args w
 unfold execOp
 simp [hop, resolve, hv, Deferred.ofValue, invoke, hargs, he]
def edel.l0 (ca cb : Int) (lt lf : List Int) : Nat → Int → Option Int
 | 0, _ => none
 | k + 1, x => if x = ca then (if 0 ≤ x then (if x < (lt.length : Int) then edel.l0 ca cb lt lf k (rd lt x) else none) else none) else (if x = cb then (if 0 ≤ x then (if x < (lt.length : Int) then edel.l0 ca cb lt lf k (rd lt x) else none) else none) else some x)
def edel.f (k : Nat) (ca cb : Int) (lt lf : List Int) (x : Int) : Option Int := edel.l0 ca cb lt lf k x
set_option maxHeartbeats 4000000 in
set_option maxRecDepth 100000 in
theorem edel.calls (k : Nat) (x : Int) (ga gb gm : Nat) (ca cb : Int) (At : Option Addr) (ct : Nat) (lt : List Int) (Af : Option Addr) (cf : Nat) (lf : List Int) (r : Int) (w : World) (hba : w.heap[ga]? = some (.cells #[.int .i64 ca] 3 (0, 0))) (hbb : w.heap[gb]? = some (.cells #[.int .i64 cb] 3 (0, 0))) (hbm : w.heap[gm]? = some (.cells #[.slice At lt.length ct, .slice Af lf.length cf] 25 (0, 0))) (hrt : Kd.C (Kd.int .i64) w At lt.length lt) (hct : lt.length ≤ ct) (hrf : Kd.C (Kd.int .i64) w Af lf.length lf) (hcf : lf.length ≤ cf) (h : edel.f k ca cb lt lf x = some r) :
  Calls Try.prog 69 #[.int .i64 x, .pointer (some ⟨ga, 0, none⟩), .pointer (some ⟨gb, 0, none⟩), .pointer (some ⟨gm, 0, none⟩)] w fun e w' => e = .returned (.int .i64 r) ∧ Drawn0 w w' := by
 have hu9 := Try.underlying25; have HRT := Az hrt; have HRF := Az hrf; have hza : w.cell? ⟨ga, 0, none⟩ = some (.int .i64 ca) := (blk_cell hba 0).trans rfl; have hzb : w.cell? ⟨gb, 0, none⟩ = some (.int .i64 cb) := (blk_cell hbb 0).trans rfl; have hzt : w.cell? ⟨gm, 0, none⟩ = some (.slice At lt.length ct) := (blk_cell hbm 0).trans rfl; have hzf : w.cell? ⟨gm, 1, none⟩ = some (.slice Af lf.length cf) := (blk_cell hbm 1).trans rfl; have H' := Az h; clear hba hbb hbm hrt hct hrf hcf h; go_enter Try.func69, Try.ntmps69; go_wp2
 go_loopg [0] k (fun kq v0 w' => ∃ (d : Int), v0 = .int .i64 d ∧ Aside0 (edel.l0 ca cb lt lf kq d = some r) ∧ Aside0 (kq ≤ k) ∧ Drawn0 w w')
 case atStart => exact ⟨x, rfl, H', ⟨Nat.le_refl _⟩, Drawn0.refl _⟩
 case round =>
  clear H'; obtain ⟨d, rfl, HA, HK1, ⟨m1, rfl⟩⟩ := hrel
  rcases gk with _ | k1
  exact (nN HA.out).elim; have H := HA.out; clear HA; simp only [edel.l0] at H
  by_cases c1 : d = ca
  ·
   rw [if_pos c1] at H; have b1 : (d == ca) = true := beq_iff_eq.mpr c1; clear c1
   by_cases c3 : 0 ≤ d
   ·
    rw [if_pos c3] at H
    by_cases c4 : d < (lt.length : Int)
    ·
     rw [if_pos c4] at H; obtain ⟨at1, e1, hx1⟩ := Kd.at_int HRT.out d c3 c4
     cases e1
     have p3 : (0 ≤ d) = True := eq_true c3; have q4 : (d < (lt.length : Int)) = True := eq_true c4; clear c3 c4; have HH := Az H; clear H; go_wp2; go_roundg k1
     case measure => exact mO
     case rel => exact ⟨_, rfl, HH, ⟨mO⟩, by repeat (first | exact Drawn0.refl _ | apply Drawn0.step)⟩
    ·
     rw [if_neg c4] at H
     cases H
   ·
    rw [if_neg c3] at H
    cases H
  ·
   rw [if_neg c1] at H; have b1 : (d == ca) = false := beq_eq_false_iff_ne.mpr c1; clear c1
   by_cases c2 : d = cb
   ·
    rw [if_pos c2] at H; have b2 : (d == cb) = true := beq_iff_eq.mpr c2; clear c2
    by_cases c3 : 0 ≤ d
    ·
     rw [if_pos c3] at H
     by_cases c4 : d < (lt.length : Int)
     ·
      rw [if_pos c4] at H; obtain ⟨at1, e1, hx1⟩ := Kd.at_int HRT.out d c3 c4
      cases e1
      have p3 : (0 ≤ d) = True := eq_true c3; have q4 : (d < (lt.length : Int)) = True := eq_true c4; clear c3 c4; have HH := Az H; clear H; go_wp2; go_roundg k1
      case measure => exact mO
      case rel => exact ⟨_, rfl, HH, ⟨mO⟩, by repeat (first | exact Drawn0.refl _ | apply Drawn0.step)⟩
     ·
      rw [if_neg c4] at H
      cases H
    ·
     rw [if_neg c3] at H
     cases H
   · rw [if_neg c2] at H; have b2 : (d == cb) = false := beq_eq_false_iff_ne.mpr c2; clear c2; obtain rfl := Option.some.inj H; clear H; go_wp2; go_ret; exact ⟨rfl, by repeat (first | exact Drawn0.refl _ | apply Drawn0.step)⟩
mutual
def leftDel.l0 (ca cb : Int) (lt lf : List Int) : Nat → Int → Int → List Int → Int → Int → Int → List Int → List Int → Option (List Int × List Int)
 | 0, _, _, _, _, _, _, _, _ => none
 | k + 1, x1, x2, x9, x10, x19, x20, xZ0, xZ1 => if x20 < x19 then (if 0 ≤ x20 then (if x20 < (x9.length : Int) then ((some (x9.set (x20 : Int).toNat x10 : List Int)).bind fun y465 => (if x20 = x1 then (leftDel.l0 ca cb lt lf k x1 x2 y465 x10 x19 (wrap64 (x20 + 1)) xZ0 xZ1) else (if x20 = x2 then (leftDel.l0 ca cb lt lf k x1 x2 y465 x10 x19 (wrap64 (x20 + 1)) xZ0 xZ1) else (leftDel.l0 ca cb lt lf k x1 x2 y465 (wrap64 (x10 + 1)) x19 (wrap64 (x20 + 1)) xZ0 xZ1)))) else (none)) else (none)) else (leftDel.l1 ca cb lt lf k x1 x2 x9 (xZ0.length : Int) 0 xZ0 xZ1 ([] : List Int) ([] : List Int))
def leftDel.l1 (ca cb : Int) (lt lf : List Int) : Nat → Int → Int → List Int → Int → Int → List Int → List Int → List Int → List Int → Option (List Int × List Int)
 | 0, _, _, _, _, _, _, _, _, _ => none
 | k + 1, x1, x2, x9, x41, x42, xZ0, xZ1, xZ2, xZ3 => if x42 < x41 then (if x42 = x1 then (leftDel.l1 ca cb lt lf k x1 x2 x9 x41 (wrap64 (x42 + 1)) xZ0 xZ1 xZ2 xZ3) else (if x42 = x2 then (leftDel.l1 ca cb lt lf k x1 x2 x9 x41 (wrap64 (x42 + 1)) xZ0 xZ1 xZ2 xZ3) else (if 0 ≤ x42 then (if x42 < (xZ0.length : Int) then ((edel.f k ca cb lt lf (rd xZ0 x42)).bind fun t468 => (if 0 ≤ t468 then (if t468 < (x9.length : Int) then (if xZ2.length < 17592186044416 then (if x42 < (xZ1.length : Int) then (if 0 ≤ (rd xZ1 x42) then (if (rd xZ1 x42) < (x9.length : Int) then (if xZ3.length < 17592186044416 then (leftDel.l1 ca cb lt lf k x1 x2 x9 x41 (wrap64 (x42 + 1)) xZ0 xZ1 (xZ2 ++ [rd x9 t468]) (xZ3 ++ [rd x9 (rd xZ1 x42)])) else (none)) else (none)) else (none)) else (none)) else (none)) else (none)) else (none))) else (none)) else (none)))) else (some (xZ2, xZ3))
end
def leftDel.f (k : Nat) (l0_0 : List Int) (l0_1 : List Int) (a1 : Int) (a2 : Int) (ca cb : Int) (lt lf : List Int) : Option (List Int × List Int) := if 0 ≤ (l0_0.length : Int) then (if ((l0_0.length : Int) : Int).toNat ≤ 35184372088832 then ((some (List.replicate ((l0_0.length : Int) : Int).toNat 0 : List Int)).bind fun y462 => (leftDel.l0 ca cb lt lf k a1 a2 y462 0 (y462.length : Int) 0 l0_0 l0_1)) else (none)) else (none)
def leftDel.T14 : Bool × List (List Nat × List Nat) := (true, [([], []), ([0], [0]), ([], []), ([], []), ([], []), ([4], [4]), ([], []), ([5, 6], [5, 6]), ([7], [7]), ([3, 8], [3, 8]), ([2, 9], [2, 9]), ([10], [10]), ([11], [11]), ([1, 12, 9], [1, 12]), ([0, 1, 2, 3, 4, 5, 6, 7, 8, 9, 10, 11, 12, 13], []), ([14, 13, 13, 0, 1, 2, 3, 4, 5, 6, 7, 8, 9, 10, 11, 12, 13], [13, 14])])
def leftDel.B14 : List Nat := [0, 1, 0, 0, 0, 16, 0, 112, 240, 504, 1020, 2044, 4092, 8191, 16383, 32767]
theorem leftDel.tab14 : rtab .any (opsOf Try.f58 14) = leftDel.T14 := by kernel_rfl
theorem leftDel.bits14 : waitsOk leftDel.T14.2 leftDel.B14 = true := by kernel_rfl
def leftDel.T15 : Bool × List (List Nat × List Nat) := (true, [([], []), ([0], [0]), ([], []), ([], []), ([3], [3]), ([], []), ([4, 5], [4, 5]), ([6], [6]), ([2, 7], [2, 7]), ([8], [8]), ([9], [9]), ([1, 10], [1, 10]), ([0, 1, 2, 3, 4, 5, 6, 7, 8, 9, 10, 11], []), ([12, 11, 11, 0, 1, 2, 3, 4, 5, 6, 7, 8, 9, 10, 11], [11, 12])])
def leftDel.B15 : List Nat := [0, 1, 0, 0, 8, 0, 56, 120, 252, 508, 1020, 2047, 4095, 8191]
theorem leftDel.tab15 : rtab .any (opsOf Try.f58 15) = leftDel.T15 := by kernel_rfl
theorem leftDel.bits15 : waitsOk leftDel.T15.2 leftDel.B15 = true := by kernel_rfl
set_option maxHeartbeats 8000000 in
set_option maxRecDepth 100000 in
theorem leftDel.calls (k : Nat) (A0_0 : Option Addr) (c0_0 : Nat) (l0_0 : List Int) (A0_1 : Option Addr) (c0_1 : Nat) (l0_1 : List Int) (a1 : Int) (a2 : Int) (ga gb gm : Nat) (ca cb : Int) (At : Option Addr) (ct : Nat) (lt : List Int) (Af : Option Addr) (cf : Nat) (lf : List Int) (r1 : List Int) (r2 : List Int) (w : World) (hba : w.heap[ga]? = some (.cells #[.int .i64 ca] 3 (0, 0))) (hbb : w.heap[gb]? = some (.cells #[.int .i64 cb] 3 (0, 0))) (hbm : w.heap[gm]? = some (.cells #[.slice At lt.length ct, .slice Af lf.length cf] 25 (0, 0))) (hr0_0 : Kd.C (Kd.int .i64) w A0_0 l0_0.length l0_0) (hc0_0 : l0_0.length ≤ c0_0) (hr0_1 : Kd.C (Kd.int .i64) w A0_1 l0_1.length l0_1) (hc0_1 : l0_1.length ≤ c0_1) (hrt : Kd.C (Kd.int .i64) w At lt.length lt) (hct : lt.length ≤ ct) (hrf : Kd.C (Kd.int .i64) w Af lf.length lf) (hcf : lf.length ≤ cf) (h : leftDel.f k l0_0 l0_1 a1 a2 ca cb lt lf = some (r1, r2)) :
  Calls Try.prog 58 #[.agg #[.slice A0_0 l0_0.length c0_0, .slice A0_1 l0_1.length c0_1], .int .i64 a1, .int .i64 a2, .func (.func 69) #[] #[.pointer (some ⟨ga, 0, none⟩), .pointer (some ⟨gb, 0, none⟩), .pointer (some ⟨gm, 0, none⟩)]] w fun e w' => ∃ v0_ v1_ : Value, e = .returned (.agg #[v0_, v1_]) ∧ Kd.R (Kd.int .i64) 3 w' w.heap.size (fun k_ => oV k_ v1_) v0_ r1 ∧ Kd.R (Kd.int .i64) 3 w' w.heap.size (fun k_ => oV k_ v0_) v1_ r2 ∧ Below w.heap.size w w' := by
 have hu27 := Try.underlying25; have HR0_0 := Az hr0_0; have HC0_0 := Az hc0_0; clear hr0_0 hc0_0; have HR0_1 := Az hr0_1; have HC0_1 := Az hc0_1; clear hr0_1 hc0_1; have HB := bZ w; have HCA := Az hba; have HCB := Az hbb; have HCM := Az hbm; have HCT := Az hrt; have HCF := Az hrf; have LCT := Az hct; have LCF := Az hcf; clear hba hbb hbm hrt hrf hct hcf; have H := h; clear h; unfold leftDel.f at H; replace H := gE H; obtain ⟨c5b0, c5b1, H⟩ := H; replace H := gE H; obtain ⟨c6b0, c6b1, H⟩ := H; generalize Ny462 : (List.replicate ((l0_0.length : Int) : Int).toNat 0 : List Int) = y462 at H; simp only [Option.bind_some] at H; replace Ny462 := Ay Ny462; have H' := Az H; clear H; go_enter Try.func58, Try.ntmps58
 go_wp2_with (first | ((with_reducible refine gd 4 rfl ?_); refine bE 4 #[.slice A0_0 l0_0.length c0_0, .slice A0_1 l0_1.length c0_1] 25 ?_; intro gb460 hg w7 hbox hb; have BK460 := Az (hbox); have GW460 := gW hg (bU0 HB.out); replace HB := Az (below_step (bU0 HB.out) hb); clear hb hbox hg) | ((with_reducible refine gd 8 rfl ?_); refine bE 8 #[.slice none 0 0, .slice none 0 0] 25 ?_; intro gb461 hg w8 hbox hb; have BK461 := Az (hbox); have GW461 := gW hg (bU1 HB.out GW460.out); replace HB := Az (below_step (bU1 HB.out GW460.out) hb); have NB460_461 := nL hg (kU BK460.out); replace BK460 := kB BK460.out hb; clear hb hbox hg; have hnb9 := NB460_461.out; have hnc9 := (NB460_461.out).symm; have hz10 := bc2 BK460.out) | ((with_reducible refine gd 17 rfl ?_); refine Kd.R_make (Kd.int .i64) _ 3 rfl (N := 17) rfl 23 _ _ rfl (l0_0.length : Int) rfl rfl Try.underlying23 (.int .i64 0) 8 info3 rfl (by decide) (by omega) 0 (ok := fun _ => True) (okp := fun _ => True) rfl (fun _ hk => hk) trivial (oA) (Nat.le_trans (Nat.mul_le_mul_right _ (oA : (l0_0.length : Int).toNat ≤ 35184372088832)) (by omega)) (Below.refl _ _) (Nat.le_refl _) ?_; intro v463 w11 ho12 hb hg_ hnew_; clear hg_ hnew_; (first | rw [← Ny462.out] at ho12 | (simp only [Int.reduceToNat] at ho12; rw [← Ny462.out] at ho12)); have HO464 := Az (Kd.R_lower ho12 (below_size z3_7)); replace BK460 := kB BK460.out hb; replace BK461 := kB BK461.out hb; replace HB := Az (below_step z3_7 hb); clear hb ho12; obtain ⟨Ao13, co13, eo13⟩ := Kd.R_slice HO464.out; subst eo13))
 go_loopg [10, 20] k (fun kq v10 v20 w' => ∃ (x9_1 : List Int) (x10_1 : Int) (x20_1 : Int), v10 = .int .i64 x10_1 ∧ v20 = .int .i64 x20_1 ∧ Aside0 (leftDel.l0 ca cb lt lf kq a1 a2 x9_1 x10_1 (y462.length : Int) x20_1 l0_0 l0_1 = some (r1, r2)) ∧ Aside0 (kq ≤ k) ∧ Aside0 (Kd.R (Kd.int .i64) 3 w' w.heap.size (fun _ => True) (.slice Ao13 y462.length co13) x9_1) ∧ Aside0 (w'.heap[gb460]? = some (.cells #[(.slice A0_0 l0_0.length c0_0), (.slice A0_1 l0_1.length c0_1)] 25 (0, 0))) ∧ Aside0 (w'.heap[gb461]? = some (.cells #[(.slice none 0 0), (.slice none 0 0)] 25 (0, 0))) ∧ Aside0 (Below w.heap.size w w'))
 case atStart => exact ⟨(y462), (0), (0), rS, rS, H', ⟨Nat.le_refl _⟩, ⟨rU HO464.out⟩, ⟨kU BK460.out⟩, ⟨kU BK461.out⟩, ⟨bU2 HB.out GW460.out GW461.out⟩⟩
 case round =>
  clear H'; obtain ⟨x9_1, x10_1, x20_1, rfl, rfl, HA, HK1, HO_9, BK460, BK461, HB⟩ := hrel; have hl9_1 := (Kd.R_reads' HO_9.out).1; rw [hl9_1] at HO_9; simp only [hl9_1]
  rcases gk with _ | k1
  exact (nN HA.out).elim; have H := HA.out; clear HA; simp only [leftDel.l0] at H
  by_cases c14 : x20_1 < (y462.length : Int)
  ·
   rw [if_pos c14] at H; have c14b0 := decide_eq_true c14; (have c14b0hl9_1 := c14b0; rw [hl9_1] at c14b0hl9_1); (have c14b0hl9_1 := c14b0; rw [hl9_1] at c14b0hl9_1); clear c14; replace H := gD1 H; obtain ⟨c15b0, H⟩ := H; replace H := gP H; obtain ⟨c16, H⟩ := H; have c16b0 := decide_eq_true c16; clear c16; generalize Ny465 : (x9_1.set (x20_1 : Int).toNat x10_1 : List Int) = y465 at H; simp only [Option.bind_some] at H; replace Ny465 := Ay Ny465
   replace H := gQ H; rcases H with ⟨c18b0, c18b1, H⟩ | ⟨c18b0, c18b1, H⟩
   ·
    have H' := Az H; clear H; have p17 : 0 ≤ (x20_1 : Int) := oA; have q17 : (x20_1 : Int) < ((x9_1.length : Int) : Int) := oA; obtain ⟨go17, co17, eo17, gb17, gl17, cl17, HG17⟩ := Kd.R_form HO_9.out (by omega); (first | cases eo17 | (injection eo17 with ea_ en_ ec_; (first | subst ea_ | (injection ea_ with ea_; subst ea_)); subst ec_; clear en_)); have GB17 := Az gb17; have GG17 := Az HG17; clear gb17 gl17 HG17; obtain ⟨hx17_0, hf17_0⟩ := Kd.R_celln 0 HO_9.out (x20_1 : Int) p17 q17; replace p17 := eq_true p17; replace q17 := eq_true q17; obtain ⟨hy19_, hz19_⟩ := Kd.R_celln 0 HO_9.out (x20_1 : Int) (oA) (oA); have HP19 := Kd.R_putg HO_9.out (x20_1 : Int) x10_1
    go_wp2_with (first | ((with_reducible refine gs 3 26 rfl ?_); refine sE 3 26 (wr.setCell ⟨go17, (x20_1 : Int).toNat, none⟩ (.int .i64 x10_1)) ?_; intro w20 hw; have hg : wr.grownBy w20 (some go17) := (by rw [hw]; exact HP19.2); have hp_ : Kd.R (Kd.int .i64) 3 w20 w.heap.size (fun _ => True) (.slice (some ⟨go17, 0, none⟩) x9_1.length co13) y465 := (by rw [hw, Ny465.out]; exact HP19.1); clear HP19; replace BK460 := Az (kG BK460.out hg z3_8); replace BK461 := Az (kG BK461.out hg z3_9); replace HO_9 := Az (hp_); replace HB := Az ((by rw [hw]; exact below_set (HB.out) GB17.out : Below w.heap.size w w20)); clear hg hw hp_))
    simp only [← hl9_1]; go_roundg k1
    case measure => exact mO
    case rel => exact ⟨(y465), (x10_1), (wrap64 (x20_1 + 1)), rS, rS, H', ⟨mO⟩, ⟨by simp only [hl9_1]; (with_reducible repeat (first | apply Kd.R_alloc | apply Kd.R_drewN | apply Kd.R_drew)); exact HO_9.out⟩, ⟨by (with_reducible repeat (first | refine blk_drewN ?_ _ | refine blk_drew ?_ | refine blk_alloc ?_ _)); exact BK460.out⟩, ⟨by (with_reducible repeat (first | refine blk_drewN ?_ _ | refine blk_drew ?_ | refine blk_alloc ?_ _)); exact BK461.out⟩, ⟨bU2 HB.out GW460.out GW461.out⟩⟩
   ·
    replace H := gQ H; rcases H with ⟨c21b0, c21b1, H⟩ | ⟨c21b0, c21b1, H⟩
    ·
     have H' := Az H; clear H; have p17 : 0 ≤ (x20_1 : Int) := oA; have q17 : (x20_1 : Int) < ((x9_1.length : Int) : Int) := oA; obtain ⟨go17, co17, eo17, gb17, gl17, cl17, HG17⟩ := Kd.R_form HO_9.out (by omega); (first | cases eo17 | (injection eo17 with ea_ en_ ec_; (first | subst ea_ | (injection ea_ with ea_; subst ea_)); subst ec_; clear en_)); have GB17 := Az gb17; have GG17 := Az HG17; clear gb17 gl17 HG17; obtain ⟨hx17_0, hf17_0⟩ := Kd.R_celln 0 HO_9.out (x20_1 : Int) p17 q17; replace p17 := eq_true p17; replace q17 := eq_true q17; obtain ⟨hy22_, hz22_⟩ := Kd.R_celln 0 HO_9.out (x20_1 : Int) (oA) (oA); have HP22 := Kd.R_putg HO_9.out (x20_1 : Int) x10_1
     go_wp2_with (first | ((with_reducible refine gs 3 26 rfl ?_); refine sE 3 26 (wr.setCell ⟨go17, (x20_1 : Int).toNat, none⟩ (.int .i64 x10_1)) ?_; intro w23 hw; have hg : wr.grownBy w23 (some go17) := (by rw [hw]; exact HP22.2); have hp_ : Kd.R (Kd.int .i64) 3 w23 w.heap.size (fun _ => True) (.slice (some ⟨go17, 0, none⟩) x9_1.length co13) y465 := (by rw [hw, Ny465.out]; exact HP22.1); clear HP22; replace BK460 := Az (kG BK460.out hg z3_8); replace BK461 := Az (kG BK461.out hg z3_9); replace HO_9 := Az (hp_); replace HB := Az ((by rw [hw]; exact below_set (HB.out) GB17.out : Below w.heap.size w w23)); clear hg hw hp_))
     simp only [← hl9_1]; go_roundg k1
     case measure => exact mO
     case rel => exact ⟨(y465), (x10_1), (wrap64 (x20_1 + 1)), rS, rS, H', ⟨mO⟩, ⟨by simp only [hl9_1]; (with_reducible repeat (first | apply Kd.R_alloc | apply Kd.R_drewN | apply Kd.R_drew)); exact HO_9.out⟩, ⟨by (with_reducible repeat (first | refine blk_drewN ?_ _ | refine blk_drew ?_ | refine blk_alloc ?_ _)); exact BK460.out⟩, ⟨by (with_reducible repeat (first | refine blk_drewN ?_ _ | refine blk_drew ?_ | refine blk_alloc ?_ _)); exact BK461.out⟩, ⟨bU2 HB.out GW460.out GW461.out⟩⟩
    ·
     have H' := Az H; clear H; have p17 : 0 ≤ (x20_1 : Int) := oA; have q17 : (x20_1 : Int) < ((x9_1.length : Int) : Int) := oA; obtain ⟨go17, co17, eo17, gb17, gl17, cl17, HG17⟩ := Kd.R_form HO_9.out (by omega); (first | cases eo17 | (injection eo17 with ea_ en_ ec_; (first | subst ea_ | (injection ea_ with ea_; subst ea_)); subst ec_; clear en_)); have GB17 := Az gb17; have GG17 := Az HG17; clear gb17 gl17 HG17; obtain ⟨hx17_0, hf17_0⟩ := Kd.R_celln 0 HO_9.out (x20_1 : Int) p17 q17; replace p17 := eq_true p17; replace q17 := eq_true q17; obtain ⟨hy24_, hz24_⟩ := Kd.R_celln 0 HO_9.out (x20_1 : Int) (oA) (oA); have HP24 := Kd.R_putg HO_9.out (x20_1 : Int) x10_1
     go_wp2_with (first | ((with_reducible refine gs 3 26 rfl ?_); refine sE 3 26 (wr.setCell ⟨go17, (x20_1 : Int).toNat, none⟩ (.int .i64 x10_1)) ?_; intro w25 hw; have hg : wr.grownBy w25 (some go17) := (by rw [hw]; exact HP24.2); have hp_ : Kd.R (Kd.int .i64) 3 w25 w.heap.size (fun _ => True) (.slice (some ⟨go17, 0, none⟩) x9_1.length co13) y465 := (by rw [hw, Ny465.out]; exact HP24.1); clear HP24; replace BK460 := Az (kG BK460.out hg z3_8); replace BK461 := Az (kG BK461.out hg z3_9); replace HO_9 := Az (hp_); replace HB := Az ((by rw [hw]; exact below_set (HB.out) GB17.out : Below w.heap.size w w25)); clear hg hw hp_))
     simp only [← hl9_1]; go_roundg k1
     case measure => exact mO
     case rel => exact ⟨(y465), (wrap64 (x10_1 + 1)), (wrap64 (x20_1 + 1)), rS, rS, H', ⟨mO⟩, ⟨by simp only [hl9_1]; (with_reducible repeat (first | apply Kd.R_alloc | apply Kd.R_drewN | apply Kd.R_drew)); exact HO_9.out⟩, ⟨by (with_reducible repeat (first | refine blk_drewN ?_ _ | refine blk_drew ?_ | refine blk_alloc ?_ _)); exact BK460.out⟩, ⟨by (with_reducible repeat (first | refine blk_drewN ?_ _ | refine blk_drew ?_ | refine blk_alloc ?_ _)); exact BK461.out⟩, ⟨bU2 HB.out GW460.out GW461.out⟩⟩
  ·
   rw [if_neg c14] at H; have c14b0 := decide_eq_false c14; (have c14b0hl9_1 := c14b0; rw [hl9_1] at c14b0hl9_1); (have c14b0hl9_1 := c14b0; rw [hl9_1] at c14b0hl9_1); clear c14; have H' := Az H; clear H
   go_wp2_with (first | ((with_reducible refine gd 12 rfl ?_); refine bE 12 #[.slice none 0 0, .slice none 0 0] 25 ?_; intro gb466 hg w26 hbox hb; replace HO_9 := rB HO_9.out hb; have BK466 := Az (hbox); have GW466 := gW hg z3_7; replace HB := Az (below_step z3_7 hb); have NB460_466 := nL hg (kU BK460.out); replace BK460 := kB BK460.out hb; have NB461_466 := nL hg (kU BK461.out); replace BK461 := kB BK461.out hb; clear hb hbox hg; have hnb27 := nP NB460_466; have hnb28 := nP NB461_466; have hz29 := bc2 BK466.out; have hnb30 := NB460_461.out; have hnc30 := (NB460_461.out).symm; have hz31 := bc2 BK460.out))
   go_loopg [42] k1 (fun kq v42 w' => ∃ (x42_2 : Int) (xZ2_2 : List Int) (xZ3_2 : List Int) (uZ2 : Value) (uZ3 : Value), v42 = .int .i64 x42_2 ∧ Aside0 (leftDel.l1 ca cb lt lf kq a1 a2 x9_1 (l0_0.length : Int) x42_2 l0_0 l0_1 xZ2_2 xZ3_2 = some (r1, r2)) ∧ Aside0 (kq ≤ k1) ∧ Aside0 (Kd.R (Kd.int .i64) 3 w' w.heap.size (fun k_ => oV k_ uZ2 ∧ oV k_ uZ3) (.slice Ao13 x9_1.length co13) x9_1) ∧ Aside0 (Kd.R (Kd.int .i64) 3 w' w.heap.size (fun k_ => some k_ ≠ ((.slice Ao13 x9_1.length co13) : Value).ownBlock ∧ oV k_ uZ3) uZ2 xZ2_2) ∧ Aside0 (Kd.R (Kd.int .i64) 3 w' w.heap.size (fun k_ => some k_ ≠ ((.slice Ao13 x9_1.length co13) : Value).ownBlock ∧ oV k_ uZ2) uZ3 xZ3_2) ∧ Aside0 (w'.heap[gb460]? = some (.cells #[(.slice A0_0 l0_0.length c0_0), (.slice A0_1 l0_1.length c0_1)] 25 (0, 0))) ∧ Aside0 (w'.heap[gb461]? = some (.cells #[(.slice none 0 0), (.slice none 0 0)] 25 (0, 0))) ∧ Aside0 (w'.heap[gb466]? = some (.cells #[uZ2, uZ3] 25 (0, 0))) ∧ Aside0 (Below w.heap.size w w'))
   case atStart => exact ⟨(0), (([] : List Int)), (([] : List Int)), (.slice none 0 0), (.slice none 0 0), rS, H', ⟨Nat.le_refl _⟩, ⟨by (with_reducible repeat (first | apply Kd.R_alloc | apply Kd.R_drewN | apply Kd.R_drew)); exact Kd.R_mono (Kd.R_far (p := ⟨gb466, 1, none⟩) (Kd.R_far (p := ⟨gb466, 0, none⟩) (Kd.R_types HO_9.out BK466.out (by decide)) (fun _ hk => hk.2) (.slice none 0 0)) (fun _ hk => hk.2) (.slice none 0 0)) (fun _ hk => ⟨(by simp [oV, oS, Value.ownBlock]), (by simp [oV, oS, Value.ownBlock])⟩)⟩, ⟨by first | exact Kd.R_nil _ _ _ _ _ | exact Kd.N_nil _ _ _ _ _ | exact Kd.V_nil _ _ _ _ _ | exact Kd.Q_nil _ _ _ _ _ | exact Kd.S_nil _ _ _ _ _⟩, ⟨by first | exact Kd.R_nil _ _ _ _ _ | exact Kd.N_nil _ _ _ _ _ | exact Kd.V_nil _ _ _ _ _ | exact Kd.Q_nil _ _ _ _ _ | exact Kd.S_nil _ _ _ _ _⟩, ⟨by (with_reducible repeat (first | refine blk_drewN ?_ _ | refine blk_drew ?_ | refine blk_alloc ?_ _)); refine blk_far ?_ NB460_466.out _; (with_reducible repeat (first | refine blk_drewN ?_ _ | refine blk_drew ?_ | refine blk_alloc ?_ _)); refine blk_far ?_ NB460_466.out _; (with_reducible repeat (first | refine blk_drewN ?_ _ | refine blk_drew ?_ | refine blk_alloc ?_ _)); exact BK460.out⟩, ⟨by (with_reducible repeat (first | refine blk_drewN ?_ _ | refine blk_drew ?_ | refine blk_alloc ?_ _)); refine blk_far ?_ NB461_466.out _; (with_reducible repeat (first | refine blk_drewN ?_ _ | refine blk_drew ?_ | refine blk_alloc ?_ _)); refine blk_far ?_ NB461_466.out _; (with_reducible repeat (first | refine blk_drewN ?_ _ | refine blk_drew ?_ | refine blk_alloc ?_ _)); exact BK461.out⟩, ⟨by (with_reducible repeat (first | refine blk_drewN ?_ _ | refine blk_drew ?_ | refine blk_alloc ?_ _)); refine blk_put (cs := #[.slice none 0 0, .slice none 0 0]) ?_ 1 _ rfl; (with_reducible repeat (first | refine blk_drewN ?_ _ | refine blk_drew ?_ | refine blk_alloc ?_ _)); refine blk_put (cs := #[.slice none 0 0, .slice none 0 0]) ?_ 0 _ rfl; (with_reducible repeat (first | refine blk_drewN ?_ _ | refine blk_drew ?_ | refine blk_alloc ?_ _)); exact BK466.out⟩, ⟨bU3 HB.out GW460.out GW461.out GW466.out⟩⟩
   case round =>
    clear H'; obtain ⟨x42_2, xZ2_2, xZ3_2, uZ2, uZ3, rfl, HA, HK2, HO_9, HO_Z2, HO_Z3, BK460, BK461, BK466, HB⟩ := hrel
    rcases gk with _ | k2
    exact (nN HA.out).elim; have H := HA.out; clear HA; simp only [leftDel.l1] at H
    by_cases c32 : x42_2 < (l0_0.length : Int)
    ·
     rw [if_pos c32] at H; have c32b0 := decide_eq_true c32; clear c32
     replace H := gQ H; rcases H with ⟨c33b0, c33b1, H⟩ | ⟨c33b0, c33b1, H⟩
     ·
      have H' := Az H; clear H; go_wp2; go_roundg k2
      case measure => exact mO
      case rel => exact ⟨(wrap64 (x42_2 + 1)), (xZ2_2), (xZ3_2), (uZ2), (uZ3), rS, H', ⟨mO⟩, ⟨by (with_reducible repeat (first | apply Kd.R_alloc | apply Kd.R_drewN | apply Kd.R_drew)); exact HO_9.out⟩, ⟨by (with_reducible repeat (first | apply Kd.R_alloc | apply Kd.R_drewN | apply Kd.R_drew)); exact HO_Z2.out⟩, ⟨by (with_reducible repeat (first | apply Kd.R_alloc | apply Kd.R_drewN | apply Kd.R_drew)); exact HO_Z3.out⟩, ⟨by (with_reducible repeat (first | refine blk_drewN ?_ _ | refine blk_drew ?_ | refine blk_alloc ?_ _)); exact BK460.out⟩, ⟨by (with_reducible repeat (first | refine blk_drewN ?_ _ | refine blk_drew ?_ | refine blk_alloc ?_ _)); exact BK461.out⟩, ⟨by (with_reducible repeat (first | refine blk_drewN ?_ _ | refine blk_drew ?_ | refine blk_alloc ?_ _)); exact BK466.out⟩, ⟨bU3 HB.out GW460.out GW461.out GW466.out⟩⟩
     ·
      replace H := gQ H; rcases H with ⟨c34b0, c34b1, H⟩ | ⟨c34b0, c34b1, H⟩
      ·
       have H' := Az H; clear H; go_wp2; go_roundg k2
       case measure => exact mO
       case rel => exact ⟨(wrap64 (x42_2 + 1)), (xZ2_2), (xZ3_2), (uZ2), (uZ3), rS, H', ⟨mO⟩, ⟨by (with_reducible repeat (first | apply Kd.R_alloc | apply Kd.R_drewN | apply Kd.R_drew)); exact HO_9.out⟩, ⟨by (with_reducible repeat (first | apply Kd.R_alloc | apply Kd.R_drewN | apply Kd.R_drew)); exact HO_Z2.out⟩, ⟨by (with_reducible repeat (first | apply Kd.R_alloc | apply Kd.R_drewN | apply Kd.R_drew)); exact HO_Z3.out⟩, ⟨by (with_reducible repeat (first | refine blk_drewN ?_ _ | refine blk_drew ?_ | refine blk_alloc ?_ _)); exact BK460.out⟩, ⟨by (with_reducible repeat (first | refine blk_drewN ?_ _ | refine blk_drew ?_ | refine blk_alloc ?_ _)); exact BK461.out⟩, ⟨by (with_reducible repeat (first | refine blk_drewN ?_ _ | refine blk_drew ?_ | refine blk_alloc ?_ _)); exact BK466.out⟩, ⟨bU3 HB.out GW460.out GW461.out GW466.out⟩⟩
      ·
       replace H := gD1 H; obtain ⟨c35b0, H⟩ := H; replace H := gP H; obtain ⟨c36, H⟩ := H; have c36b0 := decide_eq_true c36; clear c36; replace H := bd H; obtain ⟨t468, A37, H⟩ := H; replace H := gD1 H; obtain ⟨c38b0, H⟩ := H; replace H := gP H; obtain ⟨c39, H⟩ := H; have c39b0 := decide_eq_true c39; clear c39; replace H := gP H; obtain ⟨c40, H⟩ := H; have LMc40 := Az c40; clear c40; generalize Ny470 : (xZ2_2 ++ [rd x9_1 t468] : List Int) = y470 at H; replace Ny470 := Ay Ny470; replace H := gP H; obtain ⟨c41, H⟩ := H; have c41b0 := decide_eq_true c41; clear c41; replace H := gD1 H; obtain ⟨c42b0, H⟩ := H; replace H := gP H; obtain ⟨c43, H⟩ := H; have c43b0 := decide_eq_true c43; clear c43; replace H := gP H; obtain ⟨c44, H⟩ := H; have LMc44 := Az c44; clear c44; generalize Ny475 : (xZ3_2 ++ [rd x9_1 (rd l0_1 x42_2)] : List Int) = y475 at H; replace Ny475 := Ay Ny475; have H' := Az H; clear H
       try go_wp2
       replace HO_9 := Az (Kd.R_drew HO_9.out); replace HO_Z2 := Az (Kd.R_drew HO_Z2.out); replace HO_Z3 := Az (Kd.R_drew HO_Z3.out); replace BK460 := Az (blk_drew BK460.out); replace BK461 := Az (blk_drew BK461.out); replace BK466 := Az (blk_drew BK466.out); replace HB := Az (below_drew1 HB.out); obtain ⟨ad467, e467, _, _, hx467_0⟩ := aI HR0_0.out x42_2; have hw467_0 := hx467_0
       cases e467
       replace hx467_0 := hT HB.out hx467_0; obtain ⟨ad469, e469, _, _, hx469_0⟩ := aI (Kd.R_reads' HO_9.out).2.2 t468
       cases e469; refine start_ (n := 16) (S := fun w' => w'.cell? ⟨gb466, 0, none⟩ = some (uZ2) ∧ w'.cell? ⟨gb466, 1, none⟩ = some (uZ3) ∧ w'.cell? ⟨gb460, 0, none⟩ = some (.slice (some ad467) l0_0.length c0_0) ∧ w'.cell? ⟨gb460, 1, none⟩ = some (.slice A0_1 l0_1.length c0_1) ∧ w'.cell? (ad467.add (x42_2).toNat) = some (.int .i64 (rd l0_0 x42_2)) ∧ w'.cell? (ad469.add (t468).toNat) = some (.int .i64 (rd x9_1 t468))) (ds := [13, 15]) (bv 16 0) (by kernel_rfl) rfl rfl ⟨(blk_cell BK466.out 0).trans rfl, (blk_cell BK466.out 1).trans rfl, (blk_cell BK460.out 0).trans rfl, (blk_cell BK460.out 1).trans rfl, z3_1, hx469_0⟩ (fun hHeld => ?_); refine with_tabW leftDel.tab14 leftDel.bits14 (fun HT_ HW_ => ?_); generalize wr.drew = w45 at HO_9 HO_Z2 HO_Z3 BK460 BK461 BK466 HB hx467_0 hx469_0 hHeld ⊢; refine pure_ (i := 0) (N := some 53) (v := ?_) (a' := ?_) (bv 16 1) rfl rfl (any_of HT_.out (by kernel_rfl)) (fun _ _ _ h => h) (Or.inl ⟨by rfl, ?_⟩) ?_ ?_; rotate_left; (exact yP); rotate_left; (exact aP); refine pure_ (i := 2) (N := some 55) (v := ?_) (a' := ?_) (bv 16 5) rfl rfl (any_of HT_.out (by kernel_rfl)) (fun _ _ _ h => h) (Or.inl ⟨by rfl, ?_⟩) ?_ ?_; rotate_left; (exact yP); rotate_left; (exact aP); refine pure_ (i := 3) (N := some 56) (v := ?_) (a' := ?_) (bv 16 13) rfl rfl (any_of HT_.out (by kernel_rfl)) (fun _ _ _ h => h) (Or.inl ⟨by rfl, ?_⟩) ?_ ?_; rotate_left; (exact yP); rotate_left; (exact aP); refine pure_ (i := 4) (N := some 57) (v := ?_) (a' := ?_) (bv 16 29) rfl rfl (any_of HT_.out (by kernel_rfl)) (fun _ _ _ h => h) (Or.inl ⟨by rfl, ?_⟩) ?_ ?_; rotate_left; (exact yP); rotate_left; (exact aP); refine pure_ (i := 6) (N := some 59) (v := ?_) (a' := ?_) (bv 16 93) rfl rfl (any_of HT_.out (by kernel_rfl)) (fun _ _ _ h => h) (Or.inl ⟨by rfl, ?_⟩) ?_ ?_; rotate_left; (exact yP); rotate_left; (exact aP); refine take_ (i := 1) (N := some 54) (v := ?_) (a' := ?_) (bv 16 95) rfl rfl (take_ofW HT_.out HW_.out (by kernel_rfl)) (fun _ _ _ h => h) (Or.inl ⟨by rfl, ?_⟩) hHeld ?_ ?_; rotate_left
       ·
        rintro w' ⟨s0, s1, s2, s3, s4, s5⟩; go_simp
        with_reducible rfl
       rotate_left; (exact aP); refine take_ (i := 5) (N := some 58) (v := ?_) (a' := ?_) (bv 16 127) rfl rfl (take_ofW HT_.out HW_.out (by kernel_rfl)) (fun _ _ _ h => h) (Or.inl ⟨by rfl, ?_⟩) hHeld ?_ ?_; rotate_left
       ·
        rintro w' ⟨s0, s1, s2, s3, s4, s5⟩; go_simp
        with_reducible rfl
       rotate_left; (exact aP); refine pure_ (i := 7) (N := some 60) (v := ?_) (a' := ?_) (bv 16 255) rfl rfl (any_of HT_.out (by kernel_rfl)) (fun _ _ _ h => h) (Or.inl ⟨by rfl, ?_⟩) ?_ ?_; rotate_left; (exact yP); rotate_left; (exact aP); refine take_ (i := 8) (N := some 61) (v := ?_) (a' := ?_) (bv 16 511) rfl rfl (take_ofW HT_.out HW_.out (by kernel_rfl)) (fun _ _ _ h => h) (Or.inl ⟨by rfl, ?_⟩) hHeld ?_ ?_; rotate_left
       ·
        rintro w' ⟨s0, s1, s2, s3, s4, s5⟩; go_simp
        with_reducible rfl
       rotate_left; (exact aP); refine one_ (i := 9) (N := some 62) (bv 16 1023) rfl rfl (one_of HT_.out (by kernel_rfl)) (by decide) (fun K hK => ?_); refine edel.goes Try.func69 (by kernel_rfl) rfl #[.int .i64 (rd l0_0 x42_2), .pointer (some ⟨ga, 0, none⟩), .pointer (some ⟨gb, 0, none⟩), .pointer (some ⟨gm, 0, none⟩)] (by rfl) rfl rfl (by rfl) lQ ?_
       with_reducible refine (edel.calls k2 (rd l0_0 x42_2) ga gb gm ca cb At ct lt Af cf lf t468 _ (blk_below HCA.out HB.out) (blk_below HCB.out HB.out) (blk_below HCM.out HB.out) (Kd.C_below HCT.out HB.out) LCT.out (Kd.C_below HCF.out HB.out) LCF.out A37.out).mono ?_
       rintro e w' ⟨rfl, ⟨nd, rfl⟩⟩; refine ⟨_, rfl, ?_⟩; refine hK.out _ _ ⟨(blk_cell BK466.out 0).trans rfl, (blk_cell BK466.out 1).trans rfl, (blk_cell BK460.out 0).trans rfl, (blk_cell BK460.out 1).trans rfl, z3_1, hHeld.2.2.2.2.2⟩ (fun hHeld => ?_); clear hK K; refine norm_ (a' := ?_) ?_ ?_; rotate_left
       ·
        show Act.put _ (some 62) _ = _
        simp only [Act.put, List.setIfInBounds_toArray, List.set_cons_zero, List.set_cons_succ, i64_w, i32_w]; rfl
       refine pure_ (i := 10) (N := some 63) (v := ?_) (a' := ?_) (bv 16 2047) rfl rfl (any_of HT_.out (by kernel_rfl)) (fun _ _ _ h => h) (Or.inl ⟨by rfl, ?_⟩) ?_ ?_; rotate_left; (exact yP); rotate_left; (exact aP); refine take_ (i := 11) (N := some 64) (v := ?_) (a' := ?_) (bv 16 4095) rfl rfl (take_ofW HT_.out HW_.out (by kernel_rfl)) (fun _ _ _ h => h) (Or.inl ⟨by rfl, ?_⟩) hHeld ?_ ?_; rotate_left
       ·
        rintro w' ⟨s0, s1, s2, s3, s4, s5⟩; go_simp
        with_reducible rfl
       rotate_left; (exact aP); refine one_ (i := 12) (N := some 65) (bv 16 8191) rfl rfl (one_of HT_.out (by kernel_rfl)) (by decide) (fun K hK => ?_); refine value_ (w1 := ?_) (v := ?_) (by rfl) rfl ?_ ?_; rotate_left 2
       ·
        go_simp
        constructor
        · rfl
        · rfl
       refine hK.out _ _ ⟨(blk_cell (blk_alloc BK466.out _) 0).trans rfl, (blk_cell (blk_alloc BK466.out _) 1).trans rfl, (blk_cell (blk_alloc BK460.out _) 0).trans rfl, (blk_cell (blk_alloc BK460.out _) 1).trans rfl, (World.cell?_alloc_lt _ _ _ (World.block_lt_of_cell? _ _ ((by first | exact hw467_0 | exact (HB.out.cell (World.block_lt_of_cell? w _ hw467_0)).trans hw467_0)))).trans (z3_1), (World.cell?_alloc_lt _ _ _ (World.block_lt_of_cell? _ _ (hHeld.2.2.2.2.2))).trans (hHeld.2.2.2.2.2)⟩ (fun hHeld => ?_); clear hK K; refine norm_ (a' := ?_) ?_ ?_; rotate_left
       ·
        show Act.put _ (some 65) _ = _
        simp only [Act.put, List.setIfInBounds_toArray, List.set_cons_zero, List.set_cons_succ, i64_w, i32_w]; rfl
       refine last_ (i := 13) (N := some 66) (bv 16 16383) rfl rfl (one_of HT_.out (by kernel_rfl)) (by decide) (fun K hK => ?_); refine Kd.R_append_step (Kd.int .i64) (w0 := w) w.heap.size (by rfl) (.tmp 54) (.tmp 65) 23 3 (.int .i64 0) 8 rfl Try.underlying23 info3 rfl (by decide) (by omega) uZ2 xZ2_2 (rd x9_1 t468) [.int .i64 (rd x9_1 t468)] (fun k_ => some k_ ≠ (.slice (some ad469) x9_1.length co13 : Value).ownBlock ∧ oV k_ uZ3) (fun _ => False) rfl rfl ?aP (fun _ hk => hk.elim) ?aF ?aO ?aB ?aS ?aL ?_
       (case aP => exact rfl)
       (case aB => exact z3_6)
       (case aF => exact (fun k_ hk => ⟨Kd.fresh' (Kd.R_lt (rU HO_9.out)) k_ hk, Kd.fresh' (Kd.R_lt (rU HO_Z3.out)) k_ hk⟩))
       (case aO => exact (rU HO_Z2.out))
       (case aS => exact (below_size z3_6))
       (case aL => have := LMc40.out; omega)
       intro v471 w46 ho hb hg hat; rw [← Ny470.out] at ho; replace HO_9 := Az (Kd.R_after (ok := (fun k_ => oV k_ uZ3)) (rM HO_9.out) hg hat); replace HO_Z3 := Az (Kd.R_after (ok := (fun k_ => some k_ ≠ (.slice (some ad469) x9_1.length co13 : Value).ownBlock)) (rU HO_Z3.out) hg hat); replace BK460 := Az (kG BK460.out hg (Kd.R_ne HO_Z2.out BK460.out (by decide))); replace BK461 := Az (kG BK461.out hg (Kd.R_ne HO_Z2.out BK461.out (by decide))); replace BK466 := Az (kG BK466.out hg (Kd.R_ne HO_Z2.out BK466.out (by decide))); replace HB := Az (hb); have HO472 := Az (ho); clear HO_Z2 ho hb hg hat; obtain ⟨Ao47, co47, eo47⟩ := Kd.R_slice HO472.out; (first | subst eo47 | (injection eo47 with f1_ f2_ f3_; have f4_ := f1_.symm; have f5_ := f3_.symm; clear f1_ f2_ f3_; subst f4_; subst f5_)); refine hK.out _ _ ?_; clear hK K; refine norm_ (a' := ?_) ?_ ?_; rotate_left
       ·
        show Act.put _ (some 66) _ = _
        simp only [Act.put, List.setIfInBounds_toArray, List.set_cons_zero, List.set_cons_succ, i64_w, i32_w]; rfl
       refine pure_ (i := 14) (N := some 67) (v := ?_) (a' := ?_) (bv 16 32767) rfl rfl (any_of HT_.out (by kernel_rfl)) (fun _ _ _ h => h) (Or.inl ⟨by rfl, ?_⟩) ?_ ?_; rotate_left; (exact yP); rotate_left; (exact aP); refine last_ (i := 15) (N := none) (bv 16 65535) rfl rfl (one_of HT_.out (by kernel_rfl)) (by decide) (fun K hK => ?_); have hs48 : w46.cell? ⟨gb466, 0, none⟩ = some (uZ2) := (blk_cell BK466.out 0).trans rfl; have hfs48 := blk_frozen BK466.out 0; have hns48_0 := NB460_466.out; have hns48_1 := NB461_466.out; have hms48_0 := (NB460_466.out).symm; have hms48_1 := (NB461_466.out).symm; refine skip_ (w1 := ?_) (by rfl) rfl ?_ ?_; rotate_left
       · go_simp; rfl
       refine hK.out _ _ ?_; clear hK K; refine done_ (done_of HT_.out (by kernel_rfl)) ?_
       try go_wp2
       have n0 : Aside0 (Kd.R (Kd.int .i64) 3 (w46.setCell ⟨gb466, 0, none⟩ (.slice Ao47 y470.length co47)) w.heap.size (fun k_ => oV k_ uZ3 ∧ oS k_ Ao47 y470.length co47) (.slice (some ad469) x9_1.length co13) x9_1) := ⟨rM (Kd.R_far (p := ⟨gb466, 0, none⟩) (Kd.R_types HO_9.out BK466.out (by decide)) (fun _ hk => hk.2) (.slice Ao47 y470.length co47))⟩; have n1 : Aside0 (Kd.R (Kd.int .i64) 3 (w46.setCell ⟨gb466, 0, none⟩ (.slice Ao47 y470.length co47)) w.heap.size (fun k_ => some k_ ≠ (.slice (some ad469) x9_1.length co13 : Value).ownBlock ∧ oS k_ Ao47 y470.length co47) uZ3 xZ3_2) := ⟨rM (Kd.R_far (p := ⟨gb466, 0, none⟩) (Kd.R_types HO_Z3.out BK466.out (by decide)) (fun _ hk => hk.2) (.slice Ao47 y470.length co47))⟩; have n2 : Aside0 (Kd.R (Kd.int .i64) 3 (w46.setCell ⟨gb466, 0, none⟩ (.slice Ao47 y470.length co47)) w.heap.size (fun k_ => some k_ ≠ (.slice (some ad469) x9_1.length co13 : Value).ownBlock ∧ oV k_ uZ3) (.slice Ao47 y470.length co47) y470) := ⟨rM (Kd.R_far (p := ⟨gb466, 0, none⟩) (Kd.R_types HO472.out BK466.out (by decide)) (fun _ hk => hk.2) (.slice Ao47 y470.length co47))⟩; have n3 : Aside0 ((w46.setCell ⟨gb466, 0, none⟩ (.slice Ao47 y470.length co47)).heap[gb460]? = some (.cells #[.slice (some ad467) l0_0.length c0_0, .slice A0_1 l0_1.length c0_1] 25 (0, 0))) := ⟨by (with_reducible repeat (first | refine blk_drewN ?_ _ | refine blk_drew ?_ | refine blk_alloc ?_ _)); refine blk_far ?_ NB460_466.out _; (with_reducible repeat (first | refine blk_drewN ?_ _ | refine blk_drew ?_ | refine blk_alloc ?_ _)); exact BK460.out⟩; have n4 : Aside0 ((w46.setCell ⟨gb466, 0, none⟩ (.slice Ao47 y470.length co47)).heap[gb461]? = some (.cells #[.slice none 0 0, .slice none 0 0] 25 (0, 0))) := ⟨by (with_reducible repeat (first | refine blk_drewN ?_ _ | refine blk_drew ?_ | refine blk_alloc ?_ _)); refine blk_far ?_ NB461_466.out _; (with_reducible repeat (first | refine blk_drewN ?_ _ | refine blk_drew ?_ | refine blk_alloc ?_ _)); exact BK461.out⟩; have n5 : Aside0 ((w46.setCell ⟨gb466, 0, none⟩ (.slice Ao47 y470.length co47)).heap[gb466]? = some (.cells #[.slice Ao47 y470.length co47, uZ3] 25 (0, 0))) := ⟨by (with_reducible repeat (first | refine blk_drewN ?_ _ | refine blk_drew ?_ | refine blk_alloc ?_ _)); refine blk_put (cs := #[uZ2, uZ3]) ?_ 0 _ rfl; (with_reducible repeat (first | refine blk_drewN ?_ _ | refine blk_drew ?_ | refine blk_alloc ?_ _)); exact BK466.out⟩; have n6 : Aside0 (Below w.heap.size w (w46.setCell ⟨gb466, 0, none⟩ (.slice Ao47 y470.length co47))) := ⟨bU3 HB.out GW460.out GW461.out GW466.out⟩; generalize (w46.setCell ⟨gb466, 0, none⟩ (.slice Ao47 y470.length co47)) = w49 at n0 n1 n2 n3 n4 n5 n6 ⊢; have HO_9 := n0; have HO_Z3 := n1; have HO472 := n2; have BK460 := n3; have BK461 := n4; have BK466 := n5; have HB := n6; clear n0 n1 n2 n3 n4 n5 n6; replace HO_9 := Az (Kd.R_drew HO_9.out); replace HO_Z3 := Az (Kd.R_drew HO_Z3.out); replace HO472 := Az (Kd.R_drew HO472.out); replace BK460 := Az (blk_drew BK460.out); replace BK461 := Az (blk_drew BK461.out); replace BK466 := Az (blk_drew BK466.out); replace HB := Az (below_drew1 HB.out); obtain ⟨ad473, e473, _, _, hx473_0⟩ := aI HR0_1.out x42_2; have hw473_0 := hx473_0
       cases e473
       replace hx473_0 := hT HB.out hx473_0; obtain ⟨_, _, hx474_0⟩ := aJ (Kd.R_reads' HO_9.out).2.2 (rd l0_1 x42_2); refine start_ (n := 14) (S := fun w' => w'.cell? ⟨gb466, 0, none⟩ = some (.slice Ao47 y470.length co47) ∧ w'.cell? ⟨gb466, 1, none⟩ = some (uZ3) ∧ w'.cell? ⟨gb460, 0, none⟩ = some (.slice (some ad467) l0_0.length c0_0) ∧ w'.cell? ⟨gb460, 1, none⟩ = some (.slice (some ad473) l0_1.length c0_1) ∧ w'.cell? (ad473.add (x42_2).toNat) = some (.int .i64 (rd l0_1 x42_2)) ∧ w'.cell? (ad469.add ((rd l0_1 x42_2)).toNat) = some (.int .i64 (rd x9_1 (rd l0_1 x42_2)))) (ds := [11, 13]) (bv 14 0) (by kernel_rfl) rfl rfl ⟨(blk_cell BK466.out 0).trans rfl, (blk_cell BK466.out 1).trans rfl, (blk_cell BK460.out 0).trans rfl, (blk_cell BK460.out 1).trans rfl, z3_3, hx474_0⟩ (fun hHeld => ?_); refine with_tabW leftDel.tab15 leftDel.bits15 (fun HT_ HW_ => ?_); generalize w49.drew = w50 at HO_9 HO_Z3 HO472 BK460 BK461 BK466 HB hx473_0 hx474_0 hHeld ⊢; refine pure_ (i := 0) (N := some 68) (v := ?_) (a' := ?_) (bv 14 1) rfl rfl (any_of HT_.out (by kernel_rfl)) (fun _ _ _ h => h) (Or.inl ⟨by rfl, ?_⟩) ?_ ?_; rotate_left; (exact yP); rotate_left; (exact aP); refine pure_ (i := 2) (N := some 70) (v := ?_) (a' := ?_) (bv 14 5) rfl rfl (any_of HT_.out (by kernel_rfl)) (fun _ _ _ h => h) (Or.inl ⟨by rfl, ?_⟩) ?_ ?_; rotate_left; (exact yP); rotate_left; (exact aP); refine pure_ (i := 3) (N := some 71) (v := ?_) (a' := ?_) (bv 14 13) rfl rfl (any_of HT_.out (by kernel_rfl)) (fun _ _ _ h => h) (Or.inl ⟨by rfl, ?_⟩) ?_ ?_; rotate_left; (exact yP); rotate_left; (exact aP); refine pure_ (i := 5) (N := some 73) (v := ?_) (a' := ?_) (bv 14 45) rfl rfl (any_of HT_.out (by kernel_rfl)) (fun _ _ _ h => h) (Or.inl ⟨by rfl, ?_⟩) ?_ ?_; rotate_left; (exact yP); rotate_left; (exact aP); refine take_ (i := 1) (N := some 69) (v := ?_) (a' := ?_) (bv 14 47) rfl rfl (take_ofW HT_.out HW_.out (by kernel_rfl)) (fun _ _ _ h => h) (Or.inl ⟨by rfl, ?_⟩) hHeld ?_ ?_; rotate_left
       ·
        rintro w' ⟨s0, s1, s2, s3, s4, s5⟩; go_simp
        with_reducible rfl
       rotate_left; (exact aP); refine take_ (i := 4) (N := some 72) (v := ?_) (a' := ?_) (bv 14 63) rfl rfl (take_ofW HT_.out HW_.out (by kernel_rfl)) (fun _ _ _ h => h) (Or.inl ⟨by rfl, ?_⟩) hHeld ?_ ?_; rotate_left
       ·
        rintro w' ⟨s0, s1, s2, s3, s4, s5⟩; go_simp
        with_reducible rfl
       rotate_left; (exact aP); refine pure_ (i := 6) (N := some 74) (v := ?_) (a' := ?_) (bv 14 127) rfl rfl (any_of HT_.out (by kernel_rfl)) (fun _ _ _ h => h) (Or.inl ⟨by rfl, ?_⟩) ?_ ?_; rotate_left; (exact yP); rotate_left; (exact aP); refine take_ (i := 7) (N := some 75) (v := ?_) (a' := ?_) (bv 14 255) rfl rfl (take_ofW HT_.out HW_.out (by kernel_rfl)) (fun _ _ _ h => h) (Or.inl ⟨by rfl, ?_⟩) hHeld ?_ ?_; rotate_left
       ·
        rintro w' ⟨s0, s1, s2, s3, s4, s5⟩; go_simp
        with_reducible rfl
       rotate_left; (exact aP); refine pure_ (i := 8) (N := some 76) (v := ?_) (a' := ?_) (bv 14 511) rfl rfl (any_of HT_.out (by kernel_rfl)) (fun _ _ _ h => h) (Or.inl ⟨by rfl, ?_⟩) ?_ ?_; rotate_left; (exact yP); rotate_left; (exact aP); refine take_ (i := 9) (N := some 77) (v := ?_) (a' := ?_) (bv 14 1023) rfl rfl (take_ofW HT_.out HW_.out (by kernel_rfl)) (fun _ _ _ h => h) (Or.inl ⟨by rfl, ?_⟩) hHeld ?_ ?_; rotate_left
       ·
        rintro w' ⟨s0, s1, s2, s3, s4, s5⟩; go_simp
        with_reducible rfl
       rotate_left; (exact aP); refine one_ (i := 10) (N := some 78) (bv 14 2047) rfl rfl (one_of HT_.out (by kernel_rfl)) (by decide) (fun K hK => ?_); refine value_ (w1 := ?_) (v := ?_) (by rfl) rfl ?_ ?_; rotate_left 2
       ·
        go_simp
        constructor
        · rfl
        · rfl
       refine hK.out _ _ ⟨(blk_cell (blk_alloc BK466.out _) 0).trans rfl, (blk_cell (blk_alloc BK466.out _) 1).trans rfl, (blk_cell (blk_alloc BK460.out _) 0).trans rfl, (blk_cell (blk_alloc BK460.out _) 1).trans rfl, (World.cell?_alloc_lt _ _ _ (World.block_lt_of_cell? _ _ ((by first | exact hw473_0 | exact (HB.out.cell (World.block_lt_of_cell? w _ hw473_0)).trans hw473_0)))).trans (z3_3), (World.cell?_alloc_lt _ _ _ (World.block_lt_of_cell? _ _ (hHeld.2.2.2.2.2))).trans (hHeld.2.2.2.2.2)⟩ (fun hHeld => ?_); clear hK K; refine norm_ (a' := ?_) ?_ ?_; rotate_left
       ·
        show Act.put _ (some 78) _ = _
        simp only [Act.put, List.setIfInBounds_toArray, List.set_cons_zero, List.set_cons_succ, i64_w, i32_w]; rfl
       refine last_ (i := 11) (N := some 79) (bv 14 4095) rfl rfl (one_of HT_.out (by kernel_rfl)) (by decide) (fun K hK => ?_); refine Kd.R_append_step (Kd.int .i64) (w0 := w) w.heap.size (by rfl) (.tmp 69) (.tmp 78) 23 3 (.int .i64 0) 8 rfl Try.underlying23 info3 rfl (by decide) (by omega) uZ3 xZ3_2 (rd x9_1 (rd l0_1 x42_2)) [.int .i64 (rd x9_1 (rd l0_1 x42_2))] (fun k_ => some k_ ≠ (.slice (some ad469) x9_1.length co13 : Value).ownBlock ∧ oS k_ Ao47 y470.length co47) (fun _ => False) rfl rfl ?aP (fun _ hk => hk.elim) ?aF ?aO ?aB ?aS ?aL ?_
       (case aP => exact rfl)
       (case aB => exact z3_6)
       (case aF => exact (fun k_ hk => ⟨Kd.fresh' (Kd.R_lt (rU HO_9.out)) k_ hk, Kd.fresh' (Kd.R_lt (rU HO472.out)) k_ hk⟩))
       (case aO => exact (rU HO_Z3.out))
       (case aS => exact (below_size z3_6))
       (case aL => have := LMc44.out; omega)
       intro v476 w51 ho hb hg hat; rw [← Ny475.out] at ho; replace HO_9 := Az (Kd.R_after (ok := (fun k_ => oS k_ Ao47 y470.length co47)) (rM HO_9.out) hg hat); replace BK460 := Az (kG BK460.out hg (Kd.R_ne HO_Z3.out BK460.out (by decide))); replace BK461 := Az (kG BK461.out hg (Kd.R_ne HO_Z3.out BK461.out (by decide))); replace BK466 := Az (kG BK466.out hg (Kd.R_ne HO_Z3.out BK466.out (by decide))); replace HO472 := Az (Kd.R_after (ok := (fun k_ => some k_ ≠ (.slice (some ad469) x9_1.length co13 : Value).ownBlock)) (rU HO472.out) hg hat); replace HB := Az (hb); have HO477 := Az (ho); clear HO_Z3 ho hb hg hat; obtain ⟨Ao52, co52, eo52⟩ := Kd.R_slice HO477.out; (first | subst eo52 | (injection eo52 with f1_ f2_ f3_; have f4_ := f1_.symm; have f5_ := f3_.symm; clear f1_ f2_ f3_; subst f4_; subst f5_)); refine hK.out _ _ ?_; clear hK K; refine norm_ (a' := ?_) ?_ ?_; rotate_left
       ·
        show Act.put _ (some 79) _ = _
        simp only [Act.put, List.setIfInBounds_toArray, List.set_cons_zero, List.set_cons_succ, i64_w, i32_w]; rfl
       refine pure_ (i := 12) (N := some 80) (v := ?_) (a' := ?_) (bv 14 8191) rfl rfl (any_of HT_.out (by kernel_rfl)) (fun _ _ _ h => h) (Or.inl ⟨by rfl, ?_⟩) ?_ ?_; rotate_left; (exact yP); rotate_left; (exact aP); refine last_ (i := 13) (N := none) (bv 14 16383) rfl rfl (one_of HT_.out (by kernel_rfl)) (by decide) (fun K hK => ?_); have hs53 : w51.cell? ⟨gb466, 1, none⟩ = some (uZ3) := (blk_cell BK466.out 1).trans rfl; have hfs53 := blk_frozen BK466.out 1; have hns53_0 := NB460_466.out; have hns53_1 := NB461_466.out; have hms53_0 := (NB460_466.out).symm; have hms53_1 := (NB461_466.out).symm; refine skip_ (w1 := ?_) (by rfl) rfl ?_ ?_; rotate_left
       · go_simp; rfl
       refine hK.out _ _ ?_; clear hK K; refine done_ (done_of HT_.out (by kernel_rfl)) ?_
       try go_wp2
       go_roundg k2
       case measure => exact mO
       case rel => exact ⟨(wrap64 (x42_2 + 1)), (y470), (y475), (.slice Ao47 y470.length co47), (.slice Ao52 y475.length co52), rS, H', ⟨mO⟩, ⟨by (with_reducible repeat (first | apply Kd.R_alloc | apply Kd.R_drewN | apply Kd.R_drew)); exact Kd.R_mono (Kd.R_far (p := ⟨gb466, 1, none⟩) (Kd.R_types HO_9.out BK466.out (by decide)) (fun _ hk => hk.2) (.slice Ao52 y475.length co52)) (fun _ hk => ⟨hk.1.1, hk.1.2⟩)⟩, ⟨by (with_reducible repeat (first | apply Kd.R_alloc | apply Kd.R_drewN | apply Kd.R_drew)); exact Kd.R_mono (Kd.R_far (p := ⟨gb466, 1, none⟩) (Kd.R_types HO472.out BK466.out (by decide)) (fun _ hk => hk.2) (.slice Ao52 y475.length co52)) (fun _ hk => ⟨hk.1.1, hk.1.2⟩)⟩, ⟨by (with_reducible repeat (first | apply Kd.R_alloc | apply Kd.R_drewN | apply Kd.R_drew)); exact Kd.R_mono (Kd.R_far (p := ⟨gb466, 1, none⟩) (Kd.R_types HO477.out BK466.out (by decide)) (fun _ hk => hk.2) (.slice Ao52 y475.length co52)) (fun _ hk => ⟨hk.1.1, hk.1.2⟩)⟩, ⟨by (with_reducible repeat (first | refine blk_drewN ?_ _ | refine blk_drew ?_ | refine blk_alloc ?_ _)); refine blk_far ?_ NB460_466.out _; (with_reducible repeat (first | refine blk_drewN ?_ _ | refine blk_drew ?_ | refine blk_alloc ?_ _)); exact BK460.out⟩, ⟨by (with_reducible repeat (first | refine blk_drewN ?_ _ | refine blk_drew ?_ | refine blk_alloc ?_ _)); refine blk_far ?_ NB461_466.out _; (with_reducible repeat (first | refine blk_drewN ?_ _ | refine blk_drew ?_ | refine blk_alloc ?_ _)); exact BK461.out⟩, ⟨by (with_reducible repeat (first | refine blk_drewN ?_ _ | refine blk_drew ?_ | refine blk_alloc ?_ _)); refine blk_put (cs := #[.slice Ao47 y470.length co47, uZ3]) ?_ 1 _ rfl; (with_reducible repeat (first | refine blk_drewN ?_ _ | refine blk_drew ?_ | refine blk_alloc ?_ _)); exact BK466.out⟩, ⟨bU3 HB.out GW460.out GW461.out GW466.out⟩⟩
    · rw [if_neg c32] at H; have c32b0 := decide_eq_false c32; clear c32; simp only [Option.some.injEq, Prod.mk.injEq] at H; obtain ⟨rfl, rfl⟩ := H; have hnb54 := nP NB460_466; have hnb55 := nP NB461_466; have hz56 := bc2 BK466.out; obtain ⟨Ao57, co57, eo57⟩ := Kd.R_slice HO_Z2.out; subst eo57; have hnb58 := nP NB460_461; have hz59 := bc2 BK461.out; obtain ⟨Ao60, co60, eo60⟩ := Kd.R_slice HO_Z3.out; subst eo60; go_wp2; refine bodyPost_ret (results_cell_row rfl _ _ gb461 25 #[.slice Ao57 xZ2_2.length co57, .slice Ao60 xZ3_2.length co60] (0, 0) _ rfl z3_0 Try.underlying25 rfl (by kernel_rfl)) rfl ?_; exact ⟨_, _, rE, by (with_reducible repeat (first | apply Kd.R_alloc | apply Kd.R_drewN | apply Kd.R_drew)); exact Kd.R_mono (Kd.R_far (p := ⟨gb461, 1, none⟩) (Kd.R_far (p := ⟨gb461, 0, none⟩) (Kd.R_types HO_Z2.out BK461.out (by decide)) (fun _ hk => hk.2) (.slice Ao57 xZ2_2.length co57)) (fun _ hk => hk.2) (.slice Ao60 xZ3_2.length co60)) (fun _ hk => hk.1.2), by (with_reducible repeat (first | apply Kd.R_alloc | apply Kd.R_drewN | apply Kd.R_drew)); exact Kd.R_mono (Kd.R_far (p := ⟨gb461, 1, none⟩) (Kd.R_far (p := ⟨gb461, 0, none⟩) (Kd.R_types HO_Z3.out BK461.out (by decide)) (fun _ hk => hk.2) (.slice Ao57 xZ2_2.length co57)) (fun _ hk => hk.2) (.slice Ao60 xZ3_2.length co60)) (fun _ hk => hk.1.2), bU3 HB.out GW460.out GW461.out GW466.out⟩
theorem econ.goes {P : Program} {ops : Array Oper} {Q : Exit → Act → World → Prop} {oi : Oper} {N : Option Tmp} {a : Act} {w : World} {K : Act → World → Prop} {f : FuncId} {fn : Func} {t : Operand} {as_ : Array Operand} {ts : Array TypeId} {caps : Array Value} (hf : P.funcs[f]? = some fn) (hname : (fn.name == "runtime.NumGoroutine") = false) (hb : fn.body.isSome = true) (args : Array Value)
  (hw : Region.wanted oi (yielded ops a.tmps) = true) (hN : oi.dst = N) (hop : oi.op = .call { callee := .value t, args := as_, argTypes := ts }) (hv : a.eval t = .func (.func f) #[] caps) (hargs : as_.map a.eval ++ caps = args)
  (h : Calls P f args w fun e w' => ∃ v, e = .returned v ∧ K (a.put N v) w') : if Region.wanted oi (yielded ops a.tmps) = true then Oper.wp P oi a w K Q else K (a.put N undef) w := by
 refine call_ f args hw hN ?_ h; have he := enters_ hf hname hb args w
 unfold execOp
 simp [hop, resolve, hv, Deferred.ofValue, invoke, hargs, he]
def econ.l0 (ca cb : Int) (lt lf : List Int) : Nat → Int → Option Int
 | 0, _ => none
 | k + 1, x => if x = ca then (if 0 ≤ x then (if x < (lf.length : Int) then (if 0 ≤ rd lf x then (if rd lf x < (lt.length : Int) then econ.l0 ca cb lt lf k (rd lt (rd lf x)) else none) else none) else none) else none) else (if x = cb then (if 0 ≤ x then (if x < (lf.length : Int) then (if 0 ≤ rd lf x then (if rd lf x < (lt.length : Int) then econ.l0 ca cb lt lf k (rd lt (rd lf x)) else none) else none) else none) else none) else some x)
def econ.f (k : Nat) (ca cb : Int) (lt lf : List Int) (x : Int) : Option Int := econ.l0 ca cb lt lf k x
set_option maxHeartbeats 4000000 in
set_option maxRecDepth 100000 in
theorem econ.calls (k : Nat) (x : Int) (ga gb gm : Nat) (ca cb : Int) (At : Option Addr) (ct : Nat) (lt : List Int) (Af : Option Addr) (cf : Nat) (lf : List Int) (r : Int) (w : World) (hba : w.heap[ga]? = some (.cells #[.int .i64 ca] 3 (0, 0))) (hbb : w.heap[gb]? = some (.cells #[.int .i64 cb] 3 (0, 0))) (hbm : w.heap[gm]? = some (.cells #[.slice At lt.length ct, .slice Af lf.length cf] 25 (0, 0))) (hrt : Kd.C (Kd.int .i64) w At lt.length lt) (hct : lt.length ≤ ct) (hrf : Kd.C (Kd.int .i64) w Af lf.length lf) (hcf : lf.length ≤ cf) (h : econ.f k ca cb lt lf x = some r) :
  Calls Try.prog 59 #[.int .i64 x, .pointer (some ⟨ga, 0, none⟩), .pointer (some ⟨gb, 0, none⟩), .pointer (some ⟨gm, 0, none⟩)] w fun e w' => e = .returned (.int .i64 r) ∧ Drawn0 w w' := by
 have hu9 := Try.underlying25; have HRT := Az hrt; have HRF := Az hrf; have hza : w.cell? ⟨ga, 0, none⟩ = some (.int .i64 ca) := (blk_cell hba 0).trans rfl; have hzb : w.cell? ⟨gb, 0, none⟩ = some (.int .i64 cb) := (blk_cell hbb 0).trans rfl; have hzt : w.cell? ⟨gm, 0, none⟩ = some (.slice At lt.length ct) := (blk_cell hbm 0).trans rfl; have hzf : w.cell? ⟨gm, 1, none⟩ = some (.slice Af lf.length cf) := (blk_cell hbm 1).trans rfl; have H' := Az h; clear hba hbb hbm hrt hct hrf hcf h; go_enter Try.func59, Try.ntmps59; go_wp2
 go_loopg [0] k (fun kq v0 w' => ∃ (d : Int), v0 = .int .i64 d ∧ Aside0 (econ.l0 ca cb lt lf kq d = some r) ∧ Aside0 (kq ≤ k) ∧ Drawn0 w w')
 case atStart => exact ⟨x, rfl, H', ⟨Nat.le_refl _⟩, Drawn0.refl _⟩
 case round =>
  clear H'; obtain ⟨d, rfl, HA, HK1, ⟨m1, rfl⟩⟩ := hrel
  rcases gk with _ | k1
  exact (nN HA.out).elim; have H := HA.out; clear HA; simp only [econ.l0] at H
  by_cases c1 : d = ca
  ·
   rw [if_pos c1] at H; have b1 : (d == ca) = true := beq_iff_eq.mpr c1; clear c1
   by_cases c3 : 0 ≤ d
   ·
    rw [if_pos c3] at H
    by_cases c4 : d < (lf.length : Int)
    ·
     rw [if_pos c4] at H
     by_cases c5 : 0 ≤ rd lf d
     ·
      rw [if_pos c5] at H
      by_cases c6 : rd lf d < (lt.length : Int)
      ·
       rw [if_pos c6] at H; obtain ⟨at1, e1, hx1⟩ := Kd.at_int HRF.out d c3 c4
       cases e1
       obtain ⟨at2, e2, hx2⟩ := Kd.at_int HRT.out (rd lf d) c5 c6
       cases e2
       have p3 : (0 ≤ d) = True := eq_true c3; have q4 : (d < (lf.length : Int)) = True := eq_true c4; have p5 : (0 ≤ rd lf d) = True := eq_true c5; have q6 : (rd lf d < (lt.length : Int)) = True := eq_true c6; have HH := Az H; clear H; go_wp2
       repeat (go_quiet (fail))
       try go_wp2
       go_roundg k1
       case measure => exact mO
       case rel => exact ⟨_, rfl, HH, ⟨mO⟩, by repeat (first | exact Drawn0.refl _ | apply Drawn0.step)⟩
      ·
       rw [if_neg c6] at H
       cases H
     ·
      rw [if_neg c5] at H
      cases H
    ·
     rw [if_neg c4] at H
     cases H
   ·
    rw [if_neg c3] at H
    cases H
  ·
   rw [if_neg c1] at H; have b1 : (d == ca) = false := beq_eq_false_iff_ne.mpr c1; clear c1
   by_cases c2 : d = cb
   ·
    rw [if_pos c2] at H; have b2 : (d == cb) = true := beq_iff_eq.mpr c2; clear c2
    by_cases c3 : 0 ≤ d
    ·
     rw [if_pos c3] at H
     by_cases c4 : d < (lf.length : Int)
     ·
      rw [if_pos c4] at H
      by_cases c5 : 0 ≤ rd lf d
      ·
       rw [if_pos c5] at H
       by_cases c6 : rd lf d < (lt.length : Int)
       ·
        rw [if_pos c6] at H; obtain ⟨at1, e1, hx1⟩ := Kd.at_int HRF.out d c3 c4
        cases e1
        obtain ⟨at2, e2, hx2⟩ := Kd.at_int HRT.out (rd lf d) c5 c6
        cases e2
        have p3 : (0 ≤ d) = True := eq_true c3; have q4 : (d < (lf.length : Int)) = True := eq_true c4; have p5 : (0 ≤ rd lf d) = True := eq_true c5; have q6 : (rd lf d < (lt.length : Int)) = True := eq_true c6; have HH := Az H; clear H; go_wp2
        repeat (go_quiet (fail))
        try go_wp2
        go_roundg k1
        case measure => exact mO
        case rel => exact ⟨_, rfl, HH, ⟨mO⟩, by repeat (first | exact Drawn0.refl _ | apply Drawn0.step)⟩
       ·
        rw [if_neg c6] at H
        cases H
      ·
       rw [if_neg c5] at H
       cases H
     ·
      rw [if_neg c4] at H
      cases H
    ·
     rw [if_neg c3] at H
     cases H
   · rw [if_neg c2] at H; have b2 : (d == cb) = false := beq_eq_false_iff_ne.mpr c2; clear c2; obtain rfl := Option.some.inj H; clear H; go_wp2; go_ret; exact ⟨rfl, by repeat (first | exact Drawn0.refl _ | apply Drawn0.step)⟩
mutual
def leftCon.l0 (ca cb : Int) (lt lf : List Int) : Nat → Int → Int → List Int → Int → Int → Int → List Int → List Int → Option (List Int × List Int)
 | 0, _, _, _, _, _, _, _, _ => none
 | k + 1, x1, x2, x9, x10, x19, x20, xZ0, xZ1 => if x20 < x19 then (if 0 ≤ x20 then (if x20 < (x9.length : Int) then ((some (x9.set (x20 : Int).toNat x10 : List Int)).bind fun y465 => (if x20 = x1 then (leftCon.l0 ca cb lt lf k x1 x2 y465 x10 x19 (wrap64 (x20 + 1)) xZ0 xZ1) else (if x20 = x2 then (leftCon.l0 ca cb lt lf k x1 x2 y465 x10 x19 (wrap64 (x20 + 1)) xZ0 xZ1) else (leftCon.l0 ca cb lt lf k x1 x2 y465 (wrap64 (x10 + 1)) x19 (wrap64 (x20 + 1)) xZ0 xZ1)))) else (none)) else (none)) else (leftCon.l1 ca cb lt lf k x1 x2 x9 (xZ0.length : Int) 0 xZ0 xZ1 ([] : List Int) ([] : List Int))
def leftCon.l1 (ca cb : Int) (lt lf : List Int) : Nat → Int → Int → List Int → Int → Int → List Int → List Int → List Int → List Int → Option (List Int × List Int)
 | 0, _, _, _, _, _, _, _, _, _ => none
 | k + 1, x1, x2, x9, x41, x42, xZ0, xZ1, xZ2, xZ3 => if x42 < x41 then (if x42 = x1 then (leftCon.l1 ca cb lt lf k x1 x2 x9 x41 (wrap64 (x42 + 1)) xZ0 xZ1 xZ2 xZ3) else (if x42 = x2 then (leftCon.l1 ca cb lt lf k x1 x2 x9 x41 (wrap64 (x42 + 1)) xZ0 xZ1 xZ2 xZ3) else (if 0 ≤ x42 then (if x42 < (xZ0.length : Int) then ((econ.f k ca cb lt lf (rd xZ0 x42)).bind fun t468 => (if 0 ≤ t468 then (if t468 < (x9.length : Int) then (if xZ2.length < 17592186044416 then (if x42 < (xZ1.length : Int) then (if 0 ≤ (rd xZ1 x42) then (if (rd xZ1 x42) < (x9.length : Int) then (if xZ3.length < 17592186044416 then (leftCon.l1 ca cb lt lf k x1 x2 x9 x41 (wrap64 (x42 + 1)) xZ0 xZ1 (xZ2 ++ [rd x9 t468]) (xZ3 ++ [rd x9 (rd xZ1 x42)])) else (none)) else (none)) else (none)) else (none)) else (none)) else (none)) else (none))) else (none)) else (none)))) else (some (xZ2, xZ3))
end
def leftCon.f (k : Nat) (l0_0 : List Int) (l0_1 : List Int) (a1 : Int) (a2 : Int) (ca cb : Int) (lt lf : List Int) : Option (List Int × List Int) := if 0 ≤ (l0_0.length : Int) then (if ((l0_0.length : Int) : Int).toNat ≤ 35184372088832 then ((some (List.replicate ((l0_0.length : Int) : Int).toNat 0 : List Int)).bind fun y462 => (leftCon.l0 ca cb lt lf k a1 a2 y462 0 (y462.length : Int) 0 l0_0 l0_1)) else (none)) else (none)
def leftCon.T14 : Bool × List (List Nat × List Nat) := (true, [([], []), ([0], [0]), ([], []), ([], []), ([], []), ([4], [4]), ([], []), ([5, 6], [5, 6]), ([7], [7]), ([3, 8], [3, 8]), ([2, 9], [2, 9]), ([10], [10]), ([11], [11]), ([1, 12, 9], [1, 12]), ([0, 1, 2, 3, 4, 5, 6, 7, 8, 9, 10, 11, 12, 13], []), ([14, 13, 13, 0, 1, 2, 3, 4, 5, 6, 7, 8, 9, 10, 11, 12, 13], [13, 14])])
def leftCon.B14 : List Nat := [0, 1, 0, 0, 0, 16, 0, 112, 240, 504, 1020, 2044, 4092, 8191, 16383, 32767]
theorem leftCon.tab14 : rtab .any (opsOf Try.f58 14) = leftCon.T14 := by kernel_rfl
theorem leftCon.bits14 : waitsOk leftCon.T14.2 leftCon.B14 = true := by kernel_rfl
def leftCon.T15 : Bool × List (List Nat × List Nat) := (true, [([], []), ([0], [0]), ([], []), ([], []), ([3], [3]), ([], []), ([4, 5], [4, 5]), ([6], [6]), ([2, 7], [2, 7]), ([8], [8]), ([9], [9]), ([1, 10], [1, 10]), ([0, 1, 2, 3, 4, 5, 6, 7, 8, 9, 10, 11], []), ([12, 11, 11, 0, 1, 2, 3, 4, 5, 6, 7, 8, 9, 10, 11], [11, 12])])
def leftCon.B15 : List Nat := [0, 1, 0, 0, 8, 0, 56, 120, 252, 508, 1020, 2047, 4095, 8191]
theorem leftCon.tab15 : rtab .any (opsOf Try.f58 15) = leftCon.T15 := by kernel_rfl
theorem leftCon.bits15 : waitsOk leftCon.T15.2 leftCon.B15 = true := by kernel_rfl
set_option maxHeartbeats 8000000 in
set_option maxRecDepth 100000 in
theorem leftCon.calls (k : Nat) (A0_0 : Option Addr) (c0_0 : Nat) (l0_0 : List Int) (A0_1 : Option Addr) (c0_1 : Nat) (l0_1 : List Int) (a1 : Int) (a2 : Int) (ga gb gm : Nat) (ca cb : Int) (At : Option Addr) (ct : Nat) (lt : List Int) (Af : Option Addr) (cf : Nat) (lf : List Int) (r1 : List Int) (r2 : List Int) (w : World) (hba : w.heap[ga]? = some (.cells #[.int .i64 ca] 3 (0, 0))) (hbb : w.heap[gb]? = some (.cells #[.int .i64 cb] 3 (0, 0))) (hbm : w.heap[gm]? = some (.cells #[.slice At lt.length ct, .slice Af lf.length cf] 25 (0, 0))) (hr0_0 : Kd.C (Kd.int .i64) w A0_0 l0_0.length l0_0) (hc0_0 : l0_0.length ≤ c0_0) (hr0_1 : Kd.C (Kd.int .i64) w A0_1 l0_1.length l0_1) (hc0_1 : l0_1.length ≤ c0_1) (hrt : Kd.C (Kd.int .i64) w At lt.length lt) (hct : lt.length ≤ ct) (hrf : Kd.C (Kd.int .i64) w Af lf.length lf) (hcf : lf.length ≤ cf) (h : leftCon.f k l0_0 l0_1 a1 a2 ca cb lt lf = some (r1, r2)) :
  Calls Try.prog 58 #[.agg #[.slice A0_0 l0_0.length c0_0, .slice A0_1 l0_1.length c0_1], .int .i64 a1, .int .i64 a2, .func (.func 59) #[] #[.pointer (some ⟨ga, 0, none⟩), .pointer (some ⟨gb, 0, none⟩), .pointer (some ⟨gm, 0, none⟩)]] w fun e w' => ∃ v0_ v1_ : Value, e = .returned (.agg #[v0_, v1_]) ∧ Kd.R (Kd.int .i64) 3 w' w.heap.size (fun k_ => oV k_ v1_) v0_ r1 ∧ Kd.R (Kd.int .i64) 3 w' w.heap.size (fun k_ => oV k_ v0_) v1_ r2 ∧ Below w.heap.size w w' := by
 have hu27 := Try.underlying25; have HR0_0 := Az hr0_0; have HC0_0 := Az hc0_0; clear hr0_0 hc0_0; have HR0_1 := Az hr0_1; have HC0_1 := Az hc0_1; clear hr0_1 hc0_1; have HB := bZ w; have HCA := Az hba; have HCB := Az hbb; have HCM := Az hbm; have HCT := Az hrt; have HCF := Az hrf; have LCT := Az hct; have LCF := Az hcf; clear hba hbb hbm hrt hrf hct hcf; have H := h; clear h; unfold leftCon.f at H; replace H := gE H; obtain ⟨c5b0, c5b1, H⟩ := H; replace H := gE H; obtain ⟨c6b0, c6b1, H⟩ := H; generalize Ny462 : (List.replicate ((l0_0.length : Int) : Int).toNat 0 : List Int) = y462 at H; simp only [Option.bind_some] at H; replace Ny462 := Ay Ny462; have H' := Az H; clear H; go_enter Try.func58, Try.ntmps58
 go_wp2_with (first | ((with_reducible refine gd 4 rfl ?_); refine bE 4 #[.slice A0_0 l0_0.length c0_0, .slice A0_1 l0_1.length c0_1] 25 ?_; intro gb460 hg w7 hbox hb; have BK460 := Az (hbox); have GW460 := gW hg (bU0 HB.out); replace HB := Az (below_step (bU0 HB.out) hb); clear hb hbox hg) | ((with_reducible refine gd 8 rfl ?_); refine bE 8 #[.slice none 0 0, .slice none 0 0] 25 ?_; intro gb461 hg w8 hbox hb; have BK461 := Az (hbox); have GW461 := gW hg (bU1 HB.out GW460.out); replace HB := Az (below_step (bU1 HB.out GW460.out) hb); have NB460_461 := nL hg (kU BK460.out); replace BK460 := kB BK460.out hb; clear hb hbox hg; have hnb9 := NB460_461.out; have hnc9 := (NB460_461.out).symm; have hz10 := bc2 BK460.out) | ((with_reducible refine gd 17 rfl ?_); refine Kd.R_make (Kd.int .i64) _ 3 rfl (N := 17) rfl 23 _ _ rfl (l0_0.length : Int) rfl rfl Try.underlying23 (.int .i64 0) 8 info3 rfl (by decide) (by omega) 0 (ok := fun _ => True) (okp := fun _ => True) rfl (fun _ hk => hk) trivial (oA) (Nat.le_trans (Nat.mul_le_mul_right _ (oA : (l0_0.length : Int).toNat ≤ 35184372088832)) (by omega)) (Below.refl _ _) (Nat.le_refl _) ?_; intro v463 w11 ho12 hb hg_ hnew_; clear hg_ hnew_; (first | rw [← Ny462.out] at ho12 | (simp only [Int.reduceToNat] at ho12; rw [← Ny462.out] at ho12)); have HO464 := Az (Kd.R_lower ho12 (below_size z3_7)); replace BK460 := kB BK460.out hb; replace BK461 := kB BK461.out hb; replace HB := Az (below_step z3_7 hb); clear hb ho12; obtain ⟨Ao13, co13, eo13⟩ := Kd.R_slice HO464.out; subst eo13))
 go_loopg [10, 20] k (fun kq v10 v20 w' => ∃ (x9_1 : List Int) (x10_1 : Int) (x20_1 : Int), v10 = .int .i64 x10_1 ∧ v20 = .int .i64 x20_1 ∧ Aside0 (leftCon.l0 ca cb lt lf kq a1 a2 x9_1 x10_1 (y462.length : Int) x20_1 l0_0 l0_1 = some (r1, r2)) ∧ Aside0 (kq ≤ k) ∧ Aside0 (Kd.R (Kd.int .i64) 3 w' w.heap.size (fun _ => True) (.slice Ao13 y462.length co13) x9_1) ∧ Aside0 (w'.heap[gb460]? = some (.cells #[(.slice A0_0 l0_0.length c0_0), (.slice A0_1 l0_1.length c0_1)] 25 (0, 0))) ∧ Aside0 (w'.heap[gb461]? = some (.cells #[(.slice none 0 0), (.slice none 0 0)] 25 (0, 0))) ∧ Aside0 (Below w.heap.size w w'))
 case atStart => exact ⟨(y462), (0), (0), rS, rS, H', ⟨Nat.le_refl _⟩, ⟨rU HO464.out⟩, ⟨kU BK460.out⟩, ⟨kU BK461.out⟩, ⟨bU2 HB.out GW460.out GW461.out⟩⟩
 case round =>
  clear H'; obtain ⟨x9_1, x10_1, x20_1, rfl, rfl, HA, HK1, HO_9, BK460, BK461, HB⟩ := hrel; have hl9_1 := (Kd.R_reads' HO_9.out).1; rw [hl9_1] at HO_9; simp only [hl9_1]
  rcases gk with _ | k1
  exact (nN HA.out).elim; have H := HA.out; clear HA; simp only [leftCon.l0] at H
  by_cases c14 : x20_1 < (y462.length : Int)
  ·
   rw [if_pos c14] at H; have c14b0 := decide_eq_true c14; (have c14b0hl9_1 := c14b0; rw [hl9_1] at c14b0hl9_1); (have c14b0hl9_1 := c14b0; rw [hl9_1] at c14b0hl9_1); clear c14; replace H := gD1 H; obtain ⟨c15b0, H⟩ := H; replace H := gP H; obtain ⟨c16, H⟩ := H; have c16b0 := decide_eq_true c16; clear c16; generalize Ny465 : (x9_1.set (x20_1 : Int).toNat x10_1 : List Int) = y465 at H; simp only [Option.bind_some] at H; replace Ny465 := Ay Ny465
   replace H := gQ H; rcases H with ⟨c18b0, c18b1, H⟩ | ⟨c18b0, c18b1, H⟩
   ·
    have H' := Az H; clear H; have p17 : 0 ≤ (x20_1 : Int) := oA; have q17 : (x20_1 : Int) < ((x9_1.length : Int) : Int) := oA; obtain ⟨go17, co17, eo17, gb17, gl17, cl17, HG17⟩ := Kd.R_form HO_9.out (by omega); (first | cases eo17 | (injection eo17 with ea_ en_ ec_; (first | subst ea_ | (injection ea_ with ea_; subst ea_)); subst ec_; clear en_)); have GB17 := Az gb17; have GG17 := Az HG17; clear gb17 gl17 HG17; obtain ⟨hx17_0, hf17_0⟩ := Kd.R_celln 0 HO_9.out (x20_1 : Int) p17 q17; replace p17 := eq_true p17; replace q17 := eq_true q17; obtain ⟨hy19_, hz19_⟩ := Kd.R_celln 0 HO_9.out (x20_1 : Int) (oA) (oA); have HP19 := Kd.R_putg HO_9.out (x20_1 : Int) x10_1
    go_wp2_with (first | ((with_reducible refine gs 3 26 rfl ?_); refine sE 3 26 (wr.setCell ⟨go17, (x20_1 : Int).toNat, none⟩ (.int .i64 x10_1)) ?_; intro w20 hw; have hg : wr.grownBy w20 (some go17) := (by rw [hw]; exact HP19.2); have hp_ : Kd.R (Kd.int .i64) 3 w20 w.heap.size (fun _ => True) (.slice (some ⟨go17, 0, none⟩) x9_1.length co13) y465 := (by rw [hw, Ny465.out]; exact HP19.1); clear HP19; replace BK460 := Az (kG BK460.out hg z3_8); replace BK461 := Az (kG BK461.out hg z3_9); replace HO_9 := Az (hp_); replace HB := Az ((by rw [hw]; exact below_set (HB.out) GB17.out : Below w.heap.size w w20)); clear hg hw hp_))
    simp only [← hl9_1]; go_roundg k1
    case measure => exact mO
    case rel => exact ⟨(y465), (x10_1), (wrap64 (x20_1 + 1)), rS, rS, H', ⟨mO⟩, ⟨by simp only [hl9_1]; (with_reducible repeat (first | apply Kd.R_alloc | apply Kd.R_drewN | apply Kd.R_drew)); exact HO_9.out⟩, ⟨by (with_reducible repeat (first | refine blk_drewN ?_ _ | refine blk_drew ?_ | refine blk_alloc ?_ _)); exact BK460.out⟩, ⟨by (with_reducible repeat (first | refine blk_drewN ?_ _ | refine blk_drew ?_ | refine blk_alloc ?_ _)); exact BK461.out⟩, ⟨bU2 HB.out GW460.out GW461.out⟩⟩
   ·
    replace H := gQ H; rcases H with ⟨c21b0, c21b1, H⟩ | ⟨c21b0, c21b1, H⟩
    ·
     have H' := Az H; clear H; have p17 : 0 ≤ (x20_1 : Int) := oA; have q17 : (x20_1 : Int) < ((x9_1.length : Int) : Int) := oA; obtain ⟨go17, co17, eo17, gb17, gl17, cl17, HG17⟩ := Kd.R_form HO_9.out (by omega); (first | cases eo17 | (injection eo17 with ea_ en_ ec_; (first | subst ea_ | (injection ea_ with ea_; subst ea_)); subst ec_; clear en_)); have GB17 := Az gb17; have GG17 := Az HG17; clear gb17 gl17 HG17; obtain ⟨hx17_0, hf17_0⟩ := Kd.R_celln 0 HO_9.out (x20_1 : Int) p17 q17; replace p17 := eq_true p17; replace q17 := eq_true q17; obtain ⟨hy22_, hz22_⟩ := Kd.R_celln 0 HO_9.out (x20_1 : Int) (oA) (oA); have HP22 := Kd.R_putg HO_9.out (x20_1 : Int) x10_1
     go_wp2_with (first | ((with_reducible refine gs 3 26 rfl ?_); refine sE 3 26 (wr.setCell ⟨go17, (x20_1 : Int).toNat, none⟩ (.int .i64 x10_1)) ?_; intro w23 hw; have hg : wr.grownBy w23 (some go17) := (by rw [hw]; exact HP22.2); have hp_ : Kd.R (Kd.int .i64) 3 w23 w.heap.size (fun _ => True) (.slice (some ⟨go17, 0, none⟩) x9_1.length co13) y465 := (by rw [hw, Ny465.out]; exact HP22.1); clear HP22; replace BK460 := Az (kG BK460.out hg z3_8); replace BK461 := Az (kG BK461.out hg z3_9); replace HO_9 := Az (hp_); replace HB := Az ((by rw [hw]; exact below_set (HB.out) GB17.out : Below w.heap.size w w23)); clear hg hw hp_))
     simp only [← hl9_1]; go_roundg k1
     case measure => exact mO
     case rel => exact ⟨(y465), (x10_1), (wrap64 (x20_1 + 1)), rS, rS, H', ⟨mO⟩, ⟨by simp only [hl9_1]; (with_reducible repeat (first | apply Kd.R_alloc | apply Kd.R_drewN | apply Kd.R_drew)); exact HO_9.out⟩, ⟨by (with_reducible repeat (first | refine blk_drewN ?_ _ | refine blk_drew ?_ | refine blk_alloc ?_ _)); exact BK460.out⟩, ⟨by (with_reducible repeat (first | refine blk_drewN ?_ _ | refine blk_drew ?_ | refine blk_alloc ?_ _)); exact BK461.out⟩, ⟨bU2 HB.out GW460.out GW461.out⟩⟩
    ·
     have H' := Az H; clear H; have p17 : 0 ≤ (x20_1 : Int) := oA; have q17 : (x20_1 : Int) < ((x9_1.length : Int) : Int) := oA; obtain ⟨go17, co17, eo17, gb17, gl17, cl17, HG17⟩ := Kd.R_form HO_9.out (by omega); (first | cases eo17 | (injection eo17 with ea_ en_ ec_; (first | subst ea_ | (injection ea_ with ea_; subst ea_)); subst ec_; clear en_)); have GB17 := Az gb17; have GG17 := Az HG17; clear gb17 gl17 HG17; obtain ⟨hx17_0, hf17_0⟩ := Kd.R_celln 0 HO_9.out (x20_1 : Int) p17 q17; replace p17 := eq_true p17; replace q17 := eq_true q17; obtain ⟨hy24_, hz24_⟩ := Kd.R_celln 0 HO_9.out (x20_1 : Int) (oA) (oA); have HP24 := Kd.R_putg HO_9.out (x20_1 : Int) x10_1
     go_wp2_with (first | ((with_reducible refine gs 3 26 rfl ?_); refine sE 3 26 (wr.setCell ⟨go17, (x20_1 : Int).toNat, none⟩ (.int .i64 x10_1)) ?_; intro w25 hw; have hg : wr.grownBy w25 (some go17) := (by rw [hw]; exact HP24.2); have hp_ : Kd.R (Kd.int .i64) 3 w25 w.heap.size (fun _ => True) (.slice (some ⟨go17, 0, none⟩) x9_1.length co13) y465 := (by rw [hw, Ny465.out]; exact HP24.1); clear HP24; replace BK460 := Az (kG BK460.out hg z3_8); replace BK461 := Az (kG BK461.out hg z3_9); replace HO_9 := Az (hp_); replace HB := Az ((by rw [hw]; exact below_set (HB.out) GB17.out : Below w.heap.size w w25)); clear hg hw hp_))
     simp only [← hl9_1]; go_roundg k1
     case measure => exact mO
     case rel => exact ⟨(y465), (wrap64 (x10_1 + 1)), (wrap64 (x20_1 + 1)), rS, rS, H', ⟨mO⟩, ⟨by simp only [hl9_1]; (with_reducible repeat (first | apply Kd.R_alloc | apply Kd.R_drewN | apply Kd.R_drew)); exact HO_9.out⟩, ⟨by (with_reducible repeat (first | refine blk_drewN ?_ _ | refine blk_drew ?_ | refine blk_alloc ?_ _)); exact BK460.out⟩, ⟨by (with_reducible repeat (first | refine blk_drewN ?_ _ | refine blk_drew ?_ | refine blk_alloc ?_ _)); exact BK461.out⟩, ⟨bU2 HB.out GW460.out GW461.out⟩⟩
  ·
   rw [if_neg c14] at H; have c14b0 := decide_eq_false c14; (have c14b0hl9_1 := c14b0; rw [hl9_1] at c14b0hl9_1); (have c14b0hl9_1 := c14b0; rw [hl9_1] at c14b0hl9_1); clear c14; have H' := Az H; clear H
   go_wp2_with (first | ((with_reducible refine gd 12 rfl ?_); refine bE 12 #[.slice none 0 0, .slice none 0 0] 25 ?_; intro gb466 hg w26 hbox hb; replace HO_9 := rB HO_9.out hb; have BK466 := Az (hbox); have GW466 := gW hg z3_7; replace HB := Az (below_step z3_7 hb); have NB460_466 := nL hg (kU BK460.out); replace BK460 := kB BK460.out hb; have NB461_466 := nL hg (kU BK461.out); replace BK461 := kB BK461.out hb; clear hb hbox hg; have hnb27 := nP NB460_466; have hnb28 := nP NB461_466; have hz29 := bc2 BK466.out; have hnb30 := NB460_461.out; have hnc30 := (NB460_461.out).symm; have hz31 := bc2 BK460.out))
   go_loopg [42] k1 (fun kq v42 w' => ∃ (x42_2 : Int) (xZ2_2 : List Int) (xZ3_2 : List Int) (uZ2 : Value) (uZ3 : Value), v42 = .int .i64 x42_2 ∧ Aside0 (leftCon.l1 ca cb lt lf kq a1 a2 x9_1 (l0_0.length : Int) x42_2 l0_0 l0_1 xZ2_2 xZ3_2 = some (r1, r2)) ∧ Aside0 (kq ≤ k1) ∧ Aside0 (Kd.R (Kd.int .i64) 3 w' w.heap.size (fun k_ => oV k_ uZ2 ∧ oV k_ uZ3) (.slice Ao13 x9_1.length co13) x9_1) ∧ Aside0 (Kd.R (Kd.int .i64) 3 w' w.heap.size (fun k_ => some k_ ≠ ((.slice Ao13 x9_1.length co13) : Value).ownBlock ∧ oV k_ uZ3) uZ2 xZ2_2) ∧ Aside0 (Kd.R (Kd.int .i64) 3 w' w.heap.size (fun k_ => some k_ ≠ ((.slice Ao13 x9_1.length co13) : Value).ownBlock ∧ oV k_ uZ2) uZ3 xZ3_2) ∧ Aside0 (w'.heap[gb460]? = some (.cells #[(.slice A0_0 l0_0.length c0_0), (.slice A0_1 l0_1.length c0_1)] 25 (0, 0))) ∧ Aside0 (w'.heap[gb461]? = some (.cells #[(.slice none 0 0), (.slice none 0 0)] 25 (0, 0))) ∧ Aside0 (w'.heap[gb466]? = some (.cells #[uZ2, uZ3] 25 (0, 0))) ∧ Aside0 (Below w.heap.size w w'))
   case atStart => exact ⟨(0), (([] : List Int)), (([] : List Int)), (.slice none 0 0), (.slice none 0 0), rS, H', ⟨Nat.le_refl _⟩, ⟨by (with_reducible repeat (first | apply Kd.R_alloc | apply Kd.R_drewN | apply Kd.R_drew)); exact Kd.R_mono (Kd.R_far (p := ⟨gb466, 1, none⟩) (Kd.R_far (p := ⟨gb466, 0, none⟩) (Kd.R_types HO_9.out BK466.out (by decide)) (fun _ hk => hk.2) (.slice none 0 0)) (fun _ hk => hk.2) (.slice none 0 0)) (fun _ hk => ⟨(by simp [oV, oS, Value.ownBlock]), (by simp [oV, oS, Value.ownBlock])⟩)⟩, ⟨by first | exact Kd.R_nil _ _ _ _ _ | exact Kd.N_nil _ _ _ _ _ | exact Kd.V_nil _ _ _ _ _ | exact Kd.Q_nil _ _ _ _ _ | exact Kd.S_nil _ _ _ _ _⟩, ⟨by first | exact Kd.R_nil _ _ _ _ _ | exact Kd.N_nil _ _ _ _ _ | exact Kd.V_nil _ _ _ _ _ | exact Kd.Q_nil _ _ _ _ _ | exact Kd.S_nil _ _ _ _ _⟩, ⟨by (with_reducible repeat (first | refine blk_drewN ?_ _ | refine blk_drew ?_ | refine blk_alloc ?_ _)); refine blk_far ?_ NB460_466.out _; (with_reducible repeat (first | refine blk_drewN ?_ _ | refine blk_drew ?_ | refine blk_alloc ?_ _)); refine blk_far ?_ NB460_466.out _; (with_reducible repeat (first | refine blk_drewN ?_ _ | refine blk_drew ?_ | refine blk_alloc ?_ _)); exact BK460.out⟩, ⟨by (with_reducible repeat (first | refine blk_drewN ?_ _ | refine blk_drew ?_ | refine blk_alloc ?_ _)); refine blk_far ?_ NB461_466.out _; (with_reducible repeat (first | refine blk_drewN ?_ _ | refine blk_drew ?_ | refine blk_alloc ?_ _)); refine blk_far ?_ NB461_466.out _; (with_reducible repeat (first | refine blk_drewN ?_ _ | refine blk_drew ?_ | refine blk_alloc ?_ _)); exact BK461.out⟩, ⟨by (with_reducible repeat (first | refine blk_drewN ?_ _ | refine blk_drew ?_ | refine blk_alloc ?_ _)); refine blk_put (cs := #[.slice none 0 0, .slice none 0 0]) ?_ 1 _ rfl; (with_reducible repeat (first | refine blk_drewN ?_ _ | refine blk_drew ?_ | refine blk_alloc ?_ _)); refine blk_put (cs := #[.slice none 0 0, .slice none 0 0]) ?_ 0 _ rfl; (with_reducible repeat (first | refine blk_drewN ?_ _ | refine blk_drew ?_ | refine blk_alloc ?_ _)); exact BK466.out⟩, ⟨bU3 HB.out GW460.out GW461.out GW466.out⟩⟩
   case round =>
    clear H'; obtain ⟨x42_2, xZ2_2, xZ3_2, uZ2, uZ3, rfl, HA, HK2, HO_9, HO_Z2, HO_Z3, BK460, BK461, BK466, HB⟩ := hrel
    rcases gk with _ | k2
    exact (nN HA.out).elim; have H := HA.out; clear HA; simp only [leftCon.l1] at H
    by_cases c32 : x42_2 < (l0_0.length : Int)
    ·
     rw [if_pos c32] at H; have c32b0 := decide_eq_true c32; clear c32
     replace H := gQ H; rcases H with ⟨c33b0, c33b1, H⟩ | ⟨c33b0, c33b1, H⟩
     ·
      have H' := Az H; clear H; go_wp2; go_roundg k2
      case measure => exact mO
      case rel => exact ⟨(wrap64 (x42_2 + 1)), (xZ2_2), (xZ3_2), (uZ2), (uZ3), rS, H', ⟨mO⟩, ⟨by (with_reducible repeat (first | apply Kd.R_alloc | apply Kd.R_drewN | apply Kd.R_drew)); exact HO_9.out⟩, ⟨by (with_reducible repeat (first | apply Kd.R_alloc | apply Kd.R_drewN | apply Kd.R_drew)); exact HO_Z2.out⟩, ⟨by (with_reducible repeat (first | apply Kd.R_alloc | apply Kd.R_drewN | apply Kd.R_drew)); exact HO_Z3.out⟩, ⟨by (with_reducible repeat (first | refine blk_drewN ?_ _ | refine blk_drew ?_ | refine blk_alloc ?_ _)); exact BK460.out⟩, ⟨by (with_reducible repeat (first | refine blk_drewN ?_ _ | refine blk_drew ?_ | refine blk_alloc ?_ _)); exact BK461.out⟩, ⟨by (with_reducible repeat (first | refine blk_drewN ?_ _ | refine blk_drew ?_ | refine blk_alloc ?_ _)); exact BK466.out⟩, ⟨bU3 HB.out GW460.out GW461.out GW466.out⟩⟩
     ·
      replace H := gQ H; rcases H with ⟨c34b0, c34b1, H⟩ | ⟨c34b0, c34b1, H⟩
      ·
       have H' := Az H; clear H; go_wp2; go_roundg k2
       case measure => exact mO
       case rel => exact ⟨(wrap64 (x42_2 + 1)), (xZ2_2), (xZ3_2), (uZ2), (uZ3), rS, H', ⟨mO⟩, ⟨by (with_reducible repeat (first | apply Kd.R_alloc | apply Kd.R_drewN | apply Kd.R_drew)); exact HO_9.out⟩, ⟨by (with_reducible repeat (first | apply Kd.R_alloc | apply Kd.R_drewN | apply Kd.R_drew)); exact HO_Z2.out⟩, ⟨by (with_reducible repeat (first | apply Kd.R_alloc | apply Kd.R_drewN | apply Kd.R_drew)); exact HO_Z3.out⟩, ⟨by (with_reducible repeat (first | refine blk_drewN ?_ _ | refine blk_drew ?_ | refine blk_alloc ?_ _)); exact BK460.out⟩, ⟨by (with_reducible repeat (first | refine blk_drewN ?_ _ | refine blk_drew ?_ | refine blk_alloc ?_ _)); exact BK461.out⟩, ⟨by (with_reducible repeat (first | refine blk_drewN ?_ _ | refine blk_drew ?_ | refine blk_alloc ?_ _)); exact BK466.out⟩, ⟨bU3 HB.out GW460.out GW461.out GW466.out⟩⟩
      ·
       replace H := gD1 H; obtain ⟨c35b0, H⟩ := H; replace H := gP H; obtain ⟨c36, H⟩ := H; have c36b0 := decide_eq_true c36; clear c36; replace H := bd H; obtain ⟨t468, A37, H⟩ := H; replace H := gD1 H; obtain ⟨c38b0, H⟩ := H; replace H := gP H; obtain ⟨c39, H⟩ := H; have c39b0 := decide_eq_true c39; clear c39; replace H := gP H; obtain ⟨c40, H⟩ := H; have LMc40 := Az c40; clear c40; generalize Ny470 : (xZ2_2 ++ [rd x9_1 t468] : List Int) = y470 at H; replace Ny470 := Ay Ny470; replace H := gP H; obtain ⟨c41, H⟩ := H; have c41b0 := decide_eq_true c41; clear c41; replace H := gD1 H; obtain ⟨c42b0, H⟩ := H; replace H := gP H; obtain ⟨c43, H⟩ := H; have c43b0 := decide_eq_true c43; clear c43; replace H := gP H; obtain ⟨c44, H⟩ := H; have LMc44 := Az c44; clear c44; generalize Ny475 : (xZ3_2 ++ [rd x9_1 (rd l0_1 x42_2)] : List Int) = y475 at H; replace Ny475 := Ay Ny475; have H' := Az H; clear H
       try go_wp2
       replace HO_9 := Az (Kd.R_drew HO_9.out); replace HO_Z2 := Az (Kd.R_drew HO_Z2.out); replace HO_Z3 := Az (Kd.R_drew HO_Z3.out); replace BK460 := Az (blk_drew BK460.out); replace BK461 := Az (blk_drew BK461.out); replace BK466 := Az (blk_drew BK466.out); replace HB := Az (below_drew1 HB.out); obtain ⟨ad467, e467, _, _, hx467_0⟩ := aI HR0_0.out x42_2; have hw467_0 := hx467_0
       cases e467
       replace hx467_0 := hT HB.out hx467_0; obtain ⟨ad469, e469, _, _, hx469_0⟩ := aI (Kd.R_reads' HO_9.out).2.2 t468
       cases e469; refine start_ (n := 16) (S := fun w' => w'.cell? ⟨gb466, 0, none⟩ = some (uZ2) ∧ w'.cell? ⟨gb466, 1, none⟩ = some (uZ3) ∧ w'.cell? ⟨gb460, 0, none⟩ = some (.slice (some ad467) l0_0.length c0_0) ∧ w'.cell? ⟨gb460, 1, none⟩ = some (.slice A0_1 l0_1.length c0_1) ∧ w'.cell? (ad467.add (x42_2).toNat) = some (.int .i64 (rd l0_0 x42_2)) ∧ w'.cell? (ad469.add (t468).toNat) = some (.int .i64 (rd x9_1 t468))) (ds := [13, 15]) (bv 16 0) (by kernel_rfl) rfl rfl ⟨(blk_cell BK466.out 0).trans rfl, (blk_cell BK466.out 1).trans rfl, (blk_cell BK460.out 0).trans rfl, (blk_cell BK460.out 1).trans rfl, z3_1, hx469_0⟩ (fun hHeld => ?_); refine with_tabW leftCon.tab14 leftCon.bits14 (fun HT_ HW_ => ?_); generalize wr.drew = w45 at HO_9 HO_Z2 HO_Z3 BK460 BK461 BK466 HB hx467_0 hx469_0 hHeld ⊢; refine pure_ (i := 0) (N := some 53) (v := ?_) (a' := ?_) (bv 16 1) rfl rfl (any_of HT_.out (by kernel_rfl)) (fun _ _ _ h => h) (Or.inl ⟨by rfl, ?_⟩) ?_ ?_; rotate_left; (exact yP); rotate_left; (exact aP); refine pure_ (i := 2) (N := some 55) (v := ?_) (a' := ?_) (bv 16 5) rfl rfl (any_of HT_.out (by kernel_rfl)) (fun _ _ _ h => h) (Or.inl ⟨by rfl, ?_⟩) ?_ ?_; rotate_left; (exact yP); rotate_left; (exact aP); refine pure_ (i := 3) (N := some 56) (v := ?_) (a' := ?_) (bv 16 13) rfl rfl (any_of HT_.out (by kernel_rfl)) (fun _ _ _ h => h) (Or.inl ⟨by rfl, ?_⟩) ?_ ?_; rotate_left; (exact yP); rotate_left; (exact aP); refine pure_ (i := 4) (N := some 57) (v := ?_) (a' := ?_) (bv 16 29) rfl rfl (any_of HT_.out (by kernel_rfl)) (fun _ _ _ h => h) (Or.inl ⟨by rfl, ?_⟩) ?_ ?_; rotate_left; (exact yP); rotate_left; (exact aP); refine pure_ (i := 6) (N := some 59) (v := ?_) (a' := ?_) (bv 16 93) rfl rfl (any_of HT_.out (by kernel_rfl)) (fun _ _ _ h => h) (Or.inl ⟨by rfl, ?_⟩) ?_ ?_; rotate_left; (exact yP); rotate_left; (exact aP); refine take_ (i := 1) (N := some 54) (v := ?_) (a' := ?_) (bv 16 95) rfl rfl (take_ofW HT_.out HW_.out (by kernel_rfl)) (fun _ _ _ h => h) (Or.inl ⟨by rfl, ?_⟩) hHeld ?_ ?_; rotate_left
       ·
        rintro w' ⟨s0, s1, s2, s3, s4, s5⟩; go_simp
        with_reducible rfl
       rotate_left; (exact aP); refine take_ (i := 5) (N := some 58) (v := ?_) (a' := ?_) (bv 16 127) rfl rfl (take_ofW HT_.out HW_.out (by kernel_rfl)) (fun _ _ _ h => h) (Or.inl ⟨by rfl, ?_⟩) hHeld ?_ ?_; rotate_left
       ·
        rintro w' ⟨s0, s1, s2, s3, s4, s5⟩; go_simp
        with_reducible rfl
       rotate_left; (exact aP); refine pure_ (i := 7) (N := some 60) (v := ?_) (a' := ?_) (bv 16 255) rfl rfl (any_of HT_.out (by kernel_rfl)) (fun _ _ _ h => h) (Or.inl ⟨by rfl, ?_⟩) ?_ ?_; rotate_left; (exact yP); rotate_left; (exact aP); refine take_ (i := 8) (N := some 61) (v := ?_) (a' := ?_) (bv 16 511) rfl rfl (take_ofW HT_.out HW_.out (by kernel_rfl)) (fun _ _ _ h => h) (Or.inl ⟨by rfl, ?_⟩) hHeld ?_ ?_; rotate_left
       ·
        rintro w' ⟨s0, s1, s2, s3, s4, s5⟩; go_simp
        with_reducible rfl
       rotate_left; (exact aP); refine one_ (i := 9) (N := some 62) (bv 16 1023) rfl rfl (one_of HT_.out (by kernel_rfl)) (by decide) (fun K hK => ?_); refine econ.goes Try.func59 (by kernel_rfl) rfl #[.int .i64 (rd l0_0 x42_2), .pointer (some ⟨ga, 0, none⟩), .pointer (some ⟨gb, 0, none⟩), .pointer (some ⟨gm, 0, none⟩)] (by rfl) rfl rfl (by rfl) lQ ?_
       with_reducible refine (econ.calls k2 (rd l0_0 x42_2) ga gb gm ca cb At ct lt Af cf lf t468 _ (blk_below HCA.out HB.out) (blk_below HCB.out HB.out) (blk_below HCM.out HB.out) (Kd.C_below HCT.out HB.out) LCT.out (Kd.C_below HCF.out HB.out) LCF.out A37.out).mono ?_
       rintro e w' ⟨rfl, ⟨nd, rfl⟩⟩; refine ⟨_, rfl, ?_⟩; refine hK.out _ _ ⟨(blk_cell BK466.out 0).trans rfl, (blk_cell BK466.out 1).trans rfl, (blk_cell BK460.out 0).trans rfl, (blk_cell BK460.out 1).trans rfl, z3_1, hHeld.2.2.2.2.2⟩ (fun hHeld => ?_); clear hK K; refine norm_ (a' := ?_) ?_ ?_; rotate_left
       ·
        show Act.put _ (some 62) _ = _
        simp only [Act.put, List.setIfInBounds_toArray, List.set_cons_zero, List.set_cons_succ, i64_w, i32_w]; rfl
       refine pure_ (i := 10) (N := some 63) (v := ?_) (a' := ?_) (bv 16 2047) rfl rfl (any_of HT_.out (by kernel_rfl)) (fun _ _ _ h => h) (Or.inl ⟨by rfl, ?_⟩) ?_ ?_; rotate_left; (exact yP); rotate_left; (exact aP); refine take_ (i := 11) (N := some 64) (v := ?_) (a' := ?_) (bv 16 4095) rfl rfl (take_ofW HT_.out HW_.out (by kernel_rfl)) (fun _ _ _ h => h) (Or.inl ⟨by rfl, ?_⟩) hHeld ?_ ?_; rotate_left
       ·
        rintro w' ⟨s0, s1, s2, s3, s4, s5⟩; go_simp
        with_reducible rfl
       rotate_left; (exact aP); refine one_ (i := 12) (N := some 65) (bv 16 8191) rfl rfl (one_of HT_.out (by kernel_rfl)) (by decide) (fun K hK => ?_); refine value_ (w1 := ?_) (v := ?_) (by rfl) rfl ?_ ?_; rotate_left 2
       ·
        go_simp
        constructor
        · rfl
        · rfl
       refine hK.out _ _ ⟨(blk_cell (blk_alloc BK466.out _) 0).trans rfl, (blk_cell (blk_alloc BK466.out _) 1).trans rfl, (blk_cell (blk_alloc BK460.out _) 0).trans rfl, (blk_cell (blk_alloc BK460.out _) 1).trans rfl, (World.cell?_alloc_lt _ _ _ (World.block_lt_of_cell? _ _ ((by first | exact hw467_0 | exact (HB.out.cell (World.block_lt_of_cell? w _ hw467_0)).trans hw467_0)))).trans (z3_1), (World.cell?_alloc_lt _ _ _ (World.block_lt_of_cell? _ _ (hHeld.2.2.2.2.2))).trans (hHeld.2.2.2.2.2)⟩ (fun hHeld => ?_); clear hK K; refine norm_ (a' := ?_) ?_ ?_; rotate_left
       ·
        show Act.put _ (some 65) _ = _
        simp only [Act.put, List.setIfInBounds_toArray, List.set_cons_zero, List.set_cons_succ, i64_w, i32_w]; rfl
       refine last_ (i := 13) (N := some 66) (bv 16 16383) rfl rfl (one_of HT_.out (by kernel_rfl)) (by decide) (fun K hK => ?_); refine Kd.R_append_step (Kd.int .i64) (w0 := w) w.heap.size (by rfl) (.tmp 54) (.tmp 65) 23 3 (.int .i64 0) 8 rfl Try.underlying23 info3 rfl (by decide) (by omega) uZ2 xZ2_2 (rd x9_1 t468) [.int .i64 (rd x9_1 t468)] (fun k_ => some k_ ≠ (.slice (some ad469) x9_1.length co13 : Value).ownBlock ∧ oV k_ uZ3) (fun _ => False) rfl rfl ?aP (fun _ hk => hk.elim) ?aF ?aO ?aB ?aS ?aL ?_
       (case aP => exact rfl)
       (case aB => exact z3_6)
       (case aF => exact (fun k_ hk => ⟨Kd.fresh' (Kd.R_lt (rU HO_9.out)) k_ hk, Kd.fresh' (Kd.R_lt (rU HO_Z3.out)) k_ hk⟩))
       (case aO => exact (rU HO_Z2.out))
       (case aS => exact (below_size z3_6))
       (case aL => have := LMc40.out; omega)
       intro v471 w46 ho hb hg hat; rw [← Ny470.out] at ho; replace HO_9 := Az (Kd.R_after (ok := (fun k_ => oV k_ uZ3)) (rM HO_9.out) hg hat); replace HO_Z3 := Az (Kd.R_after (ok := (fun k_ => some k_ ≠ (.slice (some ad469) x9_1.length co13 : Value).ownBlock)) (rU HO_Z3.out) hg hat); replace BK460 := Az (kG BK460.out hg (Kd.R_ne HO_Z2.out BK460.out (by decide))); replace BK461 := Az (kG BK461.out hg (Kd.R_ne HO_Z2.out BK461.out (by decide))); replace BK466 := Az (kG BK466.out hg (Kd.R_ne HO_Z2.out BK466.out (by decide))); replace HB := Az (hb); have HO472 := Az (ho); clear HO_Z2 ho hb hg hat; obtain ⟨Ao47, co47, eo47⟩ := Kd.R_slice HO472.out; (first | subst eo47 | (injection eo47 with f1_ f2_ f3_; have f4_ := f1_.symm; have f5_ := f3_.symm; clear f1_ f2_ f3_; subst f4_; subst f5_)); refine hK.out _ _ ?_; clear hK K; refine norm_ (a' := ?_) ?_ ?_; rotate_left
       ·
        show Act.put _ (some 66) _ = _
        simp only [Act.put, List.setIfInBounds_toArray, List.set_cons_zero, List.set_cons_succ, i64_w, i32_w]; rfl
       refine pure_ (i := 14) (N := some 67) (v := ?_) (a' := ?_) (bv 16 32767) rfl rfl (any_of HT_.out (by kernel_rfl)) (fun _ _ _ h => h) (Or.inl ⟨by rfl, ?_⟩) ?_ ?_; rotate_left; (exact yP); rotate_left; (exact aP); refine last_ (i := 15) (N := none) (bv 16 65535) rfl rfl (one_of HT_.out (by kernel_rfl)) (by decide) (fun K hK => ?_); have hs48 : w46.cell? ⟨gb466, 0, none⟩ = some (uZ2) := (blk_cell BK466.out 0).trans rfl; have hfs48 := blk_frozen BK466.out 0; have hns48_0 := NB460_466.out; have hns48_1 := NB461_466.out; have hms48_0 := (NB460_466.out).symm; have hms48_1 := (NB461_466.out).symm; refine skip_ (w1 := ?_) (by rfl) rfl ?_ ?_; rotate_left
       · go_simp; rfl
       refine hK.out _ _ ?_; clear hK K; refine done_ (done_of HT_.out (by kernel_rfl)) ?_
       try go_wp2
       have n0 : Aside0 (Kd.R (Kd.int .i64) 3 (w46.setCell ⟨gb466, 0, none⟩ (.slice Ao47 y470.length co47)) w.heap.size (fun k_ => oV k_ uZ3 ∧ oS k_ Ao47 y470.length co47) (.slice (some ad469) x9_1.length co13) x9_1) := ⟨rM (Kd.R_far (p := ⟨gb466, 0, none⟩) (Kd.R_types HO_9.out BK466.out (by decide)) (fun _ hk => hk.2) (.slice Ao47 y470.length co47))⟩; have n1 : Aside0 (Kd.R (Kd.int .i64) 3 (w46.setCell ⟨gb466, 0, none⟩ (.slice Ao47 y470.length co47)) w.heap.size (fun k_ => some k_ ≠ (.slice (some ad469) x9_1.length co13 : Value).ownBlock ∧ oS k_ Ao47 y470.length co47) uZ3 xZ3_2) := ⟨rM (Kd.R_far (p := ⟨gb466, 0, none⟩) (Kd.R_types HO_Z3.out BK466.out (by decide)) (fun _ hk => hk.2) (.slice Ao47 y470.length co47))⟩; have n2 : Aside0 (Kd.R (Kd.int .i64) 3 (w46.setCell ⟨gb466, 0, none⟩ (.slice Ao47 y470.length co47)) w.heap.size (fun k_ => some k_ ≠ (.slice (some ad469) x9_1.length co13 : Value).ownBlock ∧ oV k_ uZ3) (.slice Ao47 y470.length co47) y470) := ⟨rM (Kd.R_far (p := ⟨gb466, 0, none⟩) (Kd.R_types HO472.out BK466.out (by decide)) (fun _ hk => hk.2) (.slice Ao47 y470.length co47))⟩; have n3 : Aside0 ((w46.setCell ⟨gb466, 0, none⟩ (.slice Ao47 y470.length co47)).heap[gb460]? = some (.cells #[.slice (some ad467) l0_0.length c0_0, .slice A0_1 l0_1.length c0_1] 25 (0, 0))) := ⟨by (with_reducible repeat (first | refine blk_drewN ?_ _ | refine blk_drew ?_ | refine blk_alloc ?_ _)); refine blk_far ?_ NB460_466.out _; (with_reducible repeat (first | refine blk_drewN ?_ _ | refine blk_drew ?_ | refine blk_alloc ?_ _)); exact BK460.out⟩; have n4 : Aside0 ((w46.setCell ⟨gb466, 0, none⟩ (.slice Ao47 y470.length co47)).heap[gb461]? = some (.cells #[.slice none 0 0, .slice none 0 0] 25 (0, 0))) := ⟨by (with_reducible repeat (first | refine blk_drewN ?_ _ | refine blk_drew ?_ | refine blk_alloc ?_ _)); refine blk_far ?_ NB461_466.out _; (with_reducible repeat (first | refine blk_drewN ?_ _ | refine blk_drew ?_ | refine blk_alloc ?_ _)); exact BK461.out⟩; have n5 : Aside0 ((w46.setCell ⟨gb466, 0, none⟩ (.slice Ao47 y470.length co47)).heap[gb466]? = some (.cells #[.slice Ao47 y470.length co47, uZ3] 25 (0, 0))) := ⟨by (with_reducible repeat (first | refine blk_drewN ?_ _ | refine blk_drew ?_ | refine blk_alloc ?_ _)); refine blk_put (cs := #[uZ2, uZ3]) ?_ 0 _ rfl; (with_reducible repeat (first | refine blk_drewN ?_ _ | refine blk_drew ?_ | refine blk_alloc ?_ _)); exact BK466.out⟩; have n6 : Aside0 (Below w.heap.size w (w46.setCell ⟨gb466, 0, none⟩ (.slice Ao47 y470.length co47))) := ⟨bU3 HB.out GW460.out GW461.out GW466.out⟩; generalize (w46.setCell ⟨gb466, 0, none⟩ (.slice Ao47 y470.length co47)) = w49 at n0 n1 n2 n3 n4 n5 n6 ⊢; have HO_9 := n0; have HO_Z3 := n1; have HO472 := n2; have BK460 := n3; have BK461 := n4; have BK466 := n5; have HB := n6; clear n0 n1 n2 n3 n4 n5 n6; replace HO_9 := Az (Kd.R_drew HO_9.out); replace HO_Z3 := Az (Kd.R_drew HO_Z3.out); replace HO472 := Az (Kd.R_drew HO472.out); replace BK460 := Az (blk_drew BK460.out); replace BK461 := Az (blk_drew BK461.out); replace BK466 := Az (blk_drew BK466.out); replace HB := Az (below_drew1 HB.out); obtain ⟨ad473, e473, _, _, hx473_0⟩ := aI HR0_1.out x42_2; have hw473_0 := hx473_0
       cases e473
       replace hx473_0 := hT HB.out hx473_0; obtain ⟨_, _, hx474_0⟩ := aJ (Kd.R_reads' HO_9.out).2.2 (rd l0_1 x42_2); refine start_ (n := 14) (S := fun w' => w'.cell? ⟨gb466, 0, none⟩ = some (.slice Ao47 y470.length co47) ∧ w'.cell? ⟨gb466, 1, none⟩ = some (uZ3) ∧ w'.cell? ⟨gb460, 0, none⟩ = some (.slice (some ad467) l0_0.length c0_0) ∧ w'.cell? ⟨gb460, 1, none⟩ = some (.slice (some ad473) l0_1.length c0_1) ∧ w'.cell? (ad473.add (x42_2).toNat) = some (.int .i64 (rd l0_1 x42_2)) ∧ w'.cell? (ad469.add ((rd l0_1 x42_2)).toNat) = some (.int .i64 (rd x9_1 (rd l0_1 x42_2)))) (ds := [11, 13]) (bv 14 0) (by kernel_rfl) rfl rfl ⟨(blk_cell BK466.out 0).trans rfl, (blk_cell BK466.out 1).trans rfl, (blk_cell BK460.out 0).trans rfl, (blk_cell BK460.out 1).trans rfl, z3_3, hx474_0⟩ (fun hHeld => ?_); refine with_tabW leftCon.tab15 leftCon.bits15 (fun HT_ HW_ => ?_); generalize w49.drew = w50 at HO_9 HO_Z3 HO472 BK460 BK461 BK466 HB hx473_0 hx474_0 hHeld ⊢; refine pure_ (i := 0) (N := some 68) (v := ?_) (a' := ?_) (bv 14 1) rfl rfl (any_of HT_.out (by kernel_rfl)) (fun _ _ _ h => h) (Or.inl ⟨by rfl, ?_⟩) ?_ ?_; rotate_left; (exact yP); rotate_left; (exact aP); refine pure_ (i := 2) (N := some 70) (v := ?_) (a' := ?_) (bv 14 5) rfl rfl (any_of HT_.out (by kernel_rfl)) (fun _ _ _ h => h) (Or.inl ⟨by rfl, ?_⟩) ?_ ?_; rotate_left; (exact yP); rotate_left; (exact aP); refine pure_ (i := 3) (N := some 71) (v := ?_) (a' := ?_) (bv 14 13) rfl rfl (any_of HT_.out (by kernel_rfl)) (fun _ _ _ h => h) (Or.inl ⟨by rfl, ?_⟩) ?_ ?_; rotate_left; (exact yP); rotate_left; (exact aP); refine pure_ (i := 5) (N := some 73) (v := ?_) (a' := ?_) (bv 14 45) rfl rfl (any_of HT_.out (by kernel_rfl)) (fun _ _ _ h => h) (Or.inl ⟨by rfl, ?_⟩) ?_ ?_; rotate_left; (exact yP); rotate_left; (exact aP); refine take_ (i := 1) (N := some 69) (v := ?_) (a' := ?_) (bv 14 47) rfl rfl (take_ofW HT_.out HW_.out (by kernel_rfl)) (fun _ _ _ h => h) (Or.inl ⟨by rfl, ?_⟩) hHeld ?_ ?_; rotate_left
       ·
        rintro w' ⟨s0, s1, s2, s3, s4, s5⟩; go_simp
        with_reducible rfl
       rotate_left; (exact aP); refine take_ (i := 4) (N := some 72) (v := ?_) (a' := ?_) (bv 14 63) rfl rfl (take_ofW HT_.out HW_.out (by kernel_rfl)) (fun _ _ _ h => h) (Or.inl ⟨by rfl, ?_⟩) hHeld ?_ ?_; rotate_left
       ·
        rintro w' ⟨s0, s1, s2, s3, s4, s5⟩; go_simp
        with_reducible rfl
       rotate_left; (exact aP); refine pure_ (i := 6) (N := some 74) (v := ?_) (a' := ?_) (bv 14 127) rfl rfl (any_of HT_.out (by kernel_rfl)) (fun _ _ _ h => h) (Or.inl ⟨by rfl, ?_⟩) ?_ ?_; rotate_left; (exact yP); rotate_left; (exact aP); refine take_ (i := 7) (N := some 75) (v := ?_) (a' := ?_) (bv 14 255) rfl rfl (take_ofW HT_.out HW_.out (by kernel_rfl)) (fun _ _ _ h => h) (Or.inl ⟨by rfl, ?_⟩) hHeld ?_ ?_; rotate_left
       ·
        rintro w' ⟨s0, s1, s2, s3, s4, s5⟩; go_simp
        with_reducible rfl
       rotate_left; (exact aP); refine pure_ (i := 8) (N := some 76) (v := ?_) (a' := ?_) (bv 14 511) rfl rfl (any_of HT_.out (by kernel_rfl)) (fun _ _ _ h => h) (Or.inl ⟨by rfl, ?_⟩) ?_ ?_; rotate_left; (exact yP); rotate_left; (exact aP); refine take_ (i := 9) (N := some 77) (v := ?_) (a' := ?_) (bv 14 1023) rfl rfl (take_ofW HT_.out HW_.out (by kernel_rfl)) (fun _ _ _ h => h) (Or.inl ⟨by rfl, ?_⟩) hHeld ?_ ?_; rotate_left
       ·
        rintro w' ⟨s0, s1, s2, s3, s4, s5⟩; go_simp
        with_reducible rfl
       rotate_left; (exact aP); refine one_ (i := 10) (N := some 78) (bv 14 2047) rfl rfl (one_of HT_.out (by kernel_rfl)) (by decide) (fun K hK => ?_); refine value_ (w1 := ?_) (v := ?_) (by rfl) rfl ?_ ?_; rotate_left 2
       ·
        go_simp
        constructor
        · rfl
        · rfl
       refine hK.out _ _ ⟨(blk_cell (blk_alloc BK466.out _) 0).trans rfl, (blk_cell (blk_alloc BK466.out _) 1).trans rfl, (blk_cell (blk_alloc BK460.out _) 0).trans rfl, (blk_cell (blk_alloc BK460.out _) 1).trans rfl, (World.cell?_alloc_lt _ _ _ (World.block_lt_of_cell? _ _ ((by first | exact hw473_0 | exact (HB.out.cell (World.block_lt_of_cell? w _ hw473_0)).trans hw473_0)))).trans (z3_3), (World.cell?_alloc_lt _ _ _ (World.block_lt_of_cell? _ _ (hHeld.2.2.2.2.2))).trans (hHeld.2.2.2.2.2)⟩ (fun hHeld => ?_); clear hK K; refine norm_ (a' := ?_) ?_ ?_; rotate_left
       ·
        show Act.put _ (some 78) _ = _
        simp only [Act.put, List.setIfInBounds_toArray, List.set_cons_zero, List.set_cons_succ, i64_w, i32_w]; rfl
       refine last_ (i := 11) (N := some 79) (bv 14 4095) rfl rfl (one_of HT_.out (by kernel_rfl)) (by decide) (fun K hK => ?_); refine Kd.R_append_step (Kd.int .i64) (w0 := w) w.heap.size (by rfl) (.tmp 69) (.tmp 78) 23 3 (.int .i64 0) 8 rfl Try.underlying23 info3 rfl (by decide) (by omega) uZ3 xZ3_2 (rd x9_1 (rd l0_1 x42_2)) [.int .i64 (rd x9_1 (rd l0_1 x42_2))] (fun k_ => some k_ ≠ (.slice (some ad469) x9_1.length co13 : Value).ownBlock ∧ oS k_ Ao47 y470.length co47) (fun _ => False) rfl rfl ?aP (fun _ hk => hk.elim) ?aF ?aO ?aB ?aS ?aL ?_
       (case aP => exact rfl)
       (case aB => exact z3_6)
       (case aF => exact (fun k_ hk => ⟨Kd.fresh' (Kd.R_lt (rU HO_9.out)) k_ hk, Kd.fresh' (Kd.R_lt (rU HO472.out)) k_ hk⟩))
       (case aO => exact (rU HO_Z3.out))
       (case aS => exact (below_size z3_6))
       (case aL => have := LMc44.out; omega)
       intro v476 w51 ho hb hg hat; rw [← Ny475.out] at ho; replace HO_9 := Az (Kd.R_after (ok := (fun k_ => oS k_ Ao47 y470.length co47)) (rM HO_9.out) hg hat); replace BK460 := Az (kG BK460.out hg (Kd.R_ne HO_Z3.out BK460.out (by decide))); replace BK461 := Az (kG BK461.out hg (Kd.R_ne HO_Z3.out BK461.out (by decide))); replace BK466 := Az (kG BK466.out hg (Kd.R_ne HO_Z3.out BK466.out (by decide))); replace HO472 := Az (Kd.R_after (ok := (fun k_ => some k_ ≠ (.slice (some ad469) x9_1.length co13 : Value).ownBlock)) (rU HO472.out) hg hat); replace HB := Az (hb); have HO477 := Az (ho); clear HO_Z3 ho hb hg hat; obtain ⟨Ao52, co52, eo52⟩ := Kd.R_slice HO477.out; (first | subst eo52 | (injection eo52 with f1_ f2_ f3_; have f4_ := f1_.symm; have f5_ := f3_.symm; clear f1_ f2_ f3_; subst f4_; subst f5_)); refine hK.out _ _ ?_; clear hK K; refine norm_ (a' := ?_) ?_ ?_; rotate_left
       ·
        show Act.put _ (some 79) _ = _
        simp only [Act.put, List.setIfInBounds_toArray, List.set_cons_zero, List.set_cons_succ, i64_w, i32_w]; rfl
       refine pure_ (i := 12) (N := some 80) (v := ?_) (a' := ?_) (bv 14 8191) rfl rfl (any_of HT_.out (by kernel_rfl)) (fun _ _ _ h => h) (Or.inl ⟨by rfl, ?_⟩) ?_ ?_; rotate_left; (exact yP); rotate_left; (exact aP); refine last_ (i := 13) (N := none) (bv 14 16383) rfl rfl (one_of HT_.out (by kernel_rfl)) (by decide) (fun K hK => ?_); have hs53 : w51.cell? ⟨gb466, 1, none⟩ = some (uZ3) := (blk_cell BK466.out 1).trans rfl; have hfs53 := blk_frozen BK466.out 1; have hns53_0 := NB460_466.out; have hns53_1 := NB461_466.out; have hms53_0 := (NB460_466.out).symm; have hms53_1 := (NB461_466.out).symm; refine skip_ (w1 := ?_) (by rfl) rfl ?_ ?_; rotate_left
       · go_simp; rfl
       refine hK.out _ _ ?_; clear hK K; refine done_ (done_of HT_.out (by kernel_rfl)) ?_
       try go_wp2
       go_roundg k2
       case measure => exact mO
       case rel => exact ⟨(wrap64 (x42_2 + 1)), (y470), (y475), (.slice Ao47 y470.length co47), (.slice Ao52 y475.length co52), rS, H', ⟨mO⟩, ⟨by (with_reducible repeat (first | apply Kd.R_alloc | apply Kd.R_drewN | apply Kd.R_drew)); exact Kd.R_mono (Kd.R_far (p := ⟨gb466, 1, none⟩) (Kd.R_types HO_9.out BK466.out (by decide)) (fun _ hk => hk.2) (.slice Ao52 y475.length co52)) (fun _ hk => ⟨hk.1.1, hk.1.2⟩)⟩, ⟨by (with_reducible repeat (first | apply Kd.R_alloc | apply Kd.R_drewN | apply Kd.R_drew)); exact Kd.R_mono (Kd.R_far (p := ⟨gb466, 1, none⟩) (Kd.R_types HO472.out BK466.out (by decide)) (fun _ hk => hk.2) (.slice Ao52 y475.length co52)) (fun _ hk => ⟨hk.1.1, hk.1.2⟩)⟩, ⟨by (with_reducible repeat (first | apply Kd.R_alloc | apply Kd.R_drewN | apply Kd.R_drew)); exact Kd.R_mono (Kd.R_far (p := ⟨gb466, 1, none⟩) (Kd.R_types HO477.out BK466.out (by decide)) (fun _ hk => hk.2) (.slice Ao52 y475.length co52)) (fun _ hk => ⟨hk.1.1, hk.1.2⟩)⟩, ⟨by (with_reducible repeat (first | refine blk_drewN ?_ _ | refine blk_drew ?_ | refine blk_alloc ?_ _)); refine blk_far ?_ NB460_466.out _; (with_reducible repeat (first | refine blk_drewN ?_ _ | refine blk_drew ?_ | refine blk_alloc ?_ _)); exact BK460.out⟩, ⟨by (with_reducible repeat (first | refine blk_drewN ?_ _ | refine blk_drew ?_ | refine blk_alloc ?_ _)); refine blk_far ?_ NB461_466.out _; (with_reducible repeat (first | refine blk_drewN ?_ _ | refine blk_drew ?_ | refine blk_alloc ?_ _)); exact BK461.out⟩, ⟨by (with_reducible repeat (first | refine blk_drewN ?_ _ | refine blk_drew ?_ | refine blk_alloc ?_ _)); refine blk_put (cs := #[.slice Ao47 y470.length co47, uZ3]) ?_ 1 _ rfl; (with_reducible repeat (first | refine blk_drewN ?_ _ | refine blk_drew ?_ | refine blk_alloc ?_ _)); exact BK466.out⟩, ⟨bU3 HB.out GW460.out GW461.out GW466.out⟩⟩
    · rw [if_neg c32] at H; have c32b0 := decide_eq_false c32; clear c32; simp only [Option.some.injEq, Prod.mk.injEq] at H; obtain ⟨rfl, rfl⟩ := H; have hnb54 := nP NB460_466; have hnb55 := nP NB461_466; have hz56 := bc2 BK466.out; obtain ⟨Ao57, co57, eo57⟩ := Kd.R_slice HO_Z2.out; subst eo57; have hnb58 := nP NB460_461; have hz59 := bc2 BK461.out; obtain ⟨Ao60, co60, eo60⟩ := Kd.R_slice HO_Z3.out; subst eo60; go_wp2; refine bodyPost_ret (results_cell_row rfl _ _ gb461 25 #[.slice Ao57 xZ2_2.length co57, .slice Ao60 xZ3_2.length co60] (0, 0) _ rfl z3_0 Try.underlying25 rfl (by kernel_rfl)) rfl ?_; exact ⟨_, _, rE, by (with_reducible repeat (first | apply Kd.R_alloc | apply Kd.R_drewN | apply Kd.R_drew)); exact Kd.R_mono (Kd.R_far (p := ⟨gb461, 1, none⟩) (Kd.R_far (p := ⟨gb461, 0, none⟩) (Kd.R_types HO_Z2.out BK461.out (by decide)) (fun _ hk => hk.2) (.slice Ao57 xZ2_2.length co57)) (fun _ hk => hk.2) (.slice Ao60 xZ3_2.length co60)) (fun _ hk => hk.1.2), by (with_reducible repeat (first | apply Kd.R_alloc | apply Kd.R_drewN | apply Kd.R_drew)); exact Kd.R_mono (Kd.R_far (p := ⟨gb461, 1, none⟩) (Kd.R_far (p := ⟨gb461, 0, none⟩) (Kd.R_types HO_Z3.out BK461.out (by decide)) (fun _ hk => hk.2) (.slice Ao57 xZ2_2.length co57)) (fun _ hk => hk.2) (.slice Ao60 xZ3_2.length co60)) (fun _ hk => hk.1.2), bU3 HB.out GW460.out GW461.out GW466.out⟩
def impl_EdgeContract.j0 : Nat → Int → Bool → List Int → List Int → Option (List Int × List Int × Bool)
 | 0, _, _, _, _ => none
 | k + 1, x1, x23, xZ0, xZ1 => if x23 = true then (some (([] : List Int), ([] : List Int), false)) else ((impl_edgesOf.f k xZ0 xZ1).bind fun t257 => (if 0 ≤ x1 then (if x1 < (t257.length : Int) then (if 0 ≤ (rd t257 x1) then (if (rd t257 x1) < (xZ1.length : Int) then ((leftCon.f k xZ0 xZ1 (rd t257 x1) (rd xZ1 (rd t257 x1)) (rd t257 x1) (rd xZ1 (rd t257 x1)) xZ0 xZ1).bind fun bt264 => (some (bt264.1, bt264.2, true))) else (none)) else (none)) else (none)) else (none)))
def impl_EdgeContract.f (k : Nat) (l0_0 : List Int) (l0_1 : List Int) (a1 : Int) : Option (List Int × List Int × Bool) := (impl_EdgeKind.f k l0_0 l0_1 a1).bind fun t256 => (if t256 = (-1) then (impl_EdgeContract.j0 k a1 true l0_0 l0_1) else (if t256 = 2 then (impl_EdgeContract.j0 k a1 true l0_0 l0_1) else (impl_EdgeContract.j0 k a1 ((l0_1.length : Int) == 2) l0_0 l0_1)))
set_option maxHeartbeats 8000000 in
set_option maxRecDepth 100000 in
theorem impl_EdgeContract.calls (k : Nat) (A0_0 : Option Addr) (c0_0 : Nat) (l0_0 : List Int) (A0_1 : Option Addr) (c0_1 : Nat) (l0_1 : List Int) (a1 : Int) (r1 : List Int) (r2 : List Int) (r3 : Bool) (w : World) (hr0_0 : Kd.C (Kd.int .i64) w A0_0 l0_0.length l0_0) (hc0_0 : l0_0.length ≤ c0_0) (hr0_1 : Kd.C (Kd.int .i64) w A0_1 l0_1.length l0_1) (hc0_1 : l0_1.length ≤ c0_1) (h : impl_EdgeContract.f k l0_0 l0_1 a1 = some (r1, r2, r3)) :
  Calls Try.prog 13 #[.agg #[.slice A0_0 l0_0.length c0_0, .slice A0_1 l0_1.length c0_1], .int .i64 a1] w fun e w' => ∃ v0_ v1_ : Value, e = .returned (.tuple #[.agg #[v0_, v1_], .bool r3]) ∧ Kd.R (Kd.int .i64) 3 w' w.heap.size (fun k_ => oV k_ v1_) v0_ r1 ∧ Kd.R (Kd.int .i64) 3 w' w.heap.size (fun k_ => oV k_ v0_) v1_ r2 ∧ Below w.heap.size w w' := by
 have hu25 := Try.underlying25; have HR0_0 := Az hr0_0; have HC0_0 := Az hc0_0; clear hr0_0 hc0_0; have HR0_1 := Az hr0_1; have HC0_1 := Az hc0_1; clear hr0_1 hc0_1; have HB := bZ w; have H := h; clear h; unfold impl_EdgeContract.f at H; replace H := bd H; obtain ⟨t256, A3, H⟩ := H; have HC4 := Az H; clear H; go_enter Try.func13, Try.ntmps13
 go_upto_region 2 with (first | ((with_reducible refine gd 2 rfl ?_); (refine gate_guard (by rfl) ?_; dsimp only); refine bE 2 #[.slice A0_0 l0_0.length c0_0, .slice A0_1 l0_1.length c0_1] 25 ?_; intro gb254 hg w5 hbox hb; have BK254 := Az (hbox); have GW254 := gW hg (bU0 HB.out); replace HB := Az (below_step (bU0 HB.out) hb); clear hb hbox hg) | ((with_reducible refine gd 4 rfl ?_); (refine gate_guard (by rfl) ?_; dsimp only); refine bE 4 #[.slice none 0 0, .slice none 0 0] 25 ?_; intro gb255 hg w6 hbox hb; have BK255 := Az (hbox); have GW255 := gW hg (bU1 HB.out GW254.out); replace HB := Az (below_step (bU1 HB.out GW254.out) hb); have NB254_255 := nL hg (kU BK254.out); replace BK254 := kB BK254.out hb; clear hb hbox hg; have hnb7 := NB254_255.out; have hnc7 := (NB254_255.out).symm; have hz8 := bc2 BK254.out) | ((with_reducible refine gK 56 rfl ?_); refine gC (some 11) Try.func56 #[.agg #[.slice A0_0 l0_0.length c0_0, .slice A0_1 l0_1.length c0_1], .int .i64 a1] ?_; (with_reducible refine (impl_EdgeKind.calls k _ _ l0_0 _ _ l0_1 a1 t256 _ ?_ ?_ ?_ ?_ A3.out).mono ?_); exact cU (Kd.C_below HR0_0.out HB.out); exact HC0_0.out; exact cU (Kd.C_below HR0_1.out HB.out); exact HC0_1.out; rintro e w9 ⟨rfl, hb⟩; refine ⟨_, rfl, ?_⟩; replace BK254 := kB BK254.out hb; replace BK255 := kB BK255.out hb; replace HB := Az (below_step (bU2 HB.out GW254.out GW255.out) hb); clear hb))
 go_cut [23] (fun v23 wc => ∃ (kq : Nat) (x23_3 : Bool), v23 = .bool x23_3 ∧ Aside0 (impl_EdgeContract.j0 kq a1 x23_3 l0_0 l0_1 = some (r1, r2, r3)) ∧ Aside0 (kq ≤ k) ∧ Aside0 (wc.heap[gb254]? = some (.cells #[(.slice A0_0 l0_0.length c0_0), (.slice A0_1 l0_1.length c0_1)] 25 (0, 0))) ∧ Aside0 (wc.heap[gb255]? = some (.cells #[(.slice none 0 0), (.slice none 0 0)] 25 (0, 0))) ∧ Aside0 (Below w.heap.size w wc))
 case first =>
  have H := HC4.out; clear HC4
  replace H := gQ H; rcases H with ⟨c10b0, c10b1, H⟩ | ⟨c10b0, c10b1, H⟩
  ·
   have H' := Az H; clear H; go_wp2; go_meet
   case rel => exact ⟨_, (true), rS, H', ⟨mO⟩, ⟨kU BK254.out⟩, ⟨kU BK255.out⟩, ⟨bU2 HB.out GW254.out GW255.out⟩⟩
  ·
   replace H := gQ H; rcases H with ⟨c11b0, c11b1, H⟩ | ⟨c11b0, c11b1, H⟩
   ·
    have H' := Az H; clear H; go_wp2; go_meet
    case rel => exact ⟨_, (true), rS, H', ⟨mO⟩, ⟨kU BK254.out⟩, ⟨kU BK255.out⟩, ⟨bU2 HB.out GW254.out GW255.out⟩⟩
   ·
    have H' := Az H; clear H; have hnb12 := NB254_255.out; have hnc12 := (NB254_255.out).symm; have hz13 := bc2 BK254.out; go_wp2; go_meet
    case rel => exact ⟨_, (((l0_1.length : Int) == 2)), rS, H', ⟨mO⟩, ⟨kU BK254.out⟩, ⟨kU BK255.out⟩, ⟨bU2 HB.out GW254.out GW255.out⟩⟩
 case rest =>
  clear HC4; obtain ⟨kq, x23_3, rfl, HA, HJ3, BK254, BK255, HB⟩ := hcut
  rcases kq with _ | kj3
  exact (nN HA.out).elim; have H := HA.out; clear HA; simp only [impl_EdgeContract.j0] at H
  by_cases c14 : x23_3 = true
  · subst c14; rw [if_pos rfl] at H; simp only [Option.some.injEq, Prod.mk.injEq] at H; obtain ⟨rfl, rfl, rfl⟩ := H; have hnb15 := nP NB254_255; have hz16 := bc2 BK255.out; go_wp2; refine bodyPost_ret (results_ct rfl _ _ gb255 25 #[.slice none 0 0, .slice none 0 0] (0, 0) _ rfl (by (with_reducible repeat (first | refine blk_drewN ?_ _ | refine blk_drew ?_ | refine blk_alloc ?_ _)); refine blk_put (cs := #[.slice none 0 0, .slice none 0 0]) ?_ 1 _ rfl; (with_reducible repeat (first | refine blk_drewN ?_ _ | refine blk_drew ?_ | refine blk_alloc ?_ _)); refine blk_put (cs := #[.slice none 0 0, .slice none 0 0]) ?_ 0 _ rfl; (with_reducible repeat (first | refine blk_drewN ?_ _ | refine blk_drew ?_ | refine blk_alloc ?_ _)); exact BK255.out) Try.underlying25 rfl (by kernel_rfl)) rfl ?_; exact ⟨_, _, rE, by first | exact Kd.R_nil _ _ _ _ _ | exact Kd.N_nil _ _ _ _ _ | exact Kd.V_nil _ _ _ _ _ | exact Kd.Q_nil _ _ _ _ _ | exact Kd.S_nil _ _ _ _ _, by first | exact Kd.R_nil _ _ _ _ _ | exact Kd.N_nil _ _ _ _ _ | exact Kd.V_nil _ _ _ _ _ | exact Kd.Q_nil _ _ _ _ _ | exact Kd.S_nil _ _ _ _ _, bU2 HB.out GW254.out GW255.out⟩
  ·
   replace c14 := Bool.eq_false_iff.mpr c14; subst c14; rw [if_neg nT] at H; replace H := bd H; obtain ⟨t257, A17, H⟩ := H; replace H := gD4 H; obtain ⟨c18b0, c19b0, c20b0, c21b0, H⟩ := H; replace H := bd H; obtain ⟨⟨t264, t267⟩, A22, H⟩ := H; dsimp only at H; simp only [Option.some.injEq, Prod.mk.injEq] at H; obtain ⟨rfl, rfl, rfl⟩ := H; have hnb23 := NB254_255.out; have hnc23 := (NB254_255.out).symm; have hz24 := bc2 BK254.out
   go_wp2_with (first | ((with_reducible refine gK 57 rfl ?_); refine gC (some 26) Try.func57 #[.agg #[.slice A0_0 l0_0.length c0_0, .slice A0_1 l0_1.length c0_1]] ?_; (with_reducible refine (impl_edgesOf.calls kj3 _ _ l0_0 _ _ l0_1 t257 _ ?_ ?_ ?_ ?_ A17.out).mono ?_); exact cU (Kd.C_below HR0_0.out HB.out); exact HC0_0.out; exact cU (Kd.C_below HR0_1.out HB.out); exact HC0_1.out; rintro e w25 ⟨v258, rfl, ho0, hb⟩; refine ⟨_, rfl, ?_⟩; have HO259 := Az (Kd.R_lower ho0 (below_size (bU2 HB.out GW254.out GW255.out))); replace BK254 := kB BK254.out hb; replace BK255 := kB BK255.out hb; replace HB := Az (below_step (bU2 HB.out GW254.out GW255.out) hb); clear hb ho0; obtain ⟨Ao26, co26, eo26⟩ := Kd.R_slice HO259.out; subst eo26; obtain ⟨ad260, e260, _, _, hx260_0⟩ := aI (Kd.R_reads' HO259.out).2.2 a1; cases e260) | ((with_reducible refine gd 7 rfl ?_); (refine gate_guard (by rfl) ?_; dsimp only); refine bE 7 #[.int .i64 0] 3 ?_; intro gb261 hg w27 hbox hb; have NE261_259 := Az (fun (e_ : some gb261 = Value.ownBlock _) => (absurd (Kd.R_lt (HO259.out) gb261 e_.symm) (by rw [hg]; exact Nat.lt_irrefl _) : False)); replace HO259 := rB HO259.out hb; have BK261 := Az (hbox); have GW261 := gW hg (bU2 HB.out GW254.out GW255.out); replace HB := Az (below_step (bU2 HB.out GW254.out GW255.out) hb); have NB254_261 := nL hg (kU BK254.out); replace BK254 := kB BK254.out hb; have NB255_261 := nL hg (kU BK255.out); replace BK255 := kB BK255.out hb; clear hb hbox hg; have hnb28 := nP NB254_261; have hnb29 := nP NB255_261; have hz30 := bc1 BK261.out; have hz31 := bc2 BK254.out; obtain ⟨ad262, e262, _, _, hx262_0⟩ := aI HR0_1.out (rd t257 a1); cases e262; have hn262_0 : ad262.block ≠ gb261 := Nat.ne_of_lt (Nat.lt_of_lt_of_le (by have := World.block_lt_of_cell? _ _ hx262_0; first | rwa [add_block] at this | exact this) GW261.out); replace hx262_0 := hT HB.out hx262_0; replace hx262_0 := (cell_far (p := ⟨gb261, 0, none⟩) (by first | (rw [add_block]; exact hn262_0) | (show (Addr.add _ _).block ≠ _; rw [add_block]; exact hn262_0) | exact hn262_0) (.int .i64 (rd t257 a1))).trans hx262_0; clear hn262_0) | ((with_reducible refine gd 8 rfl ?_); (refine gate_guard (by rfl) ?_; dsimp only); refine bE 8 #[.int .i64 0] 3 ?_; intro gb263 hg w32 hbox hb; have NE263_259 := Az (fun (e_ : some gb263 = Value.ownBlock _) => (absurd (Kd.R_lt (z3_10) gb263 e_.symm) (by rw [hg]; exact Nat.lt_irrefl _) : False)); replace HO259 := Az (Kd.R_below (rU z3_10) hb); have BK263 := Az (hbox); have GW263 := gW hg (bU3 HB.out GW254.out GW255.out GW261.out); replace HB := Az (below_step (bU3 HB.out GW254.out GW255.out GW261.out) hb); have NB254_263 := nL (g := gb254) (o := .cells #[.slice A0_0 l0_0.length c0_0, .slice (some ad262) l0_1.length c0_1] 25 (0, 0)) hg (kF1 BK254.out NB254_261.out); replace BK254 := Az (blk_below (g := gb254) (o := .cells #[.slice A0_0 l0_0.length c0_0, .slice (some ad262) l0_1.length c0_1] 25 (0, 0)) (kF1 BK254.out NB254_261.out) hb); have NB255_263 := nL (g := gb255) (o := .cells #[.slice none 0 0, .slice none 0 0] 25 (0, 0)) hg (kF1 BK255.out NB255_261.out); replace BK255 := Az (blk_below (g := gb255) (o := .cells #[.slice none 0 0, .slice none 0 0] 25 (0, 0)) (kF1 BK255.out NB255_261.out) hb); have NB261_263 := nL (g := gb261) (o := .cells #[.int .i64 (rd t257 a1)] 3 (0, 0)) hg z3_5; replace BK261 := Az (blk_below (g := gb261) (o := .cells #[.int .i64 (rd t257 a1)] 3 (0, 0)) z3_5 hb); clear hb hbox hg; have hnb33 := nP NB254_263; have hnb34 := nP NB255_263; have hnb35 := nP NB261_263; have hz36 := bc1 BK263.out; have hz37 := bc2 BK254.out; have hz38 := bc1 BK261.out) | ((with_reducible refine gK 58 rfl ?_); refine gC (some 39) Try.func58 #[.agg #[.slice A0_0 l0_0.length c0_0, .slice (some ad262) l0_1.length c0_1], .int .i64 (rd t257 a1), .int .i64 (rd l0_1 (rd t257 a1)), .func (.func 59) #[] #[.pointer (some ⟨gb261, 0, none⟩), .pointer (some ⟨gb263, 0, none⟩), .pointer (some ⟨gb254, 0, none⟩)]] ?_; (with_reducible refine (leftCon.calls kj3 _ _ l0_0 _ _ l0_1 (rd t257 a1) (rd l0_1 (rd t257 a1)) gb261 gb263 gb254 (rd t257 a1) (rd l0_1 (rd t257 a1)) A0_0 c0_0 l0_0 (some ad262) c0_1 l0_1 t264 t267 _ ?side1 ?side2 ?side3 ?side4 ?side5 ?side6 ?side7 ?side8 ?side9 ?side10 ?side11 A22.out).mono ?_); (case side1 => (with_reducible repeat (first | refine blk_drewN ?_ _ | refine blk_drew ?_ | refine blk_alloc ?_ _)); refine blk_far ?_ NB261_263.out _; (with_reducible repeat (first | refine blk_drewN ?_ _ | refine blk_drew ?_ | refine blk_alloc ?_ _)); exact BK261.out); (case side2 => (with_reducible repeat (first | refine blk_drewN ?_ _ | refine blk_drew ?_ | refine blk_alloc ?_ _)); refine blk_put (cs := #[.int .i64 0]) ?_ 0 _ rfl; (with_reducible repeat (first | refine blk_drewN ?_ _ | refine blk_drew ?_ | refine blk_alloc ?_ _)); exact BK263.out); (case side3 => (with_reducible repeat (first | refine blk_drewN ?_ _ | refine blk_drew ?_ | refine blk_alloc ?_ _)); refine blk_far ?_ NB254_263.out _; (with_reducible repeat (first | refine blk_drewN ?_ _ | refine blk_drew ?_ | refine blk_alloc ?_ _)); exact BK254.out); (case side4 => exact Kd.C_below HR0_0.out z3_4); (case side5 => exact HC0_0.out); (case side6 => exact Kd.C_below HR0_1.out z3_4); (case side7 => exact HC0_1.out); (case side8 => exact Kd.C_below HR0_0.out z3_4); (case side9 => exact HC0_0.out); (case side10 => exact Kd.C_below HR0_1.out z3_4); (case side11 => exact HC0_1.out); rintro e w39 ⟨v265, v268, rfl, ho0, ho1, hb⟩; refine ⟨_, rfl, ?_⟩; have HO266 := Az (Kd.R_lower (Kd.R_new' ho0 (Kd.R_lt z3_2)) (below_size z3_4)); have HO269 := Az (Kd.R_lower (Kd.R_new' ho1 (Kd.R_lt z3_2)) (below_size z3_4)); replace HO259 := Az (Kd.R_mono (Kd.R_told (Kd.R_told (Kd.R_old z3_2 hb) (Kd.R_base ho0)) (Kd.R_base ho1)) (fun _ h_ => h_.1)); replace BK254 := Az (blk_below (g := gb254) (o := .cells #[.slice A0_0 l0_0.length c0_0, .slice (some ad262) l0_1.length c0_1] 25 (0, 0)) (kF1 BK254.out NB254_263.out) hb); replace BK255 := Az (blk_below (g := gb255) (o := .cells #[.slice none 0 0, .slice none 0 0] 25 (0, 0)) (kF1 BK255.out NB255_263.out) hb); replace BK261 := Az (blk_below (g := gb261) (o := .cells #[.int .i64 (rd t257 a1)] 3 (0, 0)) (kF1 BK261.out NB261_263.out) hb); replace BK263 := Az (blk_below (g := gb263) (o := .cells #[.int .i64 (rd l0_1 (rd t257 a1))] 3 (0, 0)) (by (with_reducible repeat (first | refine blk_drewN ?_ _ | refine blk_drew ?_ | refine blk_alloc ?_ _)); refine blk_put (cs := #[.int .i64 0]) ?_ 0 _ rfl; (with_reducible repeat (first | refine blk_drewN ?_ _ | refine blk_drew ?_ | refine blk_alloc ?_ _)); exact BK263.out) hb); replace HB := Az (below_step z3_4 hb); clear hb ho0 ho1; obtain ⟨Ao40, co40, eo40⟩ := Kd.R_slice HO266.out; subst eo40; have hz41 := bc2 BK255.out; obtain ⟨Ao42, co42, eo42⟩ := Kd.R_slice HO269.out; subst eo42))
   refine bodyPost_ret (results_ct rfl _ _ gb255 25 #[.slice Ao40 t264.length co40, .slice Ao42 t267.length co42] (0, 0) _ rfl (by (with_reducible repeat (first | refine blk_drewN ?_ _ | refine blk_drew ?_ | refine blk_alloc ?_ _)); refine blk_put (cs := #[.slice Ao40 t264.length co40, .slice none 0 0]) ?_ 1 _ rfl; (with_reducible repeat (first | refine blk_drewN ?_ _ | refine blk_drew ?_ | refine blk_alloc ?_ _)); refine blk_put (cs := #[.slice none 0 0, .slice none 0 0]) ?_ 0 _ rfl; (with_reducible repeat (first | refine blk_drewN ?_ _ | refine blk_drew ?_ | refine blk_alloc ?_ _)); exact BK255.out) Try.underlying25 rfl (by kernel_rfl)) rfl ?_; exact ⟨_, _, rE, by (with_reducible repeat (first | apply Kd.R_alloc | apply Kd.R_drewN | apply Kd.R_drew)); exact Kd.R_mono (Kd.R_far (p := ⟨gb255, 1, none⟩) (Kd.R_far (p := ⟨gb255, 0, none⟩) (Kd.R_types HO266.out BK255.out (by decide)) (fun _ hk => hk.2) (.slice Ao40 t264.length co40)) (fun _ hk => hk.2) (.slice Ao42 t267.length co42)) (fun _ hk => hk.1.1), by (with_reducible repeat (first | apply Kd.R_alloc | apply Kd.R_drewN | apply Kd.R_drew)); exact Kd.R_mono (Kd.R_far (p := ⟨gb255, 1, none⟩) (Kd.R_far (p := ⟨gb255, 0, none⟩) (Kd.R_types HO269.out BK255.out (by decide)) (fun _ hk => hk.2) (.slice Ao40 t264.length co40)) (fun _ hk => hk.2) (.slice Ao42 t267.length co42)) (fun _ hk => hk.1.1), bU4 HB.out GW254.out GW255.out GW261.out GW263.out⟩
def spec_l7Edges.l0 : Nat → List Int → Int → Int → List Int → List Int → Option (List Int)
 | 0, _, _, _, _, _ => none
 | k + 1, x3, x4, x5, xZ2, xZ3 => if x5 < (x3.length : Int) then (if 0 ≤ x5 then (if x5 < (xZ3.length : Int) then (if x5 < (rd xZ3 x5) then (if 0 ≤ (rd xZ3 x5) then (if (rd xZ3 x5) < (x3.length : Int) then (spec_l7Edges.l0 k ((x3.set (x5 : Int).toNat x4).set ((rd xZ3 x5) : Int).toNat x4) (wrap64 (x4 + 1)) (wrap64 (x5 + 1)) xZ2 xZ3) else (none)) else (none)) else (spec_l7Edges.l0 k x3 x4 (wrap64 (x5 + 1)) xZ2 xZ3)) else (none)) else (none)) else (some x3)
def spec_l7Edges.f (k : Nat) (l0_0 : List Int) (l0_1 : List Int) : Option (List Int) := if 0 ≤ (l0_1.length : Int) then (if ((l0_1.length : Int) : Int).toNat ≤ 35184372088832 then (spec_l7Edges.l0 k (List.replicate ((l0_1.length : Int) : Int).toNat 0) 0 0 l0_0 l0_1) else (none)) else (none)
set_option maxHeartbeats 8000000 in
set_option maxRecDepth 100000 in
theorem spec_l7Edges.calls (k : Nat) (A0_0 : Option Addr) (c0_0 : Nat) (l0_0 : List Int) (A0_1 : Option Addr) (c0_1 : Nat) (l0_1 : List Int) (r : List Int) (w : World) (hr0_0 : Kd.C (Kd.int .i64) w A0_0 l0_0.length l0_0) (hc0_0 : l0_0.length ≤ c0_0) (hr0_1 : Kd.C (Kd.int .i64) w A0_1 l0_1.length l0_1) (hc0_1 : l0_1.length ≤ c0_1) (h : spec_l7Edges.f k l0_0 l0_1 = some r) :
  Calls Try.prog 122 #[.agg #[.slice A0_0 l0_0.length c0_0, .slice A0_1 l0_1.length c0_1]] w fun e w' => ∃ v0_ : Value, e = .returned (v0_) ∧ Kd.R (Kd.int .i64) 3 w' w.heap.size (fun _ => True) v0_ r ∧ Below w.heap.size w w' := by
 have hu25 := Try.underlying25; have HR0_0 := Az hr0_0; have HC0_0 := Az hc0_0; clear hr0_0 hc0_0; have HR0_1 := Az hr0_1; have HC0_1 := Az hc0_1; clear hr0_1 hc0_1; have HB := bZ w; have H := h; clear h; unfold spec_l7Edges.f at H; replace H := gE H; obtain ⟨c2b0, c2b1, H⟩ := H; replace H := gE H; obtain ⟨c3b0, c3b1, H⟩ := H; generalize Ny271 : (List.replicate ((l0_1.length : Int) : Int).toNat 0 : List Int) = y271 at H; replace Ny271 := Ay Ny271; have H' := Az H; clear H; go_enter Try.func122, Try.ntmps122
 go_wp2_with (first | ((with_reducible refine gd 1 rfl ?_); refine bE 1 #[.slice A0_0 l0_0.length c0_0, .slice A0_1 l0_1.length c0_1] 25 ?_; intro gb270 hg w4 hbox hb; have BK270 := Az (hbox); have GW270 := gW hg (bU0 HB.out); replace HB := Az (below_step (bU0 HB.out) hb); clear hb hbox hg; have hz5 := bc2 BK270.out) | ((with_reducible refine gd 9 rfl ?_); refine Kd.R_make (Kd.int .i64) _ 3 rfl (N := 9) rfl 23 _ _ rfl (l0_1.length : Int) rfl rfl Try.underlying23 (.int .i64 0) 8 info3 rfl (by decide) (by omega) 0 (ok := fun _ => True) (okp := fun _ => True) rfl (fun _ hk => hk) trivial (oA) (Nat.le_trans (Nat.mul_le_mul_right _ (oA : (l0_1.length : Int).toNat ≤ 35184372088832)) (by omega)) (Below.refl _ _) (Nat.le_refl _) ?_; intro v272 w6 ho7 hb hg_ hnew_; clear hg_ hnew_; (first | rw [← Ny271.out] at ho7 | (simp only [Int.reduceToNat] at ho7; rw [← Ny271.out] at ho7)); have HO273 := Az (Kd.R_lower ho7 (below_size (bU1 HB.out GW270.out))); replace BK270 := kB BK270.out hb; replace HB := Az (below_step (bU1 HB.out GW270.out) hb); clear hb ho7))
 go_loopg [4, 5] k (fun kq v4 v5 w' => ∃ (x3_1 : List Int) (x4_1 : Int) (x5_1 : Int), v4 = .int .i64 x4_1 ∧ v5 = .int .i64 x5_1 ∧ Aside0 (spec_l7Edges.l0 kq x3_1 x4_1 x5_1 l0_0 l0_1 = some r) ∧ Aside0 (kq ≤ k) ∧ Aside0 (Kd.R (Kd.int .i64) 3 w' w.heap.size (fun _ => True) v272 x3_1) ∧ Aside0 (w'.heap[gb270]? = some (.cells #[(.slice A0_0 l0_0.length c0_0), (.slice A0_1 l0_1.length c0_1)] 25 (0, 0))) ∧ Aside0 (Below w.heap.size w w'))
 case atStart => exact ⟨(y271), (0), (0), rS, rS, H', ⟨Nat.le_refl _⟩, ⟨rU HO273.out⟩, ⟨kU BK270.out⟩, ⟨bU1 HB.out GW270.out⟩⟩
 case round =>
  clear H'; obtain ⟨x3_1, x4_1, x5_1, rfl, rfl, HA, HK1, HO_3, BK270, HB⟩ := hrel
  rcases gk with _ | k1
  exact (nN HA.out).elim; have H := HA.out; clear HA; simp only [spec_l7Edges.l0] at H
  replace H := gB H; rcases H with ⟨c8b0, H⟩ | ⟨c8b0, H⟩
  ·
   replace H := gD2 H; obtain ⟨c9b0, c10b0, H⟩ := H
   replace H := gB H; rcases H with ⟨c11b0, H⟩ | ⟨c11b0, H⟩
   ·
    generalize Ny275 : (x3_1.set (x5_1 : Int).toNat x4_1 : List Int) = y275 at H; replace Ny275 := Ay Ny275; replace H := gD2 H; obtain ⟨c13b0, c14b0, H⟩ := H; generalize Ny277 : (y275.set ((rd l0_1 x5_1) : Int).toNat x4_1 : List Int) = y277 at H; replace Ny277 := Ay Ny277; have H' := Az H; clear H; obtain ⟨Ao16, co16, eo16⟩ := Kd.R_slice HO_3.out; subst eo16; have hz17 := bc2 BK270.out; obtain ⟨ad274, e274, _, _, hx274_0⟩ := aI HR0_1.out x5_1
    cases e274
    replace hx274_0 := hT HB.out hx274_0; have p12 : 0 ≤ (x5_1 : Int) := oA; have q12 : (x5_1 : Int) < ((x3_1.length : Int) : Int) := oA; obtain ⟨go12, co12, eo12, gb12, gl12, cl12, HG12⟩ := Kd.R_form HO_3.out (by omega); (first | cases eo12 | (injection eo12 with ea_ en_ ec_; (first | subst ea_ | (injection ea_ with ea_; subst ea_)); subst ec_; clear en_)); have GB12 := Az gb12; have GG12 := Az HG12; clear gb12 gl12 HG12; obtain ⟨hx12_0, hf12_0⟩ := Kd.R_celln 0 HO_3.out (x5_1 : Int) p12 q12; replace p12 := eq_true p12; replace q12 := eq_true q12; obtain ⟨hy18_, hz18_⟩ := Kd.R_celln 0 HO_3.out (x5_1 : Int) (oA) (oA); have HP18 := Kd.R_putg HO_3.out (x5_1 : Int) x4_1
    go_wp2_with (first | ((with_reducible refine gs 3 26 rfl ?_); refine sE 3 26 (wr.setCell ⟨go12, (x5_1 : Int).toNat, none⟩ (.int .i64 x4_1)) ?_; intro w19 hw; have hg : wr.grownBy w19 (some go12) := (by rw [hw]; exact HP18.2); have hp_ : Kd.R (Kd.int .i64) 3 w19 w.heap.size (fun _ => True) (.slice (some ⟨go12, 0, none⟩) x3_1.length co16) y275 := (by rw [hw, Ny275.out]; exact HP18.1); clear HP18; replace BK270 := Az (kG BK270.out hg (Kd.R_ne HO_3.out BK270.out (by decide))); replace HO_3 := Az (hp_); replace HB := Az ((by rw [hw]; exact below_set (HB.out) GB12.out : Below w.heap.size w w19)); clear hg hw hp_; have hz20 := bc2 BK270.out; obtain ⟨_, _, hx276_0⟩ := aJ HR0_1.out x5_1; replace hx276_0 := hT HB.out hx276_0; have p15 : 0 ≤ ((rd l0_1 x5_1) : Int) := oA; have q15 : ((rd l0_1 x5_1) : Int) < ((x3_1.length : Int) : Int) := oA; obtain ⟨hx15_0, hf15_0⟩ := Kd.R_celln 0 HO_3.out ((rd l0_1 x5_1) : Int) p15 q15; replace p15 := eq_true p15; replace q15 := eq_true q15; obtain ⟨hy21_, hz21_⟩ := Kd.R_celln 0 HO_3.out ((rd l0_1 x5_1) : Int) (oA) (oA); have HP21 := Kd.R_putg HO_3.out ((rd l0_1 x5_1) : Int) x4_1) | ((with_reducible refine gs 3 34 rfl ?_); refine sE 3 34 (w19.setCell ⟨go12, ((rd l0_1 x5_1) : Int).toNat, none⟩ (.int .i64 x4_1)) ?_; intro w22 hw; have hg : w19.grownBy w22 (some go12) := (by rw [hw]; exact HP21.2); have hp_ : Kd.R (Kd.int .i64) 3 w22 w.heap.size (fun _ => True) (.slice (some ⟨go12, 0, none⟩) x3_1.length co16) y277 := (by rw [hw, Ny277.out]; exact HP21.1); clear HP21; replace BK270 := Az (kG BK270.out hg (Kd.R_ne HO_3.out BK270.out (by decide))); replace HO_3 := Az (hp_); replace HB := Az ((by rw [hw]; exact below_set (HB.out) GB12.out : Below w.heap.size w w22)); clear hg hw hp_))
    go_roundg k1
    case measure => exact mO
    case rel => exact ⟨(y277), (wrap64 (x4_1 + 1)), (wrap64 (x5_1 + 1)), rS, rS, H', ⟨mO⟩, ⟨rU HO_3.out⟩, ⟨kU BK270.out⟩, ⟨bU1 HB.out GW270.out⟩⟩
   ·
    have H' := Az H; clear H; obtain ⟨Ao23, co23, eo23⟩ := Kd.R_slice HO_3.out; subst eo23; have hz24 := bc2 BK270.out; obtain ⟨ad274, e274, _, _, hx274_0⟩ := aI HR0_1.out x5_1
    cases e274
    replace hx274_0 := hT HB.out hx274_0; go_wp2; go_roundg k1
    case measure => exact mO
    case rel => exact ⟨(x3_1), (x4_1), (wrap64 (x5_1 + 1)), rS, rS, H', ⟨mO⟩, ⟨rU HO_3.out⟩, ⟨kU BK270.out⟩, ⟨bU1 HB.out GW270.out⟩⟩
  · obtain rfl := Option.some.inj H; obtain ⟨Ao25, co25, eo25⟩ := Kd.R_slice HO_3.out; subst eo25; go_wp2; go_ret; exact ⟨_, rE, rU HO_3.out, bU1 HB.out GW270.out⟩
def spec_l7Dart.l0 : Nat → Int → List Int → Int → Option (Int)
 | 0, _, _, _ => none
 | k + 1, x1, x5, x6 => if x6 < (x5.length : Int) then (if 0 ≤ x6 then (if (rd x5 x6) = x1 then (some x6) else (spec_l7Dart.l0 k x1 x5 (wrap64 (x6 + 1)))) else (none)) else (some (-1))
def spec_l7Dart.f (k : Nat) (l0_0 : List Int) (l0_1 : List Int) (a1 : Int) : Option (Int) := (spec_l7Edges.f k l0_0 l0_1).bind fun t279 => (spec_l7Dart.l0 k a1 t279 0)
set_option maxHeartbeats 8000000 in
set_option maxRecDepth 100000 in
theorem spec_l7Dart.calls (k : Nat) (A0_0 : Option Addr) (c0_0 : Nat) (l0_0 : List Int) (A0_1 : Option Addr) (c0_1 : Nat) (l0_1 : List Int) (a1 : Int) (r : Int) (w : World) (hr0_0 : Kd.C (Kd.int .i64) w A0_0 l0_0.length l0_0) (hc0_0 : l0_0.length ≤ c0_0) (hr0_1 : Kd.C (Kd.int .i64) w A0_1 l0_1.length l0_1) (hc0_1 : l0_1.length ≤ c0_1) (h : spec_l7Dart.f k l0_0 l0_1 a1 = some r) :
  Calls Try.prog 61 #[.agg #[.slice A0_0 l0_0.length c0_0, .slice A0_1 l0_1.length c0_1], .int .i64 a1] w fun e w' => e = .returned (.int .i64 r) ∧ Below w.heap.size w w' := by
 have hu25 := Try.underlying25; have HR0_0 := Az hr0_0; have HC0_0 := Az hc0_0; clear hr0_0 hc0_0; have HR0_1 := Az hr0_1; have HC0_1 := Az hc0_1; clear hr0_1 hc0_1; have HB := bZ w; have H := h; clear h; unfold spec_l7Dart.f at H; replace H := bd H; obtain ⟨t279, A3, H⟩ := H; have H' := Az H; clear H; go_enter Try.func61, Try.ntmps61
 go_wp2_with (first | ((with_reducible refine gd 2 rfl ?_); refine bE 2 #[.slice A0_0 l0_0.length c0_0, .slice A0_1 l0_1.length c0_1] 25 ?_; intro gb278 hg w4 hbox hb; have BK278 := Az (hbox); have GW278 := gW hg (bU0 HB.out); replace HB := Az (below_step (bU0 HB.out) hb); clear hb hbox hg; have hz5 := bc2 BK278.out) | ((with_reducible refine gK 122 rfl ?_); refine gC (some 8) Try.func122 #[.agg #[.slice A0_0 l0_0.length c0_0, .slice A0_1 l0_1.length c0_1]] ?_; (with_reducible refine (spec_l7Edges.calls k _ _ l0_0 _ _ l0_1 t279 _ ?_ ?_ ?_ ?_ A3.out).mono ?_); exact cU (Kd.C_below HR0_0.out HB.out); exact HC0_0.out; exact cU (Kd.C_below HR0_1.out HB.out); exact HC0_1.out; rintro e w6 ⟨v280, rfl, ho0, hb⟩; refine ⟨_, rfl, ?_⟩; have HO281 := Az (Kd.R_lower ho0 (below_size (bU1 HB.out GW278.out))); replace BK278 := kB BK278.out hb; replace HB := Az (below_step (bU1 HB.out GW278.out) hb); clear hb ho0))
 go_loopg [6] k (fun kq v6 w' => ∃ (x6_1 : Int), v6 = .int .i64 x6_1 ∧ Aside0 (spec_l7Dart.l0 kq a1 t279 x6_1 = some r) ∧ Aside0 (kq ≤ k) ∧ Aside0 (Kd.R (Kd.int .i64) 3 w' w.heap.size (fun _ => True) v280 t279) ∧ Aside0 (w'.heap[gb278]? = some (.cells #[(.slice A0_0 l0_0.length c0_0), (.slice A0_1 l0_1.length c0_1)] 25 (0, 0))) ∧ Aside0 (Below w.heap.size w w'))
 case atStart => exact ⟨(0), rS, H', ⟨Nat.le_refl _⟩, ⟨rU HO281.out⟩, ⟨kU BK278.out⟩, ⟨bU1 HB.out GW278.out⟩⟩
 case round =>
  clear H'; obtain ⟨x6_1, rfl, HA, HK1, HO_5, BK278, HB⟩ := hrel
  rcases gk with _ | k1
  exact (nN HA.out).elim; have H := HA.out; clear HA; simp only [spec_l7Dart.l0] at H
  replace H := gB H; rcases H with ⟨c7b0, H⟩ | ⟨c7b0, H⟩
  ·
   replace H := gD1 H; obtain ⟨c8b0, H⟩ := H
   replace H := gQ H; rcases H with ⟨c9b0, c9b1, H⟩ | ⟨c9b0, c9b1, H⟩
   ·
    obtain rfl := Option.some.inj H; obtain ⟨Ao10, co10, eo10⟩ := Kd.R_slice HO_5.out; subst eo10; obtain ⟨ad282, e282, _, _, hx282_0⟩ := aI (Kd.R_reads' HO_5.out).2.2 x6_1
    cases e282; go_wp2; go_ret; exact ⟨rE, bU1 HB.out GW278.out⟩
   ·
    have H' := Az H; clear H; obtain ⟨Ao11, co11, eo11⟩ := Kd.R_slice HO_5.out; subst eo11; obtain ⟨ad282, e282, _, _, hx282_0⟩ := aI (Kd.R_reads' HO_5.out).2.2 x6_1
    cases e282; go_wp2; go_roundg k1
    case measure => exact mO
    case rel => exact ⟨(wrap64 (x6_1 + 1)), rS, H', ⟨mO⟩, ⟨rU HO_5.out⟩, ⟨kU BK278.out⟩, ⟨bU1 HB.out GW278.out⟩⟩
  · obtain rfl := Option.some.inj H; obtain ⟨Ao12, co12, eo12⟩ := Kd.R_slice HO_5.out; subst eo12; go_wp2; go_ret; exact ⟨rE, bU1 HB.out GW278.out⟩
def spec_l1Same.l0 : Nat → Int → List Int → Int → Option (List Int)
 | 0, _, _, _ => none
 | k + 1, x0, x3, x4 => if x4 < x0 then (if x3.length < 17592186044416 then (spec_l1Same.l0 k x0 (x3 ++ [x4]) (wrap64 (x4 + 1))) else (none)) else (some x3)
def spec_l1Same.f (k : Nat) (a0 : Int) : Option (List Int) := spec_l1Same.l0 k a0 (([] : List Int)) 0
set_option maxHeartbeats 8000000 in
set_option maxRecDepth 100000 in
theorem spec_l1Same.calls (k : Nat) (a0 : Int) (r : List Int) (w : World) (h : spec_l1Same.f k a0 = some r) :
  Calls Try.prog 91 #[.int .i64 a0] w fun e w' => ∃ v0_ : Value, e = .returned (v0_) ∧ Kd.R (Kd.int .i64) 3 w' w.heap.size (fun _ => True) v0_ r ∧ Below w.heap.size w w' := by
 have HB := bZ w; have H := h; clear h; unfold spec_l1Same.f at H; generalize Ny283 : (([] : List Int) : List Int) = y283 at H; replace Ny283 := Ay Ny283; have H' := Az H; clear H; go_enter Try.func91, Try.ntmps91
 go_wp2_with (first | ((with_reducible refine gd 5 rfl ?_); refine Kd.R_lit (Kd.int .i64) _ 3 rfl (N := 5) rfl (xs := ([] : List Int)) (inner := []) (ok := fun _ => True) (okp := fun _ => True) hS ?hp (fun _ hk => hk) trivial (Below.refl _ _) (Nat.le_refl _) (by simp) ?_; (case hp => exact (Reps.none _ _)); intro v284 w2 ho3 hb hg_ hnew_; clear hg_ hnew_; (first | rw [← Ny283.out] at ho3 | (simp only [Int.reduceToNat] at ho3; rw [← Ny283.out] at ho3)); have HO285 := Az (Kd.R_lower ho3 (below_size (bU0 HB.out))); replace HB := Az (below_step (bU0 HB.out) hb); clear hb ho3))
 go_loopg [3, 4] k (fun kq v3 v4 w' => ∃ (x3_1 : List Int) (x4_1 : Int), v4 = .int .i64 x4_1 ∧ Aside0 (spec_l1Same.l0 kq a0 x3_1 x4_1 = some r) ∧ Aside0 (kq ≤ k) ∧ Aside0 (Kd.R (Kd.int .i64) 3 w' w.heap.size (fun _ => True) v3 x3_1) ∧ Aside0 (Below w.heap.size w w'))
 case atStart => exact ⟨(y283), (0), rS, H', ⟨Nat.le_refl _⟩, ⟨rU HO285.out⟩, ⟨bU0 HB.out⟩⟩
 case round =>
  clear H'; obtain ⟨x3_1, x4_1, rfl, HA, HK1, HO_3, HB⟩ := hrel
  rcases gk with _ | k1
  exact (nN HA.out).elim; have H := HA.out; clear HA; simp only [spec_l1Same.l0] at H
  replace H := gB H; rcases H with ⟨c4b0, H⟩ | ⟨c4b0, H⟩
  ·
   replace H := gP H; obtain ⟨c5, H⟩ := H; have LMc5 := Az c5; clear c5; generalize Ny286 : (x3_1 ++ [x4_1] : List Int) = y286 at H; replace Ny286 := Ay Ny286; have H' := Az H; clear H
   go_wp2_with (first | ((with_reducible refine gate_builtin (b := .append) (xs := #[.tmp 11, .tmp 13]) rfl ?_); at_builtin; refine Kd.R_append (Kd.int .i64) (w0 := w) w.heap.size rfl (.tmp 11) (.tmp 13) 23 3 (.int .i64 0) 8 rfl Try.underlying23 info3 rfl (by decide) (by omega) u3 x3_1 x4_1 [.int .i64 x4_1] (fun _ => True) (fun _ => False) rfl rfl ?aP (fun _ hk => hk.elim) ?aF ?aO ?aB ?aS ?aL ?_; (case aP => exact rfl); (case aB => exact (bU0 HB.out)); (case aF => exact (fun _ _ => trivial)); (case aO => exact (rU HO_3.out)); (case aS => exact (below_size (bU0 HB.out))); (case aL => have := LMc5.out; omega); intro v287 w6 ho hb hg hat; rw [← Ny286.out] at ho; replace HB := Az (hb); have HO288 := Az (ho); clear HO_3 ho hb hg hat))
   go_roundg k1
   case measure => exact mO
   case rel => exact ⟨(y286), (wrap64 (x4_1 + 1)), rS, H', ⟨mO⟩, ⟨rU HO288.out⟩, ⟨bU0 HB.out⟩⟩
  · obtain rfl := Option.some.inj H; go_wp2; go_ret; exact ⟨_, rE, rU HO_3.out, bU0 HB.out⟩
mutual
def spec_l1Orbits.l0 : Nat → List Int → List Int → List Int → Int → Option (List Int)
 | 0, _, _, _, _ => none
 | k + 1, x0, x1, x5, x6 => if x6 < (x0.length : Int) then (spec_l1Orbits.l1 k x0 x1 x5 x6 0) else (some x5)
def spec_l1Orbits.l1 : Nat → List Int → List Int → List Int → Int → Int → Option (List Int)
 | 0, _, _, _, _, _ => none
 | k + 1, x0, x1, x5, x6, x7 => if x7 < (x0.length : Int) then (if 0 ≤ x7 then (if x7 < (x5.length : Int) then (if 0 ≤ (rd x0 x7) then (if (rd x0 x7) < (x5.length : Int) then (if x7 < (x1.length : Int) then (if 0 ≤ (rd x1 x7) then (if (rd x1 x7) < (x5.length : Int) then (spec_l1Orbits.l1 k x0 x1 (((x5.set (x7 : Int).toNat (mn (rd x5 x7) (mn (rd x5 (rd x0 x7)) (rd x5 (rd x1 x7))))).set ((rd x0 x7) : Int).toNat (mn (rd x5 x7) (mn (rd x5 (rd x0 x7)) (rd x5 (rd x1 x7))))).set ((rd x1 x7) : Int).toNat (mn (rd x5 x7) (mn (rd x5 (rd x0 x7)) (rd x5 (rd x1 x7))))) x6 (wrap64 (x7 + 1))) else (none)) else (none)) else (none)) else (none)) else (none)) else (none)) else (none)) else (spec_l1Orbits.l0 k x0 x1 x5 (wrap64 (x6 + 1)))
end
def spec_l1Orbits.f (k : Nat) (l0 : List Int) (l1 : List Int) : Option (List Int) := (spec_l1Same.f k (l0.length : Int)).bind fun t289 => (spec_l1Orbits.l0 k l0 l1 t289 0)
set_option maxHeartbeats 8000000 in
set_option maxRecDepth 100000 in
theorem spec_l1Orbits.calls (k : Nat) (A0 : Option Addr) (c0 : Nat) (l0 : List Int) (A1 : Option Addr) (c1 : Nat) (l1 : List Int) (r : List Int) (w : World) (hr0 : Kd.C (Kd.int .i64) w A0 l0.length l0) (hc0 : l0.length ≤ c0) (hr1 : Kd.C (Kd.int .i64) w A1 l1.length l1) (hc1 : l1.length ≤ c1) (h : spec_l1Orbits.f k l0 l1 = some r) :
  Calls Try.prog 124 #[.slice A0 l0.length c0, .slice A1 l1.length c1] w fun e w' => ∃ v0_ : Value, e = .returned (v0_) ∧ Kd.R (Kd.int .i64) 3 w' w.heap.size (fun _ => True) v0_ r ∧ Below w.heap.size w w' := by
 have HR0 := Az hr0; have HC0 := Az hc0; clear hr0 hc0; have HR1 := Az hr1; have HC1 := Az hc1; clear hr1 hc1; have HB := bZ w; have H := h; clear h; unfold spec_l1Orbits.f at H; replace H := bd H; obtain ⟨t289, A3, H⟩ := H; have H' := Az H; clear H; go_enter Try.func124, Try.ntmps124
 go_wp2_with (first | (go_at_call 91; (with_reducible refine (spec_l1Same.calls k (l0.length : Int) t289 _ A3.out).mono ?_); rintro e w4 ⟨v290, rfl, ho0, hb⟩; have HO291 := Az (Kd.R_lower ho0 (below_size (bU0 HB.out))); replace HB := Az (below_step (bU0 HB.out) hb); clear hb ho0))
 repeat (go_quiet (fail); try go_wp2_with (fail))
 go_loopg [6] k (fun kq v6 w' => ∃ (x5_1 : List Int) (x6_1 : Int), v6 = .int .i64 x6_1 ∧ Aside0 (spec_l1Orbits.l0 kq l0 l1 x5_1 x6_1 = some r) ∧ Aside0 (kq ≤ k) ∧ Aside0 (Kd.R (Kd.int .i64) 3 w' w.heap.size (fun _ => True) v290 x5_1) ∧ Aside0 (Below w.heap.size w w'))
 case atStart => exact ⟨(t289), (0), rS, H', ⟨Nat.le_refl _⟩, ⟨rU HO291.out⟩, ⟨bU0 HB.out⟩⟩
 case round =>
  clear H'; obtain ⟨x5_1, x6_1, rfl, HA, HK1, HO_5, HB⟩ := hrel
  rcases gk with _ | k1
  exact (nN HA.out).elim; have H := HA.out; clear HA; simp only [spec_l1Orbits.l0] at H
  by_cases c5 : x6_1 < (l0.length : Int)
  ·
   rw [if_pos c5] at H; have c5b0 := decide_eq_true c5; clear c5; have H' := Az H; clear H; go_wp2
   repeat (go_quiet (fail); try go_wp2)
   go_loopg [7] k1 (fun kq v7 w' => ∃ (x5_2 : List Int) (x7_2 : Int), v7 = .int .i64 x7_2 ∧ Aside0 (spec_l1Orbits.l1 kq l0 l1 x5_2 x6_1 x7_2 = some r) ∧ Aside0 (kq ≤ k1) ∧ Aside0 (Kd.R (Kd.int .i64) 3 w' w.heap.size (fun _ => True) v290 x5_2) ∧ Aside0 (Below w.heap.size w w'))
   case atStart => exact ⟨(x5_1), (0), rS, H', ⟨Nat.le_refl _⟩, ⟨rU HO_5.out⟩, ⟨bU0 HB.out⟩⟩
   case round =>
    clear H'; obtain ⟨x5_2, x7_2, rfl, HA, HK2, HO_5, HB⟩ := hrel
    rcases gk with _ | k2
    exact (nN HA.out).elim; have H := HA.out; clear HA; simp only [spec_l1Orbits.l1] at H
    replace H := gB H; rcases H with ⟨c6b0, H⟩ | ⟨c6b0, H⟩
    ·
     replace H := gD6 H; obtain ⟨c7b0, c8b0, c9b0, c10b0, c11b0, c12b0, H⟩ := H; replace H := gD1 H; obtain ⟨c13b0, H⟩ := H; obtain ⟨ji14, hji14⟩ : ∃ j_ : Int, (mn (rd x5_2 (rd l0 x7_2)) (rd x5_2 (rd l1 x7_2))) = j_ := ⟨_, rfl⟩; (first | rw [hji14] at H | simp only [hji14] at H); have hji14_ : (if (rd x5_2 (rd l1 x7_2)) < (rd x5_2 (rd l0 x7_2)) then (rd x5_2 (rd l1 x7_2)) else (rd x5_2 (rd l0 x7_2))) = ji14 := hji14; obtain ⟨ji15, hji15⟩ : ∃ j_ : Int, (mn (rd x5_2 x7_2) (ji14)) = j_ := ⟨_, rfl⟩; (first | rw [hji15] at H | simp only [hji15] at H); have hji15_ : (if (ji14) < (rd x5_2 x7_2) then (ji14) else (rd x5_2 x7_2)) = ji15 := hji15; generalize Ny297 : (x5_2.set (x7_2 : Int).toNat (ji15) : List Int) = y297 at H; replace Ny297 := Ay Ny297; generalize Ny299 : (y297.set ((rd l0 x7_2) : Int).toNat (ji15) : List Int) = y299 at H; replace Ny299 := Ay Ny299; generalize Ny301 : (y299.set ((rd l1 x7_2) : Int).toNat (ji15) : List Int) = y301 at H; replace Ny301 := Ay Ny301; have H' := Az H; clear H; obtain ⟨Ao19, co19, eo19⟩ := Kd.R_slice HO_5.out; subst eo19; obtain ⟨ad292, e292, _, _, hx292_0⟩ := aI (Kd.R_reads' HO_5.out).2.2 x7_2
     cases e292; obtain ⟨ad293, e293, _, _, hx293_0⟩ := aI HR0.out x7_2
     cases e293
     replace hx293_0 := hT HB.out hx293_0; obtain ⟨_, _, hx294_0⟩ := aJ (Kd.R_reads' HO_5.out).2.2 (rd l0 x7_2); obtain ⟨ad295, e295, _, _, hx295_0⟩ := aI HR1.out x7_2
     cases e295
     replace hx295_0 := hT HB.out hx295_0; obtain ⟨_, _, hx296_0⟩ := aJ (Kd.R_reads' HO_5.out).2.2 (rd l1 x7_2); have p16 : 0 ≤ (x7_2 : Int) := oA; have q16 : (x7_2 : Int) < ((x5_2.length : Int) : Int) := oA; obtain ⟨go16, co16, eo16, gb16, gl16, cl16, HG16⟩ := Kd.R_form HO_5.out (by omega); (first | cases eo16 | (injection eo16 with ea_ en_ ec_; (first | subst ea_ | (injection ea_ with ea_; subst ea_)); subst ec_; clear en_)); have GB16 := Az gb16; have GG16 := Az HG16; clear gb16 gl16 HG16; simp only [add_plain] at hx292_0; simp only [add_plain] at hx294_0; simp only [add_plain] at hx296_0; obtain ⟨hx16_0, hf16_0⟩ := Kd.R_celln 0 HO_5.out (x7_2 : Int) p16 q16; replace p16 := eq_true p16; replace q16 := eq_true q16; obtain ⟨hy20_, hz20_⟩ := Kd.R_celln 0 HO_5.out (x7_2 : Int) (oA) (oA); have HP20 := Kd.R_putg HO_5.out (x7_2 : Int) ji15
     go_wp2_with (fail)
     repeat (go_quiet (fail); try go_wp2_with (first | ((with_reducible refine gs 3 47 rfl ?_); (rw [drewN_self wr]; generalize hq_ : World.drewN wr _ = wr; replace HO_5 := Az (Kd.R_at hq_ HO_5.out); replace HB := Az (below_at hq_ HB.out); clear hq_; (obtain ⟨hy20_, hz20_⟩ := Kd.R_celln 0 HO_5.out (x7_2 : Int) (oA) (oA)); (have HP20 := Kd.R_putg HO_5.out (x7_2 : Int) ji15)); refine sE 3 47 (wr.setCell ⟨go16, (x7_2 : Int).toNat, none⟩ (.int .i64 ji15)) ?_; intro w21 hw; have hg : wr.grownBy w21 (some go16) := (by rw [hw]; exact HP20.2); have hp_ : Kd.R (Kd.int .i64) 3 w21 w.heap.size (fun _ => True) (.slice (some ⟨go16, 0, none⟩) x5_2.length co19) y297 := (by rw [hw, Ny297.out]; exact HP20.1); clear HP20; replace HO_5 := Az (hp_); replace HB := Az ((by rw [hw]; exact below_set (HB.out) GB16.out : Below w.heap.size w w21)); clear hg hw hp_; obtain ⟨_, _, hx298_0⟩ := aJ HR0.out x7_2; replace hx298_0 := hT HB.out hx298_0; have p17 : 0 ≤ ((rd l0 x7_2) : Int) := oA; have q17 : ((rd l0 x7_2) : Int) < ((x5_2.length : Int) : Int) := oA; obtain ⟨hx17_0, hf17_0⟩ := Kd.R_celln 0 HO_5.out ((rd l0 x7_2) : Int) p17 q17; replace p17 := eq_true p17; replace q17 := eq_true q17; obtain ⟨hy22_, hz22_⟩ := Kd.R_celln 0 HO_5.out ((rd l0 x7_2) : Int) (oA) (oA); have HP22 := Kd.R_putg HO_5.out ((rd l0 x7_2) : Int) ji15) | ((with_reducible refine gs 3 54 rfl ?_); refine sE 3 54 (w21.setCell ⟨go16, ((rd l0 x7_2) : Int).toNat, none⟩ (.int .i64 ji15)) ?_; intro w23 hw; have hg : w21.grownBy w23 (some go16) := (by rw [hw]; exact HP22.2); have hp_ : Kd.R (Kd.int .i64) 3 w23 w.heap.size (fun _ => True) (.slice (some ⟨go16, 0, none⟩) x5_2.length co19) y299 := (by rw [hw, Ny299.out]; exact HP22.1); clear HP22; replace HO_5 := Az (hp_); replace HB := Az ((by rw [hw]; exact below_set (HB.out) GB16.out : Below w.heap.size w w23)); clear hg hw hp_; obtain ⟨_, _, hx300_0⟩ := aJ HR1.out x7_2; replace hx300_0 := hT HB.out hx300_0; have p18 : 0 ≤ ((rd l1 x7_2) : Int) := oA; have q18 : ((rd l1 x7_2) : Int) < ((x5_2.length : Int) : Int) := oA; obtain ⟨hx18_0, hf18_0⟩ := Kd.R_celln 0 HO_5.out ((rd l1 x7_2) : Int) p18 q18; replace p18 := eq_true p18; replace q18 := eq_true q18; obtain ⟨hy24_, hz24_⟩ := Kd.R_celln 0 HO_5.out ((rd l1 x7_2) : Int) (oA) (oA); have HP24 := Kd.R_putg HO_5.out ((rd l1 x7_2) : Int) ji15) | ((with_reducible refine gs 3 61 rfl ?_); refine sE 3 61 (w23.setCell ⟨go16, ((rd l1 x7_2) : Int).toNat, none⟩ (.int .i64 ji15)) ?_; intro w25 hw; have hg : w23.grownBy w25 (some go16) := (by rw [hw]; exact HP24.2); have hp_ : Kd.R (Kd.int .i64) 3 w25 w.heap.size (fun _ => True) (.slice (some ⟨go16, 0, none⟩) x5_2.length co19) y301 := (by rw [hw, Ny301.out]; exact HP24.1); clear HP24; replace HO_5 := Az (hp_); replace HB := Az ((by rw [hw]; exact below_set (HB.out) GB16.out : Below w.heap.size w w25)); clear hg hw hp_)))
     go_roundg k2
     case measure => exact mO
     case rel => exact ⟨(y301), (wrap64 (x7_2 + 1)), rS, H', ⟨mO⟩, ⟨rU HO_5.out⟩, ⟨bU0 HB.out⟩⟩
    ·
     have H' := Az H; clear H; go_wp2
     repeat (go_quiet (fail); try go_wp2)
     go_roundg k2
     case measure => exact mO
     case rel => exact ⟨(x5_2), (wrap64 (x6_1 + 1)), rS, H', ⟨mO⟩, ⟨rU HO_5.out⟩, ⟨bU0 HB.out⟩⟩
  ·
   rw [if_neg c5] at H; have c5b0 := decide_eq_false c5; clear c5; obtain rfl := Option.some.inj H; go_wp2
   repeat (go_quiet (fail); try go_wp2)
   go_ret; exact ⟨_, rE, rU HO_5.out, bU0 HB.out⟩
def spec_l6In.f (a0 : Int) (a1 : Int) (a2 : Int) : Option (Bool) := if a0 ≥ a1 then (some (decide (a0 ≤ a2))) else (some false)
set_option maxHeartbeats 8000000 in
set_option maxRecDepth 100000 in
theorem spec_l6In.calls (a0 : Int) (a1 : Int) (a2 : Int) (r : Bool) (w : World) (h : spec_l6In.f a0 a1 a2 = some r) :
  Calls Try.prog 118 #[.int .i64 a0, .int .i64 a1, .int .i64 a2] w fun e w' => e = .returned (.bool r) ∧ Drawn0 w w' := by
 have H := h; clear h; unfold spec_l6In.f at H
 replace H := gB H; rcases H with ⟨c4b0, H⟩ | ⟨c4b0, H⟩
 · obtain rfl := Option.some.inj H; go_enter Try.func118, Try.ntmps118; go_wp2; go_ret; exact ⟨by first | rfl | (simp; done) | (simp [*]; done), by repeat (first | exact Drawn0.refl _ | apply Drawn0.step)⟩
 · obtain rfl := Option.some.inj H; go_enter Try.func118, Try.ntmps118; go_wp2; go_ret; exact ⟨by first | rfl | (simp; done) | (simp [*]; done), by repeat (first | exact Drawn0.refl _ | apply Drawn0.step)⟩
mutual
def spec_PermValid.l0 : Nat → List Int → Int → Option (Bool)
 | 0, _, _ => none
 | k + 1, x0, x3 => if x3 < (x0.length : Int) then (if 0 ≤ x3 then ((spec_l6In.f (rd x0 x3) 0 (wrap64 ((x0.length : Int) - 1))).bind fun t304 => (if t304 = true then (spec_PermValid.l1 k x0 x3 0) else (some false))) else (none)) else ((spec_l6In.f (x0.length : Int) 1 12).bind fun t302 => (some t302))
def spec_PermValid.l1 : Nat → List Int → Int → Int → Option (Bool)
 | 0, _, _, _ => none
 | k + 1, x0, x3, x4 => if x4 < x3 then (if 0 ≤ x4 then (if x4 < (x0.length : Int) then (if 0 ≤ x3 then (if x3 < (x0.length : Int) then (if (rd x0 x4) = (rd x0 x3) then (some false) else (spec_PermValid.l1 k x0 x3 (wrap64 (x4 + 1)))) else (none)) else (none)) else (none)) else (none)) else (spec_PermValid.l0 k x0 (wrap64 (x3 + 1)))
end
def spec_PermValid.f (k : Nat) (l0 : List Int) : Option (Bool) := spec_PermValid.l0 k l0 0
set_option maxHeartbeats 8000000 in
set_option maxRecDepth 100000 in
theorem spec_PermValid.calls (k : Nat) (A0 : Option Addr) (c0 : Nat) (l0 : List Int) (r : Bool) (w : World) (hr0 : Kd.C (Kd.int .i64) w A0 l0.length l0) (hc0 : l0.length ≤ c0) (h : spec_PermValid.f k l0 = some r) :
  Calls Try.prog 152 #[.slice A0 l0.length c0] w fun e w' => e = .returned (.bool r) ∧ Drawn0 w w' := by
 have HR0 := Az hr0; have HC0 := Az hc0; clear hr0 hc0; have H := h; clear h; unfold spec_PermValid.f at H; have H' := Az H; clear H; go_enter Try.func152, Try.ntmps152; go_wp2
 repeat (go_quiet (fail); try go_wp2)
 go_loopg [3] k (fun kq v3 w' => ∃ (x3_1 : Int), v3 = .int .i64 x3_1 ∧ Aside0 (spec_PermValid.l0 kq l0 x3_1 = some r) ∧ Aside0 (kq ≤ k) ∧ Drawn0 w w')
 case atStart => exact ⟨(0), rS, H', ⟨Nat.le_refl _⟩, by repeat (first | exact Drawn0.refl _ | apply Drawn0.step)⟩
 case round =>
  clear H'; obtain ⟨x3_1, rfl, HA, HK1, ⟨m1, rfl⟩⟩ := hrel
  rcases gk with _ | k1
  exact (nN HA.out).elim; have H := HA.out; clear HA; simp only [spec_PermValid.l0] at H
  by_cases c2 : x3_1 < (l0.length : Int)
  ·
   rw [if_pos c2] at H; have c2b0 := decide_eq_true c2; clear c2; replace H := gD1 H; obtain ⟨c3b0, H⟩ := H; replace H := bd H; obtain ⟨t304, A4, H⟩ := H
   by_cases c5 : t304 = true
   ·
    subst c5; rw [if_pos rfl] at H; have H' := Az H; clear H; obtain ⟨ad303, e303, _, _, hx303_0⟩ := aI HR0.out x3_1
    cases e303
    go_wp2_with (first | (go_at_call 118; (with_reducible refine (spec_l6In.calls (rd l0 x3_1) 0 (wrap64 ((l0.length : Int) - 1)) true _ A4.out).mono ?_); rintro e w' ⟨rfl, ⟨nd, rfl⟩⟩))
    repeat (go_quiet (fail); try go_wp2_with (fail))
    go_loopg [4] k1 (fun kq v4 w' => ∃ (x4_2 : Int), v4 = .int .i64 x4_2 ∧ Aside0 (spec_PermValid.l1 kq l0 x3_1 x4_2 = some r) ∧ Aside0 (kq ≤ k1) ∧ Drawn0 w w')
    case atStart => exact ⟨(0), rS, H', ⟨Nat.le_refl _⟩, by repeat (first | exact Drawn0.refl _ | apply Drawn0.step)⟩
    case round =>
     clear H'; obtain ⟨x4_2, rfl, HA, HK2, ⟨m2, rfl⟩⟩ := hrel
     rcases gk with _ | k2
     exact (nN HA.out).elim; have H := HA.out; clear HA; simp only [spec_PermValid.l1] at H
     replace H := gB H; rcases H with ⟨c6b0, H⟩ | ⟨c6b0, H⟩
     ·
      replace H := gD4 H; obtain ⟨c7b0, c8b0, c9b0, c10b0, H⟩ := H
      replace H := gQ H; rcases H with ⟨c11b0, c11b1, H⟩ | ⟨c11b0, c11b1, H⟩
      ·
       obtain rfl := Option.some.inj H; obtain ⟨_, _, hx305_0⟩ := aJ HR0.out x4_2; obtain ⟨_, _, hx306_0⟩ := aJ HR0.out x3_1; go_wp2
       repeat (go_quiet (fail); try go_wp2)
       go_ret; exact ⟨by first | rfl | (simp; done) | (simp [*]; done), by repeat (first | exact Drawn0.refl _ | apply Drawn0.step)⟩
      ·
       have H' := Az H; clear H; obtain ⟨_, _, hx305_0⟩ := aJ HR0.out x4_2; obtain ⟨_, _, hx306_0⟩ := aJ HR0.out x3_1; go_wp2
       repeat (go_quiet (fail); try go_wp2)
       go_roundg k2
       case measure => exact mO
       case rel => exact ⟨(wrap64 (x4_2 + 1)), rS, H', ⟨mO⟩, by repeat (first | exact Drawn0.refl _ | apply Drawn0.step)⟩
     ·
      have H' := Az H; clear H; go_wp2
      repeat (go_quiet (fail); try go_wp2)
      go_roundg k2
      case measure => exact mO
      case rel => exact ⟨(wrap64 (x3_1 + 1)), rS, H', ⟨mO⟩, by repeat (first | exact Drawn0.refl _ | apply Drawn0.step)⟩
   ·
    replace c5 := Bool.eq_false_iff.mpr c5; subst c5; rw [if_neg nT] at H; obtain rfl := Option.some.inj H; obtain ⟨ad303, e303, _, _, hx303_0⟩ := aI HR0.out x3_1
    cases e303
    go_wp2_with (first | (go_at_call 118; (with_reducible refine (spec_l6In.calls (rd l0 x3_1) 0 (wrap64 ((l0.length : Int) - 1)) false _ A4.out).mono ?_); rintro e w' ⟨rfl, ⟨nd, rfl⟩⟩))
    repeat (go_quiet (fail); try go_wp2_with (fail))
    go_ret; exact ⟨by first | rfl | (simp; done) | (simp [*]; done), by repeat (first | exact Drawn0.refl _ | apply Drawn0.step)⟩
  ·
   rw [if_neg c2] at H; have c2b0 := decide_eq_false c2; clear c2; replace H := bd H; obtain ⟨t302, A12, H⟩ := H; obtain rfl := Option.some.inj H
   go_wp2_with (first | (go_at_call 118; (with_reducible refine (spec_l6In.calls (l0.length : Int) 1 12 t302 _ A12.out).mono ?_); rintro e w' ⟨rfl, ⟨nd, rfl⟩⟩))
   repeat (go_quiet (fail); try go_wp2_with (fail))
   go_ret; exact ⟨by first | rfl | (simp; done) | (simp [*]; done), by repeat (first | exact Drawn0.refl _ | apply Drawn0.step)⟩
def spec_l1Both.f (k : Nat) (l0 : List Int) (l1 : List Int) : Option (Bool) := (spec_PermValid.f k l0).bind fun t307 => (if t307 = true then ((spec_PermValid.f k l1).bind fun t308 => (if t308 = true then (some ((l0.length : Int) == (l1.length : Int))) else (some false))) else (some false))
set_option maxHeartbeats 8000000 in
set_option maxRecDepth 100000 in
theorem spec_l1Both.calls (k : Nat) (A0 : Option Addr) (c0 : Nat) (l0 : List Int) (A1 : Option Addr) (c1 : Nat) (l1 : List Int) (r : Bool) (w : World) (hr0 : Kd.C (Kd.int .i64) w A0 l0.length l0) (hc0 : l0.length ≤ c0) (hr1 : Kd.C (Kd.int .i64) w A1 l1.length l1) (hc1 : l1.length ≤ c1) (h : spec_l1Both.f k l0 l1 = some r) :
  Calls Try.prog 125 #[.slice A0 l0.length c0, .slice A1 l1.length c1] w fun e w' => e = .returned (.bool r) ∧ Drawn0 w w' := by
 have HR0 := Az hr0; have HC0 := Az hc0; clear hr0 hc0; have HR1 := Az hr1; have HC1 := Az hc1; clear hr1 hc1; have H := h; clear h; unfold spec_l1Both.f at H; replace H := bd H; obtain ⟨t307, A3, H⟩ := H
 by_cases c4 : t307 = true
 ·
  subst c4; rw [if_pos rfl] at H; replace H := bd H; obtain ⟨t308, A5, H⟩ := H
  by_cases c6 : t308 = true
  ·
   subst c6; rw [if_pos rfl] at H; obtain rfl := Option.some.inj H; go_enter Try.func125, Try.ntmps125
   go_wp2_with (first | ((with_reducible refine gK 152 rfl ?_); refine gC (some 6) Try.func152 #[.slice A0 l0.length c0] ?_; (with_reducible refine (spec_PermValid.calls k _ _ l0 true _ ?_ ?_ A3.out).mono ?_); exact cU (HR0.out); exact HC0.out; rintro e w' ⟨rfl, ⟨nd, rfl⟩⟩; refine ⟨_, rfl, ?_⟩) | (go_at_call 152; (with_reducible refine (spec_PermValid.calls k _ _ l1 true _ ?_ ?_ A5.out).mono ?_); exact cU (HR1.out); exact HC1.out; rintro e w' ⟨rfl, ⟨nd, rfl⟩⟩))
   go_ret; exact ⟨by first | rfl | (simp; done) | (simp [*]; done), by repeat (first | exact Drawn0.refl _ | apply Drawn0.step)⟩
  ·
   replace c6 := Bool.eq_false_iff.mpr c6; subst c6; rw [if_neg nT] at H; obtain rfl := Option.some.inj H; go_enter Try.func125, Try.ntmps125
   go_wp2_with (first | ((with_reducible refine gK 152 rfl ?_); refine gC (some 6) Try.func152 #[.slice A0 l0.length c0] ?_; (with_reducible refine (spec_PermValid.calls k _ _ l0 true _ ?_ ?_ A3.out).mono ?_); exact cU (HR0.out); exact HC0.out; rintro e w' ⟨rfl, ⟨nd, rfl⟩⟩; refine ⟨_, rfl, ?_⟩) | (go_at_call 152; (with_reducible refine (spec_PermValid.calls k _ _ l1 false _ ?_ ?_ A5.out).mono ?_); exact cU (HR1.out); exact HC1.out; rintro e w' ⟨rfl, ⟨nd, rfl⟩⟩))
   go_ret; exact ⟨by first | rfl | (simp; done) | (simp [*]; done), by repeat (first | exact Drawn0.refl _ | apply Drawn0.step)⟩
 ·
  replace c4 := Bool.eq_false_iff.mpr c4; subst c4; rw [if_neg nT] at H; obtain rfl := Option.some.inj H; go_enter Try.func125, Try.ntmps125
  go_wp2_with (first | ((with_reducible refine gK 152 rfl ?_); refine gC (some 6) Try.func152 #[.slice A0 l0.length c0] ?_; (with_reducible refine (spec_PermValid.calls k _ _ l0 false _ ?_ ?_ A3.out).mono ?_); exact cU (HR0.out); exact HC0.out; rintro e w' ⟨rfl, ⟨nd, rfl⟩⟩; refine ⟨_, rfl, ?_⟩))
  go_ret; exact ⟨by first | rfl | (simp; done) | (simp [*]; done), by repeat (first | exact Drawn0.refl _ | apply Drawn0.step)⟩
mutual
def spec_MapValid.l0 : Nat → Int → List Int → List Int → Option (Bool)
 | 0, _, _, _ => none
 | k + 1, x3, xZ0, xZ1 => if x3 < (xZ1.length : Int) then (if 0 ≤ x3 then (if (rd xZ1 x3) = x3 then (some false) else (if 0 ≤ (rd xZ1 x3) then (if (rd xZ1 x3) < (xZ1.length : Int) then (if (rd xZ1 (rd xZ1 x3)) = x3 then (spec_MapValid.l0 k (wrap64 (x3 + 1)) xZ0 xZ1) else (some false)) else (none)) else (none))) else (none)) else ((spec_l1Orbits.f k xZ0 xZ1).bind fun t314 => (spec_MapValid.l1 k t314 0))
def spec_MapValid.l1 : Nat → List Int → Int → Option (Bool)
 | 0, _, _ => none
 | k + 1, x4, x5 => if x5 < (x4.length : Int) then (if 0 ≤ x5 then (if (rd x4 x5) = 0 then (spec_MapValid.l1 k x4 (wrap64 (x5 + 1))) else (some false)) else (none)) else (some true)
end
def spec_MapValid.f (k : Nat) (l0_0 : List Int) (l0_1 : List Int) : Option (Bool) := (spec_l1Both.f k l0_0 l0_1).bind fun t310 => (if t310 = true then (spec_MapValid.l0 k 0 l0_0 l0_1) else (some false))
set_option maxHeartbeats 8000000 in
set_option maxRecDepth 100000 in
theorem spec_MapValid.calls (k : Nat) (A0_0 : Option Addr) (c0_0 : Nat) (l0_0 : List Int) (A0_1 : Option Addr) (c0_1 : Nat) (l0_1 : List Int) (r : Bool) (w : World) (hr0_0 : Kd.C (Kd.int .i64) w A0_0 l0_0.length l0_0) (hc0_0 : l0_0.length ≤ c0_0) (hr0_1 : Kd.C (Kd.int .i64) w A0_1 l0_1.length l0_1) (hc0_1 : l0_1.length ≤ c0_1) (h : spec_MapValid.f k l0_0 l0_1 = some r) :
  Calls Try.prog 79 #[.agg #[.slice A0_0 l0_0.length c0_0, .slice A0_1 l0_1.length c0_1]] w fun e w' => e = .returned (.bool r) ∧ Below w.heap.size w w' := by
 have hu25 := Try.underlying25; have HR0_0 := Az hr0_0; have HC0_0 := Az hc0_0; clear hr0_0 hc0_0; have HR0_1 := Az hr0_1; have HC0_1 := Az hc0_1; clear hr0_1 hc0_1; have HB := bZ w; have H := h; clear h; unfold spec_MapValid.f at H; replace H := bd H; obtain ⟨t310, A2, H⟩ := H
 by_cases c3 : t310 = true
 ·
  subst c3; rw [if_pos rfl] at H; have H' := Az H; clear H; go_enter Try.func79, Try.ntmps79
  go_wp2_with (first | ((with_reducible refine gd 1 rfl ?_); refine bE 1 #[.slice A0_0 l0_0.length c0_0, .slice A0_1 l0_1.length c0_1] 25 ?_; intro gb309 hg w4 hbox hb; have BK309 := Az (hbox); have GW309 := gW hg (bU0 HB.out); replace HB := Az (below_step (bU0 HB.out) hb); clear hb hbox hg; have hz5 := bc2 BK309.out) | (go_at_call 125; (with_reducible refine (spec_l1Both.calls k _ _ l0_0 _ _ l0_1 true _ ?_ ?_ ?_ ?_ A2.out).mono ?_); exact cU (Kd.C_below HR0_0.out HB.out); exact HC0_0.out; exact cU (Kd.C_below HR0_1.out HB.out); exact HC0_1.out; rintro e w' ⟨rfl, ⟨nd, rfl⟩⟩))
  repeat (go_quiet (fail); try go_wp2_with (fail))
  go_loopg [3] k (fun kq v3 w' => ∃ (x3_1 : Int), v3 = .int .i64 x3_1 ∧ Aside0 (spec_MapValid.l0 kq x3_1 l0_0 l0_1 = some r) ∧ Aside0 (kq ≤ k) ∧ Aside0 (w'.heap[gb309]? = some (.cells #[(.slice A0_0 l0_0.length c0_0), (.slice A0_1 l0_1.length c0_1)] 25 (0, 0))) ∧ Aside0 (Below w.heap.size w w'))
  case atStart => exact ⟨(0), rS, H', ⟨Nat.le_refl _⟩, ⟨kU BK309.out⟩, ⟨bU1 HB.out GW309.out⟩⟩
  case round =>
   clear H'; obtain ⟨x3_1, rfl, HA, HK1, BK309, HB⟩ := hrel
   rcases gk with _ | k1
   exact (nN HA.out).elim; have H := HA.out; clear HA; simp only [spec_MapValid.l0] at H
   by_cases c6 : x3_1 < (l0_1.length : Int)
   ·
    rw [if_pos c6] at H; have c6b0 := decide_eq_true c6; clear c6; replace H := gD1 H; obtain ⟨c7b0, H⟩ := H
    replace H := gQ H; rcases H with ⟨c8b0, c8b1, H⟩ | ⟨c8b0, c8b1, H⟩
    ·
     obtain rfl := Option.some.inj H; have hz9 := bc2 BK309.out; obtain ⟨ad311, e311, _, _, hx311_0⟩ := aI HR0_1.out x3_1
     cases e311
     replace hx311_0 := hT HB.out hx311_0; go_wp2
     repeat (go_quiet (fail); try go_wp2)
     go_ret; exact ⟨rE, bU1 HB.out GW309.out⟩
    ·
     replace H := gD2 H; obtain ⟨c10b0, c11b0, H⟩ := H
     replace H := gQ H; rcases H with ⟨c12b0, c12b1, H⟩ | ⟨c12b0, c12b1, H⟩
     ·
      have H' := Az H; clear H; have hz13 := bc2 BK309.out; obtain ⟨ad311, e311, _, _, hx311_0⟩ := aI HR0_1.out x3_1
      cases e311
      replace hx311_0 := hT HB.out hx311_0; obtain ⟨_, _, hx312_0⟩ := aJ HR0_1.out x3_1; replace hx312_0 := hT HB.out hx312_0; obtain ⟨_, _, hx313_0⟩ := aJ HR0_1.out (rd l0_1 x3_1); replace hx313_0 := hT HB.out hx313_0; go_wp2
      repeat (go_quiet (fail); try go_wp2)
      go_roundg k1
      case measure => exact mO
      case rel => exact ⟨(wrap64 (x3_1 + 1)), rS, H', ⟨mO⟩, ⟨kU BK309.out⟩, ⟨bU1 HB.out GW309.out⟩⟩
     ·
      obtain rfl := Option.some.inj H; have hz14 := bc2 BK309.out; obtain ⟨ad311, e311, _, _, hx311_0⟩ := aI HR0_1.out x3_1
      cases e311
      replace hx311_0 := hT HB.out hx311_0; obtain ⟨_, _, hx312_0⟩ := aJ HR0_1.out x3_1; replace hx312_0 := hT HB.out hx312_0; obtain ⟨_, _, hx313_0⟩ := aJ HR0_1.out (rd l0_1 x3_1); replace hx313_0 := hT HB.out hx313_0; go_wp2
      repeat (go_quiet (fail); try go_wp2)
      go_ret; exact ⟨rE, bU1 HB.out GW309.out⟩
   ·
    rw [if_neg c6] at H; have c6b0 := decide_eq_false c6; clear c6; replace H := bd H; obtain ⟨t314, A15, H⟩ := H; have H' := Az H; clear H; have hz16 := bc2 BK309.out
    go_wp2_with (first | (go_at_call 124; (with_reducible refine (spec_l1Orbits.calls k1 _ _ l0_0 _ _ l0_1 t314 _ ?_ ?_ ?_ ?_ A15.out).mono ?_); exact cU (Kd.C_below HR0_0.out HB.out); exact HC0_0.out; exact cU (Kd.C_below HR0_1.out HB.out); exact HC0_1.out; rintro e w17 ⟨v315, rfl, ho0, hb⟩; have HO316 := Az (Kd.R_lower ho0 (below_size (bU1 HB.out GW309.out))); replace BK309 := kB BK309.out hb; replace HB := Az (below_step (bU1 HB.out GW309.out) hb); clear hb ho0))
    repeat (go_quiet (fail); try go_wp2_with (fail))
    go_loopg [5] k1 (fun kq v5 w' => ∃ (x5_2 : Int), v5 = .int .i64 x5_2 ∧ Aside0 (spec_MapValid.l1 kq t314 x5_2 = some r) ∧ Aside0 (kq ≤ k1) ∧ Aside0 (Kd.R (Kd.int .i64) 3 w' w.heap.size (fun _ => True) v315 t314) ∧ Aside0 (w'.heap[gb309]? = some (.cells #[(.slice A0_0 l0_0.length c0_0), (.slice A0_1 l0_1.length c0_1)] 25 (0, 0))) ∧ Aside0 (Below w.heap.size w w'))
    case atStart => exact ⟨(0), rS, H', ⟨Nat.le_refl _⟩, ⟨rU HO316.out⟩, ⟨kU BK309.out⟩, ⟨bU1 HB.out GW309.out⟩⟩
    case round =>
     clear H'; obtain ⟨x5_2, rfl, HA, HK2, HO_4, BK309, HB⟩ := hrel
     rcases gk with _ | k2
     exact (nN HA.out).elim; have H := HA.out; clear HA; simp only [spec_MapValid.l1] at H
     replace H := gB H; rcases H with ⟨c18b0, H⟩ | ⟨c18b0, H⟩
     ·
      replace H := gD1 H; obtain ⟨c19b0, H⟩ := H
      replace H := gQ H; rcases H with ⟨c20b0, c20b1, H⟩ | ⟨c20b0, c20b1, H⟩
      ·
       have H' := Az H; clear H; obtain ⟨Ao21, co21, eo21⟩ := Kd.R_slice HO_4.out; subst eo21; obtain ⟨ad317, e317, _, _, hx317_0⟩ := aI (Kd.R_reads' HO_4.out).2.2 x5_2
       cases e317; go_wp2
       repeat (go_quiet (fail); try go_wp2)
       go_roundg k2
       case measure => exact mO
       case rel => exact ⟨(wrap64 (x5_2 + 1)), rS, H', ⟨mO⟩, ⟨rU HO_4.out⟩, ⟨kU BK309.out⟩, ⟨bU1 HB.out GW309.out⟩⟩
      ·
       obtain rfl := Option.some.inj H; obtain ⟨Ao22, co22, eo22⟩ := Kd.R_slice HO_4.out; subst eo22; obtain ⟨ad317, e317, _, _, hx317_0⟩ := aI (Kd.R_reads' HO_4.out).2.2 x5_2
       cases e317; go_wp2
       repeat (go_quiet (fail); try go_wp2)
       go_ret; exact ⟨rE, bU1 HB.out GW309.out⟩
     ·
      obtain rfl := Option.some.inj H; obtain ⟨Ao23, co23, eo23⟩ := Kd.R_slice HO_4.out; subst eo23; go_wp2
      repeat (go_quiet (fail); try go_wp2)
      go_ret; exact ⟨rE, bU1 HB.out GW309.out⟩
 ·
  replace c3 := Bool.eq_false_iff.mpr c3; subst c3; rw [if_neg nT] at H; obtain rfl := Option.some.inj H; go_enter Try.func79, Try.ntmps79
  go_wp2_with (first | ((with_reducible refine gd 1 rfl ?_); refine bE 1 #[.slice A0_0 l0_0.length c0_0, .slice A0_1 l0_1.length c0_1] 25 ?_; intro gb309 hg w24 hbox hb; have BK309 := Az (hbox); have GW309 := gW hg (bU0 HB.out); replace HB := Az (below_step (bU0 HB.out) hb); clear hb hbox hg; have hz25 := bc2 BK309.out) | (go_at_call 125; (with_reducible refine (spec_l1Both.calls k _ _ l0_0 _ _ l0_1 false _ ?_ ?_ ?_ ?_ A2.out).mono ?_); exact cU (Kd.C_below HR0_0.out HB.out); exact HC0_0.out; exact cU (Kd.C_below HR0_1.out HB.out); exact HC0_1.out; rintro e w' ⟨rfl, ⟨nd, rfl⟩⟩))
  repeat (go_quiet (fail); try go_wp2_with (fail))
  go_ret; exact ⟨rE, bU1 HB.out GW309.out⟩
end Go.Proofs.Ytggghijamfmenaa.PC
