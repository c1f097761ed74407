/- For every code: of the map and the edge that the statement draws, EdgeDelete of the program answers what the reference answers; one edge goes, the vertices stay; and where the dual's edge can be contracted, the rest is the dual of what is left. There are no conditions. -/
import Derived.Test.YtjgknblneokhlaaKFnDeleteOwnx5
namespace Go.Proofs.Ytjgknblneokhlaa.PK
open Go.RowKit Go.Proofs.YtjgknblneokhlaaW.PrintWords Go.Proofs.YtjgknblneokhlaaW.PrintLast Go.Proofs.YtjgknblneokhlaaW.PrintMore
theorem z6_0 {p : Prop} (h : p := by (with_reducible repeat (first | refine blk_drewN ?_ _ | refine blk_drew ?_ | refine blk_alloc ?_ _)); refine blk_put (cs := #[.slice Ao21 t599.length co21, .slice none 0 0]) ?_ 1 _ rfl; (with_reducible repeat (first | refine blk_drewN ?_ _ | refine blk_drew ?_ | refine blk_alloc ?_ _)); refine blk_put (cs := #[.slice none 0 0, .slice none 0 0]) ?_ 0 _ rfl; (with_reducible repeat (first | refine blk_drewN ?_ _ | refine blk_drew ?_ | refine blk_alloc ?_ _)); exact BK606.out) : p := h
theorem z6_1 {p : Prop} (h : p := by exact (Kd.R_new' (Kd.R_new' (Kd.R_new' (Kd.R_new' (Kd.R_new' (Kd.R_new' ho0 (Kd.Q_lt (qU HO_Z0.out))) (Kd.R_lt (rU HO_Z1.out))) (Kd.Q_lt (qU HO_Z2.out))) (Kd.R_lt (rU HO_Z3.out))) (Kd.Q_lt (qU HO_Z4.out))) (Kd.R_lt (rU HO_Z5.out)))) : p := h
theorem z6_2 {p : Prop} (h : p := by exact (bU3 HB.out GW590.out GW598.out GW606.out)) : p := h
theorem z6_3 {p : Prop} (h : p := by exact (bU5 HB.out GW590.out GW598.out GW606.out GW624.out GW632.out)) : p := h
theorem z6_4 {p : Prop} (h : p := by exact (bU4 HB.out GW590.out GW598.out GW606.out GW624.out)) : p := h
theorem z6_5 {p : Prop} (h : p := by exact (blk_below (g := gb598) (o := .cells #[.slice Ao14 t591.length co14, .slice Ao17 t594.length co17] 25 (0, 0)) (kF1 BK598.out NB598_606.out) hb)) : p := h
theorem z6_6 {p : Prop} (h : p := by exact (blk_below (g := gb590) (o := .cells #[.slice Ao9 t583.length co9, .slice Ao11 t586.length co11] 25 (0, 0)) (kF1 BK590.out NB590_606.out) hb)) : p := h
attribute [local go_sem] max2_int min2_int max_two min_two max_three min_three max_four min_four   -- for this text's walks alone
set_option linter.unusedVariables false
set_option linter.unusedSimpArgs false
def laws_FnDelete_up (L : List (Nat × Option Tmp)) (n : Nat) : Array Bool := ((List.range n).map (fun i => !(L.map Prod.fst).contains i)).toArray
section
variable {P : Program} {ops : Array Oper} {Q : Exit → Act → World → Prop} {md : Region.Mode} {S : World → Prop} {ds : List Nat}
theorem laws_FnDelete_uS {i n : Nat} {N : Option Tmp} {L : List (Nat × Option Tmp)} {oi : Oper} {fuel : Nat} {a : Act} {w : World} (hi : ops[i]? = some oi) (hN : oi.dst = N) (hc : anyB md ops (laws_FnDelete_up ((i, N) :: L) n) (laws_FnDelete_up L n) i = true)
  (hQ : ∀ c a w, Q (.panic c) (a.put oi.dst undef) w → Q (.panic c) a w) (hw : Region.wanted oi (yielded ops a.tmps) = false) {a' : Act} (ha : a.put N undef = a')
  (h : wpAnyLast P md ops Q S ds fuel (laws_FnDelete_up L n) a' w) : wpAnyLast P md ops Q S ds (fuel + 1) (laws_FnDelete_up ((i, N) :: L) n) a w := pure_ (laws_FnDelete_up L n) hi hN hc hQ (Or.inr ⟨hw, rfl⟩) ha h
theorem laws_FnDelete_uP {i n : Nat} {N : Option Tmp} {L : List (Nat × Option Tmp)} {oi : Oper} {v : Value} {fuel : Nat} {a : Act} {w : World} (hi : ops[i]? = some oi) (hN : oi.dst = N) (hc : anyB md ops (laws_FnDelete_up ((i, N) :: L) n) (laws_FnDelete_up L n) i = true)
  (hQ : ∀ c a w, Q (.panic c) (a.put oi.dst v) w → Q (.panic c) a w) (hw : Region.wanted oi (yielded ops a.tmps) = true) (hy : ∀ w, (execOp a.eval oi).run P w = .ok (.value v) w) {a' : Act} (ha : a.put N v = a')
  (h : wpAnyLast P md ops Q S ds fuel (laws_FnDelete_up L n) a' w) : wpAnyLast P md ops Q S ds (fuel + 1) (laws_FnDelete_up ((i, N) :: L) n) a w := pure_ (laws_FnDelete_up L n) hi hN hc hQ (Or.inl ⟨hw, hy⟩) ha h
theorem laws_FnDelete_uT {i n : Nat} {N : Option Tmp} {L : List (Nat × Option Tmp)} {oi : Oper} {v : Value} {fuel : Nat} {a : Act} {w : World} (hi : ops[i]? = some oi) (hN : oi.dst = N) (hc : takeB md ops ds (laws_FnDelete_up ((i, N) :: L) n) (laws_FnDelete_up L n) i = true)
  (hQ : ∀ c a w, Q (.panic c) (a.put oi.dst v) w → Q (.panic c) a w) (hw : Region.wanted oi (yielded ops a.tmps) = true) (hy : ∀ w, S w → (execOp a.eval oi).run P w = .ok (.value v) w) (hS : S w) {a' : Act} (ha : a.put N v = a')
  (h : wpAnyLast P md ops Q S ds fuel (laws_FnDelete_up L n) a' w) : wpAnyLast P md ops Q S ds (fuel + 1) (laws_FnDelete_up ((i, N) :: L) n) a w := take_ (laws_FnDelete_up L n) hi hN hc hQ (Or.inl ⟨hw, hy⟩) hS ha h
theorem laws_FnDelete_uO {i n : Nat} {N : Option Tmp} {L : List (Nat × Option Tmp)} {oi : Oper} {fuel : Nat} {a : Act} {w : World} (hi : ops[i]? = some oi) (hN : oi.dst = N) (hc : readyB md ops (laws_FnDelete_up ((i, N) :: L) n) (laws_FnDelete_up L n) i = true) (hd : i ∉ ds)
  (h : ∀ K : Act → World → Prop, Shut (∀ a' w', S w' → (S w' → wpAnyLast P md ops Q S ds fuel (laws_FnDelete_up L n) a' w') → K a' w') → if Region.wanted oi (yielded ops a.tmps) = true then Oper.wp P oi a w K Q else K (a.put N undef) w) :
  wpAnyLast P md ops Q S ds (fuel + 1) (laws_FnDelete_up ((i, N) :: L) n) a w := one_ (laws_FnDelete_up L n) hi hN hc hd h
end
def laws_FnDelete.j0 : Nat → Int → Bool → Bool → Bool → List Int → List Int → List Int → List Int → List Int → List Int → Option (Bool)
 | 0, _, _, _, _, _, _, _, _, _, _ => none
 | k + 1, x4, x6, x8, x51, xZ0, xZ1, xZ2, xZ3, xZ4, xZ5 => if x51 = true then (if (x6 == x8) = true then ((laws_sameMap.f k xZ2 xZ3 xZ4 xZ5).bind fun t608 => (some t608)) else (some false)) else ((impl_MapCounts.f k xZ0 xZ1).bind fun bt609 => ((impl_MapCounts.f k xZ2 xZ3).bind fun bt613 => ((impl_MapDual.f k xZ0 xZ1).bind fun bt617 => ((impl_EdgeContract.f k bt617.1 bt617.2.1 x4).bind fun bt625 => ((impl_MapDual.f k xZ2 xZ3).bind fun bt633 => (if bt609.2 = true then (if bt613.2 = true then (if bt617.2.2 = true then (if bt633.2.2 = true then (if 1 < (bt613.1.length : Int) then (if 1 < (bt609.1.length : Int) then (if (rd bt613.1 1) = (wrap64 ((rd bt609.1 1) - 1)) then (if 0 < (bt613.1.length : Int) then (if 0 < (bt609.1.length : Int) then (if (rd bt613.1 0) = (rd bt609.1 0) then (if bt625.2.2 = true then ((laws_sameMap.f k bt625.1 bt625.2.1 bt633.1 bt633.2.1).bind fun t645 => (some t645)) else (some true)) else (some false)) else (none)) else (none)) else (some false)) else (none)) else (none)) else (some false)) else (some false)) else (some false)) else (some false)))))))
def laws_FnDelete.f (k : Nat) (l0 : List Int) : Option (Bool) := if (l0.length : Int) > 1048576 then (some true) else ((spec_DrawEdgeDelete.f k l0).bind fun bt583 => ((impl_EdgeDelete.f k bt583.1 bt583.2.1 bt583.2.2).bind fun bt591 => ((spec_EdgeDelete.f k bt583.1 bt583.2.1 bt583.2.2).bind fun bt599 => (if (bt591.2.2 != bt599.2.2) = true then (laws_FnDelete.j0 k bt583.2.2 bt591.2.2 bt599.2.2 true bt583.1 bt583.2.1 bt591.1 bt591.2.1 bt599.1 bt599.2.1) else ((laws_sameMap.f k bt591.1 bt591.2.1 bt599.1 bt599.2.1).bind fun t607 => (if t607 = true then (laws_FnDelete.j0 k bt583.2.2 bt591.2.2 bt599.2.2 (!bt591.2.2) bt583.1 bt583.2.1 bt591.1 bt591.2.1 bt599.1 bt599.2.1) else (laws_FnDelete.j0 k bt583.2.2 bt591.2.2 bt599.2.2 true bt583.1 bt583.2.1 bt591.1 bt591.2.1 bt599.1 bt599.2.1)))))))
def laws_FnDelete.T13 : Bool × List (List Nat × List Nat) := (true, [([], []), ([0], [0]), ([1], [1]), ([1, 2], [1, 2]), ([3, 1], [3]), ([4], [4]), ([4, 5], [4, 5]), ([6, 4], [6]), ([7], [7]), ([7, 8], [7, 8]), ([9, 7], [9]), ([10], [10]), ([11, 10], [10, 11]), ([12, 10], [10, 12]), ([10], [10]), ([14, 10], [10, 14]), ([15, 10], [10, 15]), ([16, 10], [10, 16]), ([13, 17, 10], [10, 13, 17]), ([10, 18], [10, 18]), ([19, 10], [19]), ([20], [20]), ([21, 20], [20, 21]), ([22, 20], [20, 22]), ([20], [20]), ([24, 20], [20, 24]), ([25, 20], [20, 25]), ([23, 26, 20], [20, 23, 26]), ([20, 27], [20, 27]), ([28, 20], [28]), ([29], [29]), ([30, 29], [29, 30]), ([31, 29, 29], [29, 31]), ([32], [32]), ([32], [32]), ([33, 34, 32, 32], [32, 33, 34]), ([32, 35, 29], [29, 32, 35]), ([29, 36], [29, 36]), ([37, 35, 0, 1, 2, 3, 4, 5, 6, 7, 8, 9, 10, 11, 12, 13, 14, 15, 16, 17, 18, 19, 20, 21, 22, 23, 24, 25, 26, 27, 28, 29, 30, 31, 32, 33, 34, 35, 36, 37], [37])])
def laws_FnDelete.B13 : List Nat := [0, 1, 3, 7, 15, 31, 63, 127, 255, 511, 1023, 2047, 4095, 8191, 2047, 18431, 51199, 116735, 262143, 524287, 1048575, 2097151, 4194303, 8388607, 2097151, 18874367, 52428799, 134217727, 268435455, 536870911, 1073741823, 2147483647, 4294967295, 8589934591, 8589934591, 34359738367, 68719476735, 137438953471, 274877906943]
theorem laws_FnDelete.tab13 : rtab .any (opsOf Try.f14 13) = laws_FnDelete.T13 := by kernel_rfl
theorem laws_FnDelete.bits13 : waitsOk laws_FnDelete.T13.2 laws_FnDelete.B13 = true := by kernel_rfl
set_option maxHeartbeats 8000000 in
set_option maxRecDepth 100000 in
theorem laws_FnDelete.calls (k : Nat) (A0 : Option Addr) (c0 : Nat) (l0 : List Int) (r : Bool) (w : World) (hr0 : Kd.C (Kd.int .u8) w A0 l0.length l0) (hc0 : l0.length ≤ c0) (h : laws_FnDelete.f k l0 = some r) :
  Calls Try.prog 14 #[.slice A0 l0.length c0] w fun e w' => e = .returned (.bool r) ∧ Below w.heap.size w w' := by
 have hu25 := Try.underlying25; have HR0 := Az hr0; have HC0 := Az hc0; clear hr0 hc0; have HB := bZ w; have H := h; clear h; unfold laws_FnDelete.f at H
 by_cases c2 : (l0.length : Int) > 1048576
 · rw [if_pos c2] at H; have c2b0 := decide_eq_true c2; have c2b1 : decide (1048576 < l0.length) = true := decide_eq_true (by omega); clear c2; obtain rfl := Option.some.inj H; go_enter Try.func14, Try.ntmps14; go_wp2; go_ret; exact ⟨rE, bU0 HB.out⟩
 ·
  rw [if_neg c2] at H; have c2b0 := decide_eq_false c2; have c2b1 : decide (1048576 < l0.length) = false := decide_eq_false (by omega); clear c2; replace H := bd H; obtain ⟨⟨t583, t586, t589⟩, A3, H⟩ := H; dsimp only at H; replace H := bd H; obtain ⟨⟨t591, t594, t597⟩, A4, H⟩ := H; dsimp only at H; replace H := bd H; obtain ⟨⟨t599, t602, t605⟩, A5, H⟩ := H; dsimp only at H; have HC6 := Az H; clear H; go_enter Try.func14, Try.ntmps14
  go_upto_region 6 with (first | ((with_reducible refine gK 54 rfl ?_); refine gC (some 24) Try.func54 #[.slice A0 l0.length c0] ?_; (with_reducible refine (spec_DrawEdgeDelete.calls k _ _ l0 t583 t586 t589 _ ?_ ?_ A3.out).mono ?_); exact cU (HR0.out); exact HC0.out; rintro e w7 ⟨v584, v587, rfl, ho0, ho1, hb⟩; refine ⟨_, rfl, ?_⟩; have HO585 := Az (Kd.Q_lower ho0 (below_size (bU0 HB.out))); have HO588 := Az (Kd.R_lower ho1 (below_size (bU0 HB.out))); replace HB := Az (below_step (bU0 HB.out) hb); clear hb ho0 ho1) | ((with_reducible refine gd 3 rfl ?_); refine bE 3 #[.slice none 0 0, .slice none 0 0] 25 ?_; intro gb590 hg w8 hbox hb; replace HO585 := qB HO585.out hb; replace HO588 := rB HO588.out hb; have BK590 := Az (hbox); have GW590 := gW hg (bU0 HB.out); replace HB := Az (below_step (bU0 HB.out) hb); clear hb hbox hg; obtain ⟨Ao9, co9, eo9, _⟩ := Kd.Q_slice HO585.out; subst eo9; have hz10 := bc2 BK590.out; obtain ⟨Ao11, co11, eo11⟩ := Kd.R_slice HO588.out; subst eo11) | ((with_reducible refine gK 43 rfl ?_); refine gC (some 30) Try.func43 #[.agg #[.slice Ao9 t583.length co9, .slice Ao11 t586.length co11], .int .i64 t589] ?_; (with_reducible refine (impl_EdgeDelete.calls k _ _ t583 _ _ t586 t589 t591 t594 t597 _ ?side1 ?side2 ?side3 ?side4 A4.out).mono ?_); (case side1 => refine (Kd.Q_reads' (e := 3) (base := w.heap.size) (ok := fun k_ => oS k_ Ao11 t586.length co11) (n := t583.length) (c := co9) ?_).2.2; exact (qW2 HO585.out BK590.out)); (case side2 => exact (Kd.Q_reads' HO585.out).2.1); (case side3 => refine (Kd.R_reads' (e := 3) (base := w.heap.size) (ok := fun k_ => oS k_ Ao9 t583.length co9) (n := t586.length) (c := co11) ?_).2.2; exact (rW2 HO588.out BK590.out)); (case side4 => exact (Kd.R_reads' HO588.out).2.1); rintro e w12 ⟨v592, v595, rfl, ho0, ho1, hb⟩; refine ⟨_, rfl, ?_⟩; have HO593 := Az (Kd.R_lower (Kd.R_new' (Kd.R_new' ho0 (Kd.Q_lt (qW2 HO585.out BK590.out))) (Kd.R_lt (rW2 HO588.out BK590.out))) (below_size (bU1 HB.out GW590.out))); have HO596 := Az (Kd.R_lower (Kd.R_new' (Kd.R_new' ho1 (Kd.Q_lt (qW2 HO585.out BK590.out))) (Kd.R_lt (rW2 HO588.out BK590.out))) (below_size (bU1 HB.out GW590.out))); replace HO585 := Az (Kd.Q_mono (Kd.Q_told (Kd.Q_told (Kd.Q_old (qW2 HO585.out BK590.out) hb) (Kd.R_base ho0)) (Kd.R_base ho1)) (fun _ h_ => h_.1)); replace HO588 := Az (Kd.R_mono (Kd.R_told (Kd.R_told (Kd.R_old (rW2 HO588.out BK590.out) hb) (Kd.R_base ho0)) (Kd.R_base ho1)) (fun _ h_ => h_.1)); replace BK590 := Az (blk_below (g := gb590) (o := .cells #[.slice Ao9 t583.length co9, .slice Ao11 t586.length co11] 25 (0, 0)) (by (with_reducible repeat (first | refine blk_drewN ?_ _ | refine blk_drew ?_ | refine blk_alloc ?_ _)); refine blk_put (cs := #[.slice Ao9 t583.length co9, .slice none 0 0]) ?_ 1 _ rfl; (with_reducible repeat (first | refine blk_drewN ?_ _ | refine blk_drew ?_ | refine blk_alloc ?_ _)); refine blk_put (cs := #[.slice none 0 0, .slice none 0 0]) ?_ 0 _ rfl; (with_reducible repeat (first | refine blk_drewN ?_ _ | refine blk_drew ?_ | refine blk_alloc ?_ _)); exact BK590.out) hb); replace HB := Az (below_step (bU1 HB.out GW590.out) hb); clear hb ho0 ho1) | ((with_reducible refine gd 5 rfl ?_); refine bE 5 #[.slice none 0 0, .slice none 0 0] 25 ?_; intro gb598 hg w13 hbox hb; replace HO585 := qB HO585.out hb; replace HO588 := rB HO588.out hb; replace HO593 := rB HO593.out hb; replace HO596 := rB HO596.out hb; have BK598 := Az (hbox); have GW598 := gW hg (bU1 HB.out GW590.out); replace HB := Az (below_step (bU1 HB.out GW590.out) hb); have NB590_598 := nL hg (kU BK590.out); replace BK590 := kB BK590.out hb; clear hb hbox hg; obtain ⟨Ao14, co14, eo14⟩ := Kd.R_slice HO593.out; subst eo14; have hnb15 := nP NB590_598; have hz16 := bc2 BK598.out; obtain ⟨Ao17, co17, eo17⟩ := Kd.R_slice HO596.out; subst eo17; have hz18 := bc2 BK590.out) | ((with_reducible refine gK 55 rfl ?_); refine gC (some 36) Try.func55 #[.agg #[.slice Ao9 t583.length co9, .slice Ao11 t586.length co11], .int .i64 t589] ?_; (with_reducible refine (spec_EdgeDelete.calls k _ _ t583 _ _ t586 t589 t599 t602 t605 _ ?side1 ?side2 ?side3 ?side4 A5.out).mono ?_); (case side1 => refine (Kd.Q_reads' (e := 3) (base := w.heap.size) (ok := fun k_ => ((oS k_ Ao11 t586.length co11 ∧ oS k_ Ao14 t591.length co14) ∧ oS k_ Ao17 t594.length co17)) (n := t583.length) (c := co9) ?_).2.2; exact (qW2 HO585.out BK598.out)); (case side2 => exact (Kd.Q_reads' HO585.out).2.1); (case side3 => refine (Kd.R_reads' (e := 3) (base := w.heap.size) (ok := fun k_ => ((oS k_ Ao9 t583.length co9 ∧ oS k_ Ao14 t591.length co14) ∧ oS k_ Ao17 t594.length co17)) (n := t586.length) (c := co11) ?_).2.2; exact (rW2 HO588.out BK598.out)); (case side4 => exact (Kd.R_reads' HO588.out).2.1); rintro e w19 ⟨v600, v603, rfl, ho0, ho1, hb⟩; refine ⟨_, rfl, ?_⟩; have HO601 := Az (Kd.R_lower (Kd.R_new' (Kd.R_new' (Kd.R_new' (Kd.R_new' ho0 (Kd.Q_lt (qW2 HO585.out BK598.out))) (Kd.R_lt (rW2 HO588.out BK598.out))) (Kd.R_lt (rW2 HO593.out BK598.out))) (Kd.R_lt (rW2 HO596.out BK598.out))) (below_size (bU2 HB.out GW590.out GW598.out))); have HO604 := Az (Kd.R_lower (Kd.R_new' (Kd.R_new' (Kd.R_new' (Kd.R_new' ho1 (Kd.Q_lt (qW2 HO585.out BK598.out))) (Kd.R_lt (rW2 HO588.out BK598.out))) (Kd.R_lt (rW2 HO593.out BK598.out))) (Kd.R_lt (rW2 HO596.out BK598.out))) (below_size (bU2 HB.out GW590.out GW598.out))); replace HO585 := Az (Kd.Q_mono (Kd.Q_told (Kd.Q_told (Kd.Q_old (qW2 HO585.out BK598.out) hb) (Kd.R_base ho0)) (Kd.R_base ho1)) (fun _ h_ => h_.1)); replace HO588 := Az (Kd.R_mono (Kd.R_told (Kd.R_told (Kd.R_old (rW2 HO588.out BK598.out) hb) (Kd.R_base ho0)) (Kd.R_base ho1)) (fun _ h_ => h_.1)); replace HO593 := Az (Kd.R_mono (Kd.R_told (Kd.R_told (Kd.R_old (rW2 HO593.out BK598.out) hb) (Kd.R_base ho0)) (Kd.R_base ho1)) (fun _ h_ => h_.1)); replace HO596 := Az (Kd.R_mono (Kd.R_told (Kd.R_told (Kd.R_old (rW2 HO596.out BK598.out) hb) (Kd.R_base ho0)) (Kd.R_base ho1)) (fun _ h_ => h_.1)); replace BK590 := Az (blk_below (g := gb590) (o := .cells #[.slice Ao9 t583.length co9, .slice Ao11 t586.length co11] 25 (0, 0)) (kF1 BK590.out NB590_598.out) hb); replace BK598 := Az (blk_below (g := gb598) (o := .cells #[.slice Ao14 t591.length co14, .slice Ao17 t594.length co17] 25 (0, 0)) (by (with_reducible repeat (first | refine blk_drewN ?_ _ | refine blk_drew ?_ | refine blk_alloc ?_ _)); refine blk_put (cs := #[.slice Ao14 t591.length co14, .slice none 0 0]) ?_ 1 _ rfl; (with_reducible repeat (first | refine blk_drewN ?_ _ | refine blk_drew ?_ | refine blk_alloc ?_ _)); refine blk_put (cs := #[.slice none 0 0, .slice none 0 0]) ?_ 0 _ rfl; (with_reducible repeat (first | refine blk_drewN ?_ _ | refine blk_drew ?_ | refine blk_alloc ?_ _)); exact BK598.out) hb); replace HB := Az (below_step (bU2 HB.out GW590.out GW598.out) hb); clear hb ho0 ho1) | ((with_reducible refine gd 7 rfl ?_); refine bE 7 #[.slice none 0 0, .slice none 0 0] 25 ?_; intro gb606 hg w20 hbox hb; replace HO585 := qB HO585.out hb; replace HO588 := rB HO588.out hb; replace HO593 := rB HO593.out hb; replace HO596 := rB HO596.out hb; replace HO601 := rB HO601.out hb; replace HO604 := rB HO604.out hb; have BK606 := Az (hbox); have GW606 := gW hg (bU2 HB.out GW590.out GW598.out); replace HB := Az (below_step (bU2 HB.out GW590.out GW598.out) hb); have NB590_606 := nL hg (kU BK590.out); replace BK590 := kB BK590.out hb; have NB598_606 := nL hg (kU BK598.out); replace BK598 := kB BK598.out hb; clear hb hbox hg; obtain ⟨Ao21, co21, eo21⟩ := Kd.R_slice HO601.out; subst eo21; have hnb22 := nP NB590_606; have hnb23 := nP NB598_606; have hz24 := bc2 BK606.out; obtain ⟨Ao25, co25, eo25⟩ := Kd.R_slice HO604.out; subst eo25))
  go_cut [51] (fun v51 wc => ∃ (kq : Nat) (x51_5 : Bool), v51 = .bool x51_5 ∧ Aside0 (laws_FnDelete.j0 kq t589 t597 t605 x51_5 t583 t586 t591 t594 t599 t602 = some r) ∧ Aside0 (kq ≤ k) ∧ Aside0 (Kd.Q (Kd.int .i64) 3 wc w.heap.size (fun k_ => some k_ ≠ ((.slice Ao11 t586.length co11) : Value).ownBlock ∧ some k_ ≠ ((.slice Ao14 t591.length co14) : Value).ownBlock ∧ some k_ ≠ ((.slice Ao17 t594.length co17) : Value).ownBlock ∧ some k_ ≠ ((.slice Ao21 t599.length co21) : Value).ownBlock ∧ some k_ ≠ ((.slice Ao25 t602.length co25) : Value).ownBlock) (.slice Ao9 t583.length co9) t583) ∧ Aside0 (Kd.R (Kd.int .i64) 3 wc w.heap.size (fun k_ => some k_ ≠ ((.slice Ao9 t583.length co9) : Value).ownBlock ∧ some k_ ≠ ((.slice Ao14 t591.length co14) : Value).ownBlock ∧ some k_ ≠ ((.slice Ao17 t594.length co17) : Value).ownBlock ∧ some k_ ≠ ((.slice Ao21 t599.length co21) : Value).ownBlock ∧ some k_ ≠ ((.slice Ao25 t602.length co25) : Value).ownBlock) (.slice Ao11 t586.length co11) t586) ∧ Aside0 (Kd.Q (Kd.int .i64) 3 wc w.heap.size (fun k_ => some k_ ≠ ((.slice Ao9 t583.length co9) : Value).ownBlock ∧ some k_ ≠ ((.slice Ao11 t586.length co11) : Value).ownBlock ∧ some k_ ≠ ((.slice Ao17 t594.length co17) : Value).ownBlock ∧ some k_ ≠ ((.slice Ao21 t599.length co21) : Value).ownBlock ∧ some k_ ≠ ((.slice Ao25 t602.length co25) : Value).ownBlock) (.slice Ao14 t591.length co14) t591) ∧ Aside0 (Kd.R (Kd.int .i64) 3 wc w.heap.size (fun k_ => some k_ ≠ ((.slice Ao9 t583.length co9) : Value).ownBlock ∧ some k_ ≠ ((.slice Ao11 t586.length co11) : Value).ownBlock ∧ some k_ ≠ ((.slice Ao14 t591.length co14) : Value).ownBlock ∧ some k_ ≠ ((.slice Ao21 t599.length co21) : Value).ownBlock ∧ some k_ ≠ ((.slice Ao25 t602.length co25) : Value).ownBlock) (.slice Ao17 t594.length co17) t594) ∧ Aside0 (Kd.Q (Kd.int .i64) 3 wc w.heap.size (fun k_ => some k_ ≠ ((.slice Ao9 t583.length co9) : Value).ownBlock ∧ some k_ ≠ ((.slice Ao11 t586.length co11) : Value).ownBlock ∧ some k_ ≠ ((.slice Ao14 t591.length co14) : Value).ownBlock ∧ some k_ ≠ ((.slice Ao17 t594.length co17) : Value).ownBlock ∧ some k_ ≠ ((.slice Ao25 t602.length co25) : Value).ownBlock) (.slice Ao21 t599.length co21) t599) ∧ Aside0 (Kd.R (Kd.int .i64) 3 wc w.heap.size (fun k_ => some k_ ≠ ((.slice Ao9 t583.length co9) : Value).ownBlock ∧ some k_ ≠ ((.slice Ao11 t586.length co11) : Value).ownBlock ∧ some k_ ≠ ((.slice Ao14 t591.length co14) : Value).ownBlock ∧ some k_ ≠ ((.slice Ao17 t594.length co17) : Value).ownBlock ∧ some k_ ≠ ((.slice Ao21 t599.length co21) : Value).ownBlock) (.slice Ao25 t602.length co25) t602) ∧ Aside0 (wc.heap[gb590]? = some (.cells #[(.slice Ao9 t583.length co9), (.slice Ao11 t586.length co11)] 25 (0, 0))) ∧ Aside0 (wc.heap[gb598]? = some (.cells #[(.slice Ao14 t591.length co14), (.slice Ao17 t594.length co17)] 25 (0, 0))) ∧ Aside0 (wc.heap[gb606]? = some (.cells #[(.slice Ao21 t599.length co21), (.slice Ao25 t602.length co25)] 25 (0, 0))) ∧ Aside0 (Below w.heap.size w wc))
  case first =>
   have H := HC6.out; clear HC6
   by_cases c26 : (t597 != t605) = true
   ·
    rw [if_pos c26] at H; have c26b0 : (t597 != t605) = true := c26; (have c26b1 : decide (t597 = t605) = false := by simpa using c26); (have c26b2 : (t597 == t605) = false := by simpa using c26); (have c26b3 : ¬ (t597 = t605) := by simpa using c26); clear c26; have H' := Az H; clear H; go_wp2; go_meet
    case rel => exact ⟨_, (true), rS, H', ⟨mO⟩, ⟨qM (Kd.Q_far (p := ⟨gb606, 1, none⟩) (Kd.Q_far (p := ⟨gb606, 0, none⟩) (Kd.Q_types HO585.out BK606.out (by decide)) (fun _ hk => hk.2) (.slice Ao21 t599.length co21)) (fun _ hk => hk.2) (.slice Ao25 t602.length co25))⟩, ⟨rM (Kd.R_far (p := ⟨gb606, 1, none⟩) (Kd.R_far (p := ⟨gb606, 0, none⟩) (Kd.R_types HO588.out BK606.out (by decide)) (fun _ hk => hk.2) (.slice Ao21 t599.length co21)) (fun _ hk => hk.2) (.slice Ao25 t602.length co25))⟩, ⟨Kd.Q_of_R (rM (Kd.R_far (p := ⟨gb606, 1, none⟩) (Kd.R_far (p := ⟨gb606, 0, none⟩) (Kd.R_types HO593.out BK606.out (by decide)) (fun _ hk => hk.2) (.slice Ao21 t599.length co21)) (fun _ hk => hk.2) (.slice Ao25 t602.length co25)))⟩, ⟨rM (Kd.R_far (p := ⟨gb606, 1, none⟩) (Kd.R_far (p := ⟨gb606, 0, none⟩) (Kd.R_types HO596.out BK606.out (by decide)) (fun _ hk => hk.2) (.slice Ao21 t599.length co21)) (fun _ hk => hk.2) (.slice Ao25 t602.length co25))⟩, ⟨Kd.Q_of_R (rM (Kd.R_far (p := ⟨gb606, 1, none⟩) (Kd.R_far (p := ⟨gb606, 0, none⟩) (Kd.R_types HO601.out BK606.out (by decide)) (fun _ hk => hk.2) (.slice Ao21 t599.length co21)) (fun _ hk => hk.2) (.slice Ao25 t602.length co25)))⟩, ⟨rM (Kd.R_far (p := ⟨gb606, 1, none⟩) (Kd.R_far (p := ⟨gb606, 0, none⟩) (Kd.R_types HO604.out BK606.out (by decide)) (fun _ hk => hk.2) (.slice Ao21 t599.length co21)) (fun _ hk => hk.2) (.slice Ao25 t602.length co25))⟩, ⟨by (with_reducible repeat (first | refine blk_drewN ?_ _ | refine blk_drew ?_ | refine blk_alloc ?_ _)); refine blk_far ?_ NB590_606.out _; (with_reducible repeat (first | refine blk_drewN ?_ _ | refine blk_drew ?_ | refine blk_alloc ?_ _)); refine blk_far ?_ NB590_606.out _; (with_reducible repeat (first | refine blk_drewN ?_ _ | refine blk_drew ?_ | refine blk_alloc ?_ _)); exact BK590.out⟩, ⟨by (with_reducible repeat (first | refine blk_drewN ?_ _ | refine blk_drew ?_ | refine blk_alloc ?_ _)); refine blk_far ?_ NB598_606.out _; (with_reducible repeat (first | refine blk_drewN ?_ _ | refine blk_drew ?_ | refine blk_alloc ?_ _)); refine blk_far ?_ NB598_606.out _; (with_reducible repeat (first | refine blk_drewN ?_ _ | refine blk_drew ?_ | refine blk_alloc ?_ _)); exact BK598.out⟩, ⟨by (with_reducible repeat (first | refine blk_drewN ?_ _ | refine blk_drew ?_ | refine blk_alloc ?_ _)); refine blk_put (cs := #[.slice Ao21 t599.length co21, .slice none 0 0]) ?_ 1 _ rfl; (with_reducible repeat (first | refine blk_drewN ?_ _ | refine blk_drew ?_ | refine blk_alloc ?_ _)); refine blk_put (cs := #[.slice none 0 0, .slice none 0 0]) ?_ 0 _ rfl; (with_reducible repeat (first | refine blk_drewN ?_ _ | refine blk_drew ?_ | refine blk_alloc ?_ _)); exact BK606.out⟩, ⟨bU3 HB.out GW590.out GW598.out GW606.out⟩⟩
   ·
    rw [if_neg c26] at H
    have c26b0 : (t597 != t605) = false := by simpa using c26
    (have c26b1 : decide (t597 = t605) = true := by simpa using c26); (have c26b2 : (t597 == t605) = true := by simpa using c26); clear c26; replace H := bd H; obtain ⟨t607, A27, H⟩ := H
    by_cases c28 : t607 = true
    ·
     subst c28; rw [if_pos rfl] at H; have H' := Az H; clear H; have hnb29 := nP NB590_598; have hnb30 := NB598_606.out; have hnc30 := (NB598_606.out).symm; have hz31 := bc2 BK598.out; have hnb32 := nP NB590_606; have hz33 := bc2 BK606.out
     go_wp2_with (first | (go_at_call 56; (with_reducible refine (laws_sameMap.calls k _ _ t591 _ _ t594 _ _ t599 _ _ t602 true _ ?side1 ?side2 ?side3 ?side4 ?side5 ?side6 ?side7 ?side8 A27.out).mono ?_); (case side1 => refine (Kd.R_reads' (e := 3) (base := w.heap.size) (ok := fun k_ => ((((oS k_ Ao17 t594.length co17 ∧ oS k_ Ao9 t583.length co9) ∧ oS k_ Ao11 t586.length co11) ∧ oS k_ Ao21 t599.length co21) ∧ oS k_ Ao25 t602.length co25)) (n := t591.length) (c := co14) ?_).2.2; exact (rW2 HO593.out BK606.out)); (case side2 => exact (Kd.R_reads' HO593.out).2.1); (case side3 => refine (Kd.R_reads' (e := 3) (base := w.heap.size) (ok := fun k_ => ((((oS k_ Ao14 t591.length co14 ∧ oS k_ Ao9 t583.length co9) ∧ oS k_ Ao11 t586.length co11) ∧ oS k_ Ao21 t599.length co21) ∧ oS k_ Ao25 t602.length co25)) (n := t594.length) (c := co17) ?_).2.2; exact (rW2 HO596.out BK606.out)); (case side4 => exact (Kd.R_reads' HO596.out).2.1); (case side5 => refine (Kd.R_reads' (e := 3) (base := w.heap.size) (ok := fun k_ => ((((oS k_ Ao25 t602.length co25 ∧ oS k_ Ao9 t583.length co9) ∧ oS k_ Ao11 t586.length co11) ∧ oS k_ Ao14 t591.length co14) ∧ oS k_ Ao17 t594.length co17)) (n := t599.length) (c := co21) ?_).2.2; exact (rW2 HO601.out BK606.out)); (case side6 => exact (Kd.R_reads' HO601.out).2.1); (case side7 => refine (Kd.R_reads' (e := 3) (base := w.heap.size) (ok := fun k_ => ((((oS k_ Ao21 t599.length co21 ∧ oS k_ Ao9 t583.length co9) ∧ oS k_ Ao11 t586.length co11) ∧ oS k_ Ao14 t591.length co14) ∧ oS k_ Ao17 t594.length co17)) (n := t602.length) (c := co25) ?_).2.2; exact (rW2 HO604.out BK606.out)); (case side8 => exact (Kd.R_reads' HO604.out).2.1); rintro e w34 ⟨rfl, hb⟩; replace HO585 := Az (Kd.Q_below (qW2 HO585.out BK606.out) hb); replace HO588 := Az (Kd.R_below (rW2 HO588.out BK606.out) hb); replace HO593 := Az (Kd.R_below (rW2 HO593.out BK606.out) hb); replace HO596 := Az (Kd.R_below (rW2 HO596.out BK606.out) hb); replace HO601 := Az (Kd.R_below (rW2 HO601.out BK606.out) hb); replace HO604 := Az (Kd.R_below (rW2 HO604.out BK606.out) hb); replace BK590 := Az z6_6; replace BK598 := Az z6_5; replace BK606 := Az (blk_below (g := gb606) (o := .cells #[.slice Ao21 t599.length co21, .slice Ao25 t602.length co25] 25 (0, 0)) z6_0 hb); replace HB := Az (below_step z6_2 hb); clear hb))
     go_meet
     case rel => exact ⟨_, (!t597), rS, H', ⟨mO⟩, ⟨qM HO585.out⟩, ⟨rM HO588.out⟩, ⟨Kd.Q_of_R (rM HO593.out)⟩, ⟨rM HO596.out⟩, ⟨Kd.Q_of_R (rM HO601.out)⟩, ⟨rM HO604.out⟩, ⟨kU BK590.out⟩, ⟨kU BK598.out⟩, ⟨kU BK606.out⟩, ⟨bU3 HB.out GW590.out GW598.out GW606.out⟩⟩
    ·
     replace c28 := Bool.eq_false_iff.mpr c28; subst c28; rw [if_neg nT] at H; have H' := Az H; clear H; have hnb35 := nP NB590_598; have hnb36 := NB598_606.out; have hnc36 := (NB598_606.out).symm; have hz37 := bc2 BK598.out; have hnb38 := nP NB590_606; have hz39 := bc2 BK606.out
     go_wp2_with (first | (go_at_call 56; (with_reducible refine (laws_sameMap.calls k _ _ t591 _ _ t594 _ _ t599 _ _ t602 false _ ?side1 ?side2 ?side3 ?side4 ?side5 ?side6 ?side7 ?side8 A27.out).mono ?_); (case side1 => refine (Kd.R_reads' (e := 3) (base := w.heap.size) (ok := fun k_ => ((((oS k_ Ao17 t594.length co17 ∧ oS k_ Ao9 t583.length co9) ∧ oS k_ Ao11 t586.length co11) ∧ oS k_ Ao21 t599.length co21) ∧ oS k_ Ao25 t602.length co25)) (n := t591.length) (c := co14) ?_).2.2; exact (rW2 HO593.out BK606.out)); (case side2 => exact (Kd.R_reads' HO593.out).2.1); (case side3 => refine (Kd.R_reads' (e := 3) (base := w.heap.size) (ok := fun k_ => ((((oS k_ Ao14 t591.length co14 ∧ oS k_ Ao9 t583.length co9) ∧ oS k_ Ao11 t586.length co11) ∧ oS k_ Ao21 t599.length co21) ∧ oS k_ Ao25 t602.length co25)) (n := t594.length) (c := co17) ?_).2.2; exact (rW2 HO596.out BK606.out)); (case side4 => exact (Kd.R_reads' HO596.out).2.1); (case side5 => refine (Kd.R_reads' (e := 3) (base := w.heap.size) (ok := fun k_ => ((((oS k_ Ao25 t602.length co25 ∧ oS k_ Ao9 t583.length co9) ∧ oS k_ Ao11 t586.length co11) ∧ oS k_ Ao14 t591.length co14) ∧ oS k_ Ao17 t594.length co17)) (n := t599.length) (c := co21) ?_).2.2; exact (rW2 HO601.out BK606.out)); (case side6 => exact (Kd.R_reads' HO601.out).2.1); (case side7 => refine (Kd.R_reads' (e := 3) (base := w.heap.size) (ok := fun k_ => ((((oS k_ Ao21 t599.length co21 ∧ oS k_ Ao9 t583.length co9) ∧ oS k_ Ao11 t586.length co11) ∧ oS k_ Ao14 t591.length co14) ∧ oS k_ Ao17 t594.length co17)) (n := t602.length) (c := co25) ?_).2.2; exact (rW2 HO604.out BK606.out)); (case side8 => exact (Kd.R_reads' HO604.out).2.1); rintro e w40 ⟨rfl, hb⟩; replace HO585 := Az (Kd.Q_below (qW2 HO585.out BK606.out) hb); replace HO588 := Az (Kd.R_below (rW2 HO588.out BK606.out) hb); replace HO593 := Az (Kd.R_below (rW2 HO593.out BK606.out) hb); replace HO596 := Az (Kd.R_below (rW2 HO596.out BK606.out) hb); replace HO601 := Az (Kd.R_below (rW2 HO601.out BK606.out) hb); replace HO604 := Az (Kd.R_below (rW2 HO604.out BK606.out) hb); replace BK590 := Az z6_6; replace BK598 := Az z6_5; replace BK606 := Az (blk_below (g := gb606) (o := .cells #[.slice Ao21 t599.length co21, .slice Ao25 t602.length co25] 25 (0, 0)) z6_0 hb); replace HB := Az (below_step z6_2 hb); clear hb))
     go_meet
     case rel => exact ⟨_, (true), rS, H', ⟨mO⟩, ⟨qM HO585.out⟩, ⟨rM HO588.out⟩, ⟨Kd.Q_of_R (rM HO593.out)⟩, ⟨rM HO596.out⟩, ⟨Kd.Q_of_R (rM HO601.out)⟩, ⟨rM HO604.out⟩, ⟨kU BK590.out⟩, ⟨kU BK598.out⟩, ⟨kU BK606.out⟩, ⟨bU3 HB.out GW590.out GW598.out GW606.out⟩⟩
  case rest =>
   clear HC6; obtain ⟨kq, x51_5, rfl, HA, HJ5, HO_Z0, HO_Z1, HO_Z2, HO_Z3, HO_Z4, HO_Z5, BK590, BK598, BK606, HB⟩ := hcut
   rcases kq with _ | kj5
   exact (nN HA.out).elim; have H := HA.out; clear HA; simp only [laws_FnDelete.j0] at H
   by_cases c41 : x51_5 = true
   ·
    subst c41; rw [if_pos rfl] at H
    by_cases c42 : (t597 == t605) = true
    ·
     rw [if_pos c42] at H; have c42b0 : (t597 == t605) = true := c42; (have c42b1 : decide (t597 = t605) = true := by simpa using c42); (have c42b2 : (t597 == t605) = true := by simpa using c42); clear c42; replace H := bd H; obtain ⟨t608, A43, H⟩ := H; obtain rfl := Option.some.inj H; have hnb44 := nP NB590_598; have hnb45 := NB598_606.out; have hnc45 := (NB598_606.out).symm; have hz46 := bc2 BK598.out; have hnb47 := nP NB590_606; have hz48 := bc2 BK606.out
     go_wp2_with (first | (go_at_call 56; (with_reducible refine (laws_sameMap.calls kj5 _ _ t591 _ _ t594 _ _ t599 _ _ t602 t608 _ ?_ ?_ ?_ ?_ ?_ ?_ ?_ ?_ A43.out).mono ?_); exact cU ((Kd.Q_reads' HO_Z2.out).2.2); exact (Kd.Q_reads' HO_Z2.out).2.1; exact cU ((Kd.R_reads' HO_Z3.out).2.2); exact (Kd.R_reads' HO_Z3.out).2.1; exact cU ((Kd.Q_reads' HO_Z4.out).2.2); exact (Kd.Q_reads' HO_Z4.out).2.1; exact cU ((Kd.R_reads' HO_Z5.out).2.2); exact (Kd.R_reads' HO_Z5.out).2.1; rintro e w49 ⟨rfl, hb⟩; replace HO_Z0 := qB HO_Z0.out hb; replace HO_Z1 := rB HO_Z1.out hb; replace HO_Z2 := qB HO_Z2.out hb; replace HO_Z3 := rB HO_Z3.out hb; replace HO_Z4 := qB HO_Z4.out hb; replace HO_Z5 := rB HO_Z5.out hb; replace BK590 := kB BK590.out hb; replace BK598 := kB BK598.out hb; replace BK606 := kB BK606.out hb; replace HB := Az (below_step z6_2 hb); clear hb))
     go_ret; exact ⟨rE, bU3 HB.out GW590.out GW598.out GW606.out⟩
    ·
     rw [if_neg c42] at H
     have c42b0 : (t597 == t605) = false := by simpa using c42
     (have c42b1 : decide (t597 = t605) = false := by simpa using c42); (have c42b2 : (t597 == t605) = false := by simpa using c42); (have c42b3 : ¬ (t597 = t605) := by simpa using c42); clear c42; obtain rfl := Option.some.inj H; go_wp2; go_ret; exact ⟨rE, bU3 HB.out GW590.out GW598.out GW606.out⟩
   ·
    replace c41 := Bool.eq_false_iff.mpr c41; subst c41; rw [if_neg nT] at H; replace H := bd H; obtain ⟨⟨t609, t612⟩, A50, H⟩ := H; dsimp only at H; replace H := bd H; obtain ⟨⟨t613, t616⟩, A51, H⟩ := H; dsimp only at H; replace H := bd H; obtain ⟨⟨t617, t620, t623⟩, A52, H⟩ := H; dsimp only at H; replace H := bd H; obtain ⟨⟨t625, t628, t631⟩, A53, H⟩ := H; dsimp only at H; replace H := bd H; obtain ⟨⟨t633, t636, t639⟩, A54, H⟩ := H; dsimp only at H; have hnb67 := NB590_598.out; have hnc67 := (NB590_598.out).symm; have hnb68 := NB590_606.out; have hnc68 := (NB590_606.out).symm; have hz69 := bc2 BK590.out
    try go_wp2_with (first | ((with_reducible refine gK 19 rfl ?_); refine gC (some 62) Try.func19 #[.agg #[.slice Ao9 t583.length co9, .slice Ao11 t586.length co11]] ?_; (with_reducible refine (impl_MapCounts.calls kj5 _ _ t583 _ _ t586 t609 t612 _ ?_ ?_ ?_ ?_ A50.out).mono ?_); exact cU ((Kd.Q_reads' HO_Z0.out).2.2); exact (Kd.Q_reads' HO_Z0.out).2.1; exact cU ((Kd.R_reads' HO_Z1.out).2.2); exact (Kd.R_reads' HO_Z1.out).2.1; rintro e w70 ⟨v610, rfl, ho0, hb⟩; refine ⟨_, rfl, ?_⟩; have HO611 := Az (Kd.R_lower z6_1 (below_size z6_2)); replace HO_Z0 := Az (Kd.Q_elder' (qU HO_Z0.out) (Kd.R_base ho0) hb); replace HO_Z1 := Az (Kd.R_elder' (rU HO_Z1.out) (Kd.R_base ho0) hb); replace HO_Z2 := Az (Kd.Q_elder' (qU HO_Z2.out) (Kd.R_base ho0) hb); replace HO_Z3 := Az (Kd.R_elder' (rU HO_Z3.out) (Kd.R_base ho0) hb); replace HO_Z4 := Az (Kd.Q_elder' (qU HO_Z4.out) (Kd.R_base ho0) hb); replace HO_Z5 := Az (Kd.R_elder' (rU HO_Z5.out) (Kd.R_base ho0) hb); replace BK590 := kB BK590.out hb; replace BK598 := kB BK598.out hb; replace BK606 := kB BK606.out hb; replace HB := Az (below_step z6_2 hb); clear hb ho0; have hnb71 := NB598_606.out; have hnc71 := (NB598_606.out).symm; have hz72 := bc2 BK598.out) | ((with_reducible refine gK 19 rfl ?_); refine gC (some 67) Try.func19 #[.agg #[.slice Ao14 t591.length co14, .slice Ao17 t594.length co17]] ?_; (with_reducible refine (impl_MapCounts.calls kj5 _ _ t591 _ _ t594 t613 t616 _ ?_ ?_ ?_ ?_ A51.out).mono ?_); exact cU ((Kd.Q_reads' HO_Z2.out).2.2); exact (Kd.Q_reads' HO_Z2.out).2.1; exact cU ((Kd.R_reads' HO_Z3.out).2.2); exact (Kd.R_reads' HO_Z3.out).2.1; rintro e w73 ⟨v614, rfl, ho0, hb⟩; refine ⟨_, rfl, ?_⟩; have HO615 := Az (Kd.R_lower (Kd.R_new' z6_1 (Kd.R_lt (rU HO611.out))) (below_size z6_2)); replace HO_Z0 := Az (Kd.Q_elder' (qU HO_Z0.out) (Kd.R_base ho0) hb); replace HO_Z1 := Az (Kd.R_elder' (rU HO_Z1.out) (Kd.R_base ho0) hb); replace HO_Z2 := Az (Kd.Q_elder' (qU HO_Z2.out) (Kd.R_base ho0) hb); replace HO_Z3 := Az (Kd.R_elder' (rU HO_Z3.out) (Kd.R_base ho0) hb); replace HO_Z4 := Az (Kd.Q_elder' (qU HO_Z4.out) (Kd.R_base ho0) hb); replace HO_Z5 := Az (Kd.R_elder' (rU HO_Z5.out) (Kd.R_base ho0) hb); replace HO611 := Az (Kd.R_elder' (rU HO611.out) (Kd.R_base ho0) hb); replace BK590 := kB BK590.out hb; replace BK598 := kB BK598.out hb; replace BK606 := kB BK606.out hb; replace HB := Az (below_step z6_2 hb); clear hb ho0; have hz74 := bc2 BK590.out) | ((with_reducible refine gK 26 rfl ?_); refine gC (some 72) Try.func26 #[.agg #[.slice Ao9 t583.length co9, .slice Ao11 t586.length co11]] ?_; (with_reducible refine (impl_MapDual.calls kj5 _ _ t583 _ _ t586 t617 t620 t623 _ ?_ ?_ ?_ ?_ A52.out).mono ?_); exact cU ((Kd.Q_reads' HO_Z0.out).2.2); exact (Kd.Q_reads' HO_Z0.out).2.1; exact cU ((Kd.R_reads' HO_Z1.out).2.2); exact (Kd.R_reads' HO_Z1.out).2.1; rintro e w75 ⟨v618, v621, rfl, ho0, ho1, hb⟩; refine ⟨_, rfl, ?_⟩; have HO619 := Az (Kd.R_lower (Kd.R_new' (Kd.R_new' z6_1 (Kd.R_lt (rU HO611.out))) (Kd.R_lt (rU HO615.out))) (below_size z6_2)); have HO622 := Az (Kd.R_lower (Kd.R_new' (Kd.R_new' (Kd.R_new' (Kd.R_new' (Kd.R_new' (Kd.R_new' (Kd.R_new' (Kd.R_new' ho1 (Kd.Q_lt (qU HO_Z0.out))) (Kd.R_lt (rU HO_Z1.out))) (Kd.Q_lt (qU HO_Z2.out))) (Kd.R_lt (rU HO_Z3.out))) (Kd.Q_lt (qU HO_Z4.out))) (Kd.R_lt (rU HO_Z5.out))) (Kd.R_lt (rU HO611.out))) (Kd.R_lt (rU HO615.out))) (below_size z6_2)); replace HO_Z0 := Az (Kd.Q_mono (Kd.Q_told (Kd.Q_told (Kd.Q_old (qU HO_Z0.out) hb) (Kd.R_base ho0)) (Kd.R_base ho1)) (fun _ h_ => h_.1)); replace HO_Z1 := Az (Kd.R_mono (Kd.R_told (Kd.R_told (Kd.R_old (rU HO_Z1.out) hb) (Kd.R_base ho0)) (Kd.R_base ho1)) (fun _ h_ => h_.1)); replace HO_Z2 := Az (Kd.Q_mono (Kd.Q_told (Kd.Q_told (Kd.Q_old (qU HO_Z2.out) hb) (Kd.R_base ho0)) (Kd.R_base ho1)) (fun _ h_ => h_.1)); replace HO_Z3 := Az (Kd.R_mono (Kd.R_told (Kd.R_told (Kd.R_old (rU HO_Z3.out) hb) (Kd.R_base ho0)) (Kd.R_base ho1)) (fun _ h_ => h_.1)); replace HO_Z4 := Az (Kd.Q_mono (Kd.Q_told (Kd.Q_told (Kd.Q_old (qU HO_Z4.out) hb) (Kd.R_base ho0)) (Kd.R_base ho1)) (fun _ h_ => h_.1)); replace HO_Z5 := Az (Kd.R_mono (Kd.R_told (Kd.R_told (Kd.R_old (rU HO_Z5.out) hb) (Kd.R_base ho0)) (Kd.R_base ho1)) (fun _ h_ => h_.1)); replace HO611 := Az (Kd.R_mono (Kd.R_told (Kd.R_told (Kd.R_old (rU HO611.out) hb) (Kd.R_base ho0)) (Kd.R_base ho1)) (fun _ h_ => h_.1)); replace HO615 := Az (Kd.R_mono (Kd.R_told (Kd.R_told (Kd.R_old (rU HO615.out) hb) (Kd.R_base ho0)) (Kd.R_base ho1)) (fun _ h_ => h_.1)); replace BK590 := kB BK590.out hb; replace BK598 := kB BK598.out hb; replace BK606 := kB BK606.out hb; replace HB := Az (below_step z6_2 hb); clear hb ho0 ho1) | ((with_reducible refine gd 13 rfl ?_); refine bE 13 #[.slice none 0 0, .slice none 0 0] 25 ?_; intro gb624 hg w76 hbox hb; replace HO_Z0 := qB HO_Z0.out hb; replace HO_Z1 := rB HO_Z1.out hb; replace HO_Z2 := qB HO_Z2.out hb; replace HO_Z3 := rB HO_Z3.out hb; replace HO_Z4 := qB HO_Z4.out hb; replace HO_Z5 := rB HO_Z5.out hb; replace HO611 := rB HO611.out hb; replace HO615 := rB HO615.out hb; replace HO619 := rB HO619.out hb; replace HO622 := rB HO622.out hb; have BK624 := Az (hbox); have GW624 := gW hg z6_2; replace HB := Az (below_step z6_2 hb); have NB590_624 := nL hg (kU BK590.out); replace BK590 := kB BK590.out hb; have NB598_624 := nL hg (kU BK598.out); replace BK598 := kB BK598.out hb; have NB606_624 := nL hg (kU BK606.out); replace BK606 := kB BK606.out hb; clear hb hbox hg; obtain ⟨Ao77, co77, eo77⟩ := Kd.R_slice HO619.out; subst eo77; have hnb78 := nP NB590_624; have hnb79 := nP NB598_624; have hnb80 := nP NB606_624; have hz81 := bc2 BK624.out; obtain ⟨Ao82, co82, eo82⟩ := Kd.R_slice HO622.out; subst eo82) | ((with_reducible refine gK 44 rfl ?_); refine gC (some 78) Try.func44 #[.agg #[.slice Ao77 t617.length co77, .slice Ao82 t620.length co82], .int .i64 t589] ?_; (with_reducible refine (impl_EdgeContract.calls kj5 _ _ t617 _ _ t620 t589 t625 t628 t631 _ ?side1 ?side2 ?side3 ?side4 A53.out).mono ?_); (case side1 => refine (Kd.R_reads' (e := 3) (base := w.heap.size) (ok := fun k_ => ((((((((oS k_ Ao82 t620.length co82 ∧ oS k_ Ao9 t583.length co9) ∧ oS k_ Ao11 t586.length co11) ∧ oS k_ Ao14 t591.length co14) ∧ oS k_ Ao17 t594.length co17) ∧ oS k_ Ao21 t599.length co21) ∧ oS k_ Ao25 t602.length co25) ∧ oV k_ v610) ∧ oV k_ v614)) (n := t617.length) (c := co77) ?_).2.2; exact (rW2 HO619.out BK624.out)); (case side2 => exact (Kd.R_reads' HO619.out).2.1); (case side3 => refine (Kd.R_reads' (e := 3) (base := w.heap.size) (ok := fun k_ => ((((((((oS k_ Ao77 t617.length co77 ∧ oS k_ Ao9 t583.length co9) ∧ oS k_ Ao11 t586.length co11) ∧ oS k_ Ao14 t591.length co14) ∧ oS k_ Ao17 t594.length co17) ∧ oS k_ Ao21 t599.length co21) ∧ oS k_ Ao25 t602.length co25) ∧ oV k_ v610) ∧ oV k_ v614)) (n := t620.length) (c := co82) ?_).2.2; exact (rW2 HO622.out BK624.out)); (case side4 => exact (Kd.R_reads' HO622.out).2.1); rintro e w83 ⟨v626, v629, rfl, ho0, ho1, hb⟩; refine ⟨_, rfl, ?_⟩; have HO627 := Az (Kd.R_lower (Kd.R_new' (Kd.R_new' (Kd.R_new' (Kd.R_new' (Kd.R_new' (Kd.R_new' (Kd.R_new' (Kd.R_new' (Kd.R_new' (Kd.R_new' ho0 (Kd.Q_lt (qW2 HO_Z0.out BK624.out))) (Kd.R_lt (rW2 HO_Z1.out BK624.out))) (Kd.Q_lt (qW2 HO_Z2.out BK624.out))) (Kd.R_lt (rW2 HO_Z3.out BK624.out))) (Kd.Q_lt (qW2 HO_Z4.out BK624.out))) (Kd.R_lt (rW2 HO_Z5.out BK624.out))) (Kd.R_lt (rW2 HO611.out BK624.out))) (Kd.R_lt (rW2 HO615.out BK624.out))) (Kd.R_lt (rW2 HO619.out BK624.out))) (Kd.R_lt (rW2 HO622.out BK624.out))) (below_size z6_4)); have HO630 := Az (Kd.R_lower (Kd.R_new' (Kd.R_new' (Kd.R_new' (Kd.R_new' (Kd.R_new' (Kd.R_new' (Kd.R_new' (Kd.R_new' (Kd.R_new' (Kd.R_new' ho1 (Kd.Q_lt (qW2 HO_Z0.out BK624.out))) (Kd.R_lt (rW2 HO_Z1.out BK624.out))) (Kd.Q_lt (qW2 HO_Z2.out BK624.out))) (Kd.R_lt (rW2 HO_Z3.out BK624.out))) (Kd.Q_lt (qW2 HO_Z4.out BK624.out))) (Kd.R_lt (rW2 HO_Z5.out BK624.out))) (Kd.R_lt (rW2 HO611.out BK624.out))) (Kd.R_lt (rW2 HO615.out BK624.out))) (Kd.R_lt (rW2 HO619.out BK624.out))) (Kd.R_lt (rW2 HO622.out BK624.out))) (below_size z6_4)); replace HO_Z0 := Az (Kd.Q_mono (Kd.Q_told (Kd.Q_told (Kd.Q_old (qW2 HO_Z0.out BK624.out) hb) (Kd.R_base ho0)) (Kd.R_base ho1)) (fun _ h_ => h_.1)); replace HO_Z1 := Az (Kd.R_mono (Kd.R_told (Kd.R_told (Kd.R_old (rW2 HO_Z1.out BK624.out) hb) (Kd.R_base ho0)) (Kd.R_base ho1)) (fun _ h_ => h_.1)); replace HO_Z2 := Az (Kd.Q_mono (Kd.Q_told (Kd.Q_told (Kd.Q_old (qW2 HO_Z2.out BK624.out) hb) (Kd.R_base ho0)) (Kd.R_base ho1)) (fun _ h_ => h_.1)); replace HO_Z3 := Az (Kd.R_mono (Kd.R_told (Kd.R_told (Kd.R_old (rW2 HO_Z3.out BK624.out) hb) (Kd.R_base ho0)) (Kd.R_base ho1)) (fun _ h_ => h_.1)); replace HO_Z4 := Az (Kd.Q_mono (Kd.Q_told (Kd.Q_told (Kd.Q_old (qW2 HO_Z4.out BK624.out) hb) (Kd.R_base ho0)) (Kd.R_base ho1)) (fun _ h_ => h_.1)); replace HO_Z5 := Az (Kd.R_mono (Kd.R_told (Kd.R_told (Kd.R_old (rW2 HO_Z5.out BK624.out) hb) (Kd.R_base ho0)) (Kd.R_base ho1)) (fun _ h_ => h_.1)); replace HO611 := Az (Kd.R_mono (Kd.R_told (Kd.R_told (Kd.R_old (rW2 HO611.out BK624.out) hb) (Kd.R_base ho0)) (Kd.R_base ho1)) (fun _ h_ => h_.1)); replace HO615 := Az (Kd.R_mono (Kd.R_told (Kd.R_told (Kd.R_old (rW2 HO615.out BK624.out) hb) (Kd.R_base ho0)) (Kd.R_base ho1)) (fun _ h_ => h_.1)); replace HO619 := Az (Kd.R_mono (Kd.R_told (Kd.R_told (Kd.R_old (rW2 HO619.out BK624.out) hb) (Kd.R_base ho0)) (Kd.R_base ho1)) (fun _ h_ => h_.1)); replace HO622 := Az (Kd.R_mono (Kd.R_told (Kd.R_told (Kd.R_old (rW2 HO622.out BK624.out) hb) (Kd.R_base ho0)) (Kd.R_base ho1)) (fun _ h_ => h_.1)); replace BK590 := Az (blk_below (g := gb590) (o := .cells #[.slice Ao9 t583.length co9, .slice Ao11 t586.length co11] 25 (0, 0)) (kF1 BK590.out NB590_624.out) hb); replace BK598 := Az (blk_below (g := gb598) (o := .cells #[.slice Ao14 t591.length co14, .slice Ao17 t594.length co17] 25 (0, 0)) (kF1 BK598.out NB598_624.out) hb); replace BK606 := Az (blk_below (g := gb606) (o := .cells #[.slice Ao21 t599.length co21, .slice Ao25 t602.length co25] 25 (0, 0)) (kF1 BK606.out NB606_624.out) hb); replace BK624 := Az (blk_below (g := gb624) (o := .cells #[.slice Ao77 t617.length co77, .slice Ao82 t620.length co82] 25 (0, 0)) (by (with_reducible repeat (first | refine blk_drewN ?_ _ | refine blk_drew ?_ | refine blk_alloc ?_ _)); refine blk_put (cs := #[.slice Ao77 t617.length co77, .slice none 0 0]) ?_ 1 _ rfl; (with_reducible repeat (first | refine blk_drewN ?_ _ | refine blk_drew ?_ | refine blk_alloc ?_ _)); refine blk_put (cs := #[.slice none 0 0, .slice none 0 0]) ?_ 0 _ rfl; (with_reducible repeat (first | refine blk_drewN ?_ _ | refine blk_drew ?_ | refine blk_alloc ?_ _)); exact BK624.out) hb); replace HB := Az (below_step z6_4 hb); clear hb ho0 ho1) | ((with_reducible refine gd 15 rfl ?_); refine bE 15 #[.slice none 0 0, .slice none 0 0] 25 ?_; intro gb632 hg w84 hbox hb; replace HO_Z0 := qB HO_Z0.out hb; replace HO_Z1 := rB HO_Z1.out hb; replace HO_Z2 := qB HO_Z2.out hb; replace HO_Z3 := rB HO_Z3.out hb; replace HO_Z4 := qB HO_Z4.out hb; replace HO_Z5 := rB HO_Z5.out hb; replace HO611 := rB HO611.out hb; replace HO615 := rB HO615.out hb; replace HO619 := rB HO619.out hb; replace HO622 := rB HO622.out hb; replace HO627 := rB HO627.out hb; replace HO630 := rB HO630.out hb; have BK632 := Az (hbox); have GW632 := gW hg z6_4; replace HB := Az (below_step z6_4 hb); have NB590_632 := nL hg (kU BK590.out); replace BK590 := kB BK590.out hb; have NB598_632 := nL hg (kU BK598.out); replace BK598 := kB BK598.out hb; have NB606_632 := nL hg (kU BK606.out); replace BK606 := kB BK606.out hb; have NB624_632 := nL hg (kU BK624.out); replace BK624 := kB BK624.out hb; clear hb hbox hg; obtain ⟨Ao85, co85, eo85⟩ := Kd.R_slice HO627.out; subst eo85; have hnb86 := nP NB590_632; have hnb87 := nP NB598_632; have hnb88 := nP NB606_632; have hnb89 := nP NB624_632; have hz90 := bc2 BK632.out; obtain ⟨Ao91, co91, eo91⟩ := Kd.R_slice HO630.out; subst eo91; have hz92 := bc2 BK598.out) | ((with_reducible refine gK 26 rfl ?_); refine gC (some 83) Try.func26 #[.agg #[.slice Ao14 t591.length co14, .slice Ao17 t594.length co17]] ?_; (with_reducible refine (impl_MapDual.calls kj5 _ _ t591 _ _ t594 t633 t636 t639 _ ?side1 ?side2 ?side3 ?side4 A54.out).mono ?_); (case side1 => refine (Kd.Q_reads' (e := 3) (base := w.heap.size) (ok := fun k_ => (((((((oS k_ Ao9 t583.length co9 ∧ (oS k_ Ao11 t586.length co11 ∧ (oS k_ Ao17 t594.length co17 ∧ (oS k_ Ao21 t599.length co21 ∧ oS k_ Ao25 t602.length co25)))) ∧ oV k_ v610) ∧ oV k_ v614) ∧ oS k_ Ao77 t617.length co77) ∧ oS k_ Ao82 t620.length co82) ∧ oS k_ Ao85 t625.length co85) ∧ oS k_ Ao91 t628.length co91)) (n := t591.length) (c := co14) ?_).2.2; exact (qW2 HO_Z2.out BK632.out)); (case side2 => exact (Kd.Q_reads' HO_Z2.out).2.1); (case side3 => refine (Kd.R_reads' (e := 3) (base := w.heap.size) (ok := fun k_ => (((((((oS k_ Ao9 t583.length co9 ∧ (oS k_ Ao11 t586.length co11 ∧ (oS k_ Ao14 t591.length co14 ∧ (oS k_ Ao21 t599.length co21 ∧ oS k_ Ao25 t602.length co25)))) ∧ oV k_ v610) ∧ oV k_ v614) ∧ oS k_ Ao77 t617.length co77) ∧ oS k_ Ao82 t620.length co82) ∧ oS k_ Ao85 t625.length co85) ∧ oS k_ Ao91 t628.length co91)) (n := t594.length) (c := co17) ?_).2.2; exact (rW2 HO_Z3.out BK632.out)); (case side4 => exact (Kd.R_reads' HO_Z3.out).2.1); rintro e w93 ⟨v634, v637, rfl, ho0, ho1, hb⟩; refine ⟨_, rfl, ?_⟩; have HO635 := Az (Kd.R_lower (Kd.R_new' (Kd.R_new' (Kd.R_new' (Kd.R_new' (Kd.R_new' (Kd.R_new' (Kd.R_new' (Kd.R_new' (Kd.R_new' (Kd.R_new' (Kd.R_new' (Kd.R_new' ho0 (Kd.Q_lt (qW2 HO_Z0.out BK632.out))) (Kd.R_lt (rW2 HO_Z1.out BK632.out))) (Kd.Q_lt (qW2 HO_Z2.out BK632.out))) (Kd.R_lt (rW2 HO_Z3.out BK632.out))) (Kd.Q_lt (qW2 HO_Z4.out BK632.out))) (Kd.R_lt (rW2 HO_Z5.out BK632.out))) (Kd.R_lt (rW2 HO611.out BK632.out))) (Kd.R_lt (rW2 HO615.out BK632.out))) (Kd.R_lt (rW2 HO619.out BK632.out))) (Kd.R_lt (rW2 HO622.out BK632.out))) (Kd.R_lt (rW2 HO627.out BK632.out))) (Kd.R_lt (rW2 HO630.out BK632.out))) (below_size z6_3)); have HO638 := Az (Kd.R_lower (Kd.R_new' (Kd.R_new' (Kd.R_new' (Kd.R_new' (Kd.R_new' (Kd.R_new' (Kd.R_new' (Kd.R_new' (Kd.R_new' (Kd.R_new' (Kd.R_new' (Kd.R_new' ho1 (Kd.Q_lt (qW2 HO_Z0.out BK632.out))) (Kd.R_lt (rW2 HO_Z1.out BK632.out))) (Kd.Q_lt (qW2 HO_Z2.out BK632.out))) (Kd.R_lt (rW2 HO_Z3.out BK632.out))) (Kd.Q_lt (qW2 HO_Z4.out BK632.out))) (Kd.R_lt (rW2 HO_Z5.out BK632.out))) (Kd.R_lt (rW2 HO611.out BK632.out))) (Kd.R_lt (rW2 HO615.out BK632.out))) (Kd.R_lt (rW2 HO619.out BK632.out))) (Kd.R_lt (rW2 HO622.out BK632.out))) (Kd.R_lt (rW2 HO627.out BK632.out))) (Kd.R_lt (rW2 HO630.out BK632.out))) (below_size z6_3)); replace HO_Z0 := Az (Kd.Q_mono (Kd.Q_told (Kd.Q_told (Kd.Q_old (qW2 HO_Z0.out BK632.out) hb) (Kd.R_base ho0)) (Kd.R_base ho1)) (fun _ h_ => h_.1)); replace HO_Z1 := Az (Kd.R_mono (Kd.R_told (Kd.R_told (Kd.R_old (rW2 HO_Z1.out BK632.out) hb) (Kd.R_base ho0)) (Kd.R_base ho1)) (fun _ h_ => h_.1)); replace HO_Z2 := Az (Kd.Q_mono (Kd.Q_told (Kd.Q_told (Kd.Q_old (qW2 HO_Z2.out BK632.out) hb) (Kd.R_base ho0)) (Kd.R_base ho1)) (fun _ h_ => h_.1)); replace HO_Z3 := Az (Kd.R_mono (Kd.R_told (Kd.R_told (Kd.R_old (rW2 HO_Z3.out BK632.out) hb) (Kd.R_base ho0)) (Kd.R_base ho1)) (fun _ h_ => h_.1)); replace HO_Z4 := Az (Kd.Q_mono (Kd.Q_told (Kd.Q_told (Kd.Q_old (qW2 HO_Z4.out BK632.out) hb) (Kd.R_base ho0)) (Kd.R_base ho1)) (fun _ h_ => h_.1)); replace HO_Z5 := Az (Kd.R_mono (Kd.R_told (Kd.R_told (Kd.R_old (rW2 HO_Z5.out BK632.out) hb) (Kd.R_base ho0)) (Kd.R_base ho1)) (fun _ h_ => h_.1)); replace HO611 := Az (Kd.R_mono (Kd.R_told (Kd.R_told (Kd.R_old (rW2 HO611.out BK632.out) hb) (Kd.R_base ho0)) (Kd.R_base ho1)) (fun _ h_ => h_.1)); replace HO615 := Az (Kd.R_mono (Kd.R_told (Kd.R_told (Kd.R_old (rW2 HO615.out BK632.out) hb) (Kd.R_base ho0)) (Kd.R_base ho1)) (fun _ h_ => h_.1)); replace HO619 := Az (Kd.R_mono (Kd.R_told (Kd.R_told (Kd.R_old (rW2 HO619.out BK632.out) hb) (Kd.R_base ho0)) (Kd.R_base ho1)) (fun _ h_ => h_.1)); replace HO622 := Az (Kd.R_mono (Kd.R_told (Kd.R_told (Kd.R_old (rW2 HO622.out BK632.out) hb) (Kd.R_base ho0)) (Kd.R_base ho1)) (fun _ h_ => h_.1)); replace HO627 := Az (Kd.R_mono (Kd.R_told (Kd.R_told (Kd.R_old (rW2 HO627.out BK632.out) hb) (Kd.R_base ho0)) (Kd.R_base ho1)) (fun _ h_ => h_.1)); replace HO630 := Az (Kd.R_mono (Kd.R_told (Kd.R_told (Kd.R_old (rW2 HO630.out BK632.out) hb) (Kd.R_base ho0)) (Kd.R_base ho1)) (fun _ h_ => h_.1)); replace BK590 := Az (blk_below (g := gb590) (o := .cells #[.slice Ao9 t583.length co9, .slice Ao11 t586.length co11] 25 (0, 0)) (kF1 BK590.out NB590_632.out) hb); replace BK598 := Az (blk_below (g := gb598) (o := .cells #[.slice Ao14 t591.length co14, .slice Ao17 t594.length co17] 25 (0, 0)) (kF1 BK598.out NB598_632.out) hb); replace BK606 := Az (blk_below (g := gb606) (o := .cells #[.slice Ao21 t599.length co21, .slice Ao25 t602.length co25] 25 (0, 0)) (kF1 BK606.out NB606_632.out) hb); replace BK624 := Az (blk_below (g := gb624) (o := .cells #[.slice Ao77 t617.length co77, .slice Ao82 t620.length co82] 25 (0, 0)) (kF1 BK624.out NB624_632.out) hb); replace BK632 := Az (blk_below (g := gb632) (o := .cells #[.slice Ao85 t625.length co85, .slice Ao91 t628.length co91] 25 (0, 0)) (by (with_reducible repeat (first | refine blk_drewN ?_ _ | refine blk_drew ?_ | refine blk_alloc ?_ _)); refine blk_put (cs := #[.slice Ao85 t625.length co85, .slice none 0 0]) ?_ 1 _ rfl; (with_reducible repeat (first | refine blk_drewN ?_ _ | refine blk_drew ?_ | refine blk_alloc ?_ _)); refine blk_put (cs := #[.slice none 0 0, .slice none 0 0]) ?_ 0 _ rfl; (with_reducible repeat (first | refine blk_drewN ?_ _ | refine blk_drew ?_ | refine blk_alloc ?_ _)); exact BK632.out) hb); replace HB := Az (below_step z6_3 hb); clear hb ho0 ho1) | ((with_reducible refine gd 17 rfl ?_); refine bE 17 #[.slice none 0 0, .slice none 0 0] 25 ?_; intro gb640 hg w94 hbox hb; replace HO_Z0 := qB HO_Z0.out hb; replace HO_Z1 := rB HO_Z1.out hb; replace HO_Z2 := qB HO_Z2.out hb; replace HO_Z3 := rB HO_Z3.out hb; replace HO_Z4 := qB HO_Z4.out hb; replace HO_Z5 := rB HO_Z5.out hb; replace HO611 := rB HO611.out hb; replace HO615 := rB HO615.out hb; replace HO619 := rB HO619.out hb; replace HO622 := rB HO622.out hb; replace HO627 := rB HO627.out hb; replace HO630 := rB HO630.out hb; replace HO635 := rB HO635.out hb; replace HO638 := rB HO638.out hb; have BK640 := Az (hbox); have GW640 := gW hg z6_3; replace HB := Az (below_step z6_3 hb); have NB590_640 := nL hg (kU BK590.out); replace BK590 := kB BK590.out hb; have NB598_640 := nL hg (kU BK598.out); replace BK598 := kB BK598.out hb; have NB606_640 := nL hg (kU BK606.out); replace BK606 := kB BK606.out hb; have NB624_640 := nL hg (kU BK624.out); replace BK624 := kB BK624.out hb; have NB632_640 := nL hg (kU BK632.out); replace BK632 := kB BK632.out hb; clear hb hbox hg; obtain ⟨Ao95, co95, eo95⟩ := Kd.R_slice HO635.out; subst eo95; have hnb96 := nP NB590_640; have hnb97 := nP NB598_640; have hnb98 := nP NB606_640; have hnb99 := nP NB624_640; have hnb100 := nP NB632_640; have hz101 := bc2 BK640.out; obtain ⟨Ao102, co102, eo102⟩ := Kd.R_slice HO638.out; subst eo102))
    have n0 : Aside0 (Kd.Q (Kd.int .i64) 3 ((w94.setCell ⟨gb640, 0, none⟩ (.slice Ao95 t633.length co95)).setCell ⟨gb640, 1, none⟩ (.slice Ao102 t636.length co102)) w.heap.size (fun k_ => oS k_ Ao11 t586.length co11 ∧ oS k_ Ao14 t591.length co14 ∧ oS k_ Ao17 t594.length co17 ∧ oS k_ Ao21 t599.length co21 ∧ oS k_ Ao25 t602.length co25 ∧ oV k_ v610 ∧ oV k_ v614 ∧ oS k_ Ao77 t617.length co77 ∧ oS k_ Ao82 t620.length co82 ∧ oS k_ Ao85 t625.length co85 ∧ oS k_ Ao91 t628.length co91 ∧ oS k_ Ao95 t633.length co95 ∧ oS k_ Ao102 t636.length co102) (.slice Ao9 t583.length co9) t583) := ⟨qM (Kd.Q_far (p := ⟨gb640, 1, none⟩) (Kd.Q_far (p := ⟨gb640, 0, none⟩) (Kd.Q_types HO_Z0.out BK640.out (by decide)) (fun _ hk => hk.2) (.slice Ao95 t633.length co95)) (fun _ hk => hk.2) (.slice Ao102 t636.length co102))⟩; have n1 : Aside0 (Kd.R (Kd.int .i64) 3 ((w94.setCell ⟨gb640, 0, none⟩ (.slice Ao95 t633.length co95)).setCell ⟨gb640, 1, none⟩ (.slice Ao102 t636.length co102)) w.heap.size (fun k_ => oS k_ Ao9 t583.length co9 ∧ oS k_ Ao14 t591.length co14 ∧ oS k_ Ao17 t594.length co17 ∧ oS k_ Ao21 t599.length co21 ∧ oS k_ Ao25 t602.length co25 ∧ oV k_ v610 ∧ oV k_ v614 ∧ oS k_ Ao77 t617.length co77 ∧ oS k_ Ao82 t620.length co82 ∧ oS k_ Ao85 t625.length co85 ∧ oS k_ Ao91 t628.length co91 ∧ oS k_ Ao95 t633.length co95 ∧ oS k_ Ao102 t636.length co102) (.slice Ao11 t586.length co11) t586) := ⟨rM (Kd.R_far (p := ⟨gb640, 1, none⟩) (Kd.R_far (p := ⟨gb640, 0, none⟩) (Kd.R_types HO_Z1.out BK640.out (by decide)) (fun _ hk => hk.2) (.slice Ao95 t633.length co95)) (fun _ hk => hk.2) (.slice Ao102 t636.length co102))⟩; have n2 : Aside0 (Kd.Q (Kd.int .i64) 3 ((w94.setCell ⟨gb640, 0, none⟩ (.slice Ao95 t633.length co95)).setCell ⟨gb640, 1, none⟩ (.slice Ao102 t636.length co102)) w.heap.size (fun k_ => oS k_ Ao9 t583.length co9 ∧ oS k_ Ao11 t586.length co11 ∧ oS k_ Ao17 t594.length co17 ∧ oS k_ Ao21 t599.length co21 ∧ oS k_ Ao25 t602.length co25 ∧ oV k_ v610 ∧ oV k_ v614 ∧ oS k_ Ao77 t617.length co77 ∧ oS k_ Ao82 t620.length co82 ∧ oS k_ Ao85 t625.length co85 ∧ oS k_ Ao91 t628.length co91 ∧ oS k_ Ao95 t633.length co95 ∧ oS k_ Ao102 t636.length co102) (.slice Ao14 t591.length co14) t591) := ⟨qM (Kd.Q_far (p := ⟨gb640, 1, none⟩) (Kd.Q_far (p := ⟨gb640, 0, none⟩) (Kd.Q_types HO_Z2.out BK640.out (by decide)) (fun _ hk => hk.2) (.slice Ao95 t633.length co95)) (fun _ hk => hk.2) (.slice Ao102 t636.length co102))⟩; have n3 : Aside0 (Kd.R (Kd.int .i64) 3 ((w94.setCell ⟨gb640, 0, none⟩ (.slice Ao95 t633.length co95)).setCell ⟨gb640, 1, none⟩ (.slice Ao102 t636.length co102)) w.heap.size (fun k_ => oS k_ Ao9 t583.length co9 ∧ oS k_ Ao11 t586.length co11 ∧ oS k_ Ao14 t591.length co14 ∧ oS k_ Ao21 t599.length co21 ∧ oS k_ Ao25 t602.length co25 ∧ oV k_ v610 ∧ oV k_ v614 ∧ oS k_ Ao77 t617.length co77 ∧ oS k_ Ao82 t620.length co82 ∧ oS k_ Ao85 t625.length co85 ∧ oS k_ Ao91 t628.length co91 ∧ oS k_ Ao95 t633.length co95 ∧ oS k_ Ao102 t636.length co102) (.slice Ao17 t594.length co17) t594) := ⟨rM (Kd.R_far (p := ⟨gb640, 1, none⟩) (Kd.R_far (p := ⟨gb640, 0, none⟩) (Kd.R_types HO_Z3.out BK640.out (by decide)) (fun _ hk => hk.2) (.slice Ao95 t633.length co95)) (fun _ hk => hk.2) (.slice Ao102 t636.length co102))⟩; have n4 : Aside0 (Kd.Q (Kd.int .i64) 3 ((w94.setCell ⟨gb640, 0, none⟩ (.slice Ao95 t633.length co95)).setCell ⟨gb640, 1, none⟩ (.slice Ao102 t636.length co102)) w.heap.size (fun k_ => oS k_ Ao9 t583.length co9 ∧ oS k_ Ao11 t586.length co11 ∧ oS k_ Ao14 t591.length co14 ∧ oS k_ Ao17 t594.length co17 ∧ oS k_ Ao25 t602.length co25 ∧ oV k_ v610 ∧ oV k_ v614 ∧ oS k_ Ao77 t617.length co77 ∧ oS k_ Ao82 t620.length co82 ∧ oS k_ Ao85 t625.length co85 ∧ oS k_ Ao91 t628.length co91 ∧ oS k_ Ao95 t633.length co95 ∧ oS k_ Ao102 t636.length co102) (.slice Ao21 t599.length co21) t599) := ⟨qM (Kd.Q_far (p := ⟨gb640, 1, none⟩) (Kd.Q_far (p := ⟨gb640, 0, none⟩) (Kd.Q_types HO_Z4.out BK640.out (by decide)) (fun _ hk => hk.2) (.slice Ao95 t633.length co95)) (fun _ hk => hk.2) (.slice Ao102 t636.length co102))⟩; have n5 : Aside0 (Kd.R (Kd.int .i64) 3 ((w94.setCell ⟨gb640, 0, none⟩ (.slice Ao95 t633.length co95)).setCell ⟨gb640, 1, none⟩ (.slice Ao102 t636.length co102)) w.heap.size (fun k_ => oS k_ Ao9 t583.length co9 ∧ oS k_ Ao11 t586.length co11 ∧ oS k_ Ao14 t591.length co14 ∧ oS k_ Ao17 t594.length co17 ∧ oS k_ Ao21 t599.length co21 ∧ oV k_ v610 ∧ oV k_ v614 ∧ oS k_ Ao77 t617.length co77 ∧ oS k_ Ao82 t620.length co82 ∧ oS k_ Ao85 t625.length co85 ∧ oS k_ Ao91 t628.length co91 ∧ oS k_ Ao95 t633.length co95 ∧ oS k_ Ao102 t636.length co102) (.slice Ao25 t602.length co25) t602) := ⟨rM (Kd.R_far (p := ⟨gb640, 1, none⟩) (Kd.R_far (p := ⟨gb640, 0, none⟩) (Kd.R_types HO_Z5.out BK640.out (by decide)) (fun _ hk => hk.2) (.slice Ao95 t633.length co95)) (fun _ hk => hk.2) (.slice Ao102 t636.length co102))⟩; have n6 : Aside0 (Kd.R (Kd.int .i64) 3 ((w94.setCell ⟨gb640, 0, none⟩ (.slice Ao95 t633.length co95)).setCell ⟨gb640, 1, none⟩ (.slice Ao102 t636.length co102)) w.heap.size (fun k_ => oS k_ Ao9 t583.length co9 ∧ oS k_ Ao11 t586.length co11 ∧ oS k_ Ao14 t591.length co14 ∧ oS k_ Ao17 t594.length co17 ∧ oS k_ Ao21 t599.length co21 ∧ oS k_ Ao25 t602.length co25 ∧ oV k_ v614 ∧ oS k_ Ao77 t617.length co77 ∧ oS k_ Ao82 t620.length co82 ∧ oS k_ Ao85 t625.length co85 ∧ oS k_ Ao91 t628.length co91 ∧ oS k_ Ao95 t633.length co95 ∧ oS k_ Ao102 t636.length co102) v610 t609) := ⟨rM (Kd.R_far (p := ⟨gb640, 1, none⟩) (Kd.R_far (p := ⟨gb640, 0, none⟩) (Kd.R_types HO611.out BK640.out (by decide)) (fun _ hk => hk.2) (.slice Ao95 t633.length co95)) (fun _ hk => hk.2) (.slice Ao102 t636.length co102))⟩; have n7 : Aside0 (Kd.R (Kd.int .i64) 3 ((w94.setCell ⟨gb640, 0, none⟩ (.slice Ao95 t633.length co95)).setCell ⟨gb640, 1, none⟩ (.slice Ao102 t636.length co102)) w.heap.size (fun k_ => oS k_ Ao9 t583.length co9 ∧ oS k_ Ao11 t586.length co11 ∧ oS k_ Ao14 t591.length co14 ∧ oS k_ Ao17 t594.length co17 ∧ oS k_ Ao21 t599.length co21 ∧ oS k_ Ao25 t602.length co25 ∧ oV k_ v610 ∧ oS k_ Ao77 t617.length co77 ∧ oS k_ Ao82 t620.length co82 ∧ oS k_ Ao85 t625.length co85 ∧ oS k_ Ao91 t628.length co91 ∧ oS k_ Ao95 t633.length co95 ∧ oS k_ Ao102 t636.length co102) v614 t613) := ⟨rM (Kd.R_far (p := ⟨gb640, 1, none⟩) (Kd.R_far (p := ⟨gb640, 0, none⟩) (Kd.R_types HO615.out BK640.out (by decide)) (fun _ hk => hk.2) (.slice Ao95 t633.length co95)) (fun _ hk => hk.2) (.slice Ao102 t636.length co102))⟩; have n8 : Aside0 (Kd.R (Kd.int .i64) 3 ((w94.setCell ⟨gb640, 0, none⟩ (.slice Ao95 t633.length co95)).setCell ⟨gb640, 1, none⟩ (.slice Ao102 t636.length co102)) w.heap.size (fun k_ => oS k_ Ao9 t583.length co9 ∧ oS k_ Ao11 t586.length co11 ∧ oS k_ Ao14 t591.length co14 ∧ oS k_ Ao17 t594.length co17 ∧ oS k_ Ao21 t599.length co21 ∧ oS k_ Ao25 t602.length co25 ∧ oV k_ v610 ∧ oV k_ v614 ∧ oS k_ Ao82 t620.length co82 ∧ oS k_ Ao85 t625.length co85 ∧ oS k_ Ao91 t628.length co91 ∧ oS k_ Ao95 t633.length co95 ∧ oS k_ Ao102 t636.length co102) (.slice Ao77 t617.length co77) t617) := ⟨rM (Kd.R_far (p := ⟨gb640, 1, none⟩) (Kd.R_far (p := ⟨gb640, 0, none⟩) (Kd.R_types HO619.out BK640.out (by decide)) (fun _ hk => hk.2) (.slice Ao95 t633.length co95)) (fun _ hk => hk.2) (.slice Ao102 t636.length co102))⟩; have n9 : Aside0 (Kd.R (Kd.int .i64) 3 ((w94.setCell ⟨gb640, 0, none⟩ (.slice Ao95 t633.length co95)).setCell ⟨gb640, 1, none⟩ (.slice Ao102 t636.length co102)) w.heap.size (fun k_ => oS k_ Ao9 t583.length co9 ∧ oS k_ Ao11 t586.length co11 ∧ oS k_ Ao14 t591.length co14 ∧ oS k_ Ao17 t594.length co17 ∧ oS k_ Ao21 t599.length co21 ∧ oS k_ Ao25 t602.length co25 ∧ oV k_ v610 ∧ oV k_ v614 ∧ oS k_ Ao77 t617.length co77 ∧ oS k_ Ao85 t625.length co85 ∧ oS k_ Ao91 t628.length co91 ∧ oS k_ Ao95 t633.length co95 ∧ oS k_ Ao102 t636.length co102) (.slice Ao82 t620.length co82) t620) := ⟨rM (Kd.R_far (p := ⟨gb640, 1, none⟩) (Kd.R_far (p := ⟨gb640, 0, none⟩) (Kd.R_types HO622.out BK640.out (by decide)) (fun _ hk => hk.2) (.slice Ao95 t633.length co95)) (fun _ hk => hk.2) (.slice Ao102 t636.length co102))⟩; have n10 : Aside0 (Kd.R (Kd.int .i64) 3 ((w94.setCell ⟨gb640, 0, none⟩ (.slice Ao95 t633.length co95)).setCell ⟨gb640, 1, none⟩ (.slice Ao102 t636.length co102)) w.heap.size (fun k_ => oS k_ Ao9 t583.length co9 ∧ oS k_ Ao11 t586.length co11 ∧ oS k_ Ao14 t591.length co14 ∧ oS k_ Ao17 t594.length co17 ∧ oS k_ Ao21 t599.length co21 ∧ oS k_ Ao25 t602.length co25 ∧ oV k_ v610 ∧ oV k_ v614 ∧ oS k_ Ao77 t617.length co77 ∧ oS k_ Ao82 t620.length co82 ∧ oS k_ Ao91 t628.length co91 ∧ oS k_ Ao95 t633.length co95 ∧ oS k_ Ao102 t636.length co102) (.slice Ao85 t625.length co85) t625) := ⟨rM (Kd.R_far (p := ⟨gb640, 1, none⟩) (Kd.R_far (p := ⟨gb640, 0, none⟩) (Kd.R_types HO627.out BK640.out (by decide)) (fun _ hk => hk.2) (.slice Ao95 t633.length co95)) (fun _ hk => hk.2) (.slice Ao102 t636.length co102))⟩; have n11 : Aside0 (Kd.R (Kd.int .i64) 3 ((w94.setCell ⟨gb640, 0, none⟩ (.slice Ao95 t633.length co95)).setCell ⟨gb640, 1, none⟩ (.slice Ao102 t636.length co102)) w.heap.size (fun k_ => oS k_ Ao9 t583.length co9 ∧ oS k_ Ao11 t586.length co11 ∧ oS k_ Ao14 t591.length co14 ∧ oS k_ Ao17 t594.length co17 ∧ oS k_ Ao21 t599.length co21 ∧ oS k_ Ao25 t602.length co25 ∧ oV k_ v610 ∧ oV k_ v614 ∧ oS k_ Ao77 t617.length co77 ∧ oS k_ Ao82 t620.length co82 ∧ oS k_ Ao85 t625.length co85 ∧ oS k_ Ao95 t633.length co95 ∧ oS k_ Ao102 t636.length co102) (.slice Ao91 t628.length co91) t628) := ⟨rM (Kd.R_far (p := ⟨gb640, 1, none⟩) (Kd.R_far (p := ⟨gb640, 0, none⟩) (Kd.R_types HO630.out BK640.out (by decide)) (fun _ hk => hk.2) (.slice Ao95 t633.length co95)) (fun _ hk => hk.2) (.slice Ao102 t636.length co102))⟩; have n12 : Aside0 (Kd.R (Kd.int .i64) 3 ((w94.setCell ⟨gb640, 0, none⟩ (.slice Ao95 t633.length co95)).setCell ⟨gb640, 1, none⟩ (.slice Ao102 t636.length co102)) w.heap.size (fun k_ => oS k_ Ao9 t583.length co9 ∧ oS k_ Ao11 t586.length co11 ∧ oS k_ Ao14 t591.length co14 ∧ oS k_ Ao17 t594.length co17 ∧ oS k_ Ao21 t599.length co21 ∧ oS k_ Ao25 t602.length co25 ∧ oV k_ v610 ∧ oV k_ v614 ∧ oS k_ Ao77 t617.length co77 ∧ oS k_ Ao82 t620.length co82 ∧ oS k_ Ao85 t625.length co85 ∧ oS k_ Ao91 t628.length co91 ∧ oS k_ Ao102 t636.length co102) (.slice Ao95 t633.length co95) t633) := ⟨rM (Kd.R_far (p := ⟨gb640, 1, none⟩) (Kd.R_far (p := ⟨gb640, 0, none⟩) (Kd.R_types HO635.out BK640.out (by decide)) (fun _ hk => hk.2) (.slice Ao95 t633.length co95)) (fun _ hk => hk.2) (.slice Ao102 t636.length co102))⟩; have n13 : Aside0 (Kd.R (Kd.int .i64) 3 ((w94.setCell ⟨gb640, 0, none⟩ (.slice Ao95 t633.length co95)).setCell ⟨gb640, 1, none⟩ (.slice Ao102 t636.length co102)) w.heap.size (fun k_ => oS k_ Ao9 t583.length co9 ∧ oS k_ Ao11 t586.length co11 ∧ oS k_ Ao14 t591.length co14 ∧ oS k_ Ao17 t594.length co17 ∧ oS k_ Ao21 t599.length co21 ∧ oS k_ Ao25 t602.length co25 ∧ oV k_ v610 ∧ oV k_ v614 ∧ oS k_ Ao77 t617.length co77 ∧ oS k_ Ao82 t620.length co82 ∧ oS k_ Ao85 t625.length co85 ∧ oS k_ Ao91 t628.length co91 ∧ oS k_ Ao95 t633.length co95) (.slice Ao102 t636.length co102) t636) := ⟨rM (Kd.R_far (p := ⟨gb640, 1, none⟩) (Kd.R_far (p := ⟨gb640, 0, none⟩) (Kd.R_types HO638.out BK640.out (by decide)) (fun _ hk => hk.2) (.slice Ao95 t633.length co95)) (fun _ hk => hk.2) (.slice Ao102 t636.length co102))⟩; have n14 : Aside0 (((w94.setCell ⟨gb640, 0, none⟩ (.slice Ao95 t633.length co95)).setCell ⟨gb640, 1, none⟩ (.slice Ao102 t636.length co102)).heap[gb590]? = some (.cells #[.slice Ao9 t583.length co9, .slice Ao11 t586.length co11] 25 (0, 0))) := ⟨by (with_reducible repeat (first | refine blk_drewN ?_ _ | refine blk_drew ?_ | refine blk_alloc ?_ _)); refine blk_far ?_ NB590_640.out _; (with_reducible repeat (first | refine blk_drewN ?_ _ | refine blk_drew ?_ | refine blk_alloc ?_ _)); refine blk_far ?_ NB590_640.out _; (with_reducible repeat (first | refine blk_drewN ?_ _ | refine blk_drew ?_ | refine blk_alloc ?_ _)); exact BK590.out⟩; have n15 : Aside0 (((w94.setCell ⟨gb640, 0, none⟩ (.slice Ao95 t633.length co95)).setCell ⟨gb640, 1, none⟩ (.slice Ao102 t636.length co102)).heap[gb598]? = some (.cells #[.slice Ao14 t591.length co14, .slice Ao17 t594.length co17] 25 (0, 0))) := ⟨by (with_reducible repeat (first | refine blk_drewN ?_ _ | refine blk_drew ?_ | refine blk_alloc ?_ _)); refine blk_far ?_ NB598_640.out _; (with_reducible repeat (first | refine blk_drewN ?_ _ | refine blk_drew ?_ | refine blk_alloc ?_ _)); refine blk_far ?_ NB598_640.out _; (with_reducible repeat (first | refine blk_drewN ?_ _ | refine blk_drew ?_ | refine blk_alloc ?_ _)); exact BK598.out⟩; have n16 : Aside0 (((w94.setCell ⟨gb640, 0, none⟩ (.slice Ao95 t633.length co95)).setCell ⟨gb640, 1, none⟩ (.slice Ao102 t636.length co102)).heap[gb606]? = some (.cells #[.slice Ao21 t599.length co21, .slice Ao25 t602.length co25] 25 (0, 0))) := ⟨by (with_reducible repeat (first | refine blk_drewN ?_ _ | refine blk_drew ?_ | refine blk_alloc ?_ _)); refine blk_far ?_ NB606_640.out _; (with_reducible repeat (first | refine blk_drewN ?_ _ | refine blk_drew ?_ | refine blk_alloc ?_ _)); refine blk_far ?_ NB606_640.out _; (with_reducible repeat (first | refine blk_drewN ?_ _ | refine blk_drew ?_ | refine blk_alloc ?_ _)); exact BK606.out⟩; have n17 : Aside0 (((w94.setCell ⟨gb640, 0, none⟩ (.slice Ao95 t633.length co95)).setCell ⟨gb640, 1, none⟩ (.slice Ao102 t636.length co102)).heap[gb624]? = some (.cells #[.slice Ao77 t617.length co77, .slice Ao82 t620.length co82] 25 (0, 0))) := ⟨by (with_reducible repeat (first | refine blk_drewN ?_ _ | refine blk_drew ?_ | refine blk_alloc ?_ _)); refine blk_far ?_ NB624_640.out _; (with_reducible repeat (first | refine blk_drewN ?_ _ | refine blk_drew ?_ | refine blk_alloc ?_ _)); refine blk_far ?_ NB624_640.out _; (with_reducible repeat (first | refine blk_drewN ?_ _ | refine blk_drew ?_ | refine blk_alloc ?_ _)); exact BK624.out⟩; have n18 : Aside0 (((w94.setCell ⟨gb640, 0, none⟩ (.slice Ao95 t633.length co95)).setCell ⟨gb640, 1, none⟩ (.slice Ao102 t636.length co102)).heap[gb632]? = some (.cells #[.slice Ao85 t625.length co85, .slice Ao91 t628.length co91] 25 (0, 0))) := ⟨by (with_reducible repeat (first | refine blk_drewN ?_ _ | refine blk_drew ?_ | refine blk_alloc ?_ _)); refine blk_far ?_ NB632_640.out _; (with_reducible repeat (first | refine blk_drewN ?_ _ | refine blk_drew ?_ | refine blk_alloc ?_ _)); refine blk_far ?_ NB632_640.out _; (with_reducible repeat (first | refine blk_drewN ?_ _ | refine blk_drew ?_ | refine blk_alloc ?_ _)); exact BK632.out⟩; have n19 : Aside0 (((w94.setCell ⟨gb640, 0, none⟩ (.slice Ao95 t633.length co95)).setCell ⟨gb640, 1, none⟩ (.slice Ao102 t636.length co102)).heap[gb640]? = some (.cells #[.slice Ao95 t633.length co95, .slice Ao102 t636.length co102] 25 (0, 0))) := ⟨by (with_reducible repeat (first | refine blk_drewN ?_ _ | refine blk_drew ?_ | refine blk_alloc ?_ _)); refine blk_put (cs := #[.slice Ao95 t633.length co95, .slice none 0 0]) ?_ 1 _ rfl; (with_reducible repeat (first | refine blk_drewN ?_ _ | refine blk_drew ?_ | refine blk_alloc ?_ _)); refine blk_put (cs := #[.slice none 0 0, .slice none 0 0]) ?_ 0 _ rfl; (with_reducible repeat (first | refine blk_drewN ?_ _ | refine blk_drew ?_ | refine blk_alloc ?_ _)); exact BK640.out⟩; have n20 : Aside0 (Below w.heap.size w ((w94.setCell ⟨gb640, 0, none⟩ (.slice Ao95 t633.length co95)).setCell ⟨gb640, 1, none⟩ (.slice Ao102 t636.length co102))) := ⟨by repeat (first | (with_reducible first | exact HB.out | apply below_alloc | apply pw_below_drewN | apply below_drew1 | refine below_set ?_ GW590.out | refine below_set ?_ GW598.out | refine below_set ?_ GW606.out | refine below_set ?_ GW624.out | refine below_set ?_ GW632.out | refine below_set ?_ GW640.out) | exact HB.out)⟩; generalize ((w94.setCell ⟨gb640, 0, none⟩ (.slice Ao95 t633.length co95)).setCell ⟨gb640, 1, none⟩ (.slice Ao102 t636.length co102)) = w103 at n0 n1 n2 n3 n4 n5 n6 n7 n8 n9 n10 n11 n12 n13 n14 n15 n16 n17 n18 n19 n20 ⊢; have HO_Z0 := n0; have HO_Z1 := n1; have HO_Z2 := n2; have HO_Z3 := n3; have HO_Z4 := n4; have HO_Z5 := n5; have HO611 := n6; have HO615 := n7; have HO619 := n8; have HO622 := n9; have HO627 := n10; have HO630 := n11; have HO635 := n12; have HO638 := n13; have BK590 := n14; have BK598 := n15; have BK606 := n16; have BK624 := n17; have BK632 := n18; have BK640 := n19; have HB := n20; clear n0 n1 n2 n3 n4 n5 n6 n7 n8 n9 n10 n11 n12 n13 n14 n15 n16 n17 n18 n19 n20; replace HO_Z0 := Az (Kd.Q_drew HO_Z0.out); replace HO_Z1 := Az (Kd.R_drew HO_Z1.out); replace HO_Z2 := Az (Kd.Q_drew HO_Z2.out); replace HO_Z3 := Az (Kd.R_drew HO_Z3.out); replace HO_Z4 := Az (Kd.Q_drew HO_Z4.out); replace HO_Z5 := Az (Kd.R_drew HO_Z5.out); replace HO611 := Az (Kd.R_drew HO611.out); replace HO615 := Az (Kd.R_drew HO615.out); replace HO619 := Az (Kd.R_drew HO619.out); replace HO622 := Az (Kd.R_drew HO622.out); replace HO627 := Az (Kd.R_drew HO627.out); replace HO630 := Az (Kd.R_drew HO630.out); replace HO635 := Az (Kd.R_drew HO635.out); replace HO638 := Az (Kd.R_drew HO638.out); replace BK590 := Az (blk_drew BK590.out); replace BK598 := Az (blk_drew BK598.out); replace BK606 := Az (blk_drew BK606.out); replace BK624 := Az (blk_drew BK624.out); replace BK632 := Az (blk_drew BK632.out); replace BK640 := Az (blk_drew BK640.out); replace HB := Az (below_drew1 HB.out)
    by_cases c55 : t612 = true
    ·
     subst c55; rw [if_pos rfl] at H
     by_cases c56 : t616 = true
     ·
      subst c56; rw [if_pos rfl] at H
      by_cases c57 : t623 = true
      ·
       subst c57; rw [if_pos rfl] at H
       by_cases c58 : t639 = true
       ·
        subst c58; rw [if_pos rfl] at H; replace H := gP H; obtain ⟨c59, H⟩ := H; have c59b0 := decide_eq_true c59; have c59b1 : decide (1 < t613.length) = true := decide_eq_true (by omega); clear c59; replace H := gP H; obtain ⟨c60, H⟩ := H; have c60b0 := decide_eq_true c60; have c60b1 : decide (1 < t609.length) = true := decide_eq_true (by omega); clear c60
        replace H := gQ H; rcases H with ⟨c61b0, c61b1, H⟩ | ⟨c61b0, c61b1, H⟩
        ·
         replace H := gP H; obtain ⟨c62, H⟩ := H; have c62b0 := decide_eq_true c62; have c62b1 : decide (0 < t613.length) = true := decide_eq_true (by omega); clear c62; replace H := gP H; obtain ⟨c63, H⟩ := H; have c63b0 := decide_eq_true c63; have c63b1 : decide (0 < t609.length) = true := decide_eq_true (by omega); clear c63
         replace H := gQ H; rcases H with ⟨c64b0, c64b1, H⟩ | ⟨c64b0, c64b1, H⟩
         ·
          by_cases c65 : t631 = true
          ·
           subst c65; rw [if_pos rfl] at H; replace H := bd H; obtain ⟨t645, A66, H⟩ := H; obtain rfl := Option.some.inj H; obtain ⟨Ao105, co105, eo105⟩ := Kd.R_slice HO615.out; (first | subst eo105 | (injection eo105 with f1_ f2_ f3_; have f4_ := f1_.symm; have f5_ := f3_.symm; clear f1_ f2_ f3_; subst f4_; subst f5_)); have p641 : 0 ≤ (1 : Int) := (by omega); have q641 : 1 < (t613.length : Int) := oA; obtain ⟨ad641, e641, hx641_0⟩ := Kd.at_int (Kd.R_reads' HO615.out).2.2 1 p641 q641
           cases e641
           simp only [show (1 : Int).toNat = 1 from rfl, Nat.reduceMul, Nat.reduceEqDiff, Go.Addr.add, ↓reduceIte] at hx641_0; have qi641 : (1 < t613.length) = True := eq_true (by omega); replace p641 := eq_true p641; replace q641 := eq_true q641; obtain ⟨Ao106, co106, eo106⟩ := Kd.R_slice HO611.out; (first | subst eo106 | (injection eo106 with f1_ f2_ f3_; have f4_ := f1_.symm; have f5_ := f3_.symm; clear f1_ f2_ f3_; subst f4_; subst f5_)); have p642 : 0 ≤ (1 : Int) := (by omega); have q642 : 1 < (t609.length : Int) := oA; obtain ⟨ad642, e642, hx642_0⟩ := Kd.at_int (Kd.R_reads' HO611.out).2.2 1 p642 q642
           cases e642
           simp only [show (1 : Int).toNat = 1 from rfl, Nat.reduceMul, Nat.reduceEqDiff, Go.Addr.add, ↓reduceIte] at hx642_0; have qi642 : (1 < t609.length) = True := eq_true (by omega); replace p642 := eq_true p642; replace q642 := eq_true q642; have p643 : 0 ≤ (0 : Int) := (by omega); have q643 : 0 < (t613.length : Int) := oA; obtain ⟨ad643, e643, hx643_0⟩ := Kd.at_int (Kd.R_reads' HO615.out).2.2 0 p643 q643; obtain rfl : ad641 = ad643 := (by injection e643); have qi643 : (0 < t613.length) = True := eq_true (by omega); rw [show ((0 : Int)).toNat = 0 from rfl] at hx643_0; rw [Addr.add_zero'] at hx643_0; replace p643 := eq_true p643; replace q643 := eq_true q643; have p644 : 0 ≤ (0 : Int) := (by omega); have q644 : 0 < (t609.length : Int) := oA; obtain ⟨ad644, e644, hx644_0⟩ := Kd.at_int (Kd.R_reads' HO611.out).2.2 0 p644 q644; obtain rfl : ad642 = ad644 := (by injection e644); have qi644 : (0 < t609.length) = True := eq_true (by omega); rw [show ((0 : Int)).toNat = 0 from rfl] at hx644_0; rw [Addr.add_zero'] at hx644_0; replace p644 := eq_true p644; replace q644 := eq_true q644; refine start_ (n := 39) (S := fun w' => w'.cell? ⟨gb632, 0, none⟩ = some (.slice Ao85 t625.length co85) ∧ w'.cell? ⟨gb632, 1, none⟩ = some (.slice Ao91 t628.length co91) ∧ w'.cell? ⟨gb640, 0, none⟩ = some (.slice Ao95 t633.length co95) ∧ w'.cell? ⟨gb640, 1, none⟩ = some (.slice Ao102 t636.length co102) ∧ w'.cell? ⟨ad641.block, ad641.off + 1, none⟩ = some (.int .i64 (rd t613 1)) ∧ w'.cell? ⟨ad642.block, ad642.off + 1, none⟩ = some (.int .i64 (rd t609 1)) ∧ w'.cell? ad641 = some (.int .i64 (rd t613 0)) ∧ w'.cell? ad642 = some (.int .i64 (rd t609 0))) (ds := []) (laws_FnDelete_up [(0, some 86), (1, some 87), (2, some 88), (3, some 89), (4, some 90), (5, some 91), (6, some 92), (7, some 93), (8, some 94), (9, some 95), (10, some 96), (11, some 97), (12, some 98), (14, some 100), (15, some 101), (13, some 99), (16, some 102), (17, some 103), (18, some 104), (19, some 105), (20, some 106), (21, some 107), (22, some 108), (24, some 110), (25, some 111), (23, some 109), (26, some 112), (27, some 113), (28, some 114), (29, some 115), (30, some 116), (31, some 117), (32, some 118), (33, some 119), (34, some 120), (35, some 121), (36, some 122), (37, some 123), (38, some 2)] 39) (by kernel_rfl) rfl rfl ⟨(blk_cell BK632.out 0).trans rfl, (blk_cell BK632.out 1).trans rfl, (blk_cell BK640.out 0).trans rfl, (blk_cell BK640.out 1).trans rfl, hx641_0, hx642_0, hx643_0, hx644_0⟩ (fun hHeld => ?_); refine with_tabW laws_FnDelete.tab13 laws_FnDelete.bits13 (fun HT_ HW_ => ?_); generalize w103.drew = w104 at HO_Z0 HO_Z1 HO_Z2 HO_Z3 HO_Z4 HO_Z5 HO611 HO615 HO619 HO622 HO627 HO630 HO635 HO638 BK590 BK598 BK606 BK624 BK632 BK640 HB hx641_0 hx642_0 hx643_0 hx644_0 hHeld ⊢
           repeat (first | (refine laws_FnDelete_uP rfl rfl (any_of HT_.out (by kernel_rfl)) (fun _ _ _ h => h) (by rfl) (v := ?_) (a' := ?_) ?_ ?_ ?_; rotate_left; (· intro w'; go_simp; with_reducible rfl); rotate_left; (· exact aP)) | (refine laws_FnDelete_uT rfl rfl (take_ofW HT_.out HW_.out (by kernel_rfl)) (fun _ _ _ h => h) (by rfl) (v := ?_) (a' := ?_) ?_ hHeld ?_ ?_; rotate_left; (· rintro w' ⟨s0, s1, s2, s3, s4, s5, s6, s7⟩; go_simp; with_reducible rfl); rotate_left; (· exact aP)))
           refine laws_FnDelete_uO rfl rfl (one_of HT_.out (by kernel_rfl)) (by decide) (fun K hK => ?_); refine goes_ Try.func56 (by kernel_rfl) rfl #[.agg #[.slice Ao85 t625.length co85, .slice Ao91 t628.length co91], .agg #[.slice Ao95 t633.length co95, .slice Ao102 t636.length co102]] (by rfl) rfl rfl lQ ?_
           with_reducible refine (laws_sameMap.calls kj5 _ _ t625 _ _ t628 _ _ t633 _ _ t636 t645 _ ?side1 ?side2 ?side3 ?side4 ?side5 ?side6 ?side7 ?side8 A66.out).mono ?_
           (case side1 => exact cU ((Kd.R_reads' HO627.out).2.2))
           (case side2 => exact (Kd.R_reads' HO627.out).2.1)
           (case side3 => exact cU ((Kd.R_reads' HO630.out).2.2))
           (case side4 => exact (Kd.R_reads' HO630.out).2.1)
           (case side5 => exact cU ((Kd.R_reads' HO635.out).2.2))
           (case side6 => exact (Kd.R_reads' HO635.out).2.1)
           (case side7 => exact cU ((Kd.R_reads' HO638.out).2.2))
           (case side8 => exact (Kd.R_reads' HO638.out).2.1)
           rintro e w107 ⟨rfl, hb⟩; have HS4_ := (hb.cell (World.block_lt_of_cell? _ _ (hHeld.2.2.2.2.1))).trans (hHeld.2.2.2.2.1); have HS5_ := (hb.cell (World.block_lt_of_cell? _ _ (hHeld.2.2.2.2.2.1))).trans (hHeld.2.2.2.2.2.1); have HS6_ := (hb.cell (World.block_lt_of_cell? _ _ (hHeld.2.2.2.2.2.2.1))).trans (hHeld.2.2.2.2.2.2.1); have HS7_ := (hb.cell (World.block_lt_of_cell? _ _ (hHeld.2.2.2.2.2.2.2))).trans (hHeld.2.2.2.2.2.2.2); refine ⟨_, rfl, ?_⟩; replace HO_Z0 := qB HO_Z0.out hb; replace HO_Z1 := rB HO_Z1.out hb; replace HO_Z2 := qB HO_Z2.out hb; replace HO_Z3 := rB HO_Z3.out hb; replace HO_Z4 := qB HO_Z4.out hb; replace HO_Z5 := rB HO_Z5.out hb; replace HO611 := rB HO611.out hb; replace HO615 := rB HO615.out hb; replace HO619 := rB HO619.out hb; replace HO622 := rB HO622.out hb; replace HO627 := rB HO627.out hb; replace HO630 := rB HO630.out hb; replace HO635 := rB HO635.out hb; replace HO638 := rB HO638.out hb; replace BK590 := kB BK590.out hb; replace BK598 := kB BK598.out hb; replace BK606 := kB BK606.out hb; replace BK624 := kB BK624.out hb; replace BK632 := kB BK632.out hb; replace BK640 := kB BK640.out hb; replace HB := Az (below_step (by repeat (first | (with_reducible first | exact HB.out | apply below_alloc | apply pw_below_drewN | apply below_drew1 | refine below_set ?_ GW590.out | refine below_set ?_ GW598.out | refine below_set ?_ GW606.out | refine below_set ?_ GW624.out | refine below_set ?_ GW632.out | refine below_set ?_ GW640.out) | exact HB.out)) hb); clear hb; refine hK.out _ _ ⟨(blk_cell BK632.out 0).trans rfl, (blk_cell BK632.out 1).trans rfl, (blk_cell BK640.out 0).trans rfl, (blk_cell BK640.out 1).trans rfl, HS4_, HS5_, HS6_, HS7_⟩ (fun hHeld => ?_); clear hK K; refine norm_ (a' := ?_) ?_ ?_; rotate_left
           ·
            show Act.put _ (some 121) _ = _
            simp only [Act.put, List.setIfInBounds_toArray, List.set_cons_zero, List.set_cons_succ, i64_w, i32_w]; rfl
           repeat (first | (refine laws_FnDelete_uP rfl rfl (any_of HT_.out (by kernel_rfl)) (fun _ _ _ h => h) (by rfl) (v := ?_) (a' := ?_) ?_ ?_ ?_; rotate_left; (· intro w'; go_simp; with_reducible rfl); rotate_left; (· exact aP)))
           refine done_ (done_of HT_.out (by kernel_rfl)) ?_
           try go_wp2
           go_ret; exact ⟨rE, by repeat (first | (with_reducible first | exact HB.out | apply below_alloc | apply pw_below_drewN | apply below_drew1 | refine below_set ?_ GW590.out | refine below_set ?_ GW598.out | refine below_set ?_ GW606.out | refine below_set ?_ GW624.out | refine below_set ?_ GW632.out | refine below_set ?_ GW640.out) | exact HB.out)⟩
          ·
           replace c65 := Bool.eq_false_iff.mpr c65; subst c65; rw [if_neg nT] at H; obtain rfl := Option.some.inj H; obtain ⟨Ao146, co146, eo146⟩ := Kd.R_slice HO615.out; (first | subst eo146 | (injection eo146 with f1_ f2_ f3_; have f4_ := f1_.symm; have f5_ := f3_.symm; clear f1_ f2_ f3_; subst f4_; subst f5_)); have p641 : 0 ≤ (1 : Int) := (by omega); have q641 : 1 < (t613.length : Int) := oA; obtain ⟨ad641, e641, hx641_0⟩ := Kd.at_int (Kd.R_reads' HO615.out).2.2 1 p641 q641
           cases e641
           simp only [show (1 : Int).toNat = 1 from rfl, Nat.reduceMul, Nat.reduceEqDiff, Go.Addr.add, ↓reduceIte] at hx641_0; have qi641 : (1 < t613.length) = True := eq_true (by omega); replace p641 := eq_true p641; replace q641 := eq_true q641; obtain ⟨Ao147, co147, eo147⟩ := Kd.R_slice HO611.out; (first | subst eo147 | (injection eo147 with f1_ f2_ f3_; have f4_ := f1_.symm; have f5_ := f3_.symm; clear f1_ f2_ f3_; subst f4_; subst f5_)); have p642 : 0 ≤ (1 : Int) := (by omega); have q642 : 1 < (t609.length : Int) := oA; obtain ⟨ad642, e642, hx642_0⟩ := Kd.at_int (Kd.R_reads' HO611.out).2.2 1 p642 q642
           cases e642
           simp only [show (1 : Int).toNat = 1 from rfl, Nat.reduceMul, Nat.reduceEqDiff, Go.Addr.add, ↓reduceIte] at hx642_0; have qi642 : (1 < t609.length) = True := eq_true (by omega); replace p642 := eq_true p642; replace q642 := eq_true q642; have p643 : 0 ≤ (0 : Int) := (by omega); have q643 : 0 < (t613.length : Int) := oA; obtain ⟨ad643, e643, hx643_0⟩ := Kd.at_int (Kd.R_reads' HO615.out).2.2 0 p643 q643; obtain rfl : ad641 = ad643 := (by injection e643); have qi643 : (0 < t613.length) = True := eq_true (by omega); rw [show ((0 : Int)).toNat = 0 from rfl] at hx643_0; rw [Addr.add_zero'] at hx643_0; replace p643 := eq_true p643; replace q643 := eq_true q643; have p644 : 0 ≤ (0 : Int) := (by omega); have q644 : 0 < (t609.length : Int) := oA; obtain ⟨ad644, e644, hx644_0⟩ := Kd.at_int (Kd.R_reads' HO611.out).2.2 0 p644 q644; obtain rfl : ad642 = ad644 := (by injection e644); have qi644 : (0 < t609.length) = True := eq_true (by omega); rw [show ((0 : Int)).toNat = 0 from rfl] at hx644_0; rw [Addr.add_zero'] at hx644_0; replace p644 := eq_true p644; replace q644 := eq_true q644; refine start_ (n := 39) (S := fun w' => w'.cell? ⟨ad641.block, ad641.off + 1, none⟩ = some (.int .i64 (rd t613 1)) ∧ w'.cell? ⟨ad642.block, ad642.off + 1, none⟩ = some (.int .i64 (rd t609 1)) ∧ w'.cell? ad641 = some (.int .i64 (rd t613 0)) ∧ w'.cell? ad642 = some (.int .i64 (rd t609 0))) (ds := []) (laws_FnDelete_up [(0, some 86), (1, some 87), (2, some 88), (3, some 89), (4, some 90), (5, some 91), (6, some 92), (7, some 93), (8, some 94), (9, some 95), (10, some 96), (11, some 97), (12, some 98), (14, some 100), (15, some 101), (13, some 99), (16, some 102), (17, some 103), (18, some 104), (19, some 105), (20, some 106), (21, some 107), (22, some 108), (24, some 110), (25, some 111), (23, some 109), (26, some 112), (27, some 113), (28, some 114), (29, some 115), (30, some 116), (31, some 117), (32, some 118), (33, some 119), (34, some 120), (35, some 121), (36, some 122), (37, some 123), (38, some 2)] 39) (by kernel_rfl) rfl rfl ⟨hx641_0, hx642_0, hx643_0, hx644_0⟩ (fun hHeld => ?_); refine with_tabW laws_FnDelete.tab13 laws_FnDelete.bits13 (fun HT_ HW_ => ?_); generalize w103.drew = w145 at HO_Z0 HO_Z1 HO_Z2 HO_Z3 HO_Z4 HO_Z5 HO611 HO615 HO619 HO622 HO627 HO630 HO635 HO638 BK590 BK598 BK606 BK624 BK632 BK640 HB hx641_0 hx642_0 hx643_0 hx644_0 hHeld ⊢
           repeat (first | (refine laws_FnDelete_uS rfl rfl (any_of HT_.out (by kernel_rfl)) (fun _ _ _ h => h) (by rfl) (a' := ?_) ?_ ?_; rotate_left; (· exact aP)) | (refine laws_FnDelete_uP rfl rfl (any_of HT_.out (by kernel_rfl)) (fun _ _ _ h => h) (by rfl) (v := ?_) (a' := ?_) ?_ ?_ ?_; rotate_left; (· intro w'; go_simp; with_reducible rfl); rotate_left; (· exact aP)) | (refine laws_FnDelete_uT rfl rfl (take_ofW HT_.out HW_.out (by kernel_rfl)) (fun _ _ _ h => h) (by rfl) (v := ?_) (a' := ?_) ?_ hHeld ?_ ?_; rotate_left; (· rintro w' ⟨s0, s1, s2, s3⟩; go_simp; with_reducible rfl); rotate_left; (· exact aP)))
           refine done_ (done_of HT_.out (by kernel_rfl)) ?_
           try go_wp2
           go_ret; exact ⟨rE, by repeat (first | (with_reducible first | exact HB.out | apply below_alloc | apply pw_below_drewN | apply below_drew1 | refine below_set ?_ GW590.out | refine below_set ?_ GW598.out | refine below_set ?_ GW606.out | refine below_set ?_ GW624.out | refine below_set ?_ GW632.out | refine below_set ?_ GW640.out) | exact HB.out)⟩
         ·
          obtain rfl := Option.some.inj H; obtain ⟨Ao186, co186, eo186⟩ := Kd.R_slice HO615.out; (first | subst eo186 | (injection eo186 with f1_ f2_ f3_; have f4_ := f1_.symm; have f5_ := f3_.symm; clear f1_ f2_ f3_; subst f4_; subst f5_)); have p641 : 0 ≤ (1 : Int) := (by omega); have q641 : 1 < (t613.length : Int) := oA; obtain ⟨ad641, e641, hx641_0⟩ := Kd.at_int (Kd.R_reads' HO615.out).2.2 1 p641 q641
          cases e641
          simp only [show (1 : Int).toNat = 1 from rfl, Nat.reduceMul, Nat.reduceEqDiff, Go.Addr.add, ↓reduceIte] at hx641_0; have qi641 : (1 < t613.length) = True := eq_true (by omega); replace p641 := eq_true p641; replace q641 := eq_true q641; obtain ⟨Ao187, co187, eo187⟩ := Kd.R_slice HO611.out; (first | subst eo187 | (injection eo187 with f1_ f2_ f3_; have f4_ := f1_.symm; have f5_ := f3_.symm; clear f1_ f2_ f3_; subst f4_; subst f5_)); have p642 : 0 ≤ (1 : Int) := (by omega); have q642 : 1 < (t609.length : Int) := oA; obtain ⟨ad642, e642, hx642_0⟩ := Kd.at_int (Kd.R_reads' HO611.out).2.2 1 p642 q642
          cases e642
          simp only [show (1 : Int).toNat = 1 from rfl, Nat.reduceMul, Nat.reduceEqDiff, Go.Addr.add, ↓reduceIte] at hx642_0; have qi642 : (1 < t609.length) = True := eq_true (by omega); replace p642 := eq_true p642; replace q642 := eq_true q642; have p643 : 0 ≤ (0 : Int) := (by omega); have q643 : 0 < (t613.length : Int) := oA; obtain ⟨ad643, e643, hx643_0⟩ := Kd.at_int (Kd.R_reads' HO615.out).2.2 0 p643 q643; obtain rfl : ad641 = ad643 := (by injection e643); have qi643 : (0 < t613.length) = True := eq_true (by omega); rw [show ((0 : Int)).toNat = 0 from rfl] at hx643_0; rw [Addr.add_zero'] at hx643_0; replace p643 := eq_true p643; replace q643 := eq_true q643; have p644 : 0 ≤ (0 : Int) := (by omega); have q644 : 0 < (t609.length : Int) := oA; obtain ⟨ad644, e644, hx644_0⟩ := Kd.at_int (Kd.R_reads' HO611.out).2.2 0 p644 q644; obtain rfl : ad642 = ad644 := (by injection e644); have qi644 : (0 < t609.length) = True := eq_true (by omega); rw [show ((0 : Int)).toNat = 0 from rfl] at hx644_0; rw [Addr.add_zero'] at hx644_0; replace p644 := eq_true p644; replace q644 := eq_true q644; refine start_ (n := 39) (S := fun w' => w'.cell? ⟨ad641.block, ad641.off + 1, none⟩ = some (.int .i64 (rd t613 1)) ∧ w'.cell? ⟨ad642.block, ad642.off + 1, none⟩ = some (.int .i64 (rd t609 1)) ∧ w'.cell? ad641 = some (.int .i64 (rd t613 0)) ∧ w'.cell? ad642 = some (.int .i64 (rd t609 0))) (ds := []) (laws_FnDelete_up [(0, some 86), (1, some 87), (2, some 88), (3, some 89), (4, some 90), (5, some 91), (6, some 92), (7, some 93), (8, some 94), (9, some 95), (10, some 96), (11, some 97), (12, some 98), (14, some 100), (15, some 101), (13, some 99), (16, some 102), (17, some 103), (18, some 104), (19, some 105), (20, some 106), (21, some 107), (22, some 108), (24, some 110), (25, some 111), (23, some 109), (26, some 112), (27, some 113), (28, some 114), (29, some 115), (30, some 116), (31, some 117), (32, some 118), (33, some 119), (34, some 120), (35, some 121), (36, some 122), (37, some 123), (38, some 2)] 39) (by kernel_rfl) rfl rfl ⟨hx641_0, hx642_0, hx643_0, hx644_0⟩ (fun hHeld => ?_); refine with_tabW laws_FnDelete.tab13 laws_FnDelete.bits13 (fun HT_ HW_ => ?_); generalize w103.drew = w185 at HO_Z0 HO_Z1 HO_Z2 HO_Z3 HO_Z4 HO_Z5 HO611 HO615 HO619 HO622 HO627 HO630 HO635 HO638 BK590 BK598 BK606 BK624 BK632 BK640 HB hx641_0 hx642_0 hx643_0 hx644_0 hHeld ⊢
          repeat (first | (refine laws_FnDelete_uS rfl rfl (any_of HT_.out (by kernel_rfl)) (fun _ _ _ h => h) (by rfl) (a' := ?_) ?_ ?_; rotate_left; (· exact aP)) | (refine laws_FnDelete_uP rfl rfl (any_of HT_.out (by kernel_rfl)) (fun _ _ _ h => h) (by rfl) (v := ?_) (a' := ?_) ?_ ?_ ?_; rotate_left; (· intro w'; go_simp; with_reducible rfl); rotate_left; (· exact aP)) | (refine laws_FnDelete_uT rfl rfl (take_ofW HT_.out HW_.out (by kernel_rfl)) (fun _ _ _ h => h) (by rfl) (v := ?_) (a' := ?_) ?_ hHeld ?_ ?_; rotate_left; (· rintro w' ⟨s0, s1, s2, s3⟩; go_simp; with_reducible rfl); rotate_left; (· exact aP)))
          refine done_ (done_of HT_.out (by kernel_rfl)) ?_
          try go_wp2
          go_ret; exact ⟨rE, by repeat (first | (with_reducible first | exact HB.out | apply below_alloc | apply pw_below_drewN | apply below_drew1 | refine below_set ?_ GW590.out | refine below_set ?_ GW598.out | refine below_set ?_ GW606.out | refine below_set ?_ GW624.out | refine below_set ?_ GW632.out | refine below_set ?_ GW640.out) | exact HB.out)⟩
        ·
         obtain rfl := Option.some.inj H; obtain ⟨Ao226, co226, eo226⟩ := Kd.R_slice HO615.out; (first | subst eo226 | (injection eo226 with f1_ f2_ f3_; have f4_ := f1_.symm; have f5_ := f3_.symm; clear f1_ f2_ f3_; subst f4_; subst f5_)); have p641 : 0 ≤ (1 : Int) := (by omega); have q641 : 1 < (t613.length : Int) := oA; obtain ⟨ad641, e641, hx641_0⟩ := Kd.at_int (Kd.R_reads' HO615.out).2.2 1 p641 q641
         cases e641
         simp only [show (1 : Int).toNat = 1 from rfl, Nat.reduceMul, Nat.reduceEqDiff, Go.Addr.add, ↓reduceIte] at hx641_0; have qi641 : (1 < t613.length) = True := eq_true (by omega); replace p641 := eq_true p641; replace q641 := eq_true q641; obtain ⟨Ao227, co227, eo227⟩ := Kd.R_slice HO611.out; (first | subst eo227 | (injection eo227 with f1_ f2_ f3_; have f4_ := f1_.symm; have f5_ := f3_.symm; clear f1_ f2_ f3_; subst f4_; subst f5_)); have p642 : 0 ≤ (1 : Int) := (by omega); have q642 : 1 < (t609.length : Int) := oA; obtain ⟨ad642, e642, hx642_0⟩ := Kd.at_int (Kd.R_reads' HO611.out).2.2 1 p642 q642
         cases e642
         simp only [show (1 : Int).toNat = 1 from rfl, Nat.reduceMul, Nat.reduceEqDiff, Go.Addr.add, ↓reduceIte] at hx642_0; have qi642 : (1 < t609.length) = True := eq_true (by omega); replace p642 := eq_true p642; replace q642 := eq_true q642; refine start_ (n := 39) (S := fun w' => w'.cell? ⟨ad641.block, ad641.off + 1, none⟩ = some (.int .i64 (rd t613 1)) ∧ w'.cell? ⟨ad642.block, ad642.off + 1, none⟩ = some (.int .i64 (rd t609 1))) (ds := []) (laws_FnDelete_up [(0, some 86), (1, some 87), (2, some 88), (3, some 89), (4, some 90), (5, some 91), (6, some 92), (7, some 93), (8, some 94), (9, some 95), (10, some 96), (11, some 97), (12, some 98), (14, some 100), (15, some 101), (13, some 99), (16, some 102), (17, some 103), (18, some 104), (19, some 105), (20, some 106), (21, some 107), (22, some 108), (23, some 109), (24, some 110), (25, some 111), (26, some 112), (27, some 113), (28, some 114), (29, some 115), (30, some 116), (31, some 117), (32, some 118), (33, some 119), (34, some 120), (35, some 121), (36, some 122), (37, some 123), (38, some 2)] 39) (by kernel_rfl) rfl rfl ⟨hx641_0, hx642_0⟩ (fun hHeld => ?_); refine with_tabW laws_FnDelete.tab13 laws_FnDelete.bits13 (fun HT_ HW_ => ?_); generalize w103.drew = w225 at HO_Z0 HO_Z1 HO_Z2 HO_Z3 HO_Z4 HO_Z5 HO611 HO615 HO619 HO622 HO627 HO630 HO635 HO638 BK590 BK598 BK606 BK624 BK632 BK640 HB hx641_0 hx642_0 hHeld ⊢
         repeat (first | (refine laws_FnDelete_uS rfl rfl (any_of HT_.out (by kernel_rfl)) (fun _ _ _ h => h) (by rfl) (a' := ?_) ?_ ?_; rotate_left; (· exact aP)) | (refine laws_FnDelete_uP rfl rfl (any_of HT_.out (by kernel_rfl)) (fun _ _ _ h => h) (by rfl) (v := ?_) (a' := ?_) ?_ ?_ ?_; rotate_left; (· intro w'; go_simp; with_reducible rfl); rotate_left; (· exact aP)) | (refine laws_FnDelete_uT rfl rfl (take_ofW HT_.out HW_.out (by kernel_rfl)) (fun _ _ _ h => h) (by rfl) (v := ?_) (a' := ?_) ?_ hHeld ?_ ?_; rotate_left; (· rintro w' ⟨s0, s1⟩; go_simp; with_reducible rfl); rotate_left; (· exact aP)))
         refine done_ (done_of HT_.out (by kernel_rfl)) ?_
         try go_wp2
         go_ret; exact ⟨rE, by repeat (first | (with_reducible first | exact HB.out | apply below_alloc | apply pw_below_drewN | apply below_drew1 | refine below_set ?_ GW590.out | refine below_set ?_ GW598.out | refine below_set ?_ GW606.out | refine below_set ?_ GW624.out | refine below_set ?_ GW632.out | refine below_set ?_ GW640.out) | exact HB.out)⟩
       ·
        replace c58 := Bool.eq_false_iff.mpr c58; subst c58; rw [if_neg nT] at H; obtain rfl := Option.some.inj H; refine start_ (n := 39) (S := fun w' => True) (ds := []) (laws_FnDelete_up [(0, some 86), (1, some 87), (2, some 88), (3, some 89), (4, some 90), (5, some 91), (6, some 92), (7, some 93), (8, some 94), (9, some 95), (10, some 96), (11, some 97), (12, some 98), (13, some 99), (14, some 100), (15, some 101), (16, some 102), (17, some 103), (18, some 104), (19, some 105), (20, some 106), (21, some 107), (22, some 108), (23, some 109), (24, some 110), (25, some 111), (26, some 112), (27, some 113), (28, some 114), (29, some 115), (30, some 116), (31, some 117), (32, some 118), (33, some 119), (34, some 120), (35, some 121), (36, some 122), (37, some 123), (38, some 2)] 39) (by kernel_rfl) rfl rfl trivial (fun hHeld => ?_); refine with_tabW laws_FnDelete.tab13 laws_FnDelete.bits13 (fun HT_ HW_ => ?_); generalize w103.drew = w265 at HO_Z0 HO_Z1 HO_Z2 HO_Z3 HO_Z4 HO_Z5 HO611 HO615 HO619 HO622 HO627 HO630 HO635 HO638 BK590 BK598 BK606 BK624 BK632 BK640 HB hHeld ⊢
        repeat (first | (refine laws_FnDelete_uS rfl rfl (any_of HT_.out (by kernel_rfl)) (fun _ _ _ h => h) (by rfl) (a' := ?_) ?_ ?_; rotate_left; (· exact aP)) | (refine laws_FnDelete_uP rfl rfl (any_of HT_.out (by kernel_rfl)) (fun _ _ _ h => h) (by rfl) (v := ?_) (a' := ?_) ?_ ?_ ?_; rotate_left; (· intro w'; go_simp; with_reducible rfl); rotate_left; (· exact aP)))
        refine done_ (done_of HT_.out (by kernel_rfl)) ?_
        try go_wp2
        go_ret; exact ⟨rE, by repeat (first | (with_reducible first | exact HB.out | apply below_alloc | apply pw_below_drewN | apply below_drew1 | refine below_set ?_ GW590.out | refine below_set ?_ GW598.out | refine below_set ?_ GW606.out | refine below_set ?_ GW624.out | refine below_set ?_ GW632.out | refine below_set ?_ GW640.out) | exact HB.out)⟩
      ·
       replace c57 := Bool.eq_false_iff.mpr c57; subst c57; rw [if_neg nT] at H; obtain rfl := Option.some.inj H; refine start_ (n := 39) (S := fun w' => True) (ds := []) (laws_FnDelete_up [(0, some 86), (1, some 87), (2, some 88), (3, some 89), (4, some 90), (5, some 91), (6, some 92), (7, some 93), (8, some 94), (9, some 95), (10, some 96), (11, some 97), (12, some 98), (13, some 99), (14, some 100), (15, some 101), (16, some 102), (17, some 103), (18, some 104), (19, some 105), (20, some 106), (21, some 107), (22, some 108), (23, some 109), (24, some 110), (25, some 111), (26, some 112), (27, some 113), (28, some 114), (29, some 115), (30, some 116), (31, some 117), (32, some 118), (33, some 119), (34, some 120), (35, some 121), (36, some 122), (37, some 123), (38, some 2)] 39) (by kernel_rfl) rfl rfl trivial (fun hHeld => ?_); refine with_tabW laws_FnDelete.tab13 laws_FnDelete.bits13 (fun HT_ HW_ => ?_); generalize w103.drew = w303 at HO_Z0 HO_Z1 HO_Z2 HO_Z3 HO_Z4 HO_Z5 HO611 HO615 HO619 HO622 HO627 HO630 HO635 HO638 BK590 BK598 BK606 BK624 BK632 BK640 HB hHeld ⊢
       repeat (first | (refine laws_FnDelete_uS rfl rfl (any_of HT_.out (by kernel_rfl)) (fun _ _ _ h => h) (by rfl) (a' := ?_) ?_ ?_; rotate_left; (· exact aP)) | (refine laws_FnDelete_uP rfl rfl (any_of HT_.out (by kernel_rfl)) (fun _ _ _ h => h) (by rfl) (v := ?_) (a' := ?_) ?_ ?_ ?_; rotate_left; (· intro w'; go_simp; with_reducible rfl); rotate_left; (· exact aP)))
       refine done_ (done_of HT_.out (by kernel_rfl)) ?_
       try go_wp2
       go_ret; exact ⟨rE, by repeat (first | (with_reducible first | exact HB.out | apply below_alloc | apply pw_below_drewN | apply below_drew1 | refine below_set ?_ GW590.out | refine below_set ?_ GW598.out | refine below_set ?_ GW606.out | refine below_set ?_ GW624.out | refine below_set ?_ GW632.out | refine below_set ?_ GW640.out) | exact HB.out)⟩
     ·
      replace c56 := Bool.eq_false_iff.mpr c56; subst c56; rw [if_neg nT] at H; obtain rfl := Option.some.inj H; refine start_ (n := 39) (S := fun w' => True) (ds := []) (laws_FnDelete_up [(0, some 86), (1, some 87), (2, some 88), (3, some 89), (4, some 90), (5, some 91), (6, some 92), (7, some 93), (8, some 94), (9, some 95), (10, some 96), (11, some 97), (12, some 98), (13, some 99), (14, some 100), (15, some 101), (16, some 102), (17, some 103), (18, some 104), (19, some 105), (20, some 106), (21, some 107), (22, some 108), (23, some 109), (24, some 110), (25, some 111), (26, some 112), (27, some 113), (28, some 114), (29, some 115), (30, some 116), (31, some 117), (32, some 118), (33, some 119), (34, some 120), (35, some 121), (36, some 122), (37, some 123), (38, some 2)] 39) (by kernel_rfl) rfl rfl trivial (fun hHeld => ?_); refine with_tabW laws_FnDelete.tab13 laws_FnDelete.bits13 (fun HT_ HW_ => ?_); generalize w103.drew = w341 at HO_Z0 HO_Z1 HO_Z2 HO_Z3 HO_Z4 HO_Z5 HO611 HO615 HO619 HO622 HO627 HO630 HO635 HO638 BK590 BK598 BK606 BK624 BK632 BK640 HB hHeld ⊢
      repeat (first | (refine laws_FnDelete_uS rfl rfl (any_of HT_.out (by kernel_rfl)) (fun _ _ _ h => h) (by rfl) (a' := ?_) ?_ ?_; rotate_left; (· exact aP)) | (refine laws_FnDelete_uP rfl rfl (any_of HT_.out (by kernel_rfl)) (fun _ _ _ h => h) (by rfl) (v := ?_) (a' := ?_) ?_ ?_ ?_; rotate_left; (· intro w'; go_simp; with_reducible rfl); rotate_left; (· exact aP)))
      refine done_ (done_of HT_.out (by kernel_rfl)) ?_
      try go_wp2
      go_ret; exact ⟨rE, by repeat (first | (with_reducible first | exact HB.out | apply below_alloc | apply pw_below_drewN | apply below_drew1 | refine below_set ?_ GW590.out | refine below_set ?_ GW598.out | refine below_set ?_ GW606.out | refine below_set ?_ GW624.out | refine below_set ?_ GW632.out | refine below_set ?_ GW640.out) | exact HB.out)⟩
    ·
     replace c55 := Bool.eq_false_iff.mpr c55; subst c55; rw [if_neg nT] at H; obtain rfl := Option.some.inj H; refine start_ (n := 39) (S := fun w' => True) (ds := []) (laws_FnDelete_up [(0, some 86), (1, some 87), (2, some 88), (3, some 89), (4, some 90), (5, some 91), (6, some 92), (7, some 93), (8, some 94), (9, some 95), (10, some 96), (11, some 97), (12, some 98), (13, some 99), (14, some 100), (15, some 101), (16, some 102), (17, some 103), (18, some 104), (19, some 105), (20, some 106), (21, some 107), (22, some 108), (23, some 109), (24, some 110), (25, some 111), (26, some 112), (27, some 113), (28, some 114), (29, some 115), (30, some 116), (31, some 117), (32, some 118), (33, some 119), (34, some 120), (35, some 121), (36, some 122), (37, some 123), (38, some 2)] 39) (by kernel_rfl) rfl rfl trivial (fun hHeld => ?_); refine with_tabW laws_FnDelete.tab13 laws_FnDelete.bits13 (fun HT_ HW_ => ?_); generalize w103.drew = w379 at HO_Z0 HO_Z1 HO_Z2 HO_Z3 HO_Z4 HO_Z5 HO611 HO615 HO619 HO622 HO627 HO630 HO635 HO638 BK590 BK598 BK606 BK624 BK632 BK640 HB hHeld ⊢
     repeat (first | (refine laws_FnDelete_uS rfl rfl (any_of HT_.out (by kernel_rfl)) (fun _ _ _ h => h) (by rfl) (a' := ?_) ?_ ?_; rotate_left; (· exact aP)) | (refine laws_FnDelete_uP rfl rfl (any_of HT_.out (by kernel_rfl)) (fun _ _ _ h => h) (by rfl) (v := ?_) (a' := ?_) ?_ ?_ ?_; rotate_left; (· intro w'; go_simp; with_reducible rfl); rotate_left; (· exact aP)))
     refine done_ (done_of HT_.out (by kernel_rfl)) ?_
     try go_wp2
     go_ret; exact ⟨rE, by repeat (first | (with_reducible first | exact HB.out | apply below_alloc | apply pw_below_drewN | apply below_drew1 | refine below_set ?_ GW590.out | refine below_set ?_ GW598.out | refine below_set ?_ GW606.out | refine below_set ?_ GW624.out | refine below_set ?_ GW632.out | refine below_set ?_ GW640.out) | exact HB.out)⟩
def laws_FnDelete.Pure : Prop := ∀ (l0 : List Int), l0.length ≤ maxLen → l0.length * 1 ≤ 140737488351232 → (∀ x ∈ l0, (Lit.int .u8 x).wf = true) → ∃ k, laws_FnDelete.f k l0 = some true
theorem laws_FnDelete.walk (P : laws_FnDelete.Pure) (a0 : Option Addr) (len0 cap0 : Nat) (z0 : List Int) (w : World) (w0 : (a0 = none ∧ len0 = 0 ∧ cap0 = 0 ∧ z0 = []) ∨ ∃ x, a0 = some x ∧ len0 ≤ cap0 ∧ cap0 ≤ maxLen ∧ z0.length = cap0 ∧ (∀ i, i < z0.length → w.cell? (x.add i) = some (.int .u8 (z0.getD i 0))) ∧ ∀ n ∈ z0, (Lit.int .u8 n).wf = true) (y0 : len0 * 1 ≤ 140737488351232) :
  Calls Try.prog 14 #[.slice a0 len0 cap0] w fun e w' => e = .returned (.bool true) ∧ Below w.heap.size w w' := by
 obtain ⟨l0, rfl, hr0, hm0, hw0, hc0⟩ := ReadsInt.ofRowC w0; obtain ⟨k, h⟩ := P l0 hm0 y0 hw0; refine (laws_FnDelete.calls k _ _ l0 true w (Kd.C_of_reads (d := (0 : Int)) (h1 := fun _ => rfl) hr0) hc0 h).mono ?_; rintro e w' ⟨rfl, hd⟩; exact ⟨rfl, hd⟩
end Go.Proofs.Ytjgknblneokhlaa.PK

set_option linter.unusedVariables false
set_option linter.unusedSimpArgs false
namespace Go.Proofs.Ytjgknblneokhlaa.PK
open Go.RowKit Go.Proofs.YtjgknblneokhlaaW.PrintWords Go.Proofs.YtjgknblneokhlaaW.PrintLast Go.Proofs.YtjgknblneokhlaaW.PrintMore
theorem Ev.s {α : Type} {g : Nat → Option α} {r : α} (h : Ev (fun k => g (k + 1)) r) : Ev g r := Ev.step (fun _ => rfl) h
theorem Ev.const {α : Type} {o : Option α} {r : α} (h : o = some r) : Ev (fun _ => o) r := ⟨0, fun _ _ => h⟩
theorem Ev.uniq {α : Type} {g : Nat → Option α} {r r' : α} (h : Ev g r) (h' : Ev g r') : r = r' := by
  obtain ⟨K, h⟩ := h; obtain ⟨K', h'⟩ := h'; have h1 := h (max K K') (by omega); rw [h' (max K K') (by omega)] at h1; exact (Option.some.inj h1).symm
theorem w64 {x : Int} (h1 : -9223372036854775808 ≤ x) (h2 : x < 9223372036854775808) : wrap64 x = x := by unfold wrap64; omega
theorem w64r {x : Int} (h : -9223372036854775808 ≤ x ∧ x < 9223372036854775808) : wrap64 x = x := w64 h.1 h.2
theorem w64n {i : Nat} (h : i < 4611686018427387904) : wrap64 ((i : Int) + 1) = ((i + 1 : Nat) : Int) := by rw [w64 (by omega) (by omega)]; omega
theorem xor_nonneg (a b : Int) (ha : 0 ≤ a) (hb : 0 ≤ b) (ha' : a < 9223372036854775808) (hb' : b < 9223372036854775808) : 0 ≤ Go.bits .xor .i64 a b := by
  obtain ⟨n, rfl⟩ := Int.eq_ofNat_of_zero_le ha; obtain ⟨m, rfl⟩ := Int.eq_ofNat_of_zero_le hb; have hn : n % 2 ^ 64 = n := Nat.mod_eq_of_lt (by omega); have hm : m % 2 ^ 64 = m := Nat.mod_eq_of_lt (by omega); have hx : n ^^^ m < 2 ^ 63 := Nat.xor_lt_two_pow (by omega) (by omega)
  have e : Go.bits .xor .i64 (n : Int) (m : Int) = IntKind.i64.wrap ((n ^^^ m : Nat) : Int) := by
    simp only [Go.bits, BitVec.ofInt_natCast]
    show IntKind.i64.wrap (((BitVec.ofNat 64 n ^^^ BitVec.ofNat 64 m).toNat : Nat) : Int) = _
    rw [BitVec.toNat_xor, BitVec.toNat_ofNat, BitVec.toNat_ofNat, hn, hm]
  rw [e, IntKind.wrap_i64]; omega
def bytesOk (l : List Int) : Prop := l.length ≤ 2000 ∧ ∀ x ∈ l, 0 ≤ x ∧ x ≤ 255
theorem rd_byte (l : List Int) (h : bytesOk l) (i : Int) : 0 ≤ rd l i ∧ rd l i ≤ 255 := by
  unfold rd
  by_cases hi : i.toNat < l.length
  · rw [List.getD_eq_getElem?_getD, List.getElem?_eq_getElem hi]
    exact h.2 _ (List.getElem_mem hi)
  · rw [List.getD_eq_getElem?_getD, List.getElem?_eq_none (by omega)]
    decide
theorem pick_ev (l : List Int) (h : bytesOk l) (p : Int) (hp : 0 ≤ p) (hp' : p ≤ 1000000) (n : Int) (hn : 1 ≤ n) (hn' : n ≤ 1000000) : ∃ v, Ev (fun k => spec_l6Rd_pick.f k l p n) (v, p + 1) ∧ 0 ≤ v ∧ v < n := by
  have w0 : wrap64 (p + 1) = p + 1 := w64 (by omega) (by omega)
  have w1 : wrap64 (p + 1 - 1) = p := by rw [w64 (by omega) (by omega)]; omega
  have hl := h.1
  unfold spec_l6Rd_pick.f
  simp only [show ¬ n < 1 by omega, if_false, w0]
  by_cases hz : l.length = 0
  · refine ⟨0, Ev.s ?_, by omega, by omega⟩
    have : (((l.length : Int)) == 0) = true := by simp [hz]
    simp only [this, spec_l6Rd_pick.j0, if_true]; exact Ev.const rfl
  · have hb : (((l.length : Int)) == 0) = false := by rw [beq_eq_false_iff_ne]; omega
    have hn0 : ¬ n = 0 := by omega
    by_cases hlt : p < (l.length : Int)
    · have hr := rd_byte l h p
      have wr : wrap64 (rd l p) = rd l p := w64 (by omega) (by omega); refine ⟨Int.tmod (rd l p) n, Ev.s ?_, Int.tmod_nonneg _ (by omega), Int.tmod_lt_of_pos _ (by omega)⟩; simp only [hb, spec_l6Rd_pick.j0, w1, hlt, hp, hn0, wr, Bool.false_eq_true, if_true, if_false]; exact Ev.const rfl
    · have hl0 : ¬ (l.length : Int) = 0 := by omega
      have wk : wrap64 (p * 7) = p * 7 := w64 (by omega) (by omega); have wk3 : wrap64 (p * 7 + 3) = p * 7 + 3 := w64 (by omega) (by omega); have t1 := Int.tmod_nonneg (a := p) (l.length : Int) hp; have t2 := Int.tmod_lt_of_pos p (b := (l.length : Int)) (by omega); have t3 := Int.tmod_nonneg (a := p * 7 + 3) (l.length : Int) (by omega); have t4 := Int.tmod_lt_of_pos (p * 7 + 3) (b := (l.length : Int)) (by omega); have r1 := rd_byte l h (Int.tmod p (l.length : Int)); have r2 := rd_byte l h (Int.tmod (p * 7 + 3) (l.length : Int)); have d1 : 0 ≤ Int.tdiv p (l.length : Int) := Int.tdiv_nonneg hp (by omega); have d2 : Int.tdiv p (l.length : Int) ≤ p := Int.tdiv_le_self _ hp
      obtain ⟨X, hX, hX0, hX1⟩ : ∃ X, (wrap64 ((wrap64 ((wrap64 ((wrap64 ((wrap64 (rd l (Int.tmod p (l.length : Int)))) * 131)) + (wrap64 ((wrap64 (rd l (Int.tmod (p * 7 + 3) (l.length : Int)))) * 1117)))) + (wrap64 (p * 29)))) + (wrap64 ((wrap64 (Int.tdiv p (l.length : Int))) * 53)))) = X ∧ 0 ≤ X ∧ X < 4611686018427387904 := by
        refine ⟨_, rfl, ?_, ?_⟩
        all_goals
          generalize rd l (Int.tmod p (l.length : Int)) = a at *; generalize rd l (Int.tmod (p * 7 + 3) (l.length : Int)) = b at *; generalize Int.tdiv p (l.length : Int) = c at *; rw [w64 (x := a) (by omega) (by omega), w64 (x := b) (by omega) (by omega), w64 (x := a * 131) (by omega) (by omega), w64 (x := b * 1117) (by omega) (by omega), w64 (x := a * 131 + b * 1117) (by omega) (by omega), w64 (x := p * 29) (by omega) (by omega), w64 (x := a * 131 + b * 1117 + p * 29) (by omega) (by omega), w64 (x := c) (by omega) (by omega), w64 (x := c * 53) (by omega) (by omega), w64 (x := a * 131 + b * 1117 + p * 29 + c * 53) (by omega) (by omega)]; omega
      have hd : 0 ≤ wrap64 (Int.tdiv X 64) ∧ wrap64 (Int.tdiv X 64) < 9223372036854775808 := by
        have := Int.tdiv_nonneg hX0 (show (0 : Int) ≤ 64 by decide); have := Int.tdiv_le_self 64 hX0; rw [w64 (by omega) (by omega)]; omega
      have hx := xor_nonneg X (wrap64 (Int.tdiv X 64)) hX0 hd.1 (by omega) hd.2; refine ⟨Int.tmod (Go.bits .xor .i64 X (wrap64 (Int.tdiv X 64))) n, Ev.s ?_, Int.tmod_nonneg _ hx, Int.tmod_lt_of_pos _ (by omega)⟩; simp only [hb, spec_l6Rd_pick.j0, w1, hlt, hl0, wk, wk3, t1, t2, t3, t4, hn0, hX, Bool.false_eq_true, if_true, if_false]; exact Ev.const rfl
theorem open_ev (l : List Int) (hb : ∀ x ∈ l, (Lit.int .u8 x).wf = true) : ∃ l', spec_l6Open.f l = some (l', 0) ∧ bytesOk l' := by
  have hb' : ∀ x ∈ l, 0 ≤ x ∧ x ≤ 255 := by
    intro x hx; have := hb x hx; simp only [Lit.wf, IntKind.min, IntKind.max, IntKind.signed, IntKind.bits, Bool.and_eq_true, decide_eq_true_eq, Bool.false_eq_true, if_false] at this; omega
  unfold spec_l6Open.f
  by_cases h : (l.length : Int) > 2000
  · refine ⟨l.take 2000, ?_, ?_, fun x hx => hb' x (List.mem_of_mem_take hx)⟩
    · rw [if_pos h, if_pos (by omega)]
    · rw [List.length_take]; omega
  · exact ⟨l, by rw [if_neg h], by omega, hb'⟩
theorem rd_lt (l : List Int) (i : Nat) (h : i < l.length) : rd l (i : Int) = l[i] := by
  unfold rd
  rw [Int.toNat_natCast, List.getD_eq_getElem?_getD, List.getElem?_eq_getElem h]; rfl
def okAt (l : List Int) (i : Nat) : Prop := 0 ≤ rd l i ∧ rd l i < l.length ∧ ∀ k : Nat, k < i → rd l k ≠ rd l i
def isPerm (l : List Int) : Prop := 1 ≤ l.length ∧ l.length ≤ 12 ∧ ∀ i : Nat, i < l.length → okAt l i
theorem l6In_eq (a b c : Int) : spec_l6In.f a b c = some (decide (b ≤ a ∧ a ≤ c)) := by
  unfold spec_l6In.f
  by_cases h1 : a ≥ b
  · by_cases h2 : a ≤ c <;> simp [h1, h2]
  · simp [h1]
theorem specPerm_in (l : List Int) (hl : l.length ≤ 1048576) (i : Nat) (hi : i < l.length) : ∀ (d k : Nat), i - k = d → k ≤ i →
    ((∀ q : Nat, k ≤ q → q < i → rd l q ≠ rd l i) → ∀ r, Ev (fun z => spec_PermValid.l0 z l ((i + 1 : Nat) : Int)) r → Ev (fun z => spec_PermValid.l1 z l i k) r) ∧
    (¬ (∀ q : Nat, k ≤ q → q < i → rd l q ≠ rd l i) → Ev (fun z => spec_PermValid.l1 z l i k) false)
  | 0, k, hd, hk => by
    refine ⟨fun _ r h => Ev.s ?_, fun h => absurd (fun q h1 h2 => by omega) h⟩; simp only [spec_PermValid.l1, show ¬ (k : Int) < (i : Int) by omega, if_false]; rw [w64 (x := (i : Int) + 1) (by omega) (by omega), show ((i : Int) + 1) = ((i + 1 : Nat) : Int) by omega]; exact h
  | d + 1, k, hd, hk => by
    have ih := specPerm_in l hl i hi d (k + 1) (by omega) (by omega)
    have hw : wrap64 ((k : Int) + 1) = ((k + 1 : Nat) : Int) := by rw [w64 (by omega) (by omega)]; omega
    by_cases e : rd l k = rd l i
    · refine ⟨fun h => absurd e (h k (Nat.le_refl _) (by omega)), fun h => Ev.s ?_⟩
      simp only [spec_PermValid.l1, show (k : Int) < (i : Int) by omega, show (0 : Int) ≤ k by omega, show (k : Int) < (l.length : Int) by omega, show (0 : Int) ≤ i by omega, show (i : Int) < (l.length : Int) by omega, e, if_true]; exact Ev.const rfl
    · refine ⟨fun h r hr => Ev.s ?_, fun h => Ev.s ?_⟩
      · simp only [spec_PermValid.l1, show (k : Int) < (i : Int) by omega, show (0 : Int) ≤ k by omega, show (k : Int) < (l.length : Int) by omega, show (0 : Int) ≤ i by omega, show (i : Int) < (l.length : Int) by omega, e, if_true, if_false, hw]
        exact ih.1 (fun q h1 h2 => h q (by omega) h2) r hr
      · simp only [spec_PermValid.l1, show (k : Int) < (i : Int) by omega, show (0 : Int) ≤ k by omega, show (k : Int) < (l.length : Int) by omega, show (0 : Int) ≤ i by omega, show (i : Int) < (l.length : Int) by omega, e, if_true, if_false, hw]
        refine ih.2 fun h' => h fun q h1 h2 => ?_
        by_cases eq : q = k
        · rw [eq]; exact e
        · exact h' q (by omega) h2
theorem specPerm_run (l : List Int) (hl : l.length ≤ 1048576) : ∀ (d i : Nat), l.length - i = d → i ≤ l.length →
    ((∀ q : Nat, i ≤ q → q < l.length → okAt l q) → Ev (fun z => spec_PermValid.l0 z l i) (decide (1 ≤ (l.length : Int) ∧ (l.length : Int) ≤ 12))) ∧
    (¬ (∀ q : Nat, i ≤ q → q < l.length → okAt l q) → Ev (fun z => spec_PermValid.l0 z l i) false)
  | 0, i, hd, hi => by
    refine ⟨fun _ => Ev.s ?_, fun h => absurd (fun q h1 h2 => by omega) h⟩; simp only [spec_PermValid.l0, show ¬ (i : Int) < (l.length : Int) by omega, if_false, l6In_eq, Option.bind_some]; exact Ev.const rfl
  | d + 1, i, hd, hi => by
    have hlt : i < l.length := by omega
    have ih := specPerm_run l hl d (i + 1) (by omega) (by omega); have hin := specPerm_in l hl i hlt i 0 (by omega) (by omega); have hwl : wrap64 ((l.length : Int) - 1) = (l.length : Int) - 1 := w64 (by omega) (by omega)
    by_cases hr : 0 ≤ rd l i ∧ rd l i ≤ (l.length : Int) - 1
    · by_cases hn : ∀ q : Nat, 0 ≤ q → q < i → rd l q ≠ rd l i
      · refine ⟨fun h => Ev.s ?_, fun h => Ev.s ?_⟩
        · simp only [spec_PermValid.l0, show (i : Int) < (l.length : Int) by omega, show (0 : Int) ≤ i by omega, if_true, l6In_eq, Option.bind_some, hwl, hr, decide_true, and_self]
          exact hin.1 hn _ (ih.1 fun q h1 h2 => h q (by omega) h2)
        · simp only [spec_PermValid.l0, show (i : Int) < (l.length : Int) by omega, show (0 : Int) ≤ i by omega, if_true, l6In_eq, Option.bind_some, hwl, hr, decide_true, and_self]
          refine hin.1 hn _ (ih.2 fun h' => h fun q h1 h2 => ?_)
          by_cases e : q = i
          · rw [e]; exact ⟨hr.1, by omega, fun k hk => hn k (by omega) hk⟩
          · exact h' q (by omega) h2
      · refine ⟨fun h => absurd (fun q _ h2 => (h i (Nat.le_refl _) hlt).2.2 q h2) hn, fun h => Ev.s ?_⟩
        simp only [spec_PermValid.l0, show (i : Int) < (l.length : Int) by omega, show (0 : Int) ≤ i by omega, if_true, l6In_eq, Option.bind_some, hwl, hr, decide_true, and_self]; exact hin.2 hn
    · refine ⟨fun h => absurd ⟨(h i (Nat.le_refl _) hlt).1, by have := (h i (Nat.le_refl _) hlt).2.1; omega⟩ hr, fun h => Ev.s ?_⟩
      simp only [spec_PermValid.l0, show (i : Int) < (l.length : Int) by omega, show (0 : Int) ≤ i by omega, if_true, l6In_eq, Option.bind_some, hwl, hr, decide_false, Bool.false_eq_true, if_false]; exact Ev.const rfl
theorem implPerm_run (l : List Int) (hl : l.length ≤ 12) : ∀ (d i : Nat) (s : List Bool), l.length - i = d → i ≤ l.length → s.length = 12 → (∀ v : Nat, v < 12 → (s.getD v false = true ↔ ∃ k : Nat, k < i ∧ rd l k = v)) →
    ((∀ q : Nat, i ≤ q → q < l.length → okAt l q) → Ev (fun z => impl_PermValid.l0 z l s i) true) ∧
    (¬ (∀ q : Nat, i ≤ q → q < l.length → okAt l q) → Ev (fun z => impl_PermValid.l0 z l s i) false)
  | 0, i, s, hd, hi, hs, hv => by
    refine ⟨fun _ => Ev.s ?_, fun h => absurd (fun q h1 h2 => by omega) h⟩; simp only [impl_PermValid.l0, show ¬ (i : Int) < (l.length : Int) by omega, if_false]; exact Ev.const rfl
  | d + 1, i, s, hd, hi, hs, hv => by
    have hlt : i < l.length := by omega
    have hd1 : l.length - (i + 1) = d := by omega
    have hw : wrap64 ((i : Int) + 1) = ((i + 1 : Nat) : Int) := by rw [w64 (by omega) (by omega)]; omega
    by_cases h0 : rd l i < 0
    · refine ⟨fun h => absurd (h i (Nat.le_refl _) hlt).1 (by omega), fun h => Ev.s ?_⟩
      simp only [impl_PermValid.l0, show (i : Int) < (l.length : Int) by omega, show (0 : Int) ≤ i by omega, h0, if_true]; exact Ev.const rfl
    · by_cases h1 : rd l i ≥ (l.length : Int)
      · refine ⟨fun h => absurd (h i (Nat.le_refl _) hlt).2.1 (by omega), fun h => Ev.s ?_⟩
        simp only [impl_PermValid.l0, show (i : Int) < (l.length : Int) by omega, show (0 : Int) ≤ i by omega, h0, h1, if_true, if_false]; exact Ev.const rfl
      · have hvi := hv (rd l i).toNat (by omega)
        have hcast : (((rd l i).toNat : Nat) : Int) = rd l i := by omega
        rw [hcast] at hvi
        by_cases h2 : s.getD (rd l i).toNat false = true
        · obtain ⟨k, hk, hke⟩ := hvi.1 h2
          refine ⟨fun h => absurd hke ((h i (Nat.le_refl _) hlt).2.2 k hk), fun h => Ev.s ?_⟩; simp only [impl_PermValid.l0, show (i : Int) < (l.length : Int) by omega, show (0 : Int) ≤ i by omega, h0, h1, h2, if_true, if_false]; exact Ev.const rfl
        · have hnew : ∀ k : Nat, k < i → rd l k ≠ rd l i := fun k hk e => h2 (hvi.2 ⟨k, hk, e⟩)
          have ih := implPerm_run l hl d (i + 1) (s.set (rd l i).toNat true) hd1 hlt (by simpa using hs) (fun v hv12 => by
            by_cases ev : v = (rd l i).toNat
            · subst ev
              rw [List.getD_eq_getElem?_getD, List.getElem?_set_self (by omega)]; simp only [Option.getD_some, true_iff]; exact ⟨i, Nat.lt_succ_self i, hcast.symm⟩
            · rw [List.getD_eq_getElem?_getD, List.getElem?_set_ne (Ne.symm ev), ← List.getD_eq_getElem?_getD, hv v hv12]
              constructor
              · rintro ⟨k, hk, hke⟩; exact ⟨k, by omega, hke⟩
              · rintro ⟨k, hk, hke⟩
                by_cases e : k = i
                · subst e; omega
                · exact ⟨k, by omega, hke⟩)
          refine ⟨fun h => Ev.s ?_, fun h => Ev.s ?_⟩
          · simp only [impl_PermValid.l0, show (i : Int) < (l.length : Int) by omega, show (0 : Int) ≤ i by omega, h0, h1, h2, if_true, if_false, hw]
            exact ih.1 fun q g1 g2 => h q (by omega) g2
          · simp only [impl_PermValid.l0, show (i : Int) < (l.length : Int) by omega, show (0 : Int) ≤ i by omega, h0, h1, h2, if_true, if_false, hw]
            refine ih.2 fun h' => h fun q g1 g2 => ?_
            by_cases e : q = i
            · rw [e]; exact ⟨by omega, by omega, hnew⟩
            · exact h' q (by omega) g2
theorem permValid_both (l : List Int) (hl : l.length ≤ 1048576) : ∃ b : Bool, Ev (fun k => spec_PermValid.f k l) b ∧ Ev (fun k => impl_PermValid.f k l) b ∧ (b = true ↔ isPerm l) := by
  unfold spec_PermValid.f impl_PermValid.f
  have hs := specPerm_run l hl l.length 0 (by omega) (by omega)
  by_cases hall : ∀ q : Nat, 0 ≤ q → q < l.length → okAt l q
  · refine ⟨decide (1 ≤ (l.length : Int) ∧ (l.length : Int) ≤ 12), hs.1 hall, ?_, ?_⟩
    · by_cases h1 : (l.length : Int) < 1
      · simp only [h1, if_true]
        exact Ev.const (by congr 1; symm; rw [decide_eq_false_iff_not]; omega)
      · by_cases h2 : (l.length : Int) > 12
        · simp only [h1, h2, if_true, if_false]
          exact Ev.const (by congr 1; symm; rw [decide_eq_false_iff_not]; omega)
        · simp only [h1, h2, if_false]
          rw [decide_eq_true (by omega)]; refine (implPerm_run l (by omega) l.length 0 _ (by omega) (by omega) (by simp) fun v hv => ?_).1 hall
          constructor
          · intro h
            rw [List.getD_eq_getElem?_getD, List.getElem?_replicate, if_pos hv] at h
            cases h
          · rintro ⟨k, hk, _⟩; omega
    · rw [decide_eq_true_eq]
      exact ⟨fun h => ⟨by omega, by omega, fun i hi => hall i (by omega) hi⟩, fun h => ⟨by have := h.1; omega, by have := h.2.1; omega⟩⟩
  · refine ⟨false, hs.2 hall, ?_, ?_⟩
    · by_cases h1 : (l.length : Int) < 1
      · simp only [h1, if_true]; exact Ev.const rfl
      · by_cases h2 : (l.length : Int) > 12
        · simp only [h1, h2, if_true, if_false]; exact Ev.const rfl
        · simp only [h1, h2, if_false]
          refine (implPerm_run l (by omega) l.length 0 _ (by omega) (by omega) (by simp) fun v hv => ?_).2 hall
          constructor
          · intro h
            rw [List.getD_eq_getElem?_getD, List.getElem?_replicate, if_pos hv] at h
            cases h
          · rintro ⟨k, hk, _⟩; omega
    · exact ⟨fun h => (by cases h), fun h => absurd (fun q _ hq => h.2.2 q hq) hall⟩
def stl (n : Nat) : List Int := (List.range n).map fun (i : Nat) => (i : Int)
theorem stl_length (n : Nat) : (stl n).length = n := by simp [stl]
theorem stl_rd (n i : Nat) (h : i < n) : rd (stl n) i = i := by
  rw [rd_lt _ _ (by rw [stl_length]; exact h)]
  simp [stl]
theorem stl_succ (n : Nat) : stl (n + 1) = stl n ++ [(n : Int)] := by simp [stl, List.range_succ]
theorem rd_set_self (l : List Int) (i : Nat) (v : Int) (h : i < l.length) : rd (l.set i v) i = v := by
  rw [rd_lt _ _ (by simpa using h)]; simp
theorem rd_set_ne (l : List Int) (i j : Nat) (v : Int) (h : i ≠ j) : rd (l.set i v) j = rd l j := by
  unfold rd
  rw [Int.toNat_natCast, List.getD_eq_getElem?_getD, List.getD_eq_getElem?_getD, List.getElem?_set_ne h]
theorem rd_app_lt (l m : List Int) (i : Nat) (h : i < l.length) : rd (l ++ m) i = rd l i := by
  unfold rd
  rw [Int.toNat_natCast, List.getD_eq_getElem?_getD, List.getD_eq_getElem?_getD, List.getElem?_append_left h]
theorem list_ext (a b : List Int) (h : a.length = b.length) (hr : ∀ i : Nat, i < a.length → rd a i = rd b i) : a = b := by
  refine List.ext_getElem h fun i h1 h2 => ?_
  have := hr i h1
  rwa [rd_lt a i h1, rd_lt b i h2] at this
theorem same_run (n : Nat) (hn : n ≤ 1048576) : ∀ (d i : Nat), n - i = d → i ≤ n → Ev (fun k => spec_l1Same.l0 k n (stl i) i) (stl n)
  | 0, i, hd, hi => by
    refine Ev.s ?_; simp only [spec_l1Same.l0, show ¬ (i : Int) < (n : Int) by omega, if_false]
    have : i = n := by omega
    subst this; exact Ev.const rfl
  | d + 1, i, hd, hi => by
    refine Ev.s ?_; simp only [spec_l1Same.l0, show (i : Int) < (n : Int) by omega, if_true, stl_length, show i < 17592186044416 by omega]; rw [w64 (x := (i : Int) + 1) (by omega) (by omega), show ((i : Int) + 1) = ((i + 1 : Nat) : Int) by omega, ← stl_succ]; exact same_run n hn d (i + 1) (by omega) (by omega)
theorem same_ev (n : Nat) (hn : n ≤ 1048576) : Ev (fun k => spec_l1Same.f k n) (stl n) := by
  unfold spec_l1Same.f
  exact same_run n hn n 0 (by omega) (by omega)
theorem still_run (n : Nat) (hn : n ≤ 1048576) : ∀ (d i : Nat) (l : List Int), n - i = d → i ≤ n → l.length = n → l.take i = (stl n).take i → Ev (fun k => impl_still.l0 k l n i) (stl n)
  | 0, i, l, hd, hi, hl, ht => by
    refine Ev.s ?_; simp only [impl_still.l0, show ¬ (i : Int) < (n : Int) by omega, if_false]
    have : i = n := by omega
    subst this
    have e : (stl i).take i = stl i := by rw [List.take_of_length_le]; rw [stl_length]; exact Nat.le_refl _
    rw [e, List.take_of_length_le (by omega)] at ht; exact Ev.const (by rw [ht])
  | d + 1, i, l, hd, hi, hl, ht => by
    have hlt : i < l.length := by omega
    refine Ev.s ?_; simp only [impl_still.l0, show (i : Int) < (n : Int) by omega, show (0 : Int) ≤ i by omega, show (i : Int) < (l.length : Int) by omega, if_true]; rw [w64 (x := (i : Int) + 1) (by omega) (by omega), show ((i : Int) + 1) = ((i + 1 : Nat) : Int) by omega, Int.toNat_natCast]; refine still_run n hn d (i + 1) _ (by omega) (by omega) (by simpa using hl) ?_
    have h2 : i < (stl n).length := by rw [stl_length]; omega
    rw [List.take_succ_eq_append_getElem (by simpa using hlt), List.take_succ_eq_append_getElem h2, List.take_set_of_le (Nat.le_refl _), ht]
    simp [stl]
theorem still_ev (n : Nat) (hn : n ≤ 1048576) : Ev (fun k => impl_still.f k n) (stl n) := by
  unfold impl_still.f
  have h1 : n ≤ 35184372088832 := by omega
  have h2 : (0 : Int) ≤ (n : Int) := by omega
  simp only [Int.toNat_natCast, h1, h2, if_true, Option.bind_some, List.length_replicate]; exact still_run n hn n 0 _ (by omega) (by omega) (by simp) (by simp)
def inR (n : Nat) (p : List Int) : Prop := p.length = n ∧ ∀ i : Nat, i < n → 0 ≤ rd p i ∧ rd p i < n
def closedL (ps : List (List Int)) (n : Nat) (S : Nat → Prop) : Prop := ∀ p ∈ ps, ∀ k, k < n → (S k ↔ S (rd p k).toNat)
def Reach (ps : List (List Int)) (n : Nat) (i j : Nat) : Prop := ∀ S, closedL ps n S → (S i ↔ S j)
theorem Reach.refl (ps : List (List Int)) (n i : Nat) : Reach ps n i i := fun S _ => Iff.rfl
theorem Reach.symm {ps : List (List Int)} {n i j : Nat} (h : Reach ps n i j) : Reach ps n j i := fun S c => (h S c).symm
theorem Reach.trans {ps : List (List Int)} {n i j k : Nat} (h : Reach ps n i j) (h' : Reach ps n j k) : Reach ps n i k := fun S c => (h S c).trans (h' S c)
theorem Reach.step {ps : List (List Int)} {n : Nat} {p : List Int} (hp : p ∈ ps) {k : Nat} (hk : k < n) : Reach ps n k (rd p k).toNat := fun S c => c p hp k hk
def orbI (ps : List (List Int)) (n : Nat) (o : List Int) : Prop := o.length = n ∧ ∀ i : Nat, i < n → 0 ≤ rd o i ∧ rd o i ≤ i ∧ Reach ps n (rd o i).toNat i
def orbOk (ps : List (List Int)) (n : Nat) (o : List Int) : Prop := orbI ps n o ∧ ∀ p ∈ ps, ∀ i : Nat, i < n → rd o (rd p i) = rd o i
theorem stl_orbI (ps : List (List Int)) (n : Nat) : orbI ps n (stl n) := by
  refine ⟨stl_length n, fun i hi => ?_⟩; rw [stl_rd n i hi]; exact ⟨by omega, by omega, by rw [Int.toNat_natCast]; exact Reach.refl _ _ _⟩
theorem orbOk_const {ps : List (List Int)} {n : Nat} {o : List Int} (h : orbOk ps n o) (hp : ∀ p ∈ ps, inR n p) {i j : Nat} (hr : Reach ps n i j) : rd o i = rd o j := by
  have := hr (fun k => rd o k = rd o i) (fun p hp' k hk => by
    have h1 := h.2 p hp' k hk; have h2 := (hp p hp').2 k hk
    have e : (((rd p k).toNat : Nat) : Int) = rd p k := by omega
    show (rd o k = rd o i) ↔ (rd o (((rd p k).toNat : Nat) : Int) = rd o i)
    rw [e, h1])
  exact (this.1 rfl).symm
theorem orbOk_le {ps : List (List Int)} {n : Nat} {o o' : List Int} (h : orbOk ps n o) (h' : orbI ps n o') (hp : ∀ p ∈ ps, inR n p) {i : Nat} (hi : i < n) : rd o i ≤ rd o' i := by
  obtain ⟨g0, g1, g2⟩ := h'.2 i hi; have e := orbOk_const h hp g2
  have hlt : (rd o' i).toNat < n := by omega
  have := (h.1.2 _ hlt).2.1
  have e2 : (((rd o' i).toNat : Nat) : Int) = rd o' i := by omega
  omega
theorem mn_le (a b : Int) : mn a b ≤ a ∧ mn a b ≤ b ∧ (mn a b = a ∨ mn a b = b) := by unfold mn; split <;> omega
theorem orbI_put {ps : List (List Int)} {n : Nat} {o : List Int} (h : orbI ps n o) {i : Nat} (hi : i < n) {v : Int} (h0 : 0 ≤ v) (h1 : v ≤ i) (hr : Reach ps n v.toNat i) : orbI ps n (o.set i v) := by
  refine ⟨by simpa using h.1, fun j hj => ?_⟩
  by_cases e : i = j
  · subst e
    rw [rd_set_self _ _ _ (by rw [h.1]; exact hi)]; exact ⟨h0, h1, hr⟩
  · rw [rd_set_ne _ _ _ _ e]
    exact h.2 j hj
def tot : List Int → Int
  | [] => 0
  | x :: xs => x + tot xs
theorem tot_set : ∀ (l : List Int) (i : Nat) (v : Int), i < l.length → tot (l.set i v) + rd l i = tot l + v
  | [], i, v, h => by simp at h
  | x :: xs, 0, v, h => by simp [tot, rd]; omega
  | x :: xs, i + 1, v, h => by
    have ih := tot_set xs i v (by simpa using h)
    have e : rd (x :: xs) ((i + 1 : Nat) : Int) = rd xs i := by unfold rd; rw [Int.toNat_natCast, Int.toNat_natCast]; rfl
    rw [e]; simp only [List.set_cons_succ, tot]; omega
theorem tot_nonneg : ∀ (l : List Int), (∀ i : Nat, i < l.length → 0 ≤ rd l i) → 0 ≤ tot l
  | [], _ => by simp [tot]
  | x :: xs, h => by
    have h0 := h 0 (by simp); have e0 : rd (x :: xs) ((0 : Nat) : Int) = x := rfl; rw [e0] at h0
    have := tot_nonneg xs fun i hi => by
      have := h (i + 1) (by simpa using hi)
      have e : rd (x :: xs) ((i + 1 : Nat) : Int) = rd xs i := by unfold rd; rw [Int.toNat_natCast, Int.toNat_natCast]; rfl
      rwa [e] at this
    simp only [tot]; omega
theorem rdL_nth (ps : List (List Int)) (q : Nat) (h : q < ps.length) : rd_L1 ps (q : Int) = ps[q] := by
  have e : (q : Int).toNat = q := Int.toNat_natCast q
  unfold rd_L1
  rw [e, List.getD_eq_getElem?_getD, List.getElem?_eq_getElem h]; rfl
theorem implOrb_in (ps : List (List Int)) (n : Nat) (hn : n ≤ 12) (q : Nat) (hq : q < ps.length) (hL : ps.length ≤ 1048576) (P : List Int) (hP : P ∈ ps) (pl : P.length = n) (pr : ∀ i : Nat, i < n → 0 ≤ rd P i ∧ rd P i < n) : ∀ (d i : Nat) (o : List Int) (g : Bool), n - i = d → i ≤ n → orbI ps n o →
    ∃ (o' : List Int) (g' : Bool), orbI ps n o' ∧ (∀ r, Ev (fun k => impl_orbits.l1 k ps o' g' ps ps.length ((q + 1 : Nat) : Int)) r → Ev (fun k => impl_orbits.l2 k ps o g ps ps.length q P n i) r) ∧ tot o' ≤ tot o ∧
      (g' = true → g = true ∨ tot o' < tot o) ∧ (g' = false → g = false ∧ o' = o ∧ ∀ j : Nat, i ≤ j → j < n → rd o (rd P j) = rd o j)
  | 0, i, o, g, hd, hi, ho => by
    refine ⟨o, g, ho, fun r h => Ev.s ?_, by omega, fun h => .inl h, fun h => ⟨h, rfl, fun j h1 h2 => by omega⟩⟩; simp only [impl_orbits.l2, show ¬ (i : Int) < (n : Int) by omega, if_false]; rw [w64 (x := (q : Int) + 1) (by omega) (by omega), show ((q : Int) + 1) = ((q + 1 : Nat) : Int) by omega]; exact h
  | d + 1, i, o, g, hd, hi, ho => by
    have hlt : i < n := by omega
    have hd1 : n - (i + 1) = d := by omega
    have hw : wrap64 ((i : Int) + 1) = ((i + 1 : Nat) : Int) := by rw [w64 (by omega) (by omega)]; omega
    have hr := pr i hlt; have hst := Reach.step hP hlt; have hlen := ho.1; obtain ⟨t, ht⟩ : ∃ t : Nat, rd P i = t := ⟨(rd P i).toNat, by omega⟩; rw [ht, Int.toNat_natCast] at hst
    have htn : t < n := by omega
    obtain ⟨i0, i1, i2⟩ := ho.2 i hlt; obtain ⟨t0, t1, t2⟩ := ho.2 t htn; obtain ⟨hm1, hm2, hm3⟩ := mn_le (rd o i) (rd o t)
    have g1 : (i : Int) < (n : Int) := by omega
    have g2 : (0 : Int) ≤ (i : Int) := by omega
    have g3 : (0 : Int) ≤ (t : Int) := by omega
    have g4 : (t : Int) < (n : Int) := by omega
    obtain ⟨v, hv⟩ : ∃ v, mn (rd o i) (rd o t) = v := ⟨_, rfl⟩; rw [hv] at hm1 hm2 hm3
    by_cases hc : rd o i = v ∧ rd o t = v
    · obtain ⟨c1, c2⟩ := hc
      obtain ⟨o', g', a1, a2, a3, a4, a5⟩ := implOrb_in ps n hn q hq hL P hP pl pr d (i + 1) o g hd1 hlt ho; refine ⟨o', g', a1, fun r h => Ev.s ?_, a3, a4, fun h => ?_⟩
      · simp only [impl_orbits.l2, g1, g2, g3, g4, pl, hlen, ht, hv, if_true, hw]
        simp only [c1, c2, if_true]; exact a2 r h
      · obtain ⟨b1, b2, b3⟩ := a5 h
        refine ⟨b1, b2, fun j h1 h2 => ?_⟩
        by_cases e : j = i
        · rw [e, ht]; omega
        · exact b3 j (by omega) h2
    · have hv0 : 0 ≤ v := by omega
      have hrv : Reach ps n v.toNat i := by
        rcases hm3 with e | e
        · rw [e]; exact i2
        · rw [e]; exact t2.trans hst.symm
      have ho1 := orbI_put ho hlt hv0 (by omega) hrv; have ho2 := orbI_put ho1 htn hv0 (by omega) (hrv.trans hst)
      have hd2 : tot ((o.set i v).set t v) < tot o := by
        have z1 := tot_set o i v (by omega); have z2 := tot_set (o.set i v) t v (by rw [List.length_set]; omega)
        by_cases e : i = t
        · subst e
          rw [rd_set_self _ _ _ (by omega)] at z2; omega
        · rw [rd_set_ne _ _ _ _ e] at z2
          omega
      obtain ⟨o', g', a1, a2, a3, a4, a5⟩ := implOrb_in ps n hn q hq hL P hP pl pr d (i + 1) ((o.set i v).set t v) true hd1 hlt ho2; refine ⟨o', g', a1, fun r h => Ev.s ?_, by omega, fun h => .inr (by omega), fun h => ?_⟩
      · have hgo := a2 r h
        by_cases c1 : rd o i = v
        · have c2 : ¬ rd o t = v := fun e => hc ⟨c1, e⟩
          simp only [impl_orbits.l2, g1, g2, g3, g4, pl, hlen, ht, hv, if_true, hw, Int.toNat_natCast]; simp only [c1, c2, if_true, if_false]; exact hgo
        · simp only [impl_orbits.l2, g1, g2, g3, g4, pl, hlen, ht, hv, if_true, hw, Int.toNat_natCast]
          simp only [c1, if_false]; exact hgo
      · have := (a5 h).1
        cases this
theorem implOrb_pass (ps : List (List Int)) (n : Nat) (hn : n ≤ 12) (hL : ps.length ≤ 1048576) (hp : ∀ p ∈ ps, inR n p) : ∀ (d q : Nat) (o : List Int) (g : Bool), ps.length - q = d → q ≤ ps.length → orbI ps n o →
    ∃ (o' : List Int) (g' : Bool), orbI ps n o' ∧ (∀ r, Ev (fun k => impl_orbits.l0 k ps o' g') r → Ev (fun k => impl_orbits.l1 k ps o g ps ps.length q) r) ∧ tot o' ≤ tot o ∧
      (g' = true → g = true ∨ tot o' < tot o) ∧ (g' = false → g = false ∧ o' = o ∧ ∀ z : Nat, q ≤ z → z < ps.length → ∀ j : Nat, j < n → rd o (rd (rd_L1 ps z) j) = rd o j)
  | 0, q, o, g, hd, hi, ho => by
    refine ⟨o, g, ho, fun r h => Ev.s ?_, by omega, fun h => .inl h, fun h => ⟨h, rfl, fun j h1 h2 => by omega⟩⟩; simp only [impl_orbits.l1, show ¬ (q : Int) < (ps.length : Int) by omega, if_false]; exact h
  | d + 1, q, o, g, hd, hi, ho => by
    have hlt : q < ps.length := by omega
    have hd1 : ps.length - (q + 1) = d := by omega
    have hP : rd_L1 ps q ∈ ps := by rw [rdL_nth ps q hlt]; exact List.getElem_mem hlt
    obtain ⟨pl, pr⟩ := hp _ hP; obtain ⟨o1, b1, c1, c2, c3, c4, c5⟩ := implOrb_in ps n hn q hlt hL _ hP pl pr n 0 o g (by omega) (by omega) ho; obtain ⟨o2, b2, e1, e2, e3, e4, e5⟩ := implOrb_pass ps n hn hL hp d (q + 1) o1 b1 hd1 hlt c1; refine ⟨o2, b2, e1, fun r h => Ev.s ?_, by omega, fun h => ?_, fun h => ?_⟩
    · simp only [impl_orbits.l1, show (q : Int) < (ps.length : Int) by omega, show (0 : Int) ≤ (q : Int) by omega, if_true, pl]
      exact c2 r (e2 r h)
    · rcases e4 h with z | z
      · rcases c4 z with y | y
        · exact .inl y
        · exact .inr (by omega)
      · exact .inr (by omega)
    · obtain ⟨f1, f2, f3⟩ := e5 h
      obtain ⟨g1, g2, g3⟩ := c5 f1; refine ⟨g1, f2.trans g2, fun z hz hz' j hj => ?_⟩
      by_cases e : z = q
      · rw [e]; exact g3 j (by omega) hj
      · have := f3 z (by omega) hz' j hj
        rwa [g2] at this
theorem implOrb_loop (ps : List (List Int)) (n : Nat) (hn : n ≤ 12) (hL : ps.length ≤ 1048576) (hp : ∀ p ∈ ps, inR n p) : ∀ (m : Nat) (o : List Int), tot o ≤ m → orbI ps n o → ∃ o', orbOk ps n o' ∧ Ev (fun k => impl_orbits.l0 k ps o true) o' := by
  intro m
  induction m using Nat.strongRecOn with
  | _ m ih =>
    intro o hm ho; obtain ⟨o1, g1, c1, c2, c3, c4, c5⟩ := implOrb_pass ps n hn hL hp ps.length 0 o false (by omega) (by omega) ho
    cases g1 with
    | false =>
      obtain ⟨_, e2, e3⟩ := c5 rfl; refine ⟨o, ⟨ho, fun p hp' i hi => ?_⟩, Ev.s ?_⟩
      · obtain ⟨z, hz, rfl⟩ := List.mem_iff_getElem.1 hp'
        have := e3 z (by omega) hz i hi
        rwa [rdL_nth ps z hz] at this
      · simp only [impl_orbits.l0, if_true]
        refine c2 o (Ev.s ?_); simp only [impl_orbits.l0, Bool.false_eq_true, if_false]; exact Ev.const (by rw [e2])
    | true =>
      have hlt : tot o1 < tot o := by
        rcases c4 rfl with z | z
        · cases z
        · exact z
      have h0 := tot_nonneg o1 fun i hi => (c1.2 i (by rw [← c1.1]; exact hi)).1
      obtain ⟨o', h1, h2⟩ := ih (tot o1).toNat (by omega) o1 (by omega) c1; refine ⟨o', h1, Ev.s ?_⟩; simp only [impl_orbits.l0, if_true]; exact c2 o' h2
theorem implOrb_ev (ps : List (List Int)) (n : Nat) (hn : n ≤ 12) (h0 : 0 < ps.length) (hL : ps.length ≤ 1048576) (hp : ∀ p ∈ ps, inR n p) : ∃ o, orbOk ps n o ∧ Ev (fun k => impl_orbits.f k ps) o := by
  obtain ⟨o, h1, h2⟩ := implOrb_loop ps n hn hL hp (tot (stl n)).toNat (stl n) (by have := tot_nonneg (stl n) (fun i hi => by rw [stl_rd n i (by rwa [stl_length] at hi)]; omega); omega) (stl_orbI ps n); refine ⟨o, h1, ?_⟩
  unfold impl_orbits.f
  have hz : (rd_L1 ps 0).length = n := by
    have := rdL_nth ps 0 h0; rw [show ((0 : Nat) : Int) = 0 from rfl] at this; rw [this]; exact (hp _ (List.getElem_mem h0)).1
  simp only [show (0 : Int) < (ps.length : Int) by omega, if_true, hz]; exact Ev.bind (still_ev n (by omega)) h2
def lag (o g : List Int) : Nat → Nat
  | 0 => 0
  | i + 1 => (if rd o i = rd g i then 0 else 1) + lag o g i
theorem lag_le (o g : List Int) : ∀ i, lag o g i ≤ i
  | 0 => Nat.le_refl _
  | i + 1 => by have := lag_le o g i; simp only [lag]; split <;> omega
theorem lag_zero (o g : List Int) : ∀ n, lag o g n = 0 → ∀ i, i < n → rd o i = rd g i
  | 0, _, i, h => by omega
  | n + 1, hz, i, h => by
    simp only [lag] at hz
    by_cases e : i = n
    · subst e
      by_cases c : rd o i = rd g i
      · exact c
      · rw [if_neg c] at hz; omega
    · exact lag_zero o g n (by omega) i (by omega)
theorem lag_mono (o o' g : List Int) (h : ∀ i : Nat, rd o i = rd g i → rd o' i = rd g i) : ∀ n, lag o' g n ≤ lag o g n
  | 0 => Nat.le_refl _
  | n + 1 => by
    have ih := lag_mono o o' g h n; simp only [lag]
    by_cases c : rd o n = rd g n
    · rw [if_pos c, if_pos (h n c)]; omega
    · rw [if_neg c]; split <;> omega
theorem lag_lt (o o' g : List Int) (h : ∀ i : Nat, rd o i = rd g i → rd o' i = rd g i) (z : Nat) (hz : rd o z ≠ rd g z) (hz' : rd o' z = rd g z) : ∀ n, z < n → lag o' g n < lag o g n
  | 0, hn => by omega
  | n + 1, hn => by
    simp only [lag]
    by_cases e : z = n
    · subst e
      have := lag_mono o o' g h z; rw [if_neg hz, if_pos hz']; omega
    · have ih := lag_lt o o' g h z hz hz' n (by omega)
      by_cases c : rd o n = rd g n
      · rw [if_pos c, if_pos (h n c)]; omega
      · rw [if_neg c]; split <;> omega
theorem mn_eq (a b : Int) : mn a b = if a ≤ b then a else b := by unfold mn; split <;> split <;> omega
theorem specOrb_sweep (t f : List Int) (n : Nat) (hn : n ≤ 12) (ht : inR n t) (hf : inR n f) (g : List Int) (hg : orbOk [t, f] n g) (round : Int) : ∀ (d i : Nat) (o : List Int), n - i = d → i ≤ n → orbI [t, f] n o →
    ∃ o', orbI [t, f] n o' ∧ (∀ r, Ev (fun k => spec_l1Orbits.l0 k t f o' (wrap64 (round + 1))) r → Ev (fun k => spec_l1Orbits.l1 k t f o round i) r) ∧ (∀ z : Nat, z < n → rd o z = rd g z → rd o' z = rd g z) ∧
      (∀ j : Nat, i ≤ j → j < n → (rd o j = rd g j ∨ rd o (rd t j) = rd g (rd t j) ∨ rd o (rd f j) = rd g (rd f j)) → rd o' j = rd g j ∧ rd o' (rd t j) = rd g (rd t j) ∧ rd o' (rd f j) = rd g (rd f j))
  | 0, i, o, hd, hi, ho => by
    refine ⟨o, ho, fun r h => Ev.s ?_, fun z _ h => h, fun j h1 h2 => by omega⟩; simp only [spec_l1Orbits.l1, ht.1, show ¬ (i : Int) < (n : Int) by omega, if_false]; exact h
  | d + 1, i, o, hd, hi, ho => by
    have hlt : i < n := by omega
    have hd1 : n - (i + 1) = d := by omega
    have hw : wrap64 ((i : Int) + 1) = ((i + 1 : Nat) : Int) := by rw [w64 (by omega) (by omega)]; omega
    have hps : ∀ p ∈ [t, f], inR n p := by intro p hp; simp at hp; rcases hp with rfl | rfl <;> assumption
    have hra := ht.2 i hlt; have hrb := hf.2 i hlt; have sta := Reach.step (ps := [t, f]) (p := t) (by simp) hlt; have stb := Reach.step (ps := [t, f]) (p := f) (by simp) hlt; have ca := hg.2 t (by simp) i hlt; have cb := hg.2 f (by simp) i hlt; obtain ⟨a, hta⟩ : ∃ a : Nat, rd t i = a := ⟨(rd t i).toNat, by omega⟩; obtain ⟨b, hfb⟩ : ∃ b : Nat, rd f i = b := ⟨(rd f i).toNat, by omega⟩; rw [hta, Int.toNat_natCast] at sta; rw [hfb, Int.toNat_natCast] at stb; rw [hta] at ca; rw [hfb] at cb
    have han : a < n := by omega
    have hbn : b < n := by omega
    have hlen := ho.1; obtain ⟨i0, i1, i2⟩ := ho.2 i hlt; obtain ⟨a0, a1, a2⟩ := ho.2 a han; obtain ⟨b0, b1, b2⟩ := ho.2 b hbn; have li := orbOk_le hg ho hps hlt; have la := orbOk_le hg ho hps han; have lb := orbOk_le hg ho hps hbn; obtain ⟨v, hv⟩ : ∃ v, mn (rd o i) (mn (rd o a) (rd o b)) = v := ⟨_, rfl⟩
    have hvm : v ≤ rd o i ∧ v ≤ rd o a ∧ v ≤ rd o b ∧ (v = rd o i ∨ v = rd o a ∨ v = rd o b) := by
      rw [← hv, mn_eq, mn_eq]
      split <;> split at * <;> omega
    have hv0 : 0 ≤ v := by omega
    have hrv : Reach [t, f] n v.toNat i := by
      rcases hvm.2.2.2 with e | e | e
      · rw [e]; exact i2
      · rw [e]; exact a2.trans sta.symm
      · rw [e]; exact b2.trans stb.symm
    have ho1 := orbI_put ho hlt hv0 (by omega) hrv; have ho2 := orbI_put ho1 han hv0 (by omega) (hrv.trans sta); have ho3 := orbI_put ho2 hbn hv0 (by omega) (hrv.trans stb); obtain ⟨o3, ho3e⟩ : ∃ o3, ((o.set i v).set a v).set b v = o3 := ⟨_, rfl⟩; rw [ho3e] at ho3
    have rdo3 : ∀ z : Nat, rd o3 z = if z = i ∨ z = a ∨ z = b then v else rd o z := by
      intro z; rw [← ho3e]
      by_cases z3 : b = z
      · subst z3; rw [rd_set_self _ _ _ (by simp; omega)]; simp
      · rw [rd_set_ne _ _ _ _ z3]
        by_cases z2 : a = z
        · subst z2; rw [rd_set_self _ _ _ (by simp; omega)]; simp
        · rw [rd_set_ne _ _ _ _ z2]
          by_cases z1 : i = z
          · subst z1; rw [rd_set_self _ _ _ (by omega)]; simp
          · rw [rd_set_ne _ _ _ _ z1, if_neg (by omega)]
    have keep3 : ∀ z : Nat, z < n → rd o z = rd g z → rd o3 z = rd g z := by
      intro z hz e; have l3 := orbOk_le hg ho3 hps hz; rw [rdo3 z] at l3 ⊢
      by_cases c : z = i ∨ z = a ∨ z = b
      · rw [if_pos c] at l3 ⊢
        have : v ≤ rd o z := by rcases c with rfl | rfl | rfl <;> omega
        omega
      · rw [if_neg c]; exact e
    obtain ⟨o', c1, c2, c3, c4⟩ := specOrb_sweep t f n hn ht hf g hg round d (i + 1) o3 hd1 hlt ho3; refine ⟨o', c1, fun r h => Ev.s ?_, fun z hz e => c3 z hz (keep3 z hz e), fun j h1 h2 hj => ?_⟩
    · have hgo := c2 r h
      have g1 : (i : Int) < (n : Int) := by omega
      have g2 : (0 : Int) ≤ (i : Int) := by omega
      have g3 : (0 : Int) ≤ (a : Int) := by omega
      have g4 : (a : Int) < (n : Int) := by omega
      have g5 : (0 : Int) ≤ (b : Int) := by omega
      have g6 : (b : Int) < (n : Int) := by omega
      simp only [spec_l1Orbits.l1, ht.1, hf.1, hlen, g1, g2, g3, g4, g5, g6, hta, hfb, hv, if_true, hw, Int.toNat_natCast, ho3e]; exact hgo
    · by_cases e : j = i
      · subst e
        have l3 := orbOk_le hg ho3 hps hlt
        have e3 : rd o3 j = v := by rw [rdo3 j, if_pos (.inl rfl)]
        have ea3 : rd o3 a = v := by rw [rdo3 a, if_pos (.inr (.inl rfl))]
        have eb3 : rd o3 b = v := by rw [rdo3 b, if_pos (.inr (.inr rfl))]
        rw [hta, hfb] at hj ⊢
        have hvg : v = rd g j := by
          rcases hj with z | z | z <;> omega
        exact ⟨c3 j hlt (by omega), c3 a han (by omega), c3 b hbn (by omega)⟩
      · refine c4 j (by omega) h2 ?_
        have hta' := ht.2 j h2; have hfb' := hf.2 j h2; obtain ⟨a', ha'⟩ : ∃ a' : Nat, rd t j = a' := ⟨(rd t j).toNat, by omega⟩; obtain ⟨b', hb'⟩ : ∃ b' : Nat, rd f j = b' := ⟨(rd f j).toNat, by omega⟩; rw [ha', hb'] at hj ⊢
        rcases hj with z | z | z
        · exact .inl (keep3 j h2 z)
        · exact .inr (.inl (keep3 a' (by omega) z))
        · exact .inr (.inr (keep3 b' (by omega) z))
theorem specOrb_loop (t f : List Int) (n : Nat) (hn : n ≤ 12) (ht : inR n t) (hf : inR n f) (g : List Int) (hg : orbOk [t, f] n g) : ∀ (d i : Nat) (o : List Int), n - i = d → i ≤ n → orbI [t, f] n o → lag o g n ≤ d → Ev (fun k => spec_l1Orbits.l0 k t f o i) g
  | 0, i, o, hd, hi, ho, hl => by
    refine Ev.s ?_; simp only [spec_l1Orbits.l0, ht.1, show ¬ (i : Int) < (n : Int) by omega, if_false]
    have : o = g := list_ext o g (ho.1.trans hg.1.1.symm) fun z hz => lag_zero o g n (by omega) z (by rw [← ho.1]; exact hz)
    exact Ev.const (by rw [this])
  | d + 1, i, o, hd, hi, ho, hl => by
    have hlt : i < n := by omega
    have hd1 : n - (i + 1) = d := by omega
    have hw : wrap64 ((i : Int) + 1) = ((i + 1 : Nat) : Int) := by rw [w64 (by omega) (by omega)]; omega
    have hps : ∀ p ∈ [t, f], inR n p := by intro p hp; simp at hp; rcases hp with rfl | rfl <;> assumption
    obtain ⟨o', c1, c2, c3, c4⟩ := specOrb_sweep t f n hn ht hf g hg i n 0 o (by omega) (by omega) ho; refine Ev.s ?_; simp only [spec_l1Orbits.l0, ht.1, show (i : Int) < (n : Int) by omega, if_true]; refine c2 g ?_; rw [hw]; refine specOrb_loop t f n hn ht hf g hg d (i + 1) o' hd1 hlt c1 ?_
    have hout : ∀ z : Nat, ¬ z < n → rd o z = rd o' z := by
      intro z hz
      unfold rd
      rw [Int.toNat_natCast, List.getD_eq_getElem?_getD, List.getD_eq_getElem?_getD, List.getElem?_eq_none (by rw [ho.1]; omega), List.getElem?_eq_none (by rw [c1.1]; omega)]
    have keep : ∀ z : Nat, rd o z = rd g z → rd o' z = rd g z := fun z e => by
      by_cases hz : z < n
      · exact c3 z hz e
      · rw [← hout z hz]; exact e
    by_cases hz : lag o g n = 0
    · have := lag_mono o o' g keep n
      omega
    · -- some point has not its label: some step leads from one that has it to one that has it not
      have hex : ∃ z : Nat, z < n ∧ rd o z ≠ rd g z ∧ rd o' z = rd g z := by
        refine Classical.byContradiction fun hno => ?_
        have hsame : ∀ z : Nat, z < n → (rd o z = rd g z ↔ rd o' z = rd g z) := fun z hz => ⟨keep z, fun e => Classical.byContradiction fun hne => hno ⟨z, hz, hne, e⟩⟩
        have hcl : closedL [t, f] n (fun z => rd o z = rd g z) := by
          intro p hp k hk; have hr := (hps p hp).2 k hk; obtain ⟨a, ha⟩ : ∃ a : Nat, rd p k = a := ⟨(rd p k).toNat, by omega⟩
          have han : a < n := by omega
          rw [ha, Int.toNat_natCast]
          show rd o k = rd g k ↔ rd o a = rd g a
          have h4 := c4 k (by omega) hk
          simp at hp
          rcases hp with rfl | rfl
          · rw [ha] at h4
            exact ⟨fun e => (hsame a han).2 (h4 (.inl e)).2.1, fun e => (hsame k hk).2 (h4 (.inr (.inl e))).1⟩
          · rw [ha] at h4
            exact ⟨fun e => (hsame a han).2 (h4 (.inl e)).2.2, fun e => (hsame k hk).2 (h4 (.inr (.inr e))).1⟩
        have hall : ∀ z : Nat, z < n → rd o z = rd g z := by
          intro z hz; obtain ⟨g0, g1, g2⟩ := hg.1.2 z hz
          have hm : (rd g z).toNat < n := by omega
          have e1 : ((rd g z).toNat : Int) = rd g z := by omega
          have hgm : rd g ((rd g z).toNat : Nat) = rd g z := orbOk_const hg hps g2
          have hom : rd o ((rd g z).toNat : Nat) = rd g ((rd g z).toNat : Nat) := by
            have h1 := orbOk_le hg ho hps hm; have h2 := (ho.2 _ hm).2.1; omega
          exact (g2 _ hcl).1 hom
        have : lag o g n = 0 := by
          have hz0 : ∀ m, m ≤ n → lag o g m = 0 := by
            intro m
            induction m with
            | zero => intro _; rfl
            | succ m ih => intro hm; simp only [lag]; rw [if_pos (hall m (by omega)), ih (by omega)]
          exact hz0 n (Nat.le_refl _)
        exact hz this
      obtain ⟨z, z1, z2, z3⟩ := hex; have := lag_lt o o' g keep z z2 z3 n z1; omega
theorem orb_both (t f : List Int) (n : Nat) (hn : n ≤ 12) (h1 : 1 ≤ n) (ht : inR n t) (hf : inR n f) : ∃ o, orbOk [t, f] n o ∧ Ev (fun k => spec_l1Orbits.f k t f) o ∧ Ev (fun k => impl_orbits.f k [t, f]) o := by
  have hps : ∀ p ∈ [t, f], inR n p := by intro p hp; simp at hp; rcases hp with rfl | rfl <;> assumption
  obtain ⟨o, ho, he⟩ := implOrb_ev [t, f] n hn (by simp) (by simp) hps; refine ⟨o, ho, ?_, he⟩
  unfold spec_l1Orbits.f
  rw [ht.1]; refine Ev.bind (same_ev n (by omega)) ?_; refine specOrb_loop t f n hn ht hf o ho n 0 (stl n) (by omega) (by omega) (stl_orbI _ n) ?_; exact lag_le _ _ n
theorem isPerm_inR (l : List Int) (h : isPerm l) : inR l.length l := ⟨rfl, fun i hi => ⟨(h.2.2 i hi).1, (h.2.2 i hi).2.1⟩⟩
def flipAt (f : List Int) (i : Nat) : Prop := rd f i ≠ i ∧ rd f (rd f i) = i
def isMap (t f : List Int) : Prop := isPerm t ∧ isPerm f ∧ t.length = f.length ∧ (∀ i : Nat, i < f.length → flipAt f i) ∧ ∀ i j : Nat, i < f.length → j < f.length → Reach [t, f] f.length i j
def maxF : List Int → Int → Int
  | [], m => m
  | x :: xs, m => maxF xs (mx m x)
theorem maxF_zero : ∀ (l : List Int) (m : Int), 0 ≤ m → (∀ x ∈ l, 0 ≤ x) → 0 ≤ maxF l m ∧ (maxF l m = 0 ↔ m = 0 ∧ ∀ x ∈ l, x = 0)
  | [], m, hm, _ => by simp [maxF, hm]
  | x :: xs, m, hm, hx => by
    have hx0 := hx x (by simp)
    have hmx : 0 ≤ mx m x ∧ (mx m x = 0 ↔ m = 0 ∧ x = 0) := by unfold mx; split <;> omega
    obtain ⟨h1, h2⟩ := maxF_zero xs (mx m x) hmx.1 fun y hy => hx y (by simp [hy])
    refine ⟨h1, ?_⟩; simp only [maxF, h2, hmx.2, List.mem_cons, forall_eq_or_imp, and_assoc]
theorem max_run (l : List Int) (hl : l.length ≤ 1048576) : ∀ (d i : Nat) (m : Int), l.length - i = d → i ≤ l.length → Ev (fun k => slices_Max_int_int.l0 k l m i) (maxF (l.drop i) m)
  | 0, i, m, hd, hi => by
    refine Ev.s ?_; simp only [slices_Max_int_int.l0, show ¬ (i : Int) < (l.length : Int) by omega, if_false]; rw [List.drop_eq_nil_of_le (by omega)]; exact Ev.const rfl
  | d + 1, i, m, hd, hi => by
    have hlt : i < l.length := by omega
    refine Ev.s ?_; simp only [slices_Max_int_int.l0, show (i : Int) < (l.length : Int) by omega, show (0 : Int) ≤ (i : Int) by omega, if_true]; rw [w64 (x := (i : Int) + 1) (by omega) (by omega), show ((i : Int) + 1) = ((i + 1 : Nat) : Int) by omega, List.drop_eq_getElem_cons hlt, rd_lt l i hlt]; exact max_run l hl d (i + 1) _ (by omega) (by omega)
theorem max_ev (l : List Int) (hl : l.length ≤ 1048576) (h1 : 1 ≤ l.length) (h0 : ∀ x ∈ l, 0 ≤ x) : ∃ m, Ev (fun k => slices_Max_int_int.f k l) m ∧ (m = 0 ↔ ∀ x ∈ l, x = 0) := by
  cases l with
  | nil => simp at h1
  | cons x xs =>
    refine ⟨maxF xs x, ?_, ?_⟩
    · unfold slices_Max_int_int.f
      simp only [show ¬ (((x :: xs).length : Nat) : Int) < 1 by omega, show (0 : Int) < (((x :: xs).length : Nat) : Int) by omega, if_true, if_false]; exact max_run (x :: xs) hl _ 1 x rfl h1
    · rw [(maxF_zero xs x (h0 x (by simp)) fun y hy => h0 y (by simp [hy])).2]
      simp
theorem specFlip_run (t f : List Int) (hf : isPerm f) : ∀ (d i : Nat), f.length - i = d → i ≤ f.length →
    ((∀ q : Nat, i ≤ q → q < f.length → flipAt f q) → ∀ r, Ev (fun k => (spec_l1Orbits.f k t f).bind fun o => spec_MapValid.l1 k o 0) r → Ev (fun k => spec_MapValid.l0 k i t f) r) ∧ (¬ (∀ q : Nat, i ≤ q → q < f.length → flipAt f q) → Ev (fun k => spec_MapValid.l0 k i t f) false)
  | 0, i, hd, hi => by
    refine ⟨fun _ r h => Ev.s ?_, fun h => absurd (fun q h1 h2 => by omega) h⟩; simp only [spec_MapValid.l0, show ¬ (i : Int) < (f.length : Int) by omega, if_false]; exact h
  | d + 1, i, hd, hi => by
    have hlt : i < f.length := by omega
    have hl12 := hf.2.1; have hr := (isPerm_inR f hf).2 i hlt; have ih := specFlip_run t f hf d (i + 1) (by omega) (by omega)
    have hw : wrap64 ((i : Int) + 1) = ((i + 1 : Nat) : Int) := by rw [w64 (by omega) (by omega)]; omega
    have g1 : (i : Int) < (f.length : Int) := by omega
    have g2 : (0 : Int) ≤ (i : Int) := by omega
    by_cases c1 : rd f i = i
    · refine ⟨fun h => absurd c1 (h i (Nat.le_refl _) hlt).1, fun h => Ev.s ?_⟩
      simp only [spec_MapValid.l0, g1, g2, c1, if_true]; exact Ev.const rfl
    · by_cases c2 : rd f (rd f i) = i
      · refine ⟨fun h r hr' => Ev.s ?_, fun h => Ev.s ?_⟩
        · simp only [spec_MapValid.l0, g1, g2, c1, c2, hr.1, hr.2, if_true, if_false, hw]
          exact ih.1 (fun q h1 h2 => h q (by omega) h2) r hr'
        · simp only [spec_MapValid.l0, g1, g2, c1, c2, hr.1, hr.2, if_true, if_false, hw]
          refine ih.2 fun h' => h fun q h1 h2 => ?_
          by_cases e : q = i
          · rw [e]; exact ⟨c1, c2⟩
          · exact h' q (by omega) h2
      · refine ⟨fun h => absurd (h i (Nat.le_refl _) hlt).2 c2, fun h => Ev.s ?_⟩
        simp only [spec_MapValid.l0, g1, g2, c1, c2, hr.1, hr.2, if_true, if_false]; exact Ev.const rfl
theorem implFlip_run (t f : List Int) (hf : isPerm f) : ∀ (d i : Nat), f.length - i = d → i ≤ f.length →
    ((∀ q : Nat, i ≤ q → q < f.length → flipAt f q) → ∀ r, Ev (fun k => (impl_orbits.f k [t, f]).bind fun o => (slices_Max_int_int.f k o).bind fun m => some (m == 0)) r → Ev (fun k => impl_MapValid.l0 k f f.length i t f) r) ∧ (¬ (∀ q : Nat, i ≤ q → q < f.length → flipAt f q) → Ev (fun k => impl_MapValid.l0 k f f.length i t f) false)
  | 0, i, hd, hi => by
    refine ⟨fun _ r h => Ev.s ?_, fun h => absurd (fun q h1 h2 => by omega) h⟩; simp only [impl_MapValid.l0, show ¬ (i : Int) < (f.length : Int) by omega, if_false]; exact h
  | d + 1, i, hd, hi => by
    have hlt : i < f.length := by omega
    have hl12 := hf.2.1; have hr := (isPerm_inR f hf).2 i hlt; have ih := implFlip_run t f hf d (i + 1) (by omega) (by omega)
    have hw : wrap64 ((i : Int) + 1) = ((i + 1 : Nat) : Int) := by rw [w64 (by omega) (by omega)]; omega
    have g1 : (i : Int) < (f.length : Int) := by omega
    have g2 : (0 : Int) ≤ (i : Int) := by omega
    by_cases c1 : rd f i = i
    · refine ⟨fun h => absurd c1 (h i (Nat.le_refl _) hlt).1, fun h => Ev.s ?_⟩
      simp only [impl_MapValid.l0, g1, g2, c1, if_true]; exact Ev.const rfl
    · by_cases c2 : rd f (rd f i) = i
      · refine ⟨fun h r hr' => Ev.s ?_, fun h => Ev.s ?_⟩
        · simp only [impl_MapValid.l0, g1, g2, c1, c2, hr.1, hr.2, if_true, if_false, hw]
          exact ih.1 (fun q h1 h2 => h q (by omega) h2) r hr'
        · simp only [impl_MapValid.l0, g1, g2, c1, c2, hr.1, hr.2, if_true, if_false, hw]
          refine ih.2 fun h' => h fun q h1 h2 => ?_
          by_cases e : q = i
          · rw [e]; exact ⟨c1, c2⟩
          · exact h' q (by omega) h2
      · refine ⟨fun h => absurd (h i (Nat.le_refl _) hlt).2 c2, fun h => Ev.s ?_⟩
        simp only [impl_MapValid.l0, g1, g2, c1, c2, hr.1, hr.2, if_true, if_false]; exact Ev.const rfl
theorem zero_run (o : List Int) (hl : o.length ≤ 1048576) : ∀ (d i : Nat), o.length - i = d → i ≤ o.length →
    ((∀ q : Nat, i ≤ q → q < o.length → rd o q = 0) → Ev (fun k => spec_MapValid.l1 k o i) true) ∧ (¬ (∀ q : Nat, i ≤ q → q < o.length → rd o q = 0) → Ev (fun k => spec_MapValid.l1 k o i) false)
  | 0, i, hd, hi => by
    refine ⟨fun _ => Ev.s ?_, fun h => absurd (fun q h1 h2 => by omega) h⟩; simp only [spec_MapValid.l1, show ¬ (i : Int) < (o.length : Int) by omega, if_false]; exact Ev.const rfl
  | d + 1, i, hd, hi => by
    have hlt : i < o.length := by omega
    have ih := zero_run o hl d (i + 1) (by omega) (by omega)
    have hw : wrap64 ((i : Int) + 1) = ((i + 1 : Nat) : Int) := by rw [w64 (by omega) (by omega)]; omega
    have g1 : (i : Int) < (o.length : Int) := by omega
    have g2 : (0 : Int) ≤ (i : Int) := by omega
    by_cases c : rd o i = 0
    · refine ⟨fun h => Ev.s ?_, fun h => Ev.s ?_⟩
      · simp only [spec_MapValid.l1, g1, g2, c, if_true, hw]
        exact ih.1 fun q h1 h2 => h q (by omega) h2
      · simp only [spec_MapValid.l1, g1, g2, c, if_true, hw]
        refine ih.2 fun h' => h fun q h1 h2 => ?_
        by_cases e : q = i
        · rw [e]; exact c
        · exact h' q (by omega) h2
    · refine ⟨fun h => absurd (h i (Nat.le_refl _) hlt) c, fun h => Ev.s ?_⟩
      simp only [spec_MapValid.l1, g1, g2, c, if_true, if_false]; exact Ev.const rfl
theorem orb_zero (t f : List Int) (n : Nat) (h1 : 1 ≤ n) (ht : inR n t) (hf : inR n f) (o : List Int) (ho : orbOk [t, f] n o) : (∀ q : Nat, q < n → rd o q = 0) ↔ ∀ i j : Nat, i < n → j < n → Reach [t, f] n i j := by
  have hps : ∀ p ∈ [t, f], inR n p := by intro p hp; simp at hp; rcases hp with rfl | rfl <;> assumption
  constructor
  · intro h i j hi hj
    have e1 := (ho.1.2 i hi).2.2; have e2 := (ho.1.2 j hj).2.2; rw [h i hi] at e1; rw [h j hj] at e2; exact e1.symm.trans e2
  · intro h q hq
    have := orbOk_const ho hps (h q 0 hq (by omega)); have h0 := ho.1.2 0 (by omega); omega
theorem mapValid_both (t f : List Int) (ht : t.length ≤ 1048576) (hf : f.length ≤ 1048576) : ∃ b : Bool, Ev (fun k => spec_MapValid.f k t f) b ∧ Ev (fun k => impl_MapValid.f k t f) b ∧ (b = true ↔ isMap t f) := by
  obtain ⟨bt, t1, t2, t3⟩ := permValid_both t ht; obtain ⟨bf, f1, f2, f3⟩ := permValid_both f hf
  have hb : ∀ b : Bool, (∃ c : Bool, Ev (fun k => spec_l1Both.f k t f) c ∧ (c = true ↔ isPerm t ∧ isPerm f ∧ t.length = f.length)) := fun _ => by
    unfold spec_l1Both.f
    cases bt with
    | false => exact ⟨false, Ev.bind t1 (Ev.const rfl), ⟨fun h => (by cases h), fun h => absurd (t3.2 h.1) (by decide)⟩⟩
    | true =>
      cases bf with
      | false => exact ⟨false, Ev.bind t1 (by simp only [if_true]; exact Ev.bind f1 (Ev.const rfl)), ⟨fun h => (by cases h), fun h => absurd (f3.2 h.2.1) (by decide)⟩⟩
      | true => exact ⟨((t.length : Int) == (f.length : Int)), Ev.bind t1 (by simp only [if_true]; exact Ev.bind f1 (Ev.const rfl)), ⟨fun h => ⟨t3.1 rfl, f3.1 rfl, by have := beq_iff_eq.1 h; omega⟩, fun h => by rw [beq_iff_eq]; omega⟩⟩
  obtain ⟨c, c1, c2⟩ := hb true
  by_cases hall : isPerm t ∧ isPerm f ∧ t.length = f.length
  · obtain ⟨pt, pf, hlen⟩ := hall
    have hc : c = true := c2.2 ⟨pt, pf, hlen⟩; subst hc; have hbt : bt = true := t3.2 pt; have hbf : bf = true := f3.2 pf; subst hbt; subst hbf
    have hne : (((t.length : Int)) != (f.length : Int)) = false := by rw [bne_eq_false_iff_eq]; omega
    have hrt : inR f.length t := by have := isPerm_inR t pt; rwa [hlen] at this
    have hrf := isPerm_inR f pf; obtain ⟨o, o1, o2, o3⟩ := orb_both t f f.length pf.2.1 pf.1 hrt hrf
    have hS : ∀ r, Ev (fun k => spec_MapValid.l0 k 0 t f) r → Ev (fun k => spec_MapValid.f k t f) r := fun r h => by
      unfold spec_MapValid.f
      refine Ev.bind c1 ?_; simp only [if_true]; exact h
    have hI : ∀ r, Ev (fun k => impl_MapValid.l0 k f f.length 0 t f) r → Ev (fun k => impl_MapValid.f k t f) r := fun r h => by
      unfold impl_MapValid.f
      refine Ev.bind t2 ?_; simp only [if_true]; refine Ev.bind f2 ?_; simp only [if_true, hne]; refine Ev.s ?_; simp only [impl_MapValid.j0, Bool.false_eq_true, if_false]; exact h
    have sF := specFlip_run t f pf f.length 0 (by omega) (by omega); have iF := implFlip_run t f pf f.length 0 (by omega) (by omega)
    by_cases hfl : ∀ q : Nat, 0 ≤ q → q < f.length → flipAt f q
    · have zr := zero_run o (by rw [o1.1.1]; omega) o.length 0 (by omega) (by omega)
      have oz := orb_zero t f f.length pf.1 hrt hrf o o1; obtain ⟨m, m1, m2⟩ := max_ev o (by rw [o1.1.1]; omega) (by rw [o1.1.1]; exact pf.1) (fun x hx => by
        obtain ⟨i, hi, rfl⟩ := List.mem_iff_getElem.1 hx; have := (o1.1.2 i (by rw [← o1.1.1]; exact hi)).1
        rwa [rd_lt o i hi] at this)
      have hmz : m = 0 ↔ ∀ q : Nat, 0 ≤ q → q < o.length → rd o q = 0 := by
        rw [m2]
        constructor
        · intro h q _ hq
          rw [rd_lt o q hq]; exact h _ (List.getElem_mem hq)
        · intro h x hx
          obtain ⟨i, hi, rfl⟩ := List.mem_iff_getElem.1 hx; have := h i (by omega) hi
          rwa [rd_lt o i hi] at this
      by_cases hz : ∀ q : Nat, 0 ≤ q → q < o.length → rd o q = 0
      · refine ⟨true, hS _ (sF.1 hfl _ (Ev.bind o2 (zr.1 hz))), hI _ (iF.1 hfl _ (Ev.bind o3 (Ev.bind m1 (Ev.const ?_)))), ?_⟩
        · rw [hmz.2 hz]; rfl
        · refine ⟨fun _ => ⟨pt, pf, hlen, fun i hi => hfl i (by omega) hi, oz.1 fun q hq => hz q (by omega) (by rw [o1.1.1]; exact hq)⟩, fun _ => rfl⟩
      · refine ⟨false, hS _ (sF.1 hfl _ (Ev.bind o2 (zr.2 hz))), hI _ (iF.1 hfl _ (Ev.bind o3 (Ev.bind m1 (Ev.const ?_)))), ?_⟩
        · have : ¬ m = 0 := fun e => hz (hmz.1 e)
          simp [this]
        · exact ⟨fun h => (by cases h), fun h => absurd (fun q _ hq => oz.2 h.2.2.2.2 q (by rw [← o1.1.1]; exact hq)) hz⟩
    · exact ⟨false, hS _ (sF.2 hfl), hI _ (iF.2 hfl), ⟨fun h => (by cases h), fun h => absurd (fun q _ hq => h.2.2.2.1 q hq) hfl⟩⟩
  · have hc : c = false := by
      cases c with
      | false => rfl
      | true => exact absurd (c2.1 rfl) hall
    subst hc; refine ⟨false, ?_, ?_, ⟨fun h => (by cases h), fun h => absurd ⟨h.1, h.2.1, h.2.2.1⟩ hall⟩⟩
    · unfold spec_MapValid.f
      exact Ev.bind c1 (Ev.const rfl)
    · have hj : Ev (fun k => impl_MapValid.j0 k true t f) false := by
        refine Ev.s ?_; simp only [impl_MapValid.j0, if_true]; exact Ev.const rfl
      unfold impl_MapValid.f
      refine Ev.bind t2 ?_
      cases bt with
      | false => simp only [Bool.false_eq_true, if_false]; exact hj
      | true =>
        simp only [if_true]; refine Ev.bind f2 ?_
        cases bf with
        | false => simp only [Bool.false_eq_true, if_false]; exact hj
        | true =>
          have hne : (((t.length : Int)) != (f.length : Int)) = true := by
            rw [bne_iff_ne]; intro e; exact hall ⟨t3.1 rfl, f3.1 rfl, by omega⟩
          simp only [if_true, hne]; exact hj
def edL (f : List Int) : Nat → List Int
  | 0 => []
  | i + 1 => if (i : Int) < rd f i then edL f i ++ [(i : Int)] else edL f i
def geL (f : List Int) (n : Nat) : Nat → List Int
  | 0 => List.replicate n 0
  | i + 1 => if (i : Int) < rd f i then ((geL f n i).set i ((edL f i).length : Int)).set (rd f i).toNat ((edL f i).length : Int) else geL f n i
theorem edL_le (f : List Int) : ∀ i, (edL f i).length ≤ i
  | 0 => Nat.le_refl _
  | i + 1 => by
    have ih := edL_le f i; simp only [edL]
    split
    · simp only [List.length_append, List.length_cons, List.length_nil]; omega
    · omega
theorem geL_len (f : List Int) (n : Nat) : ∀ i, (geL f n i).length = n
  | 0 => by simp [geL]
  | i + 1 => by
    simp only [geL]
    split
    · simp [geL_len f n i]
    · exact geL_len f n i
theorem implEdges_run (n : Nat) (hn : n ≤ 1048576) (f : List Int) (hf : inR n f) : ∀ (d i : Nat), n - i = d → i ≤ n → Ev (fun k => impl_edgesOf.l0 k (edL f i) f n i) (edL f n)
  | 0, i, hd, hi => by
    have : i = n := by omega
    subst this; refine Ev.s ?_; simp only [impl_edgesOf.l0, show ¬ (i : Int) < (i : Int) by omega, if_false]; exact Ev.const rfl
  | d + 1, i, hd, hi => by
    have ih := implEdges_run n hn f hf d (i + 1) (by omega) (by omega); have h1 := edL_le f i; refine Ev.s ?_; simp only [impl_edgesOf.l0, hf.1, show (i : Int) < (n : Int) by omega, show (0 : Int) ≤ (i : Int) by omega, show (edL f i).length < 17592186044416 by omega, if_true]; rw [w64n (by omega)]; simp only [edL] at ih
    by_cases e : (i : Int) < rd f i
    · simp only [e, if_true] at ih ⊢; exact ih
    · simp only [e, if_false] at ih ⊢; exact ih
theorem implEdges_ev (n : Nat) (hn : n ≤ 1048576) (t f : List Int) (hf : inR n f) : Ev (fun k => impl_edgesOf.f k t f) (edL f n) := by
  unfold impl_edgesOf.f
  rw [hf.1]; exact implEdges_run n hn f hf n 0 (by omega) (by omega)
theorem specEdges_run (n : Nat) (hn : n ≤ 1048576) (t f : List Int) (hf : inR n f) : ∀ (d i : Nat), n - i = d → i ≤ n → Ev (fun k => spec_l7Edges.l0 k (geL f n i) ((edL f i).length : Int) i t f) (geL f n n)
  | 0, i, hd, hi => by
    have : i = n := by omega
    subst this; refine Ev.s ?_; simp only [spec_l7Edges.l0, geL_len, show ¬ (i : Int) < (i : Int) by omega, if_false]; exact Ev.const rfl
  | d + 1, i, hd, hi => by
    have ih := specEdges_run n hn t f hf d (i + 1) (by omega) (by omega); have h1 := edL_le f i; have h2 := hf.2 i (by omega); refine Ev.s ?_; simp only [spec_l7Edges.l0, geL_len, hf.1, show (i : Int) < (n : Int) by omega, show (0 : Int) ≤ (i : Int) by omega, h2.1, h2.2, if_true, Int.toNat_natCast]; rw [w64n (by omega), w64n (i := i) (by omega)]; simp only [edL, geL] at ih
    by_cases e : (i : Int) < rd f i
    · simp only [e, if_true, List.length_append, List.length_cons, List.length_nil] at ih ⊢; exact ih
    · simp only [e, if_false] at ih ⊢; exact ih
theorem specEdges_ev (n : Nat) (hn : n ≤ 1048576) (t f : List Int) (hf : inR n f) : Ev (fun k => spec_l7Edges.f k t f) (geL f n n) := by
  unfold spec_l7Edges.f
  have h1 : n ≤ 35184372088832 := by omega
  have h2 : (0 : Int) ≤ (n : Int) := by omega
  simp only [hf.1, Int.toNat_natCast, h1, h2, if_true]; exact specEdges_run n hn t f hf n 0 (by omega) (by omega)
def least (f : List Int) (d : Nat) : Nat := if (d : Int) < rd f d then d else (rd f d).toNat
theorem edL_lt (f : List Int) (m : Nat) (hm : (m : Int) < rd f m) : ∀ n, m < n → (edL f m).length < (edL f n).length
  | n + 1, h => by
    simp only [edL]
    by_cases e : m = n
    · subst e
      simp only [hm, if_true, List.length_append, List.length_cons, List.length_nil]; omega
    · have ih := edL_lt f m hm n (by omega)
      split
      · simp only [List.length_append, List.length_cons, List.length_nil]; omega
      · exact ih
theorem edL_at (f : List Int) (m : Nat) (hm : (m : Int) < rd f m) : ∀ n, m < n → rd (edL f n) ((edL f m).length : Int) = m
  | n + 1, h => by
    simp only [edL]
    by_cases e : m = n
    · subst e
      simp only [hm, if_true]; rw [rd_lt _ _ (by simp), List.getElem_append_right (Nat.le_refl _)]
      simp
    · have ih := edL_at f m hm n (by omega)
      split
      · rw [rd_app_lt _ _ _ (edL_lt f m hm n (by omega))]; exact ih
      · exact ih
theorem least_lt (f : List Int) (n : Nat) (hf : inR n f) (hfl : ∀ i : Nat, i < n → flipAt f i) (d : Nat) (hd : d < n) : least f d < n ∧ (least f d : Int) < rd f (least f d) := by
  have h1 := hf.2 d hd; obtain ⟨h2, h3⟩ := hfl d hd
  unfold least
  split
  · exact ⟨hd, by assumption⟩
  · refine ⟨by omega, ?_⟩
    rw [show (((rd f d).toNat : Nat) : Int) = rd f d by omega, h3]; omega
theorem geL_at (f : List Int) (n : Nat) (hf : inR n f) (hfl : ∀ i : Nat, i < n → flipAt f i) : ∀ i, i ≤ n → ∀ d : Nat, d < n → least f d < i → rd (geL f n i) d = ((edL f (least f d)).length : Int)
  | i + 1, hi, d, hd, h => by
    have ih := geL_at f n hf hfl i (by omega) d hd; have hl := geL_len f n i; have h1 := hf.2 d hd; obtain ⟨h2, h3⟩ := hfl d hd; have g1 := hf.2 i (by omega); obtain ⟨g2, g3⟩ := hfl i (by omega); have hll := least_lt f n hf hfl d hd; simp only [geL]
    by_cases e : least f d = i
    · rw [e] at hll
      simp only [hll.2, if_true]; rw [e]
      by_cases e2 : d = (rd f i).toNat
      · subst e2
        rw [rd_set_self _ _ _ (by simp; omega)]
      · have e3 : d = i := by
          unfold least at e
          split at e
          · exact e
          · exfalso
            apply e2
            rw [show (i : Int) = rd f d by omega, h3]; omega
        rw [rd_set_ne _ _ _ _ (fun h => e2 h.symm)]; subst e3; rw [rd_set_self _ _ _ (by omega)]
    · have ih' := ih (by omega)
      by_cases c : (i : Int) < rd f i
      · simp only [c, if_true]
        have n1 : (rd f i).toNat ≠ d := by
          intro h
          apply e
          have hd' : rd f i = d := by omega
          have : rd f d = i := by rw [← hd', g3]
          unfold least
          rw [if_neg (by omega)]; omega
        have n2 : i ≠ d := by
          intro h
          apply e
          subst h
          unfold least
          rw [if_pos c]
        rw [rd_set_ne _ _ _ _ n1, rd_set_ne _ _ _ _ n2]; exact ih'
      · simp only [c, if_false]
        exact ih'
theorem len_le_of_sub : ∀ (a b : List Nat), a.Nodup → (∀ x ∈ a, x ∈ b) → a.length ≤ b.length
  | [], b, _, _ => Nat.zero_le _
  | x :: a, b, hn, h => by
    have hx := h x (by simp); obtain ⟨hxa, hna⟩ := List.nodup_cons.1 hn
    have ih := len_le_of_sub a (b.erase x) hna fun y hy => (List.mem_erase_of_ne (by rintro rfl; exact hxa hy)).2 (h y (by simp [hy]))
    rw [List.length_erase_of_mem hx] at ih; have := List.length_pos_of_mem hx; simp only [List.length_cons]; omega
theorem edL_filter (f : List Int) : ∀ n, (edL f n).length = ((List.range n).filter fun (i : Nat) => decide ((i : Int) < rd f i)).length
  | 0 => rfl
  | n + 1 => by
    rw [List.range_succ, List.filter_append, List.length_append, ← edL_filter f n]; simp only [edL]
    by_cases e : (n : Int) < rd f n <;> simp [e]
theorem edL_half (f : List Int) (n : Nat) (hf : inR n f) (hfl : ∀ i : Nat, i < n → flipAt f i) : 2 * (edL f n).length = n := by
  rw [edL_filter]; have hA := List.length_eq_countP_add_countP (fun (i : Nat) => decide ((i : Int) < rd f i)) (l := List.range n); rw [List.countP_eq_length_filter, List.countP_eq_length_filter, List.length_range] at hA
  have sub : ∀ (P Q : Nat → Bool), (∀ i, i < n → P i = true → Q (rd f i).toNat = true) → ((List.range n).filter P).length ≤ ((List.range n).filter Q).length := by
    intro P Q h; rw [← List.length_map (f := fun (i : Nat) => (rd f i).toNat)]; refine len_le_of_sub _ _ ?_ ?_
    · rw [List.Nodup, List.pairwise_map]
      refine List.Pairwise.imp_of_mem ?_ ((List.nodup_range (n := n)).filter P); intro a b ha hb hab e; have ha' := List.mem_range.1 (List.mem_filter.1 ha).1; have hb' := List.mem_range.1 (List.mem_filter.1 hb).1; have h1 := hf.2 a ha'; have h2 := hf.2 b hb'
      have e2 : rd f a = rd f b := by omega
      have h3 := (hfl a ha').2; rw [e2, (hfl b hb').2] at h3; omega
    · intro x hx
      obtain ⟨a, ha, rfl⟩ := List.mem_map.1 hx; obtain ⟨ha1, ha2⟩ := List.mem_filter.1 ha; have ha' := List.mem_range.1 ha1; have h1 := hf.2 a ha'; exact List.mem_filter.2 ⟨List.mem_range.2 (by omega), h a ha' ha2⟩
  have back : ∀ i : Nat, i < n → (((rd f i).toNat : Nat) : Int) = rd f i := fun i hi => by have := hf.2 i hi; omega
  have h1 := sub (fun (i : Nat) => decide ((i : Int) < rd f i)) (fun (i : Nat) => decide ¬ decide ((i : Int) < rd f i) = true) (fun i hi h => by
    have h3 := (hfl i hi).2; simp only [decide_eq_true_eq] at h; simp only [back i hi, h3, decide_eq_true_eq]
    omega)
  have h2 := sub (fun (i : Nat) => decide ¬ decide ((i : Int) < rd f i) = true) (fun (i : Nat) => decide ((i : Int) < rd f i)) (fun i hi h => by
    have h3 := hfl i hi; simp only [decide_eq_true_eq] at h; simp only [back i hi, h3.2, decide_eq_true_eq]; have := h3.1
    omega)
  omega
def cw (p : List Int) : Nat → List Bool → List Int → Int → List Bool × List Int
  | 0, s, c, a => (s, c)
  | f + 1, s, c, a => if rdOf false s a = true then (s, c) else cw p f (s.set a.toNat true) (c ++ [a]) (rd p a)
def fresh (s : List Bool) : Nat := s.countP (fun b => !b)
def cyS (p : List Int) (n : Nat) : Nat → List Bool × List (List Int)
  | 0 => (List.replicate n false, [])
  | i + 1 =>
    let q := cw p (n + 1) (cyS p n i).1 [] i
    (q.1, if q.2 = [] then (cyS p n i).2 else (cyS p n i).2 ++ [q.2])
theorem fresh_set : ∀ (s : List Bool) (i : Nat), i < s.length → s.getD i false = false → fresh (s.set i true) + 1 = fresh s
  | b :: s, 0, _, h => by
    simp only [List.getD_cons_zero] at h; subst h
    simp [fresh]
  | b :: s, i + 1, hi, h => by
    simp only [List.getD_cons_succ] at h; have ih := fresh_set s i (by simpa using hi) h; simp only [fresh, List.set_cons_succ, List.countP_cons] at ih ⊢; omega
theorem rdOf_nat (s : List Bool) (a : Int) (h0 : 0 ≤ a) : rdOf false s a = s.getD a.toNat false := by
  unfold rdOf
  rfl
theorem cw_len (p : List Int) : ∀ (f : Nat) (s : List Bool) (c : List Int) (a : Int), (cw p f s c a).1.length = s.length
  | 0, s, c, a => rfl
  | f + 1, s, c, a => by
    simp only [cw]
    split
    · rfl
    · rw [cw_len p f]; simp
theorem spec_cw (p : List Int) (n : Nat) (hn : n ≤ 1048576) (hp : inR n p) (L : List (List Int)) (hL : L.length ≤ 1048576) (i : Int) (r : List (List Int)) : ∀ (f : Nat) (s : List Bool) (c : List Int) (a : Int), s.length = n → 0 ≤ a → a < n → fresh s < f → c.length + fresh s ≤ 1048577 →
    Ev (fun k => spec_l1Cycles.l0 k p (L ++ [(cw p f s c a).2]) (cw p f s c a).1 (wrap64 (i + 1))) r → Ev (fun k => spec_l1Cycles.l1 k p L s i c a) r
  | 0, s, c, a, hs, h0, h1, hf, hc, h => absurd hf (Nat.not_lt_zero _)
  | f + 1, s, c, a, hs, h0, h1, hf, hc, h => by
    refine Ev.s ?_; simp only [cw] at h
    have hL' : L.length < 5864062014805 := by omega
    have hc' : c.length < 17592186044416 := by omega
    simp only [spec_l1Cycles.l1, h0, hs, h1, hp.1, hL', hc', if_true]
    by_cases e : rdOf false s a = true
    · simp only [e, if_true] at h ⊢
      exact h
    · simp only [e, if_false] at h ⊢
      have h3 : s.getD a.toNat false = false := by rw [← rdOf_nat s a h0]; simpa using e
      have h4 := fresh_set s a.toNat (by omega) h3; have h5 := hp.2 a.toNat (by omega); rw [show ((a.toNat : Nat) : Int) = a by omega] at h5; exact spec_cw p n hn hp L hL i r f _ _ _ (by simpa using hs) h5.1 h5.2 (by omega) (by simp only [List.length_append, List.length_cons, List.length_nil]; omega) h
theorem impl_cw (p : List Int) (n : Nat) (hn : n ≤ 1048576) (hp : inR n p) (L : List (List Int)) (hL : L.length ≤ 1048576) (m i : Int) (r : List (List Int)) : ∀ (f : Nat) (s : List Bool) (c : List Int) (a : Int), s.length = n → 0 ≤ a → a < n → fresh s < f → c.length + fresh s ≤ 1048577 →
    Ev (fun k => impl_cyclesOf.l0 k p (if (cw p f s c a).2 = [] then L else L ++ [(cw p f s c a).2]) (cw p f s c a).1 m (wrap64 (i + 1))) r → Ev (fun k => impl_cyclesOf.l1 k p L s c a m i) r
  | 0, s, c, a, hs, h0, h1, hf, hc, h => absurd hf (Nat.not_lt_zero _)
  | f + 1, s, c, a, hs, h0, h1, hf, hc, h => by
    refine Ev.s ?_; simp only [cw] at h
    have hL' : L.length < 5864062014805 := by omega
    have hc' : c.length < 17592186044416 := by omega
    simp only [impl_cyclesOf.l1, h0, hs, h1, hp.1, hL', hc', if_true]
    by_cases e : rdOf false s a = true
    · simp only [e, if_true] at h ⊢
      cases c with
      | nil => simpa using h
      | cons b c => simpa using h
    · simp only [e, if_false] at h ⊢
      have h3 : s.getD a.toNat false = false := by rw [← rdOf_nat s a h0]; simpa using e
      have h4 := fresh_set s a.toNat (by omega) h3; have h5 := hp.2 a.toNat (by omega); rw [show ((a.toNat : Nat) : Int) = a by omega] at h5; exact impl_cw p n hn hp L hL m i r f _ _ _ (by simpa using hs) h5.1 h5.2 (by omega) (by simp only [List.length_append, List.length_cons, List.length_nil]; omega) h
theorem fresh_le (s : List Bool) : fresh s ≤ s.length := List.countP_le_length
theorem cyS_len (p : List Int) (n : Nat) : ∀ i, (cyS p n i).1.length = n
  | 0 => by simp [cyS]
  | i + 1 => by simp only [cyS]; rw [cw_len, cyS_len p n i]
theorem cyS_many (p : List Int) (n : Nat) : ∀ i, (cyS p n i).2.length ≤ i
  | 0 => by simp [cyS]
  | i + 1 => by
    have ih := cyS_many p n i; simp only [cyS]
    split
    · omega
    · simp only [List.length_append, List.length_cons, List.length_nil]; omega
theorem cw_seen (p : List Int) (f : Nat) (s : List Bool) (c : List Int) (a : Int) (h : rdOf false s a = true) : cw p f s c a = (s, c) := by
  cases f with
  | zero => rfl
  | succ f => simp only [cw, h, if_true]
theorem cw_more (p : List Int) : ∀ (f : Nat) (s : List Bool) (c : List Int) (a : Int), c.length ≤ (cw p f s c a).2.length
  | 0, s, c, a => Nat.le_refl _
  | f + 1, s, c, a => by
    simp only [cw]
    split
    · exact Nat.le_refl _
    · have := cw_more p f (s.set a.toNat true) (c ++ [a]) (rd p a)
      simp only [List.length_append, List.length_cons, List.length_nil] at this; omega
theorem cw_new (p : List Int) (f : Nat) (s : List Bool) (a : Int) (h : ¬ rdOf false s a = true) : (cw p (f + 1) s [] a).2 ≠ [] := by
  simp only [cw, h, Bool.false_eq_true, if_false]; intro e; have := cw_more p f (s.set a.toNat true) ([] ++ [a]) (rd p a); rw [e] at this
  simp at this
theorem specCyc_run (p : List Int) (n : Nat) (hn : n ≤ 1048575) (hp : inR n p) : ∀ (d i : Nat), n - i = d → i ≤ n → Ev (fun k => spec_l1Cycles.l0 k p (cyS p n i).2 (cyS p n i).1 i) (cyS p n n).2
  | 0, i, hd, hi => by
    have : i = n := by omega
    subst this; refine Ev.s ?_; simp only [spec_l1Cycles.l0, hp.1, show ¬ (i : Int) < (i : Int) by omega, if_false]; exact Ev.const rfl
  | d + 1, i, hd, hi => by
    have ih := specCyc_run p n hn hp d (i + 1) (by omega) (by omega); have hl := cyS_len p n i; have hm := cyS_many p n i; have hf := fresh_le (cyS p n i).1
    have h1 : (i : Int) < (n : Int) := by omega
    have h0 : (0 : Int) ≤ (i : Int) := by omega
    refine Ev.s ?_; simp only [spec_l1Cycles.l0, hp.1, hl, h1, h0, if_true]
    by_cases e : rdOf false (cyS p n i).1 (i : Int) = true
    · simp only [e, if_true]
      rw [w64n (by omega)]; simp only [cyS, cw_seen p (n + 1) (cyS p n i).1 [] i e, if_true] at ih; exact ih
    · simp only [e, if_false]
      refine spec_cw p n (by omega) hp _ (by omega) i _ (n + 1) _ _ _ hl h0 h1 (by omega) (by simp only [List.length_nil]; omega) ?_; rw [w64n (by omega)]; simp only [cyS, cw_new p n (cyS p n i).1 i e, if_false] at ih; exact ih
theorem implCyc_run (p : List Int) (n : Nat) (hn : n ≤ 1048575) (hp : inR n p) : ∀ (d i : Nat), n - i = d → i ≤ n → Ev (fun k => impl_cyclesOf.l0 k p (cyS p n i).2 (cyS p n i).1 n i) (cyS p n n).2
  | 0, i, hd, hi => by
    have : i = n := by omega
    subst this; refine Ev.s ?_; simp only [impl_cyclesOf.l0, show ¬ (i : Int) < (i : Int) by omega, if_false]; exact Ev.const rfl
  | d + 1, i, hd, hi => by
    have ih := implCyc_run p n hn hp d (i + 1) (by omega) (by omega); have hl := cyS_len p n i; have hm := cyS_many p n i; have hf := fresh_le (cyS p n i).1
    have h1 : (i : Int) < (n : Int) := by omega
    have h0 : (0 : Int) ≤ (i : Int) := by omega
    refine Ev.s ?_; simp only [impl_cyclesOf.l0, h1, if_true]; refine impl_cw p n (by omega) hp _ (by omega) n i _ (n + 1) _ _ _ hl h0 h1 (by omega) (by simp only [List.length_nil]; omega) ?_; rw [w64n (by omega)]; simp only [cyS] at ih; exact ih
theorem specCyc_ev (p : List Int) (n : Nat) (hn : n ≤ 1048575) (hp : inR n p) : Ev (fun k => spec_l1Cycles.f k p) (cyS p n n).2 := by
  unfold spec_l1Cycles.f
  have h1 : n ≤ 281474976710656 := by omega
  have h2 : (0 : Int) ≤ (n : Int) := by omega
  simp only [hp.1, Int.toNat_natCast, h1, h2, if_true]; exact specCyc_run p n hn hp n 0 (by omega) (by omega)
theorem implCyc_ev (p : List Int) (n : Nat) (hn : n ≤ 1048575) (hp : inR n p) : Ev (fun k => impl_cyclesOf.f k p) (cyS p n n).2 := by
  unfold impl_cyclesOf.f
  have h1 : n ≤ 281474976710656 := by omega
  have h2 : (0 : Int) ≤ (n : Int) := by omega
  simp only [hp.1, Int.toNat_natCast, h1, h2, if_true]; exact implCyc_run p n hn hp n 0 (by omega) (by omega)
def ahead (c : List Int) (i : Nat) : Int := if i = 0 then -1 else rd c ((i - 1 : Nat) : Int)
def ascAt (c : List Int) (m : Int) (i : Nat) : Prop := ahead c i < rd c i ∧ rd c i < m
def isChoice (c : List Int) (m : Int) : Prop := ∀ i : Nat, i < c.length → ascAt c m i
theorem ahead_zero (c : List Int) : ahead c 0 = -1 := by unfold ahead; rw [if_pos rfl]
theorem ahead_succ (c : List Int) (i : Nat) : ahead c (i + 1) = rd c i := by unfold ahead; rw [if_neg (by omega), Nat.add_sub_cancel]
theorem asc_nonneg (c : List Int) (m : Int) : ∀ i : Nat, (∀ j : Nat, j < i → ascAt c m j) → -1 ≤ ahead c i ∧ (ahead c i = -1 ∨ ahead c i < m)
  | 0, _ => by rw [ahead_zero]; omega
  | i + 1, h => by
    have h1 := h i (Nat.lt_succ_self i); have h2 := (asc_nonneg c m i fun j hj => h j (by omega)).1
    unfold ascAt at h1
    rw [ahead_succ]; omega
theorem specChoice_run (t f c : List Int) (m : Int) (hm : (f.length : Int) / 2 = m) (m0 : 0 ≤ m) (m1 : m ≤ 1048576) (hc : c.length ≤ 1048576) : ∀ (d i : Nat), c.length - i = d → i ≤ c.length → (∀ j : Nat, j < i → ascAt c m j) →
    ((∀ q : Nat, i ≤ q → q < c.length → ascAt c m q) → ∀ r, Ev (fun k => spec_MapValid.f k t f) r → Ev (fun k => spec_ChoiceValid.l0 k c (ahead c i) i t f) r) ∧ (¬ (∀ q : Nat, i ≤ q → q < c.length → ascAt c m q) → Ev (fun k => spec_ChoiceValid.l0 k c (ahead c i) i t f) false)
  | 0, i, hd, hi, hp => by
    refine ⟨fun _ r h => Ev.s ?_, fun h => absurd (fun q h1 h2 => by omega) h⟩; simp only [spec_ChoiceValid.l0, show ¬ (i : Int) < (c.length : Int) by omega, if_false]; exact Ev.bind h (Ev.const rfl)
  | d + 1, i, hd, hi, hp => by
    have hlt : i < c.length := by omega
    have hd1 : c.length - (i + 1) = d := by omega
    obtain ⟨p1, p2⟩ := asc_nonneg c _ i hp
    have hA : ascAt c m i ↔ (ahead c i + 1 ≤ rd c i ∧ rd c i ≤ m - 1) := by unfold ascAt; omega
    have w1 : -9223372036854775808 ≤ ahead c i + 1 ∧ ahead c i + 1 < 9223372036854775808 := by omega
    have w2 : -9223372036854775808 ≤ m ∧ m < 9223372036854775808 := by omega
    have w3 : -9223372036854775808 ≤ m - 1 ∧ m - 1 < 9223372036854775808 := by omega
    have w4 : i < 4611686018427387904 := by omega
    have g1 : (i : Int) < (c.length : Int) := by omega
    have g2 : (0 : Int) ≤ (i : Int) := by omega
    by_cases h : ascAt c m i
    · have hin := hA.1 h
      have ih := specChoice_run t f c m hm m0 m1 hc d (i + 1) hd1 hlt (fun j hj => by
        by_cases e : j = i
        · rw [e]; exact h
        · exact hp j (by omega))
      rw [ahead_succ] at ih; refine ⟨fun ha r hr => Ev.s ?_, fun ha => Ev.s ?_⟩
      · simp only [spec_ChoiceValid.l0, g1, g2, if_true, hm, w64r w1, w64r w2, w64r w3, w64n w4, l6In_eq, Option.bind_some, hin, decide_true, and_self]
        exact ih.1 (fun q h1 h2 => ha q (by omega) h2) r hr
      · simp only [spec_ChoiceValid.l0, g1, g2, if_true, hm, w64r w1, w64r w2, w64r w3, w64n w4, l6In_eq, Option.bind_some, hin, decide_true, and_self]
        refine ih.2 fun h' => ha fun q h1 h2 => ?_
        by_cases e : q = i
        · rw [e]; exact h
        · exact h' q (by omega) h2
    · have hin : ¬ (ahead c i + 1 ≤ rd c i ∧ rd c i ≤ m - 1) := fun z => h (hA.2 z)
      refine ⟨fun ha => absurd (ha i (Nat.le_refl _) hlt) h, fun ha => Ev.s ?_⟩; simp only [spec_ChoiceValid.l0, g1, g2, if_true, hm, w64r w1, w64r w2, w64r w3, w64n w4, l6In_eq, Option.bind_some, hin, decide_false, Bool.false_eq_true, if_false]; exact Ev.const rfl
theorem implChoice_run (t f c : List Int) (m : Int) (hm : (f.length : Int) / 2 = m) (m0 : 0 ≤ m) (m1 : m ≤ 1048576) (hc : c.length ≤ 1048576) : ∀ (d i : Nat), c.length - i = d → i ≤ c.length → (∀ j : Nat, j < i → ascAt c m j) →
    ((∀ q : Nat, i ≤ q → q < c.length → ascAt c m q) → Ev (fun k => impl_ChoiceValid.l0 k c c c.length i t f) true) ∧ (¬ (∀ q : Nat, i ≤ q → q < c.length → ascAt c m q) → Ev (fun k => impl_ChoiceValid.l0 k c c c.length i t f) false)
  | 0, i, hd, hi, hp => by
    refine ⟨fun _ => Ev.s ?_, fun h => absurd (fun q h1 h2 => by omega) h⟩; simp only [impl_ChoiceValid.l0, show ¬ (i : Int) < (c.length : Int) by omega, if_false]; exact Ev.const rfl
  | d + 1, i, hd, hi, hp => by
    have hlt : i < c.length := by omega
    have hd1 : c.length - (i + 1) = d := by omega
    obtain ⟨p1, p2⟩ := asc_nonneg c _ i hp
    have w2 : -9223372036854775808 ≤ m ∧ m < 9223372036854775808 := by omega
    have w4 : i < 4611686018427387904 := by omega
    have g1 : (i : Int) < (c.length : Int) := by omega
    have g2 : (0 : Int) ≤ (i : Int) := by omega
    have hA1 : ascAt c m i → 0 ≤ rd c i ∧ rd c i < m := by unfold ascAt; omega
    by_cases k1 : rd c i < 0
    · refine ⟨fun ha => absurd (hA1 (ha i (Nat.le_refl _) hlt)) (by omega), fun ha => Ev.s ?_⟩
      simp only [impl_ChoiceValid.l0, g1, g2, k1, if_true]; exact Ev.const rfl
    · by_cases k2 : rd c i ≥ m
      · refine ⟨fun ha => absurd (hA1 (ha i (Nat.le_refl _) hlt)) (by omega), fun ha => Ev.s ?_⟩
        simp only [impl_ChoiceValid.l0, g1, g2, k1, k2, hm, w64r w2, if_true, if_false]; exact Ev.const rfl
      · have ih := fun h => implChoice_run t f c m hm m0 m1 hc d (i + 1) hd1 hlt (fun j hj => by
          by_cases e : j = i
          · rw [e]; exact h
          · exact hp j (by omega))
        cases i with
        | zero =>
          have h : ascAt c m 0 := by unfold ascAt; rw [ahead_zero]; omega
          have k3 : ¬ (((0 : Nat) : Int) > 0) := by omega
          refine ⟨fun ha => Ev.s ?_, fun ha => Ev.s ?_⟩
          · simp only [impl_ChoiceValid.l0, g1, g2, k1, k2, k3, hm, w64r w2, w64n w4, if_true, if_false]
            exact (ih h).1 fun q h1 h2 => ha q (by omega) h2
          · simp only [impl_ChoiceValid.l0, g1, g2, k1, k2, k3, hm, w64r w2, w64n w4, if_true, if_false]
            refine (ih h).2 fun h' => ha fun q h1 h2 => ?_
            by_cases e : q = 0
            · rw [e]; exact h
            · exact h' q (by omega) h2
        | succ i =>
          have k3 : (((i + 1 : Nat) : Int) > 0) := by omega
          have w5 : -9223372036854775808 ≤ (i : Int) ∧ (i : Int) < 9223372036854775808 := by omega
          have w6 : (((i + 1 : Nat) : Int) - 1) = (i : Int) := by omega
          have g3 : (0 : Int) ≤ (i : Int) := by omega
          have g4 : (i : Int) < (c.length : Int) := by omega
          by_cases k4 : rd c ((i + 1 : Nat) : Int) ≤ rd c (i : Int)
          · refine ⟨fun ha => absurd (ha (i + 1) (Nat.le_refl _) hlt) (by unfold ascAt; rw [ahead_succ]; omega), fun ha => Ev.s ?_⟩
            simp only [impl_ChoiceValid.l0, g1, g2, g3, g4, k1, k2, k3, k4, hm, w64r w2, w64r w5, w6, if_true, if_false]; exact Ev.const rfl
          · have h : ascAt c m (i + 1) := by unfold ascAt; rw [ahead_succ]; omega
            refine ⟨fun ha => Ev.s ?_, fun ha => Ev.s ?_⟩
            · simp only [impl_ChoiceValid.l0, g1, g2, g3, g4, k1, k2, k3, k4, hm, w64r w2, w64n w4, w64r w5, w6, if_true, if_false]
              exact (ih h).1 fun q h1 h2 => ha q (by omega) h2
            · simp only [impl_ChoiceValid.l0, g1, g2, g3, g4, k1, k2, k3, k4, hm, w64r w2, w64n w4, w64r w5, w6, if_true, if_false]
              refine (ih h).2 fun h' => ha fun q h1 h2 => ?_
              by_cases e : q = i + 1
              · rw [e]; exact h
              · exact h' q (by omega) h2
theorem choiceValid_both (t f c : List Int) (ht : t.length ≤ 1048576) (hf : f.length ≤ 1048576) (hc : c.length ≤ 1048576) : ∃ b : Bool, Ev (fun k => spec_ChoiceValid.f k t f c) b ∧ Ev (fun k => impl_ChoiceValid.f k t f c) b ∧ (b = true ↔ isMap t f ∧ isChoice c ((f.length : Int) / 2)) := by
  obtain ⟨b, b1, b2, b3⟩ := mapValid_both t f ht hf; have hs := specChoice_run t f c _ rfl (by omega) (by omega) hc c.length 0 (by omega) (by omega) (fun j hj => by omega); have hi := implChoice_run t f c _ rfl (by omega) (by omega) hc c.length 0 (by omega) (by omega) (fun j hj => by omega)
  have e1 : ∀ r, Ev (fun k => spec_ChoiceValid.l0 k c (ahead c 0) ((0 : Nat) : Int) t f) r → Ev (fun k => spec_ChoiceValid.f k t f c) r := fun r h => h
  by_cases ha : ∀ q : Nat, 0 ≤ q → q < c.length → ascAt c ((f.length : Int) / 2) q
  · refine ⟨b, e1 _ (hs.1 ha b b1), ?_, ?_⟩
    · unfold impl_ChoiceValid.f
      refine Ev.bind b2 ?_
      cases b with
      | false => simp only [Bool.false_eq_true, if_false]; exact Ev.const rfl
      | true => simp only [if_true]; exact hi.1 ha
    · rw [b3]
      exact ⟨fun h => ⟨h, fun i hi' => ha i (by omega) hi'⟩, fun h => h.1⟩
  · refine ⟨false, e1 _ (hs.2 ha), ?_, ⟨fun h => (by cases h), fun h => absurd (fun q _ hq => h.2 q hq) ha⟩⟩
    unfold impl_ChoiceValid.f
    refine Ev.bind b2 ?_
    cases b with
    | false => simp only [Bool.false_eq_true, if_false]; exact Ev.const rfl
    | true => simp only [if_true]; exact hi.2 ha
end Go.Proofs.Ytjgknblneokhlaa.PK
