/- For every code: of the map that the statement draws, RibbonTrees of the program answers what the reference answers; there is a spanning tree; RibbonMatrix tells as many, the mirror map has as many, and on the sphere the dual map too. There are no conditions. -/
import Derived.Test.YtjgknblneokhlaaKFnTreesMatrixOwnx4
namespace Go.Proofs.Ytjgknblneokhlaa.PK
open Go.RowKit Go.Proofs.YtjgknblneokhlaaW.PrintWords Go.Proofs.YtjgknblneokhlaaW.PrintLast Go.Proofs.YtjgknblneokhlaaW.PrintMore
theorem z5_0 {p : Prop} (h : p := by exact (Kd.R_lower (Kd.R_new' (Kd.R_new' (Kd.R_new' (Kd.R_new' ho0 (Kd.Q_lt (qW2 HO_1028000.out BK1037.out))) (Kd.R_lt (rW2 HO_1028001.out BK1037.out))) (Kd.R_lt (rW2 HO1032.out BK1037.out))) (Kd.R_lt (rW2 HO1035.out BK1037.out))) (below_size (bU2 HB.out GW1027.out GW1037.out)))) : p := h
theorem z5_1 {p : Prop} (h : p := by exact (Kd.R_lower (Kd.R_new' (Kd.R_new' (Kd.R_new' (Kd.R_new' ho1 (Kd.Q_lt (qW2 HO_1028000.out BK1037.out))) (Kd.R_lt (rW2 HO_1028001.out BK1037.out))) (Kd.R_lt (rW2 HO1032.out BK1037.out))) (Kd.R_lt (rW2 HO1035.out BK1037.out))) (below_size (bU2 HB.out GW1027.out GW1037.out)))) : p := h
theorem z5_2 {p : Prop} (h : p := by exact (blk_below (g := gb1027) (o := .cells #[.slice Ao9 t1021.length co9, .slice Ao11 t1024.length co11] 25 (0, 0)) (kF1 BK1027.out NB1027_1037.out) hb)) : p := h
theorem z5_3 {p : Prop} (h : p := by exact (Kd.R_lower (Kd.R_new' (Kd.R_new' ho0 (Kd.Q_lt (qU HO_1028000.out))) (Kd.R_lt (rU HO_1028001.out))) (below_size (bU1 HB.out GW1027.out)))) : p := h
theorem z5_4 {p : Prop} (h : p := by exact (Kd.R_lower (Kd.R_new' (Kd.R_new' ho1 (Kd.Q_lt (qU HO_1028000.out))) (Kd.R_lt (rU HO_1028001.out))) (below_size (bU1 HB.out GW1027.out)))) : p := h
theorem z5_5 {p : Prop} (h : p := by exact (Kd.Q_mono (Kd.Q_told (Kd.Q_told (Kd.Q_old (qW2 HO_1028000.out BK1037.out) hb) (Kd.R_base ho0)) (Kd.R_base ho1)) (fun _ h_ => h_.1))) : p := h
theorem z5_6 {p : Prop} (h : p := by exact (Kd.R_mono (Kd.R_told (Kd.R_told (Kd.R_old (rW2 HO_1028001.out BK1037.out) hb) (Kd.R_base ho0)) (Kd.R_base ho1)) (fun _ h_ => h_.1))) : p := h
theorem z5_7 {p : Prop} (h : p := by exact (Kd.R_mono (Kd.R_told (Kd.R_told (Kd.R_old (rW2 HO1032.out BK1037.out) hb) (Kd.R_base ho0)) (Kd.R_base ho1)) (fun _ h_ => h_.1))) : p := h
theorem z5_8 {p : Prop} (h : p := by exact (Kd.R_mono (Kd.R_told (Kd.R_told (Kd.R_old (rW2 HO1035.out BK1037.out) hb) (Kd.R_base ho0)) (Kd.R_base ho1)) (fun _ h_ => h_.1))) : p := h
theorem z5_9 {p : Prop} (h : p := by exact (Kd.Q_mono (Kd.Q_told (Kd.Q_told (Kd.Q_old (qU HO_1028000.out) hb) (Kd.R_base ho0)) (Kd.R_base ho1)) (fun _ h_ => h_.1))) : p := h
theorem z5_10 {p : Prop} (h : p := by exact (Kd.R_mono (Kd.R_told (Kd.R_told (Kd.R_old (rU HO_1028001.out) hb) (Kd.R_base ho0)) (Kd.R_base ho1)) (fun _ h_ => h_.1))) : p := h
theorem z5_11 {p : Prop} (h : p := by exact (below_step (bU2 HB.out GW1027.out GW1037.out) hb)) : p := h
theorem z5_12 {p : Prop} (h : p := by exact (below_step (bU1 HB.out GW1027.out) hb)) : p := h
theorem z5_13 {p : Prop} (h : p := by exact (below_step (bU3 HB.out GW1027.out GW1037.out GW1045.out) hb)) : p := h
theorem z5_14 {p : Prop} (h : p := by exact (blk_below (g := gb1027) (o := .cells #[.slice Ao9 t1021.length co9, .slice Ao11 t1024.length co11] 25 (0, 0)) (kF1 BK1027.out NB1027_1045.out) hb)) : p := h
theorem z5_15 {p : Prop} (h : p := by exact (bU2 HB.out GW1027.out GW1037.out)) : p := h
attribute [local go_sem] max2_int min2_int max_two min_two max_three min_three max_four min_four   -- for this text's walks alone
set_option linter.unusedVariables false
set_option linter.unusedSimpArgs false
def laws_FnTreesMatrix.j0 : Nat → Int → Int → Bool → List Int → List Int → Option (Bool)
 | 0, _, _, _, _, _ => none
 | k + 1, x4, x5, x25, x1028000, x1028001 => if x25 = true then (some (x4 == x5)) else ((impl_MapMirror.f k x1028000 x1028001).bind fun bt1030 => ((impl_MapDual.f k x1028000 x1028001).bind fun bt1038 => (if bt1030.2.2 = true then (if bt1038.2.2 = true then (if x4 ≥ 1 then ((impl_RibbonMatrix.f k x1028000 x1028001).bind fun t1046 => (if t1046 = x4 then ((impl_RibbonTrees.f k bt1030.1 bt1030.2.1).bind fun t1047 => (if t1047 = x4 then ((impl_MapGenus.f k x1028000 x1028001).bind fun t1048 => (if t1048 > 0 then (some true) else ((impl_RibbonTrees.f k bt1038.1 bt1038.2.1).bind fun t1049 => (some (t1049 == x4))))) else (some false))) else (some false))) else (some false)) else (some false)) else (some false))))
def laws_FnTreesMatrix.f (k : Nat) (l0 : List Int) : Option (Bool) := if (l0.length : Int) > 1048576 then (some true) else ((spec_DrawRibbonTrees.f k l0).bind fun bt1021 => ((impl_RibbonTrees.f k bt1021.1 bt1021.2).bind fun t1028 => ((spec_RibbonTrees.f k bt1021.1 bt1021.2).bind fun t1029 => (if t1028 = t1029 then (laws_FnTreesMatrix.j0 k t1028 t1029 (decide (t1028 < 0)) bt1021.1 bt1021.2) else (laws_FnTreesMatrix.j0 k t1028 t1029 true bt1021.1 bt1021.2)))))
set_option maxHeartbeats 8000000 in
set_option maxRecDepth 100000 in
theorem laws_FnTreesMatrix.calls (k : Nat) (A0 : Option Addr) (c0 : Nat) (l0 : List Int) (r : Bool) (w : World) (hr0 : Kd.C (Kd.int .u8) w A0 l0.length l0) (hc0 : l0.length ≤ c0) (h : laws_FnTreesMatrix.f k l0 = some r) :
  Calls Try.prog 13 #[.slice A0 l0.length c0] w fun e w' => e = .returned (.bool r) ∧ Below w.heap.size w w' := by
 have hu25 := Try.underlying25; have HR0 := Az hr0; have HC0 := Az hc0; clear hr0 hc0; have HB := bZ w; have H := h; clear h; unfold laws_FnTreesMatrix.f at H
 by_cases c2 : (l0.length : Int) > 1048576
 · rw [if_pos c2] at H; have c2b0 := decide_eq_true c2; have c2b1 : decide (1048576 < l0.length) = true := decide_eq_true (by omega); clear c2; obtain rfl := Option.some.inj H; go_enter Try.func13, Try.ntmps13; go_wp2; go_ret; exact ⟨rE, bU0 HB.out⟩
 ·
  rw [if_neg c2] at H; have c2b0 := decide_eq_false c2; have c2b1 : decide (1048576 < l0.length) = false := decide_eq_false (by omega); clear c2; replace H := bd H; obtain ⟨⟨t1021, t1024⟩, A3, H⟩ := H; (try dsimp only at H); replace H := bd H; obtain ⟨t1028, A4, H⟩ := H; (try dsimp only at H); replace H := bd H; obtain ⟨t1029, A5, H⟩ := H; (try dsimp only at H); have HC6 := Az H; clear H; go_enter Try.func13, Try.ntmps13
  go_upto_region 6 with (first | ((with_reducible refine gK 52 rfl ?_); refine gC (some 14) Try.func52 #[.slice A0 l0.length c0] ?_; (with_reducible refine (spec_DrawRibbonTrees.calls k _ _ l0 t1021 t1024 _ ?_ ?_ A3.out).mono ?_); exact cU (HR0.out); exact HC0.out; rintro e w7 ⟨v1022, v1025, rfl, ho0, ho1, hb⟩; refine ⟨_, rfl, ?_⟩; have HO1023 := Az (Kd.Q_lower ho0 (below_size (bU0 HB.out))); have HO1026 := Az (Kd.R_lower ho1 (below_size (bU0 HB.out))); replace HB := Az (below_step (bU0 HB.out) hb); clear hb ho0 ho1) | ((with_reducible refine gd 3 rfl ?_); refine bE 3 #[.slice none 0 0, .slice none 0 0] 25 ?_; intro gb1027 hg w8 hbox hb; replace HO1023 := qB HO1023.out hb; replace HO1026 := rB HO1026.out hb; have BK1027 := Az (hbox); have GW1027 := gW hg (bU0 HB.out); replace HB := Az (below_step (bU0 HB.out) hb); clear hb hbox hg; obtain ⟨Ao9, co9, eo9, _⟩ := Kd.Q_slice HO1023.out; subst eo9; have hz10 := bc2 BK1027.out; obtain ⟨Ao11, co11, eo11⟩ := Kd.R_slice HO1026.out; subst eo11) | ((with_reducible refine gK 39 rfl ?_); refine gC (some 16) Try.func39 #[.agg #[.slice Ao9 t1021.length co9, .slice Ao11 t1024.length co11]] ?_; (with_reducible refine (impl_RibbonTrees.calls k _ _ t1021 _ _ t1024 t1028 _ ?side1 ?side2 ?side3 ?side4 A4.out).mono ?_); (case side1 => refine (Kd.Q_reads' (e := 3) (base := w.heap.size) (ok := fun k_ => oS k_ Ao11 t1024.length co11) (n := t1021.length) (c := co9) ?_).2.2; exact (qW2 HO1023.out BK1027.out)); (case side2 => exact (Kd.Q_reads' HO1023.out).2.1); (case side3 => refine (Kd.R_reads' (e := 3) (base := w.heap.size) (ok := fun k_ => oS k_ Ao9 t1021.length co9) (n := t1024.length) (c := co11) ?_).2.2; exact (rW2 HO1026.out BK1027.out)); (case side4 => exact (Kd.R_reads' HO1026.out).2.1); rintro e w12 ⟨rfl, hb⟩; refine ⟨_, rfl, ?_⟩; replace HO1023 := Az (Kd.Q_below (qW2 HO1023.out BK1027.out) hb); replace HO1026 := Az (Kd.R_below (rW2 HO1026.out BK1027.out) hb); replace BK1027 := Az (blk_below (g := gb1027) (o := .cells #[.slice Ao9 t1021.length co9, .slice Ao11 t1024.length co11] 25 (0, 0)) (by (with_reducible repeat (first | refine blk_drewN ?_ _ | refine blk_drew ?_ | refine blk_alloc ?_ _)); refine blk_put (cs := #[.slice Ao9 t1021.length co9, .slice none 0 0]) ?_ 1 _ rfl; (with_reducible repeat (first | refine blk_drewN ?_ _ | refine blk_drew ?_ | refine blk_alloc ?_ _)); refine blk_put (cs := #[.slice none 0 0, .slice none 0 0]) ?_ 0 _ rfl; (with_reducible repeat (first | refine blk_drewN ?_ _ | refine blk_drew ?_ | refine blk_alloc ?_ _)); exact BK1027.out) hb); replace HB := Az z5_12; clear hb; have hz13 := bc2 BK1027.out) | ((with_reducible refine gK 53 rfl ?_); refine gC (some 18) Try.func53 #[.agg #[.slice Ao9 t1021.length co9, .slice Ao11 t1024.length co11]] ?_; (with_reducible refine (spec_RibbonTrees.calls k _ _ t1021 _ _ t1024 t1029 _ ?_ ?_ ?_ ?_ A5.out).mono ?_); exact cU ((Kd.Q_reads' HO1023.out).2.2); exact (Kd.Q_reads' HO1023.out).2.1; exact cU ((Kd.R_reads' HO1026.out).2.2); exact (Kd.R_reads' HO1026.out).2.1; rintro e w14 ⟨rfl, hb⟩; refine ⟨_, rfl, ?_⟩; replace HO1023 := qB HO1023.out hb; replace HO1026 := rB HO1026.out hb; replace BK1027 := kB BK1027.out hb; replace HB := Az z5_12; clear hb))
  (try simp only [Act.put, List.setIfInBounds_toArray, List.set_cons_zero, List.set_cons_succ])
  go_cut [25] (fun v25 wc => ∃ (kq : Nat) (x25_5 : Bool), v25 = .bool x25_5 ∧ Aside0 (laws_FnTreesMatrix.j0 kq t1028 t1029 x25_5 t1021 t1024 = some r) ∧ Aside0 (kq ≤ k) ∧ Aside0 (Kd.Q (Kd.int .i64) 3 wc w.heap.size (fun k_ => some k_ ≠ ((.slice Ao11 t1024.length co11) : Value).ownBlock) (.slice Ao9 t1021.length co9) t1021) ∧ Aside0 (Kd.R (Kd.int .i64) 3 wc w.heap.size (fun k_ => some k_ ≠ ((.slice Ao9 t1021.length co9) : Value).ownBlock) (.slice Ao11 t1024.length co11) t1024) ∧ Aside0 (wc.heap[gb1027]? = some (.cells #[(.slice Ao9 t1021.length co9), (.slice Ao11 t1024.length co11)] 25 (0, 0))) ∧ Aside0 (Below w.heap.size w wc))
  case first =>
   have H := HC6.out; clear HC6
   replace H := gQ H; rcases H with ⟨c15b0, c15b1, H⟩ | ⟨c15b0, c15b1, H⟩
   ·
    (first | rw [c15b0] | (simp only [i64_w, i32_w]; rw [c15b0]) | skip); have H' := Az H; clear H; go_wp2; go_meet
    case rel => exact ⟨_, (decide (t1028 < 0)), rS, H', ⟨mO⟩, ⟨qU HO1023.out⟩, ⟨rU HO1026.out⟩, ⟨kU BK1027.out⟩, ⟨bU1 HB.out GW1027.out⟩⟩
   ·
    (first | rw [c15b0] | (simp only [i64_w, i32_w]; rw [c15b0]) | skip); have H' := Az H; clear H; go_wp2; go_meet
    case rel => exact ⟨_, (true), rS, H', ⟨mO⟩, ⟨qU HO1023.out⟩, ⟨rU HO1026.out⟩, ⟨kU BK1027.out⟩, ⟨bU1 HB.out GW1027.out⟩⟩
  case rest =>
   clear HC6; obtain ⟨kq, x25_5, rfl, HA, HJ5, HO_1028000, HO_1028001, BK1027, HB⟩ := hcut
   rcases kq with _ | kj5
   exact (nN HA.out).elim; have H := HA.out; clear HA; simp only [laws_FnTreesMatrix.j0] at H
   by_cases c16 : x25_5 = true
   · subst c16; rw [if_pos rfl] at H; obtain rfl := Option.some.inj H; go_wp2; go_ret; exact ⟨rE, bU1 HB.out GW1027.out⟩
   ·
    replace c16 := Bool.eq_false_iff.mpr c16; subst c16; rw [if_neg nT] at H; replace H := bd H; obtain ⟨⟨t1030, t1033, t1036⟩, A17, H⟩ := H; (try dsimp only at H); replace H := bd H; obtain ⟨⟨t1038, t1041, t1044⟩, A18, H⟩ := H; (try dsimp only at H)
    by_cases c19 : t1036 = true
    ·
     subst c19; rw [if_pos rfl] at H
     by_cases c20 : t1044 = true
     ·
      subst c20; rw [if_pos rfl] at H
      replace H := gB H; rcases H with ⟨c21b0, H⟩ | ⟨c21b0, H⟩
      ·
       replace H := bd H; obtain ⟨t1046, A22, H⟩ := H; (try dsimp only at H)
       replace H := gQ H; rcases H with ⟨c23b0, c23b1, H⟩ | ⟨c23b0, c23b1, H⟩
       ·
        replace H := bd H; obtain ⟨t1047, A24, H⟩ := H; (try dsimp only at H)
        replace H := gQ H; rcases H with ⟨c25b0, c25b1, H⟩ | ⟨c25b0, c25b1, H⟩
        ·
         replace H := bd H; obtain ⟨t1048, A26, H⟩ := H; (try dsimp only at H)
         replace H := gB H; rcases H with ⟨c27b0, H⟩ | ⟨c27b0, H⟩
         ·
          obtain rfl := Option.some.inj H; have hz28 := bc2 BK1027.out
          go_wp2_with (first | ((with_reducible refine gK 48 rfl ?_); refine gC (some 31) Try.func48 #[.agg #[.slice Ao9 t1021.length co9, .slice Ao11 t1024.length co11]] ?_; (with_reducible refine (impl_MapMirror.calls kj5 _ _ t1021 _ _ t1024 t1030 t1033 true _ ?_ ?_ ?_ ?_ A17.out).mono ?_); exact cU ((Kd.Q_reads' HO_1028000.out).2.2); exact (Kd.Q_reads' HO_1028000.out).2.1; exact cU ((Kd.R_reads' HO_1028001.out).2.2); exact (Kd.R_reads' HO_1028001.out).2.1; rintro e w29 ⟨v1031, v1034, rfl, ho0, ho1, hb⟩; refine ⟨_, rfl, ?_⟩; have HO1032 := Az z5_3; have HO1035 := Az z5_4; replace HO_1028000 := Az z5_9; replace HO_1028001 := Az z5_10; replace BK1027 := kB BK1027.out hb; replace HB := Az z5_12; clear hb ho0 ho1) | ((with_reducible refine gd 6 rfl ?_); refine bE 6 #[.slice none 0 0, .slice none 0 0] 25 ?_; intro gb1037 hg w30 hbox hb; replace HO_1028000 := qB HO_1028000.out hb; replace HO_1028001 := rB HO_1028001.out hb; replace HO1032 := rB HO1032.out hb; replace HO1035 := rB HO1035.out hb; have BK1037 := Az (hbox); have GW1037 := gW hg (bU1 HB.out GW1027.out); replace HB := Az z5_12; have NB1027_1037 := nL hg (kU BK1027.out); replace BK1027 := kB BK1027.out hb; clear hb hbox hg; obtain ⟨Ao31, co31, eo31⟩ := Kd.R_slice HO1032.out; subst eo31; have hnb32 := nP NB1027_1037; have hz33 := bc2 BK1037.out; obtain ⟨Ao34, co34, eo34⟩ := Kd.R_slice HO1035.out; subst eo34; have hz35 := bc2 BK1027.out) | ((with_reducible refine gK 26 rfl ?_); refine gC (some 36) Try.func26 #[.agg #[.slice Ao9 t1021.length co9, .slice Ao11 t1024.length co11]] ?_; (with_reducible refine (impl_MapDual.calls kj5 _ _ t1021 _ _ t1024 t1038 t1041 true _ ?side1 ?side2 ?side3 ?side4 A18.out).mono ?_); (case side1 => refine (Kd.Q_reads' (e := 3) (base := w.heap.size) (ok := fun k_ => ((oS k_ Ao11 t1024.length co11 ∧ oS k_ Ao31 t1030.length co31) ∧ oS k_ Ao34 t1033.length co34)) (n := t1021.length) (c := co9) ?_).2.2; exact (qW2 HO_1028000.out BK1037.out)); (case side2 => exact (Kd.Q_reads' HO_1028000.out).2.1); (case side3 => refine (Kd.R_reads' (e := 3) (base := w.heap.size) (ok := fun k_ => ((oS k_ Ao9 t1021.length co9 ∧ oS k_ Ao31 t1030.length co31) ∧ oS k_ Ao34 t1033.length co34)) (n := t1024.length) (c := co11) ?_).2.2; exact (rW2 HO_1028001.out BK1037.out)); (case side4 => exact (Kd.R_reads' HO_1028001.out).2.1); rintro e w36 ⟨v1039, v1042, rfl, ho0, ho1, hb⟩; refine ⟨_, rfl, ?_⟩; have HO1040 := Az z5_0; have HO1043 := Az z5_1; replace HO_1028000 := Az z5_5; replace HO_1028001 := Az z5_6; replace HO1032 := Az z5_7; replace HO1035 := Az z5_8; replace BK1027 := Az z5_2; replace BK1037 := Az (blk_below (g := gb1037) (o := .cells #[.slice Ao31 t1030.length co31, .slice Ao34 t1033.length co34] 25 (0, 0)) (by (with_reducible repeat (first | refine blk_drewN ?_ _ | refine blk_drew ?_ | refine blk_alloc ?_ _)); refine blk_put (cs := #[.slice Ao31 t1030.length co31, .slice none 0 0]) ?_ 1 _ rfl; (with_reducible repeat (first | refine blk_drewN ?_ _ | refine blk_drew ?_ | refine blk_alloc ?_ _)); refine blk_put (cs := #[.slice none 0 0, .slice none 0 0]) ?_ 0 _ rfl; (with_reducible repeat (first | refine blk_drewN ?_ _ | refine blk_drew ?_ | refine blk_alloc ?_ _)); exact BK1037.out) hb); replace HB := Az z5_11; clear hb ho0 ho1) | ((with_reducible refine gd 8 rfl ?_); refine bE 8 #[.slice none 0 0, .slice none 0 0] 25 ?_; intro gb1045 hg w37 hbox hb; replace HO_1028000 := qB HO_1028000.out hb; replace HO_1028001 := rB HO_1028001.out hb; replace HO1032 := rB HO1032.out hb; replace HO1035 := rB HO1035.out hb; replace HO1040 := rB HO1040.out hb; replace HO1043 := rB HO1043.out hb; have BK1045 := Az (hbox); have GW1045 := gW hg z5_15; replace HB := Az z5_11; have NB1027_1045 := nL hg (kU BK1027.out); replace BK1027 := kB BK1027.out hb; have NB1037_1045 := nL hg (kU BK1037.out); replace BK1037 := kB BK1037.out hb; clear hb hbox hg; obtain ⟨Ao38, co38, eo38⟩ := Kd.R_slice HO1040.out; subst eo38; have hnb39 := nP NB1027_1045; have hnb40 := nP NB1037_1045; have hz41 := bc2 BK1045.out; obtain ⟨Ao42, co42, eo42⟩ := Kd.R_slice HO1043.out; subst eo42; have hz43 := bc2 BK1027.out) | (go_at_call 41; (with_reducible refine (impl_RibbonMatrix.calls kj5 _ _ t1021 _ _ t1024 t1046 _ ?side1 ?side2 ?side3 ?side4 A22.out).mono ?_); (case side1 => refine (Kd.Q_reads' (e := 3) (base := w.heap.size) (ok := fun k_ => ((((oS k_ Ao11 t1024.length co11 ∧ oS k_ Ao31 t1030.length co31) ∧ oS k_ Ao34 t1033.length co34) ∧ oS k_ Ao38 t1038.length co38) ∧ oS k_ Ao42 t1041.length co42)) (n := t1021.length) (c := co9) ?_).2.2; exact (qW2 HO_1028000.out BK1045.out)); (case side2 => exact (Kd.Q_reads' HO_1028000.out).2.1); (case side3 => refine (Kd.R_reads' (e := 3) (base := w.heap.size) (ok := fun k_ => ((((oS k_ Ao9 t1021.length co9 ∧ oS k_ Ao31 t1030.length co31) ∧ oS k_ Ao34 t1033.length co34) ∧ oS k_ Ao38 t1038.length co38) ∧ oS k_ Ao42 t1041.length co42)) (n := t1024.length) (c := co11) ?_).2.2; exact (rW2 HO_1028001.out BK1045.out)); (case side4 => exact (Kd.R_reads' HO_1028001.out).2.1); rintro e w44 ⟨rfl, hb⟩; replace HO_1028000 := Az (Kd.Q_below (qW2 HO_1028000.out BK1045.out) hb); replace HO_1028001 := Az (Kd.R_below (rW2 HO_1028001.out BK1045.out) hb); replace HO1032 := Az (Kd.R_below (rW2 HO1032.out BK1045.out) hb); replace HO1035 := Az (Kd.R_below (rW2 HO1035.out BK1045.out) hb); replace HO1040 := Az (Kd.R_below (rW2 HO1040.out BK1045.out) hb); replace HO1043 := Az (Kd.R_below (rW2 HO1043.out BK1045.out) hb); replace BK1027 := Az z5_14; replace BK1037 := Az (blk_below (g := gb1037) (o := .cells #[.slice Ao31 t1030.length co31, .slice Ao34 t1033.length co34] 25 (0, 0)) (kF1 BK1037.out NB1037_1045.out) hb); replace BK1045 := Az (blk_below (g := gb1045) (o := .cells #[.slice Ao38 t1038.length co38, .slice Ao42 t1041.length co42] 25 (0, 0)) (by (with_reducible repeat (first | refine blk_drewN ?_ _ | refine blk_drew ?_ | refine blk_alloc ?_ _)); refine blk_put (cs := #[.slice Ao38 t1038.length co38, .slice none 0 0]) ?_ 1 _ rfl; (with_reducible repeat (first | refine blk_drewN ?_ _ | refine blk_drew ?_ | refine blk_alloc ?_ _)); refine blk_put (cs := #[.slice none 0 0, .slice none 0 0]) ?_ 0 _ rfl; (with_reducible repeat (first | refine blk_drewN ?_ _ | refine blk_drew ?_ | refine blk_alloc ?_ _)); exact BK1045.out) hb); replace HB := Az z5_13; clear hb; have hz45 := bc2 BK1037.out) | (go_at_call 39; (with_reducible refine (impl_RibbonTrees.calls kj5 _ _ t1030 _ _ t1033 t1047 _ ?_ ?_ ?_ ?_ A24.out).mono ?_); exact cU ((Kd.R_reads' HO1032.out).2.2); exact (Kd.R_reads' HO1032.out).2.1; exact cU ((Kd.R_reads' HO1035.out).2.2); exact (Kd.R_reads' HO1035.out).2.1; rintro e w46 ⟨rfl, hb⟩; replace HO_1028000 := qB HO_1028000.out hb; replace HO_1028001 := rB HO_1028001.out hb; replace HO1032 := rB HO1032.out hb; replace HO1035 := rB HO1035.out hb; replace HO1040 := rB HO1040.out hb; replace HO1043 := rB HO1043.out hb; replace BK1027 := kB BK1027.out hb; replace BK1037 := kB BK1037.out hb; replace BK1045 := kB BK1045.out hb; replace HB := Az z5_13; clear hb; have hz47 := bc2 BK1027.out) | (go_at_call 22; (with_reducible refine (impl_MapGenus.calls kj5 _ _ t1021 _ _ t1024 t1048 _ ?_ ?_ ?_ ?_ A26.out).mono ?_); exact cU ((Kd.Q_reads' HO_1028000.out).2.2); exact (Kd.Q_reads' HO_1028000.out).2.1; exact cU ((Kd.R_reads' HO_1028001.out).2.2); exact (Kd.R_reads' HO_1028001.out).2.1; rintro e w48 ⟨rfl, hb⟩; replace HO_1028000 := qB HO_1028000.out hb; replace HO_1028001 := rB HO_1028001.out hb; replace HO1032 := rB HO1032.out hb; replace HO1035 := rB HO1035.out hb; replace HO1040 := rB HO1040.out hb; replace HO1043 := rB HO1043.out hb; replace BK1027 := kB BK1027.out hb; replace BK1037 := kB BK1037.out hb; replace BK1045 := kB BK1045.out hb; replace HB := Az z5_13; clear hb))
          go_ret; exact ⟨rE, bU3 HB.out GW1027.out GW1037.out GW1045.out⟩
         ·
          replace H := bd H; obtain ⟨t1049, A49, H⟩ := H; (try dsimp only at H); obtain rfl := Option.some.inj H; have hz50 := bc2 BK1027.out
          go_wp2_with (first | ((with_reducible refine gK 48 rfl ?_); refine gC (some 31) Try.func48 #[.agg #[.slice Ao9 t1021.length co9, .slice Ao11 t1024.length co11]] ?_; (with_reducible refine (impl_MapMirror.calls kj5 _ _ t1021 _ _ t1024 t1030 t1033 true _ ?_ ?_ ?_ ?_ A17.out).mono ?_); exact cU ((Kd.Q_reads' HO_1028000.out).2.2); exact (Kd.Q_reads' HO_1028000.out).2.1; exact cU ((Kd.R_reads' HO_1028001.out).2.2); exact (Kd.R_reads' HO_1028001.out).2.1; rintro e w51 ⟨v1031, v1034, rfl, ho0, ho1, hb⟩; refine ⟨_, rfl, ?_⟩; have HO1032 := Az z5_3; have HO1035 := Az z5_4; replace HO_1028000 := Az z5_9; replace HO_1028001 := Az z5_10; replace BK1027 := kB BK1027.out hb; replace HB := Az z5_12; clear hb ho0 ho1) | ((with_reducible refine gd 6 rfl ?_); refine bE 6 #[.slice none 0 0, .slice none 0 0] 25 ?_; intro gb1037 hg w52 hbox hb; replace HO_1028000 := qB HO_1028000.out hb; replace HO_1028001 := rB HO_1028001.out hb; replace HO1032 := rB HO1032.out hb; replace HO1035 := rB HO1035.out hb; have BK1037 := Az (hbox); have GW1037 := gW hg (bU1 HB.out GW1027.out); replace HB := Az z5_12; have NB1027_1037 := nL hg (kU BK1027.out); replace BK1027 := kB BK1027.out hb; clear hb hbox hg; obtain ⟨Ao53, co53, eo53⟩ := Kd.R_slice HO1032.out; subst eo53; have hnb54 := nP NB1027_1037; have hz55 := bc2 BK1037.out; obtain ⟨Ao56, co56, eo56⟩ := Kd.R_slice HO1035.out; subst eo56; have hz57 := bc2 BK1027.out) | ((with_reducible refine gK 26 rfl ?_); refine gC (some 36) Try.func26 #[.agg #[.slice Ao9 t1021.length co9, .slice Ao11 t1024.length co11]] ?_; (with_reducible refine (impl_MapDual.calls kj5 _ _ t1021 _ _ t1024 t1038 t1041 true _ ?side1 ?side2 ?side3 ?side4 A18.out).mono ?_); (case side1 => refine (Kd.Q_reads' (e := 3) (base := w.heap.size) (ok := fun k_ => ((oS k_ Ao11 t1024.length co11 ∧ oS k_ Ao53 t1030.length co53) ∧ oS k_ Ao56 t1033.length co56)) (n := t1021.length) (c := co9) ?_).2.2; exact (qW2 HO_1028000.out BK1037.out)); (case side2 => exact (Kd.Q_reads' HO_1028000.out).2.1); (case side3 => refine (Kd.R_reads' (e := 3) (base := w.heap.size) (ok := fun k_ => ((oS k_ Ao9 t1021.length co9 ∧ oS k_ Ao53 t1030.length co53) ∧ oS k_ Ao56 t1033.length co56)) (n := t1024.length) (c := co11) ?_).2.2; exact (rW2 HO_1028001.out BK1037.out)); (case side4 => exact (Kd.R_reads' HO_1028001.out).2.1); rintro e w58 ⟨v1039, v1042, rfl, ho0, ho1, hb⟩; refine ⟨_, rfl, ?_⟩; have HO1040 := Az z5_0; have HO1043 := Az z5_1; replace HO_1028000 := Az z5_5; replace HO_1028001 := Az z5_6; replace HO1032 := Az z5_7; replace HO1035 := Az z5_8; replace BK1027 := Az z5_2; replace BK1037 := Az (blk_below (g := gb1037) (o := .cells #[.slice Ao53 t1030.length co53, .slice Ao56 t1033.length co56] 25 (0, 0)) (by (with_reducible repeat (first | refine blk_drewN ?_ _ | refine blk_drew ?_ | refine blk_alloc ?_ _)); refine blk_put (cs := #[.slice Ao53 t1030.length co53, .slice none 0 0]) ?_ 1 _ rfl; (with_reducible repeat (first | refine blk_drewN ?_ _ | refine blk_drew ?_ | refine blk_alloc ?_ _)); refine blk_put (cs := #[.slice none 0 0, .slice none 0 0]) ?_ 0 _ rfl; (with_reducible repeat (first | refine blk_drewN ?_ _ | refine blk_drew ?_ | refine blk_alloc ?_ _)); exact BK1037.out) hb); replace HB := Az z5_11; clear hb ho0 ho1) | ((with_reducible refine gd 8 rfl ?_); refine bE 8 #[.slice none 0 0, .slice none 0 0] 25 ?_; intro gb1045 hg w59 hbox hb; replace HO_1028000 := qB HO_1028000.out hb; replace HO_1028001 := rB HO_1028001.out hb; replace HO1032 := rB HO1032.out hb; replace HO1035 := rB HO1035.out hb; replace HO1040 := rB HO1040.out hb; replace HO1043 := rB HO1043.out hb; have BK1045 := Az (hbox); have GW1045 := gW hg z5_15; replace HB := Az z5_11; have NB1027_1045 := nL hg (kU BK1027.out); replace BK1027 := kB BK1027.out hb; have NB1037_1045 := nL hg (kU BK1037.out); replace BK1037 := kB BK1037.out hb; clear hb hbox hg; obtain ⟨Ao60, co60, eo60⟩ := Kd.R_slice HO1040.out; subst eo60; have hnb61 := nP NB1027_1045; have hnb62 := nP NB1037_1045; have hz63 := bc2 BK1045.out; obtain ⟨Ao64, co64, eo64⟩ := Kd.R_slice HO1043.out; subst eo64; have hz65 := bc2 BK1027.out) | (go_at_call 41; (with_reducible refine (impl_RibbonMatrix.calls kj5 _ _ t1021 _ _ t1024 t1046 _ ?side1 ?side2 ?side3 ?side4 A22.out).mono ?_); (case side1 => refine (Kd.Q_reads' (e := 3) (base := w.heap.size) (ok := fun k_ => ((((oS k_ Ao11 t1024.length co11 ∧ oS k_ Ao53 t1030.length co53) ∧ oS k_ Ao56 t1033.length co56) ∧ oS k_ Ao60 t1038.length co60) ∧ oS k_ Ao64 t1041.length co64)) (n := t1021.length) (c := co9) ?_).2.2; exact (qW2 HO_1028000.out BK1045.out)); (case side2 => exact (Kd.Q_reads' HO_1028000.out).2.1); (case side3 => refine (Kd.R_reads' (e := 3) (base := w.heap.size) (ok := fun k_ => ((((oS k_ Ao9 t1021.length co9 ∧ oS k_ Ao53 t1030.length co53) ∧ oS k_ Ao56 t1033.length co56) ∧ oS k_ Ao60 t1038.length co60) ∧ oS k_ Ao64 t1041.length co64)) (n := t1024.length) (c := co11) ?_).2.2; exact (rW2 HO_1028001.out BK1045.out)); (case side4 => exact (Kd.R_reads' HO_1028001.out).2.1); rintro e w66 ⟨rfl, hb⟩; replace HO_1028000 := Az (Kd.Q_below (qW2 HO_1028000.out BK1045.out) hb); replace HO_1028001 := Az (Kd.R_below (rW2 HO_1028001.out BK1045.out) hb); replace HO1032 := Az (Kd.R_below (rW2 HO1032.out BK1045.out) hb); replace HO1035 := Az (Kd.R_below (rW2 HO1035.out BK1045.out) hb); replace HO1040 := Az (Kd.R_below (rW2 HO1040.out BK1045.out) hb); replace HO1043 := Az (Kd.R_below (rW2 HO1043.out BK1045.out) hb); replace BK1027 := Az z5_14; replace BK1037 := Az (blk_below (g := gb1037) (o := .cells #[.slice Ao53 t1030.length co53, .slice Ao56 t1033.length co56] 25 (0, 0)) (kF1 BK1037.out NB1037_1045.out) hb); replace BK1045 := Az (blk_below (g := gb1045) (o := .cells #[.slice Ao60 t1038.length co60, .slice Ao64 t1041.length co64] 25 (0, 0)) (by (with_reducible repeat (first | refine blk_drewN ?_ _ | refine blk_drew ?_ | refine blk_alloc ?_ _)); refine blk_put (cs := #[.slice Ao60 t1038.length co60, .slice none 0 0]) ?_ 1 _ rfl; (with_reducible repeat (first | refine blk_drewN ?_ _ | refine blk_drew ?_ | refine blk_alloc ?_ _)); refine blk_put (cs := #[.slice none 0 0, .slice none 0 0]) ?_ 0 _ rfl; (with_reducible repeat (first | refine blk_drewN ?_ _ | refine blk_drew ?_ | refine blk_alloc ?_ _)); exact BK1045.out) hb); replace HB := Az z5_13; clear hb; have hz67 := bc2 BK1037.out) | (go_at_call 39; (with_reducible refine (impl_RibbonTrees.calls kj5 _ _ t1030 _ _ t1033 t1047 _ ?_ ?_ ?_ ?_ A24.out).mono ?_); exact cU ((Kd.R_reads' HO1032.out).2.2); exact (Kd.R_reads' HO1032.out).2.1; exact cU ((Kd.R_reads' HO1035.out).2.2); exact (Kd.R_reads' HO1035.out).2.1; rintro e w68 ⟨rfl, hb⟩; replace HO_1028000 := qB HO_1028000.out hb; replace HO_1028001 := rB HO_1028001.out hb; replace HO1032 := rB HO1032.out hb; replace HO1035 := rB HO1035.out hb; replace HO1040 := rB HO1040.out hb; replace HO1043 := rB HO1043.out hb; replace BK1027 := kB BK1027.out hb; replace BK1037 := kB BK1037.out hb; replace BK1045 := kB BK1045.out hb; replace HB := Az z5_13; clear hb; have hz69 := bc2 BK1027.out) | (go_at_call 22; (with_reducible refine (impl_MapGenus.calls kj5 _ _ t1021 _ _ t1024 t1048 _ ?_ ?_ ?_ ?_ A26.out).mono ?_); exact cU ((Kd.Q_reads' HO_1028000.out).2.2); exact (Kd.Q_reads' HO_1028000.out).2.1; exact cU ((Kd.R_reads' HO_1028001.out).2.2); exact (Kd.R_reads' HO_1028001.out).2.1; rintro e w70 ⟨rfl, hb⟩; replace HO_1028000 := qB HO_1028000.out hb; replace HO_1028001 := rB HO_1028001.out hb; replace HO1032 := rB HO1032.out hb; replace HO1035 := rB HO1035.out hb; replace HO1040 := rB HO1040.out hb; replace HO1043 := rB HO1043.out hb; replace BK1027 := kB BK1027.out hb; replace BK1037 := kB BK1037.out hb; replace BK1045 := kB BK1045.out hb; replace HB := Az z5_13; clear hb; have hz71 := bc2 BK1045.out) | (go_at_call 39; (with_reducible refine (impl_RibbonTrees.calls kj5 _ _ t1038 _ _ t1041 t1049 _ ?_ ?_ ?_ ?_ A49.out).mono ?_); exact cU ((Kd.R_reads' HO1040.out).2.2); exact (Kd.R_reads' HO1040.out).2.1; exact cU ((Kd.R_reads' HO1043.out).2.2); exact (Kd.R_reads' HO1043.out).2.1; rintro e w72 ⟨rfl, hb⟩; replace HO_1028000 := qB HO_1028000.out hb; replace HO_1028001 := rB HO_1028001.out hb; replace HO1032 := rB HO1032.out hb; replace HO1035 := rB HO1035.out hb; replace HO1040 := rB HO1040.out hb; replace HO1043 := rB HO1043.out hb; replace BK1027 := kB BK1027.out hb; replace BK1037 := kB BK1037.out hb; replace BK1045 := kB BK1045.out hb; replace HB := Az z5_13; clear hb))
          go_ret; exact ⟨rE, bU3 HB.out GW1027.out GW1037.out GW1045.out⟩
        ·
         obtain rfl := Option.some.inj H; have hz73 := bc2 BK1027.out
         go_wp2_with (first | ((with_reducible refine gK 48 rfl ?_); refine gC (some 31) Try.func48 #[.agg #[.slice Ao9 t1021.length co9, .slice Ao11 t1024.length co11]] ?_; (with_reducible refine (impl_MapMirror.calls kj5 _ _ t1021 _ _ t1024 t1030 t1033 true _ ?_ ?_ ?_ ?_ A17.out).mono ?_); exact cU ((Kd.Q_reads' HO_1028000.out).2.2); exact (Kd.Q_reads' HO_1028000.out).2.1; exact cU ((Kd.R_reads' HO_1028001.out).2.2); exact (Kd.R_reads' HO_1028001.out).2.1; rintro e w74 ⟨v1031, v1034, rfl, ho0, ho1, hb⟩; refine ⟨_, rfl, ?_⟩; have HO1032 := Az z5_3; have HO1035 := Az z5_4; replace HO_1028000 := Az z5_9; replace HO_1028001 := Az z5_10; replace BK1027 := kB BK1027.out hb; replace HB := Az z5_12; clear hb ho0 ho1) | ((with_reducible refine gd 6 rfl ?_); refine bE 6 #[.slice none 0 0, .slice none 0 0] 25 ?_; intro gb1037 hg w75 hbox hb; replace HO_1028000 := qB HO_1028000.out hb; replace HO_1028001 := rB HO_1028001.out hb; replace HO1032 := rB HO1032.out hb; replace HO1035 := rB HO1035.out hb; have BK1037 := Az (hbox); have GW1037 := gW hg (bU1 HB.out GW1027.out); replace HB := Az z5_12; have NB1027_1037 := nL hg (kU BK1027.out); replace BK1027 := kB BK1027.out hb; clear hb hbox hg; obtain ⟨Ao76, co76, eo76⟩ := Kd.R_slice HO1032.out; subst eo76; have hnb77 := nP NB1027_1037; have hz78 := bc2 BK1037.out; obtain ⟨Ao79, co79, eo79⟩ := Kd.R_slice HO1035.out; subst eo79; have hz80 := bc2 BK1027.out) | ((with_reducible refine gK 26 rfl ?_); refine gC (some 36) Try.func26 #[.agg #[.slice Ao9 t1021.length co9, .slice Ao11 t1024.length co11]] ?_; (with_reducible refine (impl_MapDual.calls kj5 _ _ t1021 _ _ t1024 t1038 t1041 true _ ?side1 ?side2 ?side3 ?side4 A18.out).mono ?_); (case side1 => refine (Kd.Q_reads' (e := 3) (base := w.heap.size) (ok := fun k_ => ((oS k_ Ao11 t1024.length co11 ∧ oS k_ Ao76 t1030.length co76) ∧ oS k_ Ao79 t1033.length co79)) (n := t1021.length) (c := co9) ?_).2.2; exact (qW2 HO_1028000.out BK1037.out)); (case side2 => exact (Kd.Q_reads' HO_1028000.out).2.1); (case side3 => refine (Kd.R_reads' (e := 3) (base := w.heap.size) (ok := fun k_ => ((oS k_ Ao9 t1021.length co9 ∧ oS k_ Ao76 t1030.length co76) ∧ oS k_ Ao79 t1033.length co79)) (n := t1024.length) (c := co11) ?_).2.2; exact (rW2 HO_1028001.out BK1037.out)); (case side4 => exact (Kd.R_reads' HO_1028001.out).2.1); rintro e w81 ⟨v1039, v1042, rfl, ho0, ho1, hb⟩; refine ⟨_, rfl, ?_⟩; have HO1040 := Az z5_0; have HO1043 := Az z5_1; replace HO_1028000 := Az z5_5; replace HO_1028001 := Az z5_6; replace HO1032 := Az z5_7; replace HO1035 := Az z5_8; replace BK1027 := Az z5_2; replace BK1037 := Az (blk_below (g := gb1037) (o := .cells #[.slice Ao76 t1030.length co76, .slice Ao79 t1033.length co79] 25 (0, 0)) (by (with_reducible repeat (first | refine blk_drewN ?_ _ | refine blk_drew ?_ | refine blk_alloc ?_ _)); refine blk_put (cs := #[.slice Ao76 t1030.length co76, .slice none 0 0]) ?_ 1 _ rfl; (with_reducible repeat (first | refine blk_drewN ?_ _ | refine blk_drew ?_ | refine blk_alloc ?_ _)); refine blk_put (cs := #[.slice none 0 0, .slice none 0 0]) ?_ 0 _ rfl; (with_reducible repeat (first | refine blk_drewN ?_ _ | refine blk_drew ?_ | refine blk_alloc ?_ _)); exact BK1037.out) hb); replace HB := Az z5_11; clear hb ho0 ho1) | ((with_reducible refine gd 8 rfl ?_); refine bE 8 #[.slice none 0 0, .slice none 0 0] 25 ?_; intro gb1045 hg w82 hbox hb; replace HO_1028000 := qB HO_1028000.out hb; replace HO_1028001 := rB HO_1028001.out hb; replace HO1032 := rB HO1032.out hb; replace HO1035 := rB HO1035.out hb; replace HO1040 := rB HO1040.out hb; replace HO1043 := rB HO1043.out hb; have BK1045 := Az (hbox); have GW1045 := gW hg z5_15; replace HB := Az z5_11; have NB1027_1045 := nL hg (kU BK1027.out); replace BK1027 := kB BK1027.out hb; have NB1037_1045 := nL hg (kU BK1037.out); replace BK1037 := kB BK1037.out hb; clear hb hbox hg; obtain ⟨Ao83, co83, eo83⟩ := Kd.R_slice HO1040.out; subst eo83; have hnb84 := nP NB1027_1045; have hnb85 := nP NB1037_1045; have hz86 := bc2 BK1045.out; obtain ⟨Ao87, co87, eo87⟩ := Kd.R_slice HO1043.out; subst eo87; have hz88 := bc2 BK1027.out) | (go_at_call 41; (with_reducible refine (impl_RibbonMatrix.calls kj5 _ _ t1021 _ _ t1024 t1046 _ ?side1 ?side2 ?side3 ?side4 A22.out).mono ?_); (case side1 => refine (Kd.Q_reads' (e := 3) (base := w.heap.size) (ok := fun k_ => ((((oS k_ Ao11 t1024.length co11 ∧ oS k_ Ao76 t1030.length co76) ∧ oS k_ Ao79 t1033.length co79) ∧ oS k_ Ao83 t1038.length co83) ∧ oS k_ Ao87 t1041.length co87)) (n := t1021.length) (c := co9) ?_).2.2; exact (qW2 HO_1028000.out BK1045.out)); (case side2 => exact (Kd.Q_reads' HO_1028000.out).2.1); (case side3 => refine (Kd.R_reads' (e := 3) (base := w.heap.size) (ok := fun k_ => ((((oS k_ Ao9 t1021.length co9 ∧ oS k_ Ao76 t1030.length co76) ∧ oS k_ Ao79 t1033.length co79) ∧ oS k_ Ao83 t1038.length co83) ∧ oS k_ Ao87 t1041.length co87)) (n := t1024.length) (c := co11) ?_).2.2; exact (rW2 HO_1028001.out BK1045.out)); (case side4 => exact (Kd.R_reads' HO_1028001.out).2.1); rintro e w89 ⟨rfl, hb⟩; replace HO_1028000 := Az (Kd.Q_below (qW2 HO_1028000.out BK1045.out) hb); replace HO_1028001 := Az (Kd.R_below (rW2 HO_1028001.out BK1045.out) hb); replace HO1032 := Az (Kd.R_below (rW2 HO1032.out BK1045.out) hb); replace HO1035 := Az (Kd.R_below (rW2 HO1035.out BK1045.out) hb); replace HO1040 := Az (Kd.R_below (rW2 HO1040.out BK1045.out) hb); replace HO1043 := Az (Kd.R_below (rW2 HO1043.out BK1045.out) hb); replace BK1027 := Az z5_14; replace BK1037 := Az (blk_below (g := gb1037) (o := .cells #[.slice Ao76 t1030.length co76, .slice Ao79 t1033.length co79] 25 (0, 0)) (kF1 BK1037.out NB1037_1045.out) hb); replace BK1045 := Az (blk_below (g := gb1045) (o := .cells #[.slice Ao83 t1038.length co83, .slice Ao87 t1041.length co87] 25 (0, 0)) (by (with_reducible repeat (first | refine blk_drewN ?_ _ | refine blk_drew ?_ | refine blk_alloc ?_ _)); refine blk_put (cs := #[.slice Ao83 t1038.length co83, .slice none 0 0]) ?_ 1 _ rfl; (with_reducible repeat (first | refine blk_drewN ?_ _ | refine blk_drew ?_ | refine blk_alloc ?_ _)); refine blk_put (cs := #[.slice none 0 0, .slice none 0 0]) ?_ 0 _ rfl; (with_reducible repeat (first | refine blk_drewN ?_ _ | refine blk_drew ?_ | refine blk_alloc ?_ _)); exact BK1045.out) hb); replace HB := Az z5_13; clear hb; have hz90 := bc2 BK1037.out) | (go_at_call 39; (with_reducible refine (impl_RibbonTrees.calls kj5 _ _ t1030 _ _ t1033 t1047 _ ?_ ?_ ?_ ?_ A24.out).mono ?_); exact cU ((Kd.R_reads' HO1032.out).2.2); exact (Kd.R_reads' HO1032.out).2.1; exact cU ((Kd.R_reads' HO1035.out).2.2); exact (Kd.R_reads' HO1035.out).2.1; rintro e w91 ⟨rfl, hb⟩; replace HO_1028000 := qB HO_1028000.out hb; replace HO_1028001 := rB HO_1028001.out hb; replace HO1032 := rB HO1032.out hb; replace HO1035 := rB HO1035.out hb; replace HO1040 := rB HO1040.out hb; replace HO1043 := rB HO1043.out hb; replace BK1027 := kB BK1027.out hb; replace BK1037 := kB BK1037.out hb; replace BK1045 := kB BK1045.out hb; replace HB := Az z5_13; clear hb))
         go_ret; exact ⟨rE, bU3 HB.out GW1027.out GW1037.out GW1045.out⟩
       ·
        obtain rfl := Option.some.inj H; have hz92 := bc2 BK1027.out
        go_wp2_with (first | ((with_reducible refine gK 48 rfl ?_); refine gC (some 31) Try.func48 #[.agg #[.slice Ao9 t1021.length co9, .slice Ao11 t1024.length co11]] ?_; (with_reducible refine (impl_MapMirror.calls kj5 _ _ t1021 _ _ t1024 t1030 t1033 true _ ?_ ?_ ?_ ?_ A17.out).mono ?_); exact cU ((Kd.Q_reads' HO_1028000.out).2.2); exact (Kd.Q_reads' HO_1028000.out).2.1; exact cU ((Kd.R_reads' HO_1028001.out).2.2); exact (Kd.R_reads' HO_1028001.out).2.1; rintro e w93 ⟨v1031, v1034, rfl, ho0, ho1, hb⟩; refine ⟨_, rfl, ?_⟩; have HO1032 := Az z5_3; have HO1035 := Az z5_4; replace HO_1028000 := Az z5_9; replace HO_1028001 := Az z5_10; replace BK1027 := kB BK1027.out hb; replace HB := Az z5_12; clear hb ho0 ho1) | ((with_reducible refine gd 6 rfl ?_); refine bE 6 #[.slice none 0 0, .slice none 0 0] 25 ?_; intro gb1037 hg w94 hbox hb; replace HO_1028000 := qB HO_1028000.out hb; replace HO_1028001 := rB HO_1028001.out hb; replace HO1032 := rB HO1032.out hb; replace HO1035 := rB HO1035.out hb; have BK1037 := Az (hbox); have GW1037 := gW hg (bU1 HB.out GW1027.out); replace HB := Az z5_12; have NB1027_1037 := nL hg (kU BK1027.out); replace BK1027 := kB BK1027.out hb; clear hb hbox hg; obtain ⟨Ao95, co95, eo95⟩ := Kd.R_slice HO1032.out; subst eo95; have hnb96 := nP NB1027_1037; have hz97 := bc2 BK1037.out; obtain ⟨Ao98, co98, eo98⟩ := Kd.R_slice HO1035.out; subst eo98; have hz99 := bc2 BK1027.out) | ((with_reducible refine gK 26 rfl ?_); refine gC (some 36) Try.func26 #[.agg #[.slice Ao9 t1021.length co9, .slice Ao11 t1024.length co11]] ?_; (with_reducible refine (impl_MapDual.calls kj5 _ _ t1021 _ _ t1024 t1038 t1041 true _ ?side1 ?side2 ?side3 ?side4 A18.out).mono ?_); (case side1 => refine (Kd.Q_reads' (e := 3) (base := w.heap.size) (ok := fun k_ => ((oS k_ Ao11 t1024.length co11 ∧ oS k_ Ao95 t1030.length co95) ∧ oS k_ Ao98 t1033.length co98)) (n := t1021.length) (c := co9) ?_).2.2; exact (qW2 HO_1028000.out BK1037.out)); (case side2 => exact (Kd.Q_reads' HO_1028000.out).2.1); (case side3 => refine (Kd.R_reads' (e := 3) (base := w.heap.size) (ok := fun k_ => ((oS k_ Ao9 t1021.length co9 ∧ oS k_ Ao95 t1030.length co95) ∧ oS k_ Ao98 t1033.length co98)) (n := t1024.length) (c := co11) ?_).2.2; exact (rW2 HO_1028001.out BK1037.out)); (case side4 => exact (Kd.R_reads' HO_1028001.out).2.1); rintro e w100 ⟨v1039, v1042, rfl, ho0, ho1, hb⟩; refine ⟨_, rfl, ?_⟩; have HO1040 := Az z5_0; have HO1043 := Az z5_1; replace HO_1028000 := Az z5_5; replace HO_1028001 := Az z5_6; replace HO1032 := Az z5_7; replace HO1035 := Az z5_8; replace BK1027 := Az z5_2; replace BK1037 := Az (blk_below (g := gb1037) (o := .cells #[.slice Ao95 t1030.length co95, .slice Ao98 t1033.length co98] 25 (0, 0)) (by (with_reducible repeat (first | refine blk_drewN ?_ _ | refine blk_drew ?_ | refine blk_alloc ?_ _)); refine blk_put (cs := #[.slice Ao95 t1030.length co95, .slice none 0 0]) ?_ 1 _ rfl; (with_reducible repeat (first | refine blk_drewN ?_ _ | refine blk_drew ?_ | refine blk_alloc ?_ _)); refine blk_put (cs := #[.slice none 0 0, .slice none 0 0]) ?_ 0 _ rfl; (with_reducible repeat (first | refine blk_drewN ?_ _ | refine blk_drew ?_ | refine blk_alloc ?_ _)); exact BK1037.out) hb); replace HB := Az z5_11; clear hb ho0 ho1) | ((with_reducible refine gd 8 rfl ?_); refine bE 8 #[.slice none 0 0, .slice none 0 0] 25 ?_; intro gb1045 hg w101 hbox hb; replace HO_1028000 := qB HO_1028000.out hb; replace HO_1028001 := rB HO_1028001.out hb; replace HO1032 := rB HO1032.out hb; replace HO1035 := rB HO1035.out hb; replace HO1040 := rB HO1040.out hb; replace HO1043 := rB HO1043.out hb; have BK1045 := Az (hbox); have GW1045 := gW hg z5_15; replace HB := Az z5_11; have NB1027_1045 := nL hg (kU BK1027.out); replace BK1027 := kB BK1027.out hb; have NB1037_1045 := nL hg (kU BK1037.out); replace BK1037 := kB BK1037.out hb; clear hb hbox hg; obtain ⟨Ao102, co102, eo102⟩ := Kd.R_slice HO1040.out; subst eo102; have hnb103 := nP NB1027_1045; have hnb104 := nP NB1037_1045; have hz105 := bc2 BK1045.out; obtain ⟨Ao106, co106, eo106⟩ := Kd.R_slice HO1043.out; subst eo106; have hz107 := bc2 BK1027.out) | (go_at_call 41; (with_reducible refine (impl_RibbonMatrix.calls kj5 _ _ t1021 _ _ t1024 t1046 _ ?side1 ?side2 ?side3 ?side4 A22.out).mono ?_); (case side1 => refine (Kd.Q_reads' (e := 3) (base := w.heap.size) (ok := fun k_ => ((((oS k_ Ao11 t1024.length co11 ∧ oS k_ Ao95 t1030.length co95) ∧ oS k_ Ao98 t1033.length co98) ∧ oS k_ Ao102 t1038.length co102) ∧ oS k_ Ao106 t1041.length co106)) (n := t1021.length) (c := co9) ?_).2.2; exact (qW2 HO_1028000.out BK1045.out)); (case side2 => exact (Kd.Q_reads' HO_1028000.out).2.1); (case side3 => refine (Kd.R_reads' (e := 3) (base := w.heap.size) (ok := fun k_ => ((((oS k_ Ao9 t1021.length co9 ∧ oS k_ Ao95 t1030.length co95) ∧ oS k_ Ao98 t1033.length co98) ∧ oS k_ Ao102 t1038.length co102) ∧ oS k_ Ao106 t1041.length co106)) (n := t1024.length) (c := co11) ?_).2.2; exact (rW2 HO_1028001.out BK1045.out)); (case side4 => exact (Kd.R_reads' HO_1028001.out).2.1); rintro e w108 ⟨rfl, hb⟩; replace HO_1028000 := Az (Kd.Q_below (qW2 HO_1028000.out BK1045.out) hb); replace HO_1028001 := Az (Kd.R_below (rW2 HO_1028001.out BK1045.out) hb); replace HO1032 := Az (Kd.R_below (rW2 HO1032.out BK1045.out) hb); replace HO1035 := Az (Kd.R_below (rW2 HO1035.out BK1045.out) hb); replace HO1040 := Az (Kd.R_below (rW2 HO1040.out BK1045.out) hb); replace HO1043 := Az (Kd.R_below (rW2 HO1043.out BK1045.out) hb); replace BK1027 := Az z5_14; replace BK1037 := Az (blk_below (g := gb1037) (o := .cells #[.slice Ao95 t1030.length co95, .slice Ao98 t1033.length co98] 25 (0, 0)) (kF1 BK1037.out NB1037_1045.out) hb); replace BK1045 := Az (blk_below (g := gb1045) (o := .cells #[.slice Ao102 t1038.length co102, .slice Ao106 t1041.length co106] 25 (0, 0)) (by (with_reducible repeat (first | refine blk_drewN ?_ _ | refine blk_drew ?_ | refine blk_alloc ?_ _)); refine blk_put (cs := #[.slice Ao102 t1038.length co102, .slice none 0 0]) ?_ 1 _ rfl; (with_reducible repeat (first | refine blk_drewN ?_ _ | refine blk_drew ?_ | refine blk_alloc ?_ _)); refine blk_put (cs := #[.slice none 0 0, .slice none 0 0]) ?_ 0 _ rfl; (with_reducible repeat (first | refine blk_drewN ?_ _ | refine blk_drew ?_ | refine blk_alloc ?_ _)); exact BK1045.out) hb); replace HB := Az z5_13; clear hb))
        go_ret; exact ⟨rE, bU3 HB.out GW1027.out GW1037.out GW1045.out⟩
      ·
       obtain rfl := Option.some.inj H; have hz109 := bc2 BK1027.out
       go_wp2_with (first | ((with_reducible refine gK 48 rfl ?_); refine gC (some 31) Try.func48 #[.agg #[.slice Ao9 t1021.length co9, .slice Ao11 t1024.length co11]] ?_; (with_reducible refine (impl_MapMirror.calls kj5 _ _ t1021 _ _ t1024 t1030 t1033 true _ ?_ ?_ ?_ ?_ A17.out).mono ?_); exact cU ((Kd.Q_reads' HO_1028000.out).2.2); exact (Kd.Q_reads' HO_1028000.out).2.1; exact cU ((Kd.R_reads' HO_1028001.out).2.2); exact (Kd.R_reads' HO_1028001.out).2.1; rintro e w110 ⟨v1031, v1034, rfl, ho0, ho1, hb⟩; refine ⟨_, rfl, ?_⟩; have HO1032 := Az z5_3; have HO1035 := Az z5_4; replace HO_1028000 := Az z5_9; replace HO_1028001 := Az z5_10; replace BK1027 := kB BK1027.out hb; replace HB := Az z5_12; clear hb ho0 ho1) | ((with_reducible refine gd 6 rfl ?_); refine bE 6 #[.slice none 0 0, .slice none 0 0] 25 ?_; intro gb1037 hg w111 hbox hb; replace HO_1028000 := qB HO_1028000.out hb; replace HO_1028001 := rB HO_1028001.out hb; replace HO1032 := rB HO1032.out hb; replace HO1035 := rB HO1035.out hb; have BK1037 := Az (hbox); have GW1037 := gW hg (bU1 HB.out GW1027.out); replace HB := Az z5_12; have NB1027_1037 := nL hg (kU BK1027.out); replace BK1027 := kB BK1027.out hb; clear hb hbox hg; obtain ⟨Ao112, co112, eo112⟩ := Kd.R_slice HO1032.out; subst eo112; have hnb113 := nP NB1027_1037; have hz114 := bc2 BK1037.out; obtain ⟨Ao115, co115, eo115⟩ := Kd.R_slice HO1035.out; subst eo115; have hz116 := bc2 BK1027.out) | ((with_reducible refine gK 26 rfl ?_); refine gC (some 36) Try.func26 #[.agg #[.slice Ao9 t1021.length co9, .slice Ao11 t1024.length co11]] ?_; (with_reducible refine (impl_MapDual.calls kj5 _ _ t1021 _ _ t1024 t1038 t1041 true _ ?side1 ?side2 ?side3 ?side4 A18.out).mono ?_); (case side1 => refine (Kd.Q_reads' (e := 3) (base := w.heap.size) (ok := fun k_ => ((oS k_ Ao11 t1024.length co11 ∧ oS k_ Ao112 t1030.length co112) ∧ oS k_ Ao115 t1033.length co115)) (n := t1021.length) (c := co9) ?_).2.2; exact (qW2 HO_1028000.out BK1037.out)); (case side2 => exact (Kd.Q_reads' HO_1028000.out).2.1); (case side3 => refine (Kd.R_reads' (e := 3) (base := w.heap.size) (ok := fun k_ => ((oS k_ Ao9 t1021.length co9 ∧ oS k_ Ao112 t1030.length co112) ∧ oS k_ Ao115 t1033.length co115)) (n := t1024.length) (c := co11) ?_).2.2; exact (rW2 HO_1028001.out BK1037.out)); (case side4 => exact (Kd.R_reads' HO_1028001.out).2.1); rintro e w117 ⟨v1039, v1042, rfl, ho0, ho1, hb⟩; refine ⟨_, rfl, ?_⟩; have HO1040 := Az z5_0; have HO1043 := Az z5_1; replace HO_1028000 := Az z5_5; replace HO_1028001 := Az z5_6; replace HO1032 := Az z5_7; replace HO1035 := Az z5_8; replace BK1027 := Az z5_2; replace BK1037 := Az (blk_below (g := gb1037) (o := .cells #[.slice Ao112 t1030.length co112, .slice Ao115 t1033.length co115] 25 (0, 0)) (by (with_reducible repeat (first | refine blk_drewN ?_ _ | refine blk_drew ?_ | refine blk_alloc ?_ _)); refine blk_put (cs := #[.slice Ao112 t1030.length co112, .slice none 0 0]) ?_ 1 _ rfl; (with_reducible repeat (first | refine blk_drewN ?_ _ | refine blk_drew ?_ | refine blk_alloc ?_ _)); refine blk_put (cs := #[.slice none 0 0, .slice none 0 0]) ?_ 0 _ rfl; (with_reducible repeat (first | refine blk_drewN ?_ _ | refine blk_drew ?_ | refine blk_alloc ?_ _)); exact BK1037.out) hb); replace HB := Az z5_11; clear hb ho0 ho1) | ((with_reducible refine gd 8 rfl ?_); refine bE 8 #[.slice none 0 0, .slice none 0 0] 25 ?_; intro gb1045 hg w118 hbox hb; replace HO_1028000 := qB HO_1028000.out hb; replace HO_1028001 := rB HO_1028001.out hb; replace HO1032 := rB HO1032.out hb; replace HO1035 := rB HO1035.out hb; replace HO1040 := rB HO1040.out hb; replace HO1043 := rB HO1043.out hb; have BK1045 := Az (hbox); have GW1045 := gW hg z5_15; replace HB := Az z5_11; have NB1027_1045 := nL hg (kU BK1027.out); replace BK1027 := kB BK1027.out hb; have NB1037_1045 := nL hg (kU BK1037.out); replace BK1037 := kB BK1037.out hb; clear hb hbox hg; obtain ⟨Ao119, co119, eo119⟩ := Kd.R_slice HO1040.out; subst eo119; have hnb120 := nP NB1027_1045; have hnb121 := nP NB1037_1045; have hz122 := bc2 BK1045.out; obtain ⟨Ao123, co123, eo123⟩ := Kd.R_slice HO1043.out; subst eo123))
       go_ret; exact ⟨rE, bU3 HB.out GW1027.out GW1037.out GW1045.out⟩
     ·
      replace c20 := Bool.eq_false_iff.mpr c20; subst c20; rw [if_neg nT] at H; obtain rfl := Option.some.inj H; have hz124 := bc2 BK1027.out
      go_wp2_with (first | ((with_reducible refine gK 48 rfl ?_); refine gC (some 31) Try.func48 #[.agg #[.slice Ao9 t1021.length co9, .slice Ao11 t1024.length co11]] ?_; (with_reducible refine (impl_MapMirror.calls kj5 _ _ t1021 _ _ t1024 t1030 t1033 true _ ?_ ?_ ?_ ?_ A17.out).mono ?_); exact cU ((Kd.Q_reads' HO_1028000.out).2.2); exact (Kd.Q_reads' HO_1028000.out).2.1; exact cU ((Kd.R_reads' HO_1028001.out).2.2); exact (Kd.R_reads' HO_1028001.out).2.1; rintro e w125 ⟨v1031, v1034, rfl, ho0, ho1, hb⟩; refine ⟨_, rfl, ?_⟩; have HO1032 := Az z5_3; have HO1035 := Az z5_4; replace HO_1028000 := Az z5_9; replace HO_1028001 := Az z5_10; replace BK1027 := kB BK1027.out hb; replace HB := Az z5_12; clear hb ho0 ho1) | ((with_reducible refine gd 6 rfl ?_); refine bE 6 #[.slice none 0 0, .slice none 0 0] 25 ?_; intro gb1037 hg w126 hbox hb; replace HO_1028000 := qB HO_1028000.out hb; replace HO_1028001 := rB HO_1028001.out hb; replace HO1032 := rB HO1032.out hb; replace HO1035 := rB HO1035.out hb; have BK1037 := Az (hbox); have GW1037 := gW hg (bU1 HB.out GW1027.out); replace HB := Az z5_12; have NB1027_1037 := nL hg (kU BK1027.out); replace BK1027 := kB BK1027.out hb; clear hb hbox hg; obtain ⟨Ao127, co127, eo127⟩ := Kd.R_slice HO1032.out; subst eo127; have hnb128 := nP NB1027_1037; have hz129 := bc2 BK1037.out; obtain ⟨Ao130, co130, eo130⟩ := Kd.R_slice HO1035.out; subst eo130; have hz131 := bc2 BK1027.out) | ((with_reducible refine gK 26 rfl ?_); refine gC (some 36) Try.func26 #[.agg #[.slice Ao9 t1021.length co9, .slice Ao11 t1024.length co11]] ?_; (with_reducible refine (impl_MapDual.calls kj5 _ _ t1021 _ _ t1024 t1038 t1041 false _ ?side1 ?side2 ?side3 ?side4 A18.out).mono ?_); (case side1 => refine (Kd.Q_reads' (e := 3) (base := w.heap.size) (ok := fun k_ => ((oS k_ Ao11 t1024.length co11 ∧ oS k_ Ao127 t1030.length co127) ∧ oS k_ Ao130 t1033.length co130)) (n := t1021.length) (c := co9) ?_).2.2; exact (qW2 HO_1028000.out BK1037.out)); (case side2 => exact (Kd.Q_reads' HO_1028000.out).2.1); (case side3 => refine (Kd.R_reads' (e := 3) (base := w.heap.size) (ok := fun k_ => ((oS k_ Ao9 t1021.length co9 ∧ oS k_ Ao127 t1030.length co127) ∧ oS k_ Ao130 t1033.length co130)) (n := t1024.length) (c := co11) ?_).2.2; exact (rW2 HO_1028001.out BK1037.out)); (case side4 => exact (Kd.R_reads' HO_1028001.out).2.1); rintro e w132 ⟨v1039, v1042, rfl, ho0, ho1, hb⟩; refine ⟨_, rfl, ?_⟩; have HO1040 := Az z5_0; have HO1043 := Az z5_1; replace HO_1028000 := Az z5_5; replace HO_1028001 := Az z5_6; replace HO1032 := Az z5_7; replace HO1035 := Az z5_8; replace BK1027 := Az z5_2; replace BK1037 := Az (blk_below (g := gb1037) (o := .cells #[.slice Ao127 t1030.length co127, .slice Ao130 t1033.length co130] 25 (0, 0)) (by (with_reducible repeat (first | refine blk_drewN ?_ _ | refine blk_drew ?_ | refine blk_alloc ?_ _)); refine blk_put (cs := #[.slice Ao127 t1030.length co127, .slice none 0 0]) ?_ 1 _ rfl; (with_reducible repeat (first | refine blk_drewN ?_ _ | refine blk_drew ?_ | refine blk_alloc ?_ _)); refine blk_put (cs := #[.slice none 0 0, .slice none 0 0]) ?_ 0 _ rfl; (with_reducible repeat (first | refine blk_drewN ?_ _ | refine blk_drew ?_ | refine blk_alloc ?_ _)); exact BK1037.out) hb); replace HB := Az z5_11; clear hb ho0 ho1) | ((with_reducible refine gd 8 rfl ?_); refine bE 8 #[.slice none 0 0, .slice none 0 0] 25 ?_; intro gb1045 hg w133 hbox hb; replace HO_1028000 := qB HO_1028000.out hb; replace HO_1028001 := rB HO_1028001.out hb; replace HO1032 := rB HO1032.out hb; replace HO1035 := rB HO1035.out hb; replace HO1040 := rB HO1040.out hb; replace HO1043 := rB HO1043.out hb; have BK1045 := Az (hbox); have GW1045 := gW hg z5_15; replace HB := Az z5_11; have NB1027_1045 := nL hg (kU BK1027.out); replace BK1027 := kB BK1027.out hb; have NB1037_1045 := nL hg (kU BK1037.out); replace BK1037 := kB BK1037.out hb; clear hb hbox hg; obtain ⟨Ao134, co134, eo134⟩ := Kd.R_slice HO1040.out; subst eo134; have hnb135 := nP NB1027_1045; have hnb136 := nP NB1037_1045; have hz137 := bc2 BK1045.out; obtain ⟨Ao138, co138, eo138⟩ := Kd.R_slice HO1043.out; subst eo138))
      go_ret; exact ⟨rE, bU3 HB.out GW1027.out GW1037.out GW1045.out⟩
    ·
     replace c19 := Bool.eq_false_iff.mpr c19; subst c19; rw [if_neg nT] at H; obtain rfl := Option.some.inj H; have hz139 := bc2 BK1027.out
     go_wp2_with (first | ((with_reducible refine gK 48 rfl ?_); refine gC (some 31) Try.func48 #[.agg #[.slice Ao9 t1021.length co9, .slice Ao11 t1024.length co11]] ?_; (with_reducible refine (impl_MapMirror.calls kj5 _ _ t1021 _ _ t1024 t1030 t1033 false _ ?_ ?_ ?_ ?_ A17.out).mono ?_); exact cU ((Kd.Q_reads' HO_1028000.out).2.2); exact (Kd.Q_reads' HO_1028000.out).2.1; exact cU ((Kd.R_reads' HO_1028001.out).2.2); exact (Kd.R_reads' HO_1028001.out).2.1; rintro e w140 ⟨v1031, v1034, rfl, ho0, ho1, hb⟩; refine ⟨_, rfl, ?_⟩; have HO1032 := Az z5_3; have HO1035 := Az z5_4; replace HO_1028000 := Az z5_9; replace HO_1028001 := Az z5_10; replace BK1027 := kB BK1027.out hb; replace HB := Az z5_12; clear hb ho0 ho1) | ((with_reducible refine gd 6 rfl ?_); refine bE 6 #[.slice none 0 0, .slice none 0 0] 25 ?_; intro gb1037 hg w141 hbox hb; replace HO_1028000 := qB HO_1028000.out hb; replace HO_1028001 := rB HO_1028001.out hb; replace HO1032 := rB HO1032.out hb; replace HO1035 := rB HO1035.out hb; have BK1037 := Az (hbox); have GW1037 := gW hg (bU1 HB.out GW1027.out); replace HB := Az z5_12; have NB1027_1037 := nL hg (kU BK1027.out); replace BK1027 := kB BK1027.out hb; clear hb hbox hg; obtain ⟨Ao142, co142, eo142⟩ := Kd.R_slice HO1032.out; subst eo142; have hnb143 := nP NB1027_1037; have hz144 := bc2 BK1037.out; obtain ⟨Ao145, co145, eo145⟩ := Kd.R_slice HO1035.out; subst eo145; have hz146 := bc2 BK1027.out) | ((with_reducible refine gK 26 rfl ?_); refine gC (some 36) Try.func26 #[.agg #[.slice Ao9 t1021.length co9, .slice Ao11 t1024.length co11]] ?_; (with_reducible refine (impl_MapDual.calls kj5 _ _ t1021 _ _ t1024 t1038 t1041 t1044 _ ?side1 ?side2 ?side3 ?side4 A18.out).mono ?_); (case side1 => refine (Kd.Q_reads' (e := 3) (base := w.heap.size) (ok := fun k_ => ((oS k_ Ao11 t1024.length co11 ∧ oS k_ Ao142 t1030.length co142) ∧ oS k_ Ao145 t1033.length co145)) (n := t1021.length) (c := co9) ?_).2.2; exact (qW2 HO_1028000.out BK1037.out)); (case side2 => exact (Kd.Q_reads' HO_1028000.out).2.1); (case side3 => refine (Kd.R_reads' (e := 3) (base := w.heap.size) (ok := fun k_ => ((oS k_ Ao9 t1021.length co9 ∧ oS k_ Ao142 t1030.length co142) ∧ oS k_ Ao145 t1033.length co145)) (n := t1024.length) (c := co11) ?_).2.2; exact (rW2 HO_1028001.out BK1037.out)); (case side4 => exact (Kd.R_reads' HO_1028001.out).2.1); rintro e w147 ⟨v1039, v1042, rfl, ho0, ho1, hb⟩; refine ⟨_, rfl, ?_⟩; have HO1040 := Az z5_0; have HO1043 := Az z5_1; replace HO_1028000 := Az z5_5; replace HO_1028001 := Az z5_6; replace HO1032 := Az z5_7; replace HO1035 := Az z5_8; replace BK1027 := Az z5_2; replace BK1037 := Az (blk_below (g := gb1037) (o := .cells #[.slice Ao142 t1030.length co142, .slice Ao145 t1033.length co145] 25 (0, 0)) (by (with_reducible repeat (first | refine blk_drewN ?_ _ | refine blk_drew ?_ | refine blk_alloc ?_ _)); refine blk_put (cs := #[.slice Ao142 t1030.length co142, .slice none 0 0]) ?_ 1 _ rfl; (with_reducible repeat (first | refine blk_drewN ?_ _ | refine blk_drew ?_ | refine blk_alloc ?_ _)); refine blk_put (cs := #[.slice none 0 0, .slice none 0 0]) ?_ 0 _ rfl; (with_reducible repeat (first | refine blk_drewN ?_ _ | refine blk_drew ?_ | refine blk_alloc ?_ _)); exact BK1037.out) hb); replace HB := Az z5_11; clear hb ho0 ho1) | ((with_reducible refine gd 8 rfl ?_); refine bE 8 #[.slice none 0 0, .slice none 0 0] 25 ?_; intro gb1045 hg w148 hbox hb; replace HO_1028000 := qB HO_1028000.out hb; replace HO_1028001 := rB HO_1028001.out hb; replace HO1032 := rB HO1032.out hb; replace HO1035 := rB HO1035.out hb; replace HO1040 := rB HO1040.out hb; replace HO1043 := rB HO1043.out hb; have BK1045 := Az (hbox); have GW1045 := gW hg z5_15; replace HB := Az z5_11; have NB1027_1045 := nL hg (kU BK1027.out); replace BK1027 := kB BK1027.out hb; have NB1037_1045 := nL hg (kU BK1037.out); replace BK1037 := kB BK1037.out hb; clear hb hbox hg; obtain ⟨Ao149, co149, eo149⟩ := Kd.R_slice HO1040.out; subst eo149; have hnb150 := nP NB1027_1045; have hnb151 := nP NB1037_1045; have hz152 := bc2 BK1045.out; obtain ⟨Ao153, co153, eo153⟩ := Kd.R_slice HO1043.out; subst eo153))
     go_ret; exact ⟨rE, bU3 HB.out GW1027.out GW1037.out GW1045.out⟩
def laws_FnTreesMatrix.Pure : Prop := ∀ (l0 : List Int), l0.length ≤ maxLen → l0.length * 1 ≤ 140737488351232 → (∀ x ∈ l0, (Lit.int .u8 x).wf = true) → ∃ k, laws_FnTreesMatrix.f k l0 = some true
theorem laws_FnTreesMatrix.walk (P : laws_FnTreesMatrix.Pure) (a0 : Option Addr) (len0 cap0 : Nat) (z0 : List Int) (w : World) (w0 : (a0 = none ∧ len0 = 0 ∧ cap0 = 0 ∧ z0 = []) ∨ ∃ x, a0 = some x ∧ len0 ≤ cap0 ∧ cap0 ≤ maxLen ∧ z0.length = cap0 ∧ (∀ i, i < z0.length → w.cell? (x.add i) = some (.int .u8 (z0.getD i 0))) ∧ ∀ n ∈ z0, (Lit.int .u8 n).wf = true) (y0 : len0 * 1 ≤ 140737488351232) :
  Calls Try.prog 13 #[.slice a0 len0 cap0] w fun e w' => e = .returned (.bool true) ∧ Below w.heap.size w w' := by
 obtain ⟨l0, rfl, hr0, hm0, hw0, hc0⟩ := ReadsInt.ofRowC w0; obtain ⟨k, h⟩ := P l0 hm0 y0 hw0; refine (laws_FnTreesMatrix.calls k _ _ l0 true w (Kd.C_of_reads (d := (0 : Int)) (h1 := fun _ => rfl) hr0) hc0 h).mono ?_; rintro e w' ⟨rfl, hd⟩; exact ⟨rfl, hd⟩
end Go.Proofs.Ytjgknblneokhlaa.PK

set_option linter.unusedVariables false
set_option linter.unusedSimpArgs false
namespace Go.Proofs.Ytjgknblneokhlaa.PK
open Go.RowKit Go.Proofs.YtjgknblneokhlaaW.PrintWords Go.Proofs.YtjgknblneokhlaaW.PrintLast Go.Proofs.YtjgknblneokhlaaW.PrintMore
theorem Ev.s {α : Type} {g : Nat → Option α} {r : α} (h : Ev (fun k => g (k + 1)) r) : Ev g r := Ev.step (fun _ => rfl) h
theorem Ev.const {α : Type} {o : Option α} {r : α} (h : o = some r) : Ev (fun _ => o) r := ⟨0, fun _ _ => h⟩
theorem Ev.uniq {α : Type} {g : Nat → Option α} {r r' : α} (h : Ev g r) (h' : Ev g r') : r = r' := by
  obtain ⟨K, h⟩ := h; obtain ⟨K', h'⟩ := h'; have h1 := h (max K K') (by omega); rw [h' (max K K') (by omega)] at h1; exact (Option.some.inj h1).symm
theorem w64 {x : Int} (h1 : -9223372036854775808 ≤ x) (h2 : x < 9223372036854775808) : wrap64 x = x := by unfold wrap64; omega
theorem w64r {x : Int} (h : -9223372036854775808 ≤ x ∧ x < 9223372036854775808) : wrap64 x = x := w64 h.1 h.2
theorem w64n {i : Nat} (h : i < 4611686018427387904) : wrap64 ((i : Int) + 1) = ((i + 1 : Nat) : Int) := by rw [w64 (by omega) (by omega)]; omega
theorem rd_lt (l : List Int) (i : Nat) (h : i < l.length) : rd l (i : Int) = l[i] := by
  unfold rd
  rw [Int.toNat_natCast, List.getD_eq_getElem?_getD, List.getElem?_eq_getElem h]; rfl
def okAt (l : List Int) (i : Nat) : Prop := 0 ≤ rd l i ∧ rd l i < l.length ∧ ∀ k : Nat, k < i → rd l k ≠ rd l i
def isPerm (l : List Int) : Prop := 1 ≤ l.length ∧ l.length ≤ 12 ∧ ∀ i : Nat, i < l.length → okAt l i
theorem l6In_eq (a b c : Int) : spec_l6In.f a b c = some (decide (b ≤ a ∧ a ≤ c)) := by
  unfold spec_l6In.f
  by_cases h1 : a ≥ b
  · by_cases h2 : a ≤ c <;> simp [h1, h2]
  · simp [h1]
theorem specPerm_in (l : List Int) (hl : l.length ≤ 1048576) (i : Nat) (hi : i < l.length) : ∀ (d k : Nat), i - k = d → k ≤ i →
    ((∀ q : Nat, k ≤ q → q < i → rd l q ≠ rd l i) → ∀ r, Ev (fun z => spec_PermValid.l0 z l ((i + 1 : Nat) : Int)) r → Ev (fun z => spec_PermValid.l1 z l i k) r) ∧
    (¬ (∀ q : Nat, k ≤ q → q < i → rd l q ≠ rd l i) → Ev (fun z => spec_PermValid.l1 z l i k) false)
  | 0, k, hd, hk => by
    refine ⟨fun _ r h => Ev.s ?_, fun h => absurd (fun q h1 h2 => by omega) h⟩; simp only [spec_PermValid.l1, show ¬ (k : Int) < (i : Int) by omega, if_false]; rw [w64 (x := (i : Int) + 1) (by omega) (by omega), show ((i : Int) + 1) = ((i + 1 : Nat) : Int) by omega]; exact h
  | d + 1, k, hd, hk => by
    have ih := specPerm_in l hl i hi d (k + 1) (by omega) (by omega)
    have hw : wrap64 ((k : Int) + 1) = ((k + 1 : Nat) : Int) := by rw [w64 (by omega) (by omega)]; omega
    by_cases e : rd l k = rd l i
    · refine ⟨fun h => absurd e (h k (Nat.le_refl _) (by omega)), fun h => Ev.s ?_⟩
      simp only [spec_PermValid.l1, show (k : Int) < (i : Int) by omega, show (0 : Int) ≤ k by omega, show (k : Int) < (l.length : Int) by omega, show (0 : Int) ≤ i by omega, show (i : Int) < (l.length : Int) by omega, e, if_true]; exact Ev.const rfl
    · refine ⟨fun h r hr => Ev.s ?_, fun h => Ev.s ?_⟩
      · simp only [spec_PermValid.l1, show (k : Int) < (i : Int) by omega, show (0 : Int) ≤ k by omega, show (k : Int) < (l.length : Int) by omega, show (0 : Int) ≤ i by omega, show (i : Int) < (l.length : Int) by omega, e, if_true, if_false, hw]
        exact ih.1 (fun q h1 h2 => h q (by omega) h2) r hr
      · simp only [spec_PermValid.l1, show (k : Int) < (i : Int) by omega, show (0 : Int) ≤ k by omega, show (k : Int) < (l.length : Int) by omega, show (0 : Int) ≤ i by omega, show (i : Int) < (l.length : Int) by omega, e, if_true, if_false, hw]
        refine ih.2 fun h' => h fun q h1 h2 => ?_
        by_cases eq : q = k
        · rw [eq]; exact e
        · exact h' q (by omega) h2
theorem specPerm_run (l : List Int) (hl : l.length ≤ 1048576) : ∀ (d i : Nat), l.length - i = d → i ≤ l.length →
    ((∀ q : Nat, i ≤ q → q < l.length → okAt l q) → Ev (fun z => spec_PermValid.l0 z l i) (decide (1 ≤ (l.length : Int) ∧ (l.length : Int) ≤ 12))) ∧
    (¬ (∀ q : Nat, i ≤ q → q < l.length → okAt l q) → Ev (fun z => spec_PermValid.l0 z l i) false)
  | 0, i, hd, hi => by
    refine ⟨fun _ => Ev.s ?_, fun h => absurd (fun q h1 h2 => by omega) h⟩; simp only [spec_PermValid.l0, show ¬ (i : Int) < (l.length : Int) by omega, if_false, l6In_eq, Option.bind_some]; exact Ev.const rfl
  | d + 1, i, hd, hi => by
    have hlt : i < l.length := by omega
    have ih := specPerm_run l hl d (i + 1) (by omega) (by omega); have hin := specPerm_in l hl i hlt i 0 (by omega) (by omega); have hwl : wrap64 ((l.length : Int) - 1) = (l.length : Int) - 1 := w64 (by omega) (by omega)
    by_cases hr : 0 ≤ rd l i ∧ rd l i ≤ (l.length : Int) - 1
    · by_cases hn : ∀ q : Nat, 0 ≤ q → q < i → rd l q ≠ rd l i
      · refine ⟨fun h => Ev.s ?_, fun h => Ev.s ?_⟩
        · simp only [spec_PermValid.l0, show (i : Int) < (l.length : Int) by omega, show (0 : Int) ≤ i by omega, if_true, l6In_eq, Option.bind_some, hwl, hr, decide_true, and_self]
          exact hin.1 hn _ (ih.1 fun q h1 h2 => h q (by omega) h2)
        · simp only [spec_PermValid.l0, show (i : Int) < (l.length : Int) by omega, show (0 : Int) ≤ i by omega, if_true, l6In_eq, Option.bind_some, hwl, hr, decide_true, and_self]
          refine hin.1 hn _ (ih.2 fun h' => h fun q h1 h2 => ?_)
          by_cases e : q = i
          · rw [e]; exact ⟨hr.1, by omega, fun k hk => hn k (by omega) hk⟩
          · exact h' q (by omega) h2
      · refine ⟨fun h => absurd (fun q _ h2 => (h i (Nat.le_refl _) hlt).2.2 q h2) hn, fun h => Ev.s ?_⟩
        simp only [spec_PermValid.l0, show (i : Int) < (l.length : Int) by omega, show (0 : Int) ≤ i by omega, if_true, l6In_eq, Option.bind_some, hwl, hr, decide_true, and_self]; exact hin.2 hn
    · refine ⟨fun h => absurd ⟨(h i (Nat.le_refl _) hlt).1, by have := (h i (Nat.le_refl _) hlt).2.1; omega⟩ hr, fun h => Ev.s ?_⟩
      simp only [spec_PermValid.l0, show (i : Int) < (l.length : Int) by omega, show (0 : Int) ≤ i by omega, if_true, l6In_eq, Option.bind_some, hwl, hr, decide_false, Bool.false_eq_true, if_false]; exact Ev.const rfl
theorem implPerm_run (l : List Int) (hl : l.length ≤ 12) : ∀ (d i : Nat) (s : List Bool), l.length - i = d → i ≤ l.length → s.length = 12 → (∀ v : Nat, v < 12 → (s.getD v false = true ↔ ∃ k : Nat, k < i ∧ rd l k = v)) →
    ((∀ q : Nat, i ≤ q → q < l.length → okAt l q) → Ev (fun z => impl_PermValid.l0 z l s i) true) ∧
    (¬ (∀ q : Nat, i ≤ q → q < l.length → okAt l q) → Ev (fun z => impl_PermValid.l0 z l s i) false)
  | 0, i, s, hd, hi, hs, hv => by
    refine ⟨fun _ => Ev.s ?_, fun h => absurd (fun q h1 h2 => by omega) h⟩; simp only [impl_PermValid.l0, show ¬ (i : Int) < (l.length : Int) by omega, if_false]; exact Ev.const rfl
  | d + 1, i, s, hd, hi, hs, hv => by
    have hlt : i < l.length := by omega
    have hd1 : l.length - (i + 1) = d := by omega
    have hw : wrap64 ((i : Int) + 1) = ((i + 1 : Nat) : Int) := by rw [w64 (by omega) (by omega)]; omega
    by_cases h0 : rd l i < 0
    · refine ⟨fun h => absurd (h i (Nat.le_refl _) hlt).1 (by omega), fun h => Ev.s ?_⟩
      simp only [impl_PermValid.l0, show (i : Int) < (l.length : Int) by omega, show (0 : Int) ≤ i by omega, h0, if_true]; exact Ev.const rfl
    · by_cases h1 : rd l i ≥ (l.length : Int)
      · refine ⟨fun h => absurd (h i (Nat.le_refl _) hlt).2.1 (by omega), fun h => Ev.s ?_⟩
        simp only [impl_PermValid.l0, show (i : Int) < (l.length : Int) by omega, show (0 : Int) ≤ i by omega, h0, h1, if_true, if_false]; exact Ev.const rfl
      · have hvi := hv (rd l i).toNat (by omega)
        have hcast : (((rd l i).toNat : Nat) : Int) = rd l i := by omega
        rw [hcast] at hvi
        by_cases h2 : s.getD (rd l i).toNat false = true
        · obtain ⟨k, hk, hke⟩ := hvi.1 h2
          refine ⟨fun h => absurd hke ((h i (Nat.le_refl _) hlt).2.2 k hk), fun h => Ev.s ?_⟩; simp only [impl_PermValid.l0, show (i : Int) < (l.length : Int) by omega, show (0 : Int) ≤ i by omega, h0, h1, h2, if_true, if_false]; exact Ev.const rfl
        · have hnew : ∀ k : Nat, k < i → rd l k ≠ rd l i := fun k hk e => h2 (hvi.2 ⟨k, hk, e⟩)
          have ih := implPerm_run l hl d (i + 1) (s.set (rd l i).toNat true) hd1 hlt (by simpa using hs) (fun v hv12 => by
            by_cases ev : v = (rd l i).toNat
            · subst ev
              rw [List.getD_eq_getElem?_getD, List.getElem?_set_self (by omega)]; simp only [Option.getD_some, true_iff]; exact ⟨i, Nat.lt_succ_self i, hcast.symm⟩
            · rw [List.getD_eq_getElem?_getD, List.getElem?_set_ne (Ne.symm ev), ← List.getD_eq_getElem?_getD, hv v hv12]
              constructor
              · rintro ⟨k, hk, hke⟩; exact ⟨k, by omega, hke⟩
              · rintro ⟨k, hk, hke⟩
                by_cases e : k = i
                · subst e; omega
                · exact ⟨k, by omega, hke⟩)
          refine ⟨fun h => Ev.s ?_, fun h => Ev.s ?_⟩
          · simp only [impl_PermValid.l0, show (i : Int) < (l.length : Int) by omega, show (0 : Int) ≤ i by omega, h0, h1, h2, if_true, if_false, hw]
            exact ih.1 fun q g1 g2 => h q (by omega) g2
          · simp only [impl_PermValid.l0, show (i : Int) < (l.length : Int) by omega, show (0 : Int) ≤ i by omega, h0, h1, h2, if_true, if_false, hw]
            refine ih.2 fun h' => h fun q g1 g2 => ?_
            by_cases e : q = i
            · rw [e]; exact ⟨by omega, by omega, hnew⟩
            · exact h' q (by omega) g2
theorem permValid_both (l : List Int) (hl : l.length ≤ 1048576) : ∃ b : Bool, Ev (fun k => spec_PermValid.f k l) b ∧ Ev (fun k => impl_PermValid.f k l) b ∧ (b = true ↔ isPerm l) := by
  unfold spec_PermValid.f impl_PermValid.f
  have hs := specPerm_run l hl l.length 0 (by omega) (by omega)
  by_cases hall : ∀ q : Nat, 0 ≤ q → q < l.length → okAt l q
  · refine ⟨decide (1 ≤ (l.length : Int) ∧ (l.length : Int) ≤ 12), hs.1 hall, ?_, ?_⟩
    · by_cases h1 : (l.length : Int) < 1
      · simp only [h1, if_true]
        exact Ev.const (by congr 1; symm; rw [decide_eq_false_iff_not]; omega)
      · by_cases h2 : (l.length : Int) > 12
        · simp only [h1, h2, if_true, if_false]
          exact Ev.const (by congr 1; symm; rw [decide_eq_false_iff_not]; omega)
        · simp only [h1, h2, if_false]
          rw [decide_eq_true (by omega)]; refine (implPerm_run l (by omega) l.length 0 _ (by omega) (by omega) (by simp) fun v hv => ?_).1 hall
          constructor
          · intro h
            rw [List.getD_eq_getElem?_getD, List.getElem?_replicate, if_pos hv] at h
            cases h
          · rintro ⟨k, hk, _⟩; omega
    · rw [decide_eq_true_eq]
      exact ⟨fun h => ⟨by omega, by omega, fun i hi => hall i (by omega) hi⟩, fun h => ⟨by have := h.1; omega, by have := h.2.1; omega⟩⟩
  · refine ⟨false, hs.2 hall, ?_, ?_⟩
    · by_cases h1 : (l.length : Int) < 1
      · simp only [h1, if_true]; exact Ev.const rfl
      · by_cases h2 : (l.length : Int) > 12
        · simp only [h1, h2, if_true, if_false]; exact Ev.const rfl
        · simp only [h1, h2, if_false]
          refine (implPerm_run l (by omega) l.length 0 _ (by omega) (by omega) (by simp) fun v hv => ?_).2 hall
          constructor
          · intro h
            rw [List.getD_eq_getElem?_getD, List.getElem?_replicate, if_pos hv] at h
            cases h
          · rintro ⟨k, hk, _⟩; omega
    · exact ⟨fun h => (by cases h), fun h => absurd (fun q _ hq => h.2.2 q hq) hall⟩
def stl (n : Nat) : List Int := (List.range n).map fun (i : Nat) => (i : Int)
theorem stl_length (n : Nat) : (stl n).length = n := by simp [stl]
theorem stl_rd (n i : Nat) (h : i < n) : rd (stl n) i = i := by
  rw [rd_lt _ _ (by rw [stl_length]; exact h)]
  simp [stl]
theorem stl_succ (n : Nat) : stl (n + 1) = stl n ++ [(n : Int)] := by simp [stl, List.range_succ]
theorem rd_set_self (l : List Int) (i : Nat) (v : Int) (h : i < l.length) : rd (l.set i v) i = v := by
  rw [rd_lt _ _ (by simpa using h)]; simp
theorem rd_set_ne (l : List Int) (i j : Nat) (v : Int) (h : i ≠ j) : rd (l.set i v) j = rd l j := by
  unfold rd
  rw [Int.toNat_natCast, List.getD_eq_getElem?_getD, List.getD_eq_getElem?_getD, List.getElem?_set_ne h]
theorem rd_app_lt (l m : List Int) (i : Nat) (h : i < l.length) : rd (l ++ m) i = rd l i := by
  unfold rd
  rw [Int.toNat_natCast, List.getD_eq_getElem?_getD, List.getD_eq_getElem?_getD, List.getElem?_append_left h]
theorem list_ext (a b : List Int) (h : a.length = b.length) (hr : ∀ i : Nat, i < a.length → rd a i = rd b i) : a = b := by
  refine List.ext_getElem h fun i h1 h2 => ?_
  have := hr i h1
  rwa [rd_lt a i h1, rd_lt b i h2] at this
theorem same_run (n : Nat) (hn : n ≤ 1048576) : ∀ (d i : Nat), n - i = d → i ≤ n → Ev (fun k => spec_l1Same.l0 k n (stl i) i) (stl n)
  | 0, i, hd, hi => by
    refine Ev.s ?_; simp only [spec_l1Same.l0, show ¬ (i : Int) < (n : Int) by omega, if_false]
    have : i = n := by omega
    subst this; exact Ev.const rfl
  | d + 1, i, hd, hi => by
    refine Ev.s ?_; simp only [spec_l1Same.l0, show (i : Int) < (n : Int) by omega, if_true, stl_length, show i < 17592186044416 by omega]; rw [w64 (x := (i : Int) + 1) (by omega) (by omega), show ((i : Int) + 1) = ((i + 1 : Nat) : Int) by omega, ← stl_succ]; exact same_run n hn d (i + 1) (by omega) (by omega)
theorem same_ev (n : Nat) (hn : n ≤ 1048576) : Ev (fun k => spec_l1Same.f k n) (stl n) := by
  unfold spec_l1Same.f
  exact same_run n hn n 0 (by omega) (by omega)
theorem still_run (n : Nat) (hn : n ≤ 1048576) : ∀ (d i : Nat) (l : List Int), n - i = d → i ≤ n → l.length = n → l.take i = (stl n).take i → Ev (fun k => impl_still.l0 k l n i) (stl n)
  | 0, i, l, hd, hi, hl, ht => by
    refine Ev.s ?_; simp only [impl_still.l0, show ¬ (i : Int) < (n : Int) by omega, if_false]
    have : i = n := by omega
    subst this
    have e : (stl i).take i = stl i := by rw [List.take_of_length_le]; rw [stl_length]; exact Nat.le_refl _
    rw [e, List.take_of_length_le (by omega)] at ht; exact Ev.const (by rw [ht])
  | d + 1, i, l, hd, hi, hl, ht => by
    have hlt : i < l.length := by omega
    refine Ev.s ?_; simp only [impl_still.l0, show (i : Int) < (n : Int) by omega, show (0 : Int) ≤ i by omega, show (i : Int) < (l.length : Int) by omega, if_true]; rw [w64 (x := (i : Int) + 1) (by omega) (by omega), show ((i : Int) + 1) = ((i + 1 : Nat) : Int) by omega, Int.toNat_natCast]; refine still_run n hn d (i + 1) _ (by omega) (by omega) (by simpa using hl) ?_
    have h2 : i < (stl n).length := by rw [stl_length]; omega
    rw [List.take_succ_eq_append_getElem (by simpa using hlt), List.take_succ_eq_append_getElem h2, List.take_set_of_le (Nat.le_refl _), ht]
    simp [stl]
theorem still_ev (n : Nat) (hn : n ≤ 1048576) : Ev (fun k => impl_still.f k n) (stl n) := by
  unfold impl_still.f
  have h1 : n ≤ 35184372088832 := by omega
  have h2 : (0 : Int) ≤ (n : Int) := by omega
  simp only [Int.toNat_natCast, h1, h2, if_true, Option.bind_some, List.length_replicate]; exact still_run n hn n 0 _ (by omega) (by omega) (by simp) (by simp)
def inR (n : Nat) (p : List Int) : Prop := p.length = n ∧ ∀ i : Nat, i < n → 0 ≤ rd p i ∧ rd p i < n
def closedL (ps : List (List Int)) (n : Nat) (S : Nat → Prop) : Prop := ∀ p ∈ ps, ∀ k, k < n → (S k ↔ S (rd p k).toNat)
def Reach (ps : List (List Int)) (n : Nat) (i j : Nat) : Prop := ∀ S, closedL ps n S → (S i ↔ S j)
theorem Reach.refl (ps : List (List Int)) (n i : Nat) : Reach ps n i i := fun S _ => Iff.rfl
theorem Reach.symm {ps : List (List Int)} {n i j : Nat} (h : Reach ps n i j) : Reach ps n j i := fun S c => (h S c).symm
theorem Reach.trans {ps : List (List Int)} {n i j k : Nat} (h : Reach ps n i j) (h' : Reach ps n j k) : Reach ps n i k := fun S c => (h S c).trans (h' S c)
theorem Reach.step {ps : List (List Int)} {n : Nat} {p : List Int} (hp : p ∈ ps) {k : Nat} (hk : k < n) : Reach ps n k (rd p k).toNat := fun S c => c p hp k hk
def orbI (ps : List (List Int)) (n : Nat) (o : List Int) : Prop := o.length = n ∧ ∀ i : Nat, i < n → 0 ≤ rd o i ∧ rd o i ≤ i ∧ Reach ps n (rd o i).toNat i
def orbOk (ps : List (List Int)) (n : Nat) (o : List Int) : Prop := orbI ps n o ∧ ∀ p ∈ ps, ∀ i : Nat, i < n → rd o (rd p i) = rd o i
theorem stl_orbI (ps : List (List Int)) (n : Nat) : orbI ps n (stl n) := by
  refine ⟨stl_length n, fun i hi => ?_⟩; rw [stl_rd n i hi]; exact ⟨by omega, by omega, by rw [Int.toNat_natCast]; exact Reach.refl _ _ _⟩
theorem orbOk_const {ps : List (List Int)} {n : Nat} {o : List Int} (h : orbOk ps n o) (hp : ∀ p ∈ ps, inR n p) {i j : Nat} (hr : Reach ps n i j) : rd o i = rd o j := by
  have := hr (fun k => rd o k = rd o i) (fun p hp' k hk => by
    have h1 := h.2 p hp' k hk; have h2 := (hp p hp').2 k hk
    have e : (((rd p k).toNat : Nat) : Int) = rd p k := by omega
    show (rd o k = rd o i) ↔ (rd o (((rd p k).toNat : Nat) : Int) = rd o i)
    rw [e, h1])
  exact (this.1 rfl).symm
theorem orbOk_le {ps : List (List Int)} {n : Nat} {o o' : List Int} (h : orbOk ps n o) (h' : orbI ps n o') (hp : ∀ p ∈ ps, inR n p) {i : Nat} (hi : i < n) : rd o i ≤ rd o' i := by
  obtain ⟨g0, g1, g2⟩ := h'.2 i hi; have e := orbOk_const h hp g2
  have hlt : (rd o' i).toNat < n := by omega
  have := (h.1.2 _ hlt).2.1
  have e2 : (((rd o' i).toNat : Nat) : Int) = rd o' i := by omega
  omega
theorem mn_le (a b : Int) : mn a b ≤ a ∧ mn a b ≤ b ∧ (mn a b = a ∨ mn a b = b) := by unfold mn; split <;> omega
theorem orbI_put {ps : List (List Int)} {n : Nat} {o : List Int} (h : orbI ps n o) {i : Nat} (hi : i < n) {v : Int} (h0 : 0 ≤ v) (h1 : v ≤ i) (hr : Reach ps n v.toNat i) : orbI ps n (o.set i v) := by
  refine ⟨by simpa using h.1, fun j hj => ?_⟩
  by_cases e : i = j
  · subst e
    rw [rd_set_self _ _ _ (by rw [h.1]; exact hi)]; exact ⟨h0, h1, hr⟩
  · rw [rd_set_ne _ _ _ _ e]
    exact h.2 j hj
def tot : List Int → Int
  | [] => 0
  | x :: xs => x + tot xs
theorem tot_set : ∀ (l : List Int) (i : Nat) (v : Int), i < l.length → tot (l.set i v) + rd l i = tot l + v
  | [], i, v, h => by simp at h
  | x :: xs, 0, v, h => by simp [tot, rd]; omega
  | x :: xs, i + 1, v, h => by
    have ih := tot_set xs i v (by simpa using h)
    have e : rd (x :: xs) ((i + 1 : Nat) : Int) = rd xs i := by unfold rd; rw [Int.toNat_natCast, Int.toNat_natCast]; rfl
    rw [e]; simp only [List.set_cons_succ, tot]; omega
theorem tot_nonneg : ∀ (l : List Int), (∀ i : Nat, i < l.length → 0 ≤ rd l i) → 0 ≤ tot l
  | [], _ => by simp [tot]
  | x :: xs, h => by
    have h0 := h 0 (by simp); have e0 : rd (x :: xs) ((0 : Nat) : Int) = x := rfl; rw [e0] at h0
    have := tot_nonneg xs fun i hi => by
      have := h (i + 1) (by simpa using hi)
      have e : rd (x :: xs) ((i + 1 : Nat) : Int) = rd xs i := by unfold rd; rw [Int.toNat_natCast, Int.toNat_natCast]; rfl
      rwa [e] at this
    simp only [tot]; omega
theorem rdL_nth (ps : List (List Int)) (q : Nat) (h : q < ps.length) : rd_L1 ps (q : Int) = ps[q] := by
  have e : (q : Int).toNat = q := Int.toNat_natCast q
  unfold rd_L1
  rw [e, List.getD_eq_getElem?_getD, List.getElem?_eq_getElem h]; rfl
theorem implOrb_in (ps : List (List Int)) (n : Nat) (hn : n ≤ 12) (q : Nat) (hq : q < ps.length) (hL : ps.length ≤ 1048576) (P : List Int) (hP : P ∈ ps) (pl : P.length = n) (pr : ∀ i : Nat, i < n → 0 ≤ rd P i ∧ rd P i < n) : ∀ (d i : Nat) (o : List Int) (g : Bool), n - i = d → i ≤ n → orbI ps n o →
    ∃ (o' : List Int) (g' : Bool), orbI ps n o' ∧ (∀ r, Ev (fun k => impl_orbits.l1 k ps o' g' ps ps.length ((q + 1 : Nat) : Int)) r → Ev (fun k => impl_orbits.l2 k ps o g ps ps.length q P n i) r) ∧ tot o' ≤ tot o ∧
      (g' = true → g = true ∨ tot o' < tot o) ∧ (g' = false → g = false ∧ o' = o ∧ ∀ j : Nat, i ≤ j → j < n → rd o (rd P j) = rd o j)
  | 0, i, o, g, hd, hi, ho => by
    refine ⟨o, g, ho, fun r h => Ev.s ?_, by omega, fun h => .inl h, fun h => ⟨h, rfl, fun j h1 h2 => by omega⟩⟩; simp only [impl_orbits.l2, show ¬ (i : Int) < (n : Int) by omega, if_false]; rw [w64 (x := (q : Int) + 1) (by omega) (by omega), show ((q : Int) + 1) = ((q + 1 : Nat) : Int) by omega]; exact h
  | d + 1, i, o, g, hd, hi, ho => by
    have hlt : i < n := by omega
    have hd1 : n - (i + 1) = d := by omega
    have hw : wrap64 ((i : Int) + 1) = ((i + 1 : Nat) : Int) := by rw [w64 (by omega) (by omega)]; omega
    have hr := pr i hlt; have hst := Reach.step hP hlt; have hlen := ho.1; obtain ⟨t, ht⟩ : ∃ t : Nat, rd P i = t := ⟨(rd P i).toNat, by omega⟩; rw [ht, Int.toNat_natCast] at hst
    have htn : t < n := by omega
    obtain ⟨i0, i1, i2⟩ := ho.2 i hlt; obtain ⟨t0, t1, t2⟩ := ho.2 t htn; obtain ⟨hm1, hm2, hm3⟩ := mn_le (rd o i) (rd o t)
    have g1 : (i : Int) < (n : Int) := by omega
    have g2 : (0 : Int) ≤ (i : Int) := by omega
    have g3 : (0 : Int) ≤ (t : Int) := by omega
    have g4 : (t : Int) < (n : Int) := by omega
    obtain ⟨v, hv⟩ : ∃ v, mn (rd o i) (rd o t) = v := ⟨_, rfl⟩; rw [hv] at hm1 hm2 hm3
    by_cases hc : rd o i = v ∧ rd o t = v
    · obtain ⟨c1, c2⟩ := hc
      obtain ⟨o', g', a1, a2, a3, a4, a5⟩ := implOrb_in ps n hn q hq hL P hP pl pr d (i + 1) o g hd1 hlt ho; refine ⟨o', g', a1, fun r h => Ev.s ?_, a3, a4, fun h => ?_⟩
      · simp only [impl_orbits.l2, g1, g2, g3, g4, pl, hlen, ht, hv, if_true, hw]
        simp only [c1, c2, if_true]; exact a2 r h
      · obtain ⟨b1, b2, b3⟩ := a5 h
        refine ⟨b1, b2, fun j h1 h2 => ?_⟩
        by_cases e : j = i
        · rw [e, ht]; omega
        · exact b3 j (by omega) h2
    · have hv0 : 0 ≤ v := by omega
      have hrv : Reach ps n v.toNat i := by
        rcases hm3 with e | e
        · rw [e]; exact i2
        · rw [e]; exact t2.trans hst.symm
      have ho1 := orbI_put ho hlt hv0 (by omega) hrv; have ho2 := orbI_put ho1 htn hv0 (by omega) (hrv.trans hst)
      have hd2 : tot ((o.set i v).set t v) < tot o := by
        have z1 := tot_set o i v (by omega); have z2 := tot_set (o.set i v) t v (by rw [List.length_set]; omega)
        by_cases e : i = t
        · subst e
          rw [rd_set_self _ _ _ (by omega)] at z2; omega
        · rw [rd_set_ne _ _ _ _ e] at z2
          omega
      obtain ⟨o', g', a1, a2, a3, a4, a5⟩ := implOrb_in ps n hn q hq hL P hP pl pr d (i + 1) ((o.set i v).set t v) true hd1 hlt ho2; refine ⟨o', g', a1, fun r h => Ev.s ?_, by omega, fun h => .inr (by omega), fun h => ?_⟩
      · have hgo := a2 r h
        by_cases c1 : rd o i = v
        · have c2 : ¬ rd o t = v := fun e => hc ⟨c1, e⟩
          simp only [impl_orbits.l2, g1, g2, g3, g4, pl, hlen, ht, hv, if_true, hw, Int.toNat_natCast]; simp only [c1, c2, if_true, if_false]; exact hgo
        · simp only [impl_orbits.l2, g1, g2, g3, g4, pl, hlen, ht, hv, if_true, hw, Int.toNat_natCast]
          simp only [c1, if_false]; exact hgo
      · have := (a5 h).1
        cases this
theorem implOrb_pass (ps : List (List Int)) (n : Nat) (hn : n ≤ 12) (hL : ps.length ≤ 1048576) (hp : ∀ p ∈ ps, inR n p) : ∀ (d q : Nat) (o : List Int) (g : Bool), ps.length - q = d → q ≤ ps.length → orbI ps n o →
    ∃ (o' : List Int) (g' : Bool), orbI ps n o' ∧ (∀ r, Ev (fun k => impl_orbits.l0 k ps o' g') r → Ev (fun k => impl_orbits.l1 k ps o g ps ps.length q) r) ∧ tot o' ≤ tot o ∧
      (g' = true → g = true ∨ tot o' < tot o) ∧ (g' = false → g = false ∧ o' = o ∧ ∀ z : Nat, q ≤ z → z < ps.length → ∀ j : Nat, j < n → rd o (rd (rd_L1 ps z) j) = rd o j)
  | 0, q, o, g, hd, hi, ho => by
    refine ⟨o, g, ho, fun r h => Ev.s ?_, by omega, fun h => .inl h, fun h => ⟨h, rfl, fun j h1 h2 => by omega⟩⟩; simp only [impl_orbits.l1, show ¬ (q : Int) < (ps.length : Int) by omega, if_false]; exact h
  | d + 1, q, o, g, hd, hi, ho => by
    have hlt : q < ps.length := by omega
    have hd1 : ps.length - (q + 1) = d := by omega
    have hP : rd_L1 ps q ∈ ps := by rw [rdL_nth ps q hlt]; exact List.getElem_mem hlt
    obtain ⟨pl, pr⟩ := hp _ hP; obtain ⟨o1, b1, c1, c2, c3, c4, c5⟩ := implOrb_in ps n hn q hlt hL _ hP pl pr n 0 o g (by omega) (by omega) ho; obtain ⟨o2, b2, e1, e2, e3, e4, e5⟩ := implOrb_pass ps n hn hL hp d (q + 1) o1 b1 hd1 hlt c1; refine ⟨o2, b2, e1, fun r h => Ev.s ?_, by omega, fun h => ?_, fun h => ?_⟩
    · simp only [impl_orbits.l1, show (q : Int) < (ps.length : Int) by omega, show (0 : Int) ≤ (q : Int) by omega, if_true, pl]
      exact c2 r (e2 r h)
    · rcases e4 h with z | z
      · rcases c4 z with y | y
        · exact .inl y
        · exact .inr (by omega)
      · exact .inr (by omega)
    · obtain ⟨f1, f2, f3⟩ := e5 h
      obtain ⟨g1, g2, g3⟩ := c5 f1; refine ⟨g1, f2.trans g2, fun z hz hz' j hj => ?_⟩
      by_cases e : z = q
      · rw [e]; exact g3 j (by omega) hj
      · have := f3 z (by omega) hz' j hj
        rwa [g2] at this
theorem implOrb_loop (ps : List (List Int)) (n : Nat) (hn : n ≤ 12) (hL : ps.length ≤ 1048576) (hp : ∀ p ∈ ps, inR n p) : ∀ (m : Nat) (o : List Int), tot o ≤ m → orbI ps n o → ∃ o', orbOk ps n o' ∧ Ev (fun k => impl_orbits.l0 k ps o true) o' := by
  intro m
  induction m using Nat.strongRecOn with
  | _ m ih =>
    intro o hm ho; obtain ⟨o1, g1, c1, c2, c3, c4, c5⟩ := implOrb_pass ps n hn hL hp ps.length 0 o false (by omega) (by omega) ho
    cases g1 with
    | false =>
      obtain ⟨_, e2, e3⟩ := c5 rfl; refine ⟨o, ⟨ho, fun p hp' i hi => ?_⟩, Ev.s ?_⟩
      · obtain ⟨z, hz, rfl⟩ := List.mem_iff_getElem.1 hp'
        have := e3 z (by omega) hz i hi
        rwa [rdL_nth ps z hz] at this
      · simp only [impl_orbits.l0, if_true]
        refine c2 o (Ev.s ?_); simp only [impl_orbits.l0, Bool.false_eq_true, if_false]; exact Ev.const (by rw [e2])
    | true =>
      have hlt : tot o1 < tot o := by
        rcases c4 rfl with z | z
        · cases z
        · exact z
      have h0 := tot_nonneg o1 fun i hi => (c1.2 i (by rw [← c1.1]; exact hi)).1
      obtain ⟨o', h1, h2⟩ := ih (tot o1).toNat (by omega) o1 (by omega) c1; refine ⟨o', h1, Ev.s ?_⟩; simp only [impl_orbits.l0, if_true]; exact c2 o' h2
theorem implOrb_ev (ps : List (List Int)) (n : Nat) (hn : n ≤ 12) (h0 : 0 < ps.length) (hL : ps.length ≤ 1048576) (hp : ∀ p ∈ ps, inR n p) : ∃ o, orbOk ps n o ∧ Ev (fun k => impl_orbits.f k ps) o := by
  obtain ⟨o, h1, h2⟩ := implOrb_loop ps n hn hL hp (tot (stl n)).toNat (stl n) (by have := tot_nonneg (stl n) (fun i hi => by rw [stl_rd n i (by rwa [stl_length] at hi)]; omega); omega) (stl_orbI ps n); refine ⟨o, h1, ?_⟩
  unfold impl_orbits.f
  have hz : (rd_L1 ps 0).length = n := by
    have := rdL_nth ps 0 h0; rw [show ((0 : Nat) : Int) = 0 from rfl] at this; rw [this]; exact (hp _ (List.getElem_mem h0)).1
  simp only [show (0 : Int) < (ps.length : Int) by omega, if_true, hz]; exact Ev.bind (still_ev n (by omega)) h2
def lag (o g : List Int) : Nat → Nat
  | 0 => 0
  | i + 1 => (if rd o i = rd g i then 0 else 1) + lag o g i
theorem lag_le (o g : List Int) : ∀ i, lag o g i ≤ i
  | 0 => Nat.le_refl _
  | i + 1 => by have := lag_le o g i; simp only [lag]; split <;> omega
theorem lag_zero (o g : List Int) : ∀ n, lag o g n = 0 → ∀ i, i < n → rd o i = rd g i
  | 0, _, i, h => by omega
  | n + 1, hz, i, h => by
    simp only [lag] at hz
    by_cases e : i = n
    · subst e
      by_cases c : rd o i = rd g i
      · exact c
      · rw [if_neg c] at hz; omega
    · exact lag_zero o g n (by omega) i (by omega)
theorem lag_mono (o o' g : List Int) (h : ∀ i : Nat, rd o i = rd g i → rd o' i = rd g i) : ∀ n, lag o' g n ≤ lag o g n
  | 0 => Nat.le_refl _
  | n + 1 => by
    have ih := lag_mono o o' g h n; simp only [lag]
    by_cases c : rd o n = rd g n
    · rw [if_pos c, if_pos (h n c)]; omega
    · rw [if_neg c]; split <;> omega
theorem lag_lt (o o' g : List Int) (h : ∀ i : Nat, rd o i = rd g i → rd o' i = rd g i) (z : Nat) (hz : rd o z ≠ rd g z) (hz' : rd o' z = rd g z) : ∀ n, z < n → lag o' g n < lag o g n
  | 0, hn => by omega
  | n + 1, hn => by
    simp only [lag]
    by_cases e : z = n
    · subst e
      have := lag_mono o o' g h z; rw [if_neg hz, if_pos hz']; omega
    · have ih := lag_lt o o' g h z hz hz' n (by omega)
      by_cases c : rd o n = rd g n
      · rw [if_pos c, if_pos (h n c)]; omega
      · rw [if_neg c]; split <;> omega
theorem mn_eq (a b : Int) : mn a b = if a ≤ b then a else b := by unfold mn; split <;> split <;> omega
theorem specOrb_sweep (t f : List Int) (n : Nat) (hn : n ≤ 12) (ht : inR n t) (hf : inR n f) (g : List Int) (hg : orbOk [t, f] n g) (round : Int) : ∀ (d i : Nat) (o : List Int), n - i = d → i ≤ n → orbI [t, f] n o →
    ∃ o', orbI [t, f] n o' ∧ (∀ r, Ev (fun k => spec_l1Orbits.l0 k t f o' (wrap64 (round + 1))) r → Ev (fun k => spec_l1Orbits.l1 k t f o round i) r) ∧ (∀ z : Nat, z < n → rd o z = rd g z → rd o' z = rd g z) ∧
      (∀ j : Nat, i ≤ j → j < n → (rd o j = rd g j ∨ rd o (rd t j) = rd g (rd t j) ∨ rd o (rd f j) = rd g (rd f j)) → rd o' j = rd g j ∧ rd o' (rd t j) = rd g (rd t j) ∧ rd o' (rd f j) = rd g (rd f j))
  | 0, i, o, hd, hi, ho => by
    refine ⟨o, ho, fun r h => Ev.s ?_, fun z _ h => h, fun j h1 h2 => by omega⟩; simp only [spec_l1Orbits.l1, ht.1, show ¬ (i : Int) < (n : Int) by omega, if_false]; exact h
  | d + 1, i, o, hd, hi, ho => by
    have hlt : i < n := by omega
    have hd1 : n - (i + 1) = d := by omega
    have hw : wrap64 ((i : Int) + 1) = ((i + 1 : Nat) : Int) := by rw [w64 (by omega) (by omega)]; omega
    have hps : ∀ p ∈ [t, f], inR n p := by intro p hp; simp at hp; rcases hp with rfl | rfl <;> assumption
    have hra := ht.2 i hlt; have hrb := hf.2 i hlt; have sta := Reach.step (ps := [t, f]) (p := t) (by simp) hlt; have stb := Reach.step (ps := [t, f]) (p := f) (by simp) hlt; have ca := hg.2 t (by simp) i hlt; have cb := hg.2 f (by simp) i hlt; obtain ⟨a, hta⟩ : ∃ a : Nat, rd t i = a := ⟨(rd t i).toNat, by omega⟩; obtain ⟨b, hfb⟩ : ∃ b : Nat, rd f i = b := ⟨(rd f i).toNat, by omega⟩; rw [hta, Int.toNat_natCast] at sta; rw [hfb, Int.toNat_natCast] at stb; rw [hta] at ca; rw [hfb] at cb
    have han : a < n := by omega
    have hbn : b < n := by omega
    have hlen := ho.1; obtain ⟨i0, i1, i2⟩ := ho.2 i hlt; obtain ⟨a0, a1, a2⟩ := ho.2 a han; obtain ⟨b0, b1, b2⟩ := ho.2 b hbn; have li := orbOk_le hg ho hps hlt; have la := orbOk_le hg ho hps han; have lb := orbOk_le hg ho hps hbn; obtain ⟨v, hv⟩ : ∃ v, mn (rd o i) (mn (rd o a) (rd o b)) = v := ⟨_, rfl⟩
    have hvm : v ≤ rd o i ∧ v ≤ rd o a ∧ v ≤ rd o b ∧ (v = rd o i ∨ v = rd o a ∨ v = rd o b) := by
      rw [← hv, mn_eq, mn_eq]
      split <;> split at * <;> omega
    have hv0 : 0 ≤ v := by omega
    have hrv : Reach [t, f] n v.toNat i := by
      rcases hvm.2.2.2 with e | e | e
      · rw [e]; exact i2
      · rw [e]; exact a2.trans sta.symm
      · rw [e]; exact b2.trans stb.symm
    have ho1 := orbI_put ho hlt hv0 (by omega) hrv; have ho2 := orbI_put ho1 han hv0 (by omega) (hrv.trans sta); have ho3 := orbI_put ho2 hbn hv0 (by omega) (hrv.trans stb); obtain ⟨o3, ho3e⟩ : ∃ o3, ((o.set i v).set a v).set b v = o3 := ⟨_, rfl⟩; rw [ho3e] at ho3
    have rdo3 : ∀ z : Nat, rd o3 z = if z = i ∨ z = a ∨ z = b then v else rd o z := by
      intro z; rw [← ho3e]
      by_cases z3 : b = z
      · subst z3; rw [rd_set_self _ _ _ (by simp; omega)]; simp
      · rw [rd_set_ne _ _ _ _ z3]
        by_cases z2 : a = z
        · subst z2; rw [rd_set_self _ _ _ (by simp; omega)]; simp
        · rw [rd_set_ne _ _ _ _ z2]
          by_cases z1 : i = z
          · subst z1; rw [rd_set_self _ _ _ (by omega)]; simp
          · rw [rd_set_ne _ _ _ _ z1, if_neg (by omega)]
    have keep3 : ∀ z : Nat, z < n → rd o z = rd g z → rd o3 z = rd g z := by
      intro z hz e; have l3 := orbOk_le hg ho3 hps hz; rw [rdo3 z] at l3 ⊢
      by_cases c : z = i ∨ z = a ∨ z = b
      · rw [if_pos c] at l3 ⊢
        have : v ≤ rd o z := by rcases c with rfl | rfl | rfl <;> omega
        omega
      · rw [if_neg c]; exact e
    obtain ⟨o', c1, c2, c3, c4⟩ := specOrb_sweep t f n hn ht hf g hg round d (i + 1) o3 hd1 hlt ho3; refine ⟨o', c1, fun r h => Ev.s ?_, fun z hz e => c3 z hz (keep3 z hz e), fun j h1 h2 hj => ?_⟩
    · have hgo := c2 r h
      have g1 : (i : Int) < (n : Int) := by omega
      have g2 : (0 : Int) ≤ (i : Int) := by omega
      have g3 : (0 : Int) ≤ (a : Int) := by omega
      have g4 : (a : Int) < (n : Int) := by omega
      have g5 : (0 : Int) ≤ (b : Int) := by omega
      have g6 : (b : Int) < (n : Int) := by omega
      simp only [spec_l1Orbits.l1, ht.1, hf.1, hlen, g1, g2, g3, g4, g5, g6, hta, hfb, hv, if_true, hw, Int.toNat_natCast, ho3e]; exact hgo
    · by_cases e : j = i
      · subst e
        have l3 := orbOk_le hg ho3 hps hlt
        have e3 : rd o3 j = v := by rw [rdo3 j, if_pos (.inl rfl)]
        have ea3 : rd o3 a = v := by rw [rdo3 a, if_pos (.inr (.inl rfl))]
        have eb3 : rd o3 b = v := by rw [rdo3 b, if_pos (.inr (.inr rfl))]
        rw [hta, hfb] at hj ⊢
        have hvg : v = rd g j := by
          rcases hj with z | z | z <;> omega
        exact ⟨c3 j hlt (by omega), c3 a han (by omega), c3 b hbn (by omega)⟩
      · refine c4 j (by omega) h2 ?_
        have hta' := ht.2 j h2; have hfb' := hf.2 j h2; obtain ⟨a', ha'⟩ : ∃ a' : Nat, rd t j = a' := ⟨(rd t j).toNat, by omega⟩; obtain ⟨b', hb'⟩ : ∃ b' : Nat, rd f j = b' := ⟨(rd f j).toNat, by omega⟩; rw [ha', hb'] at hj ⊢
        rcases hj with z | z | z
        · exact .inl (keep3 j h2 z)
        · exact .inr (.inl (keep3 a' (by omega) z))
        · exact .inr (.inr (keep3 b' (by omega) z))
theorem specOrb_loop (t f : List Int) (n : Nat) (hn : n ≤ 12) (ht : inR n t) (hf : inR n f) (g : List Int) (hg : orbOk [t, f] n g) : ∀ (d i : Nat) (o : List Int), n - i = d → i ≤ n → orbI [t, f] n o → lag o g n ≤ d → Ev (fun k => spec_l1Orbits.l0 k t f o i) g
  | 0, i, o, hd, hi, ho, hl => by
    refine Ev.s ?_; simp only [spec_l1Orbits.l0, ht.1, show ¬ (i : Int) < (n : Int) by omega, if_false]
    have : o = g := list_ext o g (ho.1.trans hg.1.1.symm) fun z hz => lag_zero o g n (by omega) z (by rw [← ho.1]; exact hz)
    exact Ev.const (by rw [this])
  | d + 1, i, o, hd, hi, ho, hl => by
    have hlt : i < n := by omega
    have hd1 : n - (i + 1) = d := by omega
    have hw : wrap64 ((i : Int) + 1) = ((i + 1 : Nat) : Int) := by rw [w64 (by omega) (by omega)]; omega
    have hps : ∀ p ∈ [t, f], inR n p := by intro p hp; simp at hp; rcases hp with rfl | rfl <;> assumption
    obtain ⟨o', c1, c2, c3, c4⟩ := specOrb_sweep t f n hn ht hf g hg i n 0 o (by omega) (by omega) ho; refine Ev.s ?_; simp only [spec_l1Orbits.l0, ht.1, show (i : Int) < (n : Int) by omega, if_true]; refine c2 g ?_; rw [hw]; refine specOrb_loop t f n hn ht hf g hg d (i + 1) o' hd1 hlt c1 ?_
    have hout : ∀ z : Nat, ¬ z < n → rd o z = rd o' z := by
      intro z hz
      unfold rd
      rw [Int.toNat_natCast, List.getD_eq_getElem?_getD, List.getD_eq_getElem?_getD, List.getElem?_eq_none (by rw [ho.1]; omega), List.getElem?_eq_none (by rw [c1.1]; omega)]
    have keep : ∀ z : Nat, rd o z = rd g z → rd o' z = rd g z := fun z e => by
      by_cases hz : z < n
      · exact c3 z hz e
      · rw [← hout z hz]; exact e
    by_cases hz : lag o g n = 0
    · have := lag_mono o o' g keep n
      omega
    · -- some point has not its label: some step leads from one that has it to one that has it not
      have hex : ∃ z : Nat, z < n ∧ rd o z ≠ rd g z ∧ rd o' z = rd g z := by
        refine Classical.byContradiction fun hno => ?_
        have hsame : ∀ z : Nat, z < n → (rd o z = rd g z ↔ rd o' z = rd g z) := fun z hz => ⟨keep z, fun e => Classical.byContradiction fun hne => hno ⟨z, hz, hne, e⟩⟩
        have hcl : closedL [t, f] n (fun z => rd o z = rd g z) := by
          intro p hp k hk; have hr := (hps p hp).2 k hk; obtain ⟨a, ha⟩ : ∃ a : Nat, rd p k = a := ⟨(rd p k).toNat, by omega⟩
          have han : a < n := by omega
          rw [ha, Int.toNat_natCast]
          show rd o k = rd g k ↔ rd o a = rd g a
          have h4 := c4 k (by omega) hk
          simp at hp
          rcases hp with rfl | rfl
          · rw [ha] at h4
            exact ⟨fun e => (hsame a han).2 (h4 (.inl e)).2.1, fun e => (hsame k hk).2 (h4 (.inr (.inl e))).1⟩
          · rw [ha] at h4
            exact ⟨fun e => (hsame a han).2 (h4 (.inl e)).2.2, fun e => (hsame k hk).2 (h4 (.inr (.inr e))).1⟩
        have hall : ∀ z : Nat, z < n → rd o z = rd g z := by
          intro z hz; obtain ⟨g0, g1, g2⟩ := hg.1.2 z hz
          have hm : (rd g z).toNat < n := by omega
          have e1 : ((rd g z).toNat : Int) = rd g z := by omega
          have hgm : rd g ((rd g z).toNat : Nat) = rd g z := orbOk_const hg hps g2
          have hom : rd o ((rd g z).toNat : Nat) = rd g ((rd g z).toNat : Nat) := by
            have h1 := orbOk_le hg ho hps hm; have h2 := (ho.2 _ hm).2.1; omega
          exact (g2 _ hcl).1 hom
        have : lag o g n = 0 := by
          have hz0 : ∀ m, m ≤ n → lag o g m = 0 := by
            intro m
            induction m with
            | zero => intro _; rfl
            | succ m ih => intro hm; simp only [lag]; rw [if_pos (hall m (by omega)), ih (by omega)]
          exact hz0 n (Nat.le_refl _)
        exact hz this
      obtain ⟨z, z1, z2, z3⟩ := hex; have := lag_lt o o' g keep z z2 z3 n z1; omega
theorem orb_both (t f : List Int) (n : Nat) (hn : n ≤ 12) (h1 : 1 ≤ n) (ht : inR n t) (hf : inR n f) : ∃ o, orbOk [t, f] n o ∧ Ev (fun k => spec_l1Orbits.f k t f) o ∧ Ev (fun k => impl_orbits.f k [t, f]) o := by
  have hps : ∀ p ∈ [t, f], inR n p := by intro p hp; simp at hp; rcases hp with rfl | rfl <;> assumption
  obtain ⟨o, ho, he⟩ := implOrb_ev [t, f] n hn (by simp) (by simp) hps; refine ⟨o, ho, ?_, he⟩
  unfold spec_l1Orbits.f
  rw [ht.1]; refine Ev.bind (same_ev n (by omega)) ?_; refine specOrb_loop t f n hn ht hf o ho n 0 (stl n) (by omega) (by omega) (stl_orbI _ n) ?_; exact lag_le _ _ n
theorem isPerm_inR (l : List Int) (h : isPerm l) : inR l.length l := ⟨rfl, fun i hi => ⟨(h.2.2 i hi).1, (h.2.2 i hi).2.1⟩⟩
def sm : Nat → (Nat → Int) → Int
  | 0, _ => 0
  | n + 1, g => sm n g + g n
theorem sm_congr (g h : Nat → Int) : ∀ n, (∀ i, i < n → g i = h i) → sm n g = sm n h
  | 0, _ => rfl
  | n + 1, e => by
    simp only [sm]; rw [sm_congr g h n fun i hi => e i (by omega), e n (by omega)]
theorem sm_shift (g : Nat → Int) : ∀ n, sm (n + 1) g = g 0 + sm n (fun i => g (i + 1))
  | 0 => by simp [sm]
  | n + 1 => by
    rw [sm, sm_shift g n, sm]; omega
theorem sm_mul (a : Int) (g : Nat → Int) : ∀ n, a * sm n g = sm n (fun i => a * g i)
  | 0 => by simp [sm]
  | n + 1 => by
    simp only [sm]; rw [Int.mul_add, sm_mul a g n]
theorem sm_add (g h : Nat → Int) : ∀ n, sm n g + sm n h = sm n (fun i => g i + h i)
  | 0 => by simp [sm]
  | n + 1 => by
    simp only [sm]; rw [← sm_add g h n]; omega
theorem sm_zero : ∀ n, sm n (fun _ => 0) = 0
  | 0 => rfl
  | n + 1 => by simp [sm, sm_zero n]
theorem sm_comm (g : Nat → Nat → Int) (m : Nat) : ∀ n, sm n (fun i => sm m (fun j => g i j)) = sm m (fun j => sm n (fun i => g i j))
  | 0 => by simp [sm, sm_zero]
  | n + 1 => by
    simp only [sm]; rw [sm_comm g m n, sm_add]
def sgn : Nat → Int
  | 0 => 1
  | n + 1 => -sgn n
def skip (i a : Nat) : Nat := if a < i then a else a + 1
theorem skip_zero (i : Nat) : skip (i + 1) 0 = 0 := by simp [skip]
theorem skip_succ (i a : Nat) : skip (i + 1) (a + 1) = skip i a + 1 := by
  unfold skip
  by_cases h : a < i
  · rw [if_pos h, if_pos (by omega)]
  · rw [if_neg h, if_neg (by omega)]
def dR : Nat → (Nat → Nat → Int) → Int
  | 0, _ => 1
  | n + 1, M => sm (n + 1) fun j => sgn j * M 0 j * dR n fun a b => M (a + 1) (skip j b)
def dC : Nat → (Nat → Nat → Int) → Int
  | 0, _ => 1
  | n + 1, M => sm (n + 1) fun i => sgn i * M i 0 * dC n fun a b => M (skip i a) (b + 1)
theorem skip_lt (i a n : Nat) (h : a < n) : skip i a < n + 1 := by unfold skip; split <;> omega
theorem dC_congr : ∀ n (M N : Nat → Nat → Int), (∀ a b, a < n → b < n → M a b = N a b) → dC n M = dC n N
  | 0, _, _, _ => rfl
  | n + 1, M, N, h => by
    simp only [dC]
    refine sm_congr _ _ _ fun j hj => ?_
    rw [h j 0 hj (by omega), dC_congr n _ _ fun a b ha hb => h (skip j a) (b + 1) (skip_lt j a n ha) (by omega)]
theorem det_same : ∀ n, (∀ M, dR n M = dC n M) ∧ (∀ M, dR (n + 1) M = dC (n + 1) M)
  | 0 => ⟨fun _ => rfl, fun M => by simp [dR, dC, sm]⟩
  | n + 1 => by
    obtain ⟨h0, h1⟩ := det_same n; refine ⟨h1, fun M => ?_⟩
    have eR : dR (n + 2) M = M 0 0 * dR (n + 1) (fun a b => M (a + 1) (b + 1)) + sm (n + 1) (fun j => sm (n + 1) fun i => -(sgn j * sgn i) * (M 0 (j + 1) * M (i + 1) 0) * dR n fun a b => M (skip i a + 1) (skip j b + 1)) := by
      rw [dR, sm_shift]
      congr 1
      · simp only [sgn, Int.one_mul]
        congr 1
      · refine sm_congr _ _ _ fun j hj => ?_
        rw [h1, dC, sm_mul]
        refine sm_congr _ _ _ fun i hi => ?_
        simp only [skip_zero, skip_succ, sgn]; rw [← h0]; simp only [Int.neg_mul, Int.mul_assoc, Int.mul_neg, Int.mul_left_comm]
    have eC : dC (n + 2) M = M 0 0 * dC (n + 1) (fun a b => M (a + 1) (b + 1)) + sm (n + 1) (fun i => sm (n + 1) fun j => -(sgn j * sgn i) * (M 0 (j + 1) * M (i + 1) 0) * dR n fun a b => M (skip i a + 1) (skip j b + 1)) := by
      rw [dC, sm_shift]
      congr 1
      · simp only [sgn, Int.one_mul]
        congr 1
      · refine sm_congr _ _ _ fun i hi => ?_
        rw [← h1, dR, sm_mul]
        refine sm_congr _ _ _ fun j hj => ?_
        simp only [skip_zero, skip_succ, sgn]; simp only [Int.neg_mul, Int.mul_assoc, Int.mul_neg, Int.mul_left_comm]
    rw [eR, eC, h1, sm_comm]
theorem wrap_mod (x : Int) : ∃ k : Int, wrap64 x = x + k * 18446744073709551616 := by
  unfold wrap64
  refine ⟨-((x + 9223372036854775808) / 18446744073709551616), ?_⟩; omega
theorem wrap_add_mul (x k : Int) : wrap64 (x + k * 18446744073709551616) = wrap64 x := by
  unfold wrap64
  omega
theorem wrap_step (s a b d : Int) : wrap64 (wrap64 s + wrap64 (wrap64 (a * b) * wrap64 d)) = wrap64 (s + a * b * d) := by
  obtain ⟨k1, e1⟩ := wrap_mod s; obtain ⟨k2, e2⟩ := wrap_mod (a * b); obtain ⟨k3, e3⟩ := wrap_mod d; obtain ⟨k4, e4⟩ := wrap_mod (wrap64 (a * b) * wrap64 d); rw [e4, e1, e2, e3]
  have : s + k1 * 18446744073709551616 + ((a * b + k2 * 18446744073709551616) * (d + k3 * 18446744073709551616) + k4 * 18446744073709551616) = (s + a * b * d) + (k1 + (a * b) * k3 + k2 * d + k2 * k3 * 18446744073709551616 + k4) * 18446744073709551616 := by
    simp only [Int.add_mul, Int.mul_add, Int.mul_assoc, Int.mul_comm 18446744073709551616]
    have c1 : k2 * (18446744073709551616 * d) = k2 * (d * 18446744073709551616) := by rw [Int.mul_comm d]
    simp only [Int.mul_comm d, Int.mul_left_comm]; omega
  rw [this, wrap_add_mul]
def sq (T : List (List Int)) (m : Nat) : Prop := T.length = m ∧ ∀ i : Nat, i < m → (rd_L1 T (i : Int)).length = m
def ent (T : List (List Int)) (a b : Nat) : Int := rd (rd_L1 T (a : Int)) (b : Int)
theorem ll_rd (L : List (List Int)) (i : Nat) (h : i < L.length) : rd_L1 L (i : Int) = L[i] := by
  unfold rd_L1
  rw [Int.toNat_natCast, List.getD_eq_getElem?_getD, List.getElem?_eq_getElem h]; rfl
theorem ll_app_lt (L M : List (List Int)) (i : Nat) (h : i < L.length) : rd_L1 (L ++ M) (i : Int) = rd_L1 L (i : Int) := by
  rw [ll_rd _ i (by simp; omega), ll_rd L i h, List.getElem_append_left h]
theorem ll_app_at (L : List (List Int)) (x : List Int) : rd_L1 (L ++ [x]) (L.length : Int) = x := by
  rw [ll_rd _ _ (by simp), List.getElem_append_right (Nat.le_refl _)]
  simp
theorem rd_drop (l : List Int) (a b : Nat) : rd (l.drop a) (b : Int) = rd l ((a + b : Nat) : Int) := by
  unfold rd
  rw [Int.toNat_natCast, Int.toNat_natCast, List.getD_eq_getElem?_getD, List.getD_eq_getElem?_getD, List.getElem?_drop]
def mC (T : List (List Int)) (i : Nat) : Nat → List (List Int)
  | 0 => []
  | r + 1 => if r = i then mC T i r else mC T i r ++ [(rd_L1 T (r : Int)).drop 1]
theorem mC_len (T : List (List Int)) (i : Nat) : ∀ r, (mC T i r).length = if r ≤ i then r else r - 1
  | 0 => by simp [mC]
  | r + 1 => by
    have ih := mC_len T i r; simp only [mC]
    by_cases e : r = i
    · subst e
      rw [if_pos rfl, ih, if_pos (Nat.le_refl _), if_neg (by omega)]; omega
    · rw [if_neg e, List.length_append, ih, List.length_singleton]
      by_cases e2 : r ≤ i
      · rw [if_pos e2, if_pos (by omega)]
      · rw [if_neg e2, if_neg (by omega)]
        omega
theorem mC_row (T : List (List Int)) (i : Nat) : ∀ r a, a < (mC T i r).length → rd_L1 (mC T i r) (a : Int) = (rd_L1 T ((skip i a : Nat) : Int)).drop 1
  | 0, a, h => by simp [mC] at h
  | r + 1, a, h => by
    have hl := mC_len T i r; simp only [mC] at h ⊢
    by_cases e : r = i
    · rw [if_pos e] at h ⊢
      exact mC_row T i r a h
    · rw [if_neg e] at h ⊢
      by_cases e2 : a < (mC T i r).length
      · rw [ll_app_lt _ _ _ e2]
        exact mC_row T i r a e2
      · have ha : a = (mC T i r).length := by simp at h; omega
        rw [ha, ll_app_at, hl]
        unfold skip
        by_cases c : r ≤ i
        · rw [if_pos c, if_pos (by omega)]
        · rw [if_neg c, if_neg (by omega), show r - 1 + 1 = r by omega]
theorem wrap_zero : wrap64 0 = 0 := w64 (by omega) (by omega)
theorem sgn_val : ∀ j, sgn j = 1 ∨ sgn j = -1
  | 0 => .inl rfl
  | j + 1 => by
    rcases sgn_val j with h | h
    · right; simp [sgn, h]
    · left; simp [sgn, h]
theorem sgn_wrap (j : Nat) : wrap64 (-sgn j) = sgn (j + 1) := by
  rcases sgn_val j with h | h
  · simp only [sgn, h]; exact w64 (by omega) (by omega)
  · simp only [sgn, h]; exact w64 (by omega) (by omega)
def tC (T : List (List Int)) (m i : Nat) : Int := sgn i * ent T i 0 * dC m fun a b => ent T (skip i a) (b + 1)
theorem implDet_rows (T : List (List Int)) (m : Nat) (hm : m ≤ 12) (hT : sq T (m + 1)) (i : Nat) (hi : i < m + 1) (x3 x4 : Int) (r : Int) (h : Ev (fun k => (impl_determinant.f k (mC T i (m + 1))).bind fun t => impl_determinant.l0 k T (wrap64 (x3 + wrap64 (wrap64 (x4 * ent T i 0) * t))) (wrap64 (-x4)) T ((m + 1 : Nat) : Int) (wrap64 ((i : Int) + 1))) r) : ∀ (d q : Nat), m + 1 - q = d → q ≤ m + 1 → Ev (fun k => impl_determinant.l1 k T x3 x4 i (rd_L1 T (i : Int)) (mC T i q) T ((m + 1 : Nat) : Int) i T ((m + 1 : Nat) : Int) q) r
  | 0, q, hd, hq => by
    have : q = m + 1 := by omega
    subst this; have l0 := hT.2 i hi; refine Ev.s ?_; simp only [impl_determinant.l1, show ¬ ((m + 1 : Nat) : Int) < ((m + 1 : Nat) : Int) by omega, if_false, l0, show (0 : Int) < ((m + 1 : Nat) : Int) by omega, if_true]; exact h
  | d + 1, q, hd, hq => by
    have ih := implDet_rows T m hm hT i hi x3 x4 r h d (q + 1) (by omega) (by omega); have l1 := hT.2 q (by omega)
    have wq : q < 4611686018427387904 := by omega
    have hl := mC_len T i q
    have g3 : (mC T i q).length < 5864062014805 := by
      rw [hl]
      split <;> omega
    refine Ev.s ?_; simp only [impl_determinant.l1, hT.1, show (q : Int) < ((m + 1 : Nat) : Int) by omega, show (0 : Int) ≤ (q : Int) by omega, if_true, w64n wq]; simp only [mC] at ih
    by_cases e : q = i
    · subst e
      rw [if_pos rfl] at ih; simp only [if_true]; exact ih
    · rw [if_neg e] at ih
      simp only [show ¬ (q : Int) = (i : Int) by omega, if_false, l1, show (1 : Int) ≤ ((m + 1 : Nat) : Int) by omega, g3, if_true]; exact ih
theorem implDet_ev : ∀ (m : Nat) (T : List (List Int)), m ≤ 12 → sq T m → Ev (fun k => impl_determinant.f k T) (wrap64 (dC m (ent T)))
  | 0, T, hm, hT => by
    refine Ev.s ?_; simp only [impl_determinant.f, hT.1, show ((0 : Nat) : Int) = 0 from rfl, if_true]; exact Ev.const (by show some 1 = some (wrap64 1); rw [w64 (by omega) (by omega)])
  | m + 1, T, hm, hT => by
    have run : ∀ (d j : Nat), m + 1 - j = d → j ≤ m + 1 → Ev (fun k => impl_determinant.l0 k T (wrap64 (sm j (tC T m))) (sgn j) T ((m + 1 : Nat) : Int) j) (wrap64 (sm (m + 1) (tC T m))) := by
      intro d
      induction d with
      | zero =>
        intro j hd hj
        have : j = m + 1 := by omega
        subst this; refine Ev.s ?_; simp only [impl_determinant.l0, show ¬ ((m + 1 : Nat) : Int) < ((m + 1 : Nat) : Int) by omega, if_false]; exact Ev.const rfl
      | succ d ih =>
        intro j hd hj; have ih' := ih (j + 1) (by omega) (by omega); have l0 := hT.2 j (by omega)
        have wj : j < 4611686018427387904 := by omega
        refine Ev.s ?_; simp only [impl_determinant.l0, hT.1, show (j : Int) < ((m + 1 : Nat) : Int) by omega, show (0 : Int) < ((m + 1 : Nat) : Int) by omega, show (0 : Int) ≤ (j : Int) by omega, l0, if_true, sgn_wrap, w64n wj]; have e0 : ent T j 0 = rd (rd_L1 T (j : Int)) 0 := rfl
        by_cases z : rd (rd_L1 T (j : Int)) 0 = 0
        · simp only [z, if_true]
          have : sm (j + 1) (tC T m) = sm j (tC T m) := by
            simp only [sm, tC, e0, z]
            simp
          rw [this] at ih'; exact ih'
        · simp only [z, if_false]
          refine implDet_rows T m (by omega) hT j (by omega) _ _ _ ?_ (m + 1) 0 (by omega) (by omega)
          have hl : (mC T j (m + 1)).length = m := by
            rw [mC_len, if_neg (by omega)]; omega
          have hsq : sq (mC T j (m + 1)) m := by
            refine ⟨hl, fun i hi => ?_⟩; rw [mC_row T j (m + 1) i (by omega), List.length_drop]; have := hT.2 (skip j i) (skip_lt j i m hi); omega
          refine Ev.bind (implDet_ev m (mC T j (m + 1)) (by omega) hsq) ?_
          have ed : dC m (ent (mC T j (m + 1))) = dC m fun a b => ent T (skip j a) (b + 1) := dC_congr m _ _ fun a b ha hb => by
            unfold ent
            rw [mC_row T j (m + 1) a (by omega), rd_drop, Nat.add_comm 1 b]
          rw [ed, wrap_step, sgn_wrap, w64n wj]; exact ih'
    have := run (m + 1) 0 (by omega) (by omega); simp only [sm, wrap_zero, sgn] at this; refine Ev.s ?_; simp only [impl_determinant.f, hT.1, show ¬ ((m + 1 : Nat) : Int) = 0 by omega, if_false]; exact this
def flipAt (f : List Int) (i : Nat) : Prop := rd f i ≠ i ∧ rd f (rd f i) = i
def isMap (t f : List Int) : Prop := isPerm t ∧ isPerm f ∧ t.length = f.length ∧ (∀ i : Nat, i < f.length → flipAt f i) ∧ ∀ i j : Nat, i < f.length → j < f.length → Reach [t, f] f.length i j
def maxF : List Int → Int → Int
  | [], m => m
  | x :: xs, m => maxF xs (mx m x)
theorem maxF_zero : ∀ (l : List Int) (m : Int), 0 ≤ m → (∀ x ∈ l, 0 ≤ x) → 0 ≤ maxF l m ∧ (maxF l m = 0 ↔ m = 0 ∧ ∀ x ∈ l, x = 0)
  | [], m, hm, _ => by simp [maxF, hm]
  | x :: xs, m, hm, hx => by
    have hx0 := hx x (by simp)
    have hmx : 0 ≤ mx m x ∧ (mx m x = 0 ↔ m = 0 ∧ x = 0) := by unfold mx; split <;> omega
    obtain ⟨h1, h2⟩ := maxF_zero xs (mx m x) hmx.1 fun y hy => hx y (by simp [hy])
    refine ⟨h1, ?_⟩; simp only [maxF, h2, hmx.2, List.mem_cons, forall_eq_or_imp, and_assoc]
theorem max_run (l : List Int) (hl : l.length ≤ 1048576) : ∀ (d i : Nat) (m : Int), l.length - i = d → i ≤ l.length → Ev (fun k => slices_Max_int_int.l0 k l m i) (maxF (l.drop i) m)
  | 0, i, m, hd, hi => by
    refine Ev.s ?_; simp only [slices_Max_int_int.l0, show ¬ (i : Int) < (l.length : Int) by omega, if_false]; rw [List.drop_eq_nil_of_le (by omega)]; exact Ev.const rfl
  | d + 1, i, m, hd, hi => by
    have hlt : i < l.length := by omega
    refine Ev.s ?_; simp only [slices_Max_int_int.l0, show (i : Int) < (l.length : Int) by omega, show (0 : Int) ≤ (i : Int) by omega, if_true]; rw [w64 (x := (i : Int) + 1) (by omega) (by omega), show ((i : Int) + 1) = ((i + 1 : Nat) : Int) by omega, List.drop_eq_getElem_cons hlt, rd_lt l i hlt]; exact max_run l hl d (i + 1) _ (by omega) (by omega)
theorem max_ev (l : List Int) (hl : l.length ≤ 1048576) (h1 : 1 ≤ l.length) (h0 : ∀ x ∈ l, 0 ≤ x) : ∃ m, Ev (fun k => slices_Max_int_int.f k l) m ∧ (m = 0 ↔ ∀ x ∈ l, x = 0) := by
  cases l with
  | nil => simp at h1
  | cons x xs =>
    refine ⟨maxF xs x, ?_, ?_⟩
    · unfold slices_Max_int_int.f
      simp only [show ¬ (((x :: xs).length : Nat) : Int) < 1 by omega, show (0 : Int) < (((x :: xs).length : Nat) : Int) by omega, if_true, if_false]; exact max_run (x :: xs) hl _ 1 x rfl h1
    · rw [(maxF_zero xs x (h0 x (by simp)) fun y hy => h0 y (by simp [hy])).2]
      simp
theorem specFlip_run (t f : List Int) (hf : isPerm f) : ∀ (d i : Nat), f.length - i = d → i ≤ f.length →
    ((∀ q : Nat, i ≤ q → q < f.length → flipAt f q) → ∀ r, Ev (fun k => (spec_l1Orbits.f k t f).bind fun o => spec_MapValid.l1 k o 0) r → Ev (fun k => spec_MapValid.l0 k i t f) r) ∧ (¬ (∀ q : Nat, i ≤ q → q < f.length → flipAt f q) → Ev (fun k => spec_MapValid.l0 k i t f) false)
  | 0, i, hd, hi => by
    refine ⟨fun _ r h => Ev.s ?_, fun h => absurd (fun q h1 h2 => by omega) h⟩; simp only [spec_MapValid.l0, show ¬ (i : Int) < (f.length : Int) by omega, if_false]; exact h
  | d + 1, i, hd, hi => by
    have hlt : i < f.length := by omega
    have hl12 := hf.2.1; have hr := (isPerm_inR f hf).2 i hlt; have ih := specFlip_run t f hf d (i + 1) (by omega) (by omega)
    have hw : wrap64 ((i : Int) + 1) = ((i + 1 : Nat) : Int) := by rw [w64 (by omega) (by omega)]; omega
    have g1 : (i : Int) < (f.length : Int) := by omega
    have g2 : (0 : Int) ≤ (i : Int) := by omega
    by_cases c1 : rd f i = i
    · refine ⟨fun h => absurd c1 (h i (Nat.le_refl _) hlt).1, fun h => Ev.s ?_⟩
      simp only [spec_MapValid.l0, g1, g2, c1, if_true]; exact Ev.const rfl
    · by_cases c2 : rd f (rd f i) = i
      · refine ⟨fun h r hr' => Ev.s ?_, fun h => Ev.s ?_⟩
        · simp only [spec_MapValid.l0, g1, g2, c1, c2, hr.1, hr.2, if_true, if_false, hw]
          exact ih.1 (fun q h1 h2 => h q (by omega) h2) r hr'
        · simp only [spec_MapValid.l0, g1, g2, c1, c2, hr.1, hr.2, if_true, if_false, hw]
          refine ih.2 fun h' => h fun q h1 h2 => ?_
          by_cases e : q = i
          · rw [e]; exact ⟨c1, c2⟩
          · exact h' q (by omega) h2
      · refine ⟨fun h => absurd (h i (Nat.le_refl _) hlt).2 c2, fun h => Ev.s ?_⟩
        simp only [spec_MapValid.l0, g1, g2, c1, c2, hr.1, hr.2, if_true, if_false]; exact Ev.const rfl
theorem implFlip_run (t f : List Int) (hf : isPerm f) : ∀ (d i : Nat), f.length - i = d → i ≤ f.length →
    ((∀ q : Nat, i ≤ q → q < f.length → flipAt f q) → ∀ r, Ev (fun k => (impl_orbits.f k [t, f]).bind fun o => (slices_Max_int_int.f k o).bind fun m => some (m == 0)) r → Ev (fun k => impl_MapValid.l0 k f f.length i t f) r) ∧ (¬ (∀ q : Nat, i ≤ q → q < f.length → flipAt f q) → Ev (fun k => impl_MapValid.l0 k f f.length i t f) false)
  | 0, i, hd, hi => by
    refine ⟨fun _ r h => Ev.s ?_, fun h => absurd (fun q h1 h2 => by omega) h⟩; simp only [impl_MapValid.l0, show ¬ (i : Int) < (f.length : Int) by omega, if_false]; exact h
  | d + 1, i, hd, hi => by
    have hlt : i < f.length := by omega
    have hl12 := hf.2.1; have hr := (isPerm_inR f hf).2 i hlt; have ih := implFlip_run t f hf d (i + 1) (by omega) (by omega)
    have hw : wrap64 ((i : Int) + 1) = ((i + 1 : Nat) : Int) := by rw [w64 (by omega) (by omega)]; omega
    have g1 : (i : Int) < (f.length : Int) := by omega
    have g2 : (0 : Int) ≤ (i : Int) := by omega
    by_cases c1 : rd f i = i
    · refine ⟨fun h => absurd c1 (h i (Nat.le_refl _) hlt).1, fun h => Ev.s ?_⟩
      simp only [impl_MapValid.l0, g1, g2, c1, if_true]; exact Ev.const rfl
    · by_cases c2 : rd f (rd f i) = i
      · refine ⟨fun h r hr' => Ev.s ?_, fun h => Ev.s ?_⟩
        · simp only [impl_MapValid.l0, g1, g2, c1, c2, hr.1, hr.2, if_true, if_false, hw]
          exact ih.1 (fun q h1 h2 => h q (by omega) h2) r hr'
        · simp only [impl_MapValid.l0, g1, g2, c1, c2, hr.1, hr.2, if_true, if_false, hw]
          refine ih.2 fun h' => h fun q h1 h2 => ?_
          by_cases e : q = i
          · rw [e]; exact ⟨c1, c2⟩
          · exact h' q (by omega) h2
      · refine ⟨fun h => absurd (h i (Nat.le_refl _) hlt).2 c2, fun h => Ev.s ?_⟩
        simp only [impl_MapValid.l0, g1, g2, c1, c2, hr.1, hr.2, if_true, if_false]; exact Ev.const rfl
theorem zero_run (o : List Int) (hl : o.length ≤ 1048576) : ∀ (d i : Nat), o.length - i = d → i ≤ o.length →
    ((∀ q : Nat, i ≤ q → q < o.length → rd o q = 0) → Ev (fun k => spec_MapValid.l1 k o i) true) ∧ (¬ (∀ q : Nat, i ≤ q → q < o.length → rd o q = 0) → Ev (fun k => spec_MapValid.l1 k o i) false)
  | 0, i, hd, hi => by
    refine ⟨fun _ => Ev.s ?_, fun h => absurd (fun q h1 h2 => by omega) h⟩; simp only [spec_MapValid.l1, show ¬ (i : Int) < (o.length : Int) by omega, if_false]; exact Ev.const rfl
  | d + 1, i, hd, hi => by
    have hlt : i < o.length := by omega
    have ih := zero_run o hl d (i + 1) (by omega) (by omega)
    have hw : wrap64 ((i : Int) + 1) = ((i + 1 : Nat) : Int) := by rw [w64 (by omega) (by omega)]; omega
    have g1 : (i : Int) < (o.length : Int) := by omega
    have g2 : (0 : Int) ≤ (i : Int) := by omega
    by_cases c : rd o i = 0
    · refine ⟨fun h => Ev.s ?_, fun h => Ev.s ?_⟩
      · simp only [spec_MapValid.l1, g1, g2, c, if_true, hw]
        exact ih.1 fun q h1 h2 => h q (by omega) h2
      · simp only [spec_MapValid.l1, g1, g2, c, if_true, hw]
        refine ih.2 fun h' => h fun q h1 h2 => ?_
        by_cases e : q = i
        · rw [e]; exact c
        · exact h' q (by omega) h2
    · refine ⟨fun h => absurd (h i (Nat.le_refl _) hlt) c, fun h => Ev.s ?_⟩
      simp only [spec_MapValid.l1, g1, g2, c, if_true, if_false]; exact Ev.const rfl
theorem orb_zero (t f : List Int) (n : Nat) (h1 : 1 ≤ n) (ht : inR n t) (hf : inR n f) (o : List Int) (ho : orbOk [t, f] n o) : (∀ q : Nat, q < n → rd o q = 0) ↔ ∀ i j : Nat, i < n → j < n → Reach [t, f] n i j := by
  have hps : ∀ p ∈ [t, f], inR n p := by intro p hp; simp at hp; rcases hp with rfl | rfl <;> assumption
  constructor
  · intro h i j hi hj
    have e1 := (ho.1.2 i hi).2.2; have e2 := (ho.1.2 j hj).2.2; rw [h i hi] at e1; rw [h j hj] at e2; exact e1.symm.trans e2
  · intro h q hq
    have := orbOk_const ho hps (h q 0 hq (by omega)); have h0 := ho.1.2 0 (by omega); omega
theorem mapValid_both (t f : List Int) (ht : t.length ≤ 1048576) (hf : f.length ≤ 1048576) : ∃ b : Bool, Ev (fun k => spec_MapValid.f k t f) b ∧ Ev (fun k => impl_MapValid.f k t f) b ∧ (b = true ↔ isMap t f) := by
  obtain ⟨bt, t1, t2, t3⟩ := permValid_both t ht; obtain ⟨bf, f1, f2, f3⟩ := permValid_both f hf
  have hb : ∀ b : Bool, (∃ c : Bool, Ev (fun k => spec_l1Both.f k t f) c ∧ (c = true ↔ isPerm t ∧ isPerm f ∧ t.length = f.length)) := fun _ => by
    unfold spec_l1Both.f
    cases bt with
    | false => exact ⟨false, Ev.bind t1 (Ev.const rfl), ⟨fun h => (by cases h), fun h => absurd (t3.2 h.1) (by decide)⟩⟩
    | true =>
      cases bf with
      | false => exact ⟨false, Ev.bind t1 (by simp only [if_true]; exact Ev.bind f1 (Ev.const rfl)), ⟨fun h => (by cases h), fun h => absurd (f3.2 h.2.1) (by decide)⟩⟩
      | true => exact ⟨((t.length : Int) == (f.length : Int)), Ev.bind t1 (by simp only [if_true]; exact Ev.bind f1 (Ev.const rfl)), ⟨fun h => ⟨t3.1 rfl, f3.1 rfl, by have := beq_iff_eq.1 h; omega⟩, fun h => by rw [beq_iff_eq]; omega⟩⟩
  obtain ⟨c, c1, c2⟩ := hb true
  by_cases hall : isPerm t ∧ isPerm f ∧ t.length = f.length
  · obtain ⟨pt, pf, hlen⟩ := hall
    have hc : c = true := c2.2 ⟨pt, pf, hlen⟩; subst hc; have hbt : bt = true := t3.2 pt; have hbf : bf = true := f3.2 pf; subst hbt; subst hbf
    have hne : (((t.length : Int)) != (f.length : Int)) = false := by rw [bne_eq_false_iff_eq]; omega
    have hrt : inR f.length t := by have := isPerm_inR t pt; rwa [hlen] at this
    have hrf := isPerm_inR f pf; obtain ⟨o, o1, o2, o3⟩ := orb_both t f f.length pf.2.1 pf.1 hrt hrf
    have hS : ∀ r, Ev (fun k => spec_MapValid.l0 k 0 t f) r → Ev (fun k => spec_MapValid.f k t f) r := fun r h => by
      unfold spec_MapValid.f
      refine Ev.bind c1 ?_; simp only [if_true]; exact h
    have hI : ∀ r, Ev (fun k => impl_MapValid.l0 k f f.length 0 t f) r → Ev (fun k => impl_MapValid.f k t f) r := fun r h => by
      unfold impl_MapValid.f
      refine Ev.bind t2 ?_; simp only [if_true]; refine Ev.bind f2 ?_; simp only [if_true, hne]; refine Ev.s ?_; simp only [impl_MapValid.j0, Bool.false_eq_true, if_false]; exact h
    have sF := specFlip_run t f pf f.length 0 (by omega) (by omega); have iF := implFlip_run t f pf f.length 0 (by omega) (by omega)
    by_cases hfl : ∀ q : Nat, 0 ≤ q → q < f.length → flipAt f q
    · have zr := zero_run o (by rw [o1.1.1]; omega) o.length 0 (by omega) (by omega)
      have oz := orb_zero t f f.length pf.1 hrt hrf o o1; obtain ⟨m, m1, m2⟩ := max_ev o (by rw [o1.1.1]; omega) (by rw [o1.1.1]; exact pf.1) (fun x hx => by
        obtain ⟨i, hi, rfl⟩ := List.mem_iff_getElem.1 hx; have := (o1.1.2 i (by rw [← o1.1.1]; exact hi)).1
        rwa [rd_lt o i hi] at this)
      have hmz : m = 0 ↔ ∀ q : Nat, 0 ≤ q → q < o.length → rd o q = 0 := by
        rw [m2]
        constructor
        · intro h q _ hq
          rw [rd_lt o q hq]; exact h _ (List.getElem_mem hq)
        · intro h x hx
          obtain ⟨i, hi, rfl⟩ := List.mem_iff_getElem.1 hx; have := h i (by omega) hi
          rwa [rd_lt o i hi] at this
      by_cases hz : ∀ q : Nat, 0 ≤ q → q < o.length → rd o q = 0
      · refine ⟨true, hS _ (sF.1 hfl _ (Ev.bind o2 (zr.1 hz))), hI _ (iF.1 hfl _ (Ev.bind o3 (Ev.bind m1 (Ev.const ?_)))), ?_⟩
        · rw [hmz.2 hz]; rfl
        · refine ⟨fun _ => ⟨pt, pf, hlen, fun i hi => hfl i (by omega) hi, oz.1 fun q hq => hz q (by omega) (by rw [o1.1.1]; exact hq)⟩, fun _ => rfl⟩
      · refine ⟨false, hS _ (sF.1 hfl _ (Ev.bind o2 (zr.2 hz))), hI _ (iF.1 hfl _ (Ev.bind o3 (Ev.bind m1 (Ev.const ?_)))), ?_⟩
        · have : ¬ m = 0 := fun e => hz (hmz.1 e)
          simp [this]
        · exact ⟨fun h => (by cases h), fun h => absurd (fun q _ hq => oz.2 h.2.2.2.2 q (by rw [← o1.1.1]; exact hq)) hz⟩
    · exact ⟨false, hS _ (sF.2 hfl), hI _ (iF.2 hfl), ⟨fun h => (by cases h), fun h => absurd (fun q _ hq => h.2.2.2.1 q hq) hfl⟩⟩
  · have hc : c = false := by
      cases c with
      | false => rfl
      | true => exact absurd (c2.1 rfl) hall
    subst hc; refine ⟨false, ?_, ?_, ⟨fun h => (by cases h), fun h => absurd ⟨h.1, h.2.1, h.2.2.1⟩ hall⟩⟩
    · unfold spec_MapValid.f
      exact Ev.bind c1 (Ev.const rfl)
    · have hj : Ev (fun k => impl_MapValid.j0 k true t f) false := by
        refine Ev.s ?_; simp only [impl_MapValid.j0, if_true]; exact Ev.const rfl
      unfold impl_MapValid.f
      refine Ev.bind t2 ?_
      cases bt with
      | false => simp only [Bool.false_eq_true, if_false]; exact hj
      | true =>
        simp only [if_true]; refine Ev.bind f2 ?_
        cases bf with
        | false => simp only [Bool.false_eq_true, if_false]; exact hj
        | true =>
          have hne : (((t.length : Int)) != (f.length : Int)) = true := by
            rw [bne_iff_ne]; intro e; exact hall ⟨t3.1 rfl, f3.1 rfl, by omega⟩
          simp only [if_true, hne]; exact hj
def edL (f : List Int) : Nat → List Int
  | 0 => []
  | i + 1 => if (i : Int) < rd f i then edL f i ++ [(i : Int)] else edL f i
def geL (f : List Int) (n : Nat) : Nat → List Int
  | 0 => List.replicate n 0
  | i + 1 => if (i : Int) < rd f i then ((geL f n i).set i ((edL f i).length : Int)).set (rd f i).toNat ((edL f i).length : Int) else geL f n i
theorem edL_le (f : List Int) : ∀ i, (edL f i).length ≤ i
  | 0 => Nat.le_refl _
  | i + 1 => by
    have ih := edL_le f i; simp only [edL]
    split
    · simp only [List.length_append, List.length_cons, List.length_nil]; omega
    · omega
theorem geL_len (f : List Int) (n : Nat) : ∀ i, (geL f n i).length = n
  | 0 => by simp [geL]
  | i + 1 => by
    simp only [geL]
    split
    · simp [geL_len f n i]
    · exact geL_len f n i
theorem implEdges_run (n : Nat) (hn : n ≤ 1048576) (f : List Int) (hf : inR n f) : ∀ (d i : Nat), n - i = d → i ≤ n → Ev (fun k => impl_edgesOf.l0 k (edL f i) f n i) (edL f n)
  | 0, i, hd, hi => by
    have : i = n := by omega
    subst this; refine Ev.s ?_; simp only [impl_edgesOf.l0, show ¬ (i : Int) < (i : Int) by omega, if_false]; exact Ev.const rfl
  | d + 1, i, hd, hi => by
    have ih := implEdges_run n hn f hf d (i + 1) (by omega) (by omega); have h1 := edL_le f i; refine Ev.s ?_; simp only [impl_edgesOf.l0, hf.1, show (i : Int) < (n : Int) by omega, show (0 : Int) ≤ (i : Int) by omega, show (edL f i).length < 17592186044416 by omega, if_true]; rw [w64n (by omega)]; simp only [edL] at ih
    by_cases e : (i : Int) < rd f i
    · simp only [e, if_true] at ih ⊢; exact ih
    · simp only [e, if_false] at ih ⊢; exact ih
theorem implEdges_ev (n : Nat) (hn : n ≤ 1048576) (t f : List Int) (hf : inR n f) : Ev (fun k => impl_edgesOf.f k t f) (edL f n) := by
  unfold impl_edgesOf.f
  rw [hf.1]; exact implEdges_run n hn f hf n 0 (by omega) (by omega)
theorem specEdges_run (n : Nat) (hn : n ≤ 1048576) (t f : List Int) (hf : inR n f) : ∀ (d i : Nat), n - i = d → i ≤ n → Ev (fun k => spec_l7Edges.l0 k (geL f n i) ((edL f i).length : Int) i t f) (geL f n n)
  | 0, i, hd, hi => by
    have : i = n := by omega
    subst this; refine Ev.s ?_; simp only [spec_l7Edges.l0, geL_len, show ¬ (i : Int) < (i : Int) by omega, if_false]; exact Ev.const rfl
  | d + 1, i, hd, hi => by
    have ih := specEdges_run n hn t f hf d (i + 1) (by omega) (by omega); have h1 := edL_le f i; have h2 := hf.2 i (by omega); refine Ev.s ?_; simp only [spec_l7Edges.l0, geL_len, hf.1, show (i : Int) < (n : Int) by omega, show (0 : Int) ≤ (i : Int) by omega, h2.1, h2.2, if_true, Int.toNat_natCast]; rw [w64n (by omega), w64n (i := i) (by omega)]; simp only [edL, geL] at ih
    by_cases e : (i : Int) < rd f i
    · simp only [e, if_true, List.length_append, List.length_cons, List.length_nil] at ih ⊢; exact ih
    · simp only [e, if_false] at ih ⊢; exact ih
theorem specEdges_ev (n : Nat) (hn : n ≤ 1048576) (t f : List Int) (hf : inR n f) : Ev (fun k => spec_l7Edges.f k t f) (geL f n n) := by
  unfold spec_l7Edges.f
  have h1 : n ≤ 35184372088832 := by omega
  have h2 : (0 : Int) ≤ (n : Int) := by omega
  simp only [hf.1, Int.toNat_natCast, h1, h2, if_true]; exact specEdges_run n hn t f hf n 0 (by omega) (by omega)
def least (f : List Int) (d : Nat) : Nat := if (d : Int) < rd f d then d else (rd f d).toNat
theorem edL_lt (f : List Int) (m : Nat) (hm : (m : Int) < rd f m) : ∀ n, m < n → (edL f m).length < (edL f n).length
  | n + 1, h => by
    simp only [edL]
    by_cases e : m = n
    · subst e
      simp only [hm, if_true, List.length_append, List.length_cons, List.length_nil]; omega
    · have ih := edL_lt f m hm n (by omega)
      split
      · simp only [List.length_append, List.length_cons, List.length_nil]; omega
      · exact ih
theorem edL_at (f : List Int) (m : Nat) (hm : (m : Int) < rd f m) : ∀ n, m < n → rd (edL f n) ((edL f m).length : Int) = m
  | n + 1, h => by
    simp only [edL]
    by_cases e : m = n
    · subst e
      simp only [hm, if_true]; rw [rd_lt _ _ (by simp), List.getElem_append_right (Nat.le_refl _)]
      simp
    · have ih := edL_at f m hm n (by omega)
      split
      · rw [rd_app_lt _ _ _ (edL_lt f m hm n (by omega))]; exact ih
      · exact ih
theorem least_lt (f : List Int) (n : Nat) (hf : inR n f) (hfl : ∀ i : Nat, i < n → flipAt f i) (d : Nat) (hd : d < n) : least f d < n ∧ (least f d : Int) < rd f (least f d) := by
  have h1 := hf.2 d hd; obtain ⟨h2, h3⟩ := hfl d hd
  unfold least
  split
  · exact ⟨hd, by assumption⟩
  · refine ⟨by omega, ?_⟩
    rw [show (((rd f d).toNat : Nat) : Int) = rd f d by omega, h3]; omega
theorem geL_at (f : List Int) (n : Nat) (hf : inR n f) (hfl : ∀ i : Nat, i < n → flipAt f i) : ∀ i, i ≤ n → ∀ d : Nat, d < n → least f d < i → rd (geL f n i) d = ((edL f (least f d)).length : Int)
  | i + 1, hi, d, hd, h => by
    have ih := geL_at f n hf hfl i (by omega) d hd; have hl := geL_len f n i; have h1 := hf.2 d hd; obtain ⟨h2, h3⟩ := hfl d hd; have g1 := hf.2 i (by omega); obtain ⟨g2, g3⟩ := hfl i (by omega); have hll := least_lt f n hf hfl d hd; simp only [geL]
    by_cases e : least f d = i
    · rw [e] at hll
      simp only [hll.2, if_true]; rw [e]
      by_cases e2 : d = (rd f i).toNat
      · subst e2
        rw [rd_set_self _ _ _ (by simp; omega)]
      · have e3 : d = i := by
          unfold least at e
          split at e
          · exact e
          · exfalso
            apply e2
            rw [show (i : Int) = rd f d by omega, h3]; omega
        rw [rd_set_ne _ _ _ _ (fun h => e2 h.symm)]; subst e3; rw [rd_set_self _ _ _ (by omega)]
    · have ih' := ih (by omega)
      by_cases c : (i : Int) < rd f i
      · simp only [c, if_true]
        have n1 : (rd f i).toNat ≠ d := by
          intro h
          apply e
          have hd' : rd f i = d := by omega
          have : rd f d = i := by rw [← hd', g3]
          unfold least
          rw [if_neg (by omega)]; omega
        have n2 : i ≠ d := by
          intro h
          apply e
          subst h
          unfold least
          rw [if_pos c]
        rw [rd_set_ne _ _ _ _ n1, rd_set_ne _ _ _ _ n2]; exact ih'
      · simp only [c, if_false]
        exact ih'
theorem len_le_of_sub : ∀ (a b : List Nat), a.Nodup → (∀ x ∈ a, x ∈ b) → a.length ≤ b.length
  | [], b, _, _ => Nat.zero_le _
  | x :: a, b, hn, h => by
    have hx := h x (by simp); obtain ⟨hxa, hna⟩ := List.nodup_cons.1 hn
    have ih := len_le_of_sub a (b.erase x) hna fun y hy => (List.mem_erase_of_ne (by rintro rfl; exact hxa hy)).2 (h y (by simp [hy]))
    rw [List.length_erase_of_mem hx] at ih; have := List.length_pos_of_mem hx; simp only [List.length_cons]; omega
theorem edL_filter (f : List Int) : ∀ n, (edL f n).length = ((List.range n).filter fun (i : Nat) => decide ((i : Int) < rd f i)).length
  | 0 => rfl
  | n + 1 => by
    rw [List.range_succ, List.filter_append, List.length_append, ← edL_filter f n]; simp only [edL]
    by_cases e : (n : Int) < rd f n <;> simp [e]
theorem edL_half (f : List Int) (n : Nat) (hf : inR n f) (hfl : ∀ i : Nat, i < n → flipAt f i) : 2 * (edL f n).length = n := by
  rw [edL_filter]; have hA := List.length_eq_countP_add_countP (fun (i : Nat) => decide ((i : Int) < rd f i)) (l := List.range n); rw [List.countP_eq_length_filter, List.countP_eq_length_filter, List.length_range] at hA
  have sub : ∀ (P Q : Nat → Bool), (∀ i, i < n → P i = true → Q (rd f i).toNat = true) → ((List.range n).filter P).length ≤ ((List.range n).filter Q).length := by
    intro P Q h; rw [← List.length_map (f := fun (i : Nat) => (rd f i).toNat)]; refine len_le_of_sub _ _ ?_ ?_
    · rw [List.Nodup, List.pairwise_map]
      refine List.Pairwise.imp_of_mem ?_ ((List.nodup_range (n := n)).filter P); intro a b ha hb hab e; have ha' := List.mem_range.1 (List.mem_filter.1 ha).1; have hb' := List.mem_range.1 (List.mem_filter.1 hb).1; have h1 := hf.2 a ha'; have h2 := hf.2 b hb'
      have e2 : rd f a = rd f b := by omega
      have h3 := (hfl a ha').2; rw [e2, (hfl b hb').2] at h3; omega
    · intro x hx
      obtain ⟨a, ha, rfl⟩ := List.mem_map.1 hx; obtain ⟨ha1, ha2⟩ := List.mem_filter.1 ha; have ha' := List.mem_range.1 ha1; have h1 := hf.2 a ha'; exact List.mem_filter.2 ⟨List.mem_range.2 (by omega), h a ha' ha2⟩
  have back : ∀ i : Nat, i < n → (((rd f i).toNat : Nat) : Int) = rd f i := fun i hi => by have := hf.2 i hi; omega
  have h1 := sub (fun (i : Nat) => decide ((i : Int) < rd f i)) (fun (i : Nat) => decide ¬ decide ((i : Int) < rd f i) = true) (fun i hi h => by
    have h3 := (hfl i hi).2; simp only [decide_eq_true_eq] at h; simp only [back i hi, h3, decide_eq_true_eq]
    omega)
  have h2 := sub (fun (i : Nat) => decide ¬ decide ((i : Int) < rd f i) = true) (fun (i : Nat) => decide ((i : Int) < rd f i)) (fun i hi h => by
    have h3 := hfl i hi; simp only [decide_eq_true_eq] at h; simp only [back i hi, h3.2, decide_eq_true_eq]; have := h3.1
    omega)
  omega
def cw (p : List Int) : Nat → List Bool → List Int → Int → List Bool × List Int
  | 0, s, c, a => (s, c)
  | f + 1, s, c, a => if rdOf false s a = true then (s, c) else cw p f (s.set a.toNat true) (c ++ [a]) (rd p a)
def fresh (s : List Bool) : Nat := s.countP (fun b => !b)
def cyS (p : List Int) (n : Nat) : Nat → List Bool × List (List Int)
  | 0 => (List.replicate n false, [])
  | i + 1 =>
    let q := cw p (n + 1) (cyS p n i).1 [] i
    (q.1, if q.2 = [] then (cyS p n i).2 else (cyS p n i).2 ++ [q.2])
theorem fresh_set : ∀ (s : List Bool) (i : Nat), i < s.length → s.getD i false = false → fresh (s.set i true) + 1 = fresh s
  | b :: s, 0, _, h => by
    simp only [List.getD_cons_zero] at h; subst h
    simp [fresh]
  | b :: s, i + 1, hi, h => by
    simp only [List.getD_cons_succ] at h; have ih := fresh_set s i (by simpa using hi) h; simp only [fresh, List.set_cons_succ, List.countP_cons] at ih ⊢; omega
theorem rdOf_nat (s : List Bool) (a : Int) (h0 : 0 ≤ a) : rdOf false s a = s.getD a.toNat false := by
  unfold rdOf
  rfl
theorem cw_len (p : List Int) : ∀ (f : Nat) (s : List Bool) (c : List Int) (a : Int), (cw p f s c a).1.length = s.length
  | 0, s, c, a => rfl
  | f + 1, s, c, a => by
    simp only [cw]
    split
    · rfl
    · rw [cw_len p f]; simp
theorem spec_cw (p : List Int) (n : Nat) (hn : n ≤ 1048576) (hp : inR n p) (L : List (List Int)) (hL : L.length ≤ 1048576) (i : Int) (r : List (List Int)) : ∀ (f : Nat) (s : List Bool) (c : List Int) (a : Int), s.length = n → 0 ≤ a → a < n → fresh s < f → c.length + fresh s ≤ 1048577 →
    Ev (fun k => spec_l1Cycles.l0 k p (L ++ [(cw p f s c a).2]) (cw p f s c a).1 (wrap64 (i + 1))) r → Ev (fun k => spec_l1Cycles.l1 k p L s i c a) r
  | 0, s, c, a, hs, h0, h1, hf, hc, h => absurd hf (Nat.not_lt_zero _)
  | f + 1, s, c, a, hs, h0, h1, hf, hc, h => by
    refine Ev.s ?_; simp only [cw] at h
    have hL' : L.length < 5864062014805 := by omega
    have hc' : c.length < 17592186044416 := by omega
    simp only [spec_l1Cycles.l1, h0, hs, h1, hp.1, hL', hc', if_true]
    by_cases e : rdOf false s a = true
    · simp only [e, if_true] at h ⊢
      exact h
    · simp only [e, if_false] at h ⊢
      have h3 : s.getD a.toNat false = false := by rw [← rdOf_nat s a h0]; simpa using e
      have h4 := fresh_set s a.toNat (by omega) h3; have h5 := hp.2 a.toNat (by omega); rw [show ((a.toNat : Nat) : Int) = a by omega] at h5; exact spec_cw p n hn hp L hL i r f _ _ _ (by simpa using hs) h5.1 h5.2 (by omega) (by simp only [List.length_append, List.length_cons, List.length_nil]; omega) h
theorem impl_cw (p : List Int) (n : Nat) (hn : n ≤ 1048576) (hp : inR n p) (L : List (List Int)) (hL : L.length ≤ 1048576) (m i : Int) (r : List (List Int)) : ∀ (f : Nat) (s : List Bool) (c : List Int) (a : Int), s.length = n → 0 ≤ a → a < n → fresh s < f → c.length + fresh s ≤ 1048577 →
    Ev (fun k => impl_cyclesOf.l0 k p (if (cw p f s c a).2 = [] then L else L ++ [(cw p f s c a).2]) (cw p f s c a).1 m (wrap64 (i + 1))) r → Ev (fun k => impl_cyclesOf.l1 k p L s c a m i) r
  | 0, s, c, a, hs, h0, h1, hf, hc, h => absurd hf (Nat.not_lt_zero _)
  | f + 1, s, c, a, hs, h0, h1, hf, hc, h => by
    refine Ev.s ?_; simp only [cw] at h
    have hL' : L.length < 5864062014805 := by omega
    have hc' : c.length < 17592186044416 := by omega
    simp only [impl_cyclesOf.l1, h0, hs, h1, hp.1, hL', hc', if_true]
    by_cases e : rdOf false s a = true
    · simp only [e, if_true] at h ⊢
      cases c with
      | nil => simpa using h
      | cons b c => simpa using h
    · simp only [e, if_false] at h ⊢
      have h3 : s.getD a.toNat false = false := by rw [← rdOf_nat s a h0]; simpa using e
      have h4 := fresh_set s a.toNat (by omega) h3; have h5 := hp.2 a.toNat (by omega); rw [show ((a.toNat : Nat) : Int) = a by omega] at h5; exact impl_cw p n hn hp L hL m i r f _ _ _ (by simpa using hs) h5.1 h5.2 (by omega) (by simp only [List.length_append, List.length_cons, List.length_nil]; omega) h
theorem fresh_le (s : List Bool) : fresh s ≤ s.length := List.countP_le_length
theorem cyS_len (p : List Int) (n : Nat) : ∀ i, (cyS p n i).1.length = n
  | 0 => by simp [cyS]
  | i + 1 => by simp only [cyS]; rw [cw_len, cyS_len p n i]
theorem cyS_many (p : List Int) (n : Nat) : ∀ i, (cyS p n i).2.length ≤ i
  | 0 => by simp [cyS]
  | i + 1 => by
    have ih := cyS_many p n i; simp only [cyS]
    split
    · omega
    · simp only [List.length_append, List.length_cons, List.length_nil]; omega
theorem cw_seen (p : List Int) (f : Nat) (s : List Bool) (c : List Int) (a : Int) (h : rdOf false s a = true) : cw p f s c a = (s, c) := by
  cases f with
  | zero => rfl
  | succ f => simp only [cw, h, if_true]
theorem cw_more (p : List Int) : ∀ (f : Nat) (s : List Bool) (c : List Int) (a : Int), c.length ≤ (cw p f s c a).2.length
  | 0, s, c, a => Nat.le_refl _
  | f + 1, s, c, a => by
    simp only [cw]
    split
    · exact Nat.le_refl _
    · have := cw_more p f (s.set a.toNat true) (c ++ [a]) (rd p a)
      simp only [List.length_append, List.length_cons, List.length_nil] at this; omega
theorem cw_new (p : List Int) (f : Nat) (s : List Bool) (a : Int) (h : ¬ rdOf false s a = true) : (cw p (f + 1) s [] a).2 ≠ [] := by
  simp only [cw, h, Bool.false_eq_true, if_false]; intro e; have := cw_more p f (s.set a.toNat true) ([] ++ [a]) (rd p a); rw [e] at this
  simp at this
theorem specCyc_run (p : List Int) (n : Nat) (hn : n ≤ 1048575) (hp : inR n p) : ∀ (d i : Nat), n - i = d → i ≤ n → Ev (fun k => spec_l1Cycles.l0 k p (cyS p n i).2 (cyS p n i).1 i) (cyS p n n).2
  | 0, i, hd, hi => by
    have : i = n := by omega
    subst this; refine Ev.s ?_; simp only [spec_l1Cycles.l0, hp.1, show ¬ (i : Int) < (i : Int) by omega, if_false]; exact Ev.const rfl
  | d + 1, i, hd, hi => by
    have ih := specCyc_run p n hn hp d (i + 1) (by omega) (by omega); have hl := cyS_len p n i; have hm := cyS_many p n i; have hf := fresh_le (cyS p n i).1
    have h1 : (i : Int) < (n : Int) := by omega
    have h0 : (0 : Int) ≤ (i : Int) := by omega
    refine Ev.s ?_; simp only [spec_l1Cycles.l0, hp.1, hl, h1, h0, if_true]
    by_cases e : rdOf false (cyS p n i).1 (i : Int) = true
    · simp only [e, if_true]
      rw [w64n (by omega)]; simp only [cyS, cw_seen p (n + 1) (cyS p n i).1 [] i e, if_true] at ih; exact ih
    · simp only [e, if_false]
      refine spec_cw p n (by omega) hp _ (by omega) i _ (n + 1) _ _ _ hl h0 h1 (by omega) (by simp only [List.length_nil]; omega) ?_; rw [w64n (by omega)]; simp only [cyS, cw_new p n (cyS p n i).1 i e, if_false] at ih; exact ih
theorem implCyc_run (p : List Int) (n : Nat) (hn : n ≤ 1048575) (hp : inR n p) : ∀ (d i : Nat), n - i = d → i ≤ n → Ev (fun k => impl_cyclesOf.l0 k p (cyS p n i).2 (cyS p n i).1 n i) (cyS p n n).2
  | 0, i, hd, hi => by
    have : i = n := by omega
    subst this; refine Ev.s ?_; simp only [impl_cyclesOf.l0, show ¬ (i : Int) < (i : Int) by omega, if_false]; exact Ev.const rfl
  | d + 1, i, hd, hi => by
    have ih := implCyc_run p n hn hp d (i + 1) (by omega) (by omega); have hl := cyS_len p n i; have hm := cyS_many p n i; have hf := fresh_le (cyS p n i).1
    have h1 : (i : Int) < (n : Int) := by omega
    have h0 : (0 : Int) ≤ (i : Int) := by omega
    refine Ev.s ?_; simp only [impl_cyclesOf.l0, h1, if_true]; refine impl_cw p n (by omega) hp _ (by omega) n i _ (n + 1) _ _ _ hl h0 h1 (by omega) (by simp only [List.length_nil]; omega) ?_; rw [w64n (by omega)]; simp only [cyS] at ih; exact ih
theorem specCyc_ev (p : List Int) (n : Nat) (hn : n ≤ 1048575) (hp : inR n p) : Ev (fun k => spec_l1Cycles.f k p) (cyS p n n).2 := by
  unfold spec_l1Cycles.f
  have h1 : n ≤ 281474976710656 := by omega
  have h2 : (0 : Int) ≤ (n : Int) := by omega
  simp only [hp.1, Int.toNat_natCast, h1, h2, if_true]; exact specCyc_run p n hn hp n 0 (by omega) (by omega)
theorem implCyc_ev (p : List Int) (n : Nat) (hn : n ≤ 1048575) (hp : inR n p) : Ev (fun k => impl_cyclesOf.f k p) (cyS p n n).2 := by
  unfold impl_cyclesOf.f
  have h1 : n ≤ 281474976710656 := by omega
  have h2 : (0 : Int) ≤ (n : Int) := by omega
  simp only [hp.1, Int.toNat_natCast, h1, h2, if_true]; exact implCyc_run p n hn hp n 0 (by omega) (by omega)
def ahead (c : List Int) (i : Nat) : Int := if i = 0 then -1 else rd c ((i - 1 : Nat) : Int)
def ascAt (c : List Int) (m : Int) (i : Nat) : Prop := ahead c i < rd c i ∧ rd c i < m
def isChoice (c : List Int) (m : Int) : Prop := ∀ i : Nat, i < c.length → ascAt c m i
theorem ahead_zero (c : List Int) : ahead c 0 = -1 := by unfold ahead; rw [if_pos rfl]
theorem ahead_succ (c : List Int) (i : Nat) : ahead c (i + 1) = rd c i := by unfold ahead; rw [if_neg (by omega), Nat.add_sub_cancel]
theorem asc_nonneg (c : List Int) (m : Int) : ∀ i : Nat, (∀ j : Nat, j < i → ascAt c m j) → -1 ≤ ahead c i ∧ (ahead c i = -1 ∨ ahead c i < m)
  | 0, _ => by rw [ahead_zero]; omega
  | i + 1, h => by
    have h1 := h i (Nat.lt_succ_self i); have h2 := (asc_nonneg c m i fun j hj => h j (by omega)).1
    unfold ascAt at h1
    rw [ahead_succ]; omega
theorem specChoice_run (t f c : List Int) (m : Int) (hm : (f.length : Int) / 2 = m) (m0 : 0 ≤ m) (m1 : m ≤ 1048576) (hc : c.length ≤ 1048576) : ∀ (d i : Nat), c.length - i = d → i ≤ c.length → (∀ j : Nat, j < i → ascAt c m j) →
    ((∀ q : Nat, i ≤ q → q < c.length → ascAt c m q) → ∀ r, Ev (fun k => spec_MapValid.f k t f) r → Ev (fun k => spec_ChoiceValid.l0 k c (ahead c i) i t f) r) ∧ (¬ (∀ q : Nat, i ≤ q → q < c.length → ascAt c m q) → Ev (fun k => spec_ChoiceValid.l0 k c (ahead c i) i t f) false)
  | 0, i, hd, hi, hp => by
    refine ⟨fun _ r h => Ev.s ?_, fun h => absurd (fun q h1 h2 => by omega) h⟩; simp only [spec_ChoiceValid.l0, show ¬ (i : Int) < (c.length : Int) by omega, if_false]; exact Ev.bind h (Ev.const rfl)
  | d + 1, i, hd, hi, hp => by
    have hlt : i < c.length := by omega
    have hd1 : c.length - (i + 1) = d := by omega
    obtain ⟨p1, p2⟩ := asc_nonneg c _ i hp
    have hA : ascAt c m i ↔ (ahead c i + 1 ≤ rd c i ∧ rd c i ≤ m - 1) := by unfold ascAt; omega
    have w1 : -9223372036854775808 ≤ ahead c i + 1 ∧ ahead c i + 1 < 9223372036854775808 := by omega
    have w2 : -9223372036854775808 ≤ m ∧ m < 9223372036854775808 := by omega
    have w3 : -9223372036854775808 ≤ m - 1 ∧ m - 1 < 9223372036854775808 := by omega
    have w4 : i < 4611686018427387904 := by omega
    have g1 : (i : Int) < (c.length : Int) := by omega
    have g2 : (0 : Int) ≤ (i : Int) := by omega
    by_cases h : ascAt c m i
    · have hin := hA.1 h
      have ih := specChoice_run t f c m hm m0 m1 hc d (i + 1) hd1 hlt (fun j hj => by
        by_cases e : j = i
        · rw [e]; exact h
        · exact hp j (by omega))
      rw [ahead_succ] at ih; refine ⟨fun ha r hr => Ev.s ?_, fun ha => Ev.s ?_⟩
      · simp only [spec_ChoiceValid.l0, g1, g2, if_true, hm, w64r w1, w64r w2, w64r w3, w64n w4, l6In_eq, Option.bind_some, hin, decide_true, and_self]
        exact ih.1 (fun q h1 h2 => ha q (by omega) h2) r hr
      · simp only [spec_ChoiceValid.l0, g1, g2, if_true, hm, w64r w1, w64r w2, w64r w3, w64n w4, l6In_eq, Option.bind_some, hin, decide_true, and_self]
        refine ih.2 fun h' => ha fun q h1 h2 => ?_
        by_cases e : q = i
        · rw [e]; exact h
        · exact h' q (by omega) h2
    · have hin : ¬ (ahead c i + 1 ≤ rd c i ∧ rd c i ≤ m - 1) := fun z => h (hA.2 z)
      refine ⟨fun ha => absurd (ha i (Nat.le_refl _) hlt) h, fun ha => Ev.s ?_⟩; simp only [spec_ChoiceValid.l0, g1, g2, if_true, hm, w64r w1, w64r w2, w64r w3, w64n w4, l6In_eq, Option.bind_some, hin, decide_false, Bool.false_eq_true, if_false]; exact Ev.const rfl
theorem implChoice_run (t f c : List Int) (m : Int) (hm : (f.length : Int) / 2 = m) (m0 : 0 ≤ m) (m1 : m ≤ 1048576) (hc : c.length ≤ 1048576) : ∀ (d i : Nat), c.length - i = d → i ≤ c.length → (∀ j : Nat, j < i → ascAt c m j) →
    ((∀ q : Nat, i ≤ q → q < c.length → ascAt c m q) → Ev (fun k => impl_ChoiceValid.l0 k c c c.length i t f) true) ∧ (¬ (∀ q : Nat, i ≤ q → q < c.length → ascAt c m q) → Ev (fun k => impl_ChoiceValid.l0 k c c c.length i t f) false)
  | 0, i, hd, hi, hp => by
    refine ⟨fun _ => Ev.s ?_, fun h => absurd (fun q h1 h2 => by omega) h⟩; simp only [impl_ChoiceValid.l0, show ¬ (i : Int) < (c.length : Int) by omega, if_false]; exact Ev.const rfl
  | d + 1, i, hd, hi, hp => by
    have hlt : i < c.length := by omega
    have hd1 : c.length - (i + 1) = d := by omega
    obtain ⟨p1, p2⟩ := asc_nonneg c _ i hp
    have w2 : -9223372036854775808 ≤ m ∧ m < 9223372036854775808 := by omega
    have w4 : i < 4611686018427387904 := by omega
    have g1 : (i : Int) < (c.length : Int) := by omega
    have g2 : (0 : Int) ≤ (i : Int) := by omega
    have hA1 : ascAt c m i → 0 ≤ rd c i ∧ rd c i < m := by unfold ascAt; omega
    by_cases k1 : rd c i < 0
    · refine ⟨fun ha => absurd (hA1 (ha i (Nat.le_refl _) hlt)) (by omega), fun ha => Ev.s ?_⟩
      simp only [impl_ChoiceValid.l0, g1, g2, k1, if_true]; exact Ev.const rfl
    · by_cases k2 : rd c i ≥ m
      · refine ⟨fun ha => absurd (hA1 (ha i (Nat.le_refl _) hlt)) (by omega), fun ha => Ev.s ?_⟩
        simp only [impl_ChoiceValid.l0, g1, g2, k1, k2, hm, w64r w2, if_true, if_false]; exact Ev.const rfl
      · have ih := fun h => implChoice_run t f c m hm m0 m1 hc d (i + 1) hd1 hlt (fun j hj => by
          by_cases e : j = i
          · rw [e]; exact h
          · exact hp j (by omega))
        cases i with
        | zero =>
          have h : ascAt c m 0 := by unfold ascAt; rw [ahead_zero]; omega
          have k3 : ¬ (((0 : Nat) : Int) > 0) := by omega
          refine ⟨fun ha => Ev.s ?_, fun ha => Ev.s ?_⟩
          · simp only [impl_ChoiceValid.l0, g1, g2, k1, k2, k3, hm, w64r w2, w64n w4, if_true, if_false]
            exact (ih h).1 fun q h1 h2 => ha q (by omega) h2
          · simp only [impl_ChoiceValid.l0, g1, g2, k1, k2, k3, hm, w64r w2, w64n w4, if_true, if_false]
            refine (ih h).2 fun h' => ha fun q h1 h2 => ?_
            by_cases e : q = 0
            · rw [e]; exact h
            · exact h' q (by omega) h2
        | succ i =>
          have k3 : (((i + 1 : Nat) : Int) > 0) := by omega
          have w5 : -9223372036854775808 ≤ (i : Int) ∧ (i : Int) < 9223372036854775808 := by omega
          have w6 : (((i + 1 : Nat) : Int) - 1) = (i : Int) := by omega
          have g3 : (0 : Int) ≤ (i : Int) := by omega
          have g4 : (i : Int) < (c.length : Int) := by omega
          by_cases k4 : rd c ((i + 1 : Nat) : Int) ≤ rd c (i : Int)
          · refine ⟨fun ha => absurd (ha (i + 1) (Nat.le_refl _) hlt) (by unfold ascAt; rw [ahead_succ]; omega), fun ha => Ev.s ?_⟩
            simp only [impl_ChoiceValid.l0, g1, g2, g3, g4, k1, k2, k3, k4, hm, w64r w2, w64r w5, w6, if_true, if_false]; exact Ev.const rfl
          · have h : ascAt c m (i + 1) := by unfold ascAt; rw [ahead_succ]; omega
            refine ⟨fun ha => Ev.s ?_, fun ha => Ev.s ?_⟩
            · simp only [impl_ChoiceValid.l0, g1, g2, g3, g4, k1, k2, k3, k4, hm, w64r w2, w64n w4, w64r w5, w6, if_true, if_false]
              exact (ih h).1 fun q h1 h2 => ha q (by omega) h2
            · simp only [impl_ChoiceValid.l0, g1, g2, g3, g4, k1, k2, k3, k4, hm, w64r w2, w64n w4, w64r w5, w6, if_true, if_false]
              refine (ih h).2 fun h' => ha fun q h1 h2 => ?_
              by_cases e : q = i + 1
              · rw [e]; exact h
              · exact h' q (by omega) h2
theorem choiceValid_both (t f c : List Int) (ht : t.length ≤ 1048576) (hf : f.length ≤ 1048576) (hc : c.length ≤ 1048576) : ∃ b : Bool, Ev (fun k => spec_ChoiceValid.f k t f c) b ∧ Ev (fun k => impl_ChoiceValid.f k t f c) b ∧ (b = true ↔ isMap t f ∧ isChoice c ((f.length : Int) / 2)) := by
  obtain ⟨b, b1, b2, b3⟩ := mapValid_both t f ht hf; have hs := specChoice_run t f c _ rfl (by omega) (by omega) hc c.length 0 (by omega) (by omega) (fun j hj => by omega); have hi := implChoice_run t f c _ rfl (by omega) (by omega) hc c.length 0 (by omega) (by omega) (fun j hj => by omega)
  have e1 : ∀ r, Ev (fun k => spec_ChoiceValid.l0 k c (ahead c 0) ((0 : Nat) : Int) t f) r → Ev (fun k => spec_ChoiceValid.f k t f c) r := fun r h => h
  by_cases ha : ∀ q : Nat, 0 ≤ q → q < c.length → ascAt c ((f.length : Int) / 2) q
  · refine ⟨b, e1 _ (hs.1 ha b b1), ?_, ?_⟩
    · unfold impl_ChoiceValid.f
      refine Ev.bind b2 ?_
      cases b with
      | false => simp only [Bool.false_eq_true, if_false]; exact Ev.const rfl
      | true => simp only [if_true]; exact hi.1 ha
    · rw [b3]
      exact ⟨fun h => ⟨h, fun i hi' => ha i (by omega) hi'⟩, fun h => h.1⟩
  · refine ⟨false, e1 _ (hs.2 ha), ?_, ⟨fun h => (by cases h), fun h => absurd (fun q _ hq => h.2 q hq) ha⟩⟩
    unfold impl_ChoiceValid.f
    refine Ev.bind b2 ?_
    cases b with
    | false => simp only [Bool.false_eq_true, if_false]; exact Ev.const rfl
    | true => simp only [if_true]; exact hi.2 ha
theorem has_run (c : List Int) (hc : c.length ≤ 1048576) (x : Int) : ∀ (d i : Nat), c.length - i = d → i ≤ c.length → Ev (fun k => spec_l7Has.l0 k c x i) (decide (x ∈ c.drop i))
  | 0, i, hd, hi => by
    refine Ev.s ?_; simp only [spec_l7Has.l0, show ¬ (i : Int) < (c.length : Int) by omega, if_false]; rw [List.drop_eq_nil_of_le (by omega)]; exact Ev.const (by simp)
  | d + 1, i, hd, hi => by
    have hlt : i < c.length := by omega
    refine Ev.s ?_; simp only [spec_l7Has.l0, show (i : Int) < (c.length : Int) by omega, show (0 : Int) ≤ (i : Int) by omega, if_true, w64n (show i < 4611686018427387904 by omega)]; rw [List.drop_eq_getElem_cons hlt]; have e := rd_lt c i hlt
    by_cases h : rd c i = x
    · simp only [h, if_true]
      exact Ev.const (by rw [decide_eq_true]; rw [← h, e]; exact List.mem_cons_self)
    · simp only [h, if_false]
      have := has_run c hc x d (i + 1) (by omega) (by omega)
      have e2 : decide (x ∈ c[i] :: c.drop (i + 1)) = decide (x ∈ c.drop (i + 1)) := by
        rw [Bool.eq_iff_iff, decide_eq_true_eq, decide_eq_true_eq, List.mem_cons]; exact ⟨fun z => z.elim (fun y => absurd (by rw [e, y]) h) id, .inr⟩
      rw [e2]; exact this
theorem has_ev (c : List Int) (hc : c.length ≤ 1048576) (x : Int) : Ev (fun k => spec_l7Has.f k c x) (decide (x ∈ c)) := has_run c hc x c.length 0 (by omega) (by omega)
def restL (c : List Int) (m : Nat) : List Int := ((List.range m).filter fun (i : Nat) => !decide ((i : Int) ∈ c)).map fun (i : Nat) => (i : Int)
theorem restL_succ (c : List Int) (m : Nat) : restL c (m + 1) = if (m : Int) ∈ c then restL c m else restL c m ++ [(m : Int)] := by
  unfold restL
  rw [List.range_succ, List.filter_append]
  by_cases h : (m : Int) ∈ c <;> simp [h]
def chB (f : List Int) (n : Nat) (c : List Int) (d : Int) : Bool := decide (rd (geL f n n) d ∈ c)
def flC (f : List Int) (n : Nat) (c : List Int) : List Int := (List.range n).map fun (d : Nat) => if chB f n c (d : Int) = true then rd f (d : Int) else (d : Int)
theorem flC_len (f : List Int) (n : Nat) (c : List Int) : (flC f n c).length = n := by simp [flC]
theorem flC_rd (f : List Int) (n : Nat) (c : List Int) (d : Nat) (h : d < n) : rd (flC f n c) (d : Int) = if chB f n c (d : Int) = true then rd f (d : Int) else (d : Int) := by
  rw [rd_lt _ _ (by simp [flC]; exact h)]
  simp [flC]
theorem flC_inR (f : List Int) (n : Nat) (hf : inR n f) (c : List Int) : inR n (flC f n c) := by
  refine ⟨flC_len f n c, fun i hi => ?_⟩; rw [flC_rd f n c i hi]; have := hf.2 i hi
  split <;> omega
theorem edL_get (f : List Int) : ∀ (n e : Nat), e < (edL f n).length → ∃ a : Nat, a < n ∧ (a : Int) < rd f a ∧ rd (edL f n) (e : Int) = a ∧ (edL f a).length = e
  | 0, e, h => by simp [edL] at h
  | n + 1, e, h => by
    simp only [edL] at h ⊢
    by_cases hc : (n : Int) < rd f n
    · simp only [hc, if_true, List.length_append, List.length_cons, List.length_nil] at h ⊢
      by_cases he : e < (edL f n).length
      · obtain ⟨a, h1, h2, h3, h4⟩ := edL_get f n e he
        exact ⟨a, by omega, h2, by rw [rd_app_lt _ _ _ he]; exact h3, h4⟩
      · have e1 : (edL f n).length = e := by omega
        refine ⟨n, by omega, hc, ?_, e1⟩; rw [rd_lt _ _ (by simp; omega), List.getElem_append_right (by omega)]
        simp [e1]
    · simp only [hc, if_false] at h ⊢
      obtain ⟨a, h1, h2, h3, h4⟩ := edL_get f n e h; exact ⟨a, by omega, h2, h3, h4⟩
theorem edge_at (f : List Int) (n : Nat) (hf : inR n f) (hfl : ∀ i : Nat, i < n → flipAt f i) (e : Nat) (he : e < (edL f n).length) : ∃ a b : Nat, a < n ∧ b < n ∧ a ≠ b ∧ rd (edL f n) (e : Int) = a ∧ rd f a = b ∧ rd f b = a ∧ ∀ d : Nat, d < n → (rd (geL f n n) (d : Int) = e ↔ d = a ∨ d = b) := by
  obtain ⟨a, h1, h2, h3, h4⟩ := edL_get f n e he; have g1 := hf.2 a h1; obtain ⟨g2, g3⟩ := hfl a h1
  have hb : (((rd f a).toNat : Nat) : Int) = rd f a := by omega
  refine ⟨a, (rd f a).toNat, h1, by omega, by omega, h3, hb.symm, by rw [hb]; exact g3, fun d hd => ?_⟩; have l1 := least_lt f n hf hfl d hd; rw [geL_at f n hf hfl n (Nat.le_refl _) d hd l1.1]; have d1 := hf.2 d hd; obtain ⟨d2, d3⟩ := hfl d hd
  constructor
  · intro h
    have i1 := edL_at f (least f d) l1.2 n l1.1; rw [h, h3] at i1
    have i2 : least f d = a := by omega
    unfold least at i2
    split at i2
    · exact .inl i2
    · right
      have : rd f d = a := by omega
      rw [this] at d3; omega
  · rintro (rfl | rfl)
    · rw [show least f d = d from if_pos h2, h4]
    · have : least f (rd f a).toNat = a := by
        unfold least
        rw [hb, g3, if_neg (by omega)]; omega
      rw [this, h4]
theorem take_get (c : List Int) (i : Nat) (h : i < c.length) : c.take (i + 1) = c.take i ++ [rd c i] := by
  rw [List.take_add_one, rd_lt c i h]
  simp [h]
theorem asc_mono (c : List Int) (m : Int) (hc : isChoice c m) : ∀ (i j : Nat), i < c.length → j < i → rd c j < rd c i
  | i + 1, j, hi, hj => by
    have h := (hc (i + 1) hi).1; rw [ahead_succ] at h
    by_cases e : j = i
    · rw [e]; exact h
    · have := asc_mono c m hc i j (by omega) (by omega)
      omega
theorem choice_range (c : List Int) (m : Int) (hc : isChoice c m) (i : Nat) (hi : i < c.length) : 0 ≤ rd c i ∧ rd c i < m := by
  have h := hc i hi; have h2 := asc_nonneg c m i (fun j hj => hc j (by omega))
  unfold ascAt at h
  omega
theorem not_ahead (c : List Int) (m : Int) (hc : isChoice c m) (i : Nat) (hi : i < c.length) : rd c i ∉ c.take i := by
  intro h; obtain ⟨j, hj, e⟩ := List.getElem_of_mem h; rw [List.length_take] at hj; have h1 := asc_mono c m hc i j hi (by omega); rw [List.getElem_take] at e; rw [rd_lt c j (by omega), e] at h1; omega
def itr (t : List Int) : Nat → Int → Int
  | 0, x => x
  | k + 1, x => itr t k (rd t x)
theorem itr_in (t : List Int) (n : Nat) (ht : inR n t) : ∀ (k : Nat) (x : Int), 0 ≤ x ∧ x < n → 0 ≤ itr t k x ∧ itr t k x < n
  | 0, x, h => h
  | k + 1, x, h => by
    have := ht.2 x.toNat (by omega); rw [show ((x.toNat : Nat) : Int) = x by omega] at this; exact itr_in t n ht k _ this
theorem itr_add (t : List Int) : ∀ (a b : Nat) (x : Int), itr t (a + b) x = itr t b (itr t a x)
  | 0, b, x => by rw [Nat.zero_add]; rfl
  | a + 1, b, x => by
    rw [show a + 1 + b = (a + b) + 1 by omega]; exact itr_add t a b _
def injR (n : Nat) (t : List Int) : Prop := ∀ i j : Nat, i < n → j < n → rd t i = rd t j → i = j
theorem itr_inj (t : List Int) (n : Nat) (ht : inR n t) (hi : injR n t) : ∀ (k : Nat) (x y : Int), 0 ≤ x ∧ x < n → 0 ≤ y ∧ y < n → itr t k x = itr t k y → x = y
  | 0, x, y, _, _, h => h
  | k + 1, x, y, hx, hy, h => by
    have a1 := ht.2 x.toNat (by omega); have a2 := ht.2 y.toNat (by omega)
    have ex : ((x.toNat : Nat) : Int) = x := by omega
    have ey : ((y.toNat : Nat) : Int) = y := by omega
    rw [ex] at a1; rw [ey] at a2; have h1 := itr_inj t n ht hi k _ _ a1 a2 h; have := hi x.toNat y.toNat (by omega) (by omega) (by rw [ex, ey]; exact h1); omega
theorem itr_back (t : List Int) (n : Nat) (ht : inR n t) (hi : injR n t) (x : Int) (hx : 0 ≤ x ∧ x < n) : ∃ k : Nat, k < n ∧ itr t (k + 1) x = x := by
  by_cases h : ∃ i j : Nat, i < j ∧ j ≤ n ∧ itr t i x = itr t j x
  · obtain ⟨i, j, h1, h2, h3⟩ := h
    refine ⟨j - i - 1, by omega, ?_⟩
    have e : itr t j x = itr t i (itr t (j - i - 1 + 1) x) := by rw [← itr_add, show j - i - 1 + 1 + i = j by omega]
    rw [e] at h3; exact (itr_inj t n ht hi i _ _ hx (itr_in t n ht _ x hx) h3).symm
  · exfalso
    have h1 := len_le_of_sub ((List.range (n + 1)).map fun i => (itr t i x).toNat) (List.range n) ?_ ?_
    · rw [List.length_map, List.length_range, List.length_range] at h1
      omega
    · rw [List.Nodup, List.pairwise_map]
      refine List.Pairwise.imp_of_mem ?_ (List.pairwise_lt_range (n := n + 1)); intro a b ha hb hab e; have ia := itr_in t n ht a x hx; have ib := itr_in t n ht b x hx; exact h ⟨a, b, hab, by have := List.mem_range.1 hb; omega, by omega⟩
    · intro y hy
      obtain ⟨a, ha, rfl⟩ := List.mem_map.1 hy; have ia := itr_in t n ht a x hx; exact List.mem_range.2 (by omega)
def fc (t : List Int) (ch : Int → Bool) : Nat → Int → Int
  | 0, x => x
  | m + 1, x => if ch x = true then x else fc t ch m (rd t x)
theorem fc_hit (t : List Int) (ch : Int → Bool) : ∀ (m : Nat) (x : Int), (∃ k : Nat, k ≤ m ∧ ch (itr t k x) = true) → ch (fc t ch m x) = true
  | 0, x, ⟨k, hk, h⟩ => by
    have : k = 0 := by omega
    subst this; exact h
  | m + 1, x, ⟨k, hk, h⟩ => by
    simp only [fc]
    split
    · assumption
    · cases k with
      | zero => exact absurd h (by assumption)
      | succ k => exact fc_hit t ch m _ ⟨k, by omega, h⟩
theorem fc_in (t : List Int) (n : Nat) (ht : inR n t) (ch : Int → Bool) : ∀ (m : Nat) (x : Int), 0 ≤ x ∧ x < n → 0 ≤ fc t ch m x ∧ fc t ch m x < n
  | 0, x, h => h
  | m + 1, x, h => by
    simp only [fc]
    split
    · exact h
    · have := ht.2 x.toNat (by omega)
      rw [show ((x.toNat : Nat) : Int) = x by omega] at this; exact fc_in t n ht ch m _ this
theorem meets (t : List Int) (n : Nat) (ht : inR n t) (hi : injR n t) (ch : Int → Bool) (x : Int) (hx : 0 ≤ x ∧ x < n) (hc : ch x = true) : ∃ k : Nat, k ≤ n ∧ ch (itr t k (rd t x)) = true := by
  obtain ⟨k, h1, h2⟩ := itr_back t n ht hi x hx; exact ⟨k, by omega, by rw [show itr t k (rd t x) = itr t (k + 1) x from rfl, h2]; exact hc⟩
def faL (t f : List Int) (n : Nat) (c : List Int) : List Int := (List.range n).map fun (d : Nat) => if chB f n c (d : Int) = true then fc t (chB f n c) n (rd t (rd f (d : Int))) else (d : Int)
theorem faL_len (t f : List Int) (n : Nat) (c : List Int) : (faL t f n c).length = n := by simp [faL]
theorem faL_rd (t f : List Int) (n : Nat) (c : List Int) (d : Nat) (h : d < n) : rd (faL t f n c) (d : Int) = if chB f n c (d : Int) = true then fc t (chB f n c) n (rd t (rd f (d : Int))) else (d : Int) := by
  rw [rd_lt _ _ (by simp [faL]; exact h)]
  simp [faL]
theorem geL_flip (f : List Int) (n : Nat) (hf : inR n f) (hfl : ∀ i : Nat, i < n → flipAt f i) (d : Nat) (hd : d < n) : rd (geL f n n) (rd f d) = rd (geL f n n) d := by
  have h1 := hf.2 d hd; obtain ⟨h2, h3⟩ := hfl d hd
  have hb : (((rd f d).toNat : Nat) : Int) = rd f d := by omega
  have l1 := least_lt f n hf hfl d hd; have l2 := least_lt f n hf hfl (rd f d).toNat (by omega); have e1 := geL_at f n hf hfl n (Nat.le_refl _) d hd l1.1; have e2 := geL_at f n hf hfl n (Nat.le_refl _) (rd f d).toNat (by omega) l2.1; rw [hb] at e2; rw [e1, e2]
  have : least f (rd f d).toNat = least f d := by
    unfold least
    rw [hb, h3]
    split <;> split <;> omega
  rw [this]
theorem chB_flip (f : List Int) (n : Nat) (hf : inR n f) (hfl : ∀ i : Nat, i < n → flipAt f i) (c : List Int) (d : Nat) (hd : d < n) : chB f n c (rd f d) = chB f n c d := by
  unfold chB
  rw [geL_flip f n hf hfl d hd]
theorem fa_ch (t f : List Int) (n : Nat) (ht : inR n t) (hi : injR n t) (hf : inR n f) (hfl : ∀ i : Nat, i < n → flipAt f i) (c : List Int) (d : Nat) (hd : d < n) (hc : chB f n c d = true) :
    chB f n c (rd (faL t f n c) d) = true ∧ 0 ≤ rd (faL t f n c) d ∧ rd (faL t f n c) d < n := by
  have h1 := hf.2 d hd; rw [faL_rd t f n c d hd, if_pos hc]; have h2 := ht.2 (rd f d).toNat (by omega); rw [show (((rd f d).toNat : Nat) : Int) = rd f d by omega] at h2; exact ⟨fc_hit t _ n _ (meets t n ht hi _ _ h1 (by rw [chB_flip f n hf hfl c d hd]; exact hc)), fc_in t n ht _ n _ h2⟩
theorem faL_inR (t f : List Int) (n : Nat) (ht : inR n t) (hf : inR n f) (c : List Int) : inR n (faL t f n c) := by
  refine ⟨faL_len t f n c, fun i hi => ?_⟩; rw [faL_rd t f n c i hi]; have h1 := hf.2 i hi; have h2 := ht.2 (rd f i).toNat (by omega); rw [show (((rd f i).toNat : Nat) : Int) = rd f i by omega] at h2
  split
  · exact fc_in t n ht _ n _ h2
  · omega
theorem getD_set (s : List Bool) (i j : Nat) (b : Bool) (hi : i < s.length) : (s.set i b).getD j false = if i = j then b else s.getD j false := by
  rw [List.getD_eq_getElem?_getD, List.getElem?_set]
  by_cases e : i = j
  · subst e
    simp [hi]
  · simp [e, List.getD_eq_getElem?_getD]
theorem cw_alike (F : List Int) (n : Nat) (ch : Int → Bool) (hF : ∀ d : Nat, d < n → ch d = true → ch (rd F d) = true ∧ 0 ≤ rd F d ∧ rd F d < n) : ∀ (m : Nat) (a : Nat) (s s' : List Bool) (c c' : List Int), a < n → ch a = true → s.length = n → s'.length = n →
    (∀ d : Nat, d < n → ch d = true → s.getD d false = s'.getD d false) →
    (∀ d : Nat, d < n → ch d = true → (cw F m s c a).1.getD d false = (cw F m s' c' a).1.getD d false) ∧ (∀ d : Nat, d < n → ch d = false → (cw F m s c a).1.getD d false = s.getD d false ∧ (cw F m s' c' a).1.getD d false = s'.getD d false)
  | 0, a, s, s', c, c', ha, hc, hs, hs', h => ⟨h, fun d _ _ => ⟨rfl, rfl⟩⟩
  | m + 1, a, s, s', c, c', ha, hc, hs, hs', h => by
    have e := h a ha hc; have f1 := hF a ha hc; simp only [cw]; rw [rdOf_nat s a (by omega), rdOf_nat s' a (by omega), Int.toNat_natCast, e]
    by_cases k : s'.getD a false = true
    · rw [if_pos k, if_pos k]
      exact ⟨h, fun d _ _ => ⟨rfl, rfl⟩⟩
    · rw [if_neg k, if_neg k]
      have ih := cw_alike F n ch hF m (rd F a).toNat (s.set a true) (s'.set a true) (c ++ [(a : Int)]) (c' ++ [(a : Int)]) (by omega) (by rw [show (((rd F a).toNat : Nat) : Int) = rd F a by omega]; exact f1.1) (by simpa using hs) (by simpa using hs') (fun d hd hcd => by
        rw [getD_set _ _ _ _ (by omega), getD_set _ _ _ _ (by omega)]
        split
        · rfl
        · exact h d hd hcd)
      rw [show (((rd F a).toNat : Nat) : Int) = rd F a by omega] at ih; refine ⟨ih.1, fun d hd hcd => ?_⟩; have := ih.2 d hd hcd
      have ne : a ≠ d := by rintro rfl; rw [hc] at hcd; cases hcd
      rw [getD_set _ _ _ _ (by omega), getD_set _ _ _ _ (by omega), if_neg ne, if_neg ne] at this; exact this
def ribS (F : List Int) (n : Nat) (ch : Int → Bool) : Nat → List Bool × Nat
  | 0 => (List.replicate n false, 0)
  | i + 1 => if ch i = true ∧ (ribS F n ch i).1.getD i false = false then ((cw F (n + 1) (ribS F n ch i).1 [] i).1, (ribS F n ch i).2 + 1) else ribS F n ch i
def uc (ch : Int → Bool) : Nat → Nat
  | 0 => 0
  | i + 1 => if ch i = true then uc ch i else uc ch i + 1
theorem ribS_len (F : List Int) (n : Nat) (ch : Int → Bool) : ∀ i, (ribS F n ch i).1.length = n
  | 0 => by simp [ribS]
  | i + 1 => by
    simp only [ribS]
    split
    · rw [cw_len, ribS_len F n ch i]
    · exact ribS_len F n ch i
theorem ribS_le (F : List Int) (n : Nat) (ch : Int → Bool) : ∀ i, (ribS F n ch i).2 ≤ i
  | 0 => by simp [ribS]
  | i + 1 => by
    have := ribS_le F n ch i; simp only [ribS]
    split
    · simp only; omega
    · omega
theorem cw_still (F : List Int) (m : Nat) (s : List Bool) (i : Nat) (hi : i < s.length) (hF : rd F i = i) (hs : s.getD i false = false) : cw F (m + 1) s [] i = (s.set i true, [(i : Int)]) := by
  simp only [cw]; rw [rdOf_nat s i (by omega), Int.toNat_natCast, hs]; simp only [Bool.false_eq_true, if_false, List.nil_append, hF]; rw [cw_seen]; rw [rdOf_nat _ i (by omega), Int.toNat_natCast, getD_set _ _ _ _ hi, if_pos rfl]
theorem ribS_cyS (F : List Int) (n : Nat) (ch : Int → Bool) (hF : ∀ d : Nat, d < n → ch d = true → ch (rd F d) = true ∧ 0 ≤ rd F d ∧ rd F d < n) (hG : ∀ d : Nat, d < n → ch d = false → rd F d = d) : ∀ i, i ≤ n →
    (cyS F n i).2.length = (ribS F n ch i).2 + uc ch i ∧ (∀ d : Nat, d < n → ch d = true → (cyS F n i).1.getD d false = (ribS F n ch i).1.getD d false) ∧ (∀ d : Nat, d < n → ch d = false → i ≤ d → (cyS F n i).1.getD d false = false)
  | 0, _ => by
    refine ⟨by simp [cyS, ribS, uc], fun d hd _ => rfl, fun d hd _ _ => ?_⟩
    simp [cyS, List.getD_eq_getElem?_getD, List.getElem?_replicate, hd]
  | i + 1, hi => by
    obtain ⟨h1, h2, h3⟩ := ribS_cyS F n ch hF hG i (by omega); have l1 := cyS_len F n i; have l2 := ribS_len F n ch i
    cases hc : ch i with
    | true =>
      have e := h2 i (by omega) hc; have al := cw_alike F n ch hF (n + 1) i (cyS F n i).1 (ribS F n ch i).1 [] [] (by omega) hc l1 l2 h2
      by_cases k : (ribS F n ch i).1.getD i false = false
      · have k' : ¬ rdOf false (cyS F n i).1 (i : Int) = true := by
          rw [rdOf_nat _ _ (by omega), Int.toNat_natCast, e, k]
          simp
        simp only [cyS, ribS, uc, hc, k, if_true, and_self]; rw [if_neg (cw_new F n _ i k')]; refine ⟨by simp only [List.length_append, List.length_cons, List.length_nil]; omega, al.1, fun d hd hcd hid => ?_⟩; rw [(al.2 d hd hcd).1]; exact h3 d hd hcd (by omega)
      · have k2 : rdOf false (cyS F n i).1 (i : Int) = true := by
          rw [rdOf_nat _ _ (by omega), Int.toNat_natCast, e]
          simpa using k
        simp only [cyS, ribS, uc, hc, k, if_true, if_false, and_false]; rw [cw_seen F (n + 1) _ _ _ k2]; exact ⟨h1, h2, fun d hd hcd hid => h3 d hd hcd (by omega)⟩
    | false =>
      have z := h3 i (by omega) hc (Nat.le_refl _); simp only [cyS, ribS, uc, hc, Bool.false_eq_true, false_and, if_false]; rw [cw_still F n _ i (by omega) (hG i (by omega) hc) z]; refine ⟨by simp only [List.length_append, List.length_cons, List.length_nil, reduceCtorEq, if_false]; omega, fun d hd hcd => ?_, fun d hd hcd hid => ?_⟩
      · have ne : i ≠ d := by rintro rfl; rw [hc] at hcd; cases hcd
        rw [getD_set _ _ _ _ (by omega), if_neg ne]; exact h2 d hd hcd
      · rw [getD_set _ _ _ _ (by omega), if_neg (by omega)]
        exact h3 d hd hcd (by omega)
theorem uc_eq (ch : Int → Bool) (s : List Bool) : (∀ d : Nat, d < s.length → s.getD d false = ch d) → ∀ i, i ≤ s.length → uc ch i = (s.take i).countP (fun b => !b)
  | h, 0, _ => by simp [uc]
  | h, i + 1, hi => by
    have ih := uc_eq ch s h i (by omega); rw [List.take_add_one, List.countP_append, ← ih]; have e := h i (by omega); rw [List.getD_eq_getElem?_getD, List.getElem?_eq_getElem (by omega)] at e; rw [List.getElem?_eq_getElem (by omega)]; simp only [Option.getD_some] at e; simp only [uc, e, Option.toList_some]
    cases ch i <;> simp
theorem uc_fresh (ch : Int → Bool) (s : List Bool) (h : ∀ d : Nat, d < s.length → s.getD d false = ch d) : uc ch s.length = fresh s := by
  rw [uc_eq ch s h s.length (Nat.le_refl _), List.take_length]; rfl
end Go.Proofs.Ytjgknblneokhlaa.PK
