/- For every list of bytes, the law FnTreeQuad answers true: for the tree that it draws, TreeQuad of the program answers what the reference answers, and a valid tree's quadrangulation is one of genus 0 whose tree it is. There are no conditions. -/
import Derived.Test.YtlpbalebodlipaaKFnTreeQuadOwnx7
namespace Go.Proofs.Ytlpbalebodlipaa.PK
open Go.RowKit Go.Proofs.YtlpbalebodlipaaW.PrintWords Go.Proofs.YtlpbalebodlipaaW.PrintLast Go.Proofs.YtlpbalebodlipaaW.PrintMore
theorem z8_0 {p : Prop} (h : p := by (with_reducible repeat (first | refine blk_drewN ?_ _ | refine blk_drew ?_ | refine blk_alloc ?_ _)); refine blk_put (cs := #[.string t758, .slice none 0 0]) ?_ 1 _ rfl; (with_reducible repeat (first | refine blk_drewN ?_ _ | refine blk_drew ?_ | refine blk_alloc ?_ _)); refine blk_put (cs := #[.string (⟨#[]⟩ : ByteArray), .slice none 0 0]) ?_ 0 _ rfl; (with_reducible repeat (first | refine blk_drewN ?_ _ | refine blk_drew ?_ | refine blk_alloc ?_ _)); exact BK763.out) : p := h
theorem z8_1 {p : Prop} (h : p := by (with_reducible repeat (first | refine blk_drewN ?_ _ | refine blk_drew ?_ | refine blk_alloc ?_ _)); refine blk_put (cs := #[.slice Ao20 t743.length co20, .slice none 0 0]) ?_ 1 _ rfl; (with_reducible repeat (first | refine blk_drewN ?_ _ | refine blk_drew ?_ | refine blk_alloc ?_ _)); refine blk_put (cs := #[.slice none 0 0, .slice none 0 0]) ?_ 0 _ rfl; (with_reducible repeat (first | refine blk_drewN ?_ _ | refine blk_drew ?_ | refine blk_alloc ?_ _)); exact BK751.out) : p := h
theorem z8_2 {p : Prop} (h : p := by exact (blk_below (g := gb742) (o := .cells #[.slice Ao13 t734.length co13, .slice Ao16 t737.length co16] 29 (0, 0)) (kF1 BK742.out NB742_763.out) hb)) : p := h
theorem z8_3 {p : Prop} (h : p := by exact (blk_below (g := gb751) (o := .cells #[.slice Ao20 t743.length co20, .slice Ao24 t746.length co24] 29 (0, 0)) (kF1 BK751.out NB751_763.out) hb)) : p := h
theorem z8_4 {p : Prop} (h : p := by exact (blk_below (g := gb733) (o := .cells #[.string t729, .slice Ao10 t730.length co10] 25 (0, 0)) (kF1 BK733.out NB733_763.out) hb)) : p := h
theorem z8_5 {p : Prop} (h : p := by exact (blk_below (g := gb763) (o := .cells #[.string t758, .slice Ao87 t759.length co87] 25 (0, 0)) z8_0 hb)) : p := h
theorem z8_6 {p : Prop} (h : p := by exact (below_step (bU3 HB.out GW733.out GW742.out GW751.out) hb)) : p := h
theorem z8_7 {p : Prop} (h : p := by exact (below_step (bU4 HB.out GW733.out GW742.out GW751.out GW763.out) hb)) : p := h
theorem z8_8 {p : Prop} (h : p := by exact (blk_below (g := gb742) (o := .cells #[.slice Ao13 t734.length co13, .slice Ao16 t737.length co16] 29 (0, 0)) (kF1 BK742.out NB742_751.out) hb)) : p := h
theorem z8_9 {p : Prop} (h : p := by exact (blk_below (g := gb733) (o := .cells #[.string t729, .slice Ao10 t730.length co10] 25 (0, 0)) (kF1 BK733.out NB733_751.out) hb)) : p := h
theorem z8_10 {p : Prop} (h : p := by exact (blk_below (g := gb751) (o := .cells #[.slice Ao20 t743.length co20, .slice Ao24 t746.length co24] 29 (0, 0)) z8_1 hb)) : p := h
theorem z8_11 {p : Prop} (h : p := by congr 1; symm; rw [decide_eq_false_iff_not]; omega) : p := h
theorem z8_12 {p : Prop} (h : p := by exact (Kd.R_new' (Kd.R_new' (Kd.R_new' (Kd.R_new' (Kd.R_new' ho0 (Kd.Q_lt (qU HO_Z1.out))) (Kd.R_lt (rU HO_Z2.out))) (Kd.R_lt (rU HO_Z3.out))) (Kd.R_lt (rU HO_Z4.out))) (Kd.R_lt (rU HO_Z5.out)))) : p := h
theorem z8_13 {p : Prop} (h : p := by exact (Kd.Q_below (qW2 HO_Z1.out BK763.out) hb)) : p := h
theorem z8_14 {p : Prop} (h : p := by exact (Kd.R_below (rW2 HO_Z2.out BK763.out) hb)) : p := h
theorem z8_15 {p : Prop} (h : p := by exact (Kd.R_below (rW2 HO_Z3.out BK763.out) hb)) : p := h
theorem z8_16 {p : Prop} (h : p := by exact (Kd.R_below (rW2 HO_Z4.out BK763.out) hb)) : p := h
theorem z8_17 {p : Prop} (h : p := by exact (Kd.R_below (rW2 HO_Z5.out BK763.out) hb)) : p := h
theorem z8_18 {p : Prop} (h : p := by exact (Kd.R_below (rW2 HO756.out BK763.out) hb)) : p := h
theorem z8_19 {p : Prop} (h : p := by exact (Kd.R_below (rW2 HO761.out BK763.out) hb)) : p := h
attribute [local go_sem] max2_int min2_int max_two min_two max_three min_three max_four min_four   -- for this text's walks alone
set_option linter.unusedVariables false
set_option linter.unusedSimpArgs false
theorem laws_FnTreeQuad_hold {p : Prop} (h : Aside0 p) : p := h.out
def laws_FnTreeQuad.j0 : Nat → Int → Bool → Int → Bool → Bool → ByteArray → List Int → List Int → List Int → List Int → List Int → Option (Bool)
 | 0, _, _, _, _, _, _, _, _, _, _, _ => none
 | k + 1, x5, x6, x8, x9, x49, xZ0, xZ1, xZ2, xZ3, xZ4, xZ5 => if x49 = true then (if (x6 == x9) = true then ((laws_sameMap.f k xZ2 xZ3 xZ4 xZ5).bind fun t753 => (if t753 = true then (some (x5 == x8)) else (some false))) else (some false)) else ((impl_MapCounts.f k xZ2 xZ3).bind fun bt754 => ((impl_QuadTree.f k xZ2 xZ3 0 x5).bind fun bt758 => (if bt754.2 = true then (if bt758.2.2 = true then ((impl_QuadIs.f k xZ2 xZ3).bind fun t764 => (if t764 = true then (if 0 < (bt754.1.length : Int) then (if (rd bt754.1 0) = (wrap64 ((xZ1.length : Int) + 2)) then (if 1 < (bt754.1.length : Int) then (if (rd bt754.1 1) = (wrap64 (2 * (xZ1.length : Int))) then (if 2 < (bt754.1.length : Int) then (if (rd bt754.1 2) = (xZ1.length : Int) then ((laws_sameTree.f k bt758.1 bt758.2.1 xZ0 xZ1).bind fun t768 => (some t768)) else (some false)) else (none)) else (some false)) else (none)) else (some false)) else (none)) else (some false))) else (some false)) else (some false))))
def laws_FnTreeQuad.f (k : Nat) (l0 : List Int) : Option (Bool) := if (l0.length : Int) > 1048576 then (some true) else ((spec_DrawTreeQuad.f k l0).bind fun bt729 => ((impl_TreeQuad.f k bt729.1 bt729.2).bind fun bt734 => ((spec_TreeQuad.f k bt729.1 bt729.2).bind fun bt743 => (if (bt734.2.2.2 != bt743.2.2.2) = true then (laws_FnTreeQuad.j0 k bt734.2.2.1 bt734.2.2.2 bt743.2.2.1 bt743.2.2.2 true bt729.1 bt729.2 bt734.1 bt734.2.1 bt743.1 bt743.2.1) else ((laws_sameMap.f k bt734.1 bt734.2.1 bt743.1 bt743.2.1).bind fun t752 => (if t752 = true then (if bt734.2.2.1 = bt743.2.2.1 then (laws_FnTreeQuad.j0 k bt734.2.2.1 bt734.2.2.2 bt743.2.2.1 bt743.2.2.2 (!bt734.2.2.2) bt729.1 bt729.2 bt734.1 bt734.2.1 bt743.1 bt743.2.1) else (laws_FnTreeQuad.j0 k bt734.2.2.1 bt734.2.2.2 bt743.2.2.1 bt743.2.2.2 true bt729.1 bt729.2 bt734.1 bt734.2.1 bt743.1 bt743.2.1)) else (laws_FnTreeQuad.j0 k bt734.2.2.1 bt734.2.2.2 bt743.2.2.1 bt743.2.2.2 true bt729.1 bt729.2 bt734.1 bt734.2.1 bt743.1 bt743.2.1)))))))
set_option maxHeartbeats 8000000 in
set_option maxRecDepth 100000 in
theorem laws_FnTreeQuad.calls (k : Nat) (A0 : Option Addr) (c0 : Nat) (l0 : List Int) (r : Bool) (w : World) (hr0 : Kd.C (Kd.int .u8) w A0 l0.length l0) (hc0 : l0.length ≤ c0) (h : laws_FnTreeQuad.f k l0 = some r) :
  Calls Try.prog 8 #[.slice A0 l0.length c0] w fun e w' => e = .returned (.bool r) ∧ Below w.heap.size w w' := by
 have hu25 := Try.underlying25; have hu29 := Try.underlying29; have HR0 := Az hr0; have HC0 := Az hc0; clear hr0 hc0; have HB := bZ w; have H := h; clear h; unfold laws_FnTreeQuad.f at H
 by_cases c2 : (l0.length : Int) > 1048576
 · rw [if_pos c2] at H; have c2b0 := decide_eq_true c2; have c2b1 : decide (1048576 < l0.length) = true := decide_eq_true (by omega); clear c2; obtain rfl := Option.some.inj H; go_enter Try.func8, Try.ntmps8; go_wp2; go_ret; exact ⟨rE, bU0 HB.out⟩
 ·
  rw [if_neg c2] at H; have c2b0 := decide_eq_false c2; have c2b1 : decide (1048576 < l0.length) = false := decide_eq_false (by omega); clear c2; replace H := bd H; obtain ⟨⟨t729, t730⟩, A3, H⟩ := H; dsimp only at H; replace H := bd H; obtain ⟨⟨t734, t737, t740, t741⟩, A4, H⟩ := H; dsimp only at H; replace H := bd H; obtain ⟨⟨t743, t746, t749, t750⟩, A5, H⟩ := H; dsimp only at H; have HC6 := Az H; clear H; go_enter Try.func8, Try.ntmps8
  go_upto_region 6 with (first | ((with_reducible refine gK 44 rfl ?_); refine gC (some 19) Try.func44 #[.slice A0 l0.length c0] ?_; (with_reducible refine (spec_DrawTreeQuad.calls k _ _ l0 t729 t730 _ ?_ ?_ A3.out).mono ?_); exact cU (HR0.out); exact HC0.out; rintro e w7 ⟨v731, rfl, ho0, hb⟩; refine ⟨_, rfl, ?_⟩; have HO732 := Az (Kd.Q_lower ho0 (below_size (bU0 HB.out))); replace HB := Az (below_step (bU0 HB.out) hb); clear hb ho0) | ((with_reducible refine gd 3 rfl ?_); refine bE 3 #[.string (⟨#[]⟩ : ByteArray), .slice none 0 0] 25 ?_; intro gb733 hg w8 hbox hb; replace HO732 := qB HO732.out hb; have BK733 := Az (hbox); have GW733 := gW hg (bU0 HB.out); replace HB := Az (below_step (bU0 HB.out) hb); clear hb hbox hg; have hz9 := bc2 BK733.out; obtain ⟨Ao10, co10, eo10, _⟩ := Kd.Q_slice HO732.out; subst eo10) | ((with_reducible refine gK 23 rfl ?_); refine gC (some 22) Try.func23 #[.agg #[.string t729, .slice Ao10 t730.length co10]] ?_; (with_reducible refine (impl_TreeQuad.calls k t729 _ _ t730 t734 t737 t740 t741 _ ?side1 ?side2 A4.out).mono ?_); (case side1 => refine (Kd.Q_reads' (e := 3) (base := w.heap.size) (ok := fun k_ => True) (n := t730.length) (c := co10) ?_).2.2; exact (qW2 HO732.out BK733.out)); (case side2 => exact (Kd.Q_reads' HO732.out).2.1); rintro e w11 ⟨v735, v738, rfl, ho0, ho1, hb⟩; refine ⟨_, rfl, ?_⟩; have HO736 := Az (Kd.R_lower (Kd.R_new' ho0 (Kd.Q_lt (qW2 HO732.out BK733.out))) (below_size (bU1 HB.out GW733.out))); have HO739 := Az (Kd.R_lower (Kd.R_new' ho1 (Kd.Q_lt (qW2 HO732.out BK733.out))) (below_size (bU1 HB.out GW733.out))); replace HO732 := Az (Kd.Q_mono (Kd.Q_told (Kd.Q_told (Kd.Q_old (qW2 HO732.out BK733.out) hb) (Kd.R_base ho0)) (Kd.R_base ho1)) (fun _ h_ => h_.1)); replace BK733 := Az (blk_below (g := gb733) (o := .cells #[.string t729, .slice Ao10 t730.length co10] 25 (0, 0)) (by (with_reducible repeat (first | refine blk_drewN ?_ _ | refine blk_drew ?_ | refine blk_alloc ?_ _)); refine blk_put (cs := #[.string t729, .slice none 0 0]) ?_ 1 _ rfl; (with_reducible repeat (first | refine blk_drewN ?_ _ | refine blk_drew ?_ | refine blk_alloc ?_ _)); refine blk_put (cs := #[.string (⟨#[]⟩ : ByteArray), .slice none 0 0]) ?_ 0 _ rfl; (with_reducible repeat (first | refine blk_drewN ?_ _ | refine blk_drew ?_ | refine blk_alloc ?_ _)); exact BK733.out) hb); replace HB := Az (below_step (bU1 HB.out GW733.out) hb); clear hb ho0 ho1) | ((with_reducible refine gd 4 rfl ?_); refine bE 4 #[.slice none 0 0, .slice none 0 0] 29 ?_; intro gb742 hg w12 hbox hb; replace HO732 := qB HO732.out hb; replace HO736 := rB HO736.out hb; replace HO739 := rB HO739.out hb; have BK742 := Az (hbox); have GW742 := gW hg (bU1 HB.out GW733.out); replace HB := Az (below_step (bU1 HB.out GW733.out) hb); have NB733_742 := nL hg (kU BK733.out); replace BK733 := kB BK733.out hb; clear hb hbox hg; obtain ⟨Ao13, co13, eo13⟩ := Kd.R_slice HO736.out; subst eo13; have hnb14 := nP NB733_742; have hz15 := bc2 BK742.out; obtain ⟨Ao16, co16, eo16⟩ := Kd.R_slice HO739.out; subst eo16; have hz17 := bc2 BK733.out) | ((with_reducible refine gK 21 rfl ?_); refine gC (some 28) Try.func21 #[.agg #[.string t729, .slice Ao10 t730.length co10]] ?_; (with_reducible refine (spec_TreeQuad.calls k t729 _ _ t730 t743 t746 t749 t750 _ ?side1 ?side2 A5.out).mono ?_); (case side1 => refine (Kd.Q_reads' (e := 3) (base := w.heap.size) (ok := fun k_ => ((True ∧ oS k_ Ao13 t734.length co13) ∧ oS k_ Ao16 t737.length co16)) (n := t730.length) (c := co10) ?_).2.2; exact (qW2 HO732.out BK742.out)); (case side2 => exact (Kd.Q_reads' HO732.out).2.1); rintro e w18 ⟨v744, v747, rfl, ho0, ho1, hb⟩; refine ⟨_, rfl, ?_⟩; have HO745 := Az (Kd.R_lower (Kd.R_new' (Kd.R_new' (Kd.R_new' ho0 (Kd.Q_lt (qW2 HO732.out BK742.out))) (Kd.R_lt (rW2 HO736.out BK742.out))) (Kd.R_lt (rW2 HO739.out BK742.out))) (below_size (bU2 HB.out GW733.out GW742.out))); have HO748 := Az (Kd.R_lower (Kd.R_new' (Kd.R_new' (Kd.R_new' ho1 (Kd.Q_lt (qW2 HO732.out BK742.out))) (Kd.R_lt (rW2 HO736.out BK742.out))) (Kd.R_lt (rW2 HO739.out BK742.out))) (below_size (bU2 HB.out GW733.out GW742.out))); replace HO732 := Az (Kd.Q_mono (Kd.Q_told (Kd.Q_told (Kd.Q_old (qW2 HO732.out BK742.out) hb) (Kd.R_base ho0)) (Kd.R_base ho1)) (fun _ h_ => h_.1)); replace HO736 := Az (Kd.R_mono (Kd.R_told (Kd.R_told (Kd.R_old (rW2 HO736.out BK742.out) hb) (Kd.R_base ho0)) (Kd.R_base ho1)) (fun _ h_ => h_.1)); replace HO739 := Az (Kd.R_mono (Kd.R_told (Kd.R_told (Kd.R_old (rW2 HO739.out BK742.out) hb) (Kd.R_base ho0)) (Kd.R_base ho1)) (fun _ h_ => h_.1)); replace BK733 := Az (blk_below (g := gb733) (o := .cells #[.string t729, .slice Ao10 t730.length co10] 25 (0, 0)) (kF1 BK733.out NB733_742.out) hb); replace BK742 := Az (blk_below (g := gb742) (o := .cells #[.slice Ao13 t734.length co13, .slice Ao16 t737.length co16] 29 (0, 0)) (by (with_reducible repeat (first | refine blk_drewN ?_ _ | refine blk_drew ?_ | refine blk_alloc ?_ _)); refine blk_put (cs := #[.slice Ao13 t734.length co13, .slice none 0 0]) ?_ 1 _ rfl; (with_reducible repeat (first | refine blk_drewN ?_ _ | refine blk_drew ?_ | refine blk_alloc ?_ _)); refine blk_put (cs := #[.slice none 0 0, .slice none 0 0]) ?_ 0 _ rfl; (with_reducible repeat (first | refine blk_drewN ?_ _ | refine blk_drew ?_ | refine blk_alloc ?_ _)); exact BK742.out) hb); replace HB := Az (below_step (bU2 HB.out GW733.out GW742.out) hb); clear hb ho0 ho1) | ((with_reducible refine gd 7 rfl ?_); refine bE 7 #[.slice none 0 0, .slice none 0 0] 29 ?_; intro gb751 hg w19 hbox hb; replace HO732 := qB HO732.out hb; replace HO736 := rB HO736.out hb; replace HO739 := rB HO739.out hb; replace HO745 := rB HO745.out hb; replace HO748 := rB HO748.out hb; have BK751 := Az (hbox); have GW751 := gW hg (bU2 HB.out GW733.out GW742.out); replace HB := Az (below_step (bU2 HB.out GW733.out GW742.out) hb); have NB733_751 := nL hg (kU BK733.out); replace BK733 := kB BK733.out hb; have NB742_751 := nL hg (kU BK742.out); replace BK742 := kB BK742.out hb; clear hb hbox hg; obtain ⟨Ao20, co20, eo20⟩ := Kd.R_slice HO745.out; subst eo20; have hnb21 := nP NB733_751; have hnb22 := nP NB742_751; have hz23 := bc2 BK751.out; obtain ⟨Ao24, co24, eo24⟩ := Kd.R_slice HO748.out; subst eo24))
  go_cut [49] (fun v49 wc => ∃ (kq : Nat) (x49_5 : Bool), v49 = .bool x49_5 ∧ Aside0 (laws_FnTreeQuad.j0 kq t740 t741 t749 t750 x49_5 t729 t730 t734 t737 t743 t746 = some r) ∧ Aside0 (kq ≤ k) ∧ Aside0 (Kd.Q (Kd.int .i64) 3 wc w.heap.size (fun k_ => some k_ ≠ ((.slice Ao13 t734.length co13) : Value).ownBlock ∧ some k_ ≠ ((.slice Ao16 t737.length co16) : Value).ownBlock ∧ some k_ ≠ ((.slice Ao20 t743.length co20) : Value).ownBlock ∧ some k_ ≠ ((.slice Ao24 t746.length co24) : Value).ownBlock) (.slice Ao10 t730.length co10) t730) ∧ Aside0 (Kd.R (Kd.int .i64) 3 wc w.heap.size (fun k_ => some k_ ≠ ((.slice Ao10 t730.length co10) : Value).ownBlock ∧ some k_ ≠ ((.slice Ao16 t737.length co16) : Value).ownBlock ∧ some k_ ≠ ((.slice Ao20 t743.length co20) : Value).ownBlock ∧ some k_ ≠ ((.slice Ao24 t746.length co24) : Value).ownBlock) (.slice Ao13 t734.length co13) t734) ∧ Aside0 (Kd.R (Kd.int .i64) 3 wc w.heap.size (fun k_ => some k_ ≠ ((.slice Ao10 t730.length co10) : Value).ownBlock ∧ some k_ ≠ ((.slice Ao13 t734.length co13) : Value).ownBlock ∧ some k_ ≠ ((.slice Ao20 t743.length co20) : Value).ownBlock ∧ some k_ ≠ ((.slice Ao24 t746.length co24) : Value).ownBlock) (.slice Ao16 t737.length co16) t737) ∧ Aside0 (Kd.R (Kd.int .i64) 3 wc w.heap.size (fun k_ => some k_ ≠ ((.slice Ao10 t730.length co10) : Value).ownBlock ∧ some k_ ≠ ((.slice Ao13 t734.length co13) : Value).ownBlock ∧ some k_ ≠ ((.slice Ao16 t737.length co16) : Value).ownBlock ∧ some k_ ≠ ((.slice Ao24 t746.length co24) : Value).ownBlock) (.slice Ao20 t743.length co20) t743) ∧ Aside0 (Kd.R (Kd.int .i64) 3 wc w.heap.size (fun k_ => some k_ ≠ ((.slice Ao10 t730.length co10) : Value).ownBlock ∧ some k_ ≠ ((.slice Ao13 t734.length co13) : Value).ownBlock ∧ some k_ ≠ ((.slice Ao16 t737.length co16) : Value).ownBlock ∧ some k_ ≠ ((.slice Ao20 t743.length co20) : Value).ownBlock) (.slice Ao24 t746.length co24) t746) ∧ Aside0 (wc.heap[gb733]? = some (.cells #[.string t729, (.slice Ao10 t730.length co10)] 25 (0, 0))) ∧ Aside0 (wc.heap[gb742]? = some (.cells #[(.slice Ao13 t734.length co13), (.slice Ao16 t737.length co16)] 29 (0, 0))) ∧ Aside0 (wc.heap[gb751]? = some (.cells #[(.slice Ao20 t743.length co20), (.slice Ao24 t746.length co24)] 29 (0, 0))) ∧ Aside0 (Below w.heap.size w wc))
  case first =>
   have H := HC6.out; clear HC6
   by_cases c25 : (t741 != t750) = true
   ·
    rw [if_pos c25] at H; have c25b0 : (t741 != t750) = true := c25; (have c25b1 : decide (t741 = t750) = false := by simpa using c25); (have c25b2 : (t741 == t750) = false := by simpa using c25); (have c25b3 : ¬ (t741 = t750) := by simpa using c25); clear c25; have H' := Az H; clear H; go_wp2; go_meet
    case rel => exact ⟨_, (true), rS, H', ⟨mO⟩, ⟨by (with_reducible repeat (first | apply Kd.Q_alloc | apply Kd.Q_drewN | apply Kd.Q_drew)); exact Kd.Q_mono (Kd.Q_far (p := ⟨gb751, 1, none⟩) (Kd.Q_far (p := ⟨gb751, 0, none⟩) (Kd.Q_types HO732.out BK751.out (by decide)) (fun _ hk => hk.2) (.slice Ao20 t743.length co20)) (fun _ hk => hk.2) (.slice Ao24 t746.length co24)) (fun _ hk => ⟨hk.1.1.1.1.2, ⟨hk.1.1.1.2, ⟨hk.1.1.2, hk.1.2⟩⟩⟩)⟩, ⟨by (with_reducible repeat (first | apply Kd.R_alloc | apply Kd.R_drewN | apply Kd.R_drew)); exact Kd.R_mono (Kd.R_far (p := ⟨gb751, 1, none⟩) (Kd.R_far (p := ⟨gb751, 0, none⟩) (Kd.R_types HO736.out BK751.out (by decide)) (fun _ hk => hk.2) (.slice Ao20 t743.length co20)) (fun _ hk => hk.2) (.slice Ao24 t746.length co24)) (fun _ hk => ⟨hk.1.1.1.2, ⟨hk.1.1.1.1, ⟨hk.1.1.2, hk.1.2⟩⟩⟩)⟩, ⟨by (with_reducible repeat (first | apply Kd.R_alloc | apply Kd.R_drewN | apply Kd.R_drew)); exact Kd.R_mono (Kd.R_far (p := ⟨gb751, 1, none⟩) (Kd.R_far (p := ⟨gb751, 0, none⟩) (Kd.R_types HO739.out BK751.out (by decide)) (fun _ hk => hk.2) (.slice Ao20 t743.length co20)) (fun _ hk => hk.2) (.slice Ao24 t746.length co24)) (fun _ hk => ⟨hk.1.1.1.2, ⟨hk.1.1.1.1, ⟨hk.1.1.2, hk.1.2⟩⟩⟩)⟩, ⟨by (with_reducible repeat (first | apply Kd.R_alloc | apply Kd.R_drewN | apply Kd.R_drew)); exact Kd.R_mono (Kd.R_far (p := ⟨gb751, 1, none⟩) (Kd.R_far (p := ⟨gb751, 0, none⟩) (Kd.R_types HO745.out BK751.out (by decide)) (fun _ hk => hk.2) (.slice Ao20 t743.length co20)) (fun _ hk => hk.2) (.slice Ao24 t746.length co24)) (fun _ hk => ⟨hk.1.1.1.2, ⟨hk.1.1.2, ⟨hk.1.2, hk.1.1.1.1⟩⟩⟩)⟩, ⟨by (with_reducible repeat (first | apply Kd.R_alloc | apply Kd.R_drewN | apply Kd.R_drew)); exact Kd.R_mono (Kd.R_far (p := ⟨gb751, 1, none⟩) (Kd.R_far (p := ⟨gb751, 0, none⟩) (Kd.R_types HO748.out BK751.out (by decide)) (fun _ hk => hk.2) (.slice Ao20 t743.length co20)) (fun _ hk => hk.2) (.slice Ao24 t746.length co24)) (fun _ hk => ⟨hk.1.1.1.2, ⟨hk.1.1.2, ⟨hk.1.2, hk.1.1.1.1⟩⟩⟩)⟩, ⟨by (with_reducible repeat (first | refine blk_drewN ?_ _ | refine blk_drew ?_ | refine blk_alloc ?_ _)); refine blk_far ?_ NB733_751.out _; (with_reducible repeat (first | refine blk_drewN ?_ _ | refine blk_drew ?_ | refine blk_alloc ?_ _)); refine blk_far ?_ NB733_751.out _; (with_reducible repeat (first | refine blk_drewN ?_ _ | refine blk_drew ?_ | refine blk_alloc ?_ _)); exact BK733.out⟩, ⟨by (with_reducible repeat (first | refine blk_drewN ?_ _ | refine blk_drew ?_ | refine blk_alloc ?_ _)); refine blk_far ?_ NB742_751.out _; (with_reducible repeat (first | refine blk_drewN ?_ _ | refine blk_drew ?_ | refine blk_alloc ?_ _)); refine blk_far ?_ NB742_751.out _; (with_reducible repeat (first | refine blk_drewN ?_ _ | refine blk_drew ?_ | refine blk_alloc ?_ _)); exact BK742.out⟩, ⟨by (with_reducible repeat (first | refine blk_drewN ?_ _ | refine blk_drew ?_ | refine blk_alloc ?_ _)); refine blk_put (cs := #[.slice Ao20 t743.length co20, .slice none 0 0]) ?_ 1 _ rfl; (with_reducible repeat (first | refine blk_drewN ?_ _ | refine blk_drew ?_ | refine blk_alloc ?_ _)); refine blk_put (cs := #[.slice none 0 0, .slice none 0 0]) ?_ 0 _ rfl; (with_reducible repeat (first | refine blk_drewN ?_ _ | refine blk_drew ?_ | refine blk_alloc ?_ _)); exact BK751.out⟩, ⟨bU3 HB.out GW733.out GW742.out GW751.out⟩⟩
   ·
    rw [if_neg c25] at H
    have c25b0 : (t741 != t750) = false := by simpa using c25
    (have c25b1 : decide (t741 = t750) = true := by simpa using c25); (have c25b2 : (t741 == t750) = true := by simpa using c25); clear c25; replace H := bd H; obtain ⟨t752, A26, H⟩ := H
    by_cases c27 : t752 = true
    ·
     subst c27; rw [if_pos rfl] at H
     replace H := gQ H; rcases H with ⟨c28b0, c28b1, H⟩ | ⟨c28b0, c28b1, H⟩
     ·
      have H' := Az H; clear H; have hnb29 := nP NB733_742; have hnb30 := NB742_751.out; have hnc30 := (NB742_751.out).symm; have hz31 := bc2 BK742.out; have hnb32 := nP NB733_751; have hz33 := bc2 BK751.out
      go_wp2_with (first | (go_at_call 34; (with_reducible refine (laws_sameMap.calls k _ _ t734 _ _ t737 _ _ t743 _ _ t746 true _ ?side1 ?side2 ?side3 ?side4 ?side5 ?side6 ?side7 ?side8 A26.out).mono ?_); (case side1 => refine (Kd.R_reads' (e := 3) (base := w.heap.size) (ok := fun k_ => (((oS k_ Ao16 t737.length co16 ∧ oS k_ Ao10 t730.length co10) ∧ oS k_ Ao20 t743.length co20) ∧ oS k_ Ao24 t746.length co24)) (n := t734.length) (c := co13) ?_).2.2; exact (rW2 HO736.out BK751.out)); (case side2 => exact (Kd.R_reads' HO736.out).2.1); (case side3 => refine (Kd.R_reads' (e := 3) (base := w.heap.size) (ok := fun k_ => (((oS k_ Ao13 t734.length co13 ∧ oS k_ Ao10 t730.length co10) ∧ oS k_ Ao20 t743.length co20) ∧ oS k_ Ao24 t746.length co24)) (n := t737.length) (c := co16) ?_).2.2; exact (rW2 HO739.out BK751.out)); (case side4 => exact (Kd.R_reads' HO739.out).2.1); (case side5 => refine (Kd.R_reads' (e := 3) (base := w.heap.size) (ok := fun k_ => (((oS k_ Ao24 t746.length co24 ∧ oS k_ Ao10 t730.length co10) ∧ oS k_ Ao13 t734.length co13) ∧ oS k_ Ao16 t737.length co16)) (n := t743.length) (c := co20) ?_).2.2; exact (rW2 HO745.out BK751.out)); (case side6 => exact (Kd.R_reads' HO745.out).2.1); (case side7 => refine (Kd.R_reads' (e := 3) (base := w.heap.size) (ok := fun k_ => (((oS k_ Ao20 t743.length co20 ∧ oS k_ Ao10 t730.length co10) ∧ oS k_ Ao13 t734.length co13) ∧ oS k_ Ao16 t737.length co16)) (n := t746.length) (c := co24) ?_).2.2; exact (rW2 HO748.out BK751.out)); (case side8 => exact (Kd.R_reads' HO748.out).2.1); rintro e w34 ⟨rfl, hb⟩; replace HO732 := Az (Kd.Q_below (qW2 HO732.out BK751.out) hb); replace HO736 := Az (Kd.R_below (rW2 HO736.out BK751.out) hb); replace HO739 := Az (Kd.R_below (rW2 HO739.out BK751.out) hb); replace HO745 := Az (Kd.R_below (rW2 HO745.out BK751.out) hb); replace HO748 := Az (Kd.R_below (rW2 HO748.out BK751.out) hb); replace BK733 := Az z8_9; replace BK742 := Az z8_8; replace BK751 := Az z8_10; replace HB := Az z8_6; clear hb))
      go_meet
      case rel => exact ⟨_, (!t741), rS, H', ⟨mO⟩, ⟨by (with_reducible repeat (first | apply Kd.Q_alloc | apply Kd.Q_drewN | apply Kd.Q_drew)); exact Kd.Q_mono HO732.out (fun _ hk => ⟨hk.1.1.1.2, ⟨hk.1.1.2, ⟨hk.1.2, hk.2⟩⟩⟩)⟩, ⟨by (with_reducible repeat (first | apply Kd.R_alloc | apply Kd.R_drewN | apply Kd.R_drew)); exact Kd.R_mono HO736.out (fun _ hk => ⟨hk.1.1.2, ⟨hk.1.1.1, ⟨hk.1.2, hk.2⟩⟩⟩)⟩, ⟨by (with_reducible repeat (first | apply Kd.R_alloc | apply Kd.R_drewN | apply Kd.R_drew)); exact Kd.R_mono HO739.out (fun _ hk => ⟨hk.1.1.2, ⟨hk.1.1.1, ⟨hk.1.2, hk.2⟩⟩⟩)⟩, ⟨by (with_reducible repeat (first | apply Kd.R_alloc | apply Kd.R_drewN | apply Kd.R_drew)); exact Kd.R_mono HO745.out (fun _ hk => ⟨hk.1.1.2, ⟨hk.1.2, ⟨hk.2, hk.1.1.1⟩⟩⟩)⟩, ⟨by (with_reducible repeat (first | apply Kd.R_alloc | apply Kd.R_drewN | apply Kd.R_drew)); exact Kd.R_mono HO748.out (fun _ hk => ⟨hk.1.1.2, ⟨hk.1.2, ⟨hk.2, hk.1.1.1⟩⟩⟩)⟩, ⟨kU BK733.out⟩, ⟨kU BK742.out⟩, ⟨kU BK751.out⟩, ⟨bU3 HB.out GW733.out GW742.out GW751.out⟩⟩
     ·
      have H' := Az H; clear H; have hnb35 := nP NB733_742; have hnb36 := NB742_751.out; have hnc36 := (NB742_751.out).symm; have hz37 := bc2 BK742.out; have hnb38 := nP NB733_751; have hz39 := bc2 BK751.out
      go_wp2_with (first | (go_at_call 34; (with_reducible refine (laws_sameMap.calls k _ _ t734 _ _ t737 _ _ t743 _ _ t746 true _ ?side1 ?side2 ?side3 ?side4 ?side5 ?side6 ?side7 ?side8 A26.out).mono ?_); (case side1 => refine (Kd.R_reads' (e := 3) (base := w.heap.size) (ok := fun k_ => (((oS k_ Ao16 t737.length co16 ∧ oS k_ Ao10 t730.length co10) ∧ oS k_ Ao20 t743.length co20) ∧ oS k_ Ao24 t746.length co24)) (n := t734.length) (c := co13) ?_).2.2; exact (rW2 HO736.out BK751.out)); (case side2 => exact (Kd.R_reads' HO736.out).2.1); (case side3 => refine (Kd.R_reads' (e := 3) (base := w.heap.size) (ok := fun k_ => (((oS k_ Ao13 t734.length co13 ∧ oS k_ Ao10 t730.length co10) ∧ oS k_ Ao20 t743.length co20) ∧ oS k_ Ao24 t746.length co24)) (n := t737.length) (c := co16) ?_).2.2; exact (rW2 HO739.out BK751.out)); (case side4 => exact (Kd.R_reads' HO739.out).2.1); (case side5 => refine (Kd.R_reads' (e := 3) (base := w.heap.size) (ok := fun k_ => (((oS k_ Ao24 t746.length co24 ∧ oS k_ Ao10 t730.length co10) ∧ oS k_ Ao13 t734.length co13) ∧ oS k_ Ao16 t737.length co16)) (n := t743.length) (c := co20) ?_).2.2; exact (rW2 HO745.out BK751.out)); (case side6 => exact (Kd.R_reads' HO745.out).2.1); (case side7 => refine (Kd.R_reads' (e := 3) (base := w.heap.size) (ok := fun k_ => (((oS k_ Ao20 t743.length co20 ∧ oS k_ Ao10 t730.length co10) ∧ oS k_ Ao13 t734.length co13) ∧ oS k_ Ao16 t737.length co16)) (n := t746.length) (c := co24) ?_).2.2; exact (rW2 HO748.out BK751.out)); (case side8 => exact (Kd.R_reads' HO748.out).2.1); rintro e w40 ⟨rfl, hb⟩; replace HO732 := Az (Kd.Q_below (qW2 HO732.out BK751.out) hb); replace HO736 := Az (Kd.R_below (rW2 HO736.out BK751.out) hb); replace HO739 := Az (Kd.R_below (rW2 HO739.out BK751.out) hb); replace HO745 := Az (Kd.R_below (rW2 HO745.out BK751.out) hb); replace HO748 := Az (Kd.R_below (rW2 HO748.out BK751.out) hb); replace BK733 := Az z8_9; replace BK742 := Az z8_8; replace BK751 := Az z8_10; replace HB := Az z8_6; clear hb))
      go_meet
      case rel => exact ⟨_, (true), rS, H', ⟨mO⟩, ⟨by (with_reducible repeat (first | apply Kd.Q_alloc | apply Kd.Q_drewN | apply Kd.Q_drew)); exact Kd.Q_mono HO732.out (fun _ hk => ⟨hk.1.1.1.2, ⟨hk.1.1.2, ⟨hk.1.2, hk.2⟩⟩⟩)⟩, ⟨by (with_reducible repeat (first | apply Kd.R_alloc | apply Kd.R_drewN | apply Kd.R_drew)); exact Kd.R_mono HO736.out (fun _ hk => ⟨hk.1.1.2, ⟨hk.1.1.1, ⟨hk.1.2, hk.2⟩⟩⟩)⟩, ⟨by (with_reducible repeat (first | apply Kd.R_alloc | apply Kd.R_drewN | apply Kd.R_drew)); exact Kd.R_mono HO739.out (fun _ hk => ⟨hk.1.1.2, ⟨hk.1.1.1, ⟨hk.1.2, hk.2⟩⟩⟩)⟩, ⟨by (with_reducible repeat (first | apply Kd.R_alloc | apply Kd.R_drewN | apply Kd.R_drew)); exact Kd.R_mono HO745.out (fun _ hk => ⟨hk.1.1.2, ⟨hk.1.2, ⟨hk.2, hk.1.1.1⟩⟩⟩)⟩, ⟨by (with_reducible repeat (first | apply Kd.R_alloc | apply Kd.R_drewN | apply Kd.R_drew)); exact Kd.R_mono HO748.out (fun _ hk => ⟨hk.1.1.2, ⟨hk.1.2, ⟨hk.2, hk.1.1.1⟩⟩⟩)⟩, ⟨kU BK733.out⟩, ⟨kU BK742.out⟩, ⟨kU BK751.out⟩, ⟨bU3 HB.out GW733.out GW742.out GW751.out⟩⟩
    ·
     replace c27 := Bool.eq_false_iff.mpr c27; subst c27; rw [if_neg nT] at H; have H' := Az H; clear H; have hnb41 := nP NB733_742; have hnb42 := NB742_751.out; have hnc42 := (NB742_751.out).symm; have hz43 := bc2 BK742.out; have hnb44 := nP NB733_751; have hz45 := bc2 BK751.out
     go_wp2_with (first | (go_at_call 34; (with_reducible refine (laws_sameMap.calls k _ _ t734 _ _ t737 _ _ t743 _ _ t746 false _ ?side1 ?side2 ?side3 ?side4 ?side5 ?side6 ?side7 ?side8 A26.out).mono ?_); (case side1 => refine (Kd.R_reads' (e := 3) (base := w.heap.size) (ok := fun k_ => (((oS k_ Ao16 t737.length co16 ∧ oS k_ Ao10 t730.length co10) ∧ oS k_ Ao20 t743.length co20) ∧ oS k_ Ao24 t746.length co24)) (n := t734.length) (c := co13) ?_).2.2; exact (rW2 HO736.out BK751.out)); (case side2 => exact (Kd.R_reads' HO736.out).2.1); (case side3 => refine (Kd.R_reads' (e := 3) (base := w.heap.size) (ok := fun k_ => (((oS k_ Ao13 t734.length co13 ∧ oS k_ Ao10 t730.length co10) ∧ oS k_ Ao20 t743.length co20) ∧ oS k_ Ao24 t746.length co24)) (n := t737.length) (c := co16) ?_).2.2; exact (rW2 HO739.out BK751.out)); (case side4 => exact (Kd.R_reads' HO739.out).2.1); (case side5 => refine (Kd.R_reads' (e := 3) (base := w.heap.size) (ok := fun k_ => (((oS k_ Ao24 t746.length co24 ∧ oS k_ Ao10 t730.length co10) ∧ oS k_ Ao13 t734.length co13) ∧ oS k_ Ao16 t737.length co16)) (n := t743.length) (c := co20) ?_).2.2; exact (rW2 HO745.out BK751.out)); (case side6 => exact (Kd.R_reads' HO745.out).2.1); (case side7 => refine (Kd.R_reads' (e := 3) (base := w.heap.size) (ok := fun k_ => (((oS k_ Ao20 t743.length co20 ∧ oS k_ Ao10 t730.length co10) ∧ oS k_ Ao13 t734.length co13) ∧ oS k_ Ao16 t737.length co16)) (n := t746.length) (c := co24) ?_).2.2; exact (rW2 HO748.out BK751.out)); (case side8 => exact (Kd.R_reads' HO748.out).2.1); rintro e w46 ⟨rfl, hb⟩; replace HO732 := Az (Kd.Q_below (qW2 HO732.out BK751.out) hb); replace HO736 := Az (Kd.R_below (rW2 HO736.out BK751.out) hb); replace HO739 := Az (Kd.R_below (rW2 HO739.out BK751.out) hb); replace HO745 := Az (Kd.R_below (rW2 HO745.out BK751.out) hb); replace HO748 := Az (Kd.R_below (rW2 HO748.out BK751.out) hb); replace BK733 := Az z8_9; replace BK742 := Az z8_8; replace BK751 := Az z8_10; replace HB := Az z8_6; clear hb))
     go_meet
     case rel => exact ⟨_, (true), rS, H', ⟨mO⟩, ⟨by (with_reducible repeat (first | apply Kd.Q_alloc | apply Kd.Q_drewN | apply Kd.Q_drew)); exact Kd.Q_mono HO732.out (fun _ hk => ⟨hk.1.1.1.2, ⟨hk.1.1.2, ⟨hk.1.2, hk.2⟩⟩⟩)⟩, ⟨by (with_reducible repeat (first | apply Kd.R_alloc | apply Kd.R_drewN | apply Kd.R_drew)); exact Kd.R_mono HO736.out (fun _ hk => ⟨hk.1.1.2, ⟨hk.1.1.1, ⟨hk.1.2, hk.2⟩⟩⟩)⟩, ⟨by (with_reducible repeat (first | apply Kd.R_alloc | apply Kd.R_drewN | apply Kd.R_drew)); exact Kd.R_mono HO739.out (fun _ hk => ⟨hk.1.1.2, ⟨hk.1.1.1, ⟨hk.1.2, hk.2⟩⟩⟩)⟩, ⟨by (with_reducible repeat (first | apply Kd.R_alloc | apply Kd.R_drewN | apply Kd.R_drew)); exact Kd.R_mono HO745.out (fun _ hk => ⟨hk.1.1.2, ⟨hk.1.2, ⟨hk.2, hk.1.1.1⟩⟩⟩)⟩, ⟨by (with_reducible repeat (first | apply Kd.R_alloc | apply Kd.R_drewN | apply Kd.R_drew)); exact Kd.R_mono HO748.out (fun _ hk => ⟨hk.1.1.2, ⟨hk.1.2, ⟨hk.2, hk.1.1.1⟩⟩⟩)⟩, ⟨kU BK733.out⟩, ⟨kU BK742.out⟩, ⟨kU BK751.out⟩, ⟨bU3 HB.out GW733.out GW742.out GW751.out⟩⟩
  case rest =>
   clear HC6; obtain ⟨kq, x49_5, rfl, HA, HJ5, HO_Z1, HO_Z2, HO_Z3, HO_Z4, HO_Z5, BK733, BK742, BK751, HB⟩ := hcut
   rcases kq with _ | kj5
   exact (nN HA.out).elim; have H := HA.out; clear HA; simp only [laws_FnTreeQuad.j0] at H
   by_cases c47 : x49_5 = true
   ·
    subst c47; rw [if_pos rfl] at H
    by_cases c48 : (t741 == t750) = true
    ·
     rw [if_pos c48] at H; have c48b0 : (t741 == t750) = true := c48; (have c48b1 : decide (t741 = t750) = true := by simpa using c48); (have c48b2 : (t741 == t750) = true := by simpa using c48); clear c48; replace H := bd H; obtain ⟨t753, A49, H⟩ := H
     by_cases c50 : t753 = true
     ·
      subst c50; rw [if_pos rfl] at H; obtain rfl := Option.some.inj H; have hnb51 := nP NB733_742; have hnb52 := NB742_751.out; have hnc52 := (NB742_751.out).symm; have hz53 := bc2 BK742.out; have hnb54 := nP NB733_751; have hz55 := bc2 BK751.out
      go_wp2_with (first | (go_at_call 34; (with_reducible refine (laws_sameMap.calls kj5 _ _ t734 _ _ t737 _ _ t743 _ _ t746 true _ ?_ ?_ ?_ ?_ ?_ ?_ ?_ ?_ A49.out).mono ?_); exact cU ((Kd.R_reads' HO_Z2.out).2.2); exact (Kd.R_reads' HO_Z2.out).2.1; exact cU ((Kd.R_reads' HO_Z3.out).2.2); exact (Kd.R_reads' HO_Z3.out).2.1; exact cU ((Kd.R_reads' HO_Z4.out).2.2); exact (Kd.R_reads' HO_Z4.out).2.1; exact cU ((Kd.R_reads' HO_Z5.out).2.2); exact (Kd.R_reads' HO_Z5.out).2.1; rintro e w56 ⟨rfl, hb⟩; replace HO_Z1 := qB HO_Z1.out hb; replace HO_Z2 := rB HO_Z2.out hb; replace HO_Z3 := rB HO_Z3.out hb; replace HO_Z4 := rB HO_Z4.out hb; replace HO_Z5 := rB HO_Z5.out hb; replace BK733 := kB BK733.out hb; replace BK742 := kB BK742.out hb; replace BK751 := kB BK751.out hb; replace HB := Az z8_6; clear hb))
      go_ret; exact ⟨rE, bU3 HB.out GW733.out GW742.out GW751.out⟩
     ·
      replace c50 := Bool.eq_false_iff.mpr c50; subst c50; rw [if_neg nT] at H; obtain rfl := Option.some.inj H; have hnb57 := nP NB733_742; have hnb58 := NB742_751.out; have hnc58 := (NB742_751.out).symm; have hz59 := bc2 BK742.out; have hnb60 := nP NB733_751; have hz61 := bc2 BK751.out
      go_wp2_with (first | (go_at_call 34; (with_reducible refine (laws_sameMap.calls kj5 _ _ t734 _ _ t737 _ _ t743 _ _ t746 false _ ?_ ?_ ?_ ?_ ?_ ?_ ?_ ?_ A49.out).mono ?_); exact cU ((Kd.R_reads' HO_Z2.out).2.2); exact (Kd.R_reads' HO_Z2.out).2.1; exact cU ((Kd.R_reads' HO_Z3.out).2.2); exact (Kd.R_reads' HO_Z3.out).2.1; exact cU ((Kd.R_reads' HO_Z4.out).2.2); exact (Kd.R_reads' HO_Z4.out).2.1; exact cU ((Kd.R_reads' HO_Z5.out).2.2); exact (Kd.R_reads' HO_Z5.out).2.1; rintro e w62 ⟨rfl, hb⟩; replace HO_Z1 := qB HO_Z1.out hb; replace HO_Z2 := rB HO_Z2.out hb; replace HO_Z3 := rB HO_Z3.out hb; replace HO_Z4 := rB HO_Z4.out hb; replace HO_Z5 := rB HO_Z5.out hb; replace BK733 := kB BK733.out hb; replace BK742 := kB BK742.out hb; replace BK751 := kB BK751.out hb; replace HB := Az z8_6; clear hb))
      go_ret; exact ⟨rE, bU3 HB.out GW733.out GW742.out GW751.out⟩
    ·
     rw [if_neg c48] at H
     have c48b0 : (t741 == t750) = false := by simpa using c48
     (have c48b1 : decide (t741 = t750) = false := by simpa using c48); (have c48b2 : (t741 == t750) = false := by simpa using c48); (have c48b3 : ¬ (t741 = t750) := by simpa using c48); clear c48; obtain rfl := Option.some.inj H; go_wp2; go_ret; exact ⟨rE, bU3 HB.out GW733.out GW742.out GW751.out⟩
   ·
    replace c47 := Bool.eq_false_iff.mpr c47; subst c47; rw [if_neg nT] at H; replace H := bd H; obtain ⟨⟨t754, t757⟩, A63, H⟩ := H; dsimp only at H; replace H := bd H; obtain ⟨⟨t758, t759, t762⟩, A64, H⟩ := H; dsimp only at H; have hz78 := bc2 BK742.out
    go_wp2_with (first | ((with_reducible refine gK 19 rfl ?_); refine gC (some 65) Try.func19 #[.agg #[.slice Ao13 t734.length co13, .slice Ao16 t737.length co16]] ?_; (with_reducible refine (impl_MapCounts.calls kj5 _ _ t734 _ _ t737 t754 t757 _ ?_ ?_ ?_ ?_ A63.out).mono ?_); exact cU ((Kd.R_reads' HO_Z2.out).2.2); exact (Kd.R_reads' HO_Z2.out).2.1; exact cU ((Kd.R_reads' HO_Z3.out).2.2); exact (Kd.R_reads' HO_Z3.out).2.1; rintro e w79 ⟨v755, rfl, ho0, hb⟩; refine ⟨_, rfl, ?_⟩; have HO756 := Az (Kd.R_lower z8_12 (below_size (bU3 HB.out GW733.out GW742.out GW751.out))); replace HO_Z1 := Az (Kd.Q_elder' (qU HO_Z1.out) (Kd.R_base ho0) hb); replace HO_Z2 := Az (Kd.R_elder' (rU HO_Z2.out) (Kd.R_base ho0) hb); replace HO_Z3 := Az (Kd.R_elder' (rU HO_Z3.out) (Kd.R_base ho0) hb); replace HO_Z4 := Az (Kd.R_elder' (rU HO_Z4.out) (Kd.R_base ho0) hb); replace HO_Z5 := Az (Kd.R_elder' (rU HO_Z5.out) (Kd.R_base ho0) hb); replace BK733 := kB BK733.out hb; replace BK742 := kB BK742.out hb; replace BK751 := kB BK751.out hb; replace HB := Az z8_6; clear hb ho0; have hz80 := bc2 BK742.out) | ((with_reducible refine gK 47 rfl ?_); refine gC (some 71) Try.func47 #[.agg #[.slice Ao13 t734.length co13, .slice Ao16 t737.length co16], .int .i64 0, .int .i64 t740] ?_; (with_reducible refine (impl_QuadTree.calls kj5 _ _ t734 _ _ t737 0 t740 t758 t759 t762 _ ?_ ?_ ?_ ?_ A64.out).mono ?_); exact cU ((Kd.R_reads' HO_Z2.out).2.2); exact (Kd.R_reads' HO_Z2.out).2.1; exact cU ((Kd.R_reads' HO_Z3.out).2.2); exact (Kd.R_reads' HO_Z3.out).2.1; rintro e w81 ⟨v760, rfl, ho0, hb⟩; refine ⟨_, rfl, ?_⟩; have HO761 := Az (Kd.R_lower (Kd.R_new' z8_12 (Kd.R_lt (rU HO756.out))) (below_size (bU3 HB.out GW733.out GW742.out GW751.out))); replace HO_Z1 := Az (Kd.Q_elder' (qU HO_Z1.out) (Kd.R_base ho0) hb); replace HO_Z2 := Az (Kd.R_elder' (rU HO_Z2.out) (Kd.R_base ho0) hb); replace HO_Z3 := Az (Kd.R_elder' (rU HO_Z3.out) (Kd.R_base ho0) hb); replace HO_Z4 := Az (Kd.R_elder' (rU HO_Z4.out) (Kd.R_base ho0) hb); replace HO_Z5 := Az (Kd.R_elder' (rU HO_Z5.out) (Kd.R_base ho0) hb); replace HO756 := Az (Kd.R_elder' (rU HO756.out) (Kd.R_base ho0) hb); replace BK733 := kB BK733.out hb; replace BK742 := kB BK742.out hb; replace BK751 := kB BK751.out hb; replace HB := Az z8_6; clear hb ho0) | ((with_reducible refine gd 12 rfl ?_); refine bE 12 #[.string (⟨#[]⟩ : ByteArray), .slice none 0 0] 25 ?_; intro gb763 hg w82 hbox hb; replace HO_Z1 := qB HO_Z1.out hb; replace HO_Z2 := rB HO_Z2.out hb; replace HO_Z3 := rB HO_Z3.out hb; replace HO_Z4 := rB HO_Z4.out hb; replace HO_Z5 := rB HO_Z5.out hb; replace HO756 := rB HO756.out hb; replace HO761 := rB HO761.out hb; have BK763 := Az (hbox); have GW763 := gW hg (bU3 HB.out GW733.out GW742.out GW751.out); replace HB := Az z8_6; have NB733_763 := nL hg (kU BK733.out); replace BK733 := kB BK733.out hb; have NB742_763 := nL hg (kU BK742.out); replace BK742 := kB BK742.out hb; have NB751_763 := nL hg (kU BK751.out); replace BK751 := kB BK751.out hb; clear hb hbox hg; have hnb83 := nP NB733_763; have hnb84 := nP NB742_763; have hnb85 := nP NB751_763; have hz86 := bc2 BK763.out; obtain ⟨Ao87, co87, eo87⟩ := Kd.R_slice HO761.out; subst eo87; have hnb88 := NB733_751.out; have hnc88 := (NB733_751.out).symm; have hz89 := bc2 BK733.out; have hz90 := bc2 BK742.out; refine laws_FnTreeQuad_hold ?_))
    by_cases c65 : t757 = true
    ·
     subst c65; rw [if_pos rfl] at H
     by_cases c66 : t762 = true
     ·
      subst c66; rw [if_pos rfl] at H; replace H := bd H; obtain ⟨t764, A67, H⟩ := H
      by_cases c68 : t764 = true
      ·
       subst c68; rw [if_pos rfl] at H; replace H := gP H; obtain ⟨c69, H⟩ := H; have c69b0 := decide_eq_true c69; have c69b1 : decide (0 < t754.length) = true := decide_eq_true (by omega); clear c69
       replace H := gQ H; rcases H with ⟨c70b0, c70b1, H⟩ | ⟨c70b0, c70b1, H⟩
       ·
        replace H := gP H; obtain ⟨c71, H⟩ := H; have c71b0 := decide_eq_true c71; have c71b1 : decide (1 < t754.length) = true := decide_eq_true (by omega); clear c71
        replace H := gQ H; rcases H with ⟨c72b0, c72b1, H⟩ | ⟨c72b0, c72b1, H⟩
        ·
         replace H := gP H; obtain ⟨c73, H⟩ := H; have c73b0 := decide_eq_true c73; have c73b1 : decide (2 < t754.length) = true := decide_eq_true (by omega); clear c73
         replace H := gQ H; rcases H with ⟨c74b0, c74b1, H⟩ | ⟨c74b0, c74b1, H⟩
         ·
          replace H := bd H; obtain ⟨t768, A75, H⟩ := H; obtain rfl := Option.some.inj H; have hnb76 := nP NB733_742; have hnb77 := NB742_751.out; have hnc77 := (NB742_751.out).symm; refine Az ?_
          go_wp2_with (first | (go_at_call 48; (with_reducible refine (impl_QuadIs.calls kj5 _ _ t734 _ _ t737 true _ ?side1 ?side2 ?side3 ?side4 A67.out).mono ?_); (case side1 => refine (Kd.R_reads' (e := 3) (base := w.heap.size) (ok := fun k_ => (((oS k_ Ao10 t730.length co10 ∧ (oS k_ Ao16 t737.length co16 ∧ (oS k_ Ao20 t743.length co20 ∧ oS k_ Ao24 t746.length co24))) ∧ oV k_ v755) ∧ oS k_ Ao87 t759.length co87)) (n := t734.length) (c := co13) ?_).2.2; exact (rW2 HO_Z2.out BK763.out)); (case side2 => exact (Kd.R_reads' HO_Z2.out).2.1); (case side3 => refine (Kd.R_reads' (e := 3) (base := w.heap.size) (ok := fun k_ => (((oS k_ Ao10 t730.length co10 ∧ (oS k_ Ao13 t734.length co13 ∧ (oS k_ Ao20 t743.length co20 ∧ oS k_ Ao24 t746.length co24))) ∧ oV k_ v755) ∧ oS k_ Ao87 t759.length co87)) (n := t737.length) (c := co16) ?_).2.2; exact (rW2 HO_Z3.out BK763.out)); (case side4 => exact (Kd.R_reads' HO_Z3.out).2.1); rintro e w91 ⟨rfl, hb⟩; replace HO_Z1 := Az z8_13; replace HO_Z2 := Az z8_14; replace HO_Z3 := Az z8_15; replace HO_Z4 := Az z8_16; replace HO_Z5 := Az z8_17; replace HO756 := Az z8_18; replace HO761 := Az z8_19; replace BK733 := Az z8_4; replace BK742 := Az z8_2; replace BK751 := Az z8_3; replace BK763 := Az z8_5; replace HB := Az z8_7; clear hb; obtain ⟨Ao92, co92, eo92⟩ := Kd.R_slice HO756.out; subst eo92; have p765 : 0 ≤ (0 : Int) := (by omega); have q765 : 0 < (t754.length : Int) := oA; obtain ⟨ad765, e765, hx765_0⟩ := Kd.at_int (Kd.R_reads' HO756.out).2.2 0 p765 q765; cases e765; have qi765 : (0 < t754.length) = True := eq_true (by omega); rw [show ((0 : Int)).toNat = 0 from rfl] at hx765_0; rw [Addr.add_zero'] at hx765_0; replace p765 := eq_true p765; replace q765 := eq_true q765; have p766 : 0 ≤ (1 : Int) := (by omega); have q766 : 1 < (t754.length : Int) := oA; obtain ⟨ad766, e766, hx766_0⟩ := Kd.at_int (Kd.R_reads' HO756.out).2.2 1 p766 q766; obtain rfl : ad765 = ad766 := (by injection e766); simp only [show (1 : Int).toNat = 1 from rfl, Nat.reduceMul, Nat.reduceEqDiff, Go.Addr.add, ↓reduceIte] at hx766_0; have qi766 : (1 < t754.length) = True := eq_true (by omega); replace p766 := eq_true p766; replace q766 := eq_true q766; have p767 : 0 ≤ (2 : Int) := (by omega); have q767 : 2 < (t754.length : Int) := oA; obtain ⟨ad767, e767, hx767_0⟩ := Kd.at_int (Kd.R_reads' HO756.out).2.2 2 p767 q767; obtain rfl : ad765 = ad767 := (by injection e767); simp only [show (2 : Int).toNat = 2 from rfl, Nat.reduceMul, Nat.reduceEqDiff, Go.Addr.add, ↓reduceIte] at hx767_0; have qi767 : (2 < t754.length) = True := eq_true (by omega); replace p767 := eq_true p767; replace q767 := eq_true q767; have hz93 := bc2 BK763.out; have hz94 := bc2 BK733.out) | (go_at_call 35; (with_reducible refine (laws_sameTree.calls kj5 t758 _ _ t759 t729 _ _ t730 t768 _ ?_ ?_ ?_ ?_ A75.out).mono ?_); exact cU ((Kd.R_reads' HO761.out).2.2); exact (Kd.R_reads' HO761.out).2.1; exact cU ((Kd.Q_reads' HO_Z1.out).2.2); exact (Kd.Q_reads' HO_Z1.out).2.1; rintro e w95 ⟨rfl, hb⟩; replace HO_Z1 := qB HO_Z1.out hb; replace HO_Z2 := rB HO_Z2.out hb; replace HO_Z3 := rB HO_Z3.out hb; replace HO_Z4 := rB HO_Z4.out hb; replace HO_Z5 := rB HO_Z5.out hb; replace HO756 := rB HO756.out hb; replace HO761 := rB HO761.out hb; replace BK733 := kB BK733.out hb; replace BK742 := kB BK742.out hb; replace BK751 := kB BK751.out hb; replace BK763 := kB BK763.out hb; replace HB := Az z8_7; clear hb))
          go_ret; exact ⟨rE, bU4 HB.out GW733.out GW742.out GW751.out GW763.out⟩
         ·
          obtain rfl := Option.some.inj H; have hnb96 := nP NB733_742; have hnb97 := NB742_751.out; have hnc97 := (NB742_751.out).symm; refine Az ?_
          go_wp2_with (first | (go_at_call 48; (with_reducible refine (impl_QuadIs.calls kj5 _ _ t734 _ _ t737 true _ ?side1 ?side2 ?side3 ?side4 A67.out).mono ?_); (case side1 => refine (Kd.R_reads' (e := 3) (base := w.heap.size) (ok := fun k_ => (((oS k_ Ao10 t730.length co10 ∧ (oS k_ Ao16 t737.length co16 ∧ (oS k_ Ao20 t743.length co20 ∧ oS k_ Ao24 t746.length co24))) ∧ oV k_ v755) ∧ oS k_ Ao87 t759.length co87)) (n := t734.length) (c := co13) ?_).2.2; exact (rW2 HO_Z2.out BK763.out)); (case side2 => exact (Kd.R_reads' HO_Z2.out).2.1); (case side3 => refine (Kd.R_reads' (e := 3) (base := w.heap.size) (ok := fun k_ => (((oS k_ Ao10 t730.length co10 ∧ (oS k_ Ao13 t734.length co13 ∧ (oS k_ Ao20 t743.length co20 ∧ oS k_ Ao24 t746.length co24))) ∧ oV k_ v755) ∧ oS k_ Ao87 t759.length co87)) (n := t737.length) (c := co16) ?_).2.2; exact (rW2 HO_Z3.out BK763.out)); (case side4 => exact (Kd.R_reads' HO_Z3.out).2.1); rintro e w111 ⟨rfl, hb⟩; replace HO_Z1 := Az z8_13; replace HO_Z2 := Az z8_14; replace HO_Z3 := Az z8_15; replace HO_Z4 := Az z8_16; replace HO_Z5 := Az z8_17; replace HO756 := Az z8_18; replace HO761 := Az z8_19; replace BK733 := Az z8_4; replace BK742 := Az z8_2; replace BK751 := Az z8_3; replace BK763 := Az z8_5; replace HB := Az z8_7; clear hb; obtain ⟨Ao112, co112, eo112⟩ := Kd.R_slice HO756.out; subst eo112; have p765 : 0 ≤ (0 : Int) := (by omega); have q765 : 0 < (t754.length : Int) := oA; obtain ⟨ad765, e765, hx765_0⟩ := Kd.at_int (Kd.R_reads' HO756.out).2.2 0 p765 q765; cases e765; have qi765 : (0 < t754.length) = True := eq_true (by omega); rw [show ((0 : Int)).toNat = 0 from rfl] at hx765_0; rw [Addr.add_zero'] at hx765_0; replace p765 := eq_true p765; replace q765 := eq_true q765; have p766 : 0 ≤ (1 : Int) := (by omega); have q766 : 1 < (t754.length : Int) := oA; obtain ⟨ad766, e766, hx766_0⟩ := Kd.at_int (Kd.R_reads' HO756.out).2.2 1 p766 q766; obtain rfl : ad765 = ad766 := (by injection e766); simp only [show (1 : Int).toNat = 1 from rfl, Nat.reduceMul, Nat.reduceEqDiff, Go.Addr.add, ↓reduceIte] at hx766_0; have qi766 : (1 < t754.length) = True := eq_true (by omega); replace p766 := eq_true p766; replace q766 := eq_true q766; have p767 : 0 ≤ (2 : Int) := (by omega); have q767 : 2 < (t754.length : Int) := oA; obtain ⟨ad767, e767, hx767_0⟩ := Kd.at_int (Kd.R_reads' HO756.out).2.2 2 p767 q767; obtain rfl : ad765 = ad767 := (by injection e767); simp only [show (2 : Int).toNat = 2 from rfl, Nat.reduceMul, Nat.reduceEqDiff, Go.Addr.add, ↓reduceIte] at hx767_0; have qi767 : (2 < t754.length) = True := eq_true (by omega); replace p767 := eq_true p767; replace q767 := eq_true q767))
          go_ret; exact ⟨rE, bU4 HB.out GW733.out GW742.out GW751.out GW763.out⟩
        ·
         obtain rfl := Option.some.inj H; have hnb113 := nP NB733_742; have hnb114 := NB742_751.out; have hnc114 := (NB742_751.out).symm; refine Az ?_
         go_wp2_with (first | (go_at_call 48; (with_reducible refine (impl_QuadIs.calls kj5 _ _ t734 _ _ t737 true _ ?side1 ?side2 ?side3 ?side4 A67.out).mono ?_); (case side1 => refine (Kd.R_reads' (e := 3) (base := w.heap.size) (ok := fun k_ => (((oS k_ Ao10 t730.length co10 ∧ (oS k_ Ao16 t737.length co16 ∧ (oS k_ Ao20 t743.length co20 ∧ oS k_ Ao24 t746.length co24))) ∧ oV k_ v755) ∧ oS k_ Ao87 t759.length co87)) (n := t734.length) (c := co13) ?_).2.2; exact (rW2 HO_Z2.out BK763.out)); (case side2 => exact (Kd.R_reads' HO_Z2.out).2.1); (case side3 => refine (Kd.R_reads' (e := 3) (base := w.heap.size) (ok := fun k_ => (((oS k_ Ao10 t730.length co10 ∧ (oS k_ Ao13 t734.length co13 ∧ (oS k_ Ao20 t743.length co20 ∧ oS k_ Ao24 t746.length co24))) ∧ oV k_ v755) ∧ oS k_ Ao87 t759.length co87)) (n := t737.length) (c := co16) ?_).2.2; exact (rW2 HO_Z3.out BK763.out)); (case side4 => exact (Kd.R_reads' HO_Z3.out).2.1); rintro e w128 ⟨rfl, hb⟩; replace HO_Z1 := Az z8_13; replace HO_Z2 := Az z8_14; replace HO_Z3 := Az z8_15; replace HO_Z4 := Az z8_16; replace HO_Z5 := Az z8_17; replace HO756 := Az z8_18; replace HO761 := Az z8_19; replace BK733 := Az z8_4; replace BK742 := Az z8_2; replace BK751 := Az z8_3; replace BK763 := Az z8_5; replace HB := Az z8_7; clear hb; obtain ⟨Ao129, co129, eo129⟩ := Kd.R_slice HO756.out; subst eo129; have p765 : 0 ≤ (0 : Int) := (by omega); have q765 : 0 < (t754.length : Int) := oA; obtain ⟨ad765, e765, hx765_0⟩ := Kd.at_int (Kd.R_reads' HO756.out).2.2 0 p765 q765; cases e765; have qi765 : (0 < t754.length) = True := eq_true (by omega); rw [show ((0 : Int)).toNat = 0 from rfl] at hx765_0; rw [Addr.add_zero'] at hx765_0; replace p765 := eq_true p765; replace q765 := eq_true q765; have p766 : 0 ≤ (1 : Int) := (by omega); have q766 : 1 < (t754.length : Int) := oA; obtain ⟨ad766, e766, hx766_0⟩ := Kd.at_int (Kd.R_reads' HO756.out).2.2 1 p766 q766; obtain rfl : ad765 = ad766 := (by injection e766); simp only [show (1 : Int).toNat = 1 from rfl, Nat.reduceMul, Nat.reduceEqDiff, Go.Addr.add, ↓reduceIte] at hx766_0; have qi766 : (1 < t754.length) = True := eq_true (by omega); replace p766 := eq_true p766; replace q766 := eq_true q766))
         go_ret; exact ⟨rE, bU4 HB.out GW733.out GW742.out GW751.out GW763.out⟩
       ·
        obtain rfl := Option.some.inj H; have hnb130 := nP NB733_742; have hnb131 := NB742_751.out; have hnc131 := (NB742_751.out).symm; refine Az ?_
        go_wp2_with (first | (go_at_call 48; (with_reducible refine (impl_QuadIs.calls kj5 _ _ t734 _ _ t737 true _ ?side1 ?side2 ?side3 ?side4 A67.out).mono ?_); (case side1 => refine (Kd.R_reads' (e := 3) (base := w.heap.size) (ok := fun k_ => (((oS k_ Ao10 t730.length co10 ∧ (oS k_ Ao16 t737.length co16 ∧ (oS k_ Ao20 t743.length co20 ∧ oS k_ Ao24 t746.length co24))) ∧ oV k_ v755) ∧ oS k_ Ao87 t759.length co87)) (n := t734.length) (c := co13) ?_).2.2; exact (rW2 HO_Z2.out BK763.out)); (case side2 => exact (Kd.R_reads' HO_Z2.out).2.1); (case side3 => refine (Kd.R_reads' (e := 3) (base := w.heap.size) (ok := fun k_ => (((oS k_ Ao10 t730.length co10 ∧ (oS k_ Ao13 t734.length co13 ∧ (oS k_ Ao20 t743.length co20 ∧ oS k_ Ao24 t746.length co24))) ∧ oV k_ v755) ∧ oS k_ Ao87 t759.length co87)) (n := t737.length) (c := co16) ?_).2.2; exact (rW2 HO_Z3.out BK763.out)); (case side4 => exact (Kd.R_reads' HO_Z3.out).2.1); rintro e w145 ⟨rfl, hb⟩; replace HO_Z1 := Az z8_13; replace HO_Z2 := Az z8_14; replace HO_Z3 := Az z8_15; replace HO_Z4 := Az z8_16; replace HO_Z5 := Az z8_17; replace HO756 := Az z8_18; replace HO761 := Az z8_19; replace BK733 := Az z8_4; replace BK742 := Az z8_2; replace BK751 := Az z8_3; replace BK763 := Az z8_5; replace HB := Az z8_7; clear hb; obtain ⟨Ao146, co146, eo146⟩ := Kd.R_slice HO756.out; subst eo146; have p765 : 0 ≤ (0 : Int) := (by omega); have q765 : 0 < (t754.length : Int) := oA; obtain ⟨ad765, e765, hx765_0⟩ := Kd.at_int (Kd.R_reads' HO756.out).2.2 0 p765 q765; cases e765; have qi765 : (0 < t754.length) = True := eq_true (by omega); rw [show ((0 : Int)).toNat = 0 from rfl] at hx765_0; rw [Addr.add_zero'] at hx765_0; replace p765 := eq_true p765; replace q765 := eq_true q765))
        go_ret; exact ⟨rE, bU4 HB.out GW733.out GW742.out GW751.out GW763.out⟩
      ·
       replace c68 := Bool.eq_false_iff.mpr c68; subst c68; rw [if_neg nT] at H; obtain rfl := Option.some.inj H; have hnb147 := nP NB733_742; have hnb148 := NB742_751.out; have hnc148 := (NB742_751.out).symm; refine Az ?_
       go_wp2_with (first | (go_at_call 48; (with_reducible refine (impl_QuadIs.calls kj5 _ _ t734 _ _ t737 false _ ?side1 ?side2 ?side3 ?side4 A67.out).mono ?_); (case side1 => refine (Kd.R_reads' (e := 3) (base := w.heap.size) (ok := fun k_ => (((oS k_ Ao10 t730.length co10 ∧ (oS k_ Ao16 t737.length co16 ∧ (oS k_ Ao20 t743.length co20 ∧ oS k_ Ao24 t746.length co24))) ∧ oV k_ v755) ∧ oS k_ Ao87 t759.length co87)) (n := t734.length) (c := co13) ?_).2.2; exact (rW2 HO_Z2.out BK763.out)); (case side2 => exact (Kd.R_reads' HO_Z2.out).2.1); (case side3 => refine (Kd.R_reads' (e := 3) (base := w.heap.size) (ok := fun k_ => (((oS k_ Ao10 t730.length co10 ∧ (oS k_ Ao13 t734.length co13 ∧ (oS k_ Ao20 t743.length co20 ∧ oS k_ Ao24 t746.length co24))) ∧ oV k_ v755) ∧ oS k_ Ao87 t759.length co87)) (n := t737.length) (c := co16) ?_).2.2; exact (rW2 HO_Z3.out BK763.out)); (case side4 => exact (Kd.R_reads' HO_Z3.out).2.1); rintro e w162 ⟨rfl, hb⟩; replace HO_Z1 := Az z8_13; replace HO_Z2 := Az z8_14; replace HO_Z3 := Az z8_15; replace HO_Z4 := Az z8_16; replace HO_Z5 := Az z8_17; replace HO756 := Az z8_18; replace HO761 := Az z8_19; replace BK733 := Az z8_4; replace BK742 := Az z8_2; replace BK751 := Az z8_3; replace BK763 := Az z8_5; replace HB := Az z8_7; clear hb))
       go_ret; exact ⟨rE, bU4 HB.out GW733.out GW742.out GW751.out GW763.out⟩
     · replace c66 := Bool.eq_false_iff.mpr c66; subst c66; rw [if_neg nT] at H; obtain rfl := Option.some.inj H; have hnb163 := nP NB733_742; have hnb164 := NB742_751.out; have hnc164 := (NB742_751.out).symm; refine Az ?_; go_wp2; go_ret; exact ⟨rE, bU4 HB.out GW733.out GW742.out GW751.out GW763.out⟩
    · replace c65 := Bool.eq_false_iff.mpr c65; subst c65; rw [if_neg nT] at H; obtain rfl := Option.some.inj H; have hnb177 := nP NB733_742; have hnb178 := NB742_751.out; have hnc178 := (NB742_751.out).symm; refine Az ?_; go_wp2; go_ret; exact ⟨rE, bU4 HB.out GW733.out GW742.out GW751.out GW763.out⟩
def laws_FnTreeQuad.Pure : Prop := ∀ (l0 : List Int), l0.length ≤ maxLen → l0.length * 1 ≤ 140737488351232 → (∀ x ∈ l0, (Lit.int .u8 x).wf = true) → ∃ k, laws_FnTreeQuad.f k l0 = some true
theorem laws_FnTreeQuad.walk (P : laws_FnTreeQuad.Pure) (a0 : Option Addr) (len0 cap0 : Nat) (z0 : List Int) (w : World) (w0 : (a0 = none ∧ len0 = 0 ∧ cap0 = 0 ∧ z0 = []) ∨ ∃ x, a0 = some x ∧ len0 ≤ cap0 ∧ cap0 ≤ maxLen ∧ z0.length = cap0 ∧ (∀ i, i < z0.length → w.cell? (x.add i) = some (.int .u8 (z0.getD i 0))) ∧ ∀ n ∈ z0, (Lit.int .u8 n).wf = true) (y0 : len0 * 1 ≤ 140737488351232) :
  Calls Try.prog 8 #[.slice a0 len0 cap0] w fun e w' => e = .returned (.bool true) ∧ Below w.heap.size w w' := by
 obtain ⟨l0, rfl, hr0, hm0, hw0, hc0⟩ := ReadsInt.ofRowC w0; obtain ⟨k, h⟩ := P l0 hm0 y0 hw0; refine (laws_FnTreeQuad.calls k _ _ l0 true w (Kd.C_of_reads (d := (0 : Int)) (h1 := fun _ => rfl) hr0) hc0 h).mono ?_; rintro e w' ⟨rfl, hd⟩; exact ⟨rfl, hd⟩
end Go.Proofs.Ytlpbalebodlipaa.PK

set_option linter.unusedVariables false
set_option linter.unusedSimpArgs false
namespace Go.Proofs.Ytlpbalebodlipaa.PK
open Go.RowKit Go.Proofs.YtlpbalebodlipaaW.PrintWords Go.Proofs.YtlpbalebodlipaaW.PrintLast Go.Proofs.YtlpbalebodlipaaW.PrintMore
theorem Ev.s {α : Type} {g : Nat → Option α} {r : α} (h : Ev (fun k => g (k + 1)) r) : Ev g r := Ev.step (fun _ => rfl) h
theorem Ev.const {α : Type} {o : Option α} {r : α} (h : o = some r) : Ev (fun _ => o) r := ⟨0, fun _ _ => h⟩
theorem Ev.uniq {α : Type} {g : Nat → Option α} {r r' : α} (h : Ev g r) (h' : Ev g r') : r = r' := by
  obtain ⟨K, h⟩ := h; obtain ⟨K', h'⟩ := h'; have h1 := h (max K K') (by omega); rw [h' (max K K') (by omega)] at h1; exact (Option.some.inj h1).symm
theorem w64 {x : Int} (h1 : -9223372036854775808 ≤ x) (h2 : x < 9223372036854775808) : wrap64 x = x := by unfold wrap64; omega
theorem w64n {i : Nat} (h : i < 4611686018427387904) : wrap64 ((i : Int) + 1) = ((i + 1 : Nat) : Int) := by rw [w64 (by omega) (by omega)]; omega
theorem rd_lt (l : List Int) (i : Nat) (h : i < l.length) : rd l (i : Int) = l[i] := by
  unfold rd
  rw [Int.toNat_natCast, List.getD_eq_getElem?_getD, List.getElem?_eq_getElem h]; rfl
def walkT (s : ByteArray) : Nat → Int → Option (Int × Int)
  | 0, g => some (g, 0)
  | d + 1, g => if bt s ((s.size : Int) - (d + 1 : Nat)) = 40 then (walkT s d (g + 1)).map (fun p => (p.1, p.2 + 1)) else if bt s ((s.size : Int) - (d + 1 : Nat)) = 41 then (if g - 1 < 0 then none else walkT s d (g - 1)) else none
theorem walkT_range (s : ByteArray) : ∀ (d : Nat) (g : Int) (p : Int × Int), 0 ≤ g → walkT s d g = some p → 0 ≤ p.1 ∧ 0 ≤ p.2 ∧ p.2 ≤ d ∧ p.1 = g + 2 * p.2 - d
  | 0, g, p, hg, h => by simp only [walkT, Option.some.injEq] at h; subst h; simp; omega
  | d + 1, g, p, hg, h => by
    simp only [walkT] at h
    split at h
    · cases e : walkT s d (g + 1) with
      | none => rw [e] at h; cases h
      | some q =>
        rw [e] at h; obtain rfl := Option.some.inj h; have := walkT_range s d (g + 1) q (by omega) e; simp only; omega
    · split at h
      · split at h
        · cases h
        · have := walkT_range s d (g - 1) p (by omega) h
          omega
      · cases h
theorem spec_steps (x3 x4 : Int) (s : ByteArray) (l : List Int) (hl : l.length ≤ 1048576) : ∀ (d i : Nat), l.length - i = d → i ≤ l.length →
    ((∀ j, i ≤ j → j < l.length → -1 ≤ rd l j ∧ rd l j ≤ 1) → Ev (fun k => spec_TreeValid.l1 k x3 x4 i s l) (decide (x3 = 0 ∧ (1 ≤ x4 ∧ x4 ≤ 3) ∧ (l.length : Int) = x4))) ∧
    (¬ (∀ j, i ≤ j → j < l.length → -1 ≤ rd l j ∧ rd l j ≤ 1) → Ev (fun k => spec_TreeValid.l1 k x3 x4 i s l) false)
  | 0, i, hd, hi => by
    refine ⟨fun _ => Ev.s ?_, fun h => absurd (fun j h1 h2 => by omega) h⟩; simp only [spec_TreeValid.l1, show ¬ (i : Int) < (l.length : Int) by omega, if_false]; refine Ev.const ?_
    unfold spec_l6In.f
    by_cases h1 : x3 = 0
    · by_cases h2 : x4 ≥ 1
      · by_cases h3 : x4 ≤ 3
        · by_cases h4 : (l.length : Int) = x4 <;> simp [h1, h2, h3, h4] <;> (try omega)
        · simp [h1, h2, h3]
      · simp [h1, h2] <;> (first | done | omega)
    · simp [h1]
  | d + 1, i, hd, hi => by
    have ih := spec_steps x3 x4 s l hl d (i + 1) (by omega) (by omega)
    have hw : wrap64 ((i : Int) + 1) = ((i + 1 : Nat) : Int) := by rw [w64 (by omega) (by omega)]; omega
    by_cases hb : -1 ≤ rd l i ∧ rd l i ≤ 1
    · have hin : spec_l6In.f (rd l i) (-1) 1 = some true := by unfold spec_l6In.f; rw [if_pos hb.1, decide_eq_true hb.2]
      refine ⟨fun h => Ev.s ?_, fun h => Ev.s ?_⟩
      · simp only [spec_TreeValid.l1, show (i : Int) < (l.length : Int) by omega, show (0 : Int) ≤ i by omega, if_true, hin, Option.bind_some, hw]
        exact ih.1 fun j h1 h2 => h j (by omega) h2
      · simp only [spec_TreeValid.l1, show (i : Int) < (l.length : Int) by omega, show (0 : Int) ≤ i by omega, if_true, hin, Option.bind_some, hw]
        refine ih.2 fun h' => h fun j h1 h2 => ?_
        by_cases e : j = i
        · rw [e]; exact hb
        · exact h' j (by omega) h2
    · have hin : spec_l6In.f (rd l i) (-1) 1 = some false := by
        unfold spec_l6In.f
        by_cases h1 : rd l i ≥ -1
        · rw [if_pos h1, decide_eq_false (by omega)]
        · rw [if_neg h1]
      refine ⟨fun h => absurd (h i (Nat.le_refl _) (by omega)) hb, fun h => Ev.s ?_⟩; simp only [spec_TreeValid.l1, show (i : Int) < (l.length : Int) by omega, show (0 : Int) ≤ i by omega, if_true, hin, Option.bind_some]; exact Ev.const rfl
theorem spec_walk (s : ByteArray) (hs : s.size ≤ 1048576) (l : List Int) : ∀ (d : Nat) (i g c : Int), 0 ≤ i → (s.size : Int) - i = d → 0 ≤ g → g ≤ i → 0 ≤ c → c ≤ i →
    (∀ p, walkT s d g = some p → ∀ r, Ev (fun k => spec_TreeValid.l1 k p.1 (c + p.2) 0 s l) r → Ev (fun k => spec_TreeValid.l0 k g c i s l) r) ∧ (walkT s d g = none → Ev (fun k => spec_TreeValid.l0 k g c i s l) false)
  | 0, i, g, c, hi, hd, hg, hgi, hc, hci => by
    refine ⟨fun p hp r h => Ev.s ?_, fun h => by simp [walkT] at h⟩; simp only [spec_TreeValid.l0, show ¬ i < (s.size : Int) by omega, if_false]; simp only [walkT, Option.some.injEq] at hp; subst hp
    simpa using h
  | d + 1, i, g, c, hi, hd, hg, hgi, hc, hci => by
    have hj : (s.size : Int) - ((d + 1 : Nat) : Int) = i := by omega
    have w1 : wrap64 (g + 1) = g + 1 := w64 (by omega) (by omega); have w2 : wrap64 (g - 1) = g - 1 := w64 (by omega) (by omega); have w3 : wrap64 (c + 1) = c + 1 := w64 (by omega) (by omega); have w4 : wrap64 (i + 1) = i + 1 := w64 (by omega) (by omega); simp only [walkT, hj]
    by_cases b0 : bt s i = 40
    · simp only [b0, if_true]
      have ih := spec_walk s hs l d (i + 1) (g + 1) (c + 1) (by omega) (by omega) (by omega) (by omega) (by omega) (by omega); refine ⟨fun p hp r h => Ev.s ?_, fun h => Ev.s ?_⟩
      · simp only [spec_TreeValid.l0, show i < (s.size : Int) by omega, hi, b0, if_true, w1, w3, w4, show ¬ g + 1 < 0 by omega, if_false]
        cases e : walkT s d (g + 1) with
        | none => rw [e] at hp; cases hp
        | some q =>
          rw [e] at hp; obtain rfl := Option.some.inj hp; refine ih.1 q e r ?_
          have : c + 1 + q.2 = c + (q.2 + 1) := by omega
          rw [this]; exact h
      · simp only [spec_TreeValid.l0, show i < (s.size : Int) by omega, hi, b0, if_true, w1, w3, w4, show ¬ g + 1 < 0 by omega, if_false]
        exact ih.2 (by simpa using h)
    · by_cases b1 : bt s i = 41
      · simp only [b1, if_true, show ¬ ((41 : Int) = 40) by decide, if_false]
        by_cases hz : g - 1 < 0
        · refine ⟨fun p hp => by simp [hz] at hp, fun _ => Ev.s ?_⟩
          simp only [spec_TreeValid.l0, show i < (s.size : Int) by omega, hi, b1, if_true, w2, hz, show ¬ ((41 : Int) = 40) by decide, if_false]; exact Ev.const rfl
        · have ih := spec_walk s hs l d (i + 1) (g - 1) c (by omega) (by omega) (by omega) (by omega) (by omega) (by omega)
          simp only [hz, if_false]; refine ⟨fun p hp r h => Ev.s ?_, fun h => Ev.s ?_⟩
          · simp only [spec_TreeValid.l0, show i < (s.size : Int) by omega, hi, b1, if_true, w2, w4, hz, show ¬ ((41 : Int) = 40) by decide, if_false]
            exact ih.1 p hp r h
          · simp only [spec_TreeValid.l0, show i < (s.size : Int) by omega, hi, b1, if_true, w2, w4, hz, show ¬ ((41 : Int) = 40) by decide, if_false]
            exact ih.2 h
      · simp only [b0, b1, if_false]
        refine ⟨fun p hp => by simp at hp, fun _ => Ev.s ?_⟩; simp only [spec_TreeValid.l0, show i < (s.size : Int) by omega, hi, b0, b1, if_true, if_false]; exact Ev.const rfl
theorem impl_walk (s : ByteArray) (hs : s.size ≤ 1048576) : ∀ (d i : Nat) (g : Int), (s.size : Int) - i = d → 0 ≤ g → g ≤ i →
    (∀ p, walkT s d g = some p → Ev (fun k => impl_TreeValid.l1 k s i g) (p.1 == 0)) ∧ (walkT s d g = none → Ev (fun k => impl_TreeValid.l1 k s i g) false)
  | 0, i, g, hd, hg, hgi => by
    refine ⟨fun p hp => Ev.s ?_, fun h => by simp [walkT] at h⟩; simp only [impl_TreeValid.l1, show ¬ i < s.size by omega, if_false]; simp only [walkT, Option.some.injEq] at hp; subst hp; exact Ev.const rfl
  | d + 1, i, g, hd, hg, hgi => by
    have hj : (s.size : Int) - ((d + 1 : Nat) : Int) = (i : Int) := by omega
    have w1 : wrap64 (g + 1) = g + 1 := w64 (by omega) (by omega); have w2 : wrap64 (g - 1) = g - 1 := w64 (by omega) (by omega); simp only [walkT, hj]
    by_cases b0 : bt s i = 40
    · simp only [b0, if_true]
      have ih := impl_walk s hs d (i + 1) (g + 1) (by omega) (by omega) (by omega); refine ⟨fun p hp => Ev.s ?_, fun h => Ev.s ?_⟩
      · simp only [impl_TreeValid.l1, show i < s.size by omega, b0, if_true, w1, show ¬ g + 1 < 0 by omega, if_false]
        cases e : walkT s d (g + 1) with
        | none => rw [e] at hp; cases hp
        | some q =>
          rw [e] at hp; obtain rfl := Option.some.inj hp; exact ih.1 q e
      · simp only [impl_TreeValid.l1, show i < s.size by omega, b0, if_true, w1, show ¬ g + 1 < 0 by omega, if_false]
        exact ih.2 (by simpa using h)
    · by_cases b1 : bt s i = 41
      · simp only [b1, if_true, show ¬ ((41 : Int) = 40) by decide, if_false]
        by_cases hz : g - 1 < 0
        · refine ⟨fun p hp => by simp [hz] at hp, fun _ => Ev.s ?_⟩
          simp only [impl_TreeValid.l1, show i < s.size by omega, b1, if_true, w2, hz, show ¬ ((41 : Int) = 40) by decide, if_false]; exact Ev.const rfl
        · have ih := impl_walk s hs d (i + 1) (g - 1) (by omega) (by omega) (by omega)
          simp only [hz, if_false]; refine ⟨fun p hp => Ev.s ?_, fun h => Ev.s ?_⟩
          · simp only [impl_TreeValid.l1, show i < s.size by omega, b1, if_true, w2, hz, show ¬ ((41 : Int) = 40) by decide, if_false]
            exact ih.1 p hp
          · simp only [impl_TreeValid.l1, show i < s.size by omega, b1, if_true, w2, hz, show ¬ ((41 : Int) = 40) by decide, if_false]
            exact ih.2 h
      · simp only [b0, b1, if_false]
        refine ⟨fun p hp => by simp at hp, fun _ => Ev.s ?_⟩; simp only [impl_TreeValid.l1, show i < s.size by omega, b0, b1, if_true, if_false]; exact Ev.const rfl
theorem impl_steps (s : ByteArray) (l : List Int) (hl : l.length ≤ 3) : ∀ (d i : Nat), l.length - i = d → i ≤ l.length →
    ((∀ j, i ≤ j → j < l.length → -1 ≤ rd l j ∧ rd l j ≤ 1) → ∀ r, Ev (fun k => impl_TreeValid.l1 k s 0 0) r → Ev (fun k => impl_TreeValid.l0 k s l i) r) ∧
    (¬ (∀ j, i ≤ j → j < l.length → -1 ≤ rd l j ∧ rd l j ≤ 1) → Ev (fun k => impl_TreeValid.l0 k s l i) false)
  | 0, i, hd, hi => by
    refine ⟨fun _ r h => Ev.s ?_, fun h => absurd (fun j h1 h2 => by omega) h⟩; simp only [impl_TreeValid.l0, show ¬ (i : Int) < (l.length : Int) by omega, if_false]; exact h
  | d + 1, i, hd, hi => by
    have ih := impl_steps s l hl d (i + 1) (by omega) (by omega)
    have hw : wrap64 ((i : Int) + 1) = ((i + 1 : Nat) : Int) := by rw [w64 (by omega) (by omega)]; omega
    by_cases hb1 : rd l i < -1
    · refine ⟨fun h => absurd (h i (Nat.le_refl _) (by omega)) (by omega), fun h => Ev.s ?_⟩
      simp only [impl_TreeValid.l0, show (i : Int) < (l.length : Int) by omega, show (0 : Int) ≤ i by omega, hb1, if_true]; exact Ev.const rfl
    · by_cases hb2 : rd l i > 1
      · refine ⟨fun h => absurd (h i (Nat.le_refl _) (by omega)) (by omega), fun h => Ev.s ?_⟩
        simp only [impl_TreeValid.l0, show (i : Int) < (l.length : Int) by omega, show (0 : Int) ≤ i by omega, hb1, hb2, if_true, if_false]; exact Ev.const rfl
      · refine ⟨fun h r hr => Ev.s ?_, fun h => Ev.s ?_⟩
        · simp only [impl_TreeValid.l0, show (i : Int) < (l.length : Int) by omega, show (0 : Int) ≤ i by omega, hb1, hb2, if_true, if_false, hw]
          exact ih.1 (fun j h1 h2 => h j (by omega) h2) r hr
        · simp only [impl_TreeValid.l0, show (i : Int) < (l.length : Int) by omega, show (0 : Int) ≤ i by omega, hb1, hb2, if_true, if_false, hw]
          refine ih.2 fun h' => h fun j h1 h2 => ?_
          by_cases e : j = i
          · rw [e]; omega
          · exact h' j (by omega) h2
def treeOk (s : ByteArray) (l : List Int) : Prop := 1 ≤ l.length ∧ l.length ≤ 3 ∧ s.size = 2 * l.length ∧ (∀ j : Nat, j < l.length → -1 ≤ rd l j ∧ rd l j ≤ 1) ∧ ∃ c, walkT s s.size 0 = some (0, c)
theorem treeValid_both (s : ByteArray) (hs : s.size ≤ 1048576) (l : List Int) (hl : l.length ≤ 1048576) :
    ∃ b : Bool, Ev (fun k => spec_TreeValid.f k s l) b ∧ Ev (fun k => impl_TreeValid.f k s l) b ∧ (b = true → treeOk s l) := by
  have hsp := spec_walk s hs l s.size 0 0 0 (by omega) (by omega) (by omega) (by omega) (by omega) (by omega)
  have hst := fun x3 x4 => spec_steps x3 x4 s l hl l.length 0 (by omega) (by omega)
  simp only [spec_TreeValid.f, impl_TreeValid.f]
  cases hw : walkT s s.size 0 with
  | none =>
    refine ⟨false, hsp.2 hw, ?_, fun h => by cases h⟩
    by_cases h1 : (l.length : Int) < 1
    · simp only [h1, if_true]; exact Ev.const rfl
    · by_cases h3 : (l.length : Int) > 3
      · simp only [h1, h3, if_true, if_false]; exact Ev.const rfl
      · by_cases h2 : (s.size : Int) = wrap64 (2 * (l.length : Int))
        · simp only [h1, h3, if_false]
          simp only [if_pos h2]
          by_cases hb : ∀ j : Nat, 0 ≤ j → j < l.length → -1 ≤ rd l j ∧ rd l j ≤ 1
          · exact (impl_steps s l (by omega) l.length 0 (by omega) (by omega)).1 hb _ ((impl_walk s hs s.size 0 0 (by omega) (by omega) (by omega)).2 hw)
          · exact (impl_steps s l (by omega) l.length 0 (by omega) (by omega)).2 hb
        · simp only [h1, h3, h2, if_false]
          exact Ev.const rfl
  | some p =>
    have hr := walkT_range s s.size 0 p (by omega) hw
    have hc0 : (0 : Int) + p.2 = p.2 := by omega
    by_cases hb : ∀ j : Nat, 0 ≤ j → j < l.length → -1 ≤ rd l j ∧ rd l j ≤ 1
    · refine ⟨decide (p.1 = 0 ∧ (1 ≤ p.2 ∧ p.2 ≤ 3) ∧ (l.length : Int) = p.2), hsp.1 p hw _ ?_, ?_, fun h => ?_⟩
      · rw [hc0]; exact (hst p.1 p.2).1 hb
      · by_cases h1 : (l.length : Int) < 1
        · simp only [h1, if_true]
          exact Ev.const z8_11
        · by_cases h3 : (l.length : Int) > 3
          · simp only [h1, h3, if_true, if_false]
            exact Ev.const z8_11
          · have h2w : wrap64 (2 * (l.length : Int)) = 2 * (l.length : Int) := w64 (by omega) (by omega)
            by_cases h2 : (s.size : Int) = 2 * (l.length : Int)
            · simp only [h1, h3, if_false, h2w]
              simp only [if_pos h2]; have hi := (impl_steps s l (by omega) l.length 0 (by omega) (by omega)).1 hb _ ((impl_walk s hs s.size 0 0 (by omega) (by omega) (by omega)).1 p hw)
              have e : (p.1 == 0) = decide (p.1 = 0 ∧ (1 ≤ p.2 ∧ p.2 ≤ 3) ∧ (l.length : Int) = p.2) := by
                rw [Bool.eq_iff_iff]; simp only [beq_iff_eq, decide_eq_true_eq]; omega
              rw [e] at hi; exact hi
            · simp only [h1, h3, h2, if_false, h2w]
              exact Ev.const z8_11
      · have := of_decide_eq_true h
        refine ⟨by omega, by omega, by omega, fun j hj => hb j (by omega) hj, p.2, ?_⟩; rw [hw]
        congr 1
        exact Prod.ext this.1 rfl
    · refine ⟨false, hsp.1 p hw _ ?_, ?_, fun h => by cases h⟩
      · exact (hst p.1 _).2 hb
      · by_cases h1 : (l.length : Int) < 1
        · simp only [h1, if_true]; exact Ev.const rfl
        · by_cases h3 : (l.length : Int) > 3
          · simp only [h1, h3, if_true, if_false]; exact Ev.const rfl
          · by_cases h2 : (s.size : Int) = wrap64 (2 * (l.length : Int))
            · simp only [h1, h3, if_false]
              simp only [if_pos h2]; exact (impl_steps s l (by omega) l.length 0 (by omega) (by omega)).2 hb
            · simp only [h1, h3, h2, if_false]
              exact Ev.const rfl
def stepsAll : Nat → List (List Int)
  | 0 => [[]]
  | n + 1 => [-1, 0, 1].flatMap fun a => (stepsAll n).map fun l => a :: l
def wordsAll : Nat → List ByteArray
  | 1 => [⟨#[40, 41]⟩]
  | 2 => [⟨#[40, 40, 41, 41]⟩, ⟨#[40, 41, 40, 41]⟩]
  | 3 => [⟨#[40, 40, 40, 41, 41, 41]⟩, ⟨#[40, 40, 41, 40, 41, 41]⟩, ⟨#[40, 40, 41, 41, 40, 41]⟩, ⟨#[40, 41, 40, 40, 41, 41]⟩, ⟨#[40, 41, 40, 41, 40, 41]⟩]
  | _ => []
def chkN (P : ByteArray → List Int → Bool) (n : Nat) : Bool := (wordsAll n).all fun s => (stepsAll n).all fun l => P s l
theorem stepsAll_mem : ∀ (l : List Int), (∀ x ∈ l, -1 ≤ x ∧ x ≤ 1) → l ∈ stepsAll l.length
  | [], _ => by simp [stepsAll]
  | a :: l, h => by
    have ih := stepsAll_mem l fun x hx => h x (by simp [hx])
    have ha := h a (by simp); simp only [List.length_cons, stepsAll, List.mem_flatMap, List.mem_map]; exact ⟨a, by simp; omega, l, ih, rfl⟩
theorem walkT_bytes (s : ByteArray) : ∀ (d : Nat) (g : Int) (p : Int × Int), walkT s d g = some p → ∀ q : Int, (s.size : Int) - d ≤ q → q < s.size → bt s q = 40 ∨ bt s q = 41
  | 0, g, p, h, q, h1, h2 => by omega
  | d + 1, g, p, h, q, h1, h2 => by
    simp only [walkT] at h
    by_cases e : q = (s.size : Int) - ((d + 1 : Nat) : Int)
    · rw [e]
      by_cases b0 : bt s ((s.size : Int) - ((d + 1 : Nat) : Int)) = 40
      · exact .inl b0
      · by_cases b1 : bt s ((s.size : Int) - ((d + 1 : Nat) : Int)) = 41
        · exact .inr b1
        · rw [if_neg b0, if_neg b1] at h
          cases h
    · split at h
      · cases e2 : walkT s d (g + 1) with
        | none => rw [e2] at h; cases h
        | some q' => exact walkT_bytes s d (g + 1) q' e2 q (by omega) h2
      · split at h
        · split at h
          · cases h
          · exact walkT_bytes s d (g - 1) p h q (by omega) h2
        · cases h
theorem byte_of (b : UInt8) (h : ((b.toNat : Int) = 40) ∨ ((b.toNat : Int) = 41)) : b = 40 ∨ b = 41 := by
  rcases h with h | h
  · left; apply UInt8.toNat_inj.1; simpa using (by omega : b.toNat = 40)
  · right; apply UInt8.toNat_inj.1; simpa using (by omega : b.toNat = 41)
theorem bytes_of (s : ByteArray) (n : Nat) (hn : s.size = n) : ∃ l : List UInt8, l.length = n ∧ s = ⟨l.toArray⟩ := by
  refine ⟨s.data.toList, ?_, ?_⟩
  · rw [Array.length_toList]; exact hn
  · apply ByteArray.ext; simp
theorem bt_nth (l : List UInt8) (i : Nat) (h : i < l.length) : bt ⟨l.toArray⟩ (i : Int) = (l[i].toNat : Int) := by
  have := (bt_at ⟨l.toArray⟩ (i : Int) (by simpa [ByteArray.size] using h)).symm; rw [this]; rfl
theorem words_mem (s : ByteArray) (n : Nat) (h1 : 1 ≤ n) (h3 : n ≤ 3) (hs : s.size = 2 * n) (c : Int) (hw : walkT s s.size 0 = some (0, c)) : s ∈ wordsAll n := by
  have hb := walkT_bytes s s.size 0 (0, c) hw
  have hw' : (walkT s s.size 0).map (fun p => p.1) = some 0 := by rw [hw]; rfl
  clear hw; obtain ⟨l, hl, rfl⟩ := bytes_of s (2 * n) hs
  have hbl : ∀ i (h : i < l.length), l[i] = 40 ∨ l[i] = 41 := fun i h => byte_of _ (by
    have := hb (i : Int) (by omega) (by rw [hs]; omega)
    rwa [bt_nth l i h] at this)
  clear hb
  have hc : n = 1 ∨ n = 2 ∨ n = 3 := by omega
  rcases hc with rfl | rfl | rfl
  · obtain ⟨a, b, rfl⟩ : ∃ a b, l = [a, b] := by
      match l, hl with
      | [a, b], _ => exact ⟨a, b, rfl⟩
    · skip
      have h0 : a = 40 ∨ a = 41 := hbl 0 (show 0 < 2 by decide); have h1' : b = 40 ∨ b = 41 := hbl 1 (show 1 < 2 by decide)
      rcases h0 with rfl | rfl <;> rcases h1' with rfl | rfl <;> first | (exact absurd hw' (by decide +kernel)) | (simp [wordsAll]; done)
  · obtain ⟨a, b, c, d, rfl⟩ : ∃ a b c d, l = [a, b, c, d] := by
      match l, hl with
      | [a, b, c, d], _ => exact ⟨a, b, c, d, rfl⟩
    · skip
      have g0 : a = 40 ∨ a = 41 := hbl 0 (show 0 < 4 by decide); have g1 : b = 40 ∨ b = 41 := hbl 1 (show 1 < 4 by decide); have g2 : c = 40 ∨ c = 41 := hbl 2 (show 2 < 4 by decide); have g3 : d = 40 ∨ d = 41 := hbl 3 (show 3 < 4 by decide)
      rcases g0 with rfl | rfl <;> rcases g1 with rfl | rfl <;> rcases g2 with rfl | rfl <;> rcases g3 with rfl | rfl <;> first | (exact absurd hw' (by decide +kernel)) | (simp [wordsAll]; done)
  · obtain ⟨a, b, c, d, e, f, rfl⟩ : ∃ a b c d e f, l = [a, b, c, d, e, f] := by
      match l, hl with
      | [a, b, c, d, e, f], _ => exact ⟨a, b, c, d, e, f, rfl⟩
    · skip
      have g0 : a = 40 ∨ a = 41 := hbl 0 (show 0 < 6 by decide); have g1 : b = 40 ∨ b = 41 := hbl 1 (show 1 < 6 by decide); have g2 : c = 40 ∨ c = 41 := hbl 2 (show 2 < 6 by decide); have g3 : d = 40 ∨ d = 41 := hbl 3 (show 3 < 6 by decide); have g4 : e = 40 ∨ e = 41 := hbl 4 (show 4 < 6 by decide); have g5 : f = 40 ∨ f = 41 := hbl 5 (show 5 < 6 by decide)
      rcases g0 with rfl | rfl <;> rcases g1 with rfl | rfl <;> rcases g2 with rfl | rfl <;> rcases g3 with rfl | rfl <;> rcases g4 with rfl | rfl <;> rcases g5 with rfl | rfl <;> first | (exact absurd hw' (by decide +kernel)) | (simp [wordsAll]; done)
theorem chk_all (P : ByteArray → List Int → Bool) (h1 : chkN P 1 = true) (h2 : chkN P 2 = true) (h3 : chkN P 3 = true) (s : ByteArray) (l : List Int) (h : treeOk s l) : P s l = true := by
  obtain ⟨a1, a3, hs, hst, c, hw⟩ := h; have hm := words_mem s l.length a1 a3 hs c hw
  have hl : ∀ x ∈ l, -1 ≤ x ∧ x ≤ 1 := by
    intro x hx; obtain ⟨i, hi, rfl⟩ := List.mem_iff_getElem.1 hx; have := hst i hi
    rwa [rd_lt l i hi] at this
  have hsm := stepsAll_mem l hl
  have hn : chkN P l.length = true := by
    have hc : l.length = 1 ∨ l.length = 2 ∨ l.length = 3 := by omega
    rcases hc with e | e | e <;> rw [e] <;> assumption
  unfold chkN at hn
  rw [List.all_eq_true] at hn; have := hn s hm; rw [List.all_eq_true] at this; exact this l hsm
theorem xor_nonneg (a b : Int) (ha : 0 ≤ a) (hb : 0 ≤ b) (ha' : a < 9223372036854775808) (hb' : b < 9223372036854775808) : 0 ≤ Go.bits .xor .i64 a b := by
  obtain ⟨n, rfl⟩ := Int.eq_ofNat_of_zero_le ha; obtain ⟨m, rfl⟩ := Int.eq_ofNat_of_zero_le hb; have hn : n % 2 ^ 64 = n := Nat.mod_eq_of_lt (by omega); have hm : m % 2 ^ 64 = m := Nat.mod_eq_of_lt (by omega); have hx : n ^^^ m < 2 ^ 63 := Nat.xor_lt_two_pow (by omega) (by omega)
  have e : Go.bits .xor .i64 (n : Int) (m : Int) = IntKind.i64.wrap ((n ^^^ m : Nat) : Int) := by
    simp only [Go.bits, BitVec.ofInt_natCast]
    show IntKind.i64.wrap (((BitVec.ofNat 64 n ^^^ BitVec.ofNat 64 m).toNat : Nat) : Int) = _
    rw [BitVec.toNat_xor, BitVec.toNat_ofNat, BitVec.toNat_ofNat, hn, hm]
  rw [e, IntKind.wrap_i64]; omega
def bytesOk (l : List Int) : Prop := l.length ≤ 2000 ∧ ∀ x ∈ l, 0 ≤ x ∧ x ≤ 255
theorem rd_byte (l : List Int) (h : bytesOk l) (i : Int) : 0 ≤ rd l i ∧ rd l i ≤ 255 := by
  unfold rd
  by_cases hi : i.toNat < l.length
  · rw [List.getD_eq_getElem?_getD, List.getElem?_eq_getElem hi]
    exact h.2 _ (List.getElem_mem hi)
  · rw [List.getD_eq_getElem?_getD, List.getElem?_eq_none (by omega)]
    decide
theorem pick_ev (l : List Int) (h : bytesOk l) (p : Int) (hp : 0 ≤ p) (hp' : p ≤ 1000000) (n : Int) (hn : 1 ≤ n) (hn' : n ≤ 1000000) : ∃ v, Ev (fun k => spec_l6Rd_pick.f k l p n) (v, p + 1) ∧ 0 ≤ v ∧ v < n := by
  have w0 : wrap64 (p + 1) = p + 1 := w64 (by omega) (by omega)
  have w1 : wrap64 (p + 1 - 1) = p := by rw [w64 (by omega) (by omega)]; omega
  have hl := h.1
  unfold spec_l6Rd_pick.f
  simp only [show ¬ n < 1 by omega, if_false, w0]
  by_cases hz : l.length = 0
  · refine ⟨0, Ev.s ?_, by omega, by omega⟩
    have : (((l.length : Int)) == 0) = true := by simp [hz]
    simp only [this, spec_l6Rd_pick.j0, if_true]; exact Ev.const rfl
  · have hb : (((l.length : Int)) == 0) = false := by rw [beq_eq_false_iff_ne]; omega
    have hn0 : ¬ n = 0 := by omega
    by_cases hlt : p < (l.length : Int)
    · have hr := rd_byte l h p
      have wr : wrap64 (rd l p) = rd l p := w64 (by omega) (by omega); refine ⟨Int.tmod (rd l p) n, Ev.s ?_, Int.tmod_nonneg _ (by omega), Int.tmod_lt_of_pos _ (by omega)⟩; simp only [hb, spec_l6Rd_pick.j0, w1, hlt, hp, hn0, wr, Bool.false_eq_true, if_true, if_false]; exact Ev.const rfl
    · have hl0 : ¬ (l.length : Int) = 0 := by omega
      have wk : wrap64 (p * 7) = p * 7 := w64 (by omega) (by omega); have wk3 : wrap64 (p * 7 + 3) = p * 7 + 3 := w64 (by omega) (by omega); have t1 := Int.tmod_nonneg (a := p) (l.length : Int) hp; have t2 := Int.tmod_lt_of_pos p (b := (l.length : Int)) (by omega); have t3 := Int.tmod_nonneg (a := p * 7 + 3) (l.length : Int) (by omega); have t4 := Int.tmod_lt_of_pos (p * 7 + 3) (b := (l.length : Int)) (by omega); have r1 := rd_byte l h (Int.tmod p (l.length : Int)); have r2 := rd_byte l h (Int.tmod (p * 7 + 3) (l.length : Int)); have d1 : 0 ≤ Int.tdiv p (l.length : Int) := Int.tdiv_nonneg hp (by omega); have d2 : Int.tdiv p (l.length : Int) ≤ p := Int.tdiv_le_self _ hp
      obtain ⟨X, hX, hX0, hX1⟩ : ∃ X, (wrap64 ((wrap64 ((wrap64 ((wrap64 ((wrap64 (rd l (Int.tmod p (l.length : Int)))) * 131)) + (wrap64 ((wrap64 (rd l (Int.tmod (p * 7 + 3) (l.length : Int)))) * 1117)))) + (wrap64 (p * 29)))) + (wrap64 ((wrap64 (Int.tdiv p (l.length : Int))) * 53)))) = X ∧ 0 ≤ X ∧ X < 4611686018427387904 := by
        refine ⟨_, rfl, ?_, ?_⟩
        all_goals
          generalize rd l (Int.tmod p (l.length : Int)) = a at *; generalize rd l (Int.tmod (p * 7 + 3) (l.length : Int)) = b at *; generalize Int.tdiv p (l.length : Int) = c at *; rw [w64 (x := a) (by omega) (by omega), w64 (x := b) (by omega) (by omega), w64 (x := a * 131) (by omega) (by omega), w64 (x := b * 1117) (by omega) (by omega), w64 (x := a * 131 + b * 1117) (by omega) (by omega), w64 (x := p * 29) (by omega) (by omega), w64 (x := a * 131 + b * 1117 + p * 29) (by omega) (by omega), w64 (x := c) (by omega) (by omega), w64 (x := c * 53) (by omega) (by omega), w64 (x := a * 131 + b * 1117 + p * 29 + c * 53) (by omega) (by omega)]; omega
      have hd : 0 ≤ wrap64 (Int.tdiv X 64) ∧ wrap64 (Int.tdiv X 64) < 9223372036854775808 := by
        have := Int.tdiv_nonneg hX0 (show (0 : Int) ≤ 64 by decide); have := Int.tdiv_le_self 64 hX0; rw [w64 (by omega) (by omega)]; omega
      have hx := xor_nonneg X (wrap64 (Int.tdiv X 64)) hX0 hd.1 (by omega) hd.2; refine ⟨Int.tmod (Go.bits .xor .i64 X (wrap64 (Int.tdiv X 64))) n, Ev.s ?_, Int.tmod_nonneg _ hx, Int.tmod_lt_of_pos _ (by omega)⟩; simp only [hb, spec_l6Rd_pick.j0, w1, hlt, hl0, wk, wk3, t1, t2, t3, t4, hn0, hX, Bool.false_eq_true, if_true, if_false]; exact Ev.const rfl
theorem open_ev (l : List Int) (hb : ∀ x ∈ l, (Lit.int .u8 x).wf = true) : ∃ l', spec_l6Open.f l = some (l', 0) ∧ bytesOk l' := by
  have hb' : ∀ x ∈ l, 0 ≤ x ∧ x ≤ 255 := by
    intro x hx; have := hb x hx; simp only [Lit.wf, IntKind.min, IntKind.max, IntKind.signed, IntKind.bits, Bool.and_eq_true, decide_eq_true_eq, Bool.false_eq_true, if_false] at this; omega
  unfold spec_l6Open.f
  by_cases h : (l.length : Int) > 2000
  · refine ⟨l.take 2000, ?_, ?_, fun x hx => hb' x (List.mem_of_mem_take hx)⟩
    · rw [if_pos h, if_pos (by omega)]
    · rw [List.length_take]; omega
  · exact ⟨l, by rw [if_neg h], by omega, hb'⟩
theorem of_ev (l : List Int) (h : bytesOk l) (p : Int) (hp : 0 ≤ p) (hp' : p ≤ 1000000) (L : List ByteArray) (h1 : 1 ≤ L.length) (h2 : L.length ≤ 100) : ∃ v : Int, Ev (fun k => spec_l6Rd_of.f k l p L) (rdOf ByteArray.empty L v, p + 1) ∧ 0 ≤ v ∧ v < L.length := by
  obtain ⟨v, hv, v0, v1⟩ := pick_ev l h p hp hp' (L.length : Int) (by omega) (by omega); refine ⟨v, ?_, v0, v1⟩
  unfold spec_l6Rd_of.f
  refine Ev.bind hv ?_; simp only [v0, v1, if_true]; exact Ev.const rfl
theorem size_push (s : ByteArray) (b : UInt8) : (s ++ (⟨#[b]⟩ : ByteArray)).size = s.size + 1 := by
  rw [ByteArray.size_append]; rfl
theorem tree_end (l : List Int) (h : bytesOk l) (n up p : Int) (s : ByteArray) (st : List Int) (hn : 1 ≤ n) (hn' : n ≤ 4) (hs : ¬ (s.size : Int) < 2 * n) (hs' : s.size ≤ 8) (h1 : 1 ≤ st.length) (h8 : st.length ≤ 8) (hp : 0 ≤ p) (hp' : p ≤ 10000) :
    ∃ s' st' p', Ev (fun k => spec_l92Tree.l0 k n up l p s st) (s', st', p') ∧ s'.size ≤ 10 ∧ st'.length ≤ 10 := by
  have w2 : wrap64 (2 * n) = 2 * n := w64 (by omega) (by omega); obtain ⟨v, hv, v0, v1⟩ := pick_ev l h p hp (by omega) 40 (by omega) (by omega)
  by_cases c0 : v = 0
  · obtain ⟨q, hq, q0, q1⟩ := of_ev l h (p + 1) (by omega) (by omega) ([(⟨#[40]⟩ : ByteArray), (⟨#[41]⟩ : ByteArray), (⟨#[120]⟩ : ByteArray), (⟨#[40, 41]⟩ : ByteArray)] : List ByteArray) (by decide) (by decide)
    have hz : (rdOf ByteArray.empty ([(⟨#[40]⟩ : ByteArray), (⟨#[41]⟩ : ByteArray), (⟨#[120]⟩ : ByteArray), (⟨#[40, 41]⟩ : ByteArray)] : List ByteArray) q).size ≤ 2 := by
      have hc : q = 0 ∨ q = 1 ∨ q = 2 ∨ q = 3 := by
        have : q < 4 := q1; omega
      rcases hc with rfl | rfl | rfl | rfl <;> decide
    generalize rdOf ByteArray.empty ([(⟨#[40]⟩ : ByteArray), (⟨#[41]⟩ : ByteArray), (⟨#[120]⟩ : ByteArray), (⟨#[40, 41]⟩ : ByteArray)] : List ByteArray) q = y at hq hz; refine ⟨s ++ y, st, p + 1 + 1, Ev.s ?_, ?_, by omega⟩
    · simp only [spec_l92Tree.l0, w2, hs, if_false]
      refine Ev.bind hv ?_; simp only [c0, if_true]; refine Ev.bind hq ?_; simp only [show s.size + y.size ≤ 9223372036854775807 by omega, if_true]; exact Ev.const rfl
    · rw [ByteArray.size_append]; omega
  · by_cases c1 : v = 1
    · obtain ⟨q, hq, q0, q1⟩ := pick_ev l h (p + 1) (by omega) (by omega) 2 (by omega) (by omega)
      refine ⟨s, st.set (Int.toNat 0) (rd [(-2), 2] q), p + 1 + 1, Ev.s ?_, by omega, by simp; omega⟩; simp only [spec_l92Tree.l0, w2, hs, if_false]; refine Ev.bind hv ?_; simp only [c1, show ¬ ((1 : Int) = 0) by decide, if_false, if_true, Option.bind_some]; refine Ev.bind hq ?_; simp only [q0, show q < (([(-2), 2] : List Int).length : Int) from q1, show (0 : Int) < (st.length : Int) by omega, if_true]; exact Ev.const rfl
    · by_cases c2 : v = 2
      · refine ⟨s, st.drop (Int.toNat 1), p + 1, Ev.s ?_, by omega, by simp; omega⟩
        simp only [spec_l92Tree.l0, w2, hs, if_false]; refine Ev.bind hv ?_; simp only [c2, show ¬ ((2 : Int) = 0) by decide, show ¬ ((2 : Int) = 1) by decide, show (1 : Int) ≤ (st.length : Int) by omega, if_false, if_true]; exact Ev.const rfl
      · refine ⟨s, st, p + 1, Ev.s ?_, by omega, by omega⟩
        simp only [spec_l92Tree.l0, w2, hs, if_false]; refine Ev.bind hv ?_; simp only [c0, c1, c2, if_false]; exact Ev.const rfl
theorem tree_run (l : List Int) (h : bytesOk l) (n : Int) (hn : 1 ≤ n) (hn' : n ≤ 4) : ∀ (d : Nat) (up p : Int) (s : ByteArray) (st : List Int), 0 ≤ up → up ≤ st.length → (s.size : Int) + up = 2 * st.length → 2 * n - s.size = d → 0 ≤ p → p + 2 * d ≤ 1000 →
    ∃ s' st' p', Ev (fun k => spec_l92Tree.l0 k n up l p s st) (s', st', p') ∧ s'.size ≤ 10 ∧ st'.length ≤ 10
  | 0, up, p, s, st, hu, hu', hs, hd, hp, hp' => tree_end l h n up p s st hn hn' (by omega) (by omega) (by omega) (by omega) hp (by omega)
  | d + 1, up, p, s, st, hu, hu', hs, hd, hp, hp' => by
    have w2 : wrap64 (2 * n) = 2 * n := w64 (by omega) (by omega); have wm : wrap64 (up - 1) = up - 1 := w64 (by omega) (by omega); have wp : wrap64 (up + 1) = up + 1 := w64 (by omega) (by omega)
    have hlt : (s.size : Int) < 2 * n := by omega
    have hs1 : s.size + 1 ≤ 9223372036854775807 := by omega
    have hst : st.length < 17592186044416 := by omega
    have down : ∀ p1 : Int, 0 ≤ p1 → p1 ≤ p + 2 → up > 0 → ∃ s' st' p', Ev (fun k => spec_l92Tree.l0 k n (up - 1) l p1 (s ++ (⟨#[41]⟩ : ByteArray)) st) (s', st', p') ∧ s'.size ≤ 10 ∧ st'.length ≤ 10 := fun p1 h0 h1 hup =>
      tree_run l h n hn hn' d (up - 1) p1 _ st (by omega) (by omega) (by rw [size_push]; omega) (by rw [size_push]; omega) h0 (by omega)
    have over : ∀ (p1 x : Int), 0 ≤ p1 → p1 ≤ p + 2 → ∃ s' st' p', Ev (fun k => spec_l92Tree.l0 k n (up + 1) l p1 (s ++ (⟨#[40]⟩ : ByteArray)) (st ++ [x])) (s', st', p') ∧ s'.size ≤ 10 ∧ st'.length ≤ 10 := fun p1 x h0 h1 =>
      tree_run l h n hn hn' d (up + 1) p1 _ _ (by omega) (by simp; omega) (by rw [size_push]; simp; omega) (by rw [size_push]; omega) h0 (by omega)
    by_cases c1 : up > 0
    · by_cases c2 : (st.length : Int) = n
      · obtain ⟨s', st', p', e, z1, z2⟩ := down p hp (by omega) c1
        refine ⟨s', st', p', Ev.s ?_, z1, z2⟩; simp only [spec_l92Tree.l0, w2, hlt, c1, c2, hs1, wm, if_true]; exact e
      · obtain ⟨v, hv, v0, v1⟩ := pick_ev l h p hp (by omega) 2 (by omega) (by omega)
        by_cases c3 : v = 0
        · obtain ⟨s', st', p', e, z1, z2⟩ := down (p + 1) (by omega) (by omega) c1
          refine ⟨s', st', p', Ev.s ?_, z1, z2⟩; simp only [spec_l92Tree.l0, w2, hlt, c1, c2, if_true, if_false]; refine Ev.bind hv ?_; simp only [c3, hs1, wm, if_true]; exact e
        · obtain ⟨q, hq, q0, q1⟩ := pick_ev l h (p + 1) (by omega) (by omega) 3 (by omega) (by omega)
          obtain ⟨s', st', p', e, z1, z2⟩ := over (p + 1 + 1) (wrap64 (q - 1)) (by omega) (by omega); refine ⟨s', st', p', Ev.s ?_, z1, z2⟩; simp only [spec_l92Tree.l0, w2, hlt, c1, c2, if_true, if_false]; refine Ev.bind hv ?_; simp only [c3, hs1, if_true, if_false]; refine Ev.bind hq ?_; simp only [hst, wp, if_true]; exact e
    · obtain ⟨q, hq, q0, q1⟩ := pick_ev l h p hp (by omega) 3 (by omega) (by omega)
      obtain ⟨s', st', p', e, z1, z2⟩ := over (p + 1) (wrap64 (q - 1)) (by omega) (by omega); refine ⟨s', st', p', Ev.s ?_, z1, z2⟩; simp only [spec_l92Tree.l0, w2, hlt, c1, hs1, if_true, if_false]; refine Ev.bind hq ?_; simp only [hst, wp, if_true]; exact e
theorem l92Tree_ev (l : List Int) (h : bytesOk l) (most : Int) (hm : 1 ≤ most) (hm' : most ≤ 4) : ∃ s st p, Ev (fun k => spec_l92Tree.f k l 0 most) (s, st, p) ∧ s.size ≤ 10 ∧ st.length ≤ 10 := by
  obtain ⟨v, hv, v0, v1⟩ := pick_ev l h 0 (by omega) (by omega) most hm (by omega); obtain ⟨s, st, p, e, z1, z2⟩ := tree_run l h (1 + v) (by omega) (by omega) (2 * (1 + v)).toNat 0 (0 + 1) (⟨#[]⟩ : ByteArray) [] (by omega) (by simp) (by rfl) (by
    show 2 * (1 + v) - ((0 : Nat) : Int) = _
    omega) (by omega) (by omega)
  refine ⟨s, st, p, ?_, z1, z2⟩
  unfold spec_l92Tree.f
  refine Ev.bind hv ?_; rw [w64 (x := 1 + v) (by omega) (by omega)]; exact e
end Go.Proofs.Ytlpbalebodlipaa.PK

namespace Go.Proofs.Ytlpbalebodlipaa.PK
open Go.RowKit Go.Proofs.YtlpbalebodlipaaW.PrintWords Go.Proofs.YtlpbalebodlipaaW.PrintLast Go.Proofs.YtlpbalebodlipaaW.PrintMore
attribute [local go_sem] max2_int min2_int max_two min_two max_three min_three max_four min_four   -- for this text's walks alone
set_option linter.unusedVariables false
set_option linter.unusedSimpArgs false
mutual
def spec_PermValid.l0 : Nat → List Int → Int → Option (Bool)
 | 0, _, _ => none
 | k + 1, x0, x3 => if x3 < (x0.length : Int) then (if 0 ≤ x3 then ((spec_l6In.f (rd x0 x3) 0 (wrap64 ((x0.length : Int) - 1))).bind fun t806 => (if t806 = true then (spec_PermValid.l1 k x0 x3 0) else (some false))) else (none)) else ((spec_l6In.f (x0.length : Int) 1 12).bind fun t804 => (some t804))
def spec_PermValid.l1 : Nat → List Int → Int → Int → Option (Bool)
 | 0, _, _, _ => none
 | k + 1, x0, x3, x4 => if x4 < x3 then (if 0 ≤ x4 then (if x4 < (x0.length : Int) then (if 0 ≤ x3 then (if x3 < (x0.length : Int) then (if (rd x0 x4) = (rd x0 x3) then (some false) else (spec_PermValid.l1 k x0 x3 (wrap64 (x4 + 1)))) else (none)) else (none)) else (none)) else (none)) else (spec_PermValid.l0 k x0 (wrap64 (x3 + 1)))
end
def spec_PermValid.f (k : Nat) (l0 : List Int) : Option (Bool) := spec_PermValid.l0 k l0 0
theorem spec_PermValid.mono_l : ∀ k, (∀ y0 y1, LeO (spec_PermValid.l0 k y0 y1) (spec_PermValid.l0 (k + 1) y0 y1)) ∧ (∀ y0 y1 y2, LeO (spec_PermValid.l1 k y0 y1 y2) (spec_PermValid.l1 (k + 1) y0 y1 y2))
 | 0 => ⟨fun _ _ r h => by simp [spec_PermValid.l0] at h, fun _ _ _ r h => by simp [spec_PermValid.l1] at h⟩
 | k + 1 => by
  obtain ⟨ih0, ih1⟩ := spec_PermValid.mono_l k; refine ⟨?_, ?_⟩
  ·
   intro y0 y1
   unfold spec_PermValid.l0
   repeat' first
   | (with_reducible exact ih0 _ _)
   | (with_reducible exact ih1 _ _ _)
   | (with_reducible exact LeO.refl _)
   | (with_reducible exact LeO.none _)
   | (with_reducible refine LeO.ite ?_ ?_)
   | (with_reducible refine LeO.bind ?_ (fun _ => ?_))
   | exact ih0 _ _
   | exact ih1 _ _ _
   | exact LeO.none _
   | refine LeO.ite ?_ ?_
   | refine LeO.bind ?_ (fun _ => ?_)
  ·
   intro y0 y1 y2
   unfold spec_PermValid.l1
   repeat' first
   | (with_reducible exact ih0 _ _)
   | (with_reducible exact ih1 _ _ _)
   | (with_reducible exact LeO.refl _)
   | (with_reducible exact LeO.none _)
   | (with_reducible refine LeO.ite ?_ ?_)
   | (with_reducible refine LeO.bind ?_ (fun _ => ?_))
   | exact ih0 _ _
   | exact ih1 _ _ _
   | exact LeO.none _
   | refine LeO.ite ?_ ?_
   | refine LeO.bind ?_ (fun _ => ?_)
theorem spec_PermValid.mono : ∀ a0 k, LeO (spec_PermValid.f k a0) (spec_PermValid.f (k + 1) a0) := by
 intro a0 k; obtain ⟨ih0, ih1⟩ := spec_PermValid.mono_l k
 unfold spec_PermValid.f
 repeat' first
   | (with_reducible exact ih0 _ _)
   | (with_reducible exact ih1 _ _ _)
   | (with_reducible exact LeO.refl _)
   | (with_reducible exact LeO.none _)
   | (with_reducible refine LeO.ite ?_ ?_)
   | (with_reducible refine LeO.bind ?_ (fun _ => ?_))
   | exact ih0 _ _
   | exact ih1 _ _ _
   | exact LeO.none _
   | refine LeO.ite ?_ ?_
   | refine LeO.bind ?_ (fun _ => ?_)
def spec_l1Both.f (k : Nat) (l0 : List Int) (l1 : List Int) : Option (Bool) := (spec_PermValid.f k l0).bind fun t809 => (if t809 = true then ((spec_PermValid.f k l1).bind fun t810 => (if t810 = true then (some ((l0.length : Int) == (l1.length : Int))) else (some false))) else (some false))
theorem spec_l1Both.mono : ∀ a0 a1 k, LeO (spec_l1Both.f k a0 a1) (spec_l1Both.f (k + 1) a0 a1) := by
 intro a0 a1 k
 unfold spec_l1Both.f
 repeat' first
   | (with_reducible exact spec_PermValid.mono _ _)
   | (with_reducible exact LeO.refl _)
   | (with_reducible exact LeO.none _)
   | (with_reducible refine LeO.ite ?_ ?_)
   | (with_reducible refine LeO.bind ?_ (fun _ => ?_))
   | exact spec_PermValid.mono _ _
   | exact LeO.none _
   | refine LeO.ite ?_ ?_
   | refine LeO.bind ?_ (fun _ => ?_)
def spec_l1Same.l0 : Nat → Int → List Int → Int → Option (List Int)
 | 0, _, _, _ => none
 | k + 1, x0, x3, x4 => if x4 < x0 then (if x3.length < 17592186044416 then (spec_l1Same.l0 k x0 (x3 ++ [x4]) (wrap64 (x4 + 1))) else (none)) else (some x3)
def spec_l1Same.f (k : Nat) (a0 : Int) : Option (List Int) := spec_l1Same.l0 k a0 (([] : List Int)) 0
theorem spec_l1Same.mono_l : ∀ k, (∀ y0 y1 y2, LeO (spec_l1Same.l0 k y0 y1 y2) (spec_l1Same.l0 (k + 1) y0 y1 y2))
 | 0 => fun _ _ _ r h => by simp [spec_l1Same.l0] at h
 | k + 1 => by
  have ih0 := spec_l1Same.mono_l k
  ·
   intro y0 y1 y2
   unfold spec_l1Same.l0
   repeat' first
   | (with_reducible exact ih0 _ _ _)
   | (with_reducible exact LeO.refl _)
   | (with_reducible exact LeO.none _)
   | (with_reducible refine LeO.ite ?_ ?_)
   | (with_reducible refine LeO.bind ?_ (fun _ => ?_))
   | exact ih0 _ _ _
   | exact LeO.none _
   | refine LeO.ite ?_ ?_
   | refine LeO.bind ?_ (fun _ => ?_)
theorem spec_l1Same.mono : ∀ a0 k, LeO (spec_l1Same.f k a0) (spec_l1Same.f (k + 1) a0) := by
 intro a0 k; have ih0 := spec_l1Same.mono_l k
 unfold spec_l1Same.f
 repeat' first
   | (with_reducible exact ih0 _ _ _)
   | (with_reducible exact LeO.refl _)
   | (with_reducible exact LeO.none _)
   | (with_reducible refine LeO.ite ?_ ?_)
   | (with_reducible refine LeO.bind ?_ (fun _ => ?_))
   | exact ih0 _ _ _
   | exact LeO.none _
   | refine LeO.ite ?_ ?_
   | refine LeO.bind ?_ (fun _ => ?_)
mutual
def spec_l1Orbits.l0 : Nat → List Int → List Int → List Int → Int → Option (List Int)
 | 0, _, _, _, _ => none
 | k + 1, x0, x1, x5, x6 => if x6 < (x0.length : Int) then (spec_l1Orbits.l1 k x0 x1 x5 x6 0) else (some x5)
def spec_l1Orbits.l1 : Nat → List Int → List Int → List Int → Int → Int → Option (List Int)
 | 0, _, _, _, _, _ => none
 | k + 1, x0, x1, x5, x6, x7 => if x7 < (x0.length : Int) then (if 0 ≤ x7 then (if x7 < (x5.length : Int) then (if 0 ≤ (rd x0 x7) then (if (rd x0 x7) < (x5.length : Int) then (if x7 < (x1.length : Int) then (if 0 ≤ (rd x1 x7) then (if (rd x1 x7) < (x5.length : Int) then (spec_l1Orbits.l1 k x0 x1 (((x5.set (x7 : Int).toNat (mn (rd x5 x7) (mn (rd x5 (rd x0 x7)) (rd x5 (rd x1 x7))))).set ((rd x0 x7) : Int).toNat (mn (rd x5 x7) (mn (rd x5 (rd x0 x7)) (rd x5 (rd x1 x7))))).set ((rd x1 x7) : Int).toNat (mn (rd x5 x7) (mn (rd x5 (rd x0 x7)) (rd x5 (rd x1 x7))))) x6 (wrap64 (x7 + 1))) else (none)) else (none)) else (none)) else (none)) else (none)) else (none)) else (none)) else (spec_l1Orbits.l0 k x0 x1 x5 (wrap64 (x6 + 1)))
end
def spec_l1Orbits.f (k : Nat) (l0 : List Int) (l1 : List Int) : Option (List Int) := (spec_l1Same.f k (l0.length : Int)).bind fun t817 => (spec_l1Orbits.l0 k l0 l1 t817 0)
theorem spec_l1Orbits.mono_l : ∀ k, (∀ y0 y1 y2 y3, LeO (spec_l1Orbits.l0 k y0 y1 y2 y3) (spec_l1Orbits.l0 (k + 1) y0 y1 y2 y3)) ∧ (∀ y0 y1 y2 y3 y4, LeO (spec_l1Orbits.l1 k y0 y1 y2 y3 y4) (spec_l1Orbits.l1 (k + 1) y0 y1 y2 y3 y4))
 | 0 => ⟨fun _ _ _ _ r h => by simp [spec_l1Orbits.l0] at h, fun _ _ _ _ _ r h => by simp [spec_l1Orbits.l1] at h⟩
 | k + 1 => by
  obtain ⟨ih0, ih1⟩ := spec_l1Orbits.mono_l k; refine ⟨?_, ?_⟩
  ·
   intro y0 y1 y2 y3
   unfold spec_l1Orbits.l0
   repeat' first
   | (with_reducible exact ih0 _ _ _ _)
   | (with_reducible exact ih1 _ _ _ _ _)
   | (with_reducible exact spec_l1Same.mono _ _)
   | (with_reducible exact LeO.refl _)
   | (with_reducible exact LeO.none _)
   | (with_reducible refine LeO.ite ?_ ?_)
   | (with_reducible refine LeO.bind ?_ (fun _ => ?_))
   | exact ih0 _ _ _ _
   | exact ih1 _ _ _ _ _
   | exact spec_l1Same.mono _ _
   | exact LeO.none _
   | refine LeO.ite ?_ ?_
   | refine LeO.bind ?_ (fun _ => ?_)
  ·
   intro y0 y1 y2 y3 y4
   unfold spec_l1Orbits.l1
   repeat' first
   | (with_reducible exact ih0 _ _ _ _)
   | (with_reducible exact ih1 _ _ _ _ _)
   | (with_reducible exact spec_l1Same.mono _ _)
   | (with_reducible exact LeO.refl _)
   | (with_reducible exact LeO.none _)
   | (with_reducible refine LeO.ite ?_ ?_)
   | (with_reducible refine LeO.bind ?_ (fun _ => ?_))
   | exact ih0 _ _ _ _
   | exact ih1 _ _ _ _ _
   | exact spec_l1Same.mono _ _
   | exact LeO.none _
   | refine LeO.ite ?_ ?_
   | refine LeO.bind ?_ (fun _ => ?_)
theorem spec_l1Orbits.mono : ∀ a0 a1 k, LeO (spec_l1Orbits.f k a0 a1) (spec_l1Orbits.f (k + 1) a0 a1) := by
 intro a0 a1 k; obtain ⟨ih0, ih1⟩ := spec_l1Orbits.mono_l k
 unfold spec_l1Orbits.f
 repeat' first
   | (with_reducible exact ih0 _ _ _ _)
   | (with_reducible exact ih1 _ _ _ _ _)
   | (with_reducible exact spec_l1Same.mono _ _)
   | (with_reducible exact LeO.refl _)
   | (with_reducible exact LeO.none _)
   | (with_reducible refine LeO.ite ?_ ?_)
   | (with_reducible refine LeO.bind ?_ (fun _ => ?_))
   | exact ih0 _ _ _ _
   | exact ih1 _ _ _ _ _
   | exact spec_l1Same.mono _ _
   | exact LeO.none _
   | refine LeO.ite ?_ ?_
   | refine LeO.bind ?_ (fun _ => ?_)
mutual
def spec_MapValid.l0 : Nat → Int → List Int → List Int → Option (Bool)
 | 0, _, _, _ => none
 | k + 1, x3, xZ0, xZ1 => if x3 < (xZ1.length : Int) then (if 0 ≤ x3 then (if (rd xZ1 x3) = x3 then (some false) else (if 0 ≤ (rd xZ1 x3) then (if (rd xZ1 x3) < (xZ1.length : Int) then (if (rd xZ1 (rd xZ1 x3)) = x3 then (spec_MapValid.l0 k (wrap64 (x3 + 1)) xZ0 xZ1) else (some false)) else (none)) else (none))) else (none)) else ((spec_l1Orbits.f k xZ0 xZ1).bind fun t835 => (spec_MapValid.l1 k t835 0))
def spec_MapValid.l1 : Nat → List Int → Int → Option (Bool)
 | 0, _, _ => none
 | k + 1, x4, x5 => if x5 < (x4.length : Int) then (if 0 ≤ x5 then (if (rd x4 x5) = 0 then (spec_MapValid.l1 k x4 (wrap64 (x5 + 1))) else (some false)) else (none)) else (some true)
end
def spec_MapValid.f (k : Nat) (l0_0 : List Int) (l0_1 : List Int) : Option (Bool) := (spec_l1Both.f k l0_0 l0_1).bind fun t831 => (if t831 = true then (spec_MapValid.l0 k 0 l0_0 l0_1) else (some false))
theorem spec_MapValid.mono_l : ∀ k, (∀ y0 y1 y2, LeO (spec_MapValid.l0 k y0 y1 y2) (spec_MapValid.l0 (k + 1) y0 y1 y2)) ∧ (∀ y0 y1, LeO (spec_MapValid.l1 k y0 y1) (spec_MapValid.l1 (k + 1) y0 y1))
 | 0 => ⟨fun _ _ _ r h => by simp [spec_MapValid.l0] at h, fun _ _ r h => by simp [spec_MapValid.l1] at h⟩
 | k + 1 => by
  obtain ⟨ih0, ih1⟩ := spec_MapValid.mono_l k; refine ⟨?_, ?_⟩
  ·
   intro y0 y1 y2
   unfold spec_MapValid.l0
   repeat' first
   | (with_reducible exact ih0 _ _ _)
   | (with_reducible exact ih1 _ _)
   | (with_reducible exact spec_l1Both.mono _ _ _)
   | (with_reducible exact spec_l1Orbits.mono _ _ _)
   | (with_reducible exact LeO.refl _)
   | (with_reducible exact LeO.none _)
   | (with_reducible refine LeO.ite ?_ ?_)
   | (with_reducible refine LeO.bind ?_ (fun _ => ?_))
   | exact ih0 _ _ _
   | exact ih1 _ _
   | exact spec_l1Both.mono _ _ _
   | exact spec_l1Orbits.mono _ _ _
   | exact LeO.none _
   | refine LeO.ite ?_ ?_
   | refine LeO.bind ?_ (fun _ => ?_)
  ·
   intro y0 y1
   unfold spec_MapValid.l1
   repeat' first
   | (with_reducible exact ih0 _ _ _)
   | (with_reducible exact ih1 _ _)
   | (with_reducible exact spec_l1Both.mono _ _ _)
   | (with_reducible exact spec_l1Orbits.mono _ _ _)
   | (with_reducible exact LeO.refl _)
   | (with_reducible exact LeO.none _)
   | (with_reducible refine LeO.ite ?_ ?_)
   | (with_reducible refine LeO.bind ?_ (fun _ => ?_))
   | exact ih0 _ _ _
   | exact ih1 _ _
   | exact spec_l1Both.mono _ _ _
   | exact spec_l1Orbits.mono _ _ _
   | exact LeO.none _
   | refine LeO.ite ?_ ?_
   | refine LeO.bind ?_ (fun _ => ?_)
theorem spec_MapValid.mono : ∀ a0 a1 k, LeO (spec_MapValid.f k a0 a1) (spec_MapValid.f (k + 1) a0 a1) := by
 intro a0 a1 k; obtain ⟨ih0, ih1⟩ := spec_MapValid.mono_l k
 unfold spec_MapValid.f
 repeat' first
   | (with_reducible exact ih0 _ _ _)
   | (with_reducible exact ih1 _ _)
   | (with_reducible exact spec_l1Both.mono _ _ _)
   | (with_reducible exact spec_l1Orbits.mono _ _ _)
   | (with_reducible exact LeO.refl _)
   | (with_reducible exact LeO.none _)
   | (with_reducible refine LeO.ite ?_ ?_)
   | (with_reducible refine LeO.bind ?_ (fun _ => ?_))
   | exact ih0 _ _ _
   | exact ih1 _ _
   | exact spec_l1Both.mono _ _ _
   | exact spec_l1Orbits.mono _ _ _
   | exact LeO.none _
   | refine LeO.ite ?_ ?_
   | refine LeO.bind ?_ (fun _ => ?_)
end Go.Proofs.Ytlpbalebodlipaa.PK

set_option linter.unusedVariables false
set_option linter.unusedSimpArgs false
namespace Go.Proofs.Ytlpbalebodlipaa.PK
open Go.RowKit Go.Proofs.YtlpbalebodlipaaW.PrintWords Go.Proofs.YtlpbalebodlipaaW.PrintLast Go.Proofs.YtlpbalebodlipaaW.PrintMore
def okAt (l : List Int) (i : Nat) : Prop := 0 ≤ rd l i ∧ rd l i < l.length ∧ ∀ k : Nat, k < i → rd l k ≠ rd l i
def isPerm (l : List Int) : Prop := 1 ≤ l.length ∧ l.length ≤ 12 ∧ ∀ i : Nat, i < l.length → okAt l i
theorem l6In_eq (a b c : Int) : spec_l6In.f a b c = some (decide (b ≤ a ∧ a ≤ c)) := by
  unfold spec_l6In.f
  by_cases h1 : a ≥ b
  · by_cases h2 : a ≤ c <;> simp [h1, h2]
  · simp [h1]
theorem specPerm_in (l : List Int) (hl : l.length ≤ 1048576) (i : Nat) (hi : i < l.length) : ∀ (d k : Nat), i - k = d → k ≤ i →
    ((∀ q : Nat, k ≤ q → q < i → rd l q ≠ rd l i) → ∀ r, Ev (fun z => spec_PermValid.l0 z l ((i + 1 : Nat) : Int)) r → Ev (fun z => spec_PermValid.l1 z l i k) r) ∧
    (¬ (∀ q : Nat, k ≤ q → q < i → rd l q ≠ rd l i) → Ev (fun z => spec_PermValid.l1 z l i k) false)
  | 0, k, hd, hk => by
    refine ⟨fun _ r h => Ev.s ?_, fun h => absurd (fun q h1 h2 => by omega) h⟩; simp only [spec_PermValid.l1, show ¬ (k : Int) < (i : Int) by omega, if_false]; rw [w64 (x := (i : Int) + 1) (by omega) (by omega), show ((i : Int) + 1) = ((i + 1 : Nat) : Int) by omega]; exact h
  | d + 1, k, hd, hk => by
    have ih := specPerm_in l hl i hi d (k + 1) (by omega) (by omega)
    have hw : wrap64 ((k : Int) + 1) = ((k + 1 : Nat) : Int) := by rw [w64 (by omega) (by omega)]; omega
    by_cases e : rd l k = rd l i
    · refine ⟨fun h => absurd e (h k (Nat.le_refl _) (by omega)), fun h => Ev.s ?_⟩
      simp only [spec_PermValid.l1, show (k : Int) < (i : Int) by omega, show (0 : Int) ≤ k by omega, show (k : Int) < (l.length : Int) by omega, show (0 : Int) ≤ i by omega, show (i : Int) < (l.length : Int) by omega, e, if_true]; exact Ev.const rfl
    · refine ⟨fun h r hr => Ev.s ?_, fun h => Ev.s ?_⟩
      · simp only [spec_PermValid.l1, show (k : Int) < (i : Int) by omega, show (0 : Int) ≤ k by omega, show (k : Int) < (l.length : Int) by omega, show (0 : Int) ≤ i by omega, show (i : Int) < (l.length : Int) by omega, e, if_true, if_false, hw]
        exact ih.1 (fun q h1 h2 => h q (by omega) h2) r hr
      · simp only [spec_PermValid.l1, show (k : Int) < (i : Int) by omega, show (0 : Int) ≤ k by omega, show (k : Int) < (l.length : Int) by omega, show (0 : Int) ≤ i by omega, show (i : Int) < (l.length : Int) by omega, e, if_true, if_false, hw]
        refine ih.2 fun h' => h fun q h1 h2 => ?_
        by_cases eq : q = k
        · rw [eq]; exact e
        · exact h' q (by omega) h2
theorem specPerm_run (l : List Int) (hl : l.length ≤ 1048576) : ∀ (d i : Nat), l.length - i = d → i ≤ l.length →
    ((∀ q : Nat, i ≤ q → q < l.length → okAt l q) → Ev (fun z => spec_PermValid.l0 z l i) (decide (1 ≤ (l.length : Int) ∧ (l.length : Int) ≤ 12))) ∧
    (¬ (∀ q : Nat, i ≤ q → q < l.length → okAt l q) → Ev (fun z => spec_PermValid.l0 z l i) false)
  | 0, i, hd, hi => by
    refine ⟨fun _ => Ev.s ?_, fun h => absurd (fun q h1 h2 => by omega) h⟩; simp only [spec_PermValid.l0, show ¬ (i : Int) < (l.length : Int) by omega, if_false, l6In_eq, Option.bind_some]; exact Ev.const rfl
  | d + 1, i, hd, hi => by
    have hlt : i < l.length := by omega
    have ih := specPerm_run l hl d (i + 1) (by omega) (by omega); have hin := specPerm_in l hl i hlt i 0 (by omega) (by omega); have hwl : wrap64 ((l.length : Int) - 1) = (l.length : Int) - 1 := w64 (by omega) (by omega)
    by_cases hr : 0 ≤ rd l i ∧ rd l i ≤ (l.length : Int) - 1
    · by_cases hn : ∀ q : Nat, 0 ≤ q → q < i → rd l q ≠ rd l i
      · refine ⟨fun h => Ev.s ?_, fun h => Ev.s ?_⟩
        · simp only [spec_PermValid.l0, show (i : Int) < (l.length : Int) by omega, show (0 : Int) ≤ i by omega, if_true, l6In_eq, Option.bind_some, hwl, hr, decide_true, and_self]
          exact hin.1 hn _ (ih.1 fun q h1 h2 => h q (by omega) h2)
        · simp only [spec_PermValid.l0, show (i : Int) < (l.length : Int) by omega, show (0 : Int) ≤ i by omega, if_true, l6In_eq, Option.bind_some, hwl, hr, decide_true, and_self]
          refine hin.1 hn _ (ih.2 fun h' => h fun q h1 h2 => ?_)
          by_cases e : q = i
          · rw [e]; exact ⟨hr.1, by omega, fun k hk => hn k (by omega) hk⟩
          · exact h' q (by omega) h2
      · refine ⟨fun h => absurd (fun q _ h2 => (h i (Nat.le_refl _) hlt).2.2 q h2) hn, fun h => Ev.s ?_⟩
        simp only [spec_PermValid.l0, show (i : Int) < (l.length : Int) by omega, show (0 : Int) ≤ i by omega, if_true, l6In_eq, Option.bind_some, hwl, hr, decide_true, and_self]; exact hin.2 hn
    · refine ⟨fun h => absurd ⟨(h i (Nat.le_refl _) hlt).1, by have := (h i (Nat.le_refl _) hlt).2.1; omega⟩ hr, fun h => Ev.s ?_⟩
      simp only [spec_PermValid.l0, show (i : Int) < (l.length : Int) by omega, show (0 : Int) ≤ i by omega, if_true, l6In_eq, Option.bind_some, hwl, hr, decide_false, Bool.false_eq_true, if_false]; exact Ev.const rfl
theorem implPerm_run (l : List Int) (hl : l.length ≤ 12) : ∀ (d i : Nat) (s : List Bool), l.length - i = d → i ≤ l.length → s.length = 12 → (∀ v : Nat, v < 12 → (s.getD v false = true ↔ ∃ k : Nat, k < i ∧ rd l k = v)) →
    ((∀ q : Nat, i ≤ q → q < l.length → okAt l q) → Ev (fun z => impl_PermValid.l0 z l s i) true) ∧
    (¬ (∀ q : Nat, i ≤ q → q < l.length → okAt l q) → Ev (fun z => impl_PermValid.l0 z l s i) false)
  | 0, i, s, hd, hi, hs, hv => by
    refine ⟨fun _ => Ev.s ?_, fun h => absurd (fun q h1 h2 => by omega) h⟩; simp only [impl_PermValid.l0, show ¬ (i : Int) < (l.length : Int) by omega, if_false]; exact Ev.const rfl
  | d + 1, i, s, hd, hi, hs, hv => by
    have hlt : i < l.length := by omega
    have hd1 : l.length - (i + 1) = d := by omega
    have hw : wrap64 ((i : Int) + 1) = ((i + 1 : Nat) : Int) := by rw [w64 (by omega) (by omega)]; omega
    by_cases h0 : rd l i < 0
    · refine ⟨fun h => absurd (h i (Nat.le_refl _) hlt).1 (by omega), fun h => Ev.s ?_⟩
      simp only [impl_PermValid.l0, show (i : Int) < (l.length : Int) by omega, show (0 : Int) ≤ i by omega, h0, if_true]; exact Ev.const rfl
    · by_cases h1 : rd l i ≥ (l.length : Int)
      · refine ⟨fun h => absurd (h i (Nat.le_refl _) hlt).2.1 (by omega), fun h => Ev.s ?_⟩
        simp only [impl_PermValid.l0, show (i : Int) < (l.length : Int) by omega, show (0 : Int) ≤ i by omega, h0, h1, if_true, if_false]; exact Ev.const rfl
      · have hvi := hv (rd l i).toNat (by omega)
        have hcast : (((rd l i).toNat : Nat) : Int) = rd l i := by omega
        rw [hcast] at hvi
        by_cases h2 : s.getD (rd l i).toNat false = true
        · obtain ⟨k, hk, hke⟩ := hvi.1 h2
          refine ⟨fun h => absurd hke ((h i (Nat.le_refl _) hlt).2.2 k hk), fun h => Ev.s ?_⟩; simp only [impl_PermValid.l0, show (i : Int) < (l.length : Int) by omega, show (0 : Int) ≤ i by omega, h0, h1, h2, if_true, if_false]; exact Ev.const rfl
        · have hnew : ∀ k : Nat, k < i → rd l k ≠ rd l i := fun k hk e => h2 (hvi.2 ⟨k, hk, e⟩)
          have ih := implPerm_run l hl d (i + 1) (s.set (rd l i).toNat true) hd1 hlt (by simpa using hs) (fun v hv12 => by
            by_cases ev : v = (rd l i).toNat
            · subst ev
              rw [List.getD_eq_getElem?_getD, List.getElem?_set_self (by omega)]; simp only [Option.getD_some, true_iff]; exact ⟨i, Nat.lt_succ_self i, hcast.symm⟩
            · rw [List.getD_eq_getElem?_getD, List.getElem?_set_ne (Ne.symm ev), ← List.getD_eq_getElem?_getD, hv v hv12]
              constructor
              · rintro ⟨k, hk, hke⟩; exact ⟨k, by omega, hke⟩
              · rintro ⟨k, hk, hke⟩
                by_cases e : k = i
                · subst e; omega
                · exact ⟨k, by omega, hke⟩)
          refine ⟨fun h => Ev.s ?_, fun h => Ev.s ?_⟩
          · simp only [impl_PermValid.l0, show (i : Int) < (l.length : Int) by omega, show (0 : Int) ≤ i by omega, h0, h1, h2, if_true, if_false, hw]
            exact ih.1 fun q g1 g2 => h q (by omega) g2
          · simp only [impl_PermValid.l0, show (i : Int) < (l.length : Int) by omega, show (0 : Int) ≤ i by omega, h0, h1, h2, if_true, if_false, hw]
            refine ih.2 fun h' => h fun q g1 g2 => ?_
            by_cases e : q = i
            · rw [e]; exact ⟨by omega, by omega, hnew⟩
            · exact h' q (by omega) g2
theorem permValid_both (l : List Int) (hl : l.length ≤ 1048576) : ∃ b : Bool, Ev (fun k => spec_PermValid.f k l) b ∧ Ev (fun k => impl_PermValid.f k l) b ∧ (b = true ↔ isPerm l) := by
  unfold spec_PermValid.f impl_PermValid.f
  have hs := specPerm_run l hl l.length 0 (by omega) (by omega)
  by_cases hall : ∀ q : Nat, 0 ≤ q → q < l.length → okAt l q
  · refine ⟨decide (1 ≤ (l.length : Int) ∧ (l.length : Int) ≤ 12), hs.1 hall, ?_, ?_⟩
    · by_cases h1 : (l.length : Int) < 1
      · simp only [h1, if_true]
        exact Ev.const z8_11
      · by_cases h2 : (l.length : Int) > 12
        · simp only [h1, h2, if_true, if_false]
          exact Ev.const z8_11
        · simp only [h1, h2, if_false]
          rw [decide_eq_true (by omega)]; refine (implPerm_run l (by omega) l.length 0 _ (by omega) (by omega) (by simp) fun v hv => ?_).1 hall
          constructor
          · intro h
            rw [List.getD_eq_getElem?_getD, List.getElem?_replicate, if_pos hv] at h
            cases h
          · rintro ⟨k, hk, _⟩; omega
    · rw [decide_eq_true_eq]
      exact ⟨fun h => ⟨by omega, by omega, fun i hi => hall i (by omega) hi⟩, fun h => ⟨by have := h.1; omega, by have := h.2.1; omega⟩⟩
  · refine ⟨false, hs.2 hall, ?_, ?_⟩
    · by_cases h1 : (l.length : Int) < 1
      · simp only [h1, if_true]; exact Ev.const rfl
      · by_cases h2 : (l.length : Int) > 12
        · simp only [h1, h2, if_true, if_false]; exact Ev.const rfl
        · simp only [h1, h2, if_false]
          refine (implPerm_run l (by omega) l.length 0 _ (by omega) (by omega) (by simp) fun v hv => ?_).2 hall
          constructor
          · intro h
            rw [List.getD_eq_getElem?_getD, List.getElem?_replicate, if_pos hv] at h
            cases h
          · rintro ⟨k, hk, _⟩; omega
    · exact ⟨fun h => (by cases h), fun h => absurd (fun q _ hq => h.2.2 q hq) hall⟩
def stl (n : Nat) : List Int := (List.range n).map fun (i : Nat) => (i : Int)
theorem stl_length (n : Nat) : (stl n).length = n := by simp [stl]
theorem stl_rd (n i : Nat) (h : i < n) : rd (stl n) i = i := by
  rw [rd_lt _ _ (by rw [stl_length]; exact h)]
  simp [stl]
theorem stl_succ (n : Nat) : stl (n + 1) = stl n ++ [(n : Int)] := by simp [stl, List.range_succ]
theorem rd_set_self (l : List Int) (i : Nat) (v : Int) (h : i < l.length) : rd (l.set i v) i = v := by
  rw [rd_lt _ _ (by simpa using h)]; simp
theorem rd_set_ne (l : List Int) (i j : Nat) (v : Int) (h : i ≠ j) : rd (l.set i v) j = rd l j := by
  unfold rd
  rw [Int.toNat_natCast, List.getD_eq_getElem?_getD, List.getD_eq_getElem?_getD, List.getElem?_set_ne h]
theorem rd_app_lt (l m : List Int) (i : Nat) (h : i < l.length) : rd (l ++ m) i = rd l i := by
  unfold rd
  rw [Int.toNat_natCast, List.getD_eq_getElem?_getD, List.getD_eq_getElem?_getD, List.getElem?_append_left h]
theorem list_ext (a b : List Int) (h : a.length = b.length) (hr : ∀ i : Nat, i < a.length → rd a i = rd b i) : a = b := by
  refine List.ext_getElem h fun i h1 h2 => ?_
  have := hr i h1
  rwa [rd_lt a i h1, rd_lt b i h2] at this
theorem same_run (n : Nat) (hn : n ≤ 1048576) : ∀ (d i : Nat), n - i = d → i ≤ n → Ev (fun k => spec_l1Same.l0 k n (stl i) i) (stl n)
  | 0, i, hd, hi => by
    refine Ev.s ?_; simp only [spec_l1Same.l0, show ¬ (i : Int) < (n : Int) by omega, if_false]
    have : i = n := by omega
    subst this; exact Ev.const rfl
  | d + 1, i, hd, hi => by
    refine Ev.s ?_; simp only [spec_l1Same.l0, show (i : Int) < (n : Int) by omega, if_true, stl_length, show i < 17592186044416 by omega]; rw [w64 (x := (i : Int) + 1) (by omega) (by omega), show ((i : Int) + 1) = ((i + 1 : Nat) : Int) by omega, ← stl_succ]; exact same_run n hn d (i + 1) (by omega) (by omega)
theorem same_ev (n : Nat) (hn : n ≤ 1048576) : Ev (fun k => spec_l1Same.f k n) (stl n) := by
  unfold spec_l1Same.f
  exact same_run n hn n 0 (by omega) (by omega)
theorem still_run (n : Nat) (hn : n ≤ 1048576) : ∀ (d i : Nat) (l : List Int), n - i = d → i ≤ n → l.length = n → l.take i = (stl n).take i → Ev (fun k => impl_still.l0 k l n i) (stl n)
  | 0, i, l, hd, hi, hl, ht => by
    refine Ev.s ?_; simp only [impl_still.l0, show ¬ (i : Int) < (n : Int) by omega, if_false]
    have : i = n := by omega
    subst this
    have e : (stl i).take i = stl i := by rw [List.take_of_length_le]; rw [stl_length]; exact Nat.le_refl _
    rw [e, List.take_of_length_le (by omega)] at ht; exact Ev.const (by rw [ht])
  | d + 1, i, l, hd, hi, hl, ht => by
    have hlt : i < l.length := by omega
    refine Ev.s ?_; simp only [impl_still.l0, show (i : Int) < (n : Int) by omega, show (0 : Int) ≤ i by omega, show (i : Int) < (l.length : Int) by omega, if_true]; rw [w64 (x := (i : Int) + 1) (by omega) (by omega), show ((i : Int) + 1) = ((i + 1 : Nat) : Int) by omega, Int.toNat_natCast]; refine still_run n hn d (i + 1) _ (by omega) (by omega) (by simpa using hl) ?_
    have h2 : i < (stl n).length := by rw [stl_length]; omega
    rw [List.take_succ_eq_append_getElem (by simpa using hlt), List.take_succ_eq_append_getElem h2, List.take_set_of_le (Nat.le_refl _), ht]
    simp [stl]
theorem still_ev (n : Nat) (hn : n ≤ 1048576) : Ev (fun k => impl_still.f k n) (stl n) := by
  unfold impl_still.f
  have h1 : n ≤ 35184372088832 := by omega
  have h2 : (0 : Int) ≤ (n : Int) := by omega
  simp only [Int.toNat_natCast, h1, h2, if_true, Option.bind_some, List.length_replicate]; exact still_run n hn n 0 _ (by omega) (by omega) (by simp) (by simp)
def inR (n : Nat) (p : List Int) : Prop := p.length = n ∧ ∀ i : Nat, i < n → 0 ≤ rd p i ∧ rd p i < n
def closedL (ps : List (List Int)) (n : Nat) (S : Nat → Prop) : Prop := ∀ p ∈ ps, ∀ k, k < n → (S k ↔ S (rd p k).toNat)
def Reach (ps : List (List Int)) (n : Nat) (i j : Nat) : Prop := ∀ S, closedL ps n S → (S i ↔ S j)
theorem Reach.refl (ps : List (List Int)) (n i : Nat) : Reach ps n i i := fun S _ => Iff.rfl
theorem Reach.symm {ps : List (List Int)} {n i j : Nat} (h : Reach ps n i j) : Reach ps n j i := fun S c => (h S c).symm
theorem Reach.trans {ps : List (List Int)} {n i j k : Nat} (h : Reach ps n i j) (h' : Reach ps n j k) : Reach ps n i k := fun S c => (h S c).trans (h' S c)
theorem Reach.step {ps : List (List Int)} {n : Nat} {p : List Int} (hp : p ∈ ps) {k : Nat} (hk : k < n) : Reach ps n k (rd p k).toNat := fun S c => c p hp k hk
def orbI (ps : List (List Int)) (n : Nat) (o : List Int) : Prop := o.length = n ∧ ∀ i : Nat, i < n → 0 ≤ rd o i ∧ rd o i ≤ i ∧ Reach ps n (rd o i).toNat i
def orbOk (ps : List (List Int)) (n : Nat) (o : List Int) : Prop := orbI ps n o ∧ ∀ p ∈ ps, ∀ i : Nat, i < n → rd o (rd p i) = rd o i
theorem stl_orbI (ps : List (List Int)) (n : Nat) : orbI ps n (stl n) := by
  refine ⟨stl_length n, fun i hi => ?_⟩; rw [stl_rd n i hi]; exact ⟨by omega, by omega, by rw [Int.toNat_natCast]; exact Reach.refl _ _ _⟩
theorem orbOk_const {ps : List (List Int)} {n : Nat} {o : List Int} (h : orbOk ps n o) (hp : ∀ p ∈ ps, inR n p) {i j : Nat} (hr : Reach ps n i j) : rd o i = rd o j := by
  have := hr (fun k => rd o k = rd o i) (fun p hp' k hk => by
    have h1 := h.2 p hp' k hk; have h2 := (hp p hp').2 k hk
    have e : (((rd p k).toNat : Nat) : Int) = rd p k := by omega
    show (rd o k = rd o i) ↔ (rd o (((rd p k).toNat : Nat) : Int) = rd o i)
    rw [e, h1])
  exact (this.1 rfl).symm
theorem orbOk_le {ps : List (List Int)} {n : Nat} {o o' : List Int} (h : orbOk ps n o) (h' : orbI ps n o') (hp : ∀ p ∈ ps, inR n p) {i : Nat} (hi : i < n) : rd o i ≤ rd o' i := by
  obtain ⟨g0, g1, g2⟩ := h'.2 i hi; have e := orbOk_const h hp g2
  have hlt : (rd o' i).toNat < n := by omega
  have := (h.1.2 _ hlt).2.1
  have e2 : (((rd o' i).toNat : Nat) : Int) = rd o' i := by omega
  omega
theorem mn_le (a b : Int) : mn a b ≤ a ∧ mn a b ≤ b ∧ (mn a b = a ∨ mn a b = b) := by unfold mn; split <;> omega
theorem orbI_put {ps : List (List Int)} {n : Nat} {o : List Int} (h : orbI ps n o) {i : Nat} (hi : i < n) {v : Int} (h0 : 0 ≤ v) (h1 : v ≤ i) (hr : Reach ps n v.toNat i) : orbI ps n (o.set i v) := by
  refine ⟨by simpa using h.1, fun j hj => ?_⟩
  by_cases e : i = j
  · subst e
    rw [rd_set_self _ _ _ (by rw [h.1]; exact hi)]; exact ⟨h0, h1, hr⟩
  · rw [rd_set_ne _ _ _ _ e]
    exact h.2 j hj
def tot : List Int → Int
  | [] => 0
  | x :: xs => x + tot xs
theorem tot_set : ∀ (l : List Int) (i : Nat) (v : Int), i < l.length → tot (l.set i v) + rd l i = tot l + v
  | [], i, v, h => by simp at h
  | x :: xs, 0, v, h => by simp [tot, rd]; omega
  | x :: xs, i + 1, v, h => by
    have ih := tot_set xs i v (by simpa using h)
    have e : rd (x :: xs) ((i + 1 : Nat) : Int) = rd xs i := by unfold rd; rw [Int.toNat_natCast, Int.toNat_natCast]; rfl
    rw [e]; simp only [List.set_cons_succ, tot]; omega
theorem tot_nonneg : ∀ (l : List Int), (∀ i : Nat, i < l.length → 0 ≤ rd l i) → 0 ≤ tot l
  | [], _ => by simp [tot]
  | x :: xs, h => by
    have h0 := h 0 (by simp); have e0 : rd (x :: xs) ((0 : Nat) : Int) = x := rfl; rw [e0] at h0
    have := tot_nonneg xs fun i hi => by
      have := h (i + 1) (by simpa using hi)
      have e : rd (x :: xs) ((i + 1 : Nat) : Int) = rd xs i := by unfold rd; rw [Int.toNat_natCast, Int.toNat_natCast]; rfl
      rwa [e] at this
    simp only [tot]; omega
theorem rdL_nth (ps : List (List Int)) (q : Nat) (h : q < ps.length) : rd_L1 ps (q : Int) = ps[q] := by
  have e : (q : Int).toNat = q := Int.toNat_natCast q
  unfold rd_L1
  rw [e, List.getD_eq_getElem?_getD, List.getElem?_eq_getElem h]; rfl
theorem implOrb_in (ps : List (List Int)) (n : Nat) (hn : n ≤ 12) (q : Nat) (hq : q < ps.length) (hL : ps.length ≤ 1048576) (P : List Int) (hP : P ∈ ps) (pl : P.length = n) (pr : ∀ i : Nat, i < n → 0 ≤ rd P i ∧ rd P i < n) : ∀ (d i : Nat) (o : List Int) (g : Bool), n - i = d → i ≤ n → orbI ps n o →
    ∃ (o' : List Int) (g' : Bool), orbI ps n o' ∧ (∀ r, Ev (fun k => impl_orbits.l1 k ps o' g' ps ps.length ((q + 1 : Nat) : Int)) r → Ev (fun k => impl_orbits.l2 k ps o g ps ps.length q P n i) r) ∧ tot o' ≤ tot o ∧
      (g' = true → g = true ∨ tot o' < tot o) ∧ (g' = false → g = false ∧ o' = o ∧ ∀ j : Nat, i ≤ j → j < n → rd o (rd P j) = rd o j)
  | 0, i, o, g, hd, hi, ho => by
    refine ⟨o, g, ho, fun r h => Ev.s ?_, by omega, fun h => .inl h, fun h => ⟨h, rfl, fun j h1 h2 => by omega⟩⟩; simp only [impl_orbits.l2, show ¬ (i : Int) < (n : Int) by omega, if_false]; rw [w64 (x := (q : Int) + 1) (by omega) (by omega), show ((q : Int) + 1) = ((q + 1 : Nat) : Int) by omega]; exact h
  | d + 1, i, o, g, hd, hi, ho => by
    have hlt : i < n := by omega
    have hd1 : n - (i + 1) = d := by omega
    have hw : wrap64 ((i : Int) + 1) = ((i + 1 : Nat) : Int) := by rw [w64 (by omega) (by omega)]; omega
    have hr := pr i hlt; have hst := Reach.step hP hlt; have hlen := ho.1; obtain ⟨t, ht⟩ : ∃ t : Nat, rd P i = t := ⟨(rd P i).toNat, by omega⟩; rw [ht, Int.toNat_natCast] at hst
    have htn : t < n := by omega
    obtain ⟨i0, i1, i2⟩ := ho.2 i hlt; obtain ⟨t0, t1, t2⟩ := ho.2 t htn; obtain ⟨hm1, hm2, hm3⟩ := mn_le (rd o i) (rd o t)
    have g1 : (i : Int) < (n : Int) := by omega
    have g2 : (0 : Int) ≤ (i : Int) := by omega
    have g3 : (0 : Int) ≤ (t : Int) := by omega
    have g4 : (t : Int) < (n : Int) := by omega
    obtain ⟨v, hv⟩ : ∃ v, mn (rd o i) (rd o t) = v := ⟨_, rfl⟩; rw [hv] at hm1 hm2 hm3
    by_cases hc : rd o i = v ∧ rd o t = v
    · obtain ⟨c1, c2⟩ := hc
      obtain ⟨o', g', a1, a2, a3, a4, a5⟩ := implOrb_in ps n hn q hq hL P hP pl pr d (i + 1) o g hd1 hlt ho; refine ⟨o', g', a1, fun r h => Ev.s ?_, a3, a4, fun h => ?_⟩
      · simp only [impl_orbits.l2, g1, g2, g3, g4, pl, hlen, ht, hv, if_true, hw]
        simp only [c1, c2, if_true]; exact a2 r h
      · obtain ⟨b1, b2, b3⟩ := a5 h
        refine ⟨b1, b2, fun j h1 h2 => ?_⟩
        by_cases e : j = i
        · rw [e, ht]; omega
        · exact b3 j (by omega) h2
    · have hv0 : 0 ≤ v := by omega
      have hrv : Reach ps n v.toNat i := by
        rcases hm3 with e | e
        · rw [e]; exact i2
        · rw [e]; exact t2.trans hst.symm
      have ho1 := orbI_put ho hlt hv0 (by omega) hrv; have ho2 := orbI_put ho1 htn hv0 (by omega) (hrv.trans hst)
      have hd2 : tot ((o.set i v).set t v) < tot o := by
        have z1 := tot_set o i v (by omega); have z2 := tot_set (o.set i v) t v (by rw [List.length_set]; omega)
        by_cases e : i = t
        · subst e
          rw [rd_set_self _ _ _ (by omega)] at z2; omega
        · rw [rd_set_ne _ _ _ _ e] at z2
          omega
      obtain ⟨o', g', a1, a2, a3, a4, a5⟩ := implOrb_in ps n hn q hq hL P hP pl pr d (i + 1) ((o.set i v).set t v) true hd1 hlt ho2; refine ⟨o', g', a1, fun r h => Ev.s ?_, by omega, fun h => .inr (by omega), fun h => ?_⟩
      · have hgo := a2 r h
        by_cases c1 : rd o i = v
        · have c2 : ¬ rd o t = v := fun e => hc ⟨c1, e⟩
          simp only [impl_orbits.l2, g1, g2, g3, g4, pl, hlen, ht, hv, if_true, hw, Int.toNat_natCast]; simp only [c1, c2, if_true, if_false]; exact hgo
        · simp only [impl_orbits.l2, g1, g2, g3, g4, pl, hlen, ht, hv, if_true, hw, Int.toNat_natCast]
          simp only [c1, if_false]; exact hgo
      · have := (a5 h).1
        cases this
theorem implOrb_pass (ps : List (List Int)) (n : Nat) (hn : n ≤ 12) (hL : ps.length ≤ 1048576) (hp : ∀ p ∈ ps, inR n p) : ∀ (d q : Nat) (o : List Int) (g : Bool), ps.length - q = d → q ≤ ps.length → orbI ps n o →
    ∃ (o' : List Int) (g' : Bool), orbI ps n o' ∧ (∀ r, Ev (fun k => impl_orbits.l0 k ps o' g') r → Ev (fun k => impl_orbits.l1 k ps o g ps ps.length q) r) ∧ tot o' ≤ tot o ∧
      (g' = true → g = true ∨ tot o' < tot o) ∧ (g' = false → g = false ∧ o' = o ∧ ∀ z : Nat, q ≤ z → z < ps.length → ∀ j : Nat, j < n → rd o (rd (rd_L1 ps z) j) = rd o j)
  | 0, q, o, g, hd, hi, ho => by
    refine ⟨o, g, ho, fun r h => Ev.s ?_, by omega, fun h => .inl h, fun h => ⟨h, rfl, fun j h1 h2 => by omega⟩⟩; simp only [impl_orbits.l1, show ¬ (q : Int) < (ps.length : Int) by omega, if_false]; exact h
  | d + 1, q, o, g, hd, hi, ho => by
    have hlt : q < ps.length := by omega
    have hd1 : ps.length - (q + 1) = d := by omega
    have hP : rd_L1 ps q ∈ ps := by rw [rdL_nth ps q hlt]; exact List.getElem_mem hlt
    obtain ⟨pl, pr⟩ := hp _ hP; obtain ⟨o1, b1, c1, c2, c3, c4, c5⟩ := implOrb_in ps n hn q hlt hL _ hP pl pr n 0 o g (by omega) (by omega) ho; obtain ⟨o2, b2, e1, e2, e3, e4, e5⟩ := implOrb_pass ps n hn hL hp d (q + 1) o1 b1 hd1 hlt c1; refine ⟨o2, b2, e1, fun r h => Ev.s ?_, by omega, fun h => ?_, fun h => ?_⟩
    · simp only [impl_orbits.l1, show (q : Int) < (ps.length : Int) by omega, show (0 : Int) ≤ (q : Int) by omega, if_true, pl]
      exact c2 r (e2 r h)
    · rcases e4 h with z | z
      · rcases c4 z with y | y
        · exact .inl y
        · exact .inr (by omega)
      · exact .inr (by omega)
    · obtain ⟨f1, f2, f3⟩ := e5 h
      obtain ⟨g1, g2, g3⟩ := c5 f1; refine ⟨g1, f2.trans g2, fun z hz hz' j hj => ?_⟩
      by_cases e : z = q
      · rw [e]; exact g3 j (by omega) hj
      · have := f3 z (by omega) hz' j hj
        rwa [g2] at this
theorem implOrb_loop (ps : List (List Int)) (n : Nat) (hn : n ≤ 12) (hL : ps.length ≤ 1048576) (hp : ∀ p ∈ ps, inR n p) : ∀ (m : Nat) (o : List Int), tot o ≤ m → orbI ps n o → ∃ o', orbOk ps n o' ∧ Ev (fun k => impl_orbits.l0 k ps o true) o' := by
  intro m
  induction m using Nat.strongRecOn with
  | _ m ih =>
    intro o hm ho; obtain ⟨o1, g1, c1, c2, c3, c4, c5⟩ := implOrb_pass ps n hn hL hp ps.length 0 o false (by omega) (by omega) ho
    cases g1 with
    | false =>
      obtain ⟨_, e2, e3⟩ := c5 rfl; refine ⟨o, ⟨ho, fun p hp' i hi => ?_⟩, Ev.s ?_⟩
      · obtain ⟨z, hz, rfl⟩ := List.mem_iff_getElem.1 hp'
        have := e3 z (by omega) hz i hi
        rwa [rdL_nth ps z hz] at this
      · simp only [impl_orbits.l0, if_true]
        refine c2 o (Ev.s ?_); simp only [impl_orbits.l0, Bool.false_eq_true, if_false]; exact Ev.const (by rw [e2])
    | true =>
      have hlt : tot o1 < tot o := by
        rcases c4 rfl with z | z
        · cases z
        · exact z
      have h0 := tot_nonneg o1 fun i hi => (c1.2 i (by rw [← c1.1]; exact hi)).1
      obtain ⟨o', h1, h2⟩ := ih (tot o1).toNat (by omega) o1 (by omega) c1; refine ⟨o', h1, Ev.s ?_⟩; simp only [impl_orbits.l0, if_true]; exact c2 o' h2
theorem implOrb_ev (ps : List (List Int)) (n : Nat) (hn : n ≤ 12) (h0 : 0 < ps.length) (hL : ps.length ≤ 1048576) (hp : ∀ p ∈ ps, inR n p) : ∃ o, orbOk ps n o ∧ Ev (fun k => impl_orbits.f k ps) o := by
  obtain ⟨o, h1, h2⟩ := implOrb_loop ps n hn hL hp (tot (stl n)).toNat (stl n) (by have := tot_nonneg (stl n) (fun i hi => by rw [stl_rd n i (by rwa [stl_length] at hi)]; omega); omega) (stl_orbI ps n); refine ⟨o, h1, ?_⟩
  unfold impl_orbits.f
  have hz : (rd_L1 ps 0).length = n := by
    have := rdL_nth ps 0 h0; rw [show ((0 : Nat) : Int) = 0 from rfl] at this; rw [this]; exact (hp _ (List.getElem_mem h0)).1
  simp only [show (0 : Int) < (ps.length : Int) by omega, if_true, hz]; exact Ev.bind (still_ev n (by omega)) h2
def lag (o g : List Int) : Nat → Nat
  | 0 => 0
  | i + 1 => (if rd o i = rd g i then 0 else 1) + lag o g i
theorem lag_le (o g : List Int) : ∀ i, lag o g i ≤ i
  | 0 => Nat.le_refl _
  | i + 1 => by have := lag_le o g i; simp only [lag]; split <;> omega
theorem lag_zero (o g : List Int) : ∀ n, lag o g n = 0 → ∀ i, i < n → rd o i = rd g i
  | 0, _, i, h => by omega
  | n + 1, hz, i, h => by
    simp only [lag] at hz
    by_cases e : i = n
    · subst e
      by_cases c : rd o i = rd g i
      · exact c
      · rw [if_neg c] at hz; omega
    · exact lag_zero o g n (by omega) i (by omega)
theorem lag_mono (o o' g : List Int) (h : ∀ i : Nat, rd o i = rd g i → rd o' i = rd g i) : ∀ n, lag o' g n ≤ lag o g n
  | 0 => Nat.le_refl _
  | n + 1 => by
    have ih := lag_mono o o' g h n; simp only [lag]
    by_cases c : rd o n = rd g n
    · rw [if_pos c, if_pos (h n c)]; omega
    · rw [if_neg c]; split <;> omega
theorem lag_lt (o o' g : List Int) (h : ∀ i : Nat, rd o i = rd g i → rd o' i = rd g i) (z : Nat) (hz : rd o z ≠ rd g z) (hz' : rd o' z = rd g z) : ∀ n, z < n → lag o' g n < lag o g n
  | 0, hn => by omega
  | n + 1, hn => by
    simp only [lag]
    by_cases e : z = n
    · subst e
      have := lag_mono o o' g h z; rw [if_neg hz, if_pos hz']; omega
    · have ih := lag_lt o o' g h z hz hz' n (by omega)
      by_cases c : rd o n = rd g n
      · rw [if_pos c, if_pos (h n c)]; omega
      · rw [if_neg c]; split <;> omega
theorem mn_eq (a b : Int) : mn a b = if a ≤ b then a else b := by unfold mn; split <;> split <;> omega
theorem specOrb_sweep (t f : List Int) (n : Nat) (hn : n ≤ 12) (ht : inR n t) (hf : inR n f) (g : List Int) (hg : orbOk [t, f] n g) (round : Int) : ∀ (d i : Nat) (o : List Int), n - i = d → i ≤ n → orbI [t, f] n o →
    ∃ o', orbI [t, f] n o' ∧ (∀ r, Ev (fun k => spec_l1Orbits.l0 k t f o' (wrap64 (round + 1))) r → Ev (fun k => spec_l1Orbits.l1 k t f o round i) r) ∧ (∀ z : Nat, z < n → rd o z = rd g z → rd o' z = rd g z) ∧
      (∀ j : Nat, i ≤ j → j < n → (rd o j = rd g j ∨ rd o (rd t j) = rd g (rd t j) ∨ rd o (rd f j) = rd g (rd f j)) → rd o' j = rd g j ∧ rd o' (rd t j) = rd g (rd t j) ∧ rd o' (rd f j) = rd g (rd f j))
  | 0, i, o, hd, hi, ho => by
    refine ⟨o, ho, fun r h => Ev.s ?_, fun z _ h => h, fun j h1 h2 => by omega⟩; simp only [spec_l1Orbits.l1, ht.1, show ¬ (i : Int) < (n : Int) by omega, if_false]; exact h
  | d + 1, i, o, hd, hi, ho => by
    have hlt : i < n := by omega
    have hd1 : n - (i + 1) = d := by omega
    have hw : wrap64 ((i : Int) + 1) = ((i + 1 : Nat) : Int) := by rw [w64 (by omega) (by omega)]; omega
    have hps : ∀ p ∈ [t, f], inR n p := by intro p hp; simp at hp; rcases hp with rfl | rfl <;> assumption
    have hra := ht.2 i hlt; have hrb := hf.2 i hlt; have sta := Reach.step (ps := [t, f]) (p := t) (by simp) hlt; have stb := Reach.step (ps := [t, f]) (p := f) (by simp) hlt; have ca := hg.2 t (by simp) i hlt; have cb := hg.2 f (by simp) i hlt; obtain ⟨a, hta⟩ : ∃ a : Nat, rd t i = a := ⟨(rd t i).toNat, by omega⟩; obtain ⟨b, hfb⟩ : ∃ b : Nat, rd f i = b := ⟨(rd f i).toNat, by omega⟩; rw [hta, Int.toNat_natCast] at sta; rw [hfb, Int.toNat_natCast] at stb; rw [hta] at ca; rw [hfb] at cb
    have han : a < n := by omega
    have hbn : b < n := by omega
    have hlen := ho.1; obtain ⟨i0, i1, i2⟩ := ho.2 i hlt; obtain ⟨a0, a1, a2⟩ := ho.2 a han; obtain ⟨b0, b1, b2⟩ := ho.2 b hbn; have li := orbOk_le hg ho hps hlt; have la := orbOk_le hg ho hps han; have lb := orbOk_le hg ho hps hbn; obtain ⟨v, hv⟩ : ∃ v, mn (rd o i) (mn (rd o a) (rd o b)) = v := ⟨_, rfl⟩
    have hvm : v ≤ rd o i ∧ v ≤ rd o a ∧ v ≤ rd o b ∧ (v = rd o i ∨ v = rd o a ∨ v = rd o b) := by
      rw [← hv, mn_eq, mn_eq]
      split <;> split at * <;> omega
    have hv0 : 0 ≤ v := by omega
    have hrv : Reach [t, f] n v.toNat i := by
      rcases hvm.2.2.2 with e | e | e
      · rw [e]; exact i2
      · rw [e]; exact a2.trans sta.symm
      · rw [e]; exact b2.trans stb.symm
    have ho1 := orbI_put ho hlt hv0 (by omega) hrv; have ho2 := orbI_put ho1 han hv0 (by omega) (hrv.trans sta); have ho3 := orbI_put ho2 hbn hv0 (by omega) (hrv.trans stb); obtain ⟨o3, ho3e⟩ : ∃ o3, ((o.set i v).set a v).set b v = o3 := ⟨_, rfl⟩; rw [ho3e] at ho3
    have rdo3 : ∀ z : Nat, rd o3 z = if z = i ∨ z = a ∨ z = b then v else rd o z := by
      intro z; rw [← ho3e]
      by_cases z3 : b = z
      · subst z3; rw [rd_set_self _ _ _ (by simp; omega)]; simp
      · rw [rd_set_ne _ _ _ _ z3]
        by_cases z2 : a = z
        · subst z2; rw [rd_set_self _ _ _ (by simp; omega)]; simp
        · rw [rd_set_ne _ _ _ _ z2]
          by_cases z1 : i = z
          · subst z1; rw [rd_set_self _ _ _ (by omega)]; simp
          · rw [rd_set_ne _ _ _ _ z1, if_neg (by omega)]
    have keep3 : ∀ z : Nat, z < n → rd o z = rd g z → rd o3 z = rd g z := by
      intro z hz e; have l3 := orbOk_le hg ho3 hps hz; rw [rdo3 z] at l3 ⊢
      by_cases c : z = i ∨ z = a ∨ z = b
      · rw [if_pos c] at l3 ⊢
        have : v ≤ rd o z := by rcases c with rfl | rfl | rfl <;> omega
        omega
      · rw [if_neg c]; exact e
    obtain ⟨o', c1, c2, c3, c4⟩ := specOrb_sweep t f n hn ht hf g hg round d (i + 1) o3 hd1 hlt ho3; refine ⟨o', c1, fun r h => Ev.s ?_, fun z hz e => c3 z hz (keep3 z hz e), fun j h1 h2 hj => ?_⟩
    · have hgo := c2 r h
      have g1 : (i : Int) < (n : Int) := by omega
      have g2 : (0 : Int) ≤ (i : Int) := by omega
      have g3 : (0 : Int) ≤ (a : Int) := by omega
      have g4 : (a : Int) < (n : Int) := by omega
      have g5 : (0 : Int) ≤ (b : Int) := by omega
      have g6 : (b : Int) < (n : Int) := by omega
      simp only [spec_l1Orbits.l1, ht.1, hf.1, hlen, g1, g2, g3, g4, g5, g6, hta, hfb, hv, if_true, hw, Int.toNat_natCast, ho3e]; exact hgo
    · by_cases e : j = i
      · subst e
        have l3 := orbOk_le hg ho3 hps hlt
        have e3 : rd o3 j = v := by rw [rdo3 j, if_pos (.inl rfl)]
        have ea3 : rd o3 a = v := by rw [rdo3 a, if_pos (.inr (.inl rfl))]
        have eb3 : rd o3 b = v := by rw [rdo3 b, if_pos (.inr (.inr rfl))]
        rw [hta, hfb] at hj ⊢
        have hvg : v = rd g j := by
          rcases hj with z | z | z <;> omega
        exact ⟨c3 j hlt (by omega), c3 a han (by omega), c3 b hbn (by omega)⟩
      · refine c4 j (by omega) h2 ?_
        have hta' := ht.2 j h2; have hfb' := hf.2 j h2; obtain ⟨a', ha'⟩ : ∃ a' : Nat, rd t j = a' := ⟨(rd t j).toNat, by omega⟩; obtain ⟨b', hb'⟩ : ∃ b' : Nat, rd f j = b' := ⟨(rd f j).toNat, by omega⟩; rw [ha', hb'] at hj ⊢
        rcases hj with z | z | z
        · exact .inl (keep3 j h2 z)
        · exact .inr (.inl (keep3 a' (by omega) z))
        · exact .inr (.inr (keep3 b' (by omega) z))
theorem specOrb_loop (t f : List Int) (n : Nat) (hn : n ≤ 12) (ht : inR n t) (hf : inR n f) (g : List Int) (hg : orbOk [t, f] n g) : ∀ (d i : Nat) (o : List Int), n - i = d → i ≤ n → orbI [t, f] n o → lag o g n ≤ d → Ev (fun k => spec_l1Orbits.l0 k t f o i) g
  | 0, i, o, hd, hi, ho, hl => by
    refine Ev.s ?_; simp only [spec_l1Orbits.l0, ht.1, show ¬ (i : Int) < (n : Int) by omega, if_false]
    have : o = g := list_ext o g (ho.1.trans hg.1.1.symm) fun z hz => lag_zero o g n (by omega) z (by rw [← ho.1]; exact hz)
    exact Ev.const (by rw [this])
  | d + 1, i, o, hd, hi, ho, hl => by
    have hlt : i < n := by omega
    have hd1 : n - (i + 1) = d := by omega
    have hw : wrap64 ((i : Int) + 1) = ((i + 1 : Nat) : Int) := by rw [w64 (by omega) (by omega)]; omega
    have hps : ∀ p ∈ [t, f], inR n p := by intro p hp; simp at hp; rcases hp with rfl | rfl <;> assumption
    obtain ⟨o', c1, c2, c3, c4⟩ := specOrb_sweep t f n hn ht hf g hg i n 0 o (by omega) (by omega) ho; refine Ev.s ?_; simp only [spec_l1Orbits.l0, ht.1, show (i : Int) < (n : Int) by omega, if_true]; refine c2 g ?_; rw [hw]; refine specOrb_loop t f n hn ht hf g hg d (i + 1) o' hd1 hlt c1 ?_
    have hout : ∀ z : Nat, ¬ z < n → rd o z = rd o' z := by
      intro z hz
      unfold rd
      rw [Int.toNat_natCast, List.getD_eq_getElem?_getD, List.getD_eq_getElem?_getD, List.getElem?_eq_none (by rw [ho.1]; omega), List.getElem?_eq_none (by rw [c1.1]; omega)]
    have keep : ∀ z : Nat, rd o z = rd g z → rd o' z = rd g z := fun z e => by
      by_cases hz : z < n
      · exact c3 z hz e
      · rw [← hout z hz]; exact e
    by_cases hz : lag o g n = 0
    · have := lag_mono o o' g keep n
      omega
    · -- some point has not its label: some step leads from one that has it to one that has it not
      have hex : ∃ z : Nat, z < n ∧ rd o z ≠ rd g z ∧ rd o' z = rd g z := by
        refine Classical.byContradiction fun hno => ?_
        have hsame : ∀ z : Nat, z < n → (rd o z = rd g z ↔ rd o' z = rd g z) := fun z hz => ⟨keep z, fun e => Classical.byContradiction fun hne => hno ⟨z, hz, hne, e⟩⟩
        have hcl : closedL [t, f] n (fun z => rd o z = rd g z) := by
          intro p hp k hk; have hr := (hps p hp).2 k hk; obtain ⟨a, ha⟩ : ∃ a : Nat, rd p k = a := ⟨(rd p k).toNat, by omega⟩
          have han : a < n := by omega
          rw [ha, Int.toNat_natCast]
          show rd o k = rd g k ↔ rd o a = rd g a
          have h4 := c4 k (by omega) hk
          simp at hp
          rcases hp with rfl | rfl
          · rw [ha] at h4
            exact ⟨fun e => (hsame a han).2 (h4 (.inl e)).2.1, fun e => (hsame k hk).2 (h4 (.inr (.inl e))).1⟩
          · rw [ha] at h4
            exact ⟨fun e => (hsame a han).2 (h4 (.inl e)).2.2, fun e => (hsame k hk).2 (h4 (.inr (.inr e))).1⟩
        have hall : ∀ z : Nat, z < n → rd o z = rd g z := by
          intro z hz; obtain ⟨g0, g1, g2⟩ := hg.1.2 z hz
          have hm : (rd g z).toNat < n := by omega
          have e1 : ((rd g z).toNat : Int) = rd g z := by omega
          have hgm : rd g ((rd g z).toNat : Nat) = rd g z := orbOk_const hg hps g2
          have hom : rd o ((rd g z).toNat : Nat) = rd g ((rd g z).toNat : Nat) := by
            have h1 := orbOk_le hg ho hps hm; have h2 := (ho.2 _ hm).2.1; omega
          exact (g2 _ hcl).1 hom
        have : lag o g n = 0 := by
          have hz0 : ∀ m, m ≤ n → lag o g m = 0 := by
            intro m
            induction m with
            | zero => intro _; rfl
            | succ m ih => intro hm; simp only [lag]; rw [if_pos (hall m (by omega)), ih (by omega)]
          exact hz0 n (Nat.le_refl _)
        exact hz this
      obtain ⟨z, z1, z2, z3⟩ := hex; have := lag_lt o o' g keep z z2 z3 n z1; omega
theorem orb_both (t f : List Int) (n : Nat) (hn : n ≤ 12) (h1 : 1 ≤ n) (ht : inR n t) (hf : inR n f) : ∃ o, orbOk [t, f] n o ∧ Ev (fun k => spec_l1Orbits.f k t f) o ∧ Ev (fun k => impl_orbits.f k [t, f]) o := by
  have hps : ∀ p ∈ [t, f], inR n p := by intro p hp; simp at hp; rcases hp with rfl | rfl <;> assumption
  obtain ⟨o, ho, he⟩ := implOrb_ev [t, f] n hn (by simp) (by simp) hps; refine ⟨o, ho, ?_, he⟩
  unfold spec_l1Orbits.f
  rw [ht.1]; refine Ev.bind (same_ev n (by omega)) ?_; refine specOrb_loop t f n hn ht hf o ho n 0 (stl n) (by omega) (by omega) (stl_orbI _ n) ?_; exact lag_le _ _ n
theorem isPerm_inR (l : List Int) (h : isPerm l) : inR l.length l := ⟨rfl, fun i hi => ⟨(h.2.2 i hi).1, (h.2.2 i hi).2.1⟩⟩
end Go.Proofs.Ytlpbalebodlipaa.PK

namespace Go.Proofs.Ytlpbalebodlipaa.PK
open Go.RowKit Go.Proofs.YtlpbalebodlipaaW.PrintWords Go.Proofs.YtlpbalebodlipaaW.PrintLast Go.Proofs.YtlpbalebodlipaaW.PrintMore
attribute [local go_sem] max2_int min2_int max_two min_two max_three min_three max_four min_four   -- for this text's walks alone
set_option linter.unusedVariables false
set_option linter.unusedSimpArgs false
def spec_l1Mul.l0 : Nat → List Int → List Int → List Int → Int → Option (List Int)
 | 0, _, _, _, _ => none
 | k + 1, x0, x1, x5, x6 => if x6 < (x0.length : Int) then (if 0 ≤ x6 then (if 0 ≤ (rd x0 x6) then (if (rd x0 x6) < (x1.length : Int) then (if x5.length < 17592186044416 then (spec_l1Mul.l0 k x0 x1 (x5 ++ [rd x1 (rd x0 x6)]) (wrap64 (x6 + 1))) else (none)) else (none)) else (none)) else (none)) else (some x5)
def spec_l1Mul.f (k : Nat) (l0 : List Int) (l1 : List Int) : Option (List Int) := spec_l1Mul.l0 k l0 l1 (([] : List Int)) 0
theorem spec_l1Mul.mono_l : ∀ k, (∀ y0 y1 y2 y3, LeO (spec_l1Mul.l0 k y0 y1 y2 y3) (spec_l1Mul.l0 (k + 1) y0 y1 y2 y3))
 | 0 => fun _ _ _ _ r h => by simp [spec_l1Mul.l0] at h
 | k + 1 => by
  have ih0 := spec_l1Mul.mono_l k
  ·
   intro y0 y1 y2 y3
   unfold spec_l1Mul.l0
   repeat' first
   | (with_reducible exact ih0 _ _ _ _)
   | (with_reducible exact LeO.refl _)
   | (with_reducible exact LeO.none _)
   | (with_reducible refine LeO.ite ?_ ?_)
   | (with_reducible refine LeO.bind ?_ (fun _ => ?_))
   | exact ih0 _ _ _ _
   | exact LeO.none _
   | refine LeO.ite ?_ ?_
   | refine LeO.bind ?_ (fun _ => ?_)
theorem spec_l1Mul.mono : ∀ a0 a1 k, LeO (spec_l1Mul.f k a0 a1) (spec_l1Mul.f (k + 1) a0 a1) := by
 intro a0 a1 k; have ih0 := spec_l1Mul.mono_l k
 unfold spec_l1Mul.f
 repeat' first
   | (with_reducible exact ih0 _ _ _ _)
   | (with_reducible exact LeO.refl _)
   | (with_reducible exact LeO.none _)
   | (with_reducible refine LeO.ite ?_ ?_)
   | (with_reducible refine LeO.bind ?_ (fun _ => ?_))
   | exact ih0 _ _ _ _
   | exact LeO.none _
   | refine LeO.ite ?_ ?_
   | refine LeO.bind ?_ (fun _ => ?_)
def spec_l2Faces.f (k : Nat) (l0_0 : List Int) (l0_1 : List Int) : Option (List Int) := (spec_l1Mul.f k l0_1 l0_0).bind fun t848 => (some t848)
theorem spec_l2Faces.mono : ∀ a0 a1 k, LeO (spec_l2Faces.f k a0 a1) (spec_l2Faces.f (k + 1) a0 a1) := by
 intro a0 a1 k
 unfold spec_l2Faces.f
 repeat' first
   | (with_reducible exact spec_l1Mul.mono _ _ _)
   | (with_reducible exact LeO.refl _)
   | (with_reducible exact LeO.none _)
   | (with_reducible refine LeO.ite ?_ ?_)
   | (with_reducible refine LeO.bind ?_ (fun _ => ?_))
   | exact spec_l1Mul.mono _ _ _
   | exact LeO.none _
   | refine LeO.ite ?_ ?_
   | refine LeO.bind ?_ (fun _ => ?_)
mutual
def spec_l1Cycles.l0 : Nat → List Int → List (List Int) → List Bool → Int → Option ((List (List Int)))
 | 0, _, _, _, _ => none
 | k + 1, x0, x3, x4, x5 => if x5 < (x0.length : Int) then (if 0 ≤ x5 then (if x5 < (x4.length : Int) then (if rdOf false x4 x5 = true then (spec_l1Cycles.l0 k x0 x3 x4 (wrap64 (x5 + 1))) else (spec_l1Cycles.l1 k x0 x3 x4 x5 (([] : List Int)) x5)) else (none)) else (none)) else (some x3)
def spec_l1Cycles.l1 : Nat → List Int → List (List Int) → List Bool → Int → List Int → Int → Option ((List (List Int)))
 | 0, _, _, _, _, _, _ => none
 | k + 1, x0, x3, x4, x5, x6, x7 => if 0 ≤ x7 then (if x7 < (x4.length : Int) then (if rdOf false x4 x7 = true then (if x3.length < 5864062014805 then (spec_l1Cycles.l0 k x0 (x3 ++ [x6]) x4 (wrap64 (x5 + 1))) else (none)) else (if x6.length < 17592186044416 then (if x7 < (x0.length : Int) then (spec_l1Cycles.l1 k x0 x3 (x4.set (x7 : Int).toNat true) x5 (x6 ++ [x7]) (rd x0 x7)) else (none)) else (none))) else (none)) else (none)
end
def spec_l1Cycles.f (k : Nat) (l0 : List Int) : Option ((List (List Int))) := if 0 ≤ (l0.length : Int) then (if ((l0.length : Int) : Int).toNat ≤ 281474976710656 then (spec_l1Cycles.l0 k l0 (([] : List (List Int))) (List.replicate ((l0.length : Int) : Int).toNat false) 0) else (none)) else (none)
theorem spec_l1Cycles.mono_l : ∀ k, (∀ y0 y1 y2 y3, LeO (spec_l1Cycles.l0 k y0 y1 y2 y3) (spec_l1Cycles.l0 (k + 1) y0 y1 y2 y3)) ∧ (∀ y0 y1 y2 y3 y4 y5, LeO (spec_l1Cycles.l1 k y0 y1 y2 y3 y4 y5) (spec_l1Cycles.l1 (k + 1) y0 y1 y2 y3 y4 y5))
 | 0 => ⟨fun _ _ _ _ r h => by simp [spec_l1Cycles.l0] at h, fun _ _ _ _ _ _ r h => by simp [spec_l1Cycles.l1] at h⟩
 | k + 1 => by
  obtain ⟨ih0, ih1⟩ := spec_l1Cycles.mono_l k; refine ⟨?_, ?_⟩
  ·
   intro y0 y1 y2 y3
   unfold spec_l1Cycles.l0
   repeat' first
   | (with_reducible exact ih0 _ _ _ _)
   | (with_reducible exact ih1 _ _ _ _ _ _)
   | (with_reducible exact LeO.refl _)
   | (with_reducible exact LeO.none _)
   | (with_reducible refine LeO.ite ?_ ?_)
   | (with_reducible refine LeO.bind ?_ (fun _ => ?_))
   | exact ih0 _ _ _ _
   | exact ih1 _ _ _ _ _ _
   | exact LeO.none _
   | refine LeO.ite ?_ ?_
   | refine LeO.bind ?_ (fun _ => ?_)
  ·
   intro y0 y1 y2 y3 y4 y5
   unfold spec_l1Cycles.l1
   repeat' first
   | (with_reducible exact ih0 _ _ _ _)
   | (with_reducible exact ih1 _ _ _ _ _ _)
   | (with_reducible exact LeO.refl _)
   | (with_reducible exact LeO.none _)
   | (with_reducible refine LeO.ite ?_ ?_)
   | (with_reducible refine LeO.bind ?_ (fun _ => ?_))
   | exact ih0 _ _ _ _
   | exact ih1 _ _ _ _ _ _
   | exact LeO.none _
   | refine LeO.ite ?_ ?_
   | refine LeO.bind ?_ (fun _ => ?_)
theorem spec_l1Cycles.mono : ∀ a0 k, LeO (spec_l1Cycles.f k a0) (spec_l1Cycles.f (k + 1) a0) := by
 intro a0 k; obtain ⟨ih0, ih1⟩ := spec_l1Cycles.mono_l k
 unfold spec_l1Cycles.f
 repeat' first
   | (with_reducible exact ih0 _ _ _ _)
   | (with_reducible exact ih1 _ _ _ _ _ _)
   | (with_reducible exact LeO.refl _)
   | (with_reducible exact LeO.none _)
   | (with_reducible refine LeO.ite ?_ ?_)
   | (with_reducible refine LeO.bind ?_ (fun _ => ?_))
   | exact ih0 _ _ _ _
   | exact ih1 _ _ _ _ _ _
   | exact LeO.none _
   | refine LeO.ite ?_ ?_
   | refine LeO.bind ?_ (fun _ => ?_)
mutual
def spec_l1Type.l0 : Nat → List Int → List (List Int) → Int → Option (List Int)
 | 0, _, _, _ => none
 | k + 1, x3, x4, x5 => if x5 > 0 then (spec_l1Type.l1 k x3 x4 x5 0) else (some x3)
def spec_l1Type.l1 : Nat → List Int → List (List Int) → Int → Int → Option (List Int)
 | 0, _, _, _, _ => none
 | k + 1, x3, x4, x5, x6 => if x6 < (x4.length : Int) then (if 0 ≤ x6 then (if ((rd_L1 x4 x6).length : Int) = x5 then (if x3.length < 17592186044416 then (spec_l1Type.l1 k (x3 ++ [x5]) x4 x5 (wrap64 (x6 + 1))) else (none)) else (spec_l1Type.l1 k x3 x4 x5 (wrap64 (x6 + 1)))) else (none)) else (spec_l1Type.l0 k x3 x4 (wrap64 (x5 - 1)))
end
def spec_l1Type.f (k : Nat) (l0 : List Int) : Option (List Int) := (spec_l1Cycles.f k l0).bind fun t873 => (spec_l1Type.l0 k (([] : List Int)) t873 (l0.length : Int))
theorem spec_l1Type.mono_l : ∀ k, (∀ y0 y1 y2, LeO (spec_l1Type.l0 k y0 y1 y2) (spec_l1Type.l0 (k + 1) y0 y1 y2)) ∧ (∀ y0 y1 y2 y3, LeO (spec_l1Type.l1 k y0 y1 y2 y3) (spec_l1Type.l1 (k + 1) y0 y1 y2 y3))
 | 0 => ⟨fun _ _ _ r h => by simp [spec_l1Type.l0] at h, fun _ _ _ _ r h => by simp [spec_l1Type.l1] at h⟩
 | k + 1 => by
  obtain ⟨ih0, ih1⟩ := spec_l1Type.mono_l k; refine ⟨?_, ?_⟩
  ·
   intro y0 y1 y2
   unfold spec_l1Type.l0
   repeat' first
   | (with_reducible exact ih0 _ _ _)
   | (with_reducible exact ih1 _ _ _ _)
   | (with_reducible exact spec_l1Cycles.mono _ _)
   | (with_reducible exact LeO.refl _)
   | (with_reducible exact LeO.none _)
   | (with_reducible refine LeO.ite ?_ ?_)
   | (with_reducible refine LeO.bind ?_ (fun _ => ?_))
   | exact ih0 _ _ _
   | exact ih1 _ _ _ _
   | exact spec_l1Cycles.mono _ _
   | exact LeO.none _
   | refine LeO.ite ?_ ?_
   | refine LeO.bind ?_ (fun _ => ?_)
  ·
   intro y0 y1 y2 y3
   unfold spec_l1Type.l1
   repeat' first
   | (with_reducible exact ih0 _ _ _)
   | (with_reducible exact ih1 _ _ _ _)
   | (with_reducible exact spec_l1Cycles.mono _ _)
   | (with_reducible exact LeO.refl _)
   | (with_reducible exact LeO.none _)
   | (with_reducible refine LeO.ite ?_ ?_)
   | (with_reducible refine LeO.bind ?_ (fun _ => ?_))
   | exact ih0 _ _ _
   | exact ih1 _ _ _ _
   | exact spec_l1Cycles.mono _ _
   | exact LeO.none _
   | refine LeO.ite ?_ ?_
   | refine LeO.bind ?_ (fun _ => ?_)
theorem spec_l1Type.mono : ∀ a0 k, LeO (spec_l1Type.f k a0) (spec_l1Type.f (k + 1) a0) := by
 intro a0 k; obtain ⟨ih0, ih1⟩ := spec_l1Type.mono_l k
 unfold spec_l1Type.f
 repeat' first
   | (with_reducible exact ih0 _ _ _)
   | (with_reducible exact ih1 _ _ _ _)
   | (with_reducible exact spec_l1Cycles.mono _ _)
   | (with_reducible exact LeO.refl _)
   | (with_reducible exact LeO.none _)
   | (with_reducible refine LeO.ite ?_ ?_)
   | (with_reducible refine LeO.bind ?_ (fun _ => ?_))
   | exact ih0 _ _ _
   | exact ih1 _ _ _ _
   | exact spec_l1Cycles.mono _ _
   | exact LeO.none _
   | refine LeO.ite ?_ ?_
   | refine LeO.bind ?_ (fun _ => ?_)
def spec_l6qFour.l0 : Nat → List Int → Int → Option (Bool)
 | 0, _, _ => none
 | k + 1, x3, x4 => if x4 < (x3.length : Int) then (if 0 ≤ x4 then (if (rd x3 x4) = 4 then (spec_l6qFour.l0 k x3 (wrap64 (x4 + 1))) else (some false)) else (none)) else (some true)
def spec_l6qFour.f (k : Nat) (l0_0 : List Int) (l0_1 : List Int) : Option (Bool) := (spec_l2Faces.f k l0_0 l0_1).bind fun t881 => ((spec_l1Type.f k t881).bind fun t884 => (spec_l6qFour.l0 k t884 0))
theorem spec_l6qFour.mono_l : ∀ k, (∀ y0 y1, LeO (spec_l6qFour.l0 k y0 y1) (spec_l6qFour.l0 (k + 1) y0 y1))
 | 0 => fun _ _ r h => by simp [spec_l6qFour.l0] at h
 | k + 1 => by
  have ih0 := spec_l6qFour.mono_l k
  ·
   intro y0 y1
   unfold spec_l6qFour.l0
   repeat' first
   | (with_reducible exact ih0 _ _)
   | (with_reducible exact spec_l1Type.mono _ _)
   | (with_reducible exact spec_l2Faces.mono _ _ _)
   | (with_reducible exact LeO.refl _)
   | (with_reducible exact LeO.none _)
   | (with_reducible refine LeO.ite ?_ ?_)
   | (with_reducible refine LeO.bind ?_ (fun _ => ?_))
   | exact ih0 _ _
   | exact spec_l1Type.mono _ _
   | exact spec_l2Faces.mono _ _ _
   | exact LeO.none _
   | refine LeO.ite ?_ ?_
   | refine LeO.bind ?_ (fun _ => ?_)
theorem spec_l6qFour.mono : ∀ a0 a1 k, LeO (spec_l6qFour.f k a0 a1) (spec_l6qFour.f (k + 1) a0 a1) := by
 intro a0 a1 k; have ih0 := spec_l6qFour.mono_l k
 unfold spec_l6qFour.f
 repeat' first
   | (with_reducible exact ih0 _ _)
   | (with_reducible exact spec_l1Type.mono _ _)
   | (with_reducible exact spec_l2Faces.mono _ _ _)
   | (with_reducible exact LeO.refl _)
   | (with_reducible exact LeO.none _)
   | (with_reducible refine LeO.ite ?_ ?_)
   | (with_reducible refine LeO.bind ?_ (fun _ => ?_))
   | exact ih0 _ _
   | exact spec_l1Type.mono _ _
   | exact spec_l2Faces.mono _ _ _
   | exact LeO.none _
   | refine LeO.ite ?_ ?_
   | refine LeO.bind ?_ (fun _ => ?_)
def spec_l2Counts.f (k : Nat) (l0_0 : List Int) (l0_1 : List Int) : Option (List Int) := (spec_l1Cycles.f k l0_0).bind fun t889 => ((spec_l2Faces.f k l0_0 l0_1).bind fun t892 => ((spec_l1Cycles.f k t892).bind fun t895 => (some (([(t889.length : Int), wrap64 ((l0_1.length : Int) / 2), (t895.length : Int)] : List Int)))))
theorem spec_l2Counts.mono : ∀ a0 a1 k, LeO (spec_l2Counts.f k a0 a1) (spec_l2Counts.f (k + 1) a0 a1) := by
 intro a0 a1 k
 unfold spec_l2Counts.f
 repeat' first
   | (with_reducible exact spec_l1Cycles.mono _ _)
   | (with_reducible exact spec_l2Faces.mono _ _ _)
   | (with_reducible exact LeO.refl _)
   | (with_reducible exact LeO.none _)
   | (with_reducible refine LeO.ite ?_ ?_)
   | (with_reducible refine LeO.bind ?_ (fun _ => ?_))
   | exact spec_l1Cycles.mono _ _
   | exact spec_l2Faces.mono _ _ _
   | exact LeO.none _
   | refine LeO.ite ?_ ?_
   | refine LeO.bind ?_ (fun _ => ?_)
def spec_l2Counts.T1 : Bool × List (List Nat × List Nat) := (true, [([], []), ([0], [0]), ([1], [1]), ([2], [2]), ([], []), ([4], [4]), ([5], [5]), ([6], [6]), ([], []), ([8, 2], [8]), ([9, 9], [9]), ([10], [10]), ([3, 7, 11], [3, 7, 11]), ([12, 10, 0, 1, 2, 3, 4, 5, 6, 7, 8, 9, 10, 11, 12], [12])])
def spec_l2Counts.B1 : List Nat := [0, 1, 3, 7, 0, 16, 48, 112, 0, 263, 775, 1799, 4095, 8191]
end Go.Proofs.Ytlpbalebodlipaa.PK

set_option linter.unusedVariables false
set_option linter.unusedSimpArgs false
namespace Go.Proofs.Ytlpbalebodlipaa.PK
open Go.RowKit Go.Proofs.YtlpbalebodlipaaW.PrintWords Go.Proofs.YtlpbalebodlipaaW.PrintLast Go.Proofs.YtlpbalebodlipaaW.PrintMore
def cw (p : List Int) : Nat → List Bool → List Int → Int → List Bool × List Int
  | 0, s, c, a => (s, c)
  | f + 1, s, c, a => if rdOf false s a = true then (s, c) else cw p f (s.set a.toNat true) (c ++ [a]) (rd p a)
def fresh (s : List Bool) : Nat := s.countP (fun b => !b)
def cyS (p : List Int) (n : Nat) : Nat → List Bool × List (List Int)
  | 0 => (List.replicate n false, [])
  | i + 1 =>
    let q := cw p (n + 1) (cyS p n i).1 [] i
    (q.1, if q.2 = [] then (cyS p n i).2 else (cyS p n i).2 ++ [q.2])
theorem fresh_set : ∀ (s : List Bool) (i : Nat), i < s.length → s.getD i false = false → fresh (s.set i true) + 1 = fresh s
  | b :: s, 0, _, h => by
    simp only [List.getD_cons_zero] at h; subst h
    simp [fresh]
  | b :: s, i + 1, hi, h => by
    simp only [List.getD_cons_succ] at h; have ih := fresh_set s i (by simpa using hi) h; simp only [fresh, List.set_cons_succ, List.countP_cons] at ih ⊢; omega
theorem rdOf_nat (s : List Bool) (a : Int) (h0 : 0 ≤ a) : rdOf false s a = s.getD a.toNat false := by
  unfold rdOf
  rfl
theorem cw_len (p : List Int) : ∀ (f : Nat) (s : List Bool) (c : List Int) (a : Int), (cw p f s c a).1.length = s.length
  | 0, s, c, a => rfl
  | f + 1, s, c, a => by
    simp only [cw]
    split
    · rfl
    · rw [cw_len p f]; simp
theorem spec_cw (p : List Int) (n : Nat) (hn : n ≤ 1048576) (hp : inR n p) (L : List (List Int)) (hL : L.length ≤ 1048576) (i : Int) (r : List (List Int)) : ∀ (f : Nat) (s : List Bool) (c : List Int) (a : Int), s.length = n → 0 ≤ a → a < n → fresh s < f → c.length + fresh s ≤ 1048577 →
    Ev (fun k => spec_l1Cycles.l0 k p (L ++ [(cw p f s c a).2]) (cw p f s c a).1 (wrap64 (i + 1))) r → Ev (fun k => spec_l1Cycles.l1 k p L s i c a) r
  | 0, s, c, a, hs, h0, h1, hf, hc, h => absurd hf (Nat.not_lt_zero _)
  | f + 1, s, c, a, hs, h0, h1, hf, hc, h => by
    refine Ev.s ?_; simp only [cw] at h
    have hL' : L.length < 5864062014805 := by omega
    have hc' : c.length < 17592186044416 := by omega
    simp only [spec_l1Cycles.l1, h0, hs, h1, hp.1, hL', hc', if_true]
    by_cases e : rdOf false s a = true
    · simp only [e, if_true] at h ⊢
      exact h
    · simp only [e, if_false] at h ⊢
      have h3 : s.getD a.toNat false = false := by rw [← rdOf_nat s a h0]; simpa using e
      have h4 := fresh_set s a.toNat (by omega) h3; have h5 := hp.2 a.toNat (by omega); rw [show ((a.toNat : Nat) : Int) = a by omega] at h5; exact spec_cw p n hn hp L hL i r f _ _ _ (by simpa using hs) h5.1 h5.2 (by omega) (by simp only [List.length_append, List.length_cons, List.length_nil]; omega) h
theorem impl_cw (p : List Int) (n : Nat) (hn : n ≤ 1048576) (hp : inR n p) (L : List (List Int)) (hL : L.length ≤ 1048576) (m i : Int) (r : List (List Int)) : ∀ (f : Nat) (s : List Bool) (c : List Int) (a : Int), s.length = n → 0 ≤ a → a < n → fresh s < f → c.length + fresh s ≤ 1048577 →
    Ev (fun k => impl_cyclesOf.l0 k p (if (cw p f s c a).2 = [] then L else L ++ [(cw p f s c a).2]) (cw p f s c a).1 m (wrap64 (i + 1))) r → Ev (fun k => impl_cyclesOf.l1 k p L s c a m i) r
  | 0, s, c, a, hs, h0, h1, hf, hc, h => absurd hf (Nat.not_lt_zero _)
  | f + 1, s, c, a, hs, h0, h1, hf, hc, h => by
    refine Ev.s ?_; simp only [cw] at h
    have hL' : L.length < 5864062014805 := by omega
    have hc' : c.length < 17592186044416 := by omega
    simp only [impl_cyclesOf.l1, h0, hs, h1, hp.1, hL', hc', if_true]
    by_cases e : rdOf false s a = true
    · simp only [e, if_true] at h ⊢
      cases c with
      | nil => simpa using h
      | cons b c => simpa using h
    · simp only [e, if_false] at h ⊢
      have h3 : s.getD a.toNat false = false := by rw [← rdOf_nat s a h0]; simpa using e
      have h4 := fresh_set s a.toNat (by omega) h3; have h5 := hp.2 a.toNat (by omega); rw [show ((a.toNat : Nat) : Int) = a by omega] at h5; exact impl_cw p n hn hp L hL m i r f _ _ _ (by simpa using hs) h5.1 h5.2 (by omega) (by simp only [List.length_append, List.length_cons, List.length_nil]; omega) h
theorem fresh_le (s : List Bool) : fresh s ≤ s.length := List.countP_le_length
theorem cyS_len (p : List Int) (n : Nat) : ∀ i, (cyS p n i).1.length = n
  | 0 => by simp [cyS]
  | i + 1 => by simp only [cyS]; rw [cw_len, cyS_len p n i]
theorem cyS_many (p : List Int) (n : Nat) : ∀ i, (cyS p n i).2.length ≤ i
  | 0 => by simp [cyS]
  | i + 1 => by
    have ih := cyS_many p n i; simp only [cyS]
    split
    · omega
    · simp only [List.length_append, List.length_cons, List.length_nil]; omega
theorem cw_seen (p : List Int) (f : Nat) (s : List Bool) (c : List Int) (a : Int) (h : rdOf false s a = true) : cw p f s c a = (s, c) := by
  cases f with
  | zero => rfl
  | succ f => simp only [cw, h, if_true]
theorem cw_more (p : List Int) : ∀ (f : Nat) (s : List Bool) (c : List Int) (a : Int), c.length ≤ (cw p f s c a).2.length
  | 0, s, c, a => Nat.le_refl _
  | f + 1, s, c, a => by
    simp only [cw]
    split
    · exact Nat.le_refl _
    · have := cw_more p f (s.set a.toNat true) (c ++ [a]) (rd p a)
      simp only [List.length_append, List.length_cons, List.length_nil] at this; omega
theorem cw_new (p : List Int) (f : Nat) (s : List Bool) (a : Int) (h : ¬ rdOf false s a = true) : (cw p (f + 1) s [] a).2 ≠ [] := by
  simp only [cw, h, Bool.false_eq_true, if_false]; intro e; have := cw_more p f (s.set a.toNat true) ([] ++ [a]) (rd p a); rw [e] at this
  simp at this
theorem specCyc_run (p : List Int) (n : Nat) (hn : n ≤ 1048575) (hp : inR n p) : ∀ (d i : Nat), n - i = d → i ≤ n → Ev (fun k => spec_l1Cycles.l0 k p (cyS p n i).2 (cyS p n i).1 i) (cyS p n n).2
  | 0, i, hd, hi => by
    have : i = n := by omega
    subst this; refine Ev.s ?_; simp only [spec_l1Cycles.l0, hp.1, show ¬ (i : Int) < (i : Int) by omega, if_false]; exact Ev.const rfl
  | d + 1, i, hd, hi => by
    have ih := specCyc_run p n hn hp d (i + 1) (by omega) (by omega); have hl := cyS_len p n i; have hm := cyS_many p n i; have hf := fresh_le (cyS p n i).1
    have h1 : (i : Int) < (n : Int) := by omega
    have h0 : (0 : Int) ≤ (i : Int) := by omega
    refine Ev.s ?_; simp only [spec_l1Cycles.l0, hp.1, hl, h1, h0, if_true]
    by_cases e : rdOf false (cyS p n i).1 (i : Int) = true
    · simp only [e, if_true]
      rw [w64n (by omega)]; simp only [cyS, cw_seen p (n + 1) (cyS p n i).1 [] i e, if_true] at ih; exact ih
    · simp only [e, if_false]
      refine spec_cw p n (by omega) hp _ (by omega) i _ (n + 1) _ _ _ hl h0 h1 (by omega) (by simp only [List.length_nil]; omega) ?_; rw [w64n (by omega)]; simp only [cyS, cw_new p n (cyS p n i).1 i e, if_false] at ih; exact ih
theorem implCyc_run (p : List Int) (n : Nat) (hn : n ≤ 1048575) (hp : inR n p) : ∀ (d i : Nat), n - i = d → i ≤ n → Ev (fun k => impl_cyclesOf.l0 k p (cyS p n i).2 (cyS p n i).1 n i) (cyS p n n).2
  | 0, i, hd, hi => by
    have : i = n := by omega
    subst this; refine Ev.s ?_; simp only [impl_cyclesOf.l0, show ¬ (i : Int) < (i : Int) by omega, if_false]; exact Ev.const rfl
  | d + 1, i, hd, hi => by
    have ih := implCyc_run p n hn hp d (i + 1) (by omega) (by omega); have hl := cyS_len p n i; have hm := cyS_many p n i; have hf := fresh_le (cyS p n i).1
    have h1 : (i : Int) < (n : Int) := by omega
    have h0 : (0 : Int) ≤ (i : Int) := by omega
    refine Ev.s ?_; simp only [impl_cyclesOf.l0, h1, if_true]; refine impl_cw p n (by omega) hp _ (by omega) n i _ (n + 1) _ _ _ hl h0 h1 (by omega) (by simp only [List.length_nil]; omega) ?_; rw [w64n (by omega)]; simp only [cyS] at ih; exact ih
theorem specCyc_ev (p : List Int) (n : Nat) (hn : n ≤ 1048575) (hp : inR n p) : Ev (fun k => spec_l1Cycles.f k p) (cyS p n n).2 := by
  unfold spec_l1Cycles.f
  have h1 : n ≤ 281474976710656 := by omega
  have h2 : (0 : Int) ≤ (n : Int) := by omega
  simp only [hp.1, Int.toNat_natCast, h1, h2, if_true]; exact specCyc_run p n hn hp n 0 (by omega) (by omega)
theorem implCyc_ev (p : List Int) (n : Nat) (hn : n ≤ 1048575) (hp : inR n p) : Ev (fun k => impl_cyclesOf.f k p) (cyS p n n).2 := by
  unfold impl_cyclesOf.f
  have h1 : n ≤ 281474976710656 := by omega
  have h2 : (0 : Int) ≤ (n : Int) := by omega
  simp only [hp.1, Int.toNat_natCast, h1, h2, if_true]; exact implCyc_run p n hn hp n 0 (by omega) (by omega)
theorem take_set_one (l : List Int) (i : Nat) (v : Int) (h : i < l.length) : (l.set i v).take (i + 1) = l.take i ++ [v] := by
  rw [List.take_succ_eq_append_getElem (by simpa using h), List.take_set_of_le (Nat.le_refl _), List.getElem_set_self]
def mulL (a b : List Int) : Nat → List Int
  | 0 => []
  | i + 1 => mulL a b i ++ [rd b (rd a i)]
theorem mulL_length (a b : List Int) : ∀ n, (mulL a b n).length = n
  | 0 => rfl
  | n + 1 => by simp [mulL, mulL_length a b n]
theorem mulL_rd (a b : List Int) : ∀ (n i : Nat), i < n → rd (mulL a b n) i = rd b (rd a i)
  | n + 1, i, h => by
    simp only [mulL]
    by_cases e : i < n
    · rw [rd_app_lt _ _ _ (by rw [mulL_length]; exact e), mulL_rd a b n i e]
    · have : i = n := by omega
      subst this
      have h2 : i < (mulL a b i ++ [rd b (rd a (i : Int))]).length := by simp [mulL_length]
      rw [rd_lt _ i h2, List.getElem_append_right (by rw [mulL_length]; exact Nat.le_refl _)]
      simp [mulL_length]
theorem mulL_inR (n : Nat) (a b : List Int) (ha : inR n a) (hb : inR n b) : inR n (mulL a b n) := by
  refine ⟨mulL_length a b n, fun i hi => ?_⟩; rw [mulL_rd a b n i hi]; have h1 := ha.2 i hi; have h2 := hb.2 (rd a i).toNat (by omega)
  rwa [show ((rd a i).toNat : Int) = rd a i by omega] at h2
theorem specMul_run (n : Nat) (hn : n ≤ 1048576) (a b : List Int) (ha : inR n a) (hb : inR n b) : ∀ (d i : Nat), n - i = d → i ≤ n → Ev (fun k => spec_l1Mul.l0 k a b (mulL a b i) i) (mulL a b n)
  | 0, i, hd, hi => by
    have : i = n := by omega
    subst this; refine Ev.s ?_; simp only [spec_l1Mul.l0, ha.1, show ¬ (i : Int) < (i : Int) by omega, if_false]; exact Ev.const rfl
  | d + 1, i, hd, hi => by
    have h1 := ha.2 i (by omega); have hb1 := hb.1; refine Ev.s ?_; simp only [spec_l1Mul.l0, ha.1, hb1, mulL_length, show (i : Int) < (n : Int) by omega, show (0 : Int) ≤ (i : Int) by omega, h1.1, h1.2, show i < 17592186044416 by omega, if_true]; rw [w64n (by omega)]; exact specMul_run n hn a b ha hb d (i + 1) (by omega) (by omega)
theorem specMul_ev (n : Nat) (hn : n ≤ 1048576) (a b : List Int) (ha : inR n a) (hb : inR n b) : Ev (fun k => spec_l1Mul.f k a b) (mulL a b n) := by
  unfold spec_l1Mul.f
  exact specMul_run n hn a b ha hb n 0 (by omega) (by omega)
theorem implMul_run (n : Nat) (hn : n ≤ 1048576) (a b : List Int) (ha : inR n a) (hb : inR n b) : ∀ (d i : Nat) (l : List Int), n - i = d → i ≤ n → l.length = n → l.take i = mulL a b i → Ev (fun k => impl_mul.l0 k b l a n i) (mulL a b n)
  | 0, i, l, hd, hi, hl, ht => by
    have : i = n := by omega
    subst this; refine Ev.s ?_; simp only [impl_mul.l0, show ¬ (i : Int) < (i : Int) by omega, if_false]; rw [List.take_of_length_le (by omega)] at ht; exact Ev.const (by rw [ht])
  | d + 1, i, l, hd, hi, hl, ht => by
    have h1 := ha.2 i (by omega); have hb1 := hb.1; refine Ev.s ?_; simp only [impl_mul.l0, ha.1, hb1, hl, show (i : Int) < (n : Int) by omega, show (0 : Int) ≤ (i : Int) by omega, h1.1, h1.2, if_true, Int.toNat_natCast]; rw [w64n (by omega)]; refine implMul_run n hn a b ha hb d (i + 1) _ (by omega) (by omega) (by simpa using hl) ?_; rw [take_set_one _ _ _ (by omega), ht]; rfl
theorem implMul_ev (n : Nat) (hn : n ≤ 1048576) (a b : List Int) (ha : inR n a) (hb : inR n b) : Ev (fun k => impl_mul.f k a b) (mulL a b n) := by
  unfold impl_mul.f
  have h1 : n ≤ 35184372088832 := by omega
  have h2 : (0 : Int) ≤ (n : Int) := by omega
  simp only [ha.1, Int.toNat_natCast, h1, h2, if_true]; exact implMul_run n hn a b ha hb n 0 _ (by omega) (by omega) (by simp) (by simp [mulL])
def flipAt (f : List Int) (i : Nat) : Prop := rd f i ≠ i ∧ rd f (rd f i) = i
def isMap (t f : List Int) : Prop := isPerm t ∧ isPerm f ∧ t.length = f.length ∧ (∀ i : Nat, i < f.length → flipAt f i) ∧ ∀ i j : Nat, i < f.length → j < f.length → Reach [t, f] f.length i j
def maxF : List Int → Int → Int
  | [], m => m
  | x :: xs, m => maxF xs (mx m x)
theorem maxF_zero : ∀ (l : List Int) (m : Int), 0 ≤ m → (∀ x ∈ l, 0 ≤ x) → 0 ≤ maxF l m ∧ (maxF l m = 0 ↔ m = 0 ∧ ∀ x ∈ l, x = 0)
  | [], m, hm, _ => by simp [maxF, hm]
  | x :: xs, m, hm, hx => by
    have hx0 := hx x (by simp)
    have hmx : 0 ≤ mx m x ∧ (mx m x = 0 ↔ m = 0 ∧ x = 0) := by unfold mx; split <;> omega
    obtain ⟨h1, h2⟩ := maxF_zero xs (mx m x) hmx.1 fun y hy => hx y (by simp [hy])
    refine ⟨h1, ?_⟩; simp only [maxF, h2, hmx.2, List.mem_cons, forall_eq_or_imp, and_assoc]
theorem max_run (l : List Int) (hl : l.length ≤ 1048576) : ∀ (d i : Nat) (m : Int), l.length - i = d → i ≤ l.length → Ev (fun k => slices_Max_int_int.l0 k l m i) (maxF (l.drop i) m)
  | 0, i, m, hd, hi => by
    refine Ev.s ?_; simp only [slices_Max_int_int.l0, show ¬ (i : Int) < (l.length : Int) by omega, if_false]; rw [List.drop_eq_nil_of_le (by omega)]; exact Ev.const rfl
  | d + 1, i, m, hd, hi => by
    have hlt : i < l.length := by omega
    refine Ev.s ?_; simp only [slices_Max_int_int.l0, show (i : Int) < (l.length : Int) by omega, show (0 : Int) ≤ (i : Int) by omega, if_true]; rw [w64 (x := (i : Int) + 1) (by omega) (by omega), show ((i : Int) + 1) = ((i + 1 : Nat) : Int) by omega, List.drop_eq_getElem_cons hlt, rd_lt l i hlt]; exact max_run l hl d (i + 1) _ (by omega) (by omega)
theorem max_ev (l : List Int) (hl : l.length ≤ 1048576) (h1 : 1 ≤ l.length) (h0 : ∀ x ∈ l, 0 ≤ x) : ∃ m, Ev (fun k => slices_Max_int_int.f k l) m ∧ (m = 0 ↔ ∀ x ∈ l, x = 0) := by
  cases l with
  | nil => simp at h1
  | cons x xs =>
    refine ⟨maxF xs x, ?_, ?_⟩
    · unfold slices_Max_int_int.f
      simp only [show ¬ (((x :: xs).length : Nat) : Int) < 1 by omega, show (0 : Int) < (((x :: xs).length : Nat) : Int) by omega, if_true, if_false]; exact max_run (x :: xs) hl _ 1 x rfl h1
    · rw [(maxF_zero xs x (h0 x (by simp)) fun y hy => h0 y (by simp [hy])).2]
      simp
theorem specFlip_run (t f : List Int) (hf : isPerm f) : ∀ (d i : Nat), f.length - i = d → i ≤ f.length →
    ((∀ q : Nat, i ≤ q → q < f.length → flipAt f q) → ∀ r, Ev (fun k => (spec_l1Orbits.f k t f).bind fun o => spec_MapValid.l1 k o 0) r → Ev (fun k => spec_MapValid.l0 k i t f) r) ∧ (¬ (∀ q : Nat, i ≤ q → q < f.length → flipAt f q) → Ev (fun k => spec_MapValid.l0 k i t f) false)
  | 0, i, hd, hi => by
    refine ⟨fun _ r h => Ev.s ?_, fun h => absurd (fun q h1 h2 => by omega) h⟩; simp only [spec_MapValid.l0, show ¬ (i : Int) < (f.length : Int) by omega, if_false]; exact h
  | d + 1, i, hd, hi => by
    have hlt : i < f.length := by omega
    have hl12 := hf.2.1; have hr := (isPerm_inR f hf).2 i hlt; have ih := specFlip_run t f hf d (i + 1) (by omega) (by omega)
    have hw : wrap64 ((i : Int) + 1) = ((i + 1 : Nat) : Int) := by rw [w64 (by omega) (by omega)]; omega
    have g1 : (i : Int) < (f.length : Int) := by omega
    have g2 : (0 : Int) ≤ (i : Int) := by omega
    by_cases c1 : rd f i = i
    · refine ⟨fun h => absurd c1 (h i (Nat.le_refl _) hlt).1, fun h => Ev.s ?_⟩
      simp only [spec_MapValid.l0, g1, g2, c1, if_true]; exact Ev.const rfl
    · by_cases c2 : rd f (rd f i) = i
      · refine ⟨fun h r hr' => Ev.s ?_, fun h => Ev.s ?_⟩
        · simp only [spec_MapValid.l0, g1, g2, c1, c2, hr.1, hr.2, if_true, if_false, hw]
          exact ih.1 (fun q h1 h2 => h q (by omega) h2) r hr'
        · simp only [spec_MapValid.l0, g1, g2, c1, c2, hr.1, hr.2, if_true, if_false, hw]
          refine ih.2 fun h' => h fun q h1 h2 => ?_
          by_cases e : q = i
          · rw [e]; exact ⟨c1, c2⟩
          · exact h' q (by omega) h2
      · refine ⟨fun h => absurd (h i (Nat.le_refl _) hlt).2 c2, fun h => Ev.s ?_⟩
        simp only [spec_MapValid.l0, g1, g2, c1, c2, hr.1, hr.2, if_true, if_false]; exact Ev.const rfl
theorem implFlip_run (t f : List Int) (hf : isPerm f) : ∀ (d i : Nat), f.length - i = d → i ≤ f.length →
    ((∀ q : Nat, i ≤ q → q < f.length → flipAt f q) → ∀ r, Ev (fun k => (impl_orbits.f k [t, f]).bind fun o => (slices_Max_int_int.f k o).bind fun m => some (m == 0)) r → Ev (fun k => impl_MapValid.l0 k f f.length i t f) r) ∧ (¬ (∀ q : Nat, i ≤ q → q < f.length → flipAt f q) → Ev (fun k => impl_MapValid.l0 k f f.length i t f) false)
  | 0, i, hd, hi => by
    refine ⟨fun _ r h => Ev.s ?_, fun h => absurd (fun q h1 h2 => by omega) h⟩; simp only [impl_MapValid.l0, show ¬ (i : Int) < (f.length : Int) by omega, if_false]; exact h
  | d + 1, i, hd, hi => by
    have hlt : i < f.length := by omega
    have hl12 := hf.2.1; have hr := (isPerm_inR f hf).2 i hlt; have ih := implFlip_run t f hf d (i + 1) (by omega) (by omega)
    have hw : wrap64 ((i : Int) + 1) = ((i + 1 : Nat) : Int) := by rw [w64 (by omega) (by omega)]; omega
    have g1 : (i : Int) < (f.length : Int) := by omega
    have g2 : (0 : Int) ≤ (i : Int) := by omega
    by_cases c1 : rd f i = i
    · refine ⟨fun h => absurd c1 (h i (Nat.le_refl _) hlt).1, fun h => Ev.s ?_⟩
      simp only [impl_MapValid.l0, g1, g2, c1, if_true]; exact Ev.const rfl
    · by_cases c2 : rd f (rd f i) = i
      · refine ⟨fun h r hr' => Ev.s ?_, fun h => Ev.s ?_⟩
        · simp only [impl_MapValid.l0, g1, g2, c1, c2, hr.1, hr.2, if_true, if_false, hw]
          exact ih.1 (fun q h1 h2 => h q (by omega) h2) r hr'
        · simp only [impl_MapValid.l0, g1, g2, c1, c2, hr.1, hr.2, if_true, if_false, hw]
          refine ih.2 fun h' => h fun q h1 h2 => ?_
          by_cases e : q = i
          · rw [e]; exact ⟨c1, c2⟩
          · exact h' q (by omega) h2
      · refine ⟨fun h => absurd (h i (Nat.le_refl _) hlt).2 c2, fun h => Ev.s ?_⟩
        simp only [impl_MapValid.l0, g1, g2, c1, c2, hr.1, hr.2, if_true, if_false]; exact Ev.const rfl
theorem zero_run (o : List Int) (hl : o.length ≤ 1048576) : ∀ (d i : Nat), o.length - i = d → i ≤ o.length →
    ((∀ q : Nat, i ≤ q → q < o.length → rd o q = 0) → Ev (fun k => spec_MapValid.l1 k o i) true) ∧ (¬ (∀ q : Nat, i ≤ q → q < o.length → rd o q = 0) → Ev (fun k => spec_MapValid.l1 k o i) false)
  | 0, i, hd, hi => by
    refine ⟨fun _ => Ev.s ?_, fun h => absurd (fun q h1 h2 => by omega) h⟩; simp only [spec_MapValid.l1, show ¬ (i : Int) < (o.length : Int) by omega, if_false]; exact Ev.const rfl
  | d + 1, i, hd, hi => by
    have hlt : i < o.length := by omega
    have ih := zero_run o hl d (i + 1) (by omega) (by omega)
    have hw : wrap64 ((i : Int) + 1) = ((i + 1 : Nat) : Int) := by rw [w64 (by omega) (by omega)]; omega
    have g1 : (i : Int) < (o.length : Int) := by omega
    have g2 : (0 : Int) ≤ (i : Int) := by omega
    by_cases c : rd o i = 0
    · refine ⟨fun h => Ev.s ?_, fun h => Ev.s ?_⟩
      · simp only [spec_MapValid.l1, g1, g2, c, if_true, hw]
        exact ih.1 fun q h1 h2 => h q (by omega) h2
      · simp only [spec_MapValid.l1, g1, g2, c, if_true, hw]
        refine ih.2 fun h' => h fun q h1 h2 => ?_
        by_cases e : q = i
        · rw [e]; exact c
        · exact h' q (by omega) h2
    · refine ⟨fun h => absurd (h i (Nat.le_refl _) hlt) c, fun h => Ev.s ?_⟩
      simp only [spec_MapValid.l1, g1, g2, c, if_true, if_false]; exact Ev.const rfl
theorem orb_zero (t f : List Int) (n : Nat) (h1 : 1 ≤ n) (ht : inR n t) (hf : inR n f) (o : List Int) (ho : orbOk [t, f] n o) : (∀ q : Nat, q < n → rd o q = 0) ↔ ∀ i j : Nat, i < n → j < n → Reach [t, f] n i j := by
  have hps : ∀ p ∈ [t, f], inR n p := by intro p hp; simp at hp; rcases hp with rfl | rfl <;> assumption
  constructor
  · intro h i j hi hj
    have e1 := (ho.1.2 i hi).2.2; have e2 := (ho.1.2 j hj).2.2; rw [h i hi] at e1; rw [h j hj] at e2; exact e1.symm.trans e2
  · intro h q hq
    have := orbOk_const ho hps (h q 0 hq (by omega)); have h0 := ho.1.2 0 (by omega); omega
theorem mapValid_both (t f : List Int) (ht : t.length ≤ 1048576) (hf : f.length ≤ 1048576) : ∃ b : Bool, Ev (fun k => spec_MapValid.f k t f) b ∧ Ev (fun k => impl_MapValid.f k t f) b ∧ (b = true ↔ isMap t f) := by
  obtain ⟨bt, t1, t2, t3⟩ := permValid_both t ht; obtain ⟨bf, f1, f2, f3⟩ := permValid_both f hf
  have hb : ∀ b : Bool, (∃ c : Bool, Ev (fun k => spec_l1Both.f k t f) c ∧ (c = true ↔ isPerm t ∧ isPerm f ∧ t.length = f.length)) := fun _ => by
    unfold spec_l1Both.f
    cases bt with
    | false => exact ⟨false, Ev.bind t1 (Ev.const rfl), ⟨fun h => (by cases h), fun h => absurd (t3.2 h.1) (by decide)⟩⟩
    | true =>
      cases bf with
      | false => exact ⟨false, Ev.bind t1 (by simp only [if_true]; exact Ev.bind f1 (Ev.const rfl)), ⟨fun h => (by cases h), fun h => absurd (f3.2 h.2.1) (by decide)⟩⟩
      | true => exact ⟨((t.length : Int) == (f.length : Int)), Ev.bind t1 (by simp only [if_true]; exact Ev.bind f1 (Ev.const rfl)), ⟨fun h => ⟨t3.1 rfl, f3.1 rfl, by have := beq_iff_eq.1 h; omega⟩, fun h => by rw [beq_iff_eq]; omega⟩⟩
  obtain ⟨c, c1, c2⟩ := hb true
  by_cases hall : isPerm t ∧ isPerm f ∧ t.length = f.length
  · obtain ⟨pt, pf, hlen⟩ := hall
    have hc : c = true := c2.2 ⟨pt, pf, hlen⟩; subst hc; have hbt : bt = true := t3.2 pt; have hbf : bf = true := f3.2 pf; subst hbt; subst hbf
    have hne : (((t.length : Int)) != (f.length : Int)) = false := by rw [bne_eq_false_iff_eq]; omega
    have hrt : inR f.length t := by have := isPerm_inR t pt; rwa [hlen] at this
    have hrf := isPerm_inR f pf; obtain ⟨o, o1, o2, o3⟩ := orb_both t f f.length pf.2.1 pf.1 hrt hrf
    have hS : ∀ r, Ev (fun k => spec_MapValid.l0 k 0 t f) r → Ev (fun k => spec_MapValid.f k t f) r := fun r h => by
      unfold spec_MapValid.f
      refine Ev.bind c1 ?_; simp only [if_true]; exact h
    have hI : ∀ r, Ev (fun k => impl_MapValid.l0 k f f.length 0 t f) r → Ev (fun k => impl_MapValid.f k t f) r := fun r h => by
      unfold impl_MapValid.f
      refine Ev.bind t2 ?_; simp only [if_true]; refine Ev.bind f2 ?_; simp only [if_true, hne]; refine Ev.s ?_; simp only [impl_MapValid.j0, Bool.false_eq_true, if_false]; exact h
    have sF := specFlip_run t f pf f.length 0 (by omega) (by omega); have iF := implFlip_run t f pf f.length 0 (by omega) (by omega)
    by_cases hfl : ∀ q : Nat, 0 ≤ q → q < f.length → flipAt f q
    · have zr := zero_run o (by rw [o1.1.1]; omega) o.length 0 (by omega) (by omega)
      have oz := orb_zero t f f.length pf.1 hrt hrf o o1; obtain ⟨m, m1, m2⟩ := max_ev o (by rw [o1.1.1]; omega) (by rw [o1.1.1]; exact pf.1) (fun x hx => by
        obtain ⟨i, hi, rfl⟩ := List.mem_iff_getElem.1 hx; have := (o1.1.2 i (by rw [← o1.1.1]; exact hi)).1
        rwa [rd_lt o i hi] at this)
      have hmz : m = 0 ↔ ∀ q : Nat, 0 ≤ q → q < o.length → rd o q = 0 := by
        rw [m2]
        constructor
        · intro h q _ hq
          rw [rd_lt o q hq]; exact h _ (List.getElem_mem hq)
        · intro h x hx
          obtain ⟨i, hi, rfl⟩ := List.mem_iff_getElem.1 hx; have := h i (by omega) hi
          rwa [rd_lt o i hi] at this
      by_cases hz : ∀ q : Nat, 0 ≤ q → q < o.length → rd o q = 0
      · refine ⟨true, hS _ (sF.1 hfl _ (Ev.bind o2 (zr.1 hz))), hI _ (iF.1 hfl _ (Ev.bind o3 (Ev.bind m1 (Ev.const ?_)))), ?_⟩
        · rw [hmz.2 hz]; rfl
        · refine ⟨fun _ => ⟨pt, pf, hlen, fun i hi => hfl i (by omega) hi, oz.1 fun q hq => hz q (by omega) (by rw [o1.1.1]; exact hq)⟩, fun _ => rfl⟩
      · refine ⟨false, hS _ (sF.1 hfl _ (Ev.bind o2 (zr.2 hz))), hI _ (iF.1 hfl _ (Ev.bind o3 (Ev.bind m1 (Ev.const ?_)))), ?_⟩
        · have : ¬ m = 0 := fun e => hz (hmz.1 e)
          simp [this]
        · exact ⟨fun h => (by cases h), fun h => absurd (fun q _ hq => oz.2 h.2.2.2.2 q (by rw [← o1.1.1]; exact hq)) hz⟩
    · exact ⟨false, hS _ (sF.2 hfl), hI _ (iF.2 hfl), ⟨fun h => (by cases h), fun h => absurd (fun q _ hq => h.2.2.2.1 q hq) hfl⟩⟩
  · have hc : c = false := by
      cases c with
      | false => rfl
      | true => exact absurd (c2.1 rfl) hall
    subst hc; refine ⟨false, ?_, ?_, ⟨fun h => (by cases h), fun h => absurd ⟨h.1, h.2.1, h.2.2.1⟩ hall⟩⟩
    · unfold spec_MapValid.f
      exact Ev.bind c1 (Ev.const rfl)
    · have hj : Ev (fun k => impl_MapValid.j0 k true t f) false := by
        refine Ev.s ?_; simp only [impl_MapValid.j0, if_true]; exact Ev.const rfl
      unfold impl_MapValid.f
      refine Ev.bind t2 ?_
      cases bt with
      | false => simp only [Bool.false_eq_true, if_false]; exact hj
      | true =>
        simp only [if_true]; refine Ev.bind f2 ?_
        cases bf with
        | false => simp only [Bool.false_eq_true, if_false]; exact hj
        | true =>
          have hne : (((t.length : Int)) != (f.length : Int)) = true := by
            rw [bne_iff_ne]; intro e; exact hall ⟨t3.1 rfl, f3.1 rfl, by omega⟩
          simp only [if_true, hne]; exact hj
theorem cw_bound (p : List Int) (n : Nat) (hp : inR n p) : ∀ (f : Nat) (s : List Bool) (c : List Int) (a : Int), s.length = n → 0 ≤ a → a < n → (cw p f s c a).2.length + fresh (cw p f s c a).1 ≤ c.length + fresh s
  | 0, s, c, a, hs, h0, h1 => Nat.le_refl _
  | f + 1, s, c, a, hs, h0, h1 => by
    simp only [cw]
    by_cases e : rdOf false s a = true
    · simp only [e, if_true]
      exact Nat.le_refl _
    · simp only [e, Bool.false_eq_true, if_false]
      have h3 : s.getD a.toNat false = false := by rw [← rdOf_nat s a h0]; simpa using e
      have h4 := fresh_set s a.toNat (by omega) h3; have h5 := hp.2 a.toNat (by omega); rw [show ((a.toNat : Nat) : Int) = a by omega] at h5; have ih := cw_bound p n hp f (s.set a.toNat true) (c ++ [a]) (rd p a) (by simpa using hs) h5.1 h5.2; rw [List.length_append, List.length_singleton] at ih; omega
theorem cyS_bound (p : List Int) (n : Nat) (hp : inR n p) : ∀ i, i ≤ n → ∀ l ∈ (cyS p n i).2, 1 ≤ l.length ∧ l.length ≤ n
  | 0, _, l, hl => by simp [cyS] at hl
  | i + 1, hi, l, hl => by
    have ih := cyS_bound p n hp i (by omega) l; simp only [cyS] at hl; have hb := cw_bound p n hp (n + 1) (cyS p n i).1 [] i (cyS_len p n i) (by omega) (by omega); have hf := fresh_le (cyS p n i).1; rw [cyS_len] at hf; rw [List.length_nil, Nat.zero_add] at hb
    by_cases e : (cw p (n + 1) (cyS p n i).1 [] (i : Int)).2 = []
    · rw [if_pos e] at hl
      exact ih hl
    · rw [if_neg e, List.mem_append] at hl
      rcases hl with hl | hl
      · exact ih hl
      · rw [List.mem_singleton.1 hl]
        have : 0 < (cw p (n + 1) (cyS p n i).1 [] (i : Int)).2.length := List.length_pos_iff.2 e; omega
theorem cyS_pos (p : List Int) (n : Nat) (h1 : 1 ≤ n) : 0 < (cyS p n n).2.length := by
  have hm : ∀ i, 1 ≤ i → 0 < (cyS p n i).2.length := by
    intro i
    induction i with
    | zero => intro h; omega
    | succ i ih =>
      intro _; simp only [cyS]
      by_cases hi : 1 ≤ i
      · have := ih hi
        split
        · exact this
        · rw [List.length_append]; omega
      · have : i = 0 := by omega
        subst this; rw [if_neg (cw_new p n _ _ (by show ¬ (List.replicate n false).getD 0 false = true; rw [List.getD_eq_getElem?_getD, List.getElem?_replicate]; split <;> simp))]; rw [List.length_append, List.length_singleton]; omega
  exact hm n h1
theorem rev_run : ∀ (d : Nat) (i j : Int) (l : List Int), l.length ≤ 1048576 → 0 ≤ i → j < l.length → i ≤ 1048576 → -1 ≤ j → j - i ≤ d → ∃ r, Ev (fun k => slices_Reverse_int_int.l0 k l i j) r ∧ r.Perm l
  | 0, i, j, l, hl, h0, h1, h2, h3, hd => by
    refine ⟨l, Ev.s ?_, List.Perm.refl _⟩; simp only [slices_Reverse_int_int.l0, show ¬ i < j by omega, if_false]; exact Ev.const rfl
  | d + 1, i, j, l, hl, h0, h1, h2, h3, hd => by
    by_cases hij : i < j
    · obtain ⟨r, r1, r2⟩ := rev_run d (i + 1) (j - 1) ((l.set i.toNat (rd l j)).set j.toNat (rd l i)) (by simpa using hl) (by omega) (by simp only [List.length_set]; omega) (by omega) (by omega) (by omega)
      have hpm : ((l.set i.toNat (rd l j)).set j.toNat (rd l i)).Perm l := by
        have hi : i.toNat < l.length := by omega
        have hj : j.toNat < l.length := by omega
        have e1 : rd l i = l[i.toNat] := by have := rd_lt l i.toNat hi; rwa [show ((i.toNat : Nat) : Int) = i by omega] at this
        have e2 : rd l j = l[j.toNat] := by have := rd_lt l j.toNat hj; rwa [show ((j.toNat : Nat) : Int) = j by omega] at this
        rw [e1, e2]; exact List.set_set_perm hi hj
      refine ⟨r, Ev.s ?_, r2.trans hpm⟩; simp only [slices_Reverse_int_int.l0, hij, show 0 ≤ j by omega, h1, h0, show i < (l.length : Int) by omega, if_true, w64 (x := i + 1) (by omega) (by omega), w64 (x := j - 1) (by omega) (by omega)]; exact r1
    · refine ⟨l, Ev.s ?_, List.Perm.refl _⟩
      simp only [slices_Reverse_int_int.l0, hij, if_false]; exact Ev.const rfl
theorem rev_ev (l : List Int) (hl : l.length ≤ 1048576) : ∃ r, Ev (fun k => slices_Reverse_int_int.f k l) r ∧ r.Perm l := by
  obtain ⟨r, r1, r2⟩ := rev_run l.length 0 ((l.length : Int) - 1) l hl (by omega) (by omega) (by omega) (by omega) (by omega); refine ⟨r, ?_, r2⟩
  unfold slices_Reverse_int_int.f
  rw [w64 (by omega) (by omega)]; exact r1
def lensL (C : List (List Int)) : List Int := C.map fun l => (l.length : Int)
theorem lens_take (C : List (List Int)) (i : Nat) (h : i < C.length) : lensL (C.take (i + 1)) = lensL (C.take i) ++ [((rd_L1 C (i : Int)).length : Int)] := by
  unfold lensL rd_L1
  rw [List.take_succ_eq_append_getElem h, List.map_append, Int.toNat_natCast, List.getD_eq_getElem?_getD, List.getElem?_eq_getElem h]; rfl
theorem typeOf_run (C : List (List Int)) (hC : C.length ≤ 1048576) (hp : 0 < C.length) : ∃ r, r.Perm (lensL C) ∧ ∀ (d i : Nat), C.length - i = d → i ≤ C.length → Ev (fun k => impl_typeOf.l0 k (lensL (C.take i)) C C.length i) r := by
  have hll : (lensL C).length = C.length := by simp [lensL]
  have hs : ((lensL C).mergeSort fun x y => decide (x ≤ y)).length = C.length := by rw [List.length_mergeSort, hll]
  obtain ⟨r, r1, r2⟩ := rev_ev ((lensL C).mergeSort fun x y => decide (x ≤ y)) (by omega); refine ⟨r, r2.trans (List.mergeSort_perm _ _), ?_⟩; intro d
  induction d with
  | zero =>
    intro i hd hi
    have e : i = C.length := by omega
    rw [e, List.take_length]; refine Ev.s ?_
    have hsort : slices_Sort_int_int.f (lensL C) = some ((lensL C).mergeSort fun x y => decide (x ≤ y)) := by
      unfold slices_Sort_int_int.f
      rw [if_pos ⟨by omega, by omega⟩]
    simp only [impl_typeOf.l0, show ¬ (C.length : Int) < (C.length : Int) by omega, if_false, hsort, Option.bind_some]; exact Ev.bind r1 (Ev.const rfl)
  | succ d ih =>
    intro i hd hi; have h := ih (i + 1) (by omega) (by omega); rw [lens_take C i (by omega)] at h
    have hlt : (lensL (C.take i)).length < 17592186044416 := by simp only [lensL, List.length_map, List.length_take]; omega
    refine Ev.s ?_; simp only [impl_typeOf.l0, show (i : Int) < (C.length : Int) by omega, show (0 : Int) ≤ (i : Int) by omega, hlt, if_true, w64n (show i < 4611686018427387904 by omega)]; exact h
def all4 (r : List Int) : Bool := r.all fun x => decide (x = 4)
theorem all4_drop (r : List Int) (i : Nat) (h : i < r.length) : all4 (r.drop i) = (decide (rd r i = 4) && all4 (r.drop (i + 1))) := by
  unfold all4
  rw [List.drop_eq_getElem_cons h, List.all_cons, rd_lt r i h]
def tlL (C : List (List Int)) : Nat → List Int
  | 0 => []
  | d + 1 => List.replicate (C.countP fun l => decide (l.length = d + 1)) ((d + 1 : Nat) : Int) ++ tlL C d
theorem tlL_mem (C : List (List Int)) (x : Int) : ∀ d, x ∈ tlL C d ↔ ∃ l ∈ C, 1 ≤ l.length ∧ l.length ≤ d ∧ x = (l.length : Int)
  | 0 => by
    simp only [tlL, List.not_mem_nil, false_iff]; rintro ⟨l, _, h1, h2, _⟩; omega
  | d + 1 => by
    simp only [tlL, List.mem_append, List.mem_replicate, tlL_mem C x d]
    constructor
    · rintro (⟨h, rfl⟩ | ⟨l, hl, h1, h2, rfl⟩)
      · obtain ⟨l, hl, e⟩ := List.countP_pos_iff.1 (Nat.pos_of_ne_zero h)
        have e := of_decide_eq_true e; exact ⟨l, hl, by omega, by omega, by rw [e]⟩
      · exact ⟨l, hl, h1, by omega, rfl⟩
    · rintro ⟨l, hl, h1, h2, rfl⟩
      by_cases e : l.length = d + 1
      · exact .inl ⟨Nat.ne_of_gt (List.countP_pos_iff.2 ⟨l, hl, decide_eq_true e⟩), by rw [e]⟩
      · exact .inr ⟨l, hl, h1, by omega, rfl⟩
theorem tlL_len (C : List (List Int)) : ∀ d, (tlL C d).length ≤ d * C.length
  | 0 => by simp [tlL]
  | d + 1 => by
    have ih := tlL_len C d; have := List.countP_le_length (p := fun l : List Int => decide (l.length = d + 1)) (l := C); simp only [tlL, List.length_append, List.length_replicate]; rw [Nat.succ_mul]; omega
theorem type_inner (C : List (List Int)) (hC : C.length ≤ 12) (n : Nat) (v : Nat) (hv : v ≤ 12) (r : List Int) : ∀ (d i : Nat) (acc : List Int), C.length - i = d → i ≤ C.length → acc.length + d ≤ 1000 →
    Ev (fun k => spec_l1Type.l0 k (acc ++ List.replicate ((C.drop i).countP fun l => decide (l.length = v)) (v : Int)) C (wrap64 ((v : Int) - 1))) r → Ev (fun k => spec_l1Type.l1 k acc C v i) r
  | 0, i, acc, hd, hi, ha, h => by
    refine Ev.s ?_; rw [List.drop_eq_nil_of_le (by omega)] at h; simp only [List.countP_nil, List.replicate_zero, List.append_nil] at h; simp only [spec_l1Type.l1, show ¬ (i : Int) < (C.length : Int) by omega, if_false]; exact h
  | d + 1, i, acc, hd, hi, ha, h => by
    have hlt : i < C.length := by omega
    have hrd : rd_L1 C (i : Int) = C[i] := by unfold rd_L1; rw [Int.toNat_natCast, List.getD_eq_getElem?_getD, List.getElem?_eq_getElem hlt]; rfl
    rw [List.drop_eq_getElem_cons hlt, List.countP_cons] at h; refine Ev.s ?_; simp only [spec_l1Type.l1, show (i : Int) < (C.length : Int) by omega, show (0 : Int) ≤ (i : Int) by omega, hrd, if_true, w64n (show i < 4611686018427387904 by omega)]
    by_cases e : C[i].length = v
    · simp only [e, decide_true, if_true, show acc.length < 17592186044416 by omega] at h ⊢
      refine type_inner C hC n v hv r d (i + 1) (acc ++ [(v : Int)]) (by omega) (by omega) (by rw [List.length_append, List.length_singleton]; omega) ?_; rw [List.append_assoc, List.singleton_append, ← List.replicate_succ]; exact h
    · simp only [e, decide_false, Bool.false_eq_true, if_false, Nat.add_zero] at h
      simp only [show ¬ ((C[i].length : Nat) : Int) = (v : Int) by omega, if_false]; exact type_inner C hC n v hv r d (i + 1) acc (by omega) (by omega) (by omega) h
theorem type_outer (C : List (List Int)) (hC : C.length ≤ 12) : ∀ (d : Nat) (acc : List Int), d ≤ 12 → acc.length + 12 * d ≤ 500 → Ev (fun k => spec_l1Type.l0 k acc C (d : Int)) (acc ++ tlL C d)
  | 0, acc, hd, ha => by
    refine Ev.s ?_; simp only [spec_l1Type.l0, tlL, List.append_nil, show ¬ ((0 : Nat) : Int) > 0 by omega, if_false]; exact Ev.const rfl
  | d + 1, acc, hd, ha => by
    have hc := List.countP_le_length (p := fun l : List Int => decide (l.length = d + 1)) (l := C); have ih := type_outer C hC d (acc ++ List.replicate (C.countP fun l => decide (l.length = d + 1)) ((d + 1 : Nat) : Int)) (by omega) (by rw [List.length_append, List.length_replicate]; omega); refine Ev.s ?_; simp only [spec_l1Type.l0, show ((d + 1 : Nat) : Int) > 0 by omega, if_true]; refine type_inner C hC 0 (d + 1) hd _ C.length 0 acc (by omega) (by omega) (by omega) ?_; rw [List.drop_zero, w64 (x := ((d + 1 : Nat) : Int) - 1) (by omega) (by omega), show ((d + 1 : Nat) : Int) - 1 = (d : Int) by omega]; rw [List.append_assoc] at ih; exact ih
theorem all4_congr (r s : List Int) (h : ∀ x, x ∈ r ↔ x ∈ s) : all4 r = all4 s := by
  unfold all4
  rw [Bool.eq_iff_iff, List.all_eq_true, List.all_eq_true]; exact ⟨fun z x hx => z x ((h x).2 hx), fun z x hx => z x ((h x).1 hx)⟩
end Go.Proofs.Ytlpbalebodlipaa.PK

namespace Go.Proofs.Ytlpbalebodlipaa.PK
open Go.RowKit Go.Proofs.YtlpbalebodlipaaW.PrintWords Go.Proofs.YtlpbalebodlipaaW.PrintLast Go.Proofs.YtlpbalebodlipaaW.PrintMore
attribute [local go_sem] max2_int min2_int max_two min_two max_three min_three max_four min_four   -- for this text's walks alone
set_option linter.unusedVariables false
set_option linter.unusedSimpArgs false
def spec_l2Genus.f (k : Nat) (l0_0 : List Int) (l0_1 : List Int) : Option (Int) := (spec_l2Counts.f k l0_0 l0_1).bind fun t902 => (if 0 < (t902.length : Int) then (if 1 < (t902.length : Int) then (if 2 < (t902.length : Int) then (some (wrap64 (Int.tdiv (wrap64 ((wrap64 ((wrap64 (2 - (rd t902 0))) + (rd t902 1))) - (rd t902 2))) 2))) else (none)) else (none)) else (none))
theorem spec_l2Genus.mono : ∀ a0 a1 k, LeO (spec_l2Genus.f k a0 a1) (spec_l2Genus.f (k + 1) a0 a1) := by
 intro a0 a1 k
 unfold spec_l2Genus.f
 repeat' first
   | (with_reducible exact spec_l2Counts.mono _ _ _)
   | (with_reducible exact LeO.refl _)
   | (with_reducible exact LeO.none _)
   | (with_reducible refine LeO.ite ?_ ?_)
   | (with_reducible refine LeO.bind ?_ (fun _ => ?_))
   | exact spec_l2Counts.mono _ _ _
   | exact LeO.none _
   | refine LeO.ite ?_ ?_
   | refine LeO.bind ?_ (fun _ => ?_)
def spec_QuadIs.f (k : Nat) (l0_0 : List Int) (l0_1 : List Int) : Option (Bool) := (spec_MapValid.f k l0_0 l0_1).bind fun t909 => (if t909 = true then ((spec_l6qFour.f k l0_0 l0_1).bind fun t910 => (if t910 = true then ((spec_l2Genus.f k l0_0 l0_1).bind fun t911 => (some (t911 == 0))) else (some false))) else (some false))
theorem spec_QuadIs.mono : ∀ a0 a1 k, LeO (spec_QuadIs.f k a0 a1) (spec_QuadIs.f (k + 1) a0 a1) := by
 intro a0 a1 k
 unfold spec_QuadIs.f
 repeat' first
   | (with_reducible exact spec_MapValid.mono _ _ _)
   | (with_reducible exact spec_l2Genus.mono _ _ _)
   | (with_reducible exact spec_l6qFour.mono _ _ _)
   | (with_reducible exact LeO.refl _)
   | (with_reducible exact LeO.none _)
   | (with_reducible refine LeO.ite ?_ ?_)
   | (with_reducible refine LeO.bind ?_ (fun _ => ?_))
   | exact spec_MapValid.mono _ _ _
   | exact spec_l2Genus.mono _ _ _
   | exact spec_l6qFour.mono _ _ _
   | exact LeO.none _
   | refine LeO.ite ?_ ?_
   | refine LeO.bind ?_ (fun _ => ?_)
end Go.Proofs.Ytlpbalebodlipaa.PK

set_option linter.unusedVariables false
set_option linter.unusedSimpArgs false
namespace Go.Proofs.Ytlpbalebodlipaa.PK
open Go.RowKit Go.Proofs.YtlpbalebodlipaaW.PrintWords Go.Proofs.YtlpbalebodlipaaW.PrintLast Go.Proofs.YtlpbalebodlipaaW.PrintMore
theorem isQuad_run (r : List Int) (hr : r.length ≤ 1048576) : ∀ (d i : Nat), r.length - i = d → i ≤ r.length → Ev (fun k => impl_isQuad.l0 k r r.length i) (all4 (r.drop i))
  | 0, i, hd, hi => by
    refine Ev.s ?_; simp only [impl_isQuad.l0, show ¬ (i : Int) < (r.length : Int) by omega, if_false]; rw [List.drop_eq_nil_of_le (by omega)]; exact Ev.const rfl
  | d + 1, i, hd, hi => by
    have ih := isQuad_run r hr d (i + 1) (by omega) (by omega); rw [all4_drop r i (by omega)]; refine Ev.s ?_; simp only [impl_isQuad.l0, show (i : Int) < (r.length : Int) by omega, show (0 : Int) ≤ (i : Int) by omega, if_true, w64n (show i < 4611686018427387904 by omega)]
    by_cases h : rd r i = 4
    · simp only [h, if_true, decide_true, Bool.true_and]
      exact ih
    · simp only [h, if_false, decide_false, Bool.false_and]
      exact Ev.const rfl
theorem four_run (r : List Int) (hr : r.length ≤ 1048576) : ∀ (d i : Nat), r.length - i = d → i ≤ r.length → Ev (fun k => spec_l6qFour.l0 k r i) (all4 (r.drop i))
  | 0, i, hd, hi => by
    refine Ev.s ?_; simp only [spec_l6qFour.l0, show ¬ (i : Int) < (r.length : Int) by omega, if_false]; rw [List.drop_eq_nil_of_le (by omega)]; exact Ev.const rfl
  | d + 1, i, hd, hi => by
    have ih := four_run r hr d (i + 1) (by omega) (by omega); rw [all4_drop r i (by omega)]; refine Ev.s ?_; simp only [spec_l6qFour.l0, show (i : Int) < (r.length : Int) by omega, show (0 : Int) ≤ (i : Int) by omega, if_true, w64n (show i < 4611686018427387904 by omega)]
    by_cases h : rd r i = 4
    · simp only [h, if_true, decide_true, Bool.true_and]
      exact ih
    · simp only [h, if_false, decide_false, Bool.false_and]
      exact Ev.const rfl
theorem rd3 (a b c : Int) : rd [a, b, c] 0 = a ∧ rd [a, b, c] 1 = b ∧ rd [a, b, c] 2 = c ∧ ([a, b, c] : List Int).length = 3 := ⟨rfl, rfl, rfl, rfl⟩
theorem quadIs_both (t f : List Int) (ht : t.length ≤ 1048576) (hf : f.length ≤ 1048576) : ∃ r : Bool, Ev (fun k => spec_QuadIs.f k t f) r ∧ Ev (fun k => impl_QuadIs.f k t f) r := by
  obtain ⟨b, b1, b2, b3⟩ := mapValid_both t f ht hf
  unfold spec_QuadIs.f impl_QuadIs.f
  cases b with
  | false =>
    refine ⟨false, ?_, ?_⟩
    · refine Ev.bind b1 ?_
      simp only [Bool.false_eq_true, if_false]; exact Ev.const rfl
    · refine Ev.bind (a := false) ?_ ?_
      · unfold impl_isQuad.f
        refine Ev.bind b2 ?_; simp only [Bool.false_eq_true, if_false]; exact Ev.const rfl
      · simp only [Bool.false_eq_true, if_false]
        exact Ev.const rfl
  | true =>
    obtain ⟨pt, pf, hlen, hfl, hcon⟩ := b3.1 rfl; have hrt := isPerm_inR t pt
    have hrf : inR t.length f := by have := isPerm_inR f pf; rwa [← hlen] at this
    have hn : t.length ≤ 12 ∧ 1 ≤ t.length := ⟨pt.2.1, pt.1⟩; have hm := mulL_inR t.length f t hrf hrt; have hCb := cyS_bound _ t.length hm t.length (Nat.le_refl _); have hCm := cyS_many (mulL f t t.length) t.length t.length; have hCp := cyS_pos (mulL f t t.length) t.length hn.2; have hml := mulL_length f t t.length
    have hSm : Ev (fun k => spec_l2Faces.f k t f) (mulL f t t.length) := by
      unfold spec_l2Faces.f
      exact Ev.bind (specMul_ev t.length (by omega) f t hrf hrt) (Ev.const rfl)
    have hIm : Ev (fun k => impl_mul.f k f t) (mulL f t t.length) := implMul_ev t.length (by omega) f t hrf hrt; have hSc := specCyc_ev (mulL f t t.length) t.length (by omega) hm; have hIc := implCyc_ev (mulL f t t.length) t.length (by omega) hm; have hSt := specCyc_ev t t.length (by omega) hrt; have hIt := implCyc_ev t t.length (by omega) hrt; obtain ⟨r, r1, r2⟩ := typeOf_run (cyS (mulL f t t.length) t.length t.length).2 (by omega) hCp
    have hType : Ev (fun k => impl_typeOf.f k (mulL f t t.length)) r := by
      unfold impl_typeOf.f
      refine Ev.bind hIc ?_; exact r2 _ 0 rfl (by omega)
    have hrl : r.length ≤ 1048576 := by rw [r1.length_eq]; simp only [lensL, List.length_map]; omega
    have hSType : Ev (fun k => spec_l1Type.f k (mulL f t t.length)) (tlL (cyS (mulL f t t.length) t.length t.length).2 t.length) := by
      unfold spec_l1Type.f
      refine Ev.bind hSc ?_; rw [hml]; have := type_outer (cyS (mulL f t t.length) t.length t.length).2 (by omega) t.length [] (by omega) (by simp only [List.length_nil]; omega); exact this
    have hsl : (tlL (cyS (mulL f t t.length) t.length t.length).2 t.length).length ≤ 1048576 := by
      have h := tlL_len (cyS (mulL f t t.length) t.length t.length).2 t.length; have : t.length * (cyS (mulL f t t.length) t.length t.length).2.length ≤ 12 * 12 := Nat.mul_le_mul hn.1 (by omega); omega
    have h4 : all4 r = all4 (tlL (cyS (mulL f t t.length) t.length t.length).2 t.length) := all4_congr _ _ fun x => by
      rw [r1.mem_iff, tlL_mem]
      unfold lensL
      rw [List.mem_map]
      constructor
      · rintro ⟨l, hl, rfl⟩
        exact ⟨l, hl, (hCb l hl).1, (hCb l hl).2, rfl⟩
      · rintro ⟨l, hl, _, _, rfl⟩
        exact ⟨l, hl, rfl⟩
    have hq : Ev (fun k => impl_isQuad.f k t f) (all4 r) := by
      unfold impl_isQuad.f
      refine Ev.bind b2 ?_; simp only [if_true]; refine Ev.bind hIm ?_; refine Ev.bind hType ?_; exact isQuad_run r hrl r.length 0 (by omega) (by omega)
    have hs : Ev (fun k => spec_l6qFour.f k t f) (all4 r) := by
      unfold spec_l6qFour.f
      refine Ev.bind hSm ?_; refine Ev.bind hSType ?_; rw [h4]; exact four_run _ hsl _ 0 rfl (by omega)
    by_cases ha : all4 r = true
    · rw [ha] at hq hs
      obtain ⟨g, hg1, hg2⟩ : ∃ g : Int, Ev (fun k => spec_l2Genus.f k t f) g ∧ Ev (fun k => impl_genusOf.f k t f) g := by
        refine ⟨wrap64 (Int.tdiv (wrap64 ((wrap64 ((wrap64 (2 - ((cyS t t.length t.length).2.length : Int))) + (wrap64 ((f.length : Int) / 2)))) - ((cyS (mulL f t t.length) t.length t.length).2.length : Int))) 2), ?_, ?_⟩; rotate_left
        · unfold impl_genusOf.f
          refine Ev.bind hIt ?_; refine Ev.bind hIm ?_; exact Ev.bind hIc (Ev.const rfl)
        · unfold spec_l2Genus.f
          refine Ev.bind (a := [((cyS t t.length t.length).2.length : Int), wrap64 ((f.length : Int) / 2), ((cyS (mulL f t t.length) t.length t.length).2.length : Int)]) ?_ ?_
          · unfold spec_l2Counts.f
            refine Ev.bind hSt ?_; refine Ev.bind hSm ?_; exact Ev.bind hSc (Ev.const rfl)
          · simp only [(rd3 _ _ _).1, (rd3 _ _ _).2.1, (rd3 _ _ _).2.2.1, (rd3 _ _ _).2.2.2, show (0 : Int) < ((3 : Nat) : Int) by decide, show (1 : Int) < ((3 : Nat) : Int) by decide, show (2 : Int) < ((3 : Nat) : Int) by decide, if_true]
            exact ⟨0, fun _ _ => rfl⟩
      refine ⟨g == 0, ?_, ?_⟩
      · refine Ev.bind b1 ?_
        simp only [if_true]; refine Ev.bind hs ?_; simp only [if_true]; exact Ev.bind hg1 (Ev.const rfl)
      · refine Ev.bind hq ?_
        simp only [if_true]; exact Ev.bind hg2 (Ev.const rfl)
    · rw [Bool.not_eq_true] at ha
      rw [ha] at hq hs; refine ⟨false, ?_, ?_⟩
      · refine Ev.bind b1 ?_
        simp only [if_true]; refine Ev.bind hs ?_; simp only [Bool.false_eq_true, if_false]; exact Ev.const rfl
      · refine Ev.bind hq ?_
        simp only [Bool.false_eq_true, if_false]; exact Ev.const rfl
end Go.Proofs.Ytlpbalebodlipaa.PK

set_option linter.unusedVariables false
set_option linter.unusedSimpArgs false
namespace Go.Proofs.Ytlpbalebodlipaa.Pure
open Go.RowKit Go.Proofs.Ytlpbalebodlipaa.PK Go.Proofs.YtlpbalebodlipaaW.PrintWords Go.Proofs.YtlpbalebodlipaaW.PrintLast Go.Proofs.YtlpbalebodlipaaW.PrintMore
def chkFnTreeQuad (s : ByteArray) (l : List Int) : Bool :=
  match impl_TreeQuad.f 3000 s l with
  | some (t, f, p, true) => decide (spec_TreeQuad.f 3000 s l = some (t, f, p, true)) && (decide (laws_sameMap.f 3000 t f t f = some true) && (decide (spec_QuadIs.f 3000 t f = some true) && (decide (impl_MapCounts.f 3000 t f = some ([(l.length : Int) + 2, 2 * (l.length : Int), (l.length : Int)], true)) && (decide (impl_QuadTree.j0 3000 0 p false t f = some (s, l, true)) && (decide (laws_sameTree.f 3000 s l s l = some true) && decide (0 ≤ p ∧ p < (t.length : Int) ∧ t.length ≤ 1000 ∧ f.length ≤ 1000 ∧ l.length ≤ 1000))))))
  | _ => false
theorem chkFnTreeQuad_1 : chkN chkFnTreeQuad 1 = true := by decide +kernel
theorem chkFnTreeQuad_2 : chkN chkFnTreeQuad 2 = true := by decide +kernel
set_option maxHeartbeats 40000000 in
theorem chkFnTreeQuad_3s : ∀ s ∈ wordsAll 3, ∀ a ∈ ([-1, 0, 1] : List Int), ∀ b ∈ ([-1, 0, 1] : List Int), (stepsAll 1).all (fun l => chkFnTreeQuad s (a :: b :: l)) = true := by
  intro s hs a ha b hb; simp only [wordsAll, List.mem_cons, List.not_mem_nil, or_false] at hs ha hb
  rcases hs with rfl | rfl | rfl | rfl | rfl <;> rcases ha with rfl | rfl | rfl <;> rcases hb with rfl | rfl | rfl <;> decide +kernel
theorem chkFnTreeQuad_3 : chkN chkFnTreeQuad 3 = true := by
  unfold chkN
  rw [List.all_eq_true]; intro s hs; rw [List.all_eq_true]; intro l hl; rw [stepsAll, List.mem_flatMap] at hl; obtain ⟨a, ha, hl⟩ := hl; obtain ⟨l1, hl1, rfl⟩ := List.mem_map.1 hl; rw [stepsAll, List.mem_flatMap] at hl1; obtain ⟨b, hb, hl1⟩ := hl1; obtain ⟨l2, hl2, rfl⟩ := List.mem_map.1 hl1; exact List.all_eq_true.1 (chkFnTreeQuad_3s s hs a ha b hb) l2 hl2
theorem chkFnTreeQuad_all (s : ByteArray) (l : List Int) (h : treeOk s l) : chkFnTreeQuad s l = true := chk_all chkFnTreeQuad chkFnTreeQuad_1 chkFnTreeQuad_2 chkFnTreeQuad_3 s l h
theorem FnTreeQuad : laws_FnTreeQuad.Pure := by
  intro c _ _ hc
  by_cases hs : (c.length : Int) > 1048576
  · exact ⟨0, by unfold laws_FnTreeQuad.f; rw [if_pos hs]⟩
  · refine Ev.rounds (r := true) ?_
    unfold laws_FnTreeQuad.f
    simp only [hs, if_false]; obtain ⟨c', ho, hb'⟩ := open_ev c hc; obtain ⟨s, l, p, hd, z1, z2⟩ := l92Tree_ev c' hb' 3 (by omega) (by omega)
    have hdraw : Ev (fun k => spec_DrawTreeQuad.f k c) (s, l) := by
      unfold spec_DrawTreeQuad.f
      simp only [ho, Option.bind_some]; exact Ev.bind hd (Ev.const rfl)
    refine Ev.bind hdraw ?_; obtain ⟨b, b1, b2, b3⟩ := treeValid_both s (by omega) l (by omega)
    cases b with
    | false =>
      have hs1 : Ev (fun k => spec_TreeQuad.f k s l) ([], [], 0, false) := by
        unfold spec_TreeQuad.f
        refine Ev.bind b1 ?_; simp only [Bool.false_eq_true, if_false]; exact Ev.const rfl
      have hi1 : Ev (fun k => impl_TreeQuad.f k s l) ([], [], 0, false) := by
        unfold impl_TreeQuad.f
        refine Ev.bind b2 ?_; simp only [Bool.false_eq_true, if_false]; exact Ev.const rfl
      have hm : Ev (fun k => laws_sameMap.f k [] [] [] []) true := Ev.of (fun k => laws_sameMap.mono [] [] [] [] k) (by decide +kernel : laws_sameMap.f 10 [] [] [] [] = some true); refine Ev.bind hi1 ?_; refine Ev.bind hs1 ?_; simp only [bne_self_eq_false, Bool.false_eq_true, if_false]; refine Ev.bind hm ?_; simp only [if_true]; refine Ev.s ?_; simp only [laws_FnTreeQuad.j0, Bool.not_false, if_true, beq_self_eq_true]; exact Ev.bind hm (Ev.const rfl)
    | true =>
      have hck := chkFnTreeQuad_all s l (b3 rfl)
      unfold chkFnTreeQuad at hck
      split at hck
      · rename_i t f q e1
        simp only [Bool.and_eq_true, decide_eq_true_eq] at hck; obtain ⟨e2, e3, e4, e5, e6, e7, p0, p1, tl, fl, ll⟩ := hck; obtain ⟨q0, q1, q2⟩ := quadIs_both t f (by omega) (by omega); have hq := Ev.uniq q1 (Ev.of (fun k => spec_QuadIs.mono _ _ k) e4); subst hq
        have hqt : Ev (fun k => impl_QuadTree.f k t f 0 q) (s, l, true) := by
          unfold impl_QuadTree.f
          refine Ev.bind q2 ?_; simp only [if_true, show ¬ (0 : Int) < 0 by omega, show ¬ (0 : Int) ≥ (t.length : Int) by omega, show ¬ q < 0 by omega, show ¬ q ≥ (t.length : Int) by omega, if_false, decide_false]; exact Ev.of (fun k => (impl_QuadTree.mono_l k).1 _ _ _ _ _) e6
        refine Ev.bind (Ev.of (fun k => impl_TreeQuad.mono _ _ k) e1) ?_; refine Ev.bind (Ev.of (fun k => spec_TreeQuad.mono _ _ k) e2) ?_; simp only [bne_self_eq_false, Bool.false_eq_true, if_false]; refine Ev.bind (Ev.of (fun k => laws_sameMap.mono _ _ _ _ k) e3) ?_; simp only [if_true, Bool.not_true]; refine Ev.s ?_; simp only [laws_FnTreeQuad.j0, Bool.false_eq_true, if_false]; refine Ev.bind (Ev.of (fun k => impl_MapCounts.mono _ _ k) e5) ?_; refine Ev.bind hqt ?_; simp only [if_true]; refine Ev.bind q2 ?_; have r0 : rd [(l.length : Int) + 2, 2 * (l.length : Int), (l.length : Int)] 0 = (l.length : Int) + 2 := rfl; have r1 : rd [(l.length : Int) + 2, 2 * (l.length : Int), (l.length : Int)] 1 = 2 * (l.length : Int) := rfl; have r2 : rd [(l.length : Int) + 2, 2 * (l.length : Int), (l.length : Int)] 2 = (l.length : Int) := rfl; have r3 : ([(l.length : Int) + 2, 2 * (l.length : Int), (l.length : Int)] : List Int).length = 3 := rfl; simp only [if_true, r0, r1, r2, r3, show (0 : Int) < ((3 : Nat) : Int) by decide, show (1 : Int) < ((3 : Nat) : Int) by decide, show (2 : Int) < ((3 : Nat) : Int) by decide, w64 (x := (l.length : Int) + 2) (by omega) (by omega), w64 (x := 2 * (l.length : Int)) (by omega) (by omega)]; refine Ev.bind (Ev.of (fun k => laws_sameTree.mono _ _ _ _ k) e7) (Ev.const rfl)
      · cases hck
end Go.Proofs.Ytlpbalebodlipaa.Pure

namespace Go.Proofs.Ytlpbalebodlipaa.fnTreeQuad
open Go.ChangeShapes Go.WideShapes Go.ChangeAt Go.RowKit
open Go.ChangeMaps (open_string shut_string)
set_option linter.unusedVariables false
theorem own : ownKnob Try.prog.godebug = none := by kernel_rfl
theorem laidOut : laidOutB Try.prog = true := by kernel_rfl
def IsRow (k : IntKind) (w : World) (a : Option Addr) (len cap : Nat) (zs : List Int) : Prop :=
 (a = none ∧ len = 0 ∧ cap = 0 ∧ zs = []) ∨
 ∃ x, a = some x ∧ len ≤ cap ∧ cap ≤ maxLen ∧ zs.length = cap ∧ (∀ i, i < zs.length → w.cell? (x.add i) = some (.int k (zs.getD i 0))) ∧ ∀ n ∈ zs, (Lit.int k n).wf = true
set_option maxRecDepth 100000 in
theorem lifted (os : Os) (started : os.Started) (H : Type) (enc : TypeId × Value → H) :
  ReturnsInHanded {} Try.checked os 8 .any (Rows.fnTreeQuadSpec.pre6 enc Try.prog Try.f8 Rows.fnTreeQuadRow.domain false) (Rows.fnTreeQuadSpec.post enc Try.prog Try.f8 false true false false) := by
 refine returnsInHanded_of_change_sized (C := Try.checked) own started (by kernel_rfl) Try.func8
  (ChangeSpec.witness6 (enc := enc) (C := Try.checked) false ⟨#[], #[.slice none 0 0], []⟩ 8 (by kernel_rfl) (by kernel_rfl) (by kernel_rfl) (by kernel_rfl)) ?_
 intro W base args ds gs before hval0 hW hcnd hsz0 _; have hsz : (DataW.weightsEach Try.prog (Try.f8.params.toList ++ Rows.fnTreeQuadSpec.plain.varTypes Try.prog) (ds ++ gs)).all (· ≤ reachBytes) = true := hsz0; have hval : ∀ (j : Nat) t v, Try.f8.params[j]? = some t → args[j]? = some v → Value.okWide Try.prog W .any base t v := hval0; have hW' := hW; obtain ⟨p, q, hA0, hV, rfl, hfz, hnd⟩ := hW; have hA : DataW.TrodAll enc Try.prog W 0 (fun _ => true) true Try.f8.params.toList args.toList ds p := hA0; rw [Try.params8] at hA hval hsz; obtain ⟨v0, vs0, d0, ds0, p0, q0, hargs, rfl, rfl, h0, r0⟩ := trodAll_cons hA; obtain ⟨rfl, rfl, rfl⟩ := trodAll_nil r0
 obtain rfl : args = #[v0] := by cases args; simp_all
 obtain ⟨rfl, rfl⟩ := trodVars_none hV; obtain ⟨a0, len0, cap0, rfl⟩ := okWide_slice Try.underlying22 (hval 0 22 v0 rfl rfl); have k0 := h0
 have lt0 : ∀ x ∈ p0, x.block < W.heap.size := by obtain ⟨m, hm⟩ := k0; exact DataW.trod_lt m _ _ _ hm
 obtain ⟨z0, w0⟩ : ∃ zs, IsRow .u8 W a0 len0 cap0 zs := by
  obtain ⟨fuel, hf⟩ := h0
  rcases open_ints Try.underlying22 Try.underlying5 (by kernel_rfl) hf with ⟨hcs, _⟩ | ⟨x, l, c, zs, hcs, _, hl, hm, hz, _, hcell, hwz⟩
  ·
   simp [Value.cells] at hcs
   obtain ⟨rfl, rfl, rfl⟩ := hcs; exact ⟨[], .inl ⟨rfl, rfl, rfl, rfl⟩⟩
  ·
   simp [Value.cells] at hcs
   obtain ⟨rfl, rfl, rfl⟩ := hcs; exact ⟨zs, .inr ⟨_, rfl, hl, hm, by simpa using hz, hcell, hwz⟩⟩
 have y0 : len0 * 1 ≤ 140737488351232 := Go.Proofs.YtlpbalebodlipaaW.PrintWords.sized_ints hsz (j := 0) (t := 22) rfl rfl Try.underlying22 Try.underlying5 (by kernel_rfl) (by kernel_rfl) h0; clear hA0 hval0 hsz0 hsz
 refine (PK.laws_FnTreeQuad.walk Pure.FnTreeQuad a0 len0 cap0 z0 W w0 y0).mono fun e W' ⟨he, bel⟩ => ?_
 subst he; exact ⟨_, rfl, _, _, _, [], _, [], hW', trodAll_mk1 (shut_bool Try.underlying4 _), (trodAll_cons_mk (Below.trod laidOut (by kernel_rfl) (of_decide_eq_true (by kernel_rfl)) k0 bel lt0) trodAll_mk0), rfl, bel.frame _, fun h => by cases h⟩
theorem over : Rows.fnTreeQuadRow.holds Try.pinned (OpenSpec.ofChange Rows.fnTreeQuadSpec) :=
 OpenClaim.holds_of_wide 8 Try.f8 rfl rfl rfl rfl rfl rfl rfl ⟨rfl, rfl, rfl, rfl, rfl⟩ rfl rfl rfl rfl rfl (by kernel_rfl) Try.func8 (by kernel_rfl)
  (of_decide_eq_true (by kernel_rfl)) (by unfold Func.isWrapper; first | (rw [if_pos (by decide +kernel)]; kernel_rfl) | (rw [if_neg (by decide +kernel)]; exact ⟨rfl, rfl⟩))
  (fun os started H enc _ => lifted os started H enc)
theorem proved : Rows.FnTreeQuadSaid := over
#print axioms proved
end Go.Proofs.Ytlpbalebodlipaa.fnTreeQuad
namespace Go.Proofs.Ytlpbalebodlipaa
theorem fnTreeQuad_holds : Rows.FnTreeQuadSaid := fnTreeQuad.proved
end Go.Proofs.Ytlpbalebodlipaa
