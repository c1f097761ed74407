/- FactorEach of the program and of the reference tell the same number, for all lists of lists of whole numbers. There are no conditions beside the given row's own. -/
import Derived.Test.YtggghijamfmenaaKFnExactFactorEachOwnx1
namespace Go.Proofs.Ytggghijamfmenaa.PL
open Go.RowKit Go.Proofs.YtggghijamfmenaaW.PrintWords Go.Proofs.YtggghijamfmenaaW.PrintLast Go.Proofs.YtggghijamfmenaaW.PrintMore
attribute [local go_sem] max2_int min2_int max_two min_two max_three min_three max_four min_four   -- for this text's walks alone
set_option linter.unusedVariables false
set_option linter.unusedSimpArgs false
mutual
def spec_l5Join.l0 : Nat → List Int → List Int → List Int → Int → Option (List Int)
 | 0, _, _, _, _ => none
 | k + 1, x0, x1, x5, x6 => if x6 < (x1.length : Int) then (spec_l5Join.l1 k x0 x1 x5 x6 0) else (some x5)
def spec_l5Join.l1 : Nat → List Int → List Int → List Int → Int → Int → Option (List Int)
 | 0, _, _, _, _, _ => none
 | k + 1, x0, x1, x5, x6, x7 => if x7 < (x1.length : Int) then (if 0 ≤ x7 then (if x7 < (x5.length : Int) then (if 0 ≤ (rd x1 x7) then (if (rd x1 x7) < (x5.length : Int) then (if x7 < (x0.length : Int) then (if 0 ≤ (rd x0 x7) then (if (rd x0 x7) < (x5.length : Int) then (spec_l5Join.l1 k x0 x1 (((x5.set (x7 : Int).toNat (mn (rd x5 x7) (mn (rd x5 (rd x1 x7)) (rd x5 (rd x0 x7))))).set ((rd x1 x7) : Int).toNat (mn (rd x5 x7) (mn (rd x5 (rd x1 x7)) (rd x5 (rd x0 x7))))).set ((rd x0 x7) : Int).toNat (mn (rd x5 x7) (mn (rd x5 (rd x1 x7)) (rd x5 (rd x0 x7))))) x6 (wrap64 (x7 + 1))) else (none)) else (none)) else (none)) else (none)) else (none)) else (none)) else (none)) else (spec_l5Join.l0 k x0 x1 x5 (wrap64 (x6 + 1)))
end
def spec_l5Join.f (k : Nat) (l0 : List Int) (l1 : List Int) : Option (List Int) := (spec_l2Copy.f l0).bind fun t411 => (spec_l5Join.l0 k l0 l1 t411 0)
set_option maxHeartbeats 8000000 in
set_option maxRecDepth 100000 in
theorem spec_l5Join.calls (k : Nat) (A0 : Option Addr) (c0 : Nat) (l0 : List Int) (A1 : Option Addr) (c1 : Nat) (l1 : List Int) (r : List Int) (w : World) (hr0 : Kd.C (Kd.int .i64) w A0 l0.length l0) (hc0 : l0.length ≤ c0) (hr1 : Kd.C (Kd.int .i64) w A1 l1.length l1) (hc1 : l1.length ≤ c1) (h : spec_l5Join.f k l0 l1 = some r) :
  Calls Try.prog 137 #[.slice A0 l0.length c0, .slice A1 l1.length c1] w fun e w' => ∃ v0_ : Value, e = .returned (v0_) ∧ Kd.R (Kd.int .i64) 3 w' w.heap.size (fun _ => True) v0_ r ∧ Below w.heap.size w w' := by
 have HR0 := Az hr0; have HC0 := Az hc0; clear hr0 hc0; have HR1 := Az hr1; have HC1 := Az hc1; clear hr1 hc1; have HB := Az (Below.refl w.heap.size w); have H : ((spec_l2Copy.f l0).bind fun t411 => (spec_l5Join.l0 k l0 l1 t411 0)) = some r := h; clear h; replace H := Option.bind_eq_some_iff.mp H; obtain ⟨t411, A30, H⟩ := H; replace H : (spec_l5Join.l0 k l0 l1 t411 0) = some r := H; have A3 := Az A30; clear A30; have H' := Az H; clear H
 go_enter Try.func137, Try.ntmps137
 go_wp2_with (first | (go_at_call 62; (with_reducible refine (spec_l2Copy.calls _ _ l0 t411 _ ?side1 ?side2 A3.out).mono ?_); (case side1 => exact cU (HR0.out)); (case side2 => exact HC0.out); rintro e w4 ⟨v412, rfl, ho0, hb⟩; have n0 := Az (Kd.R_lower ho0 (below_size (bU0 HB.out))); have n1 := Az (below_step (bU0 HB.out) hb); clear HB; have HO413 := n0; have HB := n1; clear n0 n1; (try clear hb); (try clear hb2); (try clear hk); (try clear hi); (try clear ho0)))
 repeat (go_quiet (first | (go_at_call 62; (try simp only [Go.IntWalk.i64_left]); (with_reducible refine (spec_l2Copy.calls _ _ l0 t411 _ ?side1 ?side2 A3.out).mono ?_); (case side1 => exact cU (HR0.out)); (case side2 => exact HC0.out); rintro e w4 ⟨v412, rfl, ho0, hb⟩; have n0 := Az (Kd.R_lower ho0 (below_size (bU0 HB.out))); have n1 := Az (below_step (bU0 HB.out) hb); clear HB; have HO413 := n0; have HB := n1; clear n0 n1; (try clear hb); (try clear hb2); (try clear hk); (try clear hi); (try clear ho0))); try go_wp2_with (first | (go_at_call 62; (try simp only [Go.IntWalk.i64_left]); (with_reducible refine (spec_l2Copy.calls _ _ l0 t411 _ ?side1 ?side2 A3.out).mono ?_); (case side1 => exact cU (HR0.out)); (case side2 => exact HC0.out); rintro e w4 ⟨v412, rfl, ho0, hb⟩; have n0 := Az (Kd.R_lower ho0 (below_size (bU0 HB.out))); have n1 := Az (below_step (bU0 HB.out) hb); clear HB; have HO413 := n0; have HB := n1; clear n0 n1; (try clear hb); (try clear hb2); (try clear hk); (try clear hi); (try clear ho0))))
 go_loopg [6] k (fun kq v6 w' => ∃ (x5_1 : List Int) (x6_1 : Int), v6 = .int .i64 x6_1 ∧ Aside0 (spec_l5Join.l0 kq l0 l1 x5_1 x6_1 = some r) ∧ Aside0 (kq ≤ k) ∧ Aside0 (Kd.R (Kd.int .i64) 3 w' w.heap.size (fun _ => True) v412 x5_1) ∧ Aside0 (Below w.heap.size w w'))
 case atStart => exact ⟨(t411), (0), rS, H', ⟨Nat.le_refl _⟩, ⟨rU HO413.out⟩, ⟨bU0 HB.out⟩⟩
 case round =>
  clear H'; (try clear c1); (try clear p2); obtain ⟨x5_1, x6_1, rfl, HA, HK1, HO_5, HB⟩ := hrel
  cases gk with
  | zero => exact absurd HA.out (by simp [spec_l5Join.l0])
  | succ k1 =>
   have H := HA.out; clear HA; simp only [spec_l5Join.l0] at H
   by_cases c5 : x6_1 < (l1.length : Int)
   ·
    rw [if_pos c5] at H; have c5b0 := decide_eq_true c5; clear c5; have H' := Az H; clear H
    go_wp2
    repeat (go_quiet (fail); try go_wp2)
    go_loopg [7] k1 (fun kq v7 w' => ∃ (x5_2 : List Int) (x7_2 : Int), v7 = .int .i64 x7_2 ∧ Aside0 (spec_l5Join.l1 kq l0 l1 x5_2 x6_1 x7_2 = some r) ∧ Aside0 (kq ≤ k1) ∧ Aside0 (Kd.R (Kd.int .i64) 3 w' w.heap.size (fun _ => True) v412 x5_2) ∧ Aside0 (Below w.heap.size w w'))
    case atStart => exact ⟨(x5_1), (0), rS, H', ⟨Nat.le_refl _⟩, ⟨rU HO_5.out⟩, ⟨bU0 HB.out⟩⟩
    case round =>
     clear H'; (try clear c1); (try clear p2); (try clear c5); (try clear c5b0); (try clear p2); obtain ⟨x5_2, x7_2, rfl, HA, HK2, HO_5, HB⟩ := hrel
     cases gk with
     | zero => exact absurd HA.out (by simp [spec_l5Join.l1])
     | succ k2 =>
      have H := HA.out; clear HA; simp only [spec_l5Join.l1] at H
      by_cases c6 : x7_2 < (l1.length : Int)
      ·
       rw [if_pos c6] at H; have c6b0 := decide_eq_true c6; clear c6
       by_cases c7 : 0 ≤ x7_2
       ·
        rw [if_pos c7] at H; have c7b0 := decide_eq_true c7; clear c7
        by_cases c8 : x7_2 < (x5_2.length : Int)
        ·
         rw [if_pos c8] at H; have c8b0 := decide_eq_true c8; clear c8
         by_cases c9 : 0 ≤ (rd l1 x7_2)
         ·
          rw [if_pos c9] at H; have c9b0 := decide_eq_true c9; clear c9
          by_cases c10 : (rd l1 x7_2) < (x5_2.length : Int)
          ·
           rw [if_pos c10] at H; have c10b0 := decide_eq_true c10; clear c10
           by_cases c11 : x7_2 < (l0.length : Int)
           ·
            rw [if_pos c11] at H; have c11b0 := decide_eq_true c11; clear c11
            by_cases c12 : 0 ≤ (rd l0 x7_2)
            ·
             rw [if_pos c12] at H; have c12b0 := decide_eq_true c12; clear c12
             by_cases c13 : (rd l0 x7_2) < (x5_2.length : Int)
             ·
              rw [if_pos c13] at H; have c13b0 := decide_eq_true c13; clear c13; obtain ⟨ji14, hji14⟩ : ∃ j_ : Int, (mn (rd x5_2 (rd l1 x7_2)) (rd x5_2 (rd l0 x7_2))) = j_ := ⟨_, rfl⟩
              replace H : (spec_l5Join.l1 k2 l0 l1 (((x5_2.set (x7_2 : Int).toNat (mn (rd x5_2 x7_2) (ji14))).set ((rd l1 x7_2) : Int).toNat (mn (rd x5_2 x7_2) (ji14))).set ((rd l0 x7_2) : Int).toNat (mn (rd x5_2 x7_2) (ji14))) x6_1 (wrap64 (x7_2 + 1))) = some r := by first | (rw [hji14] at H; exact H) | (simp only [hji14] at H ⊢; exact H)
              have hji14_ : (if (rd x5_2 (rd l0 x7_2)) < (rd x5_2 (rd l1 x7_2)) then (rd x5_2 (rd l0 x7_2)) else (rd x5_2 (rd l1 x7_2))) = ji14 := hji14; obtain ⟨ji15, hji15⟩ : ∃ j_ : Int, (mn (rd x5_2 x7_2) (ji14)) = j_ := ⟨_, rfl⟩
              replace H : (spec_l5Join.l1 k2 l0 l1 (((x5_2.set (x7_2 : Int).toNat (ji15)).set ((rd l1 x7_2) : Int).toNat (ji15)).set ((rd l0 x7_2) : Int).toNat (ji15)) x6_1 (wrap64 (x7_2 + 1))) = some r := by first | (rw [hji15] at H; exact H) | (simp only [hji15] at H ⊢; exact H)
              have hji15_ : (if (ji14) < (rd x5_2 x7_2) then (ji14) else (rd x5_2 x7_2)) = ji15 := hji15; obtain ⟨y419, hy419⟩ : ∃ y_ : List Int, y_ = (x5_2.set (x7_2 : Int).toNat (ji15)) := ⟨_, rfl⟩; replace H : (spec_l5Join.l1 k2 l0 l1 ((y419.set ((rd l1 x7_2) : Int).toNat (ji15)).set ((rd l0 x7_2) : Int).toNat (ji15)) x6_1 (wrap64 (x7_2 + 1))) = some r := hR hy419 H; have Ny419 := Az hy419; clear hy419; obtain ⟨y421, hy421⟩ : ∃ y_ : List Int, y_ = (y419.set ((rd l1 x7_2) : Int).toNat (ji15)) := ⟨_, rfl⟩; replace H : (spec_l5Join.l1 k2 l0 l1 (y421.set ((rd l0 x7_2) : Int).toNat (ji15)) x6_1 (wrap64 (x7_2 + 1))) = some r := hR hy421 H; have Ny421 := Az hy421; clear hy421; obtain ⟨y423, hy423⟩ : ∃ y_ : List Int, y_ = (y421.set ((rd l0 x7_2) : Int).toNat (ji15)) := ⟨_, rfl⟩; replace H : (spec_l5Join.l1 k2 l0 l1 y423 x6_1 (wrap64 (x7_2 + 1))) = some r := hR hy423 H; have Ny423 := Az hy423; clear hy423; have H' := Az H; clear H; obtain ⟨Ao19, co19, eo19⟩ := Kd.R_slice HO_5.out; subst eo19; have p414 : 0 ≤ (x7_2 : Int) := oA; have q414 : x7_2 < (x5_2.length : Int) := oA; obtain ⟨ad414, e414, hx414_0⟩ := Kd.at_int (Kd.R_reads' HO_5.out).2.2 x7_2 p414 q414
              cases e414
              replace p414 := eq_true p414; replace q414 := eq_true q414; have p415 : 0 ≤ (x7_2 : Int) := oA; have q415 : x7_2 < (l1.length : Int) := oA; obtain ⟨ad415, e415, hx415_0⟩ := Kd.at_int HR1.out x7_2 p415 q415
              cases e415
              (try replace hx415_0 := (HB.out.cell (World.block_lt_of_cell? w _ hx415_0)).trans hx415_0); replace p415 := eq_true p415; replace q415 := eq_true q415; have p416 : 0 ≤ ((rd l1 x7_2) : Int) := oA; have q416 : (rd l1 x7_2) < (x5_2.length : Int) := oA; obtain ⟨ad416, e416, hx416_0⟩ := Kd.at_int (Kd.R_reads' HO_5.out).2.2 (rd l1 x7_2) p416 q416; obtain rfl : ad414 = ad416 := (by injection e416); replace p416 := eq_true p416; replace q416 := eq_true q416; have p417 : 0 ≤ (x7_2 : Int) := oA; have q417 : x7_2 < (l0.length : Int) := oA; obtain ⟨ad417, e417, hx417_0⟩ := Kd.at_int HR0.out x7_2 p417 q417
              cases e417
              (try replace hx417_0 := (HB.out.cell (World.block_lt_of_cell? w _ hx417_0)).trans hx417_0); replace p417 := eq_true p417; replace q417 := eq_true q417; have p418 : 0 ≤ ((rd l0 x7_2) : Int) := oA; have q418 : (rd l0 x7_2) < (x5_2.length : Int) := oA; obtain ⟨ad418, e418, hx418_0⟩ := Kd.at_int (Kd.R_reads' HO_5.out).2.2 (rd l0 x7_2) p418 q418; obtain rfl : ad414 = ad418 := (by injection e418); replace p418 := eq_true p418; replace q418 := eq_true q418; have p16 : 0 ≤ (x7_2 : Int) := oA; have q16 : (x7_2 : Int) < ((x5_2.length : Int) : Int) := oA; obtain ⟨go16, co16, eo16, gb16, gl16, cl16, HG16⟩ := Kd.R_form HO_5.out (by omega); (first | cases eo16 | (injection eo16 with ea_ en_ ec_; (first | subst ea_ | (injection ea_ with ea_; subst ea_)); subst ec_; clear en_)); have GB16 := Az gb16; have GG16 := Az HG16; clear gb16 gl16 HG16; (first | simp only [add_plain] at hx414_0 | skip); (first | simp only [add_plain] at hx416_0 | skip); (first | simp only [add_plain] at hx418_0 | skip); obtain ⟨hx16_0, hf16_0⟩ := Kd.R_celln 0 HO_5.out (x7_2 : Int) p16 q16; replace p16 := eq_true p16; replace q16 := eq_true q16; obtain ⟨hy20_, hz20_⟩ := Kd.R_celln 0 HO_5.out (x7_2 : Int) (oA) (oA); have HP20 := Kd.R_putg HO_5.out (x7_2 : Int) ji15
              go_wp2_with (first | ((with_reducible refine gate_store (t := 3) (p := 46) rfl ?_); (try (rw [drewN_self wr]; generalize hq_ : World.drewN wr _ = wr; have n0 := Az (Kd.R_at hq_ HO_5.out); have n1 := Az (below_at hq_ HB.out); clear hq_ HO_5 HB; have HO_5 := n0; have HB := n1; clear n0 n1; (try (obtain ⟨hy20_, hz20_⟩ := Kd.R_celln 0 HO_5.out (x7_2 : Int) (oA) (oA))); (try (have HP20 := Kd.R_putg HO_5.out (x7_2 : Int) ji15)))); refine store_event (t := 3) (p := 46) (v := ?vo_w21) (w1 := (wr.setCell ⟨go16, (x7_2 : Int).toNat, none⟩ (.int .i64 ji15))) ?hg ?ho ?hn ?hr ?_; (case ho => rfl); (case hg => rfl); (case hn => rfl); (case hr => first | (go_simp; done) | (go_simp; rfl)); intro w21 hw; have hg : wr.grownBy w21 (some go16) := (by rw [hw]; exact HP20.2); have hp_ : Kd.R (Kd.int .i64) 3 w21 w.heap.size (fun _ => True) (.slice (some ⟨go16, 0, none⟩) x5_2.length co19) y419 := (by rw [hw, Ny419.out]; exact HP20.1); clear HP20; have n0 := Az (hp_); have n1 := Az ((by rw [hw]; exact below_set (HB.out) GB16.out : Below w.heap.size w w21)); clear HO_5 HB; have HO_5 := n0; have HB := n1; clear n0 n1 hg hw hp_; have p420 : 0 ≤ (x7_2 : Int) := oA; have q420 : x7_2 < (l1.length : Int) := oA; obtain ⟨ad420, e420, hx420_0⟩ := Kd.at_int HR1.out x7_2 p420 q420; obtain rfl : ad415 = ad420 := (by injection e420); replace hx420_0 := (HB.out.cell (World.block_lt_of_cell? w _ hx420_0)).trans hx420_0; replace p420 := eq_true p420; replace q420 := eq_true q420; have p17 : 0 ≤ ((rd l1 x7_2) : Int) := oA; have q17 : ((rd l1 x7_2) : Int) < ((x5_2.length : Int) : Int) := oA; obtain ⟨hx17_0, hf17_0⟩ := Kd.R_celln 0 HO_5.out ((rd l1 x7_2) : Int) p17 q17; replace p17 := eq_true p17; replace q17 := eq_true q17; obtain ⟨hy22_, hz22_⟩ := Kd.R_celln 0 HO_5.out ((rd l1 x7_2) : Int) (oA) (oA); have HP22 := Kd.R_putg HO_5.out ((rd l1 x7_2) : Int) ji15) | ((with_reducible refine gate_store (t := 3) (p := 53) rfl ?_); (try (rw [drewN_self w21]; generalize hq_ : World.drewN w21 _ = w21; have n0 := Az (Kd.R_at hq_ HO_5.out); have n1 := Az (below_at hq_ HB.out); clear hq_ HO_5 HB; have HO_5 := n0; have HB := n1; clear n0 n1; (try (obtain ⟨hy22_, hz22_⟩ := Kd.R_celln 0 HO_5.out ((rd l1 x7_2) : Int) (oA) (oA))); (try (have HP22 := Kd.R_putg HO_5.out ((rd l1 x7_2) : Int) ji15)))); refine store_event (t := 3) (p := 53) (v := ?vo_w23) (w1 := (w21.setCell ⟨go16, ((rd l1 x7_2) : Int).toNat, none⟩ (.int .i64 ji15))) ?hg ?ho ?hn ?hr ?_; (case ho => rfl); (case hg => rfl); (case hn => rfl); (case hr => first | (go_simp; done) | (go_simp; rfl)); intro w23 hw; have hg : w21.grownBy w23 (some go16) := (by rw [hw]; exact HP22.2); have hp_ : Kd.R (Kd.int .i64) 3 w23 w.heap.size (fun _ => True) (.slice (some ⟨go16, 0, none⟩) x5_2.length co19) y421 := (by rw [hw, Ny421.out]; exact HP22.1); clear HP22; have n0 := Az (hp_); have n1 := Az ((by rw [hw]; exact below_set (HB.out) GB16.out : Below w.heap.size w w23)); clear HO_5 HB; have HO_5 := n0; have HB := n1; clear n0 n1 hg hw hp_; have p422 : 0 ≤ (x7_2 : Int) := oA; have q422 : x7_2 < (l0.length : Int) := oA; obtain ⟨ad422, e422, hx422_0⟩ := Kd.at_int HR0.out x7_2 p422 q422; obtain rfl : ad417 = ad422 := (by injection e422); replace hx422_0 := (HB.out.cell (World.block_lt_of_cell? w _ hx422_0)).trans hx422_0; replace p422 := eq_true p422; replace q422 := eq_true q422; have p18 : 0 ≤ ((rd l0 x7_2) : Int) := oA; have q18 : ((rd l0 x7_2) : Int) < ((x5_2.length : Int) : Int) := oA; obtain ⟨hx18_0, hf18_0⟩ := Kd.R_celln 0 HO_5.out ((rd l0 x7_2) : Int) p18 q18; replace p18 := eq_true p18; replace q18 := eq_true q18; obtain ⟨hy24_, hz24_⟩ := Kd.R_celln 0 HO_5.out ((rd l0 x7_2) : Int) (oA) (oA); have HP24 := Kd.R_putg HO_5.out ((rd l0 x7_2) : Int) ji15) | ((with_reducible refine gate_store (t := 3) (p := 60) rfl ?_); (try (rw [drewN_self w23]; generalize hq_ : World.drewN w23 _ = w23; have n0 := Az (Kd.R_at hq_ HO_5.out); have n1 := Az (below_at hq_ HB.out); clear hq_ HO_5 HB; have HO_5 := n0; have HB := n1; clear n0 n1; (try (obtain ⟨hy24_, hz24_⟩ := Kd.R_celln 0 HO_5.out ((rd l0 x7_2) : Int) (oA) (oA))); (try (have HP24 := Kd.R_putg HO_5.out ((rd l0 x7_2) : Int) ji15)))); refine store_event (t := 3) (p := 60) (v := ?vo_w25) (w1 := (w23.setCell ⟨go16, ((rd l0 x7_2) : Int).toNat, none⟩ (.int .i64 ji15))) ?hg ?ho ?hn ?hr ?_; (case ho => rfl); (case hg => rfl); (case hn => rfl); (case hr => first | (go_simp; done) | (go_simp; rfl)); intro w25 hw; have hg : w23.grownBy w25 (some go16) := (by rw [hw]; exact HP24.2); have hp_ : Kd.R (Kd.int .i64) 3 w25 w.heap.size (fun _ => True) (.slice (some ⟨go16, 0, none⟩) x5_2.length co19) y423 := (by rw [hw, Ny423.out]; exact HP24.1); clear HP24; have n0 := Az (hp_); have n1 := Az ((by rw [hw]; exact below_set (HB.out) GB16.out : Below w.heap.size w w25)); clear HO_5 HB; have HO_5 := n0; have HB := n1; clear n0 n1; clear hg hw hp_))
              repeat (go_quiet (first | ((with_reducible refine gate_store (t := 3) (p := 46) rfl ?_); (try (rw [drewN_self wr]; generalize hq_ : World.drewN wr _ = wr; have n0 := Az (Kd.R_at hq_ HO_5.out); have n1 := Az (below_at hq_ HB.out); clear hq_ HO_5 HB; have HO_5 := n0; have HB := n1; clear n0 n1; (try (obtain ⟨hy20_, hz20_⟩ := Kd.R_celln 0 HO_5.out (x7_2 : Int) (oA) (oA))); (try (have HP20 := Kd.R_putg HO_5.out (x7_2 : Int) ji15)))); refine store_event (t := 3) (p := 46) (v := ?vo_w21) (w1 := (wr.setCell ⟨go16, (x7_2 : Int).toNat, none⟩ (.int .i64 ji15))) ?hg ?ho ?hn ?hr ?_; (case ho => rfl); (case hg => rfl); (case hn => rfl); (case hr => first | (go_simp; done) | (go_simp; rfl)); intro w21 hw; have hg : wr.grownBy w21 (some go16) := (by rw [hw]; exact HP20.2); have hp_ : Kd.R (Kd.int .i64) 3 w21 w.heap.size (fun _ => True) (.slice (some ⟨go16, 0, none⟩) x5_2.length co19) y419 := (by rw [hw, Ny419.out]; exact HP20.1); clear HP20; have n0 := Az (hp_); have n1 := Az ((by rw [hw]; exact below_set (HB.out) GB16.out : Below w.heap.size w w21)); clear HO_5 HB; have HO_5 := n0; have HB := n1; clear n0 n1 hg hw hp_; have p420 : 0 ≤ (x7_2 : Int) := oA; have q420 : x7_2 < (l1.length : Int) := oA; obtain ⟨ad420, e420, hx420_0⟩ := Kd.at_int HR1.out x7_2 p420 q420; obtain rfl : ad415 = ad420 := (by injection e420); replace hx420_0 := (HB.out.cell (World.block_lt_of_cell? w _ hx420_0)).trans hx420_0; replace p420 := eq_true p420; replace q420 := eq_true q420; have p17 : 0 ≤ ((rd l1 x7_2) : Int) := oA; have q17 : ((rd l1 x7_2) : Int) < ((x5_2.length : Int) : Int) := oA; obtain ⟨hx17_0, hf17_0⟩ := Kd.R_celln 0 HO_5.out ((rd l1 x7_2) : Int) p17 q17; replace p17 := eq_true p17; replace q17 := eq_true q17; obtain ⟨hy22_, hz22_⟩ := Kd.R_celln 0 HO_5.out ((rd l1 x7_2) : Int) (oA) (oA); have HP22 := Kd.R_putg HO_5.out ((rd l1 x7_2) : Int) ji15) | ((with_reducible refine gate_store (t := 3) (p := 53) rfl ?_); (try (rw [drewN_self w21]; generalize hq_ : World.drewN w21 _ = w21; have n0 := Az (Kd.R_at hq_ HO_5.out); have n1 := Az (below_at hq_ HB.out); clear hq_ HO_5 HB; have HO_5 := n0; have HB := n1; clear n0 n1; (try (obtain ⟨hy22_, hz22_⟩ := Kd.R_celln 0 HO_5.out ((rd l1 x7_2) : Int) (oA) (oA))); (try (have HP22 := Kd.R_putg HO_5.out ((rd l1 x7_2) : Int) ji15)))); refine store_event (t := 3) (p := 53) (v := ?vo_w23) (w1 := (w21.setCell ⟨go16, ((rd l1 x7_2) : Int).toNat, none⟩ (.int .i64 ji15))) ?hg ?ho ?hn ?hr ?_; (case ho => rfl); (case hg => rfl); (case hn => rfl); (case hr => first | (go_simp; done) | (go_simp; rfl)); intro w23 hw; have hg : w21.grownBy w23 (some go16) := (by rw [hw]; exact HP22.2); have hp_ : Kd.R (Kd.int .i64) 3 w23 w.heap.size (fun _ => True) (.slice (some ⟨go16, 0, none⟩) x5_2.length co19) y421 := (by rw [hw, Ny421.out]; exact HP22.1); clear HP22; have n0 := Az (hp_); have n1 := Az ((by rw [hw]; exact below_set (HB.out) GB16.out : Below w.heap.size w w23)); clear HO_5 HB; have HO_5 := n0; have HB := n1; clear n0 n1 hg hw hp_; have p422 : 0 ≤ (x7_2 : Int) := oA; have q422 : x7_2 < (l0.length : Int) := oA; obtain ⟨ad422, e422, hx422_0⟩ := Kd.at_int HR0.out x7_2 p422 q422; obtain rfl : ad417 = ad422 := (by injection e422); replace hx422_0 := (HB.out.cell (World.block_lt_of_cell? w _ hx422_0)).trans hx422_0; replace p422 := eq_true p422; replace q422 := eq_true q422; have p18 : 0 ≤ ((rd l0 x7_2) : Int) := oA; have q18 : ((rd l0 x7_2) : Int) < ((x5_2.length : Int) : Int) := oA; obtain ⟨hx18_0, hf18_0⟩ := Kd.R_celln 0 HO_5.out ((rd l0 x7_2) : Int) p18 q18; replace p18 := eq_true p18; replace q18 := eq_true q18; obtain ⟨hy24_, hz24_⟩ := Kd.R_celln 0 HO_5.out ((rd l0 x7_2) : Int) (oA) (oA); have HP24 := Kd.R_putg HO_5.out ((rd l0 x7_2) : Int) ji15) | ((with_reducible refine gate_store (t := 3) (p := 60) rfl ?_); (try (rw [drewN_self w23]; generalize hq_ : World.drewN w23 _ = w23; have n0 := Az (Kd.R_at hq_ HO_5.out); have n1 := Az (below_at hq_ HB.out); clear hq_ HO_5 HB; have HO_5 := n0; have HB := n1; clear n0 n1; (try (obtain ⟨hy24_, hz24_⟩ := Kd.R_celln 0 HO_5.out ((rd l0 x7_2) : Int) (oA) (oA))); (try (have HP24 := Kd.R_putg HO_5.out ((rd l0 x7_2) : Int) ji15)))); refine store_event (t := 3) (p := 60) (v := ?vo_w25) (w1 := (w23.setCell ⟨go16, ((rd l0 x7_2) : Int).toNat, none⟩ (.int .i64 ji15))) ?hg ?ho ?hn ?hr ?_; (case ho => rfl); (case hg => rfl); (case hn => rfl); (case hr => first | (go_simp; done) | (go_simp; rfl)); intro w25 hw; have hg : w23.grownBy w25 (some go16) := (by rw [hw]; exact HP24.2); have hp_ : Kd.R (Kd.int .i64) 3 w25 w.heap.size (fun _ => True) (.slice (some ⟨go16, 0, none⟩) x5_2.length co19) y423 := (by rw [hw, Ny423.out]; exact HP24.1); clear HP24; have n0 := Az (hp_); have n1 := Az ((by rw [hw]; exact below_set (HB.out) GB16.out : Below w.heap.size w w25)); clear HO_5 HB; have HO_5 := n0; have HB := n1; clear n0 n1; clear hg hw hp_)); try go_wp2_with (first | ((with_reducible refine gate_store (t := 3) (p := 46) rfl ?_); (try (rw [drewN_self wr]; generalize hq_ : World.drewN wr _ = wr; have n0 := Az (Kd.R_at hq_ HO_5.out); have n1 := Az (below_at hq_ HB.out); clear hq_ HO_5 HB; have HO_5 := n0; have HB := n1; clear n0 n1; (try (obtain ⟨hy20_, hz20_⟩ := Kd.R_celln 0 HO_5.out (x7_2 : Int) (oA) (oA))); (try (have HP20 := Kd.R_putg HO_5.out (x7_2 : Int) ji15)))); refine store_event (t := 3) (p := 46) (v := ?vo_w21) (w1 := (wr.setCell ⟨go16, (x7_2 : Int).toNat, none⟩ (.int .i64 ji15))) ?hg ?ho ?hn ?hr ?_; (case ho => rfl); (case hg => rfl); (case hn => rfl); (case hr => first | (go_simp; done) | (go_simp; rfl)); intro w21 hw; have hg : wr.grownBy w21 (some go16) := (by rw [hw]; exact HP20.2); have hp_ : Kd.R (Kd.int .i64) 3 w21 w.heap.size (fun _ => True) (.slice (some ⟨go16, 0, none⟩) x5_2.length co19) y419 := (by rw [hw, Ny419.out]; exact HP20.1); clear HP20; have n0 := Az (hp_); have n1 := Az ((by rw [hw]; exact below_set (HB.out) GB16.out : Below w.heap.size w w21)); clear HO_5 HB; have HO_5 := n0; have HB := n1; clear n0 n1 hg hw hp_; have p420 : 0 ≤ (x7_2 : Int) := oA; have q420 : x7_2 < (l1.length : Int) := oA; obtain ⟨ad420, e420, hx420_0⟩ := Kd.at_int HR1.out x7_2 p420 q420; obtain rfl : ad415 = ad420 := (by injection e420); replace hx420_0 := (HB.out.cell (World.block_lt_of_cell? w _ hx420_0)).trans hx420_0; replace p420 := eq_true p420; replace q420 := eq_true q420; have p17 : 0 ≤ ((rd l1 x7_2) : Int) := oA; have q17 : ((rd l1 x7_2) : Int) < ((x5_2.length : Int) : Int) := oA; obtain ⟨hx17_0, hf17_0⟩ := Kd.R_celln 0 HO_5.out ((rd l1 x7_2) : Int) p17 q17; replace p17 := eq_true p17; replace q17 := eq_true q17; obtain ⟨hy22_, hz22_⟩ := Kd.R_celln 0 HO_5.out ((rd l1 x7_2) : Int) (oA) (oA); have HP22 := Kd.R_putg HO_5.out ((rd l1 x7_2) : Int) ji15) | ((with_reducible refine gate_store (t := 3) (p := 53) rfl ?_); (try (rw [drewN_self w21]; generalize hq_ : World.drewN w21 _ = w21; have n0 := Az (Kd.R_at hq_ HO_5.out); have n1 := Az (below_at hq_ HB.out); clear hq_ HO_5 HB; have HO_5 := n0; have HB := n1; clear n0 n1; (try (obtain ⟨hy22_, hz22_⟩ := Kd.R_celln 0 HO_5.out ((rd l1 x7_2) : Int) (oA) (oA))); (try (have HP22 := Kd.R_putg HO_5.out ((rd l1 x7_2) : Int) ji15)))); refine store_event (t := 3) (p := 53) (v := ?vo_w23) (w1 := (w21.setCell ⟨go16, ((rd l1 x7_2) : Int).toNat, none⟩ (.int .i64 ji15))) ?hg ?ho ?hn ?hr ?_; (case ho => rfl); (case hg => rfl); (case hn => rfl); (case hr => first | (go_simp; done) | (go_simp; rfl)); intro w23 hw; have hg : w21.grownBy w23 (some go16) := (by rw [hw]; exact HP22.2); have hp_ : Kd.R (Kd.int .i64) 3 w23 w.heap.size (fun _ => True) (.slice (some ⟨go16, 0, none⟩) x5_2.length co19) y421 := (by rw [hw, Ny421.out]; exact HP22.1); clear HP22; have n0 := Az (hp_); have n1 := Az ((by rw [hw]; exact below_set (HB.out) GB16.out : Below w.heap.size w w23)); clear HO_5 HB; have HO_5 := n0; have HB := n1; clear n0 n1 hg hw hp_; have p422 : 0 ≤ (x7_2 : Int) := oA; have q422 : x7_2 < (l0.length : Int) := oA; obtain ⟨ad422, e422, hx422_0⟩ := Kd.at_int HR0.out x7_2 p422 q422; obtain rfl : ad417 = ad422 := (by injection e422); replace hx422_0 := (HB.out.cell (World.block_lt_of_cell? w _ hx422_0)).trans hx422_0; replace p422 := eq_true p422; replace q422 := eq_true q422; have p18 : 0 ≤ ((rd l0 x7_2) : Int) := oA; have q18 : ((rd l0 x7_2) : Int) < ((x5_2.length : Int) : Int) := oA; obtain ⟨hx18_0, hf18_0⟩ := Kd.R_celln 0 HO_5.out ((rd l0 x7_2) : Int) p18 q18; replace p18 := eq_true p18; replace q18 := eq_true q18; obtain ⟨hy24_, hz24_⟩ := Kd.R_celln 0 HO_5.out ((rd l0 x7_2) : Int) (oA) (oA); have HP24 := Kd.R_putg HO_5.out ((rd l0 x7_2) : Int) ji15) | ((with_reducible refine gate_store (t := 3) (p := 60) rfl ?_); (try (rw [drewN_self w23]; generalize hq_ : World.drewN w23 _ = w23; have n0 := Az (Kd.R_at hq_ HO_5.out); have n1 := Az (below_at hq_ HB.out); clear hq_ HO_5 HB; have HO_5 := n0; have HB := n1; clear n0 n1; (try (obtain ⟨hy24_, hz24_⟩ := Kd.R_celln 0 HO_5.out ((rd l0 x7_2) : Int) (oA) (oA))); (try (have HP24 := Kd.R_putg HO_5.out ((rd l0 x7_2) : Int) ji15)))); refine store_event (t := 3) (p := 60) (v := ?vo_w25) (w1 := (w23.setCell ⟨go16, ((rd l0 x7_2) : Int).toNat, none⟩ (.int .i64 ji15))) ?hg ?ho ?hn ?hr ?_; (case ho => rfl); (case hg => rfl); (case hn => rfl); (case hr => first | (go_simp; done) | (go_simp; rfl)); intro w25 hw; have hg : w23.grownBy w25 (some go16) := (by rw [hw]; exact HP24.2); have hp_ : Kd.R (Kd.int .i64) 3 w25 w.heap.size (fun _ => True) (.slice (some ⟨go16, 0, none⟩) x5_2.length co19) y423 := (by rw [hw, Ny423.out]; exact HP24.1); clear HP24; have n0 := Az (hp_); have n1 := Az ((by rw [hw]; exact below_set (HB.out) GB16.out : Below w.heap.size w w25)); clear HO_5 HB; have HO_5 := n0; have HB := n1; clear n0 n1; clear hg hw hp_)))
              (first | go_roundg k2 | (refine Handed.intro k2 ?measure ?_; rotate_left; go_step; (try simp only [add_plain]); (repeat apply Exists.intro); refine ⟨?rel, rfl⟩))
              case measure => have := HK1.out; have := HK2.out; omega
              case rel => exact ⟨(y423), (wrap64 (x7_2 + 1)), rS, H', ⟨by have := HK1.out; have := HK2.out; omega⟩, ⟨rU HO_5.out⟩, ⟨bU0 HB.out⟩⟩
             ·
              rw [if_neg c13] at H
              exact absurd H (by simp)
            ·
             rw [if_neg c12] at H
             exact absurd H (by simp)
           ·
            rw [if_neg c11] at H
            exact absurd H (by simp)
          ·
           rw [if_neg c10] at H
           exact absurd H (by simp)
         ·
          rw [if_neg c9] at H
          exact absurd H (by simp)
        ·
         rw [if_neg c8] at H
         exact absurd H (by simp)
       ·
        rw [if_neg c7] at H
        exact absurd H (by simp)
      ·
       rw [if_neg c6] at H; have c6b0 := decide_eq_false c6; clear c6; have H' := Az H; clear H
       go_wp2
       repeat (go_quiet (fail); try go_wp2)
       (first | go_roundg k2 | (refine Handed.intro k2 ?measure ?_; rotate_left; go_step; (try simp only [add_plain]); (repeat apply Exists.intro); refine ⟨?rel, rfl⟩))
       case measure => have := HK1.out; have := HK2.out; omega
       case rel => exact ⟨(x5_2), (wrap64 (x6_1 + 1)), rS, H', ⟨by have := HK1.out; have := HK2.out; omega⟩, ⟨rU HO_5.out⟩, ⟨bU0 HB.out⟩⟩
   ·
    rw [if_neg c5] at H; have c5b0 := decide_eq_false c5; clear c5; obtain rfl := Option.some.inj H
    go_wp2
    repeat (go_quiet (fail); try go_wp2)
    go_ret
    exact ⟨_, rE, rU HO_5.out, bU0 HB.out⟩
mutual
def spec_l5Count.l0 : Nat → List (List Int) → Int → List Int → List Int → Bool → Int → List (List Int) → Int → Option (Int)
 | 0, _, _, _, _, _, _, _, _ => none
 | k + 1, x0, x1, x2, x3, x4, x11, x12, x13 => if x13 < (x12.length : Int) then (if 0 ≤ x13 then ((spec_l1Mul.f k x2 (rd_L1 x12 x13)).bind fun t431 => ((spec_l5Join.f k x3 (rd_L1 x12 x13)).bind fun t435 => ((spec_l5Count.f k x0 (wrap64 (x1 + 1)) t431 t435 x4).bind fun t438 => (spec_l5Count.l0 k x0 x1 x2 x3 x4 (wrap64 (x11 + t438)) x12 (wrap64 (x13 + 1)))))) else (none)) else (some x11)
def spec_l5Count.f : Nat → List (List Int) → Int → List Int → List Int → Bool → Option (Int)
 | 0, _, _, _, _, _ => none
 | k + 1, l0, a1, l2, l3, a4 => if a1 = (l0.length : Int) then ((spec_l1Moves.f k l2).bind fun t424 => (if t424 = true then (some 0) else (if a4 = true then ((spec_l5Sum.f k l3).bind fun t425 => (if t425 > 0 then (some 0) else (some 1))) else (some 1)))) else (if 0 ≤ a1 then (if a1 < (l0.length : Int) then ((spec_l5Class.f k (rd_L1 l0 a1)).bind fun t427 => (spec_l5Count.l0 k l0 a1 l2 l3 a4 0 t427 0)) else (none)) else (none))
end
def spec_l5Count.T10 : Bool × List (List Nat × List Nat) := (true, [([], []), ([], []), ([], []), ([2], [2]), ([], []), ([], []), ([], []), ([5, 6], [5, 6]), ([7], [7]), ([4, 8], [4, 8]), ([], []), ([], []), ([], []), ([11, 12], [11, 12]), ([13], [13]), ([10, 14, 9], [10, 14]), ([], []), ([1, 3, 9, 15, 16, 15], [1, 3, 9, 15, 16]), ([0, 17], [0, 17]), ([18, 17, 0, 1, 2, 3, 4, 5, 6, 7, 8, 9, 10, 11, 12, 13, 14, 15, 16, 17, 18], [0, 18])])
def spec_l5Count.B10 : List Nat := [0, 0, 0, 4, 0, 0, 0, 96, 224, 496, 0, 0, 0, 6144, 14336, 32752, 0, 131070, 262143, 524287]
theorem spec_l5Count.tab10 : rtab .any (opsOf Try.f93 10) = spec_l5Count.T10 := by kernel_rfl
theorem spec_l5Count.bits10 : waitsOk spec_l5Count.T10.2 spec_l5Count.B10 = true := by kernel_rfl
set_option maxHeartbeats 8000000 in
set_option maxRecDepth 100000 in
theorem spec_l5Count.calls (k : Nat) : ∀ (A0 : Option Addr) (c0 : Nat) (l0 : List (List Int)) (a1 : Int) (A2 : Option Addr) (c2 : Nat) (l2 : List Int) (A3 : Option Addr) (c3 : Nat) (l3 : List Int) (a4 : Bool) (r : Int) (w : World) (hr0 : Kd.C (Kd.slice 3 (Kd.int .i64)) w A0 l0.length l0) (hc0 : l0.length ≤ c0) (hr2 : Kd.C (Kd.int .i64) w A2 l2.length l2) (hc2 : l2.length ≤ c2) (hr3 : Kd.C (Kd.int .i64) w A3 l3.length l3) (hc3 : l3.length ≤ c3) (h : spec_l5Count.f k l0 a1 l2 l3 a4 = some r),
  Calls Try.prog 93 #[.slice A0 l0.length c0, .int .i64 a1, .slice A2 l2.length c2, .slice A3 l3.length c3, .bool a4] w fun e w' => e = .returned (.int .i64 r) ∧ Below w.heap.size w w' := by
 induction k using Nat.strongRecOn with
 | _ k ih =>
 intro A0 c0 l0 a1 A2 c2 l2 A3 c3 l3 a4 r w hr0 hc0 hr2 hc2 hr3 hc3 h
 cases k with
 | zero => exact absurd h (by simp [spec_l5Count.f])
 | succ k =>
 simp only [spec_l5Count.f] at h; have HR0 := Az hr0; have HC0 := Az hc0; clear hr0 hc0; have HR2 := Az hr2; have HC2 := Az hc2; clear hr2 hc2; have HR3 := Az hr3; have HC3 := Az hc3; clear hr3 hc3; have HB := Az (Below.refl w.heap.size w); have H : (if a1 = (l0.length : Int) then ((spec_l1Moves.f k l2).bind fun t424 => (if t424 = true then (some 0) else (if a4 = true then ((spec_l5Sum.f k l3).bind fun t425 => (if t425 > 0 then (some 0) else (some 1))) else (some 1)))) else (if 0 ≤ a1 then (if a1 < (l0.length : Int) then ((spec_l5Class.f k (rd_L1 l0 a1)).bind fun t427 => (spec_l5Count.l0 k l0 a1 l2 l3 a4 0 t427 0)) else (none)) else (none))) = some r := h; clear h
 by_cases c6 : a1 = (l0.length : Int)
 ·
  rw [if_pos c6] at H; have c6b0 := beq_iff_eq.mpr c6; have c6b1 := bne_eq_false_iff_eq.mpr c6; clear c6; replace H := Option.bind_eq_some_iff.mp H; obtain ⟨t424, A70, H⟩ := H; replace H : (if t424 = true then (some 0) else (if a4 = true then ((spec_l5Sum.f k l3).bind fun t425 => (if t425 > 0 then (some 0) else (some 1))) else (some 1))) = some r := H; have A7 := Az A70; clear A70
  by_cases c8 : t424 = true
  ·
   subst c8
   have H1 : (some 0) = some r := by rw [if_pos rfl] at H; exact H
   clear H; have H := H1; clear H1; obtain rfl := Option.some.inj H
   go_enter Try.func93, Try.ntmps93
   go_wp2_with (first | ((with_reducible refine gate_callee (f := 135) rfl ?_); refine goesL_ (some 19) rfl rfl Try.func135 (by kernel_rfl) rfl #[.slice A2 l2.length c2] rfl (by (try simp only [List.map_toArray, List.map_cons, List.map_nil]); first | done | rfl | (simp only [List.length_drop, List.length_take]; rfl)) ?_; (with_reducible refine (spec_l1Moves.calls k _ _ l2 true _ ?side1 ?side2 A7.out).mono ?_); (case side1 => exact cU (HR2.out)); (case side2 => exact HC2.out); rintro e w' ⟨rfl, ⟨nd, rfl⟩⟩; refine ⟨_, rfl, ?_⟩))
   go_ret
   exact ⟨rE, bU0 HB.out⟩
  ·
   replace c8 := Bool.eq_false_iff.mpr c8; subst c8
   have H1 : (if a4 = true then ((spec_l5Sum.f k l3).bind fun t425 => (if t425 > 0 then (some 0) else (some 1))) else (some 1)) = some r := by rw [if_neg (show ¬ (false = true) by decide)] at H; exact H
   clear H; have H := H1; clear H1
   by_cases c9 : a4 = true
   ·
    subst c9
    have H1 : ((spec_l5Sum.f k l3).bind fun t425 => (if t425 > 0 then (some 0) else (some 1))) = some r := by rw [if_pos rfl] at H; exact H
    clear H; have H := H1; clear H1; replace H := Option.bind_eq_some_iff.mp H; obtain ⟨t425, A100, H⟩ := H; replace H : (if t425 > 0 then (some 0) else (some 1)) = some r := H; have A10 := Az A100; clear A100
    by_cases c11 : t425 > 0
    ·
     rw [if_pos c11] at H; have c11b0 := decide_eq_true c11; clear c11; obtain rfl := Option.some.inj H
     go_enter Try.func93, Try.ntmps93
     go_wp2_with (first | ((with_reducible refine gate_callee (f := 135) rfl ?_); refine goesL_ (some 19) rfl rfl Try.func135 (by kernel_rfl) rfl #[.slice A2 l2.length c2] rfl (by (try simp only [List.map_toArray, List.map_cons, List.map_nil]); first | done | rfl | (simp only [List.length_drop, List.length_take]; rfl)) ?_; (with_reducible refine (spec_l1Moves.calls k _ _ l2 false _ ?side1 ?side2 A7.out).mono ?_); (case side1 => exact cU (HR2.out)); (case side2 => exact HC2.out); rintro e w' ⟨rfl, ⟨nd, rfl⟩⟩; refine ⟨_, rfl, ?_⟩) | (go_at_call 92; (with_reducible refine (spec_l5Sum.calls k _ _ l3 t425 _ ?side1 ?side2 A10.out).mono ?_); (case side1 => exact cU (HR3.out)); (case side2 => exact HC3.out); rintro e w' ⟨rfl, ⟨nd, rfl⟩⟩))
     go_ret
     exact ⟨rE, bU0 HB.out⟩
    ·
     rw [if_neg c11] at H; have c11b0 := decide_eq_false c11; clear c11; obtain rfl := Option.some.inj H
     go_enter Try.func93, Try.ntmps93
     go_wp2_with (first | ((with_reducible refine gate_callee (f := 135) rfl ?_); refine goesL_ (some 19) rfl rfl Try.func135 (by kernel_rfl) rfl #[.slice A2 l2.length c2] rfl (by (try simp only [List.map_toArray, List.map_cons, List.map_nil]); first | done | rfl | (simp only [List.length_drop, List.length_take]; rfl)) ?_; (with_reducible refine (spec_l1Moves.calls k _ _ l2 false _ ?side1 ?side2 A7.out).mono ?_); (case side1 => exact cU (HR2.out)); (case side2 => exact HC2.out); rintro e w' ⟨rfl, ⟨nd, rfl⟩⟩; refine ⟨_, rfl, ?_⟩) | (go_at_call 92; (with_reducible refine (spec_l5Sum.calls k _ _ l3 t425 _ ?side1 ?side2 A10.out).mono ?_); (case side1 => exact cU (HR3.out)); (case side2 => exact HC3.out); rintro e w' ⟨rfl, ⟨nd, rfl⟩⟩))
     go_ret
     exact ⟨rE, bU0 HB.out⟩
   ·
    replace c9 := Bool.eq_false_iff.mpr c9; subst c9
    have H1 : (some 1) = some r := by rw [if_neg (show ¬ (false = true) by decide)] at H; exact H
    clear H; have H := H1; clear H1; obtain rfl := Option.some.inj H
    go_enter Try.func93, Try.ntmps93
    go_wp2_with (first | ((with_reducible refine gate_callee (f := 135) rfl ?_); refine goesL_ (some 19) rfl rfl Try.func135 (by kernel_rfl) rfl #[.slice A2 l2.length c2] rfl (by (try simp only [List.map_toArray, List.map_cons, List.map_nil]); first | done | rfl | (simp only [List.length_drop, List.length_take]; rfl)) ?_; (with_reducible refine (spec_l1Moves.calls k _ _ l2 false _ ?side1 ?side2 A7.out).mono ?_); (case side1 => exact cU (HR2.out)); (case side2 => exact HC2.out); rintro e w' ⟨rfl, ⟨nd, rfl⟩⟩; refine ⟨_, rfl, ?_⟩))
    go_ret
    exact ⟨rE, bU0 HB.out⟩
 ·
  rw [if_neg c6] at H; have c6b0 := beq_eq_false_iff_ne.mpr c6; have c6b1 := bne_iff_ne.mpr c6
  by_cases c12 : 0 ≤ a1
  ·
   rw [if_pos c12] at H; have c12b0 := decide_eq_true c12; clear c12
   by_cases c13 : a1 < (l0.length : Int)
   ·
    rw [if_pos c13] at H; have c13b0 := decide_eq_true c13; clear c13; replace H := Option.bind_eq_some_iff.mp H; obtain ⟨t427, A140, H⟩ := H; replace H : (spec_l5Count.l0 k l0 a1 l2 l3 a4 0 t427 0) = some r := H; have A14 := Az A140; clear A140; have H' := Az H; clear H; have p426 : 0 ≤ (a1 : Int) := oA; have q426 : a1 < (l0.length : Int) := oA; obtain ⟨ad426, A426_0, c426_0, e426, hx426_0, hl426_0, hi426_0⟩ := at_L1 HR0.out a1 p426 q426
    cases e426
    have HR426_0 := Az hi426_0; have HC426_0 := Az hl426_0; clear hi426_0 hl426_0; replace p426 := eq_true p426; replace q426 := eq_true q426
    go_enter Try.func93, Try.ntmps93
    go_wp2_with (first | ((with_reducible refine gate_callee (f := 136) rfl ?_); refine goesL_ (some 32) rfl rfl Try.func136 (by kernel_rfl) rfl #[.slice A426_0 (rd_L1 l0 a1).length c426_0] rfl (by (try simp only [List.map_toArray, List.map_cons, List.map_nil]); first | done | rfl | (simp only [List.length_drop, List.length_take]; rfl)) ?_; (with_reducible refine (spec_l5Class.calls k _ _ (rd_L1 l0 a1) t427 _ ?side1 ?side2 A14.out).mono ?_); (case side1 => exact cU (HR426_0.out)); (case side2 => exact HC426_0.out); rintro e w15 ⟨v428, rfl, ho0, hb⟩; refine ⟨_, rfl, ?_⟩; have n0 := Az (Kd.S_lower ho0 (below_size (bU0 HB.out))); have n1 := Az (below_step (bU0 HB.out) hb); clear HB; have HO429 := n0; have HB := n1; clear n0 n1; (try clear hb); (try clear hb2); (try clear hk); (try clear hi); (try clear ho0)))
    go_loopg [11, 13] k (fun kq v11 v13 w' => ∃ (x11_1 : Int) (x13_1 : Int), v11 = .int .i64 x11_1 ∧ v13 = .int .i64 x13_1 ∧ Aside0 (spec_l5Count.l0 kq l0 a1 l2 l3 a4 x11_1 t427 x13_1 = some r) ∧ Aside0 (kq ≤ k) ∧ Aside0 (Kd.S (Kd.slice 3 (Kd.int .i64)) 23 w' w.heap.size (fun _ => True) v428 t427) ∧ Aside0 (Below w.heap.size w w'))
    case atStart => exact ⟨(0), (0), rS, rS, H', ⟨Nat.le_refl _⟩, ⟨sU HO429.out⟩, ⟨bU0 HB.out⟩⟩
    case round =>
     clear H'; (try clear c1); (try clear c2); (try clear p2); (try clear c3); (try clear c4); (try clear p4); (try clear q4); (try clear hx4); (try clear c6); (try clear c6b0); (try clear c6b1); (try clear c8); (try clear c9); (try clear c11); (try clear c11b0); (try clear c12); (try clear c12b0); (try clear c13); (try clear c13b0); (try clear hx426_0); (try clear p426); (try clear q426); obtain ⟨x11_1, x13_1, rfl, rfl, HA, HK1, HO_12, HB⟩ := hrel
     cases gk with
     | zero => exact absurd HA.out (by simp [spec_l5Count.l0])
     | succ k1 =>
      have H := HA.out; clear HA; simp only [spec_l5Count.l0] at H
      by_cases c16 : x13_1 < (t427.length : Int)
      ·
       rw [if_pos c16] at H; have c16b0 := decide_eq_true c16; clear c16
       by_cases c17 : 0 ≤ x13_1
       ·
        rw [if_pos c17] at H; have c17b0 := decide_eq_true c17; clear c17; replace H := Option.bind_eq_some_iff.mp H; obtain ⟨t431, A180, H⟩ := H; replace H : ((spec_l5Join.f k1 l3 (rd_L1 t427 x13_1)).bind fun t435 => ((spec_l5Count.f k1 l0 (wrap64 (a1 + 1)) t431 t435 a4).bind fun t438 => (spec_l5Count.l0 k1 l0 a1 l2 l3 a4 (wrap64 (x11_1 + t438)) t427 (wrap64 (x13_1 + 1))))) = some r := H; have A18 := Az A180; clear A180; replace H := Option.bind_eq_some_iff.mp H; obtain ⟨t435, A190, H⟩ := H; replace H : ((spec_l5Count.f k1 l0 (wrap64 (a1 + 1)) t431 t435 a4).bind fun t438 => (spec_l5Count.l0 k1 l0 a1 l2 l3 a4 (wrap64 (x11_1 + t438)) t427 (wrap64 (x13_1 + 1)))) = some r := H; have A19 := Az A190; clear A190; replace H := Option.bind_eq_some_iff.mp H; obtain ⟨t438, A200, H⟩ := H; replace H : (spec_l5Count.l0 k1 l0 a1 l2 l3 a4 (wrap64 (x11_1 + t438)) t427 (wrap64 (x13_1 + 1))) = some r := H; have A20 := Az A200; clear A200; have H' := Az H; clear H; obtain ⟨Ao21, co21, eo21⟩ := Kd.S_slice HO_12.out; subst eo21
        try go_wp2
        have n0 := Az (Kd.S_drew HO_12.out); have n1 := Az (below_drew1 HB.out); clear HO_12 HB; have HO_12 := n0; have HB := n1; clear n0 n1; have p430 : 0 ≤ (x13_1 : Int) := oA; have q430 : x13_1 < (t427.length : Int) := oA; obtain ⟨ad430, A430_0, c430_0, e430, hx430_0, hl430_0, hi430_0⟩ := at_L1 (Kd.S_reads' HO_12.out).2.2 x13_1 p430 q430
        cases e430
        obtain ⟨ce430, hce430, hMe430, hcc430⟩ := Kd.S_get HO_12.out [] x13_1 p430 (by first | exact q430 | exact oA | (have e_ := (Kd.S_reads' HO_12.out).1; omega)); obtain ⟨ve430_0, rfl, ge430_0⟩ := hMe430; have hv430_0 := hcc430 0 _ rfl; rw [Nat.add_zero, show ((Kd.slice 3 (Kd.int .i64))).sz = 1 from rfl, Nat.mul_one] at hv430_0; replace hv430_0 := Option.some.inj (hv430_0.symm.trans hx430_0); rw [hv430_0] at ge430_0; have HL430_0 := Az (show Kd.R (Kd.int .i64) 3 _ _ _ _ (rd_L1 t427 x13_1) from ge430_0); clear hv430_0 ge430_0 hcc430 hce430; have HR430_0 := Az hi430_0; have HC430_0 := Az hl430_0; clear hi430_0 hl430_0; replace p430 := eq_true p430; replace q430 := eq_true q430; have p434 : 0 ≤ (x13_1 : Int) := oA; have q434 : x13_1 < (t427.length : Int) := oA; obtain ⟨ad434, A434_0, c434_0, e434, hx434_0, hl434_0, hi434_0⟩ := at_L1 (Kd.S_reads' HO_12.out).2.2 x13_1 p434 q434; obtain rfl : ad430 = ad434 := (by injection e434); obtain ⟨ce434, hce434, hMe434, hcc434⟩ := Kd.S_get HO_12.out [] x13_1 p434 (by first | exact q434 | exact oA | (have e_ := (Kd.S_reads' HO_12.out).1; omega)); obtain ⟨ve434_0, rfl, ge434_0⟩ := hMe434; have hv434_0 := hcc434 0 _ rfl; rw [Nat.add_zero, show ((Kd.slice 3 (Kd.int .i64))).sz = 1 from rfl, Nat.mul_one] at hv434_0; replace hv434_0 := Option.some.inj (hv434_0.symm.trans hx434_0); rw [hv434_0] at ge434_0; have HL434_0 := Az (show Kd.R (Kd.int .i64) 3 _ _ _ _ (rd_L1 t427 x13_1) from ge434_0); clear hv434_0 ge434_0 hcc434 hce434; have HR434_0 := Az hi434_0; have HC434_0 := Az hl434_0; clear hi434_0 hl434_0; replace p434 := eq_true p434; replace q434 := eq_true q434; have ea_ := Option.some.inj (hx430_0.symm.trans hx434_0); injection ea_ with ea_ en_ ec_; subst ea_; subst ec_; clear en_
        refine start_ (n := 20) (S := fun w' => w'.cell? (ad430.add (x13_1).toNat) = some (.slice A430_0 (rd_L1 t427 x13_1).length c430_0) ∧ w'.cell? (ad430.add (x13_1).toNat) = some (.slice A430_0 (rd_L1 t427 x13_1).length c430_0)) (ds := []) #[false, false, false, false, false, false, false, false, false, false, false, false, false, false, false, false, false, false, false, false] (by kernel_rfl) rfl rfl ⟨hx430_0, hx434_0⟩ (fun hHeld => ?_); refine with_tabW spec_l5Count.tab10 spec_l5Count.bits10 (fun HT_ HW_ => ?_)
        generalize wr.drew = w22 at HO_12 HB HL430_0 HL434_0 HR430_0 HR434_0 hx430_0 hx434_0 hHeld ⊢
        refine pure_ (i := 0) (N := some 39) (v := ?_) (a' := ?_) #[true, false, false, false, false, false, false, false, false, false, false, false, false, false, false, false, false, false, false, false] rfl rfl (any_of HT_.out (by kernel_rfl)) (fun _ _ _ h => h) (Or.inl ⟨by rfl, ?_⟩) ?_ ?_
        rotate_left
        ·
         intro w'
         go_simp
         with_reducible rfl
        rotate_left
        ·
         simp only [Act.put, List.setIfInBounds_toArray, List.set_cons_zero, List.set_cons_succ, i64_w, i32_w]
         rfl
        refine pure_ (i := 1) (N := some 40) (v := ?_) (a' := ?_) #[true, true, false, false, false, false, false, false, false, false, false, false, false, false, false, false, false, false, false, false] rfl rfl (any_of HT_.out (by kernel_rfl)) (fun _ _ _ h => h) (Or.inl ⟨by rfl, ?_⟩) ?_ ?_
        rotate_left
        ·
         intro w'
         go_simp
         with_reducible rfl
        rotate_left
        ·
         simp only [Act.put, List.setIfInBounds_toArray, List.set_cons_zero, List.set_cons_succ, i64_w, i32_w]
         rfl
        refine pure_ (i := 2) (N := some 41) (v := ?_) (a' := ?_) #[true, true, true, false, false, false, false, false, false, false, false, false, false, false, false, false, false, false, false, false] rfl rfl (any_of HT_.out (by kernel_rfl)) (fun _ _ _ h => h) (Or.inl ⟨by rfl, ?_⟩) ?_ ?_
        rotate_left
        ·
         intro w'
         go_simp
         with_reducible rfl
        rotate_left
        ·
         simp only [Act.put, List.setIfInBounds_toArray, List.set_cons_zero, List.set_cons_succ, i64_w, i32_w]
         rfl
        refine pure_ (i := 3) (N := some 42) (v := ?_) (a' := ?_) #[true, true, true, true, false, false, false, false, false, false, false, false, false, false, false, false, false, false, false, false] rfl rfl (any_of HT_.out (by kernel_rfl)) (fun _ _ _ h => h) (Or.inl ⟨by rfl, ?_⟩) ?_ ?_
        rotate_left
        ·
         intro w'
         go_simp
         with_reducible rfl
        rotate_left
        ·
         simp only [Act.put, List.setIfInBounds_toArray, List.set_cons_zero, List.set_cons_succ, i64_w, i32_w]
         rfl
        refine pure_ (i := 4) (N := some 43) (v := ?_) (a' := ?_) #[true, true, true, true, true, false, false, false, false, false, false, false, false, false, false, false, false, false, false, false] rfl rfl (any_of HT_.out (by kernel_rfl)) (fun _ _ _ h => h) (Or.inl ⟨by rfl, ?_⟩) ?_ ?_
        rotate_left
        ·
         intro w'
         go_simp
         with_reducible rfl
        rotate_left
        ·
         simp only [Act.put, List.setIfInBounds_toArray, List.set_cons_zero, List.set_cons_succ, i64_w, i32_w]
         rfl
        refine pure_ (i := 5) (N := some 44) (v := ?_) (a' := ?_) #[true, true, true, true, true, true, false, false, false, false, false, false, false, false, false, false, false, false, false, false] rfl rfl (any_of HT_.out (by kernel_rfl)) (fun _ _ _ h => h) (Or.inl ⟨by rfl, ?_⟩) ?_ ?_
        rotate_left
        ·
         intro w'
         go_simp
         with_reducible rfl
        rotate_left
        ·
         simp only [Act.put, List.setIfInBounds_toArray, List.set_cons_zero, List.set_cons_succ, i64_w, i32_w]
         rfl
        refine pure_ (i := 6) (N := some 45) (v := ?_) (a' := ?_) #[true, true, true, true, true, true, true, false, false, false, false, false, false, false, false, false, false, false, false, false] rfl rfl (any_of HT_.out (by kernel_rfl)) (fun _ _ _ h => h) (Or.inl ⟨by rfl, ?_⟩) ?_ ?_
        rotate_left
        ·
         intro w'
         go_simp
         with_reducible rfl
        rotate_left
        ·
         simp only [Act.put, List.setIfInBounds_toArray, List.set_cons_zero, List.set_cons_succ, i64_w, i32_w]
         rfl
        refine pure_ (i := 7) (N := some 46) (v := ?_) (a' := ?_) #[true, true, true, true, true, true, true, true, false, false, false, false, false, false, false, false, false, false, false, false] rfl rfl (any_of HT_.out (by kernel_rfl)) (fun _ _ _ h => h) (Or.inl ⟨by rfl, ?_⟩) ?_ ?_
        rotate_left
        ·
         intro w'
         go_simp
         with_reducible rfl
        rotate_left
        ·
         simp only [Act.put, List.setIfInBounds_toArray, List.set_cons_zero, List.set_cons_succ, i64_w, i32_w]
         rfl
        refine pure_ (i := 10) (N := some 49) (v := ?_) (a' := ?_) #[true, true, true, true, true, true, true, true, false, false, true, false, false, false, false, false, false, false, false, false] rfl rfl (any_of HT_.out (by kernel_rfl)) (fun _ _ _ h => h) (Or.inl ⟨by rfl, ?_⟩) ?_ ?_
        rotate_left
        ·
         intro w'
         go_simp
         with_reducible rfl
        rotate_left
        ·
         simp only [Act.put, List.setIfInBounds_toArray, List.set_cons_zero, List.set_cons_succ, i64_w, i32_w]
         rfl
        refine pure_ (i := 11) (N := some 50) (v := ?_) (a' := ?_) #[true, true, true, true, true, true, true, true, false, false, true, true, false, false, false, false, false, false, false, false] rfl rfl (any_of HT_.out (by kernel_rfl)) (fun _ _ _ h => h) (Or.inl ⟨by rfl, ?_⟩) ?_ ?_
        rotate_left
        ·
         intro w'
         go_simp
         with_reducible rfl
        rotate_left
        ·
         simp only [Act.put, List.setIfInBounds_toArray, List.set_cons_zero, List.set_cons_succ, i64_w, i32_w]
         rfl
        refine pure_ (i := 12) (N := some 51) (v := ?_) (a' := ?_) #[true, true, true, true, true, true, true, true, false, false, true, true, true, false, false, false, false, false, false, false] rfl rfl (any_of HT_.out (by kernel_rfl)) (fun _ _ _ h => h) (Or.inl ⟨by rfl, ?_⟩) ?_ ?_
        rotate_left
        ·
         intro w'
         go_simp
         with_reducible rfl
        rotate_left
        ·
         simp only [Act.put, List.setIfInBounds_toArray, List.set_cons_zero, List.set_cons_succ, i64_w, i32_w]
         rfl
        refine pure_ (i := 13) (N := some 52) (v := ?_) (a' := ?_) #[true, true, true, true, true, true, true, true, false, false, true, true, true, true, false, false, false, false, false, false] rfl rfl (any_of HT_.out (by kernel_rfl)) (fun _ _ _ h => h) (Or.inl ⟨by rfl, ?_⟩) ?_ ?_
        rotate_left
        ·
         intro w'
         go_simp
         with_reducible rfl
        rotate_left
        ·
         simp only [Act.put, List.setIfInBounds_toArray, List.set_cons_zero, List.set_cons_succ, i64_w, i32_w]
         rfl
        refine pure_ (i := 16) (N := some 55) (v := ?_) (a' := ?_) #[true, true, true, true, true, true, true, true, false, false, true, true, true, true, false, false, true, false, false, false] rfl rfl (any_of HT_.out (by kernel_rfl)) (fun _ _ _ h => h) (Or.inl ⟨by rfl, ?_⟩) ?_ ?_
        rotate_left
        ·
         intro w'
         go_simp
         with_reducible rfl
        rotate_left
        ·
         simp only [Act.put, List.setIfInBounds_toArray, List.set_cons_zero, List.set_cons_succ, i64_w, i32_w]
         rfl
        refine take_ (i := 8) (N := some 47) (v := ?_) (a' := ?_) #[true, true, true, true, true, true, true, true, true, false, true, true, true, true, false, false, true, false, false, false] rfl rfl (take_ofW HT_.out HW_.out (by kernel_rfl)) (fun _ _ _ h => h) (Or.inl ⟨by rfl, ?_⟩) hHeld ?_ ?_
        rotate_left
        ·
         rintro w' ⟨s0, s1⟩
         go_simp
         with_reducible rfl
        rotate_left
        ·
         simp only [Act.put, List.setIfInBounds_toArray, List.set_cons_zero, List.set_cons_succ, i64_w, i32_w]
         rfl
        refine take_ (i := 14) (N := some 53) (v := ?_) (a' := ?_) #[true, true, true, true, true, true, true, true, true, false, true, true, true, true, true, false, true, false, false, false] rfl rfl (take_ofW HT_.out HW_.out (by kernel_rfl)) (fun _ _ _ h => h) (Or.inl ⟨by rfl, ?_⟩) hHeld ?_ ?_
        rotate_left
        ·
         rintro w' ⟨s0, s1⟩
         go_simp
         with_reducible rfl
        rotate_left
        ·
         simp only [Act.put, List.setIfInBounds_toArray, List.set_cons_zero, List.set_cons_succ, i64_w, i32_w]
         rfl
        refine one_ (i := 9) (N := some 48) #[true, true, true, true, true, true, true, true, true, true, true, true, true, true, true, false, true, false, false, false] rfl rfl (one_of HT_.out (by kernel_rfl)) (by decide) (fun K hK => ?_)
        refine goes_ Try.func126 (by kernel_rfl) rfl #[.slice A2 l2.length c2, .slice A430_0 (rd_L1 t427 x13_1).length c430_0] (by rfl) rfl rfl (by (try simp only [List.map_toArray, List.map_cons, List.map_nil]); first | done | rfl | (simp only [List.length_drop, List.length_take]; rfl)) ?_
        with_reducible refine (spec_l1Mul.calls k1 _ _ l2 _ _ (rd_L1 t427 x13_1) t431 _ ?side1 ?side2 ?side3 ?side4 A18.out).mono ?_
        (case side1 => exact cU (Kd.C_below HR2.out HB.out))
        (case side2 => exact HC2.out)
        (case side3 => exact cU (by repeat (first | (with_reducible exact HR430_0.out) | (with_reducible refine Kd.C_alloc ?_ _) | (with_reducible refine Kd.C_drewN ?_ _) | (with_reducible refine Kd.C_drew ?_) | exact HR430_0.out)))
        (case side4 => exact HC430_0.out)
        rintro e w23 ⟨v432, rfl, ho0, hb⟩
        have HS0_ := (hb.cell (World.block_lt_of_cell? _ _ (hHeld.1))).trans (hHeld.1); have HS1_ := (hb.cell (World.block_lt_of_cell? _ _ (hHeld.2))).trans (hHeld.2)
        refine ⟨_, rfl, ?_⟩
        have n0 := Az (Kd.S_elder' (sU HO_12.out) (Kd.R_base ho0) hb); have n1 := Az (Kd.R_elder' (rU HL430_0.out) (Kd.R_base ho0) hb); have n2 := Az (Kd.R_elder' (rU HL434_0.out) (Kd.R_base ho0) hb); have n3 := Az (Kd.R_lower (Kd.R_new' (Kd.R_new' ho0 (Kd.R_lt (rU HL430_0.out))) (Kd.R_lt (rU HL434_0.out))) (below_size (bU0 HB.out))); have n4 := Az (Kd.C_below (by repeat (first | (with_reducible exact HR430_0.out) | (with_reducible refine Kd.C_alloc ?_ _) | (with_reducible refine Kd.C_drewN ?_ _) | (with_reducible refine Kd.C_drew ?_) | exact HR430_0.out)) hb); have n5 := Az (Kd.C_below (by repeat (first | (with_reducible exact HR434_0.out) | (with_reducible refine Kd.C_alloc ?_ _) | (with_reducible refine Kd.C_drewN ?_ _) | (with_reducible refine Kd.C_drew ?_) | exact HR434_0.out)) hb); have n6 := Az (below_step (bU0 HB.out) hb); clear HO_12 HL430_0 HL434_0 HR430_0 HR434_0 HB; have HO_12 := n0; have HL430_0 := n1; have HL434_0 := n2; have HO433 := n3; have HR430_0 := n4; have HR434_0 := n5; have HB := n6; clear n0 n1 n2 n3 n4 n5 n6; (try clear hb); (try clear hb2); (try clear hk); (try clear hi); (try clear ho0)
        refine hK.out _ _ ⟨HS0_, HS1_⟩ (fun hHeld => ?_)
        clear hK K
        refine norm_ (a' := ?_) ?_ ?_
        rotate_left
        ·
         show Act.put _ (some 48) _ = _
         simp only [Act.put, List.setIfInBounds_toArray, List.set_cons_zero, List.set_cons_succ, i64_w, i32_w]
         rfl
        refine one_ (i := 15) (N := some 54) #[true, true, true, true, true, true, true, true, true, true, true, true, true, true, true, true, true, false, false, false] rfl rfl (one_of HT_.out (by kernel_rfl)) (by decide) (fun K hK => ?_)
        refine goes_ Try.func137 (by kernel_rfl) rfl #[.slice A3 l3.length c3, .slice A430_0 (rd_L1 t427 x13_1).length c430_0] (by rfl) rfl rfl (by (try simp only [List.map_toArray, List.map_cons, List.map_nil]); first | done | rfl | (simp only [List.length_drop, List.length_take]; rfl)) ?_
        with_reducible refine (spec_l5Join.calls k1 _ _ l3 _ _ (rd_L1 t427 x13_1) t435 _ ?side1 ?side2 ?side3 ?side4 A19.out).mono ?_
        (case side1 => exact cU (Kd.C_below HR3.out HB.out))
        (case side2 => exact HC3.out)
        (case side3 => exact cU (by repeat (first | (with_reducible exact HR434_0.out) | (with_reducible refine Kd.C_alloc ?_ _) | (with_reducible refine Kd.C_drewN ?_ _) | (with_reducible refine Kd.C_drew ?_) | exact HR434_0.out)))
        (case side4 => exact HC434_0.out)
        rintro e w24 ⟨v436, rfl, ho0, hb⟩
        have HS0_ := (hb.cell (World.block_lt_of_cell? _ _ (hHeld.1))).trans (hHeld.1); have HS1_ := (hb.cell (World.block_lt_of_cell? _ _ (hHeld.2))).trans (hHeld.2)
        refine ⟨_, rfl, ?_⟩
        have n0 := Az (Kd.S_elder' (sU HO_12.out) (Kd.R_base ho0) hb); have n1 := Az (Kd.R_elder' (rU HL430_0.out) (Kd.R_base ho0) hb); have n2 := Az (Kd.R_elder' (rU HL434_0.out) (Kd.R_base ho0) hb); have n3 := Az (Kd.R_elder' (rU HO433.out) (Kd.R_base ho0) hb); have n4 := Az (Kd.R_lower (Kd.R_new' (Kd.R_new' (Kd.R_new' ho0 (Kd.R_lt (rU HL430_0.out))) (Kd.R_lt (rU HL434_0.out))) (Kd.R_lt (rU HO433.out))) (below_size (bU0 HB.out))); have n5 := Az (Kd.C_below (by repeat (first | (with_reducible exact HR430_0.out) | (with_reducible refine Kd.C_alloc ?_ _) | (with_reducible refine Kd.C_drewN ?_ _) | (with_reducible refine Kd.C_drew ?_) | exact HR430_0.out)) hb); have n6 := Az (Kd.C_below (by repeat (first | (with_reducible exact HR434_0.out) | (with_reducible refine Kd.C_alloc ?_ _) | (with_reducible refine Kd.C_drewN ?_ _) | (with_reducible refine Kd.C_drew ?_) | exact HR434_0.out)) hb); have n7 := Az (below_step (bU0 HB.out) hb); clear HO_12 HL430_0 HL434_0 HO433 HR430_0 HR434_0 HB; have HO_12 := n0; have HL430_0 := n1; have HL434_0 := n2; have HO433 := n3; have HO437 := n4; have HR430_0 := n5; have HR434_0 := n6; have HB := n7; clear n0 n1 n2 n3 n4 n5 n6 n7; (try clear hb); (try clear hb2); (try clear hk); (try clear hi); (try clear ho0); obtain ⟨Ao25, co25, eo25⟩ := Kd.R_slice HO433.out; (first | subst eo25 | (injection eo25 with f1_ f2_ f3_; have f4_ := f1_.symm; have f5_ := f3_.symm; clear f1_ f2_ f3_; subst f4_; subst f5_)); obtain ⟨Ao26, co26, eo26⟩ := Kd.R_slice HO437.out; (first | subst eo26 | (injection eo26 with f1_ f2_ f3_; have f4_ := f1_.symm; have f5_ := f3_.symm; clear f1_ f2_ f3_; subst f4_; subst f5_))
        refine hK.out _ _ ⟨HS0_, HS1_⟩ (fun hHeld => ?_)
        clear hK K
        refine norm_ (a' := ?_) ?_ ?_
        rotate_left
        ·
         show Act.put _ (some 54) _ = _
         simp only [Act.put, List.setIfInBounds_toArray, List.set_cons_zero, List.set_cons_succ, i64_w, i32_w]
         rfl
        refine one_ (i := 17) (N := some 56) #[true, true, true, true, true, true, true, true, true, true, true, true, true, true, true, true, true, true, false, false] rfl rfl (one_of HT_.out (by kernel_rfl)) (by decide) (fun K hK => ?_)
        refine goes_ Try.func93 (by kernel_rfl) rfl #[.slice (some ad426) l0.length c0, .int .i64 (wrap64 (a1 + 1)), .slice Ao25 t431.length co25, .slice Ao26 t435.length co26, .bool a4] (by rfl) rfl rfl (by (try simp only [List.map_toArray, List.map_cons, List.map_nil]); first | done | rfl | (simp only [List.length_drop, List.length_take]; rfl)) ?_
        with_reducible refine (ih k1 (by have := HK1.out; omega) _ _ l0 (wrap64 (a1 + 1)) _ _ t431 _ _ t435 a4 t438 _ ?side1 ?side2 ?side3 ?side4 ?side5 ?side6 A20.out).mono ?_
        (case side1 => exact cU (Kd.C_below HR0.out HB.out))
        (case side2 => exact HC0.out)
        (case side3 => exact cU ((Kd.R_reads' HO433.out).2.2))
        (case side4 => exact (Kd.R_reads' HO433.out).2.1)
        (case side5 => exact cU ((Kd.R_reads' HO437.out).2.2))
        (case side6 => exact (Kd.R_reads' HO437.out).2.1)
        rintro e w27 ⟨rfl, hb⟩
        have HS0_ := (hb.cell (World.block_lt_of_cell? _ _ (hHeld.1))).trans (hHeld.1); have HS1_ := (hb.cell (World.block_lt_of_cell? _ _ (hHeld.2))).trans (hHeld.2)
        refine ⟨_, rfl, ?_⟩
        have n0 := Az (Kd.S_below (sU HO_12.out) hb); have n1 := Az (Kd.R_below (rU HL430_0.out) hb); have n2 := Az (Kd.R_below (rU HL434_0.out) hb); have n3 := Az (Kd.R_below (rU HO433.out) hb); have n4 := Az (Kd.R_below (rU HO437.out) hb); have n5 := Az (Kd.C_below (by repeat (first | (with_reducible exact HR430_0.out) | (with_reducible refine Kd.C_alloc ?_ _) | (with_reducible refine Kd.C_drewN ?_ _) | (with_reducible refine Kd.C_drew ?_) | exact HR430_0.out)) hb); have n6 := Az (Kd.C_below (by repeat (first | (with_reducible exact HR434_0.out) | (with_reducible refine Kd.C_alloc ?_ _) | (with_reducible refine Kd.C_drewN ?_ _) | (with_reducible refine Kd.C_drew ?_) | exact HR434_0.out)) hb); have n7 := Az (below_step (bU0 HB.out) hb); clear HO_12 HL430_0 HL434_0 HO433 HO437 HR430_0 HR434_0 HB; have HO_12 := n0; have HL430_0 := n1; have HL434_0 := n2; have HO433 := n3; have HO437 := n4; have HR430_0 := n5; have HR434_0 := n6; have HB := n7; clear n0 n1 n2 n3 n4 n5 n6 n7; (try clear hb); (try clear hb2); (try clear hk); (try clear hi)
        refine hK.out _ _ ⟨HS0_, HS1_⟩ (fun hHeld => ?_)
        clear hK K
        refine norm_ (a' := ?_) ?_ ?_
        rotate_left
        ·
         show Act.put _ (some 56) _ = _
         simp only [Act.put, List.setIfInBounds_toArray, List.set_cons_zero, List.set_cons_succ, i64_w, i32_w]
         rfl
        refine pure_ (i := 18) (N := some 57) (v := ?_) (a' := ?_) #[true, true, true, true, true, true, true, true, true, true, true, true, true, true, true, true, true, true, true, false] rfl rfl (any_of HT_.out (by kernel_rfl)) (fun _ _ _ h => h) (Or.inl ⟨by rfl, ?_⟩) ?_ ?_
        rotate_left
        ·
         intro w'
         go_simp
         with_reducible rfl
        rotate_left
        ·
         simp only [Act.put, List.setIfInBounds_toArray, List.set_cons_zero, List.set_cons_succ, i64_w, i32_w]
         rfl
        refine pure_ (i := 19) (N := some 11) (v := ?_) (a' := ?_) #[true, true, true, true, true, true, true, true, true, true, true, true, true, true, true, true, true, true, true, true] rfl rfl (any_of HT_.out (by kernel_rfl)) (fun _ _ _ h => h) (Or.inl ⟨by rfl, ?_⟩) ?_ ?_
        rotate_left
        ·
         intro w'
         go_simp
         with_reducible rfl
        rotate_left
        ·
         simp only [Act.put, List.setIfInBounds_toArray, List.set_cons_zero, List.set_cons_succ, i64_w, i32_w]
         rfl
        refine done_ (done_of HT_.out (by kernel_rfl)) ?_
        try go_wp2
        (first | go_roundg k1 | (refine Handed.intro k1 ?measure ?_; rotate_left; go_step; (try simp only [add_plain]); (repeat apply Exists.intro); refine ⟨?rel, rfl⟩))
        case measure => have := HK1.out; omega
        case rel => exact ⟨(wrap64 (x11_1 + t438)), (wrap64 (x13_1 + 1)), rS, rS, H', ⟨by have := HK1.out; omega⟩, ⟨by (with_reducible repeat (first | apply Kd.S_alloc | apply Kd.S_drewN | apply Kd.S_drew)); exact Kd.S_mono HO_12.out (fun _ hk => trivial)⟩, ⟨bU0 HB.out⟩⟩
       ·
        rw [if_neg c17] at H
        exact absurd H (by simp)
      ·
       rw [if_neg c16] at H; have c16b0 := decide_eq_false c16; clear c16; obtain rfl := Option.some.inj H; obtain ⟨Ao28, co28, eo28⟩ := Kd.S_slice HO_12.out; subst eo28
       go_wp2
       go_ret
       exact ⟨rE, bU0 HB.out⟩
   ·
    rw [if_neg c13] at H
    exact absurd H (by simp)
  ·
   rw [if_neg c12] at H
   exact absurd H (by simp)
def spec_FactorEach.f (k : Nat) (l0 : List (List Int)) : Option (Int) := (spec_l5Small.f k l0).bind fun t439 => (if t439 = true then (if 0 < (l0.length : Int) then ((spec_l5Sum.f k (rd_L1 l0 0)).bind fun t441 => ((spec_l1Same.f k t441).bind fun t442 => ((spec_l5Count.f k l0 0 t442 t442 false).bind fun t445 => (some t445)))) else (none)) else (some (-1)))
set_option maxHeartbeats 8000000 in
set_option maxRecDepth 100000 in
theorem spec_FactorEach.calls (k : Nat) (A0 : Option Addr) (c0 : Nat) (l0 : List (List Int)) (r : Int) (w : World) (hr0 : Kd.C (Kd.slice 3 (Kd.int .i64)) w A0 l0.length l0) (hc0 : l0.length ≤ c0) (h : spec_FactorEach.f k l0 = some r) :
  Calls Try.prog 39 #[.slice A0 l0.length c0] w fun e w' => e = .returned (.int .i64 r) ∧ Below w.heap.size w w' := by
 have HR0 := Az hr0; have HC0 := Az hc0; clear hr0 hc0; have HB := Az (Below.refl w.heap.size w); have H : ((spec_l5Small.f k l0).bind fun t439 => (if t439 = true then (if 0 < (l0.length : Int) then ((spec_l5Sum.f k (rd_L1 l0 0)).bind fun t441 => ((spec_l1Same.f k t441).bind fun t442 => ((spec_l5Count.f k l0 0 t442 t442 false).bind fun t445 => (some t445)))) else (none)) else (some (-1)))) = some r := h; clear h; replace H := Option.bind_eq_some_iff.mp H; obtain ⟨t439, A20, H⟩ := H; replace H : (if t439 = true then (if 0 < (l0.length : Int) then ((spec_l5Sum.f k (rd_L1 l0 0)).bind fun t441 => ((spec_l1Same.f k t441).bind fun t442 => ((spec_l5Count.f k l0 0 t442 t442 false).bind fun t445 => (some t445)))) else (none)) else (some (-1))) = some r := H; have A2 := Az A20; clear A20
 by_cases c3 : t439 = true
 ·
  subst c3
  have H1 : (if 0 < (l0.length : Int) then ((spec_l5Sum.f k (rd_L1 l0 0)).bind fun t441 => ((spec_l1Same.f k t441).bind fun t442 => ((spec_l5Count.f k l0 0 t442 t442 false).bind fun t445 => (some t445)))) else (none)) = some r := by rw [if_pos rfl] at H; exact H
  clear H; have H := H1; clear H1
  by_cases c4 : 0 < (l0.length : Int)
  ·
   rw [if_pos c4] at H; have c4b0 := decide_eq_true c4; have c4b1 : decide (0 < l0.length) = true := decide_eq_true (by omega); clear c4; replace H := Option.bind_eq_some_iff.mp H; obtain ⟨t441, A50, H⟩ := H; replace H : ((spec_l1Same.f k t441).bind fun t442 => ((spec_l5Count.f k l0 0 t442 t442 false).bind fun t445 => (some t445))) = some r := H; have A5 := Az A50; clear A50; replace H := Option.bind_eq_some_iff.mp H; obtain ⟨t442, A60, H⟩ := H; replace H : ((spec_l5Count.f k l0 0 t442 t442 false).bind fun t445 => (some t445)) = some r := H; have A6 := Az A60; clear A60; replace H := Option.bind_eq_some_iff.mp H; obtain ⟨t445, A70, H⟩ := H; replace H : (some t445) = some r := H; have A7 := Az A70; clear A70; obtain rfl := Option.some.inj H
   go_enter Try.func39, Try.ntmps39
   go_wp2_with (first | ((with_reducible refine gate_callee (f := 90) rfl ?_); refine goesL_ (some 5) rfl rfl Try.func90 (by kernel_rfl) rfl #[.slice A0 l0.length c0] rfl (by (try simp only [List.map_toArray, List.map_cons, List.map_nil]); first | done | rfl | (simp only [List.length_drop, List.length_take]; rfl)) ?_; (with_reducible refine (spec_l5Small.calls k _ _ l0 true _ ?side1 ?side2 A2.out).mono ?_); (case side1 => exact cU (HR0.out)); (case side2 => exact HC0.out); rintro e w' ⟨rfl, ⟨nd, rfl⟩⟩; refine ⟨_, rfl, ?_⟩; have p440 : 0 ≤ (0 : Int) := (by omega); have q440 : 0 < (l0.length : Int) := oA; obtain ⟨ad440, A440_0, c440_0, e440, hx440_0, hl440_0, hi440_0⟩ := at_L1 HR0.out 0 p440 q440; cases e440; have qi440 : (0 < l0.length) = True := eq_true (by omega); (try rw [show ((0 : Int)).toNat = 0 from rfl] at hx440_0); (try rw [Addr.add_zero'] at hx440_0); have HR440_0 := Az hi440_0; have HC440_0 := Az hl440_0; clear hi440_0 hl440_0; replace p440 := eq_true p440; replace q440 := eq_true q440) | ((with_reducible refine gate_callee (f := 92) rfl ?_); refine goesL_ (some 10) rfl rfl Try.func92 (by kernel_rfl) rfl #[.slice A440_0 (rd_L1 l0 0).length c440_0] rfl (by (try simp only [List.map_toArray, List.map_cons, List.map_nil]); first | done | rfl | (simp only [List.length_drop, List.length_take]; rfl)) ?_; (with_reducible refine (spec_l5Sum.calls k _ _ (rd_L1 l0 0) t441 _ ?side1 ?side2 A5.out).mono ?_); (case side1 => exact cU (HR440_0.out)); (case side2 => exact HC440_0.out); rintro e w' ⟨rfl, ⟨nd, rfl⟩⟩; refine ⟨_, rfl, ?_⟩) | ((with_reducible refine gate_callee (f := 91) rfl ?_); refine goesL_ (some 11) rfl rfl Try.func91 (by kernel_rfl) rfl #[.int .i64 t441] rfl (by (try simp only [List.map_toArray, List.map_cons, List.map_nil]); first | done | rfl | (simp only [List.length_drop, List.length_take]; rfl)) ?_; (with_reducible refine (spec_l1Same.calls k t441 t442 _ A6.out).mono ?_); rintro e w8 ⟨v443, rfl, ho0, hb⟩; refine ⟨_, rfl, ?_⟩; have n0 := Az (Kd.R_lower ho0 (below_size (bU0 HB.out))); have n1 := Az (below_step (bU0 HB.out) hb); clear HB; have HO444 := n0; have HB := n1; clear n0 n1; (try clear hb); (try clear hb2); (try clear hk); (try clear hi); (try clear ho0); obtain ⟨Ao9, co9, eo9⟩ := Kd.R_slice HO444.out; subst eo9) | ((with_reducible refine gate_callee (f := 93) rfl ?_); refine goesL_ (some 15) rfl rfl Try.func93 (by kernel_rfl) rfl #[.slice (some ad440) l0.length c0, .int .i64 0, .slice Ao9 t442.length co9, .slice Ao9 t442.length co9, .bool false] rfl (by (try simp only [List.map_toArray, List.map_cons, List.map_nil]); first | done | rfl | (simp only [List.length_drop, List.length_take]; rfl)) ?_; (with_reducible refine (spec_l5Count.calls k _ _ l0 0 _ _ t442 _ _ t442 false t445 _ ?side1 ?side2 ?side3 ?side4 ?side5 ?side6 A7.out).mono ?_); (case side1 => exact cU (Kd.C_below HR0.out HB.out)); (case side2 => exact HC0.out); (case side3 => exact cU ((Kd.R_reads' HO444.out).2.2)); (case side4 => exact (Kd.R_reads' HO444.out).2.1); (case side5 => exact cU ((Kd.R_reads' HO444.out).2.2)); (case side6 => exact (Kd.R_reads' HO444.out).2.1); rintro e w10 ⟨rfl, hb⟩; refine ⟨_, rfl, ?_⟩; have n0 := Az (Kd.R_below (rU HO444.out) hb); have n1 := Az (below_step (bU0 HB.out) hb); clear HO444 HB; have HO444 := n0; have HB := n1; clear n0 n1; (try clear hb); (try clear hb2); (try clear hk); (try clear hi)))
   go_ret
   exact ⟨rE, bU0 HB.out⟩
  ·
   rw [if_neg c4] at H
   exact absurd H (by simp)
 ·
  replace c3 := Bool.eq_false_iff.mpr c3; subst c3
  have H1 : (some (-1)) = some r := by rw [if_neg (show ¬ (false = true) by decide)] at H; exact H
  clear H; have H := H1; clear H1; obtain rfl := Option.some.inj H
  go_enter Try.func39, Try.ntmps39
  go_wp2_with (first | ((with_reducible refine gate_callee (f := 90) rfl ?_); refine goesL_ (some 5) rfl rfl Try.func90 (by kernel_rfl) rfl #[.slice A0 l0.length c0] rfl (by (try simp only [List.map_toArray, List.map_cons, List.map_nil]); first | done | rfl | (simp only [List.length_drop, List.length_take]; rfl)) ?_; (with_reducible refine (spec_l5Small.calls k _ _ l0 false _ ?side1 ?side2 A2.out).mono ?_); (case side1 => exact cU (HR0.out)); (case side2 => exact HC0.out); rintro e w' ⟨rfl, ⟨nd, rfl⟩⟩; refine ⟨_, rfl, ?_⟩))
  go_ret
  exact ⟨rE, bU0 HB.out⟩
def laws_toIntS.l0 : Nat → List Int → List Int → Int → Option (List Int)
 | 0, _, _, _ => none
 | k + 1, x0, x3, x4 => if x4 < (x0.length : Int) then (if 0 ≤ x4 then (if x4 < (x3.length : Int) then (laws_toIntS.l0 k x0 (x3.set (x4 : Int).toNat (rd x0 x4)) (wrap64 (x4 + 1))) else (none)) else (none)) else (some x3)
def laws_toIntS.f (k : Nat) (l0 : List Int) : Option (List Int) := if 0 ≤ (l0.length : Int) then (if ((l0.length : Int) : Int).toNat ≤ 35184372088832 then (laws_toIntS.l0 k l0 (List.replicate ((l0.length : Int) : Int).toNat 0) 0) else (none)) else (none)
set_option maxHeartbeats 8000000 in
set_option maxRecDepth 100000 in
theorem laws_toIntS.calls (k : Nat) (A0 : Option Addr) (c0 : Nat) (l0 : List Int) (r : List Int) (w : World) (hr0 : Kd.C (Kd.int .i64) w A0 l0.length l0) (hc0 : l0.length ≤ c0) (h : laws_toIntS.f k l0 = some r) :
  Calls Try.prog 72 #[.slice A0 l0.length c0] w fun e w' => ∃ v0_ : Value, e = .returned (v0_) ∧ Kd.R (Kd.int .i64) 3 w' w.heap.size (fun _ => True) v0_ r ∧ Below w.heap.size w w' := by
 have HR0 := Az hr0; have HC0 := Az hc0; clear hr0 hc0; have HB := Az (Below.refl w.heap.size w); have H : (if 0 ≤ (l0.length : Int) then (if ((l0.length : Int) : Int).toNat ≤ 35184372088832 then (laws_toIntS.l0 k l0 (List.replicate ((l0.length : Int) : Int).toNat 0) 0) else (none)) else (none)) = some r := h; clear h
 by_cases c2 : 0 ≤ (l0.length : Int)
 ·
  rw [if_pos c2] at H; have c2b0 := eq_true c2; have c2b1 := decide_eq_true c2; clear c2
  by_cases c3 : ((l0.length : Int) : Int).toNat ≤ 35184372088832
  ·
   rw [if_pos c3] at H; have c3b0 := eq_true c3; have c3b1 := decide_eq_true c3; clear c3; obtain ⟨y446, hy446⟩ : ∃ y_ : List Int, y_ = (List.replicate ((l0.length : Int) : Int).toNat 0) := ⟨_, rfl⟩; replace H : (laws_toIntS.l0 k l0 y446 0) = some r := hR hy446 H; have Ny446 := Az hy446; clear hy446; have H' := Az H; clear H
   go_enter Try.func72, Try.ntmps72
   go_wp2_with (first | ((with_reducible refine gate_dst (N := 7) rfl ?_); refine Kd.R_make (Kd.int .i64) _ 3 rfl (N := 7) rfl 23 _ _ rfl (l0.length : Int) rfl rfl Try.underlying23 (.int .i64 0) 8 info3 rfl (by decide) (by omega) 0 (ok := fun _ => True) (okp := fun _ => True) rfl (fun _ hk => hk) trivial (oA) (Nat.le_trans (Nat.mul_le_mul_right _ (oA : (l0.length : Int).toNat ≤ 35184372088832)) (by omega)) (Below.refl _ _) (Nat.le_refl _) ?_; intro v447 w4 ho5 hb hg_ hnew_; clear hg_ hnew_; (first | rw [← Ny446.out] at ho5 | (simp only [Int.reduceToNat] at ho5; rw [← Ny446.out] at ho5)); have n0 := Az (Kd.R_lower ho5 (below_size (bU0 HB.out))); have n1 := Az (below_step (bU0 HB.out) hb); clear HB; have HO448 := n0; have HB := n1; clear n0 n1; clear hb ho5))
   go_loopg [4] k (fun kq v4 w' => ∃ (x3_1 : List Int) (x4_1 : Int), v4 = .int .i64 x4_1 ∧ Aside0 (laws_toIntS.l0 kq l0 x3_1 x4_1 = some r) ∧ Aside0 (kq ≤ k) ∧ Aside0 (Kd.R (Kd.int .i64) 3 w' w.heap.size (fun _ => True) v447 x3_1) ∧ Aside0 (Below w.heap.size w w'))
   case atStart => exact ⟨(y446), (0), rS, H', ⟨Nat.le_refl _⟩, ⟨rU HO448.out⟩, ⟨bU0 HB.out⟩⟩
   case round =>
    clear H'; (try clear c2); (try clear c2b0); (try clear c2b1); (try clear p2); (try clear c3); (try clear c3b0); (try clear c3b1); obtain ⟨x3_1, x4_1, rfl, HA, HK1, HO_3, HB⟩ := hrel
    cases gk with
    | zero => exact absurd HA.out (by simp [laws_toIntS.l0])
    | succ k1 =>
     have H := HA.out; clear HA; simp only [laws_toIntS.l0] at H
     by_cases c6 : x4_1 < (l0.length : Int)
     ·
      rw [if_pos c6] at H; have c6b0 := decide_eq_true c6; clear c6
      by_cases c7 : 0 ≤ x4_1
      ·
       rw [if_pos c7] at H; have c7b0 := decide_eq_true c7; clear c7
       by_cases c8 : x4_1 < (x3_1.length : Int)
       ·
        rw [if_pos c8] at H; have c8b0 := decide_eq_true c8; clear c8; obtain ⟨y450, hy450⟩ : ∃ y_ : List Int, y_ = (x3_1.set (x4_1 : Int).toNat (rd l0 x4_1)) := ⟨_, rfl⟩; replace H : (laws_toIntS.l0 k1 l0 y450 (wrap64 (x4_1 + 1))) = some r := hR hy450 H; have Ny450 := Az hy450; clear hy450; have H' := Az H; clear H; have p449 : 0 ≤ (x4_1 : Int) := oA; have q449 : x4_1 < (l0.length : Int) := oA; obtain ⟨ad449, e449, hx449_0⟩ := Kd.at_int HR0.out x4_1 p449 q449
        cases e449
        (try replace hx449_0 := (HB.out.cell (World.block_lt_of_cell? w _ hx449_0)).trans hx449_0); replace p449 := eq_true p449; replace q449 := eq_true q449; have p9 : 0 ≤ (x4_1 : Int) := oA; have q9 : (x4_1 : Int) < ((x3_1.length : Int) : Int) := oA; obtain ⟨go9, co9, eo9, gb9, gl9, cl9, HG9⟩ := Kd.R_form HO_3.out (by omega); (first | cases eo9 | (injection eo9 with ea_ en_ ec_; (first | subst ea_ | (injection ea_ with ea_; subst ea_)); subst ec_; clear en_)); have GB9 := Az gb9; have GG9 := Az HG9; clear gb9 gl9 HG9; obtain ⟨hx9_0, hf9_0⟩ := Kd.R_celln 0 HO_3.out (x4_1 : Int) p9 q9; replace p9 := eq_true p9; replace q9 := eq_true q9; obtain ⟨hy10_, hz10_⟩ := Kd.R_celln 0 HO_3.out (x4_1 : Int) (oA) (oA); have HP10 := Kd.R_putg HO_3.out (x4_1 : Int) (rd l0 x4_1)
        go_wp2_with (first | ((with_reducible refine gate_store (t := 3) (p := 20) rfl ?_); refine store_event (t := 3) (p := 20) (v := ?vo_w11) (w1 := (wr.setCell ⟨go9, (x4_1 : Int).toNat, none⟩ (.int .i64 (rd l0 x4_1)))) ?hg ?ho ?hn ?hr ?_; (case ho => rfl); (case hg => rfl); (case hn => rfl); (case hr => first | (go_simp; done) | (go_simp; rfl)); intro w11 hw; have hg : wr.grownBy w11 (some go9) := (by rw [hw]; exact HP10.2); have hp_ : Kd.R (Kd.int .i64) 3 w11 w.heap.size (fun _ => True) (.slice (some ⟨go9, 0, none⟩) x3_1.length co9) y450 := (by rw [hw, Ny450.out]; exact HP10.1); clear HP10; have n0 := Az (hp_); have n1 := Az ((by rw [hw]; exact below_set (HB.out) GB9.out : Below w.heap.size w w11)); clear HO_3 HB; have HO_3 := n0; have HB := n1; clear n0 n1; clear hg hw hp_))
        (first | go_roundg k1 | (refine Handed.intro k1 ?measure ?_; rotate_left; go_step; (try simp only [add_plain]); (repeat apply Exists.intro); refine ⟨?rel, rfl⟩))
        case measure => have := HK1.out; omega
        case rel => exact ⟨(y450), (wrap64 (x4_1 + 1)), rS, H', ⟨by have := HK1.out; omega⟩, ⟨rU HO_3.out⟩, ⟨bU0 HB.out⟩⟩
       ·
        rw [if_neg c8] at H
        exact absurd H (by simp)
      ·
       rw [if_neg c7] at H
       exact absurd H (by simp)
     ·
      rw [if_neg c6] at H; have c6b0 := decide_eq_false c6; clear c6; obtain rfl := Option.some.inj H
      go_wp2
      go_ret
      exact ⟨_, rE, rU HO_3.out, bU0 HB.out⟩
  ·
   rw [if_neg c3] at H
   exact absurd H (by simp)
 ·
  rw [if_neg c2] at H
  exact absurd H (by simp)
def laws_toIntSS.l0 : Nat → List (List Int) → List (List Int) → Int → Option ((List (List Int)))
 | 0, _, _, _ => none
 | k + 1, x0, x3, x4 => if x4 < (x0.length : Int) then (if 0 ≤ x4 then ((laws_toIntS.f k (rd_L1 x0 x4)).bind fun t455 => (if x4 < (x3.length : Int) then (laws_toIntSS.l0 k x0 (x3.set (x4 : Int).toNat t455) (wrap64 (x4 + 1))) else (none))) else (none)) else (some x3)
def laws_toIntSS.f (k : Nat) (l0 : List (List Int)) : Option ((List (List Int))) := if 0 ≤ (l0.length : Int) then (if ((l0.length : Int) : Int).toNat ≤ 11728124029610 then (laws_toIntSS.l0 k l0 (List.replicate ((l0.length : Int) : Int).toNat []) 0) else (none)) else (none)
set_option maxHeartbeats 8000000 in
set_option maxRecDepth 100000 in
theorem laws_toIntSS.calls (k : Nat) (A0 : Option Addr) (c0 : Nat) (l0 : List (List Int)) (r : List (List Int)) (w : World) (hr0 : Kd.C (Kd.slice 3 (Kd.int .i64)) w A0 l0.length l0) (hc0 : l0.length ≤ c0) (h : laws_toIntSS.f k l0 = some r) :
  Calls Try.prog 40 #[.slice A0 l0.length c0] w fun e w' => ∃ v0_ : Value, e = .returned (v0_) ∧ Kd.S (Kd.slice 3 (Kd.int .i64)) 23 w' w.heap.size (fun _ => True) v0_ r ∧ Below w.heap.size w w' := by
 have HR0 := Az hr0; have HC0 := Az hc0; clear hr0 hc0; have HB := Az (Below.refl w.heap.size w); have H : (if 0 ≤ (l0.length : Int) then (if ((l0.length : Int) : Int).toNat ≤ 11728124029610 then (laws_toIntSS.l0 k l0 (List.replicate ((l0.length : Int) : Int).toNat []) 0) else (none)) else (none)) = some r := h; clear h
 by_cases c2 : 0 ≤ (l0.length : Int)
 ·
  rw [if_pos c2] at H; have c2b0 := eq_true c2; have c2b1 := decide_eq_true c2; clear c2
  by_cases c3 : ((l0.length : Int) : Int).toNat ≤ 11728124029610
  ·
   rw [if_pos c3] at H; have c3b0 := eq_true c3; have c3b1 := decide_eq_true c3; clear c3; obtain ⟨y451, hy451⟩ : ∃ y_ : List (List Int), y_ = (List.replicate ((l0.length : Int) : Int).toNat []) := ⟨_, rfl⟩; replace H : (laws_toIntSS.l0 k l0 y451 0) = some r := hR hy451 H; have Ny451 := Az hy451; clear hy451; have H' := Az H; clear H
   go_enter Try.func40, Try.ntmps40
   go_wp2_with (first | ((with_reducible refine gate_dst (N := 7) rfl ?_); refine Kd.S_make (Kd.slice 3 (Kd.int .i64)) _ 23 rfl (N := 7) rfl 45 _ _ rfl (l0.length : Int) rfl rfl Try.underlying45 (.slice none 0 0) 24 info23 rfl (by decide) (by omega) [] (ok := fun _ => True) (okp := fun _ => True) ⟨_, rfl, Kd.R_nil _ _ _ _ _⟩ (fun _ hk => hk) trivial (oA) (Nat.le_trans (Nat.mul_le_mul_right _ (oA : (l0.length : Int).toNat ≤ 11728124029610)) (by omega)) (Below.refl _ _) (Nat.le_refl _) ?_; intro v452 w4 ho5 hb hg_ hnew_; clear hg_ hnew_; (first | rw [← Ny451.out] at ho5 | (simp only [Int.reduceToNat] at ho5; rw [← Ny451.out] at ho5)); have n0 := Az (Kd.S_lower ho5 (below_size (bU0 HB.out))); have n1 := Az (below_step (bU0 HB.out) hb); clear HB; have HO453 := n0; have HB := n1; clear n0 n1; clear hb ho5))
   go_loopg [4] k (fun kq v4 w' => ∃ (x3_1 : List (List Int)) (x4_1 : Int), v4 = .int .i64 x4_1 ∧ Aside0 (laws_toIntSS.l0 kq l0 x3_1 x4_1 = some r) ∧ Aside0 (kq ≤ k) ∧ Aside0 (Kd.S (Kd.slice 3 (Kd.int .i64)) 23 w' w.heap.size (fun _ => True) v452 x3_1) ∧ Aside0 (Below w.heap.size w w'))
   case atStart => exact ⟨(y451), (0), rS, H', ⟨Nat.le_refl _⟩, ⟨sU HO453.out⟩, ⟨bU0 HB.out⟩⟩
   case round =>
    clear H'; (try clear c2); (try clear c2b0); (try clear c2b1); (try clear p2); (try clear c3); (try clear c3b0); (try clear c3b1); (try clear c4); obtain ⟨x3_1, x4_1, rfl, HA, HK1, HO_3, HB⟩ := hrel
    cases gk with
    | zero => exact absurd HA.out (by simp [laws_toIntSS.l0])
    | succ k1 =>
     have H := HA.out; clear HA; simp only [laws_toIntSS.l0] at H
     by_cases c6 : x4_1 < (l0.length : Int)
     ·
      rw [if_pos c6] at H; have c6b0 := decide_eq_true c6; clear c6
      by_cases c7 : 0 ≤ x4_1
      ·
       rw [if_pos c7] at H; have c7b0 := decide_eq_true c7; clear c7; replace H := Option.bind_eq_some_iff.mp H; obtain ⟨t455, A80, H⟩ := H; replace H : (if x4_1 < (x3_1.length : Int) then (laws_toIntSS.l0 k1 l0 (x3_1.set (x4_1 : Int).toNat t455) (wrap64 (x4_1 + 1))) else (none)) = some r := H; have A8 := Az A80; clear A80
       by_cases c9 : x4_1 < (x3_1.length : Int)
       ·
        rw [if_pos c9] at H; have c9b0 := decide_eq_true c9; clear c9; obtain ⟨y458, hy458⟩ : ∃ y_ : List (List Int), y_ = (x3_1.set (x4_1 : Int).toNat t455) := ⟨_, rfl⟩; replace H : (laws_toIntSS.l0 k1 l0 y458 (wrap64 (x4_1 + 1))) = some r := hR hy458 H; have Ny458 := Az hy458; clear hy458; have H' := Az H; clear H; have p454 : 0 ≤ (x4_1 : Int) := oA; have q454 : x4_1 < (l0.length : Int) := oA; obtain ⟨ad454, A454_0, c454_0, e454, hx454_0, hl454_0, hi454_0⟩ := at_L1 HR0.out x4_1 p454 q454
        cases e454
        (try replace hx454_0 := (HB.out.cell (World.block_lt_of_cell? w _ hx454_0)).trans hx454_0); have HR454_0 := Az hi454_0; have HC454_0 := Az hl454_0; clear hi454_0 hl454_0; replace p454 := eq_true p454; replace q454 := eq_true q454
        go_wp2_with (first | ((with_reducible refine gate_callee (f := 72) rfl ?_); refine goesL_ (some 20) rfl rfl Try.func72 (by kernel_rfl) rfl #[.slice A454_0 (rd_L1 l0 x4_1).length c454_0] rfl (by (try simp only [List.map_toArray, List.map_cons, List.map_nil]); first | done | rfl | (simp only [List.length_drop, List.length_take]; rfl)) ?_; (with_reducible refine (laws_toIntS.calls k1 _ _ (rd_L1 l0 x4_1) t455 _ ?side1 ?side2 A8.out).mono ?_); (case side1 => exact cU (Kd.C_below HR454_0.out HB.out)); (case side2 => exact HC454_0.out); rintro e w11 ⟨v456, rfl, ho0, hb⟩; refine ⟨_, rfl, ?_⟩; have n0 := Az (Kd.S_elder' (sU HO_3.out) (Kd.R_base ho0) hb); have n1 := Az (Kd.R_lower ho0 (below_size (bU0 HB.out))); have n2 := Az (below_step (bU0 HB.out) hb); clear HO_3 HB; have HO_3 := n0; have HO457 := n1; have HB := n2; clear n0 n1 n2; (try clear hb); (try clear hb2); (try clear hk); (try clear hi); (try clear ho0); obtain ⟨AoV_, coV_, eoV_⟩ := Kd.R_slice HO457.out; subst eoV_; have p10 : 0 ≤ (x4_1 : Int) := oA; have q10 : (x4_1 : Int) < ((x3_1.length : Int) : Int) := oA; obtain ⟨go10, co10, eo10, gb10, gl10, cl10, HG10⟩ := Kd.S_form HO_3.out (by omega); (first | cases eo10 | (injection eo10 with ea_ en_ ec_; (first | subst ea_ | (injection ea_ with ea_; subst ea_)); subst ec_; clear en_)); have GB10 := Az gb10; have GG10 := Az HG10; clear gb10 gl10 HG10; obtain ⟨_, ce10, hcl10, hM10, hcc10, hfr10, _, _⟩ := Kd.S_elem HO_3.out [] (x4_1 : Int) p10 q10; obtain ⟨ve10_0, rfl, ge10_0⟩ := hM10; have hx10_0 := hcc10 0 _ rfl; have hf10_0 := hfr10 0; (try simp only [show ((Kd.slice 3 (Kd.int .i64))).sz = 1 from rfl, Nat.mul_one, Nat.add_zero] at hx10_0); (try simp only [show ((Kd.slice 3 (Kd.int .i64))).sz = 1 from rfl, Nat.mul_one, Nat.add_zero] at hf10_0); (try clear hM10); clear hcl10 hcc10 hfr10; replace p10 := eq_true p10; replace q10 := eq_true q10; have n_ := Az (Kd.S_mono (ok' := (fun k_ => some k_ ≠ (.slice AoV_ t455.length coV_ : Value).ownBlock)) HO_3.out (fun k_ hk => hk.2)); clear HO_3; have HO_3 := n_; clear n_; have HX12 := Az (show Kd.S (Kd.slice 3 (Kd.int .i64)) 23 w11 w.heap.size (fun k_ => ((fun _ => True)) k_ ∧ ¬ ((fun k_ => some k_ = (.slice AoV_ t455.length coV_ : Value).ownBlock)) k_) (.slice (some ⟨go10, 0, none⟩) x3_1.length co10) x3_1 from (by (with_reducible repeat (first | apply Kd.S_alloc | apply Kd.S_drewN | apply Kd.S_drew)); exact Kd.S_mono HO_3.out (fun k_ hk => ⟨trivial, fun e_ => hk e_⟩))); obtain ⟨oki12, ce12, hcl12, hM12, hcc12, hfr12, hoki12, hH12⟩ := Kd.S_elem HX12.out [] (x4_1 : Int) (oA) (by have h_ : (x4_1 : Int) < ((x3_1.length : Int) : Int) := oA; first | exact h_ | (have e_ := (Kd.S_reads' HO_3.out).1; omega) | simpa using h_); obtain ⟨ve12_0, rfl, ge12_0⟩ := hM12; have HP12 := Kd.S_seg hH12 (oA) (by have h_ : (x4_1 : Int) < ((x3_1.length : Int) : Int) := oA; first | exact h_ | (have e_ := (Kd.S_reads' HO_3.out).1; omega) | simpa using h_) (seg := [(.slice AoV_ t455.length coV_ : Value)]) (j := 0) (show 1 ≤ 1 from by decide) (x' := t455) (Kd.M_row (Kd.R_mono (Kd.R_tight rfl (Kd.R_mono (ok' := fun k_ => ((fun _ => True)) k_ ∧ k_ ≠ go10) (Kd.R_apart' (HO457.out) (Kd.S_typed HO_3.out) (by decide)) (fun k_ hk => ⟨trivial, fun e_ => (hk.2) (by rw [e_]; rfl)⟩))) (fun _ h_ => Or.inr (h_)))) (fun _ hk => hk) (fun k_ hk_ => ((Kd.R_mono (ok' := fun k_ => ((fun _ => True)) k_ ∧ k_ ≠ go10) (Kd.R_apart' (HO457.out) (Kd.S_typed HO_3.out) (by decide)) (fun k_ hk => ⟨trivial, fun e_ => (hk.2) (by rw [e_]; rfl)⟩))).1 k_ hk_.symm); have hx12_0 := hcc12 0 _ rfl; (try simp only [show ((Kd.slice 3 (Kd.int .i64))).sz = 1 from rfl, Nat.mul_one, Nat.add_zero] at hx12_0); have hf12_0 := hfr12 0; (try simp only [show ((Kd.slice 3 (Kd.int .i64))).sz = 1 from rfl, Nat.mul_one, Nat.add_zero] at hf12_0); (try clear hM12); clear hcl12 hcc12 hfr12 hoki12 hH12; (try simp only [show ((Kd.slice 3 (Kd.int .i64))).sz = 1 from rfl, Nat.mul_one, Nat.add_zero] at HP12)) | ((with_reducible refine gate_store (t := 23) (p := 21) rfl ?_); refine store_event (t := 23) (p := 21) (v := ?vo_w13) (w1 := (w11.setCell ⟨go10, (x4_1 : Int).toNat, none⟩ ((.slice AoV_ t455.length coV_ : Value)))) ?hg ?ho ?hn ?hr ?_; (case ho => rfl); (case hg => rfl); (case hn => rfl); (case hr => first | (go_simp; done) | (go_simp; rfl)); intro w13 hw; have hg : w11.grownBy w13 (some go10) := (by rw [hw]; exact HP12.2); have hp_ : Kd.S (Kd.slice 3 (Kd.int .i64)) 23 w13 w.heap.size (fun _ => True) (.slice (some ⟨go10, 0, none⟩) x3_1.length co10) y458 := (by rw [hw, Ny458.out]; exact HP12.1); clear HP12; have n0 := Az (hp_); have n1 := Az ((by rw [hw]; exact below_set (HB.out) GB10.out : Below w.heap.size w w13)); clear HO_3 HB HO457; have HO_3 := n0; have HB := n1; clear n0 n1; clear hg hw hp_))
        (first | go_roundg k1 | (refine Handed.intro k1 ?measure ?_; rotate_left; go_step; (try simp only [add_plain]); (repeat apply Exists.intro); refine ⟨?rel, rfl⟩))
        case measure => have := HK1.out; omega
        case rel => exact ⟨(y458), (wrap64 (x4_1 + 1)), rS, H', ⟨by have := HK1.out; omega⟩, ⟨sU HO_3.out⟩, ⟨bU0 HB.out⟩⟩
       ·
        rw [if_neg c9] at H
        exact absurd H (by simp)
      ·
       rw [if_neg c7] at H
       exact absurd H (by simp)
     ·
      rw [if_neg c6] at H; have c6b0 := decide_eq_false c6; clear c6; obtain rfl := Option.some.inj H
      go_wp2
      go_ret
      exact ⟨_, rE, sU HO_3.out, bU0 HB.out⟩
  ·
   rw [if_neg c3] at H
   exact absurd H (by simp)
 ·
  rw [if_neg c2] at H
  exact absurd H (by simp)
def impl_PartsValid.l0 : Nat → List Int → Int → List Int → Int → Int → Option (Bool)
 | 0, _, _, _, _, _ => none
 | k + 1, x0, x3, x6, x7, x8 => if x8 < x7 then (if 0 ≤ x8 then (if x8 < (x6.length : Int) then (if (rd x6 x8) < 1 then (some false) else (if (rd x6 x8) > 6 then (some false) else (if x8 > 0 then (if 0 ≤ (wrap64 (x8 - 1)) then (if (wrap64 (x8 - 1)) < (x0.length : Int) then (if (rd x6 x8) > (rd x0 (wrap64 (x8 - 1))) then (some false) else (impl_PartsValid.l0 k x0 (wrap64 (x3 + (rd x6 x8))) x6 x7 (wrap64 (x8 + 1)))) else (none)) else (none)) else (impl_PartsValid.l0 k x0 (wrap64 (x3 + (rd x6 x8))) x6 x7 (wrap64 (x8 + 1)))))) else (none)) else (none)) else (if x3 ≥ 1 then (some (decide (x3 ≤ 6))) else (some false))
def impl_PartsValid.f (k : Nat) (l0 : List Int) : Option (Bool) := impl_PartsValid.l0 k l0 0 l0 (l0.length : Int) 0
set_option maxHeartbeats 8000000 in
set_option maxRecDepth 100000 in
theorem impl_PartsValid.calls (k : Nat) (A0 : Option Addr) (c0 : Nat) (l0 : List Int) (r : Bool) (w : World) (hr0 : Kd.C (Kd.int .i64) w A0 l0.length l0) (hc0 : l0.length ≤ c0) (h : impl_PartsValid.f k l0 = some r) :
  Calls Try.prog 102 #[.slice A0 l0.length c0] w fun e w' => e = .returned (.bool r) ∧ Drawn0 w w' := by
 have HR0 := Az hr0; have HC0 := Az hc0; clear hr0 hc0; have H : (impl_PartsValid.l0 k l0 0 l0 (l0.length : Int) 0) = some r := h; clear h; have H' := Az H; clear H
 go_enter Try.func102, Try.ntmps102
 go_wp2
 go_loopg [3, 8] k (fun kq v3 v8 w' => ∃ (x3_1 : Int) (x8_1 : Int), v3 = .int .i64 x3_1 ∧ v8 = .int .i64 x8_1 ∧ Aside0 (impl_PartsValid.l0 kq l0 x3_1 l0 (l0.length : Int) x8_1 = some r) ∧ Aside0 (kq ≤ k) ∧ Drawn0 w w')
 case atStart => exact ⟨(0), (0), rS, rS, H', ⟨Nat.le_refl _⟩, by repeat (first | exact Drawn0.refl _ | apply Drawn0.step)⟩
 case round =>
  clear H'; (try clear c1); obtain ⟨x3_1, x8_1, rfl, rfl, HA, HK1, ⟨m1, rfl⟩⟩ := hrel
  cases gk with
  | zero => exact absurd HA.out (by simp [impl_PartsValid.l0])
  | succ k1 =>
   have H := HA.out; clear HA; simp only [impl_PartsValid.l0] at H
   by_cases c2 : x8_1 < (l0.length : Int)
   ·
    rw [if_pos c2] at H; have c2b0 := decide_eq_true c2; clear c2
    by_cases c3 : 0 ≤ x8_1
    ·
     rw [if_pos c3] at H; have c3b0 := decide_eq_true c3; clear c3
     by_cases c4 : x8_1 < (l0.length : Int)
     ·
      rw [if_pos c4] at H; have c4b0 := decide_eq_true c4; clear c4
      by_cases c5 : (rd l0 x8_1) < 1
      ·
       rw [if_pos c5] at H; have c5b0 := decide_eq_true c5; clear c5; obtain rfl := Option.some.inj H; have p459 : 0 ≤ (x8_1 : Int) := oA; have q459 : x8_1 < (l0.length : Int) := oA; obtain ⟨ad459, e459, hx459_0⟩ := Kd.at_int HR0.out x8_1 p459 q459
       cases e459
       replace p459 := eq_true p459; replace q459 := eq_true q459
       go_wp2
       go_ret
       exact ⟨by first | rfl | (simp; done) | (simp [*]; done), by repeat (first | exact Drawn0.refl _ | apply Drawn0.step)⟩
      ·
       rw [if_neg c5] at H; have c5b0 := decide_eq_false c5; clear c5
       by_cases c6 : (rd l0 x8_1) > 6
       ·
        rw [if_pos c6] at H; have c6b0 := decide_eq_true c6; clear c6; obtain rfl := Option.some.inj H; have p459 : 0 ≤ (x8_1 : Int) := oA; have q459 : x8_1 < (l0.length : Int) := oA; obtain ⟨ad459, e459, hx459_0⟩ := Kd.at_int HR0.out x8_1 p459 q459
        cases e459
        replace p459 := eq_true p459; replace q459 := eq_true q459
        go_wp2
        go_ret
        exact ⟨by first | rfl | (simp; done) | (simp [*]; done), by repeat (first | exact Drawn0.refl _ | apply Drawn0.step)⟩
       ·
        rw [if_neg c6] at H; have c6b0 := decide_eq_false c6; clear c6
        by_cases c7 : x8_1 > 0
        ·
         rw [if_pos c7] at H; have c7b0 := decide_eq_true c7; clear c7; obtain ⟨ji8, hji8⟩ : ∃ j_ : Int, (wrap64 (x8_1 - 1)) = j_ := ⟨_, rfl⟩
         replace H : (if 0 ≤ (ji8) then (if (ji8) < (l0.length : Int) then (if (rd l0 x8_1) > (rd l0 (ji8)) then (some false) else (impl_PartsValid.l0 k1 l0 (wrap64 (x3_1 + (rd l0 x8_1))) l0 (l0.length : Int) (wrap64 (x8_1 + 1)))) else (none)) else (none)) = some r := by first | (rw [hji8] at H; exact H) | (simp only [hji8] at H ⊢; exact H)
         have hji8w : (IntKind.i64.wrap (x8_1 - 1)) = ji8 := (i64_w _).trans hji8
         by_cases c9 : 0 ≤ (ji8)
         ·
          rw [if_pos c9] at H; have c9b0 := decide_eq_true c9; clear c9
          by_cases c10 : (ji8) < (l0.length : Int)
          ·
           rw [if_pos c10] at H; have c10b0 := decide_eq_true c10; clear c10
           by_cases c11 : (rd l0 x8_1) > (rd l0 (ji8))
           ·
            rw [if_pos c11] at H; have c11b0 := decide_eq_true c11; clear c11; obtain rfl := Option.some.inj H; have p459 : 0 ≤ (x8_1 : Int) := oA; have q459 : x8_1 < (l0.length : Int) := oA; obtain ⟨ad459, e459, hx459_0⟩ := Kd.at_int HR0.out x8_1 p459 q459
            cases e459
            replace p459 := eq_true p459; replace q459 := eq_true q459; have p460 : 0 ≤ ((ji8) : Int) := oA; have q460 : (ji8) < (l0.length : Int) := oA; obtain ⟨ad460, e460, hx460_0⟩ := Kd.at_int HR0.out (ji8) p460 q460; obtain rfl : ad459 = ad460 := (by injection e460); replace p460 := eq_true p460; replace q460 := eq_true q460
            go_wp2
            go_ret
            exact ⟨by first | rfl | (simp; done) | (simp only [← hji8] <;> (first | rfl | simp)) | (simp [*]; done), by repeat (first | exact Drawn0.refl _ | apply Drawn0.step)⟩
           ·
            rw [if_neg c11] at H; have c11b0 := decide_eq_false c11; clear c11; have H' := Az H; clear H; have p459 : 0 ≤ (x8_1 : Int) := oA; have q459 : x8_1 < (l0.length : Int) := oA; obtain ⟨ad459, e459, hx459_0⟩ := Kd.at_int HR0.out x8_1 p459 q459
            cases e459
            replace p459 := eq_true p459; replace q459 := eq_true q459; have p460 : 0 ≤ ((ji8) : Int) := oA; have q460 : (ji8) < (l0.length : Int) := oA; obtain ⟨ad460, e460, hx460_0⟩ := Kd.at_int HR0.out (ji8) p460 q460; obtain rfl : ad459 = ad460 := (by injection e460); replace p460 := eq_true p460; replace q460 := eq_true q460
            go_wp2
            (first | go_roundg k1 | (refine Handed.intro k1 ?measure ?_; rotate_left; go_step; (try simp only [add_plain]); (repeat apply Exists.intro); refine ⟨?rel, rfl⟩))
            case measure => have := HK1.out; omega
            case rel => exact ⟨(wrap64 (x3_1 + (rd l0 x8_1))), (wrap64 (x8_1 + 1)), rS, rS, H', ⟨by have := HK1.out; omega⟩, by repeat (first | exact Drawn0.refl _ | apply Drawn0.step)⟩
          ·
           rw [if_neg c10] at H
           exact absurd H (by simp)
         ·
          rw [if_neg c9] at H
          exact absurd H (by simp)
        ·
         rw [if_neg c7] at H; have c7b0 := decide_eq_false c7; clear c7; have H' := Az H; clear H; have p459 : 0 ≤ (x8_1 : Int) := oA; have q459 : x8_1 < (l0.length : Int) := oA; obtain ⟨ad459, e459, hx459_0⟩ := Kd.at_int HR0.out x8_1 p459 q459
         cases e459
         replace p459 := eq_true p459; replace q459 := eq_true q459
         go_wp2
         (first | go_roundg k1 | (refine Handed.intro k1 ?measure ?_; rotate_left; go_step; (try simp only [add_plain]); (repeat apply Exists.intro); refine ⟨?rel, rfl⟩))
         case measure => have := HK1.out; omega
         case rel => exact ⟨(wrap64 (x3_1 + (rd l0 x8_1))), (wrap64 (x8_1 + 1)), rS, rS, H', ⟨by have := HK1.out; omega⟩, by repeat (first | exact Drawn0.refl _ | apply Drawn0.step)⟩
     ·
      rw [if_neg c4] at H
      exact absurd H (by simp)
    ·
     rw [if_neg c3] at H
     exact absurd H (by simp)
   ·
    rw [if_neg c2] at H; have c2b0 := decide_eq_false c2; clear c2
    by_cases c12 : x3_1 ≥ 1
    ·
     rw [if_pos c12] at H; have c12b0 := decide_eq_true c12; clear c12; obtain rfl := Option.some.inj H
     go_wp2
     go_ret
     exact ⟨by first | rfl | (simp; done) | (simp [*]; done), by repeat (first | exact Drawn0.refl _ | apply Drawn0.step)⟩
    ·
     rw [if_neg c12] at H; have c12b0 := decide_eq_false c12; clear c12; obtain rfl := Option.some.inj H
     go_wp2
     go_ret
     exact ⟨by first | rfl | (simp; done) | (simp [*]; done), by repeat (first | exact Drawn0.refl _ | apply Drawn0.step)⟩
def impl_sumOf.l0 : Nat → Int → List Int → Int → Int → Option (Int)
 | 0, _, _, _, _ => none
 | k + 1, x3, x6, x7, x8 => if x8 < x7 then (if 0 ≤ x8 then (if x8 < (x6.length : Int) then (impl_sumOf.l0 k (wrap64 (x3 + (rd x6 x8))) x6 x7 (wrap64 (x8 + 1))) else (none)) else (none)) else (some x3)
def impl_sumOf.f (k : Nat) (l0 : List Int) : Option (Int) := impl_sumOf.l0 k 0 l0 (l0.length : Int) 0
set_option maxHeartbeats 8000000 in
set_option maxRecDepth 100000 in
theorem impl_sumOf.calls (k : Nat) (A0 : Option Addr) (c0 : Nat) (l0 : List Int) (r : Int) (w : World) (hr0 : Kd.C (Kd.int .i64) w A0 l0.length l0) (hc0 : l0.length ≤ c0) (h : impl_sumOf.f k l0 = some r) :
  Calls Try.prog 103 #[.slice A0 l0.length c0] w fun e w' => e = .returned (.int .i64 r) ∧ Drawn0 w w' := by
 have HR0 := Az hr0; have HC0 := Az hc0; clear hr0 hc0; have H : (impl_sumOf.l0 k 0 l0 (l0.length : Int) 0) = some r := h; clear h; have H' := Az H; clear H
 go_enter Try.func103, Try.ntmps103
 go_wp2
 go_loopg [3, 8] k (fun kq v3 v8 w' => ∃ (x3_1 : Int) (x8_1 : Int), v3 = .int .i64 x3_1 ∧ v8 = .int .i64 x8_1 ∧ Aside0 (impl_sumOf.l0 kq x3_1 l0 (l0.length : Int) x8_1 = some r) ∧ Aside0 (kq ≤ k) ∧ Drawn0 w w')
 case atStart => exact ⟨(0), (0), rS, rS, H', ⟨Nat.le_refl _⟩, by repeat (first | exact Drawn0.refl _ | apply Drawn0.step)⟩
 case round =>
  clear H'; (try clear c1); obtain ⟨x3_1, x8_1, rfl, rfl, HA, HK1, ⟨m1, rfl⟩⟩ := hrel
  cases gk with
  | zero => exact absurd HA.out (by simp [impl_sumOf.l0])
  | succ k1 =>
   have H := HA.out; clear HA; simp only [impl_sumOf.l0] at H
   by_cases c2 : x8_1 < (l0.length : Int)
   ·
    rw [if_pos c2] at H; have c2b0 := decide_eq_true c2; clear c2
    by_cases c3 : 0 ≤ x8_1
    ·
     rw [if_pos c3] at H; have c3b0 := decide_eq_true c3; clear c3
     by_cases c4 : x8_1 < (l0.length : Int)
     ·
      rw [if_pos c4] at H; have c4b0 := decide_eq_true c4; clear c4; have H' := Az H; clear H; have p461 : 0 ≤ (x8_1 : Int) := oA; have q461 : x8_1 < (l0.length : Int) := oA; obtain ⟨ad461, e461, hx461_0⟩ := Kd.at_int HR0.out x8_1 p461 q461
      cases e461
      replace p461 := eq_true p461; replace q461 := eq_true q461
      go_wp2
      (first | go_roundg k1 | (refine Handed.intro k1 ?measure ?_; rotate_left; go_step; (try simp only [add_plain]); (repeat apply Exists.intro); refine ⟨?rel, rfl⟩))
      case measure => have := HK1.out; omega
      case rel => exact ⟨(wrap64 (x3_1 + (rd l0 x8_1))), (wrap64 (x8_1 + 1)), rS, rS, H', ⟨by have := HK1.out; omega⟩, by repeat (first | exact Drawn0.refl _ | apply Drawn0.step)⟩
     ·
      rw [if_neg c4] at H
      exact absurd H (by simp)
    ·
     rw [if_neg c3] at H
     exact absurd H (by simp)
   ·
    rw [if_neg c2] at H; have c2b0 := decide_eq_false c2; clear c2; obtain rfl := Option.some.inj H
    go_wp2
    go_ret
    exact ⟨by first | rfl | (simp; done) | (simp [*]; done), by repeat (first | exact Drawn0.refl _ | apply Drawn0.step)⟩
mutual
def impl_typesSum.j0 : Nat → List (List Int) → Bool → Option (Int)
 | 0, _, _ => none
 | k + 1, x0, x12 => if x12 = true then (some (-1)) else (impl_typesSum.l0 k x0 x0 (x0.length : Int) 0)
def impl_typesSum.l0 : Nat → List (List Int) → List (List Int) → Int → Int → Option (Int)
 | 0, _, _, _, _ => none
 | k + 1, x0, x13, x14, x15 => if x15 < x14 then (if 0 ≤ x15 then (if x15 < (x13.length : Int) then ((impl_PartsValid.f k (rd_L1 x13 x15)).bind fun t465 => (if t465 = true then ((impl_sumOf.f k (rd_L1 x13 x15)).bind fun t466 => (if 0 < (x0.length : Int) then ((impl_sumOf.f k (rd_L1 x0 0)).bind fun t468 => (if t466 = t468 then (impl_typesSum.l0 k x0 x13 x14 (wrap64 (x15 + 1))) else (some (-1)))) else (none))) else (some (-1)))) else (none)) else (none)) else (if 0 < (x0.length : Int) then ((impl_sumOf.f k (rd_L1 x0 0)).bind fun t463 => (some t463)) else (none))
end
def impl_typesSum.f (k : Nat) (l0 : List (List Int)) : Option (Int) := if (l0.length : Int) < 1 then (impl_typesSum.j0 k l0 true) else (impl_typesSum.j0 k l0 (decide ((l0.length : Int) > 6)))
set_option maxHeartbeats 8000000 in
set_option maxRecDepth 100000 in
theorem impl_typesSum.calls (k : Nat) (A0 : Option Addr) (c0 : Nat) (l0 : List (List Int)) (r : Int) (w : World) (hr0 : Kd.C (Kd.slice 3 (Kd.int .i64)) w A0 l0.length l0) (hc0 : l0.length ≤ c0) (h : impl_typesSum.f k l0 = some r) :
  Calls Try.prog 94 #[.slice A0 l0.length c0] w fun e w' => e = .returned (.int .i64 r) ∧ Drawn0 w w' := by
 have HR0 := Az hr0; have HC0 := Az hc0; clear hr0 hc0; have H : (if (l0.length : Int) < 1 then (impl_typesSum.j0 k l0 true) else (impl_typesSum.j0 k l0 (decide ((l0.length : Int) > 6)))) = some r := h; clear h; have HC2 := Az H; clear H
 go_enter Try.func94, Try.ntmps94
 go_upto_region 1 with (fail)
 repeat (go_quiet (fail); go_upto_region 1 with (fail))
 go_cut [12] (fun v12 wc => ∃ (kq : Nat) (x12_1 : Bool), v12 = .bool x12_1 ∧ Aside0 (impl_typesSum.j0 kq l0 x12_1 = some r) ∧ Aside0 (kq ≤ k) ∧ Drawn0 w wc)
 case first =>
  have H := HC2.out; clear HC2
  by_cases c3 : (l0.length : Int) < 1
  ·
   rw [if_pos c3] at H; have c3b0 := decide_eq_true c3; have c3b1 : decide (l0.length < 1) = true := decide_eq_true (by omega); clear c3; (first | rw [c3b0] | (simp only [i64_w, i32_w]; rw [c3b0]) | skip); have H' := Az H; clear H
   go_wp2
   repeat (go_quiet (fail); try go_wp2)
   go_meet
   case rel => exact ⟨_, (true), rS, H', ⟨by first | omega | exact Nat.le_refl _⟩, by repeat (first | exact Drawn0.refl _ | apply Drawn0.step)⟩
  ·
   rw [if_neg c3] at H; have c3b0 := decide_eq_false c3; have c3b1 : decide (l0.length < 1) = false := decide_eq_false (by omega); clear c3; (first | rw [c3b0] | (simp only [i64_w, i32_w]; rw [c3b0]) | skip); have H' := Az H; clear H
   go_wp2
   repeat (go_quiet (fail); try go_wp2)
   go_meet
   case rel => exact ⟨_, (decide ((l0.length : Int) > 6)), rS, H', ⟨by first | omega | exact Nat.le_refl _⟩, by repeat (first | exact Drawn0.refl _ | apply Drawn0.step)⟩
 case rest =>
  clear HC2; (try clear p2); (try clear c3); (try clear c3b0); (try clear c3b1); obtain ⟨kq, x12_1, rfl, HA, HJ1, ⟨mc1, rfl⟩⟩ := hcut
  cases kq with
  | zero => exact absurd HA.out (by simp [impl_typesSum.j0])
  | succ kj1 =>
   have H := HA.out; clear HA; simp only [impl_typesSum.j0] at H
   by_cases c4 : x12_1 = true
   ·
    subst c4
    have H1 : (some (-1)) = some r := by rw [if_pos rfl] at H; exact H
    clear H; have H := H1; clear H1; obtain rfl := Option.some.inj H
    go_wp2
    repeat (go_quiet (fail); try go_wp2)
    go_ret
    exact ⟨by first | rfl | (simp; done) | (simp [*]; done), by repeat (first | exact Drawn0.refl _ | apply Drawn0.step)⟩
   ·
    replace c4 := Bool.eq_false_iff.mpr c4; subst c4
    have H1 : (impl_typesSum.l0 kj1 l0 l0 (l0.length : Int) 0) = some r := by rw [if_neg (show ¬ (false = true) by decide)] at H; exact H
    clear H; have H := H1; clear H1; have H' := Az H; clear H
    go_wp2
    repeat (go_quiet (fail); try go_wp2)
    go_loopg [15] kj1 (fun kq v15 w' => ∃ (x15_2 : Int), v15 = .int .i64 x15_2 ∧ Aside0 (impl_typesSum.l0 kq l0 l0 (l0.length : Int) x15_2 = some r) ∧ Aside0 (kq ≤ kj1) ∧ Drawn0 w w')
    case atStart => exact ⟨(0), rS, H', ⟨Nat.le_refl _⟩, by repeat (first | exact Drawn0.refl _ | apply Drawn0.step)⟩
    case round =>
     clear H'; (try clear c1); (try clear p2); (try clear c3); (try clear c3b0); (try clear c3b1); (try clear c4); (try clear p2); obtain ⟨x15_2, rfl, HA, HK2, ⟨m2, rfl⟩⟩ := hrel
     cases gk with
     | zero => exact absurd HA.out (by simp [impl_typesSum.l0])
     | succ k2 =>
      have H := HA.out; clear HA; simp only [impl_typesSum.l0] at H
      by_cases c5 : x15_2 < (l0.length : Int)
      ·
       rw [if_pos c5] at H; have c5b0 := decide_eq_true c5; clear c5
       by_cases c6 : 0 ≤ x15_2
       ·
        rw [if_pos c6] at H; have c6b0 := decide_eq_true c6; clear c6
        by_cases c7 : x15_2 < (l0.length : Int)
        ·
         rw [if_pos c7] at H; have c7b0 := decide_eq_true c7; clear c7; replace H := Option.bind_eq_some_iff.mp H; obtain ⟨t465, A80, H⟩ := H; replace H : (if t465 = true then ((impl_sumOf.f k2 (rd_L1 l0 x15_2)).bind fun t466 => (if 0 < (l0.length : Int) then ((impl_sumOf.f k2 (rd_L1 l0 0)).bind fun t468 => (if t466 = t468 then (impl_typesSum.l0 k2 l0 l0 (l0.length : Int) (wrap64 (x15_2 + 1))) else (some (-1)))) else (none))) else (some (-1))) = some r := H; have A8 := Az A80; clear A80
         by_cases c9 : t465 = true
         ·
          subst c9
          have H1 : ((impl_sumOf.f k2 (rd_L1 l0 x15_2)).bind fun t466 => (if 0 < (l0.length : Int) then ((impl_sumOf.f k2 (rd_L1 l0 0)).bind fun t468 => (if t466 = t468 then (impl_typesSum.l0 k2 l0 l0 (l0.length : Int) (wrap64 (x15_2 + 1))) else (some (-1)))) else (none))) = some r := by rw [if_pos rfl] at H; exact H
          clear H; have H := H1; clear H1; replace H := Option.bind_eq_some_iff.mp H; obtain ⟨t466, A100, H⟩ := H; replace H : (if 0 < (l0.length : Int) then ((impl_sumOf.f k2 (rd_L1 l0 0)).bind fun t468 => (if t466 = t468 then (impl_typesSum.l0 k2 l0 l0 (l0.length : Int) (wrap64 (x15_2 + 1))) else (some (-1)))) else (none)) = some r := H; have A10 := Az A100; clear A100
          by_cases c11 : 0 < (l0.length : Int)
          ·
           rw [if_pos c11] at H; have c11b0 := decide_eq_true c11; have c11b1 : decide (0 < l0.length) = true := decide_eq_true (by omega); clear c11; replace H := Option.bind_eq_some_iff.mp H; obtain ⟨t468, A120, H⟩ := H; replace H : (if t466 = t468 then (impl_typesSum.l0 k2 l0 l0 (l0.length : Int) (wrap64 (x15_2 + 1))) else (some (-1))) = some r := H; have A12 := Az A120; clear A120
           by_cases c13 : t466 = t468
           ·
            rw [if_pos c13] at H; have c13b0 := beq_iff_eq.mpr c13; have c13b1 := bne_eq_false_iff_eq.mpr c13; clear c13; have H' := Az H; clear H; have p464 : 0 ≤ (x15_2 : Int) := oA; have q464 : x15_2 < (l0.length : Int) := oA; obtain ⟨ad464, A464_0, c464_0, e464, hx464_0, hl464_0, hi464_0⟩ := at_L1 HR0.out x15_2 p464 q464
            cases e464
            have HR464_0 := Az hi464_0; have HC464_0 := Az hl464_0; clear hi464_0 hl464_0; replace p464 := eq_true p464; replace q464 := eq_true q464
            go_wp2_with (first | (go_at_call 102; (with_reducible refine (impl_PartsValid.calls k2 _ _ (rd_L1 l0 x15_2) true _ ?side1 ?side2 A8.out).mono ?_); (case side1 => exact cU (HR464_0.out)); (case side2 => exact HC464_0.out); rintro e w' ⟨rfl, ⟨nd, rfl⟩⟩; (try first | exact ⟨rfl, _, World.drewN_drewN _ _ _⟩ | exact ⟨rfl, _, Eq.trans (World.drewN_drewN _ _ _) (congrArg (World.drewN _) (Nat.add_assoc _ _ _))⟩)) | (go_at_call 103; (with_reducible refine (impl_sumOf.calls k2 _ _ (rd_L1 l0 x15_2) t466 _ ?side1 ?side2 A10.out).mono ?_); (case side1 => exact cU (HR464_0.out)); (case side2 => exact HC464_0.out); rintro e w' ⟨rfl, ⟨nd, rfl⟩⟩; (try first | exact ⟨rfl, _, World.drewN_drewN _ _ _⟩ | exact ⟨rfl, _, Eq.trans (World.drewN_drewN _ _ _) (congrArg (World.drewN _) (Nat.add_assoc _ _ _))⟩); have p467 : 0 ≤ (0 : Int) := (by omega); have q467 : 0 < (l0.length : Int) := oA; obtain ⟨ad467, A467_0, c467_0, e467, hx467_0, hl467_0, hi467_0⟩ := at_L1 HR0.out 0 p467 q467; obtain rfl : ad464 = ad467 := (by injection e467); have qi467 : (0 < l0.length) = True := eq_true (by omega); (try rw [show ((0 : Int)).toNat = 0 from rfl] at hx467_0); (try rw [Addr.add_zero'] at hx467_0); have HR467_0 := Az hi467_0; have HC467_0 := Az hl467_0; clear hi467_0 hl467_0; replace p467 := eq_true p467; replace q467 := eq_true q467) | (go_at_call 103; (with_reducible refine (impl_sumOf.calls k2 _ _ (rd_L1 l0 0) t468 _ ?side1 ?side2 A12.out).mono ?_); (case side1 => exact cU (HR467_0.out)); (case side2 => exact HC467_0.out); rintro e w' ⟨rfl, ⟨nd, rfl⟩⟩; (try first | exact ⟨rfl, _, World.drewN_drewN _ _ _⟩ | exact ⟨rfl, _, Eq.trans (World.drewN_drewN _ _ _) (congrArg (World.drewN _) (Nat.add_assoc _ _ _))⟩)))
            repeat (go_quiet (first | (go_at_call 102; (try simp only [Go.IntWalk.i64_left]); (with_reducible refine (impl_PartsValid.calls k2 _ _ (rd_L1 l0 x15_2) true _ ?side1 ?side2 A8.out).mono ?_); (case side1 => exact cU (HR464_0.out)); (case side2 => exact HC464_0.out); rintro e w' ⟨rfl, ⟨nd, rfl⟩⟩; (try first | exact ⟨rfl, _, World.drewN_drewN _ _ _⟩ | exact ⟨rfl, _, Eq.trans (World.drewN_drewN _ _ _) (congrArg (World.drewN _) (Nat.add_assoc _ _ _))⟩)) | (go_at_call 103; (try simp only [Go.IntWalk.i64_left]); (with_reducible refine (impl_sumOf.calls k2 _ _ (rd_L1 l0 x15_2) t466 _ ?side1 ?side2 A10.out).mono ?_); (case side1 => exact cU (HR464_0.out)); (case side2 => exact HC464_0.out); rintro e w' ⟨rfl, ⟨nd, rfl⟩⟩; (try first | exact ⟨rfl, _, World.drewN_drewN _ _ _⟩ | exact ⟨rfl, _, Eq.trans (World.drewN_drewN _ _ _) (congrArg (World.drewN _) (Nat.add_assoc _ _ _))⟩); have p467 : 0 ≤ (0 : Int) := (by omega); have q467 : 0 < (l0.length : Int) := oA; obtain ⟨ad467, A467_0, c467_0, e467, hx467_0, hl467_0, hi467_0⟩ := at_L1 HR0.out 0 p467 q467; obtain rfl : ad464 = ad467 := (by injection e467); have qi467 : (0 < l0.length) = True := eq_true (by omega); (try rw [show ((0 : Int)).toNat = 0 from rfl] at hx467_0); (try rw [Addr.add_zero'] at hx467_0); have HR467_0 := Az hi467_0; have HC467_0 := Az hl467_0; clear hi467_0 hl467_0; replace p467 := eq_true p467; replace q467 := eq_true q467) | (go_at_call 103; (try simp only [Go.IntWalk.i64_left]); (with_reducible refine (impl_sumOf.calls k2 _ _ (rd_L1 l0 0) t468 _ ?side1 ?side2 A12.out).mono ?_); (case side1 => exact cU (HR467_0.out)); (case side2 => exact HC467_0.out); rintro e w' ⟨rfl, ⟨nd, rfl⟩⟩; (try first | exact ⟨rfl, _, World.drewN_drewN _ _ _⟩ | exact ⟨rfl, _, Eq.trans (World.drewN_drewN _ _ _) (congrArg (World.drewN _) (Nat.add_assoc _ _ _))⟩))); try go_wp2_with (first | (go_at_call 102; (try simp only [Go.IntWalk.i64_left]); (with_reducible refine (impl_PartsValid.calls k2 _ _ (rd_L1 l0 x15_2) true _ ?side1 ?side2 A8.out).mono ?_); (case side1 => exact cU (HR464_0.out)); (case side2 => exact HC464_0.out); rintro e w' ⟨rfl, ⟨nd, rfl⟩⟩; (try first | exact ⟨rfl, _, World.drewN_drewN _ _ _⟩ | exact ⟨rfl, _, Eq.trans (World.drewN_drewN _ _ _) (congrArg (World.drewN _) (Nat.add_assoc _ _ _))⟩)) | (go_at_call 103; (try simp only [Go.IntWalk.i64_left]); (with_reducible refine (impl_sumOf.calls k2 _ _ (rd_L1 l0 x15_2) t466 _ ?side1 ?side2 A10.out).mono ?_); (case side1 => exact cU (HR464_0.out)); (case side2 => exact HC464_0.out); rintro e w' ⟨rfl, ⟨nd, rfl⟩⟩; (try first | exact ⟨rfl, _, World.drewN_drewN _ _ _⟩ | exact ⟨rfl, _, Eq.trans (World.drewN_drewN _ _ _) (congrArg (World.drewN _) (Nat.add_assoc _ _ _))⟩); have p467 : 0 ≤ (0 : Int) := (by omega); have q467 : 0 < (l0.length : Int) := oA; obtain ⟨ad467, A467_0, c467_0, e467, hx467_0, hl467_0, hi467_0⟩ := at_L1 HR0.out 0 p467 q467; obtain rfl : ad464 = ad467 := (by injection e467); have qi467 : (0 < l0.length) = True := eq_true (by omega); (try rw [show ((0 : Int)).toNat = 0 from rfl] at hx467_0); (try rw [Addr.add_zero'] at hx467_0); have HR467_0 := Az hi467_0; have HC467_0 := Az hl467_0; clear hi467_0 hl467_0; replace p467 := eq_true p467; replace q467 := eq_true q467) | (go_at_call 103; (try simp only [Go.IntWalk.i64_left]); (with_reducible refine (impl_sumOf.calls k2 _ _ (rd_L1 l0 0) t468 _ ?side1 ?side2 A12.out).mono ?_); (case side1 => exact cU (HR467_0.out)); (case side2 => exact HC467_0.out); rintro e w' ⟨rfl, ⟨nd, rfl⟩⟩; (try first | exact ⟨rfl, _, World.drewN_drewN _ _ _⟩ | exact ⟨rfl, _, Eq.trans (World.drewN_drewN _ _ _) (congrArg (World.drewN _) (Nat.add_assoc _ _ _))⟩))))
            (first | go_roundg k2 | (refine Handed.intro k2 ?measure ?_; rotate_left; go_step; (try simp only [add_plain]); (repeat apply Exists.intro); refine ⟨?rel, rfl⟩))
            case measure => have := HJ1.out; have := HK2.out; omega
            case rel => exact ⟨(wrap64 (x15_2 + 1)), rS, H', ⟨by have := HJ1.out; have := HK2.out; omega⟩, by repeat (first | exact Drawn0.refl _ | apply Drawn0.step)⟩
           ·
            rw [if_neg c13] at H; have c13b0 := beq_eq_false_iff_ne.mpr c13; have c13b1 := bne_iff_ne.mpr c13; obtain rfl := Option.some.inj H; have p464 : 0 ≤ (x15_2 : Int) := oA; have q464 : x15_2 < (l0.length : Int) := oA; obtain ⟨ad464, A464_0, c464_0, e464, hx464_0, hl464_0, hi464_0⟩ := at_L1 HR0.out x15_2 p464 q464
            cases e464
            have HR464_0 := Az hi464_0; have HC464_0 := Az hl464_0; clear hi464_0 hl464_0; replace p464 := eq_true p464; replace q464 := eq_true q464
            go_wp2_with (first | (go_at_call 102; (with_reducible refine (impl_PartsValid.calls k2 _ _ (rd_L1 l0 x15_2) true _ ?side1 ?side2 A8.out).mono ?_); (case side1 => exact cU (HR464_0.out)); (case side2 => exact HC464_0.out); rintro e w' ⟨rfl, ⟨nd, rfl⟩⟩; (try first | exact ⟨rfl, _, World.drewN_drewN _ _ _⟩ | exact ⟨rfl, _, Eq.trans (World.drewN_drewN _ _ _) (congrArg (World.drewN _) (Nat.add_assoc _ _ _))⟩)) | (go_at_call 103; (with_reducible refine (impl_sumOf.calls k2 _ _ (rd_L1 l0 x15_2) t466 _ ?side1 ?side2 A10.out).mono ?_); (case side1 => exact cU (HR464_0.out)); (case side2 => exact HC464_0.out); rintro e w' ⟨rfl, ⟨nd, rfl⟩⟩; (try first | exact ⟨rfl, _, World.drewN_drewN _ _ _⟩ | exact ⟨rfl, _, Eq.trans (World.drewN_drewN _ _ _) (congrArg (World.drewN _) (Nat.add_assoc _ _ _))⟩); have p467 : 0 ≤ (0 : Int) := (by omega); have q467 : 0 < (l0.length : Int) := oA; obtain ⟨ad467, A467_0, c467_0, e467, hx467_0, hl467_0, hi467_0⟩ := at_L1 HR0.out 0 p467 q467; obtain rfl : ad464 = ad467 := (by injection e467); have qi467 : (0 < l0.length) = True := eq_true (by omega); (try rw [show ((0 : Int)).toNat = 0 from rfl] at hx467_0); (try rw [Addr.add_zero'] at hx467_0); have HR467_0 := Az hi467_0; have HC467_0 := Az hl467_0; clear hi467_0 hl467_0; replace p467 := eq_true p467; replace q467 := eq_true q467) | (go_at_call 103; (with_reducible refine (impl_sumOf.calls k2 _ _ (rd_L1 l0 0) t468 _ ?side1 ?side2 A12.out).mono ?_); (case side1 => exact cU (HR467_0.out)); (case side2 => exact HC467_0.out); rintro e w' ⟨rfl, ⟨nd, rfl⟩⟩; (try first | exact ⟨rfl, _, World.drewN_drewN _ _ _⟩ | exact ⟨rfl, _, Eq.trans (World.drewN_drewN _ _ _) (congrArg (World.drewN _) (Nat.add_assoc _ _ _))⟩)))
            repeat (go_quiet (first | (go_at_call 102; (try simp only [Go.IntWalk.i64_left]); (with_reducible refine (impl_PartsValid.calls k2 _ _ (rd_L1 l0 x15_2) true _ ?side1 ?side2 A8.out).mono ?_); (case side1 => exact cU (HR464_0.out)); (case side2 => exact HC464_0.out); rintro e w' ⟨rfl, ⟨nd, rfl⟩⟩; (try first | exact ⟨rfl, _, World.drewN_drewN _ _ _⟩ | exact ⟨rfl, _, Eq.trans (World.drewN_drewN _ _ _) (congrArg (World.drewN _) (Nat.add_assoc _ _ _))⟩)) | (go_at_call 103; (try simp only [Go.IntWalk.i64_left]); (with_reducible refine (impl_sumOf.calls k2 _ _ (rd_L1 l0 x15_2) t466 _ ?side1 ?side2 A10.out).mono ?_); (case side1 => exact cU (HR464_0.out)); (case side2 => exact HC464_0.out); rintro e w' ⟨rfl, ⟨nd, rfl⟩⟩; (try first | exact ⟨rfl, _, World.drewN_drewN _ _ _⟩ | exact ⟨rfl, _, Eq.trans (World.drewN_drewN _ _ _) (congrArg (World.drewN _) (Nat.add_assoc _ _ _))⟩); have p467 : 0 ≤ (0 : Int) := (by omega); have q467 : 0 < (l0.length : Int) := oA; obtain ⟨ad467, A467_0, c467_0, e467, hx467_0, hl467_0, hi467_0⟩ := at_L1 HR0.out 0 p467 q467; obtain rfl : ad464 = ad467 := (by injection e467); have qi467 : (0 < l0.length) = True := eq_true (by omega); (try rw [show ((0 : Int)).toNat = 0 from rfl] at hx467_0); (try rw [Addr.add_zero'] at hx467_0); have HR467_0 := Az hi467_0; have HC467_0 := Az hl467_0; clear hi467_0 hl467_0; replace p467 := eq_true p467; replace q467 := eq_true q467) | (go_at_call 103; (try simp only [Go.IntWalk.i64_left]); (with_reducible refine (impl_sumOf.calls k2 _ _ (rd_L1 l0 0) t468 _ ?side1 ?side2 A12.out).mono ?_); (case side1 => exact cU (HR467_0.out)); (case side2 => exact HC467_0.out); rintro e w' ⟨rfl, ⟨nd, rfl⟩⟩; (try first | exact ⟨rfl, _, World.drewN_drewN _ _ _⟩ | exact ⟨rfl, _, Eq.trans (World.drewN_drewN _ _ _) (congrArg (World.drewN _) (Nat.add_assoc _ _ _))⟩))); try go_wp2_with (first | (go_at_call 102; (try simp only [Go.IntWalk.i64_left]); (with_reducible refine (impl_PartsValid.calls k2 _ _ (rd_L1 l0 x15_2) true _ ?side1 ?side2 A8.out).mono ?_); (case side1 => exact cU (HR464_0.out)); (case side2 => exact HC464_0.out); rintro e w' ⟨rfl, ⟨nd, rfl⟩⟩; (try first | exact ⟨rfl, _, World.drewN_drewN _ _ _⟩ | exact ⟨rfl, _, Eq.trans (World.drewN_drewN _ _ _) (congrArg (World.drewN _) (Nat.add_assoc _ _ _))⟩)) | (go_at_call 103; (try simp only [Go.IntWalk.i64_left]); (with_reducible refine (impl_sumOf.calls k2 _ _ (rd_L1 l0 x15_2) t466 _ ?side1 ?side2 A10.out).mono ?_); (case side1 => exact cU (HR464_0.out)); (case side2 => exact HC464_0.out); rintro e w' ⟨rfl, ⟨nd, rfl⟩⟩; (try first | exact ⟨rfl, _, World.drewN_drewN _ _ _⟩ | exact ⟨rfl, _, Eq.trans (World.drewN_drewN _ _ _) (congrArg (World.drewN _) (Nat.add_assoc _ _ _))⟩); have p467 : 0 ≤ (0 : Int) := (by omega); have q467 : 0 < (l0.length : Int) := oA; obtain ⟨ad467, A467_0, c467_0, e467, hx467_0, hl467_0, hi467_0⟩ := at_L1 HR0.out 0 p467 q467; obtain rfl : ad464 = ad467 := (by injection e467); have qi467 : (0 < l0.length) = True := eq_true (by omega); (try rw [show ((0 : Int)).toNat = 0 from rfl] at hx467_0); (try rw [Addr.add_zero'] at hx467_0); have HR467_0 := Az hi467_0; have HC467_0 := Az hl467_0; clear hi467_0 hl467_0; replace p467 := eq_true p467; replace q467 := eq_true q467) | (go_at_call 103; (try simp only [Go.IntWalk.i64_left]); (with_reducible refine (impl_sumOf.calls k2 _ _ (rd_L1 l0 0) t468 _ ?side1 ?side2 A12.out).mono ?_); (case side1 => exact cU (HR467_0.out)); (case side2 => exact HC467_0.out); rintro e w' ⟨rfl, ⟨nd, rfl⟩⟩; (try first | exact ⟨rfl, _, World.drewN_drewN _ _ _⟩ | exact ⟨rfl, _, Eq.trans (World.drewN_drewN _ _ _) (congrArg (World.drewN _) (Nat.add_assoc _ _ _))⟩))))
            go_ret
            exact ⟨by first | rfl | (simp; done) | (simp [*]; done), by repeat (first | exact Drawn0.refl _ | apply Drawn0.step)⟩
          ·
           rw [if_neg c11] at H
           exact absurd H (by simp)
         ·
          replace c9 := Bool.eq_false_iff.mpr c9; subst c9
          have H1 : (some (-1)) = some r := by rw [if_neg (show ¬ (false = true) by decide)] at H; exact H
          clear H; have H := H1; clear H1; obtain rfl := Option.some.inj H; have p464 : 0 ≤ (x15_2 : Int) := oA; have q464 : x15_2 < (l0.length : Int) := oA; obtain ⟨ad464, A464_0, c464_0, e464, hx464_0, hl464_0, hi464_0⟩ := at_L1 HR0.out x15_2 p464 q464
          cases e464
          have HR464_0 := Az hi464_0; have HC464_0 := Az hl464_0; clear hi464_0 hl464_0; replace p464 := eq_true p464; replace q464 := eq_true q464
          go_wp2_with (first | (go_at_call 102; (with_reducible refine (impl_PartsValid.calls k2 _ _ (rd_L1 l0 x15_2) false _ ?side1 ?side2 A8.out).mono ?_); (case side1 => exact cU (HR464_0.out)); (case side2 => exact HC464_0.out); rintro e w' ⟨rfl, ⟨nd, rfl⟩⟩; (try first | exact ⟨rfl, _, World.drewN_drewN _ _ _⟩ | exact ⟨rfl, _, Eq.trans (World.drewN_drewN _ _ _) (congrArg (World.drewN _) (Nat.add_assoc _ _ _))⟩)))
          repeat (go_quiet (first | (go_at_call 102; (try simp only [Go.IntWalk.i64_left]); (with_reducible refine (impl_PartsValid.calls k2 _ _ (rd_L1 l0 x15_2) false _ ?side1 ?side2 A8.out).mono ?_); (case side1 => exact cU (HR464_0.out)); (case side2 => exact HC464_0.out); rintro e w' ⟨rfl, ⟨nd, rfl⟩⟩; (try first | exact ⟨rfl, _, World.drewN_drewN _ _ _⟩ | exact ⟨rfl, _, Eq.trans (World.drewN_drewN _ _ _) (congrArg (World.drewN _) (Nat.add_assoc _ _ _))⟩))); try go_wp2_with (first | (go_at_call 102; (try simp only [Go.IntWalk.i64_left]); (with_reducible refine (impl_PartsValid.calls k2 _ _ (rd_L1 l0 x15_2) false _ ?side1 ?side2 A8.out).mono ?_); (case side1 => exact cU (HR464_0.out)); (case side2 => exact HC464_0.out); rintro e w' ⟨rfl, ⟨nd, rfl⟩⟩; (try first | exact ⟨rfl, _, World.drewN_drewN _ _ _⟩ | exact ⟨rfl, _, Eq.trans (World.drewN_drewN _ _ _) (congrArg (World.drewN _) (Nat.add_assoc _ _ _))⟩))))
          go_ret
          exact ⟨by first | rfl | (simp; done) | (simp [*]; done), by repeat (first | exact Drawn0.refl _ | apply Drawn0.step)⟩
        ·
         rw [if_neg c7] at H
         exact absurd H (by simp)
       ·
        rw [if_neg c6] at H
        exact absurd H (by simp)
      ·
       rw [if_neg c5] at H; have c5b0 := decide_eq_false c5; clear c5
       by_cases c14 : 0 < (l0.length : Int)
       ·
        rw [if_pos c14] at H; have c14b0 := decide_eq_true c14; have c14b1 : decide (0 < l0.length) = true := decide_eq_true (by omega); clear c14; replace H := Option.bind_eq_some_iff.mp H; obtain ⟨t463, A150, H⟩ := H; replace H : (some t463) = some r := H; have A15 := Az A150; clear A150; obtain rfl := Option.some.inj H; have p462 : 0 ≤ (0 : Int) := (by omega); have q462 : 0 < (l0.length : Int) := oA; obtain ⟨ad462, A462_0, c462_0, e462, hx462_0, hl462_0, hi462_0⟩ := at_L1 HR0.out 0 p462 q462
        cases e462
        have qi462 : (0 < l0.length) = True := eq_true (by omega); (try rw [show ((0 : Int)).toNat = 0 from rfl] at hx462_0); (try rw [Addr.add_zero'] at hx462_0); have HR462_0 := Az hi462_0; have HC462_0 := Az hl462_0; clear hi462_0 hl462_0; replace p462 := eq_true p462; replace q462 := eq_true q462
        go_wp2_with (first | (go_at_call 103; (with_reducible refine (impl_sumOf.calls k2 _ _ (rd_L1 l0 0) t463 _ ?side1 ?side2 A15.out).mono ?_); (case side1 => exact cU (HR462_0.out)); (case side2 => exact HC462_0.out); rintro e w' ⟨rfl, ⟨nd, rfl⟩⟩; (try first | exact ⟨rfl, _, World.drewN_drewN _ _ _⟩ | exact ⟨rfl, _, Eq.trans (World.drewN_drewN _ _ _) (congrArg (World.drewN _) (Nat.add_assoc _ _ _))⟩)))
        repeat (go_quiet (first | (go_at_call 103; (try simp only [Go.IntWalk.i64_left]); (with_reducible refine (impl_sumOf.calls k2 _ _ (rd_L1 l0 0) t463 _ ?side1 ?side2 A15.out).mono ?_); (case side1 => exact cU (HR462_0.out)); (case side2 => exact HC462_0.out); rintro e w' ⟨rfl, ⟨nd, rfl⟩⟩; (try first | exact ⟨rfl, _, World.drewN_drewN _ _ _⟩ | exact ⟨rfl, _, Eq.trans (World.drewN_drewN _ _ _) (congrArg (World.drewN _) (Nat.add_assoc _ _ _))⟩))); try go_wp2_with (first | (go_at_call 103; (try simp only [Go.IntWalk.i64_left]); (with_reducible refine (impl_sumOf.calls k2 _ _ (rd_L1 l0 0) t463 _ ?side1 ?side2 A15.out).mono ?_); (case side1 => exact cU (HR462_0.out)); (case side2 => exact HC462_0.out); rintro e w' ⟨rfl, ⟨nd, rfl⟩⟩; (try first | exact ⟨rfl, _, World.drewN_drewN _ _ _⟩ | exact ⟨rfl, _, Eq.trans (World.drewN_drewN _ _ _) (congrArg (World.drewN _) (Nat.add_assoc _ _ _))⟩))))
        go_ret
        exact ⟨by first | rfl | (simp; done) | (simp [*]; done), by repeat (first | exact Drawn0.refl _ | apply Drawn0.step)⟩
       ·
        rw [if_neg c14] at H
        exact absurd H (by simp)
theorem infoF3 : (Try.prog.info? 3).map (fun i => (i.zero, i.size, i.bytes)) = some (some (.int .i64 0), 1, 8) := by kernel_rfl
theorem infoF23 : (Try.prog.info? 23).map (fun i => (i.zero, i.size, i.bytes)) = some (some (.slice none 0 0), 1, 24) := by kernel_rfl
theorem infoF45 : (Try.prog.info? 45).map (fun i => (i.zero, i.size, i.bytes)) = some (some (.slice none 0 0), 1, 24) := by kernel_rfl
def rdS (xs : List (List Int)) (i : Int) : List Int := xs.getD i.toNat []
theorem at_S {w : World} {A : Option Addr} {n : Nat} {xs : List (List Int)} (h : Kd.C (Kd.slice 3 (Kd.int .i64)) w A n xs) (i : Int) (h0 : 0 ≤ i) (h1 : i < n) : ∃ ad A0 c0, A = some ad ∧ w.cell? (ad.add i.toNat) = some (.slice A0 (rdS xs i).length c0) ∧ (rdS xs i).length ≤ c0 ∧ (Kd.int .i64).C w A0 (rdS xs i).length (rdS xs i) := by
  obtain ⟨ad, c, e, _, hK, hc0⟩ := Kd.C_get h ([] : List Int) i h0 h1; have hc : ∀ j u, c[j]? = some u → w.cell? (ad.add (i.toNat * 1 + j)) = some u := hc0; obtain ⟨A0, c0, rfl, l0, g0⟩ := hK
  exact ⟨ad, A0, c0, e, by have hq := hc 0 _ rfl; rwa [Nat.mul_one, Nat.add_zero] at hq, l0, g0⟩
mutual
def permG {σ : Type} (step : Nat → σ → List Int → Option σ) : Nat → Int → σ → List Int → Option σ
  | 0, _, _, _ => none
  | k + 1, n, s, p => if (p.length : Int) = n then step k s p else permL step k n s p 0
def permL {σ : Type} (step : Nat → σ → List Int → Option σ) : Nat → Int → σ → List Int → Int → Option σ
  | 0, _, _, _, _ => none
  | k + 1, n, s, p, i => if i < n then ((slices_Contains_int_int.f k p i).bind fun b => (if b = true then (permL step k n s p (wrap64 (i + 1))) else ((slices_Clone_int_int.f p).bind fun c => ((some (([i] : List Int) : List Int)).bind fun y => (if c.length + y.length < 17592186044416 then ((permG step k n s (c ++ y)).bind fun s' => (permL step k n s' p (wrap64 (i + 1)))) else none))))) else some s
end
theorem goesV_ {P : Program} {ops : Array Oper} {Q : Exit → Act → World → Prop} {oi : Oper} {N : Option Tmp} {a : Act} {w : World} {K : Act → World → Prop} {f : FuncId} {fn : Func} {xs : Array Operand} {ts : Array TypeId} {cp : Array Value} {op : Operand} (hf : P.funcs[f]? = some fn) (hname : (fn.name == "runtime.NumGoroutine") = false) (hb : fn.body.isSome = true) (args : Array Value)
    (hw : Region.wanted oi (yielded ops a.tmps) = true) (hN : oi.dst = N) (hop : oi.op = .call { callee := .value op, args := xs, argTypes := ts }) (hv : a.eval op = .func (.func f) #[] cp) (hargs : xs.map a.eval ++ cp = args)
    (h : Calls P f args w fun e w' => ∃ v, e = .returned v ∧ K (a.put N v) w') : if Region.wanted oi (yielded ops a.tmps) = true then Oper.wp P oi a w K Q else K (a.put N undef) w := by
  refine call_ f args hw hN ?_ h
  have he := enters_ hf hname hb args w
  unfold execOp
  simp [hop, resolve, Deferred.ofValue, invoke, hv, hargs, he]
set_option maxHeartbeats 8000000 in
set_option maxRecDepth 100000 in
theorem perm1.calls {σ : Type} (step : Nat → σ → List Int → Option σ) (Inv : σ → World → (Nat → Prop) → Prop) (g1 g2 : Nat)
  (hI : ∀ s W W' ok, Inv s W ok → Below W.heap.size W W' → Inv s W' ok) (hL : ∀ s W ok q, Inv s W ok → ok q → q < W.heap.size)
  (hT : ∀ (k : Nat) (s s' : σ) (p : List Int) (A : Option Addr) (c : Nat) (W : World) (ok : Nat → Prop), Inv s W ok → (∀ W', Kept W W' ok → Kd.C (Kd.int .i64) W' A p.length p) → p.length ≤ c → step k s p = some s' → Calls Try.prog 139 #[.slice A p.length c, .pointer (some ⟨g1, 0, none⟩), .pointer (some ⟨g2, 0, none⟩)] W fun e w' => e = .returned (.tuple #[]) ∧ ∃ ok', Inv s' w' ok' ∧ (∀ q, ok' q → ok q ∨ W.heap.size ≤ q) ∧ Kept W w' ok)
  (gn gt gy : Nat) : ∀ (k : Nat) (a1 : Int) (s s' : σ) (A0 : Option Addr) (c0 : Nat) (l0 : List Int) (w : World) (ok : Nat → Prop), Inv s w ok → ¬ ok gn → ¬ ok gt → ¬ ok gy → w.heap[gn]? = some (.cells #[.int .i64 a1] 3 (0, 0)) → w.heap[gt]? = some (.cells #[.func (.func 139) #[] #[.pointer (some ⟨g1, 0, none⟩), .pointer (some ⟨g2, 0, none⟩)]] 96 (0, 0)) → w.heap[gy]? = some (.cells #[.func (.func 157) #[] #[.pointer (some ⟨gn, 0, none⟩), .pointer (some ⟨gt, 0, none⟩), .pointer (some ⟨gy, 0, none⟩)]] 96 (0, 0)) → (∀ W', Kept w W' ok → Kd.C (Kd.int .i64) W' A0 l0.length l0) → l0.length ≤ c0 → permG step k a1 s l0 = some s' →
  Calls Try.prog 157 #[.slice A0 l0.length c0, .pointer (some ⟨gn, 0, none⟩), .pointer (some ⟨gt, 0, none⟩), .pointer (some ⟨gy, 0, none⟩)] w fun e w' => e = .returned (.tuple #[]) ∧ ∃ ok', Inv s' w' ok' ∧ (∀ q, ok' q → ok q ∨ w.heap.size ≤ q) ∧ Kept w w' ok := by
  intro k
  induction k using Nat.strongRecOn with
  | ind k ih =>
  intro a1 s s' A0 c0 l0 w ok hInv hnn hnt hny hbn hbt hby hp hc0 h
  cases k with
  | zero => simp [permG] at h
  | succ k =>
  simp only [permG] at h; have IH := Az ih; have HIV := Az hInv; have NN := Az hnn; have NT := Az hnt; have NY := Az hny; have BN0 := Az hbn; have BT0 := Az hbt; have BY0 := Az hby; have HP := Az hp; have HC0 := Az hc0; have HT := Az hT; have HI := Az hI; have HL := Az hL; clear ih hInv hnn hnt hny hbn hbt hby hp hc0 hT hI hL; have hcz0 : w.cell? ⟨gn, 0, none⟩ = some (.int .i64 a1) := (blk_cell BN0.out 0).trans rfl; have hcz1 : w.cell? ⟨gt, 0, none⟩ = some (.func (.func 139) #[] #[.pointer (some ⟨g1, 0, none⟩), .pointer (some ⟨g2, 0, none⟩)]) := (blk_cell BT0.out 0).trans rfl
  by_cases c5 : (l0.length : Int) = a1
  ·
    rw [if_pos c5] at h; have c5b0 := beq_iff_eq.mpr c5; clear c5; have H' := Az h; clear h
    go_enter Try.func157, Try.ntmps157
    go_wp2_with (first | (go_at_call 139; refine (HT.out k s s' l0 A0 c0 _ ok HIV.out HP.out HC0.out H'.out).mono ?_; rintro e w1 ⟨rfl, ok', i1, i2, i3⟩; have R1 := Az i1; have R2 := Az i2; have R3 := Az i3; clear i1 i2 i3))
    first | go_end0 | ((try simp only [Exit.inBlock, Exit.then]); refine bodyPost_ret (results_none rfl _ _ _) rfl ?_)
    exact ⟨rfl, ok', R1.out, R2.out, R3.out⟩
  ·
    rw [if_neg c5] at h; have c5b0 := beq_eq_false_iff_ne.mpr c5; clear c5; have H' := Az h; clear h
    go_enter Try.func157, Try.ntmps157
    go_wp2
    go_loopg [14] k (fun kq v14 w' => ∃ (x14_1 : Int) (s1 : σ) (ok1 : Nat → Prop), v14 = .int .i64 x14_1 ∧ Aside0 (permL step kq a1 s1 l0 x14_1 = some s') ∧ Aside0 (kq ≤ k) ∧ Aside0 (Inv s1 w' ok1) ∧ Aside0 (∀ q, ok1 q → ok q ∨ w.heap.size ≤ q) ∧ Aside0 (Kept w w' ok))
    case atStart => exact ⟨(0), s, ok, rfl, H', ⟨Nat.le_refl _⟩, HIV, ⟨fun q h => Or.inl h⟩, ⟨Kept.refl w ok⟩⟩
    case round =>
      clear H' HIV hcz0 hcz1; obtain ⟨x14_1, s1, ok1, rfl, HA, HK1, HIV, HOK, HKP⟩ := hrel
      cases gk with
      | zero => exact absurd HA.out (by simp [permL])
      | succ k1 =>
        have H := HA.out; clear HA; simp only [permL] at H; obtain ⟨wB, hwB⟩ : ∃ W_ : World, W_ = wr := ⟨wr, rfl⟩; have HB : Aside0 (Below wB.heap.size wB wr) := ⟨by rw [hwB]; exact Below.refl _ _⟩; have BK666 : Aside0 (wr.heap[gn]? = some (.cells #[.int .i64 a1] 3 (0, 0))) := ⟨blk_kept BN0.out HKP.out NN.out⟩; have BK667 : Aside0 (wr.heap[gt]? = some (.cells #[.func (.func 139) #[] #[.pointer (some ⟨g1, 0, none⟩), .pointer (some ⟨g2, 0, none⟩)]] 96 (0, 0))) := ⟨blk_kept BT0.out HKP.out NT.out⟩; have BK668 : Aside0 (wr.heap[gy]? = some (.cells #[.func (.func 157) #[] #[.pointer (some ⟨gn, 0, none⟩), .pointer (some ⟨gt, 0, none⟩), .pointer (some ⟨gy, 0, none⟩)]] 96 (0, 0))) := ⟨blk_kept BY0.out HKP.out NY.out⟩; have HR0 : Aside0 (Kd.C (Kd.int .i64) wB A0 l0.length l0) := ⟨by rw [hwB]; exact HP.out wr HKP.out⟩; replace HIV : Aside0 (Inv s1 wB ok1) := ⟨by rw [hwB]; exact HIV.out⟩; replace HKP : Aside0 (Kept w wB ok) := ⟨by rw [hwB]; exact HKP.out⟩; have hgnB : gn < wB.heap.size := Nat.lt_of_lt_of_le (blk_lt BN0.out) HKP.out.1; clear hwB
        by_cases c21 : x14_1 < a1
        ·
          rw [if_pos c21] at H; have c21b0 := decide_eq_true c21; clear c21; obtain ⟨t670, A220, H⟩ := Option.bind_eq_some_iff.mp H; have A22 := Az A220; clear A220
          by_cases c23 : t670 = true
          ·
            subst c23; rw [if_pos rfl] at H; have H' := Az H; clear H
            go_wp2_with (first | ((with_reducible refine gate_callee (f := 147) rfl ?_); refine goesL_ (some 19) rfl rfl Try.func147 (by kernel_rfl) rfl #[.slice A0 l0.length c0, .int .i64 x14_1] rfl (by (try simp only [List.map_toArray, List.map_cons, List.map_nil]); first | done | rfl | (simp only [List.length_drop, List.length_take]; rfl)) ?_; (with_reducible refine (slices_Contains_int_int.calls k1 _ _ l0 x14_1 true _ ?side1 ?side2 A22.out).mono ?_); (case side1 => exact cU (Kd.C_below HR0.out HB.out)); (case side2 => exact HC0.out); rintro e w' ⟨rfl, ⟨nd, rfl⟩⟩; refine ⟨_, rfl, ?_⟩))
            (first | go_roundg k1 | (refine Handed.intro k1 ?measure ?_; rotate_left; go_step; (try simp only [add_plain]); (repeat apply Exists.intro); refine ⟨?rel, rfl⟩))
            case measure => have := HK1.out; omega
            case rel => exact ⟨(wrap64 (x14_1 + 1)), s1, ok1, rfl, H', ⟨by have := HK1.out; omega⟩, ⟨HI.out _ _ _ _ HIV.out (bU0 HB.out)⟩, HOK, ⟨Kept.below HKP.out (bU0 HB.out)⟩⟩
          ·
            replace c23 := Bool.eq_false_iff.mpr c23; subst c23; rw [if_neg (show ¬ (false = true) by decide)] at H; obtain ⟨t671, A240, H⟩ := Option.bind_eq_some_iff.mp H; have A24 := Az A240; clear A240; obtain ⟨y674, hy674, H⟩ := Option.bind_eq_some_iff.mp H; have Ny674 : Aside0 (y674 = ([x14_1] : List Int)) := ⟨(Option.some.inj hy674).symm⟩; clear hy674
            by_cases c25 : t671.length + y674.length < 17592186044416
            ·
              rw [if_pos c25] at H; have LMc25 := Az c25; clear c25; obtain ⟨y677, hy677⟩ : ∃ y_ : List Int, y_ = (t671 ++ y674) := ⟨_, rfl⟩; rw [← hy677] at H; have Ny677 := Az hy677; clear hy677; obtain ⟨s2, A260, H⟩ := Option.bind_eq_some_iff.mp H; have A26 := Az A260; clear A260; have H' := Az H; clear H
              try go_wp2_with (first | ((with_reducible refine gate_callee (f := 147) rfl ?_); refine goesL_ (some 19) rfl rfl Try.func147 (by kernel_rfl) rfl #[.slice A0 l0.length c0, .int .i64 x14_1] rfl (by (try simp only [List.map_toArray, List.map_cons, List.map_nil]); first | done | rfl | (simp only [List.length_drop, List.length_take]; rfl)) ?_; (with_reducible refine (slices_Contains_int_int.calls k1 _ _ l0 x14_1 false _ ?side1 ?side2 A22.out).mono ?_); (case side1 => exact cU (Kd.C_below HR0.out HB.out)); (case side2 => exact HC0.out); rintro e w' ⟨rfl, ⟨nd, rfl⟩⟩; refine ⟨_, rfl, ?_⟩))
              (try (rw [drewN_self wr]; generalize hq_ : World.drewN wr _ = wr; have n0_ : Aside0 (wr.heap[gn]? = some (.cells #[.int .i64 a1] 3 (0, 0))) := ⟨by rw [← hq_]; exact (kU BK666.out)⟩; have n1_ : Aside0 (wr.heap[gt]? = some (.cells #[.func (.func 139) #[] #[.pointer (some ⟨g1, 0, none⟩), .pointer (some ⟨g2, 0, none⟩)]] 96 (0, 0))) := ⟨by rw [← hq_]; exact (kU BK667.out)⟩; have n2_ : Aside0 (wr.heap[gy]? = some (.cells #[.func (.func 157) #[] #[.pointer (some ⟨gn, 0, none⟩), .pointer (some ⟨gt, 0, none⟩), .pointer (some ⟨gy, 0, none⟩)]] 96 (0, 0))) := ⟨by rw [← hq_]; exact (kU BK668.out)⟩; have n3_ : Aside0 (Below wB.heap.size wB wr) := ⟨by rw [← hq_]; exact (bU0 HB.out)⟩; clear BK666 BK667 BK668 HB hq_; have BK666 := n0_; have BK667 := n1_; have BK668 := n2_; have HB := n3_; clear n0_ n1_ n2_ n3_)); have n0_ := Az (blk_drew BK666.out); have n1_ := Az (blk_drew BK667.out); have n2_ := Az (blk_drew BK668.out); have n3_ := Az (below_drew1 HB.out); clear BK666 BK667 BK668 HB; have BK666 := n0_; have BK667 := n1_; have BK668 := n2_; have HB := n3_; clear n0_ n1_ n2_ n3_
              refine start_ (n := 7) (S := fun w' => w'.cell? ⟨gy, 0, none⟩ = some (.func (.func 157) #[] #[.pointer (some ⟨gn, 0, none⟩), .pointer (some ⟨gt, 0, none⟩), .pointer (some ⟨gy, 0, none⟩)])) (ds := []) #[false, false, false, false, false, false, false] (by kernel_rfl) rfl rfl ((blk_cell BK668.out 0).trans rfl) (fun hHeld => ?_)
              generalize wr.drew = w27 at BK666 BK667 BK668 HB hHeld ⊢
              refine pure_ (i := 1) (N := some 22) (v := ?_) (a' := ?_) #[false, true, false, false, false, false, false] rfl rfl (by kernel_rfl) (fun _ _ _ h => h) (Or.inl ⟨by rfl, ?_⟩) ?_ ?_
              rotate_left
              ·
               intro w'
               go_simp
               with_reducible rfl
              rotate_left
              ·
               simp only [Act.put, List.setIfInBounds_toArray, List.set_cons_zero, List.set_cons_succ, i64_w, i32_w]
               rfl
              refine pure_ (i := 3) (N := some 24) (v := ?_) (a' := ?_) #[false, true, false, true, false, false, false] rfl rfl (by kernel_rfl) (fun _ _ _ h => h) (Or.inl ⟨by rfl, ?_⟩) ?_ ?_
              rotate_left
              ·
               intro w'
               go_simp
               with_reducible rfl
              rotate_left
              ·
               simp only [Act.put, List.setIfInBounds_toArray, List.set_cons_zero, List.set_cons_succ, i64_w, i32_w]
               rfl
              refine take_ (i := 0) (N := some 21) (v := ?_) (a' := ?_) #[true, true, false, true, false, false, false] rfl rfl (by kernel_rfl) (fun _ _ _ h => h) (Or.inl ⟨by rfl, ?_⟩) hHeld ?_ ?_
              rotate_left
              ·
               intro w' s0
               go_simp
               with_reducible rfl
              rotate_left
              ·
               simp only [Act.put, List.setIfInBounds_toArray, List.set_cons_zero, List.set_cons_succ, i64_w, i32_w]
               rfl
              refine join_ (σ := Value × Value) 2 #[true, true, true, true, true, false, false] (fun s_ => [(23, s_.1), (25, s_.2)]) (fun s_ w' => (w'.cell? ⟨gy, 0, none⟩ = some (.func (.func 157) #[] #[.pointer (some ⟨gn, 0, none⟩), .pointer (some ⟨gt, 0, none⟩), .pointer (some ⟨gy, 0, none⟩)])) ∧ (Kd.R (Kd.int .i64) 3 w' wB.heap.size (fun k_ => some k_ ≠ (s_.2 : Value).ownBlock) s_.1 t671) ∧ (Kd.R (Kd.int .i64) 3 w' wB.heap.size (fun k_ => some k_ ≠ (s_.1 : Value).ownBlock) s_.2 y674) ∧ (w'.heap[gn]? = some (.cells #[.int .i64 a1] 3 (0, 0))) ∧ (w'.heap[gt]? = some (.cells #[.func (.func 139) #[] #[.pointer (some ⟨g1, 0, none⟩), .pointer (some ⟨g2, 0, none⟩)]] 96 (0, 0))) ∧ (w'.heap[gy]? = some (.cells #[.func (.func 157) #[] #[.pointer (some ⟨gn, 0, none⟩), .pointer (some ⟨gt, 0, none⟩), .pointer (some ⟨gy, 0, none⟩)]] 96 (0, 0))) ∧ (Below wB.heap.size wB w')) ?_ ?_
              rotate_left
              ·
               intro hCont
               refine two_ (i := 2) (j := 4) (Ni := some 23) (Nj := some 25) #[true, true, true, true, false, false, false] #[true, true, false, true, true, false, false] rfl rfl rfl rfl (by kernel_rfl) (by decide) (by decide) (fun K hK => ?_) (fun K hK => ?_)
               ·
                skip
                refine goes_ Try.func68 (by kernel_rfl) rfl #[.slice A0 l0.length c0] (by rfl) rfl rfl (by (try simp only [List.map_toArray, List.map_cons, List.map_nil]); first | done | rfl | (simp only [List.length_drop, List.length_take]; rfl)) ?_
                with_reducible refine (slices_Clone_int_int.calls _ _ l0 t671 _ ?side1 ?side2 A24.out).mono ?_
                (case side1 => exact cU (Kd.C_below HR0.out HB.out))
                (case side2 => exact HC0.out)
                rintro e w28 ⟨v672, rfl, ho0, hb⟩
                refine ⟨_, rfl, ?_⟩
                have n0_ := Az (Kd.R_lower ho0 (below_size (bU0 HB.out))); have n1_ := Az (blk_below (g := gn) (o := .cells #[.int .i64 a1] 3 (0, 0)) (kU BK666.out) hb); have n2_ := Az (blk_below (g := gt) (o := .cells #[.func (.func 139) #[] #[.pointer (some ⟨g1, 0, none⟩), .pointer (some ⟨g2, 0, none⟩)]] 96 (0, 0)) (kU BK667.out) hb); have n3_ := Az (blk_below (g := gy) (o := .cells #[.func (.func 157) #[] #[.pointer (some ⟨gn, 0, none⟩), .pointer (some ⟨gt, 0, none⟩), .pointer (some ⟨gy, 0, none⟩)]] 96 (0, 0)) (kU BK668.out) hb); have n4_ := Az (below_step (bU0 HB.out) hb); clear BK666 BK667 BK668 HB; have HO673 := n0_; have BK666 := n1_; have BK667 := n2_; have BK668 := n3_; have HB := n4_; clear n0_ n1_ n2_ n3_ n4_; (try clear hb); (try clear hb2); (try clear hk); (try clear hi); (try clear ho0)
                refine hK.out _ _ ((blk_cell BK668.out 0).trans rfl) (fun hHeld => ?_)
                clear hK K
                refine norm_ (a' := ?_) ?_ ?_
                rotate_left
                ·
                 show Act.put _ (some 23) _ = _
                 simp only [Act.put, List.setIfInBounds_toArray, List.set_cons_zero, List.set_cons_succ, i64_w, i32_w]
                 rfl
                refine one_ (i := 4) (N := some 25) #[true, true, true, true, true, false, false] rfl rfl (by kernel_rfl) (by decide) (fun K hK => ?_)
                refine Kd.R_lit_step (Kd.int .i64) _ 3 ?hg (N := 25) ?hd (xs := ([x14_1] : List Int)) (inner := [.int .i64 x14_1]) (ok := fun _ => True) (okp := fun _ => True) ?hr ?hp (fun _ hk => hk) trivial (Below.refl _ _) (Nat.le_refl _) (by simp) ?_; (case hd => rfl); (case hg => rfl); (case hr => first | (go_simp; done) | (go_simp; rfl)); (case hp => exact (Reps.one (show Kd.M (Kd.int .i64) _ _ _ x14_1 [.int .i64 x14_1] from rfl) (Reps.none _ _)))
                intro v675 w29 ho30 hb hg_ hnew_
                clear hg_ hnew_; (first | rw [← Ny674.out] at ho30 | (simp only [Int.reduceToNat] at ho30; rw [← Ny674.out] at ho30)); have n0_ := Az (Kd.R_elder' (rU HO673.out) (Kd.R_base ho30) hb); have n1_ := Az (Kd.R_lower (Kd.R_new' ho30 (Kd.R_lt (rU HO673.out))) (below_size (bU0 HB.out))); have n2_ := Az (blk_below (g := gn) (o := .cells #[.int .i64 a1] 3 (0, 0)) (kU BK666.out) hb); have n3_ := Az (blk_below (g := gt) (o := .cells #[.func (.func 139) #[] #[.pointer (some ⟨g1, 0, none⟩), .pointer (some ⟨g2, 0, none⟩)]] 96 (0, 0)) (kU BK667.out) hb); have n4_ := Az (blk_below (g := gy) (o := .cells #[.func (.func 157) #[] #[.pointer (some ⟨gn, 0, none⟩), .pointer (some ⟨gt, 0, none⟩), .pointer (some ⟨gy, 0, none⟩)]] 96 (0, 0)) (kU BK668.out) hb); have n5_ := Az (below_step (bU0 HB.out) hb); clear HO673 BK666 BK667 BK668 HB; have HO673 := n0_; have HO676 := n1_; have BK666 := n2_; have BK667 := n3_; have BK668 := n4_; have HB := n5_; clear n0_ n1_ n2_ n3_ n4_ n5_ hb ho30
                refine hK.out _ _ ((blk_cell BK668.out 0).trans rfl) (fun hHeld => ?_)
                clear hK K
                refine norm_ (a' := ?_) ?_ ?_
                rotate_left
                ·
                 show Act.put _ (some 25) _ = _
                 simp only [Act.put, List.setIfInBounds_toArray, List.set_cons_zero, List.set_cons_succ, i64_w, i32_w]
                 rfl
                exact norm_ (by simp only [putAll, Act.put, List.setIfInBounds_toArray, List.set_cons_zero, List.set_cons_succ]) (hCont (v672, v675) _ ⟨hHeld, (by (with_reducible repeat (first | apply Kd.R_alloc | apply Kd.R_drewN | apply Kd.R_drew)); exact Kd.R_mono HO673.out (fun _ hk => hk.2)), (by (with_reducible repeat (first | apply Kd.R_alloc | apply Kd.R_drewN | apply Kd.R_drew)); exact Kd.R_mono HO676.out (fun _ hk => hk.2)), (kU BK666.out), (kU BK667.out), (kU BK668.out), (bU0 HB.out)⟩)
               ·
                skip
                refine Kd.R_lit_step (Kd.int .i64) _ 3 ?hg (N := 25) ?hd (xs := ([x14_1] : List Int)) (inner := [.int .i64 x14_1]) (ok := fun _ => True) (okp := fun _ => True) ?hr ?hp (fun _ hk => hk) trivial (Below.refl _ _) (Nat.le_refl _) (by simp) ?_; (case hd => rfl); (case hg => rfl); (case hr => first | (go_simp; done) | (go_simp; rfl)); (case hp => exact (Reps.one (show Kd.M (Kd.int .i64) _ _ _ x14_1 [.int .i64 x14_1] from rfl) (Reps.none _ _)))
                intro v675 w28 ho29 hb hg_ hnew_
                clear hg_ hnew_; (first | rw [← Ny674.out] at ho29 | (simp only [Int.reduceToNat] at ho29; rw [← Ny674.out] at ho29)); have n0_ := Az (Kd.R_lower ho29 (below_size (bU0 HB.out))); have n1_ := Az (blk_below (g := gn) (o := .cells #[.int .i64 a1] 3 (0, 0)) (kU BK666.out) hb); have n2_ := Az (blk_below (g := gt) (o := .cells #[.func (.func 139) #[] #[.pointer (some ⟨g1, 0, none⟩), .pointer (some ⟨g2, 0, none⟩)]] 96 (0, 0)) (kU BK667.out) hb); have n3_ := Az (blk_below (g := gy) (o := .cells #[.func (.func 157) #[] #[.pointer (some ⟨gn, 0, none⟩), .pointer (some ⟨gt, 0, none⟩), .pointer (some ⟨gy, 0, none⟩)]] 96 (0, 0)) (kU BK668.out) hb); have n4_ := Az (below_step (bU0 HB.out) hb); clear BK666 BK667 BK668 HB; have HO676 := n0_; have BK666 := n1_; have BK667 := n2_; have BK668 := n3_; have HB := n4_; clear n0_ n1_ n2_ n3_ n4_ hb ho29
                refine hK.out _ _ ((blk_cell BK668.out 0).trans rfl) (fun hHeld => ?_)
                clear hK K
                refine norm_ (a' := ?_) ?_ ?_
                rotate_left
                ·
                 show Act.put _ (some 25) _ = _
                 simp only [Act.put, List.setIfInBounds_toArray, List.set_cons_zero, List.set_cons_succ, i64_w, i32_w]
                 rfl
                refine one_ (i := 2) (N := some 23) #[true, true, true, true, true, false, false] rfl rfl (by kernel_rfl) (by decide) (fun K hK => ?_)
                refine goes_ Try.func68 (by kernel_rfl) rfl #[.slice A0 l0.length c0] (by rfl) rfl rfl (by (try simp only [List.map_toArray, List.map_cons, List.map_nil]); first | done | rfl | (simp only [List.length_drop, List.length_take]; rfl)) ?_
                with_reducible refine (slices_Clone_int_int.calls _ _ l0 t671 _ ?side1 ?side2 A24.out).mono ?_
                (case side1 => exact cU (Kd.C_below HR0.out HB.out))
                (case side2 => exact HC0.out)
                rintro e w30 ⟨v672, rfl, ho0, hb⟩
                refine ⟨_, rfl, ?_⟩
                have n0_ := Az (Kd.R_elder' (rU HO676.out) (Kd.R_base ho0) hb); have n1_ := Az (Kd.R_lower (Kd.R_new' ho0 (Kd.R_lt (rU HO676.out))) (below_size (bU0 HB.out))); have n2_ := Az (blk_below (g := gn) (o := .cells #[.int .i64 a1] 3 (0, 0)) (kU BK666.out) hb); have n3_ := Az (blk_below (g := gt) (o := .cells #[.func (.func 139) #[] #[.pointer (some ⟨g1, 0, none⟩), .pointer (some ⟨g2, 0, none⟩)]] 96 (0, 0)) (kU BK667.out) hb); have n4_ := Az (blk_below (g := gy) (o := .cells #[.func (.func 157) #[] #[.pointer (some ⟨gn, 0, none⟩), .pointer (some ⟨gt, 0, none⟩), .pointer (some ⟨gy, 0, none⟩)]] 96 (0, 0)) (kU BK668.out) hb); have n5_ := Az (below_step (bU0 HB.out) hb); clear HO676 BK666 BK667 BK668 HB; have HO676 := n0_; have HO673 := n1_; have BK666 := n2_; have BK667 := n3_; have BK668 := n4_; have HB := n5_; clear n0_ n1_ n2_ n3_ n4_ n5_; (try clear hb); (try clear hb2); (try clear hk); (try clear hi); (try clear ho0)
                refine hK.out _ _ ((blk_cell BK668.out 0).trans rfl) (fun hHeld => ?_)
                clear hK K
                refine norm_ (a' := ?_) ?_ ?_
                rotate_left
                ·
                 show Act.put _ (some 23) _ = _
                 simp only [Act.put, List.setIfInBounds_toArray, List.set_cons_zero, List.set_cons_succ, i64_w, i32_w]
                 rfl
                exact norm_ (by simp only [putAll, Act.put, List.setIfInBounds_toArray, List.set_cons_zero, List.set_cons_succ]) (hCont (v672, v675) _ ⟨hHeld, (by (with_reducible repeat (first | apply Kd.R_alloc | apply Kd.R_drewN | apply Kd.R_drew)); exact Kd.R_mono HO673.out (fun _ hk => hk.2)), (by (with_reducible repeat (first | apply Kd.R_alloc | apply Kd.R_drewN | apply Kd.R_drew)); exact Kd.R_mono HO676.out (fun _ hk => hk.2)), (kU BK666.out), (kU BK667.out), (kU BK668.out), (bU0 HB.out)⟩)
              rintro ⟨v672, v675⟩ w31 ⟨hS_, h0_, h1_, h2_, h3_, h4_, h5_⟩
              have n0_ : Aside0 (Kd.R (Kd.int .i64) 3 w31 wB.heap.size (fun k_ => some k_ ≠ (v675 : Value).ownBlock) v672 t671) := ⟨h0_⟩; have n1_ : Aside0 (Kd.R (Kd.int .i64) 3 w31 wB.heap.size (fun k_ => some k_ ≠ (v672 : Value).ownBlock) v675 y674) := ⟨h1_⟩; have n2_ : Aside0 (w31.heap[gn]? = some (.cells #[.int .i64 a1] 3 (0, 0))) := ⟨h2_⟩; have n3_ : Aside0 (w31.heap[gt]? = some (.cells #[.func (.func 139) #[] #[.pointer (some ⟨g1, 0, none⟩), .pointer (some ⟨g2, 0, none⟩)]] 96 (0, 0))) := ⟨h3_⟩; have n4_ : Aside0 (w31.heap[gy]? = some (.cells #[.func (.func 157) #[] #[.pointer (some ⟨gn, 0, none⟩), .pointer (some ⟨gt, 0, none⟩), .pointer (some ⟨gy, 0, none⟩)]] 96 (0, 0))) := ⟨h4_⟩; have n5_ : Aside0 (Below wB.heap.size wB w31) := ⟨h5_⟩; clear BK666 BK667 BK668 HB h0_ h1_ h2_ h3_ h4_ h5_; have HO673 := n0_; have HO676 := n1_; have BK666 := n2_; have BK667 := n3_; have BK668 := n4_; have HB := n5_; clear n0_ n1_ n2_ n3_ n4_ n5_; have hHeld : w31.cell? ⟨gy, 0, none⟩ = some (.func (.func 157) #[] #[.pointer (some ⟨gn, 0, none⟩), .pointer (some ⟨gt, 0, none⟩), .pointer (some ⟨gy, 0, none⟩)]) := hS_; obtain ⟨Ao33, co33, eo33⟩ := Kd.R_slice HO676.out; (first | subst eo33 | (injection eo33 with f1_ f2_ f3_; have f4_ := f1_.symm; have f5_ := f3_.symm; clear f1_ f2_ f3_; subst f4_; subst f5_))
              refine norm_ (a' := ?_) ?_ ?_
              rotate_left
              ·
               simp only [putAll, Act.put, List.setIfInBounds_toArray, List.set_cons_zero, List.set_cons_succ]
               rfl
              refine one_ (i := 5) (N := some 26) #[true, true, true, true, true, true, false] rfl rfl (by kernel_rfl) (by decide) (fun K hK => ?_)
              refine Kd.R_append_rows_step (Kd.int .i64) (w0 := wB) wB.heap.size (by rfl) (.tmp 23) (.tmp 25) 23 3 (.int .i64 0) 8 rfl Try.underlying23 infoF3 rfl (by decide) (by omega) v672 t671 y674 _ _ _ (fun k_ => some k_ ≠ (.slice Ao33 y674.length co33 : Value).ownBlock) (fun _ => False) rfl rfl ?aO ?aR (fun _ _ h => h) (fun _ h => h.elim) ?aF ?aB ?aS ?aL ?_
              (case aR => exact cU ((Kd.R_reads' HO676.out).2.2))
              (case aB => exact (bU0 HB.out))
              (case aF => exact (fun k_ hk => Kd.fresh' (Kd.R_lt (rU HO676.out)) k_ hk))
              (case aO => exact (rU HO673.out))
              (case aS => exact (below_size (bU0 HB.out)))
              (case aL => have := LMc25.out; omega)
              intro v678 w32 ho hb hg hat
              rw [← Ny677.out] at ho; have n0_ := Az (blk_grown (g := gn) (o := .cells #[.int .i64 a1] 3 (0, 0)) (kU BK666.out) hg (fun e_ => absurd (Kd.R_base HO673.out gn e_.symm) (Nat.not_le_of_lt hgnB))); have n1_ := Az (blk_grown (g := gt) (o := .cells #[.func (.func 139) #[] #[.pointer (some ⟨g1, 0, none⟩), .pointer (some ⟨g2, 0, none⟩)]] 96 (0, 0)) (kU BK667.out) hg (Kd.R_ne HO673.out BK667.out (by decide))); have n2_ := Az (blk_grown (g := gy) (o := .cells #[.func (.func 157) #[] #[.pointer (some ⟨gn, 0, none⟩), .pointer (some ⟨gt, 0, none⟩), .pointer (some ⟨gy, 0, none⟩)]] 96 (0, 0)) (kU BK668.out) hg (Kd.R_ne HO673.out BK668.out (by decide))); have n3_ := Az (Kd.R_after (ok := (fun _ => True)) (by (with_reducible repeat (first | apply Kd.R_alloc | apply Kd.R_drewN | apply Kd.R_drew)); exact Kd.R_mono HO676.out (fun _ hk => ⟨trivial, hk⟩)) hg hat); have n4_ := Az (hb); have n5_ := Az (ho); clear BK666 BK667 BK668 HO676 HB HO673; have BK666 := n0_; have BK667 := n1_; have BK668 := n2_; have HO676 := n3_; have HB := n4_; have HO679 := n5_; clear n0_ n1_ n2_ n3_ n4_ n5_ ho hb hg hat; obtain ⟨Ao34, co34, eo34⟩ := Kd.R_slice HO679.out; (first | subst eo34 | (injection eo34 with f1_ f2_ f3_; have f4_ := f1_.symm; have f5_ := f3_.symm; clear f1_ f2_ f3_; subst f4_; subst f5_))
              refine hK.out _ _ ((blk_cell BK668.out 0).trans rfl) (fun hHeld => ?_)
              clear hK K
              refine norm_ (a' := ?_) ?_ ?_
              rotate_left
              ·
               show Act.put _ (some 26) _ = _
               simp only [Act.put, List.setIfInBounds_toArray, List.set_cons_zero, List.set_cons_succ, i64_w, i32_w]
               rfl
              refine one_ (i := 6) (N := some 27) #[true, true, true, true, true, true, true] rfl rfl (by kernel_rfl) (by decide) (fun K hK => ?_)
              refine goesV_ (f := 157) Try.func157 (by kernel_rfl) rfl #[.slice Ao34 y677.length co34, .pointer (some ⟨gn, 0, none⟩), .pointer (some ⟨gt, 0, none⟩), .pointer (some ⟨gy, 0, none⟩)] (by rfl) rfl rfl (by rfl) (by first | rfl | (simp; done) | (simp; rfl)) ?_
              have hge : ∀ q, ok1 q → q < wB.heap.size := fun q hq => HL.out _ _ _ _ HIV.out hq
              have hnew : ∀ g, g < w.heap.size → ¬ ok g → ¬ ok1 g := fun g hg hn hq => (HOK.out g hq).elim hn (fun h_ => by omega)
              have on := hnew gn (blk_lt BN0.out) NN.out; have ot := hnew gt (blk_lt BT0.out) NT.out; have oy := hnew gy (blk_lt BY0.out) NY.out
              refine (IH.out k1 (by have := HK1.out; omega) a1 s1 s2 Ao34 co34 y677 _ ok1 (HI.out _ _ _ _ HIV.out (bU0 HB.out)) on ot oy BK666.out BK667.out BK668.out (Kd.C_kept_own (Kd.R_bound HO679.out) (fun q hq h1 => by have h2 := hge q h1; have h3 := hq.2.1; omega)) (Kd.R_reads' HO679.out).2.1 A26.out).mono ?_
              rintro e w' ⟨rfl, ok2, i1, i2, i3⟩
              refine ⟨_, rfl, ?_⟩
              have R1 := Az i1; have R2 := Az i2; have R3 := Az i3; have hcy := blk_kept BK668.out i3 oy; clear i1 i2 i3
              refine hK.out _ _ ((blk_cell hcy 0).trans rfl) (fun hHeld => ?_)
              clear hK K
              refine norm_ (a' := ?_) ?_ ?_
              rotate_left
              ·
                show Act.put _ (some 27) _ = _
                simp only [Act.put, List.setIfInBounds_toArray, List.set_cons_zero, List.set_cons_succ, i64_w, i32_w]
                rfl
              refine done_ (by kernel_rfl) ?_
              try go_wp2
              (first | go_roundg k1 | (refine Handed.intro k1 ?measure ?_; rotate_left; go_step; (try simp only [add_plain]); (repeat apply Exists.intro); refine ⟨?rel, rfl⟩))
              case measure => have := HK1.out; omega
              case rel => exact ⟨(wrap64 (x14_1 + 1)), s2, ok2, rfl, H', ⟨by have := HK1.out; omega⟩, R1, ⟨fun q hq => (R2.out q hq).elim (HOK.out q) (fun h_ => Or.inr (Nat.le_trans (Nat.le_trans HKP.out.1 HB.out.size) h_))⟩, ⟨Kept.then_ (Kept.below HKP.out HB.out) R3.out (fun q hq => HOK.out q hq)⟩⟩
            ·
              rw [if_neg c25] at H
              exact absurd H (by simp)
        ·
          rw [if_neg c21] at H; have c21b0 := decide_eq_false c21; clear c21; obtain rfl := Option.some.inj H
          go_wp2
          first | go_end0 | ((try simp only [Exit.inBlock, Exit.then]); refine bodyPost_ret (results_none rfl _ _ _) rfl ?_)
          exact ⟨rfl, ok1, HI.out _ _ _ _ HIV.out (bU0 HB.out), HOK.out, Kept.below HKP.out (bU0 HB.out)⟩
theorem setCell_new (w : World) (u v : Value) (t : TypeId) : (w.alloc (.cells #[u] t (0, 0))).setCell ⟨w.heap.size, 0, none⟩ v = w.alloc (.cells #[v] t (0, 0)) := (World.setCell_alloc_new _ _ _ _).trans rfl
set_option maxHeartbeats 8000000 in
set_option maxRecDepth 100000 in
theorem perm0.calls {σ : Type} (step : Nat → σ → List Int → Option σ) (Inv : σ → World → (Nat → Prop) → Prop) (g1 g2 : Nat)
  (hI : ∀ s W W' ok, Inv s W ok → Below W.heap.size W W' → Inv s W' ok) (hL : ∀ s W ok q, Inv s W ok → ok q → q < W.heap.size)
  (hT : ∀ (k : Nat) (s s' : σ) (p : List Int) (A : Option Addr) (c : Nat) (W : World) (ok : Nat → Prop), Inv s W ok → (∀ W', Kept W W' ok → Kd.C (Kd.int .i64) W' A p.length p) → p.length ≤ c → step k s p = some s' → Calls Try.prog 139 #[.slice A p.length c, .pointer (some ⟨g1, 0, none⟩), .pointer (some ⟨g2, 0, none⟩)] W fun e w' => e = .returned (.tuple #[]) ∧ ∃ ok', Inv s' w' ok' ∧ (∀ q, ok' q → ok q ∨ W.heap.size ≤ q) ∧ Kept W w' ok)
  (k : Nat) (a1 : Int) (s s' : σ) (w : World) (ok : Nat → Prop) (hInv : Inv s w ok) (h : permG step k a1 s [] = some s') :
  Calls Try.prog 138 #[.int .i64 a1, .func (.func 139) #[] #[.pointer (some ⟨g1, 0, none⟩), .pointer (some ⟨g2, 0, none⟩)]] w fun e w' => e = .returned (.tuple #[]) ∧ ∃ ok', Inv s' w' ok' ∧ (∀ q, ok' q → ok q ∨ w.heap.size ≤ q) ∧ Kept w w' ok := by
  have HB := Az (Below.refl w.heap.size w); have HIV := Az hInv; have HH := Az h; have HT := Az hT; have HI := Az hI; have HL := Az hL; clear hInv h hT hI hL
  go_enter Try.func138, Try.ntmps138
  go_wp2_with (first | ((with_reducible refine gate_dst (N := 2) rfl ?_); refine box_event ?hg (N := 2) ?hd (cs := #[.int .i64 a1]) (t := 3) ?hr ?_; (case hd => rfl); (case hg => rfl); (case hr => first | (go_simp; done) | (go_simp; rfl)); intro gn hg_ w2 hbox hb; have n1 := Az (below_step HB.out hb); have B_gn := Az hbox; have G_gn := Az ((by rw [hg_]; exact below_size HB.out) : w.heap.size ≤ gn); clear HB hb hbox hg_; have HB := n1; clear n1) | ((with_reducible refine gate_dst (N := 3) rfl ?_); refine box_event ?hg (N := 3) ?hd (cs := #[.func (.func 139) #[] #[.pointer (some ⟨g1, 0, none⟩), .pointer (some ⟨g2, 0, none⟩)]]) (t := 96) ?hr ?_; (case hd => rfl); (case hg => rfl); (case hr => first | (go_simp; done) | (go_simp; rfl)); intro gt hg_ w3 hbox hb; have n1 := Az (below_step HB.out hb); have m0 := Az (blk_below B_gn.out hb); have B_gt := Az hbox; have G_gt := Az ((by rw [hg_]; exact below_size HB.out) : w.heap.size ≤ gt); clear HB hb hbox hg_ B_gn; have HB := n1; clear n1; have B_gn := m0; clear m0) | ((with_reducible refine gate_store (p := 4) (t := 96) rfl ?_); refine store_event (w1 := w3.alloc (.cells #[.func (.func 157) #[] #[.pointer (some ⟨gn, 0, none⟩), .pointer (some ⟨gt, 0, none⟩), .pointer (some ⟨w3.heap.size, 0, none⟩)]] 96 (0, 0))) rfl rfl rfl ?hr ?_; (case hr => (go_simp; rw [run_store _ _ _ _ _ rfl]; simp [stored]; exact setCell_new _ _ _ _)); rintro w4 rfl) | (go_at_call 157; refine (perm1.calls step Inv g1 g2 HI.out HL.out HT.out gn gt w3.heap.size k a1 s s' none 0 [] _ ok (HI.out _ _ _ _ HIV.out (by repeat (first | exact HB.out | apply below_alloc))) (fun h_ => Nat.lt_irrefl _ (Nat.lt_of_lt_of_le (HL.out _ _ _ _ HIV.out h_) G_gn.out)) (fun h_ => Nat.lt_irrefl _ (Nat.lt_of_lt_of_le (HL.out _ _ _ _ HIV.out h_) G_gt.out)) (fun h_ => Nat.lt_irrefl _ (Nat.lt_of_lt_of_le (HL.out _ _ _ _ HIV.out h_) (below_size HB.out))) (blk_alloc B_gn.out _) (blk_alloc B_gt.out _) (blk_new w3 _) (fun W' _ => Kd.C_nil _ _) (Nat.le_refl 0) HH.out).mono ?_; rintro e w5 ⟨rfl, ok', i1, i2, i3⟩; have R1 := Az i1; have R2 := Az i2; have R3 := Az i3; clear i1 i2 i3))
  first | go_end0 | ((try simp only [Exit.inBlock, Exit.then]); refine bodyPost_ret (results_none rfl _ _ _) rfl ?_)
  have hb4 : Below w.heap.size w (w3.alloc (.cells #[.func (.func 157) #[] #[.pointer (some ⟨gn, 0, none⟩), .pointer (some ⟨gt, 0, none⟩), .pointer (some ⟨w3.heap.size, 0, none⟩)]] 96 (0, 0))) := (by repeat (first | exact HB.out | apply below_alloc))
  exact ⟨rfl, ok', R1.out, fun q hq => (R2.out q hq).imp id (fun h_ => Nat.le_trans (below_size hb4) h_), Kept.then_ (Kept.below (Kept.refl w ok) hb4) R3.out (fun q hq => Or.inl hq)⟩
def fac1L : Nat → List (List Int) → List Int → List (List (List Int)) → Int → Option (List (List (List Int)))
  | 0, _, _, _, _ => none
  | k + 1, ts, p, cs, i => if i < (ts.length : Int) then (if 0 ≤ i then ((impl_typeOf.f k p).bind fun t => ((slices_Equal_int_int.f k t (rdS ts i)).bind fun b => (if b = true then ((slices_Clone_int_int.f p).bind fun c => (if (cs.getD i.toNat []).length < 5864062014805 then fac1L k ts p (cs.set i.toNat (cs.getD i.toNat [] ++ [c])) (wrap64 (i + 1)) else none)) else fac1L k ts p cs (wrap64 (i + 1))))) else none) else some cs
def fac1I (w0 : World) (At : Option Addr) (ct : Nat) (ts : List (List Int)) (g1 g2 : Nat) (v : Value) (s : List (List (List Int))) (W : World) (ok : Nat → Prop) : Prop :=
  Below w0.heap.size w0 W ∧ W.heap[g1]? = some (.cells #[.slice At ts.length ct] 45 (0, 0)) ∧ W.heap[g2]? = some (.cells #[v] 98 (0, 0)) ∧ Kd.S (Kd.slice 23 (Kd.slice 3 (Kd.int .i64))) 45 W w0.heap.size ok v s ∧ (∀ q, ok q → q ≠ g1 ∧ q ≠ g2 ∧ q < W.heap.size) ∧ s.length = ts.length
theorem fac1I.below {w0 W W1 : World} {At : Option Addr} {ct : Nat} {ts : List (List Int)} {g1 g2 : Nat} {v : Value} {s : List (List (List Int))} {ok : Nat → Prop} (h : fac1I w0 At ct ts g1 g2 v s W ok) (hb : Below W.heap.size W W1) : fac1I w0 At ct ts g1 g2 v s W1 ok := by
  obtain ⟨h1, h2, h3, h4, h5, h6⟩ := h
  exact ⟨below_step h1 hb, blk_below h2 hb, blk_below h3 hb, Kd.S_below h4 hb, fun q hq => ⟨(h5 q hq).1, (h5 q hq).2.1, Nat.lt_of_lt_of_le (h5 q hq).2.2 hb.size⟩, h6⟩
set_option maxHeartbeats 8000000 in
set_option maxRecDepth 100000 in
theorem fac1.calls (w0 : World) (At : Option Addr) (ct : Nat) (ts : List (List Int)) (g1 g2 : Nat) (v : Value) (hts : Kd.C (Kd.slice 3 (Kd.int .i64)) w0 At ts.length ts) (hct : ts.length ≤ ct)
    (k : Nat) (s s' : List (List (List Int))) (p : List Int) (A : Option Addr) (c : Nat) (w : World) (ok : Nat → Prop) (hI : fac1I w0 At ct ts g1 g2 v s w ok) (hp : ∀ W', Kept w W' ok → Kd.C (Kd.int .i64) W' A p.length p) (hc : p.length ≤ c) (h : fac1L k ts p s 0 = some s') :
    Calls Try.prog 139 #[.slice A p.length c, .pointer (some ⟨g1, 0, none⟩), .pointer (some ⟨g2, 0, none⟩)] w fun e w' => e = .returned (.tuple #[]) ∧ ∃ ok', fac1I w0 At ct ts g1 g2 v s' w' ok' ∧ (∀ q, ok' q → ok q ∨ w.heap.size ≤ q) ∧ Kept w w' ok := by
  have HTS := Az hts; have HCT := Az hct; have HIV := Az hI; have HP := Az hp; have HC0 := Az hc; have H' := Az h; have hcz0 : w.cell? ⟨g1, 0, none⟩ = some (.slice At ts.length ct) := (blk_cell hI.2.1 0).trans rfl; clear hts hct hI hp hc h
  go_enter Try.func139, Try.ntmps139
  go_wp2
  clear hcz0
  go_loopg [8] k (fun kq v8 w' => ∃ (i : Int) (cs : List (List (List Int))) (ok1 : Nat → Prop), v8 = .int .i64 i ∧ Aside0 (fac1L kq ts p cs i = some s') ∧ Aside0 (kq ≤ k) ∧ Aside0 (fac1I w0 At ct ts g1 g2 v cs w' ok1) ∧ Aside0 (∀ q, ok1 q → ok q ∨ w.heap.size ≤ q) ∧ Aside0 (Kept w w' ok))
  case atStart => exact ⟨(0), s, ok, rfl, H', ⟨Nat.le_refl _⟩, HIV, ⟨fun q h => Or.inl h⟩, ⟨Kept.refl w ok⟩⟩
  case round =>
    clear H' HIV; obtain ⟨i, cs, ok1, rfl, HA, HK1, HIV, HOK, HKP⟩ := hrel
    cases gk with
    | zero => exact absurd HA.out (by simp [fac1L])
    | succ k1 =>
      have H := HA.out; clear HA; simp only [fac1L] at H; obtain ⟨wB, hwB⟩ : ∃ W_ : World, W_ = wr := ⟨wr, rfl⟩; have HB : Aside0 (Below wB.heap.size wB wr) := ⟨by rw [hwB]; exact Below.refl _ _⟩; have HR0 : Aside0 (Kd.C (Kd.int .i64) wB A p.length p) := ⟨by rw [hwB]; exact HP.out wr HKP.out⟩; replace HIV : Aside0 (fac1I w0 At ct ts g1 g2 v cs wB ok1) := ⟨by rw [hwB]; exact HIV.out⟩; replace HKP : Aside0 (Kept w wB ok) := ⟨by rw [hwB]; exact HKP.out⟩
      by_cases c1 : i < (ts.length : Int)
      ·
        rw [if_pos c1] at H; have c1b0 := decide_eq_true c1
        by_cases c2 : 0 ≤ i
        ·
          rw [if_pos c2] at H; obtain ⟨t, A30, H⟩ := Option.bind_eq_some_iff.mp H; have A3 := Az A30; clear A30; obtain ⟨b, A40, H⟩ := Option.bind_eq_some_iff.mp H; have A4 := Az A40; clear A40; obtain ⟨ad, A5, c5, e5, hx5, hl5, hi5⟩ := at_S (Kd.C_below HTS.out HIV.out.1) i c2 c1
          cases e5
          have HR5 := Az hi5; have HC5 := Az hl5; clear hi5 hl5
          have hx5' : wr.cell? (ad.add i.toNat) = some (.slice A5 (rdS ts i).length c5) := by rw [← hwB]; exact hx5
          clear hx5 hwB; have p5 := eq_true c2; have q5 := eq_true c1
          cases b with
          | false =>
            rw [if_neg (by decide)] at H; have H' := Az H; clear H c1 c2
            go_wp2_with (first | (go_at_call 86; (with_reducible refine (impl_typeOf.calls k1 _ _ p t _ ?side1 ?side2 A3.out).mono ?_); (case side1 => exact Kd.C_below HR0.out (bU0 HB.out)); (case side2 => exact HC0.out); rintro e w1 ⟨v1, rfl, ho, hb⟩; obtain ⟨A1, d1, ev1⟩ := Kd.R_slice ho; subst ev1; have HO1 := Az ho; have n0_ := Az (below_step (bU0 HB.out) hb); clear HB; have HB := n0_; clear n0_ ho hb) | (go_at_call 105; (with_reducible refine (slices_Equal_int_int.calls k1 _ _ t _ _ (rdS ts i) false _ ?side1 ?side2 ?side3 ?side4 A4.out).mono ?_); (case side1 => exact (Kd.R_reads' HO1.out).2.2); (case side2 => exact (Kd.R_reads' HO1.out).2.1); (case side3 => exact Kd.C_below HR5.out (bU0 HB.out)); (case side4 => exact HC5.out); rintro e w' ⟨rfl, ⟨nd, rfl⟩⟩))
            (first | go_roundg k1 | (refine Handed.intro k1 ?measure ?_; rotate_left; go_step; (try simp only [add_plain]); (repeat apply Exists.intro); refine ⟨?rel, rfl⟩))
            case measure => have := HK1.out; omega
            case rel => exact ⟨(wrap64 (i + 1)), cs, ok1, rfl, H', ⟨by have := HK1.out; omega⟩, ⟨fac1I.below HIV.out (bU0 HB.out)⟩, HOK, ⟨Kept.below HKP.out (bU0 HB.out)⟩⟩
          | true =>
            rw [if_pos rfl] at H; obtain ⟨c6, A60, H⟩ := Option.bind_eq_some_iff.mp H; have A6 := Az A60; clear A60
            by_cases c7 : (cs.getD i.toNat []).length < 5864062014805
            ·
              rw [if_pos c7] at H; obtain ⟨hB1, hb1, hb2, hS1, hok1, hl1⟩ := HIV.out; obtain ⟨go, cap, ev, gb, glt, cells, hcells⟩ := Kd.S_form hS1 (by omega); subst ev; obtain ⟨oki, ce, hcl, hM, hcc, hoki, hH⟩ := Kd.S_lend (Kd.S_mono (ok' := fun q => ok1 q ∨ wB.heap.size ≤ q) hS1 (fun q hq => Or.inl hq)) ([] : List (List Int)) i c2 (by omega); obtain ⟨row, hrow⟩ : ∃ r_ : List (List Int), r_ = cs.getD i.toNat [] := ⟨_, rfl⟩; rw [← hrow] at hM c7 H; obtain ⟨vr, rfl, hR⟩ := hM; obtain ⟨Ar, cr, er⟩ := Kd.R_slice hR; subst er; have HCE : Aside0 (wB.cell? ⟨go, i.toNat, none⟩ = some (.slice Ar row.length cr)) := ⟨by have h_ := hcc 0 _ rfl; simpa [Kd.slice] using h_⟩; have HG2 : Aside0 (wB.cell? ⟨g2, 0, none⟩ = some (.slice (some ⟨go, 0, none⟩) cs.length cap)) := ⟨(blk_cell hb2 0).trans rfl⟩; have LG2 : Aside0 (g2 < wB.heap.size) := ⟨blk_lt hb2⟩; have LG1 : Aside0 (g1 < wB.heap.size) := ⟨blk_lt hb1⟩; have GB := Az gb; have GO1 : Aside0 (ok1 go) := ⟨(Kd.S_R hS1).1 go (by simp [Value.ownBlock])⟩; have HG1 := Az hb1; have HGB2 := Az hb2; have HOKI := Az hoki; have UU := Az hR; have HH := Az (Kd.H_widen hH); have HL1 := Az hl1; have OK1 := Az hok1; have HB0 := Az hB1
              have hq5 : i < (cs.length : Int) := by omega
              have q6 := eq_true hq5; clear hrow hcl hcc hH hR hoki hcells gb glt hS1 hok1 hl1 hb1 hb2 hB1; have H' := Az H; have LM7 := Az c7; clear H c1 c2 c7
              go_wp2_with (first | (go_at_call 86; (with_reducible refine (impl_typeOf.calls k1 _ _ p t _ ?side1 ?side2 A3.out).mono ?_); (case side1 => exact Kd.C_below HR0.out (bU0 HB.out)); (case side2 => exact HC0.out); rintro e w1 ⟨v1, rfl, ho, hb⟩; obtain ⟨A1, d1, ev1⟩ := Kd.R_slice ho; subst ev1; have HO1 := Az ho; have n0_ := Az (below_step (bU0 HB.out) hb); clear HB; have HB := n0_; clear n0_ ho hb) | (go_at_call 105; (with_reducible refine (slices_Equal_int_int.calls k1 _ _ t _ _ (rdS ts i) true _ ?side1 ?side2 ?side3 ?side4 A4.out).mono ?_); (case side1 => exact (Kd.R_reads' HO1.out).2.2); (case side2 => exact (Kd.R_reads' HO1.out).2.1); (case side3 => exact Kd.C_below HR5.out (bU0 HB.out)); (case side4 => exact HC5.out); rintro e w' ⟨rfl, ⟨nd, rfl⟩⟩))
              refine start_ (n := 12) (S := fun w' => w'.cell? ⟨g2, 0, none⟩ = some (.slice (some ⟨go, 0, none⟩) cs.length cap) ∧ w'.cell? ⟨go, i.toNat, none⟩ = some (.slice Ar row.length cr)) (ds := [11]) #[false, false, false, false, false, false, false, false, false, false, false, false] (by kernel_rfl) rfl rfl ⟨pw_cell_below (bU0 HB.out) HG2.out, pw_cell_below (bU0 HB.out) HCE.out⟩ (fun hHeld => ?_)
              refine pure_ (i := 1) (N := some 18) (v := ?_) (a' := ?_) #[false, true, false, false, false, false, false, false, false, false, false, false] rfl rfl (by kernel_rfl) (fun _ _ _ h => h) (Or.inl ⟨by rfl, ?_⟩) ?_ ?_
              rotate_left
              ·
               intro w'
               go_simp
               with_reducible rfl
              rotate_left
              ·
               simp only [Act.put, List.setIfInBounds_toArray, List.set_cons_zero, List.set_cons_succ, i64_w, i32_w]
               rfl
              refine pure_ (i := 3) (N := some 20) (v := ?_) (a' := ?_) #[false, true, false, true, false, false, false, false, false, false, false, false] rfl rfl (by kernel_rfl) (fun _ _ _ h => h) (Or.inl ⟨by rfl, ?_⟩) ?_ ?_
              rotate_left
              ·
               intro w'
               go_simp
               with_reducible rfl
              rotate_left
              ·
               simp only [Act.put, List.setIfInBounds_toArray, List.set_cons_zero, List.set_cons_succ, i64_w, i32_w]
               rfl
              refine pure_ (i := 6) (N := some 23) (v := ?_) (a' := ?_) #[false, true, false, true, false, false, true, false, false, false, false, false] rfl rfl (by kernel_rfl) (fun _ _ _ h => h) (Or.inl ⟨by rfl, ?_⟩) ?_ ?_
              rotate_left
              ·
               intro w'
               go_simp
               with_reducible rfl
              rotate_left
              ·
               simp only [Act.put, List.setIfInBounds_toArray, List.set_cons_zero, List.set_cons_succ, i64_w, i32_w]
               rfl
              refine take_ (i := 0) (N := some 17) (v := ?_) (a' := ?_) #[true, true, false, true, false, false, true, false, false, false, false, false] rfl rfl (by kernel_rfl) (fun _ _ _ h => h) (Or.inl ⟨by rfl, ?_⟩) hHeld ?_ ?_
              rotate_left
              ·
               intro w' s0
               obtain ⟨s0, s1⟩ := s0
               go_simp
               with_reducible rfl
              rotate_left
              ·
               simp only [Act.put, List.setIfInBounds_toArray, List.set_cons_zero, List.set_cons_succ, i64_w, i32_w]
               rfl
              refine take_ (i := 2) (N := some 19) (v := ?_) (a' := ?_) #[true, true, true, true, false, false, true, false, false, false, false, false] rfl rfl (by kernel_rfl) (fun _ _ _ h => h) (Or.inl ⟨by rfl, ?_⟩) hHeld ?_ ?_
              rotate_left
              ·
               intro w' s0
               obtain ⟨s0, s1⟩ := s0
               go_simp
               with_reducible rfl
              rotate_left
              ·
               simp only [Act.put, List.setIfInBounds_toArray, List.set_cons_zero, List.set_cons_succ, i64_w, i32_w]
               rfl
              refine pure_ (i := 4) (N := some 21) (v := ?_) (a' := ?_) #[true, true, true, true, true, false, true, false, false, false, false, false] rfl rfl (by kernel_rfl) (fun _ _ _ h => h) (Or.inl ⟨by rfl, ?_⟩) ?_ ?_
              rotate_left
              ·
               intro w'
               go_simp
               with_reducible rfl
              rotate_left
              ·
               simp only [Act.put, List.setIfInBounds_toArray, List.set_cons_zero, List.set_cons_succ, i64_w, i32_w]
               rfl
              refine take_ (i := 5) (N := some 22) (v := ?_) (a' := ?_) #[true, true, true, true, true, true, true, false, false, false, false, false] rfl rfl (by kernel_rfl) (fun _ _ _ h => h) (Or.inl ⟨by rfl, ?_⟩) hHeld ?_ ?_
              rotate_left
              ·
               intro w' s0
               obtain ⟨s0, s1⟩ := s0
               go_simp
               with_reducible rfl
              rotate_left
              ·
               simp only [Act.put, List.setIfInBounds_toArray, List.set_cons_zero, List.set_cons_succ, i64_w, i32_w]
               rfl
              refine one_ (i := 7) (N := some 24) #[true, true, true, true, true, true, true, true, false, false, false, false] rfl rfl (by kernel_rfl) (by decide) (fun K hK => ?_)
              refine goes_ Try.func68 (by kernel_rfl) rfl #[.slice A p.length c] (by rfl) rfl rfl (by (try simp only [List.map_toArray, List.map_cons, List.map_nil]); first | done | rfl | (simp only [List.length_drop, List.length_take]; rfl)) ?_
              with_reducible refine (slices_Clone_int_int.calls _ _ p c6 _ ?side1 ?side2 A6.out).mono ?_
              (case side1 => exact Kd.C_below HR0.out (bU0 HB.out))
              (case side2 => exact HC0.out)
              rintro e w3 ⟨v3, rfl, ho, hb⟩
              refine ⟨_, rfl, ?_⟩
              obtain ⟨A8, c8, ev3⟩ := Kd.R_slice ho; subst ev3; have HO3 := Az (Kd.R_lower ho (below_size (bU0 HB.out))); have n0_ := Az (below_step (bU0 HB.out) hb); clear HB; have HB := n0_; clear n0_ ho hb
              refine hK.out _ _ ⟨pw_cell_below (bU0 HB.out) HG2.out, pw_cell_below (bU0 HB.out) HCE.out⟩ (fun hHeld => ?_)
              clear hK K
              refine norm_ (a' := ?_) ?_ ?_
              rotate_left
              ·
               show Act.put _ (some 24) _ = _
               simp only [Act.put, List.setIfInBounds_toArray, List.set_cons_zero, List.set_cons_succ, i64_w, i32_w]
               rfl
              refine one_ (i := 8) (N := some 25) #[true, true, true, true, true, true, true, true, true, false, false, false] rfl rfl (by kernel_rfl) (by decide) (fun K hK => ?_)
              refine value_ (v := .slice (some ⟨w3.heap.size, 0, none⟩) 1 1) (w1 := w3.alloc (.cells #[.slice A8 c6.length c8] 23 (0, 0))) (by rfl) rfl (by first | (go_simp; done) | (go_simp; rfl)) ?_
              refine hK.out _ _ ⟨pw_cell_below (bU0 HB.out) HG2.out, pw_cell_below (bU0 HB.out) HCE.out⟩ (fun hHeld => ?_)
              clear hK K
              refine norm_ (a' := ?_) ?_ ?_
              rotate_left
              ·
               show Act.put _ (some 25) _ = _
               simp only [Act.put, List.setIfInBounds_toArray, List.set_cons_zero, List.set_cons_succ, i64_w, i32_w]
               rfl
              obtain ⟨y9, hy9⟩ : ∃ y_ : List (List Int), y_ = row ++ [c6] := ⟨_, rfl⟩; rw [← hy9] at H'; have Ny9 := Az hy9; clear hy9
              refine one_ (i := 9) (N := some 26) #[true, true, true, true, true, true, true, true, true, true, false, false] rfl rfl (by kernel_rfl) (by decide) (fun K hK => ?_)
              refine Kd.R_append_step (Kd.slice 3 (Kd.int .i64)) (w0 := w0) w0.heap.size (by rfl) (.tmp 22) (.tmp 25) 45 23 (.slice none 0 0) 24 rfl Try.underlying45 infoF23 rfl (by decide) (by omega) (.slice Ar row.length cr) row c6 [.slice A8 c6.length c8] (fun q => oki q ∨ (ok1 q ∨ wB.heap.size ≤ q) ∧ wB.heap.size ≤ q) (fun q => wB.heap.size ≤ q ∧ some q ≠ (.slice Ar row.length cr : Value).ownBlock) rfl rfl ?aP ?aQ ?aF ?aO ?aB ?aS ?aL ?_
              (case aP => exact Kd.M_row (Kd.R_lower (Kd.R_mono (Kd.R_bound HO3.out) (fun q hq => ⟨hq.2.1, fun e_ => by have := Kd.R_lt UU.out q e_.symm; have := hq.2.1; omega⟩)) HB0.out.size))
              (case aQ => exact fun q hq => ⟨Or.inr ⟨Or.inr hq.1, hq.1⟩, hq.2⟩)
              (case aF => exact fun q hq => Or.inr ⟨Or.inr (Nat.le_trans HB.out.size hq), Nat.le_trans HB.out.size hq⟩)
              (case aO => exact Kd.R_mono (Kd.R_below UU.out HB.out) (fun _ h_ => Or.inl h_))
              (case aB => exact below_step HB0.out HB.out)
              (case aS => exact (below_step HB0.out HB.out).size)
              (case aL => have := LM7.out; omega)
              intro v4 w4 ho hb hg hat
              rw [← Ny9.out] at ho; obtain ⟨A9, c9, ev4⟩ := Kd.R_slice ho; subst ev4; have HH4 := Az (Kd.H_grown (Kd.H_below HH.out HB.out) hg (fun q e_ => Or.inl (UU.out.1 q e_))); have HK4 : Aside0 (Kept wB w4 oki) := ⟨Kept.of_grown hg (Kept.of_below HB.out _) (fun q e_ => Or.inl (UU.out.1 q e_))⟩; have HO4 := Az ho; have HB4 := Az hb; clear ho hb hg hat HB HH HO1 HO3; have NG2 : Aside0 (¬ oki g2) := ⟨fun h_ => ((HOKI.out _ h_).1).elim (fun h2 => (OK1.out _ h2).2.1 rfl) (fun h2 => by have := LG2.out; omega)⟩; have NG1 : Aside0 (¬ oki g1) := ⟨fun h_ => ((HOKI.out _ h_).1).elim (fun h2 => (OK1.out _ h2).1 rfl) (fun h2 => by have := LG1.out; omega)⟩; have NGO : Aside0 (¬ oki go) := ⟨fun h_ => (HOKI.out _ h_).2 rfl⟩
              refine hK.out _ _ ⟨cell_kept HG2.out HK4.out NG2.out, cell_kept HCE.out HK4.out NGO.out⟩ (fun hHeld => ?_)
              clear hK K
              refine norm_ (a' := ?_) ?_ ?_
              rotate_left
              ·
               show Act.put _ (some 26) _ = _
               simp only [Act.put, List.setIfInBounds_toArray, List.set_cons_zero, List.set_cons_succ, i64_w, i32_w]
               rfl
              refine pure_ (i := 10) (N := some 27) (v := ?_) (a' := ?_) #[true, true, true, true, true, true, true, true, true, true, true, false] rfl rfl (by kernel_rfl) (fun _ _ _ h => h) (Or.inl ⟨by rfl, ?_⟩) ?_ ?_
              rotate_left
              ·
               intro w'
               go_simp
               with_reducible rfl
              rotate_left
              ·
               simp only [Act.put, List.setIfInBounds_toArray, List.set_cons_zero, List.set_cons_succ, i64_w, i32_w]
               rfl
              obtain ⟨hx5, hf5⟩ := Kd.H_at HH4.out (of_eq_true p5) (of_eq_true q6); have hx6 := hx5 0 _ rfl; have hf6 := hf5 0; rw [show (Kd.slice 23 (Kd.slice 3 (Kd.int .i64))).sz = 1 from rfl, Nat.mul_one, Nat.add_zero] at hx6 hf6; clear hx5 hf5; have HP5 := Az (Kd.S_seg0 HH4.out (of_eq_true p5) (of_eq_true q6) (seg := [.slice A9 y9.length c9]) (j := 0) (show 1 ≤ 1 from by decide) (x' := y9) (Kd.M_row HO4.out) (fun _ hk => hk))
              refine last_ (i := 11) (N := none) #[true, true, true, true, true, true, true, true, true, true, true, true] rfl rfl (by kernel_rfl) (by decide) (fun K hK => ?_)
              refine skip_ (w1 := w4.setCell ⟨go, i.toNat, none⟩ (.slice A9 y9.length c9)) (by rfl) rfl ?_ ?_
              ·
               first | (go_simp; done) | (go_simp; rfl)
              refine hK.out _ _ ?_
              clear hK K
              refine done_ (by kernel_rfl) ?_
              have HS5 : Aside0 (Kd.S (Kd.slice 23 (Kd.slice 3 (Kd.int .i64))) 45 (w4.setCell ⟨go, i.toNat, none⟩ (.slice A9 y9.length c9)) w0.heap.size (fun q => ok1 q ∨ wB.heap.size ≤ q) (.slice (some ⟨go, 0, none⟩) cs.length cap) (cs.set i.toNat y9)) := ⟨by have h_ := HP5.out.1; rw [show (Kd.slice 23 (Kd.slice 3 (Kd.int .i64))).sz = 1 from rfl, Nat.mul_one, Nat.add_zero] at h_; exact h_⟩; have HK5 : Aside0 (Kept wB (w4.setCell ⟨go, i.toNat, none⟩ (.slice A9 y9.length c9)) (fun q => oki q ∨ q = go)) := ⟨Kept.setCell (S := fun q => oki q ∨ q = go) (p := ⟨go, i.toNat, none⟩) (Kept.mono HK4.out (fun q hq => Or.inl hq)) (Or.inl (Or.inr rfl)) _⟩; have HB5 : Aside0 (Below w0.heap.size w0 (w4.setCell ⟨go, i.toNat, none⟩ (.slice A9 y9.length c9))) := ⟨below_set HB4.out GB.out⟩; clear HP5 HH4 HO4 hx6 hf6 hHeld
              generalize w4.setCell ⟨go, i.toNat, none⟩ (.slice A9 y9.length c9) = w5 at HS5 HK5 HB5 ⊢
              try go_wp2
              (first | go_roundg k1 | (refine Handed.intro k1 ?measure ?_; rotate_left; go_step; (try simp only [add_plain]); (repeat apply Exists.intro); refine ⟨?rel, rfl⟩))
              case measure => have := HK1.out; omega
              case rel =>
               refine ⟨(wrap64 (i + 1)), cs.set i.toNat y9, (fun q => (ok1 q ∨ wB.heap.size ≤ q) ∧ q < w5.heap.size), rfl, H', ⟨by have := HK1.out; omega⟩, ⟨HB5.out, blk_kept HG1.out HK5.out ?_, blk_kept HGB2.out HK5.out ?_, Kd.S_mono (Kd.S_bound HS5.out) (fun q hq => ⟨hq.1, hq.2.2.1⟩), fun q hq => ⟨?_, ?_, hq.2⟩, by rw [List.length_set]; exact HL1.out⟩, ⟨fun q hq => hq.1.elim (HOK.out q) (fun h2 => Or.inr (Nat.le_trans HKP.out.1 h2))⟩, ⟨Kept.then_ HKP.out HK5.out (fun q hq => hq.elim (fun h2 => (HOKI.out q h2).1.elim (HOK.out q) (fun h3 => Or.inr (Nat.le_trans HKP.out.1 h3))) (fun h2 => by rw [h2]; exact HOK.out _ GO1.out))⟩⟩
               ·
                 exact fun h2 => h2.elim NG1.out (fun h3 => (OK1.out _ GO1.out).1 h3.symm)
               ·
                 exact fun h2 => h2.elim NG2.out (fun h3 => (OK1.out _ GO1.out).2.1 h3.symm)
               ·
                 exact hq.1.elim (fun h2 => (OK1.out _ h2).1) (fun h2 h3 => by have := LG1.out; omega)
               ·
                 exact hq.1.elim (fun h2 => (OK1.out _ h2).2.1) (fun h2 h3 => by have := LG2.out; omega)
            ·
              rw [if_neg c7] at H
              exact absurd H (by simp)
        ·
          rw [if_neg c2] at H
          exact absurd H (by simp)
      ·
        rw [if_neg c1] at H; have c1b0 := decide_eq_false c1; clear c1; obtain rfl := Option.some.inj H
        go_wp2
        first | go_end0 | ((try simp only [Exit.inBlock, Exit.then]); refine bodyPost_ret (results_none rfl _ _ _) rfl ?_)
        exact ⟨rfl, ok1, fac1I.below HIV.out (bU0 HB.out), HOK.out, Kept.below HKP.out (bU0 HB.out)⟩
set_option maxHeartbeats 8000000 in
set_option maxRecDepth 100000 in
theorem clone2.calls (A0 : Option Addr) (c0 : Nat) (l0 : List (List Int)) (w : World) (foot : Nat → Prop) (hr0 : Kd.F (Kd.slice 3 (Kd.int .i64)) w foot A0 l0.length l0) (hc0 : l0.length ≤ c0) (h : l0.length < 5864062014805) :
    Calls Try.prog 141 #[.slice A0 l0.length c0] w fun e w' => ∃ v0_ : Value, e = .returned (v0_) ∧ Kd.N (Kd.slice 3 (Kd.int .i64)) 23 w' w.heap.size (fun q => (foot q ∧ q < w.heap.size) ∨ w.heap.size ≤ q) v0_ l0 ∧ Below w.heap.size w w' := by
  have HR0 := Az (Kd.F_bound hr0); have HC0 := Az hc0; have LM0 := Az h
  have hnil : A0 = none → l0 = [] := by
    intro e
    have h' := (Kd.F_now hr0).2.2
    by_cases hn : 0 < l0.length
    ·
      obtain ⟨ad, e2, _⟩ := h' hn; rw [e] at e2
      cases e2
    ·
      exact List.eq_nil_of_length_eq_zero (by omega)
  clear hr0 hc0 h; have HB := Az (Below.refl w.heap.size w)
  cases A0 with
  | none =>
    obtain rfl := hnil rfl
    have he : ∀ w : World, (binOp .eql 45 (.slice none 0 c0) (.slice none 0 0)).run Try.prog w = .ok (.bool true) w := fun _ => rfl
    go_enter Try.func141, Try.ntmps141
    go_wp2
    go_ret
    exact ⟨_, rfl, Kd.N_nil _ _ _ _ _, HB.out⟩
  | some ad =>
    clear hnil
    have he : ∀ w : World, (binOp .eql 45 (.slice (some ad) l0.length c0) (.slice none 0 0)).run Try.prog w = .ok (.bool false) w := fun _ => rfl
    go_enter Try.func141, Try.ntmps141
    go_wp2_with (first | ((with_reducible refine gate_dst (N := 5) rfl ?_); refine Kd.N_lit (Kd.slice 3 (Kd.int .i64)) (w0 := w) w.heap.size 23 ?hg (N' := 5) ?hd (xs := ([] : List (List Int))) (inner := []) (ok := fun q => (foot q ∧ q < w.heap.size) ∨ w.heap.size ≤ q) (okp := fun _ => False) ?hr ?hp (fun _ hk => hk.elim) (Or.inr (below_size (bU0 HB.out))) (bU0 HB.out) (below_size (bU0 HB.out)) (by simp) ?_; (case hd => rfl); (case hg => rfl); (case hr => first | (go_simp; done) | (go_simp; rfl)); (case hp => exact (Reps.none _ _)); intro v189 w3 ho hb hg_ hnew_; have n0_ := Az hb; have n1_ := Az ho; have n2_ := Az (Kd.N_base ho); clear HB hg_ hnew_ ho hb; have HB := n0_; have HO := n1_; have HN := n2_; clear n0_ n1_ n2_) | ((with_reducible refine gate_builtin (b := .append) (xs := #[.tmp 5, .tmp 6]) rfl ?_); at_builtin; refine Kd.N_append_rows (Kd.slice 3 (Kd.int .i64)) (w0 := w) w.heap.size rfl (.tmp 5) (.tmp 6) 45 23 (.slice none 0 0) 24 rfl Try.underlying45 infoF23 rfl (by decide) (by omega) v189 [] l0 _ _ _ (fun q => (foot q ∧ q < w.heap.size) ∨ w.heap.size ≤ q) (fun q => foot q ∧ q < w.heap.size) rfl rfl ?aO ?aR ?aP ?aF ?aB ?aS ?aL ?_; (case aR => exact Kd.F_below HR0.out (bU0 HB.out)); (case aO => exact HO.out); (case aP => exact fun q hq => ⟨Or.inl hq, fun e_ => by have := HN.out q e_.symm; have := hq.2; omega⟩); (case aF => exact fun q hq => Or.inr (Nat.le_trans (below_size (bU0 HB.out)) hq)); (case aB => exact (bU0 HB.out)); (case aS => exact below_size (bU0 HB.out)); (case aL => have := LM0.out; simp only [List.length_nil]; omega); intro v192 w5 ho hb hg hat; have n0_ := Az (hb); have n1_ := Az (ho); clear HB HO ho hb hg hat; have HB := n0_; have HO := n1_; clear n0_ n1_))
    go_ret
    exact ⟨_, rfl, by simpa using HO.out, HB.out⟩
theorem F_at1 {α : Type} {d : Kd α} {e : Nat} {W : World} {ok : Nat → Prop} {A : Option Addr} {n : Nat} {xs : List (List α)} (h : Kd.F (Kd.slice e d) W ok A n xs) (i : Int) (h0 : 0 ≤ i) (h1 : i < n) : ∃ ad A1 c1, A = some ad ∧ W.cell? (ad.add i.toNat) = some (.slice A1 (xs.getD i.toNat []).length c1) ∧ (xs.getD i.toNat []).length ≤ c1 ∧ Kd.F d W ok A1 (xs.getD i.toNat []).length (xs.getD i.toNat []) := by
  obtain ⟨ad, c, e, hcl, hK, hc, _⟩ := Kd.F_get h ([] : List α) i h0 h1; obtain ⟨A1, c1, rfl, hl, hF⟩ := Kd.FK_slice_open hK
  exact ⟨ad, A1, c1, e, by have hq := hc 0 _ rfl; simpa [Kd.slice] using hq, hl, hF⟩
theorem F_keep1 {α : Type} {d : Kd α} {W W1 : World} {ok ok1 : Nat → Prop} {A : Option Addr} {n : Nat} {xs : List α} (h : Kd.F d W (fun q => ¬ ok q) A n xs) (hk : Kept W W1 ok) (hn : ∀ q, ok1 q → ok q ∨ W.heap.size ≤ q) : Kd.F d W1 (fun q => ¬ ok1 q) A n xs :=
  Kd.F_mono (Kd.F_kept (Kd.F_bound h) hk (fun q hq => hq.1)) (fun q hq h1 => (hn q h1).elim hq.1 (fun h2 => by have := hq.2; omega))
theorem goesVL_ {P : Program} {ops : Array Oper} {Q : Exit → Act → World → Prop} {rest : List Oper} {oi : Oper} {a : Act} {w : World} (N : Option Tmp) (hd : oi.dst = N) (hg : oi.guard = none) {f : FuncId} {fn : Func} {xs : Array Operand} {ts : Array TypeId} {cp : Array Value} {op : Operand} (hf : P.funcs[f]? = some fn) (hname : (fn.name == "runtime.NumGoroutine") = false) (hb : fn.body.isSome = true) (args : Array Value)
    (hop : oi.op = .call { callee := .value op, args := xs, argTypes := ts }) (hv : a.eval op = .func (.func f) #[] cp) (hargs : xs.map a.eval ++ cp = args)
    (h : Calls P f args w fun e w' => ∃ v, e = .returned v ∧ wpList P ops Q rest (a.put N v) w') : wpList P ops Q (oi :: rest) a w := by
  refine wpList_plain hg fun K hK => ?_
  have he := enters_ hf hname hb args w
  have hrun : (execOp a.eval oi).run P w = .ok (.enter f args) w := by
    unfold execOp
    simp [hop, resolve, Deferred.ofValue, invoke, hv, hargs, he]
  unfold Oper.wp
  rw [hrun, Oper.upon_enter]
  refine h.mono fun e w'' hh => ?_
  obtain ⟨v, rfl, hk⟩ := hh; subst hd
  exact hK _ _ hk
mutual
def facG {σ : Type} (step : Nat → σ → List (List Int) → Option σ) (ts : List (List Int)) (n : Int) (cs : List (List (List Int))) : Nat → σ → List (List Int) → List Int → Option σ
  | 0, _, _, _ => none
  | k + 1, s, l, p => if (l.length : Int) = (ts.length : Int) then ((impl_still.f k n).bind fun t => ((slices_Equal_int_int.f k p t).bind fun b => (if b = true then step k s l else some s))) else (if (l.length : Int) < (cs.length : Int) then facL step ts n cs k s l p (cs.getD l.length []) 0 else none)
def facL {σ : Type} (step : Nat → σ → List (List Int) → Option σ) (ts : List (List Int)) (n : Int) (cs : List (List (List Int))) : Nat → σ → List (List Int) → List Int → List (List Int) → Int → Option σ
  | 0, _, _, _, _, _ => none
  | k + 1, s, l, p, row, i => if i < (row.length : Int) then (if 0 ≤ i then (if l.length < 5864062014805 then ((impl_mul.f k p (rdS row i)).bind fun q => ((facG step ts n cs k s (l ++ [rdS row i]) q).bind fun s' => facL step ts n cs k s' l p row (wrap64 (i + 1)))) else none) else none) else some s
end
set_option maxHeartbeats 8000000 in
set_option maxRecDepth 100000 in
theorem fac2.calls {σ : Type} (step : Nat → σ → List (List Int) → Option σ) (Inv : σ → World → (Nat → Prop) → Prop) (TF : Nat) (fnT : Func) (hfT : Try.prog.funcs[TF]? = some fnT) (hnT : (fnT.name == "runtime.NumGoroutine") = false) (hbT : fnT.body.isSome = true) (gm : Nat)
  (hI : ∀ s W W' ok, Inv s W ok → Below W.heap.size W W' → Inv s W' ok) (hL : ∀ s W ok q, Inv s W ok → ok q → q < W.heap.size)
  (hT : ∀ (k : Nat) (s s' : σ) (l : List (List Int)) (A : Option Addr) (c : Nat) (W : World) (ok : Nat → Prop), Inv s W ok → Kd.F (Kd.slice 3 (Kd.int .i64)) W (fun q => ¬ ok q) A l.length l → l.length ≤ c → step k s l = some s' → Calls Try.prog TF #[.slice A l.length c, .pointer (some ⟨gm, 0, none⟩)] W fun e w' => e = .returned (.tuple #[]) ∧ ∃ ok', Inv s' w' ok' ∧ (∀ q, ok' q → ok q ∨ W.heap.size ≤ q) ∧ Kept W w' ok)
  (gt gn gl gc gy : Nat) (At : Option Addr) (ct : Nat) (ts : List (List Int)) (n : Int) (Ac : Option Addr) (cc : Nat) (cs : List (List (List Int))) :
  ∀ (k : Nat) (s s' : σ) (A0 : Option Addr) (c0 : Nat) (l : List (List Int)) (A1 : Option Addr) (c1 : Nat) (p : List Int) (w : World) (ok : Nat → Prop), Inv s w ok → ¬ ok gt → ¬ ok gn → ¬ ok gl → ¬ ok gc → ¬ ok gy → w.heap[gt]? = some (.cells #[.slice At ts.length ct] 45 (0, 0)) → w.heap[gn]? = some (.cells #[.int .i64 n] 3 (0, 0)) → w.heap[gl]? = some (.cells #[.func (.func TF) #[] #[.pointer (some ⟨gm, 0, none⟩)]] 76 (0, 0)) → w.heap[gc]? = some (.cells #[.slice Ac cs.length cc] 98 (0, 0)) → w.heap[gy]? = some (.cells #[.func (.func 140) #[] #[.pointer (some ⟨gt, 0, none⟩), .pointer (some ⟨gn, 0, none⟩), .pointer (some ⟨gl, 0, none⟩), .pointer (some ⟨gc, 0, none⟩), .pointer (some ⟨gy, 0, none⟩)]] 100 (0, 0)) → Kd.F (Kd.slice 3 (Kd.int .i64)) w (fun q => ¬ ok q) A0 l.length l → l.length ≤ c0 → Kd.F (Kd.int .i64) w (fun q => ¬ ok q) A1 p.length p → p.length ≤ c1 → Kd.F (Kd.slice 23 (Kd.slice 3 (Kd.int .i64))) w (fun q => ¬ ok q) Ac cs.length cs → facG step ts n cs k s l p = some s' →
  Calls Try.prog 140 #[.slice A0 l.length c0, .slice A1 p.length c1, .pointer (some ⟨gt, 0, none⟩), .pointer (some ⟨gn, 0, none⟩), .pointer (some ⟨gl, 0, none⟩), .pointer (some ⟨gc, 0, none⟩), .pointer (some ⟨gy, 0, none⟩)] w fun e w' => e = .returned (.tuple #[]) ∧ ∃ ok', Inv s' w' ok' ∧ (∀ q, ok' q → ok q ∨ w.heap.size ≤ q) ∧ Kept w w' ok := by
  intro k
  induction k using Nat.strongRecOn with
  | ind k ih =>
  intro s s' A0 c0 l A1 c1 p w ok hInv ht_ hn_ hl_ hc_ hy_ bt_ bn_ bl_ bc_ by_ hF0 hc0 hF1 hc1 hFC h
  cases k with
  | zero => simp [facG] at h
  | succ k =>
  simp only [facG] at h; have IH := Az ih; have HIV := Az hInv; have NT := Az ht_; have BT0 := Az bt_; have NN := Az hn_; have BN0 := Az bn_; have NL := Az hl_; have BL0 := Az bl_; have NC := Az hc_; have BC0 := Az bc_; have NY := Az hy_; have BY0 := Az by_; have HF0 := Az hF0; have HC0 := Az hc0; have HF1 := Az hF1; have HC1 := Az hc1; have HFC := Az hFC; have HT := Az hT; have HI := Az hI; have HL := Az hL; have FTF := Az hfT; have HB := Az (Below.refl w.heap.size w); clear ih hInv ht_ hn_ hl_ hc_ hy_ bt_ bn_ bl_ bc_ by_ hF0 hc0 hF1 hc1 hFC hT hI hL hfT; have hcz0 : w.cell? ⟨gt, 0, none⟩ = some (.slice At ts.length ct) := (blk_cell BT0.out 0).trans rfl
  by_cases c5 : (l.length : Int) = (ts.length : Int)
  ·
    rw [if_pos c5] at h; have c5b0 := beq_iff_eq.mpr c5; clear c5; obtain ⟨t, A30, h⟩ := Option.bind_eq_some_iff.mp h; have A3 := Az A30; obtain ⟨b, A40, h⟩ := Option.bind_eq_some_iff.mp h; have A4 := Az A40; clear A30 A40; have hcz1 : w.cell? ⟨gn, 0, none⟩ = some (.int .i64 n) := (blk_cell BN0.out 0).trans rfl
    cases b with
    | true =>
      rw [if_pos rfl] at h; have H' := Az h; clear h
      go_enter Try.func140, Try.ntmps140
      go_wp2_with (first | (go_at_call 104; (with_reducible refine (impl_still.calls k _ t _ A3.out).mono ?_); rintro e w1 ⟨v1, rfl, ho, hb⟩; obtain ⟨A3_, d3_, ev1⟩ := Kd.R_slice ho; subst ev1; have HO1 := Az ho; have n0_ := Az (below_step (bU0 HB.out) hb); clear HB; have HB := n0_; clear n0_ ho hb hcz0 hcz1; have hcz2 : w1.cell? ⟨gl, 0, none⟩ = some (.func (.func TF) #[] #[.pointer (some ⟨gm, 0, none⟩)]) := (blk_cell (blk_below BL0.out HB.out) 0).trans rfl) | (go_at_call 105; (with_reducible refine (slices_Equal_int_int.calls k _ _ p _ _ t true _ ?side1 ?side2 ?side3 ?side4 A4.out).mono ?_); (case side1 => exact Kd.C_below (Kd.F_now HF1.out) (bU0 HB.out)); (case side2 => exact HC1.out); (case side3 => exact (Kd.R_reads' HO1.out).2.2); (case side4 => exact (Kd.R_reads' HO1.out).2.1); rintro e w' ⟨rfl, ⟨nd, rfl⟩⟩) | ((with_reducible refine gate_dst (N := 22) rfl ?_); refine goesVL_ (some 22) rfl rfl FTF.out hnT hbT #[.slice A0 l.length c0, .pointer (some ⟨gm, 0, none⟩)] rfl rfl (by first | rfl | (simp; done) | (simp; rfl)) ?_; refine (HT.out k s s' l A0 c0 _ ok (HI.out _ _ _ _ HIV.out (bU0 HB.out)) (Kd.F_below HF0.out (bU0 HB.out)) HC0.out H'.out).mono ?_; rintro e w2 ⟨rfl, ok', i1, i2, i3⟩; refine ⟨_, rfl, ?_⟩; have R1 := Az i1; have R2 := Az i2; have R3 := Az i3; clear i1 i2 i3))
      first | go_end0 | ((try simp only [Exit.inBlock, Exit.then]); refine bodyPost_ret (results_none rfl _ _ _) rfl ?_)
      exact ⟨rfl, ok', R1.out, fun q hq => (R2.out q hq).imp id (fun h2 => Nat.le_trans (below_size (bU0 HB.out)) h2), Kept.then_ (Kept.of_below (bU0 HB.out) ok) R3.out (fun q hq => Or.inl hq)⟩
    | false =>
      rw [if_neg (by decide)] at h; obtain rfl := Option.some.inj h; clear h
      go_enter Try.func140, Try.ntmps140
      go_wp2_with (first | (go_at_call 104; (with_reducible refine (impl_still.calls k _ t _ A3.out).mono ?_); rintro e w1 ⟨v1, rfl, ho, hb⟩; obtain ⟨A3_, d3_, ev1⟩ := Kd.R_slice ho; subst ev1; have HO1 := Az ho; have n0_ := Az (below_step (bU0 HB.out) hb); clear HB; have HB := n0_; clear n0_ ho hb hcz0 hcz1; have hcz2 : w1.cell? ⟨gl, 0, none⟩ = some (.func (.func TF) #[] #[.pointer (some ⟨gm, 0, none⟩)]) := (blk_cell (blk_below BL0.out HB.out) 0).trans rfl) | (go_at_call 105; (with_reducible refine (slices_Equal_int_int.calls k _ _ p _ _ t false _ ?side1 ?side2 ?side3 ?side4 A4.out).mono ?_); (case side1 => exact Kd.C_below (Kd.F_now HF1.out) (bU0 HB.out)); (case side2 => exact HC1.out); (case side3 => exact (Kd.R_reads' HO1.out).2.2); (case side4 => exact (Kd.R_reads' HO1.out).2.1); rintro e w' ⟨rfl, ⟨nd, rfl⟩⟩))
      first | go_end0 | ((try simp only [Exit.inBlock, Exit.then]); refine bodyPost_ret (results_none rfl _ _ _) rfl ?_)
      exact ⟨rfl, ok, HI.out _ _ _ _ HIV.out (bU0 HB.out), fun q hq => Or.inl hq, Kept.of_below (bU0 HB.out) ok⟩
  ·
    rw [if_neg c5] at h; have c5b0 := beq_eq_false_iff_ne.mpr c5; clear c5
    by_cases c6 : (l.length : Int) < (cs.length : Int)
    ·
      rw [if_pos c6] at h; have H' := Az h; clear h; obtain ⟨ad, Ar, cr, eA, hx6, hl6, hF6⟩ := F_at1 HFC.out (l.length : Int) (by omega) c6; subst eA; simp only [Int.toNat_natCast] at hx6 hl6 hF6; obtain ⟨row, hrow⟩ : ∃ r_ : List (List Int), r_ = cs.getD l.length [] := ⟨_, rfl⟩; rw [← hrow] at hx6 hl6 hF6 H'; clear hrow; have HR6 := Az hF6; have HC6 := Az hl6; have hcz3 : w.cell? ⟨gc, 0, none⟩ = some (.slice (some ad) cs.length cc) := (blk_cell BC0.out 0).trans rfl; have q6 := eq_true c6; have q7 : (l.length < cs.length) = True := eq_true (by omega); clear hF6 hl6 c6
      go_enter Try.func140, Try.ntmps140
      go_wp2
      go_loopg [29] k (fun kq v29 w' => ∃ (i : Int) (s1 : σ) (ok1 : Nat → Prop), v29 = .int .i64 i ∧ Aside0 (facL step ts n cs kq s1 l p row i = some s') ∧ Aside0 (kq ≤ k) ∧ Aside0 (Inv s1 w' ok1) ∧ Aside0 (∀ q, ok1 q → ok q ∨ w.heap.size ≤ q) ∧ Aside0 (Kept w w' ok))
      case atStart => exact ⟨(0), s, ok, rfl, H', ⟨Nat.le_refl _⟩, HIV, ⟨fun q h => Or.inl h⟩, ⟨Kept.refl w ok⟩⟩
      case round =>
        clear H' HIV hcz0 hcz3 hx6 HB; obtain ⟨i, s1, ok1, rfl, HA, HK1, HIV, HOK, HKP⟩ := hrel
        cases gk with
        | zero => exact absurd HA.out (by simp [facL])
        | succ k1 =>
          have H := HA.out; clear HA; simp only [facL] at H; obtain ⟨wB, hwB⟩ : ∃ W_ : World, W_ = wr := ⟨wr, rfl⟩; have HB : Aside0 (Below wB.heap.size wB wr) := ⟨by rw [hwB]; exact Below.refl _ _⟩; have BT : Aside0 (wB.heap[gt]? = some (.cells #[.slice At ts.length ct] 45 (0, 0))) := ⟨blk_kept BT0.out (by rw [hwB]; exact HKP.out) NT.out⟩; have BN : Aside0 (wB.heap[gn]? = some (.cells #[.int .i64 n] 3 (0, 0))) := ⟨blk_kept BN0.out (by rw [hwB]; exact HKP.out) NN.out⟩; have BL : Aside0 (wB.heap[gl]? = some (.cells #[.func (.func TF) #[] #[.pointer (some ⟨gm, 0, none⟩)]] 76 (0, 0))) := ⟨blk_kept BL0.out (by rw [hwB]; exact HKP.out) NL.out⟩; have BC : Aside0 (wB.heap[gc]? = some (.cells #[.slice (some ad) cs.length cc] 98 (0, 0))) := ⟨blk_kept BC0.out (by rw [hwB]; exact HKP.out) NC.out⟩; have BY : Aside0 (wB.heap[gy]? = some (.cells #[.func (.func 140) #[] #[.pointer (some ⟨gt, 0, none⟩), .pointer (some ⟨gn, 0, none⟩), .pointer (some ⟨gl, 0, none⟩), .pointer (some ⟨gc, 0, none⟩), .pointer (some ⟨gy, 0, none⟩)]] 100 (0, 0))) := ⟨blk_kept BY0.out (by rw [hwB]; exact HKP.out) NY.out⟩; have HF0' : Aside0 (Kd.F (Kd.slice 3 (Kd.int .i64)) wB (fun q => ¬ ok1 q) A0 l.length l) := ⟨by rw [hwB]; exact F_keep1 HF0.out HKP.out HOK.out⟩; have HF1' : Aside0 (Kd.F (Kd.int .i64) wB (fun q => ¬ ok1 q) A1 p.length p) := ⟨by rw [hwB]; exact F_keep1 HF1.out HKP.out HOK.out⟩; have HFC' : Aside0 (Kd.F (Kd.slice 23 (Kd.slice 3 (Kd.int .i64))) wB (fun q => ¬ ok1 q) (some ad) cs.length cs) := ⟨by rw [hwB]; exact F_keep1 HFC.out HKP.out HOK.out⟩; have HR6' : Aside0 (Kd.F (Kd.slice 3 (Kd.int .i64)) wB (fun q => ¬ ok1 q) Ar row.length row) := ⟨by rw [hwB]; exact F_keep1 HR6.out HKP.out HOK.out⟩; replace HIV : Aside0 (Inv s1 wB ok1) := ⟨by rw [hwB]; exact HIV.out⟩; replace HKP : Aside0 (Kept w wB ok) := ⟨by rw [hwB]; exact HKP.out⟩
          have hnew : ∀ g, g < w.heap.size → ¬ ok g → ¬ ok1 g := fun g hg hn hq => (HOK.out g hq).elim hn (fun h_ => by omega)
          have NT1 := Az (hnew gt (blk_lt BT0.out) NT.out); have NN1 := Az (hnew gn (blk_lt BN0.out) NN.out); have NL1 := Az (hnew gl (blk_lt BL0.out) NL.out); have NC1 := Az (hnew gc (blk_lt BC0.out) NC.out); have NY1 := Az (hnew gy (blk_lt BY0.out) NY.out); clear hnew
          by_cases c7 : i < (row.length : Int)
          ·
            rw [if_pos c7] at H; have c7b0 := decide_eq_true c7
            by_cases c8 : 0 ≤ i
            ·
              rw [if_pos c8] at H
              by_cases c9 : l.length < 5864062014805
              ·
                rw [if_pos c9] at H; obtain ⟨q_, A100, H⟩ := Option.bind_eq_some_iff.mp H; have A10 := Az A100; clear A100; obtain ⟨s2, A110, H⟩ := Option.bind_eq_some_iff.mp H; have A11 := Az A110; clear A110; have H' := Az H; have LM9 := Az c9; obtain ⟨adr, A5, c5, e5, hx5, hl5, hi5⟩ := F_at1 HR6'.out i c8 c7; subst e5; rw [show row.getD i.toNat [] = rdS row i from rfl] at hx5 hl5 hi5; obtain ⟨x5, hx5_⟩ : ∃ x_ : List Int, x_ = rdS row i := ⟨_, rfl⟩; rw [← hx5_] at hx5 hl5 hi5 A10 A11; have HR5 := Az hi5; have HC5 := Az hl5
                have hx5' : wr.cell? (adr.add i.toNat) = some (.slice A5 x5.length c5) := by rw [← hwB]; exact hx5
                have p5 := eq_true c8; have q5 := eq_true c7; clear H c7 c8 c9 hx5 hl5 hi5 hwB hx5_
                go_wp2
                refine start_ (n := 10) (S := fun w' => w'.cell? ⟨gy, 0, none⟩ = some (.func (.func 140) #[] #[.pointer (some ⟨gt, 0, none⟩), .pointer (some ⟨gn, 0, none⟩), .pointer (some ⟨gl, 0, none⟩), .pointer (some ⟨gc, 0, none⟩), .pointer (some ⟨gy, 0, none⟩)])) (ds := []) #[false, false, false, false, false, false, false, false, false, false] (by kernel_rfl) rfl rfl (pw_cell_below (bU0 HB.out) ((blk_cell BY.out 0).trans rfl)) (fun hHeld => ?_)
                refine pure_ (i := 1) (N := some 34) (v := ?_) (a' := ?_) #[false, true, false, false, false, false, false, false, false, false] rfl rfl (by kernel_rfl) (fun _ _ _ h => h) (Or.inl ⟨by rfl, ?_⟩) ?_ ?_
                rotate_left
                ·
                 intro w'
                 go_simp
                 with_reducible rfl
                rotate_left
                ·
                 simp only [Act.put, List.setIfInBounds_toArray, List.set_cons_zero, List.set_cons_succ, i64_w, i32_w]
                 rfl
                refine pure_ (i := 3) (N := some 36) (v := ?_) (a' := ?_) #[false, true, false, true, false, false, false, false, false, false] rfl rfl (by kernel_rfl) (fun _ _ _ h => h) (Or.inl ⟨by rfl, ?_⟩) ?_ ?_
                rotate_left
                ·
                 intro w'
                 go_simp
                 with_reducible rfl
                rotate_left
                ·
                 simp only [Act.put, List.setIfInBounds_toArray, List.set_cons_zero, List.set_cons_succ, i64_w, i32_w]
                 rfl
                refine pure_ (i := 6) (N := some 39) (v := ?_) (a' := ?_) #[false, true, false, true, false, false, true, false, false, false] rfl rfl (by kernel_rfl) (fun _ _ _ h => h) (Or.inl ⟨by rfl, ?_⟩) ?_ ?_
                rotate_left
                ·
                 intro w'
                 go_simp
                 with_reducible rfl
                rotate_left
                ·
                 simp only [Act.put, List.setIfInBounds_toArray, List.set_cons_zero, List.set_cons_succ, i64_w, i32_w]
                 rfl
                refine pure_ (i := 7) (N := some 40) (v := ?_) (a' := ?_) #[false, true, false, true, false, false, true, true, false, false] rfl rfl (by kernel_rfl) (fun _ _ _ h => h) (Or.inl ⟨by rfl, ?_⟩) ?_ ?_
                rotate_left
                ·
                 intro w'
                 go_simp
                 with_reducible rfl
                rotate_left
                ·
                 simp only [Act.put, List.setIfInBounds_toArray, List.set_cons_zero, List.set_cons_succ, i64_w, i32_w]
                 rfl
                refine take_ (i := 0) (N := some 33) (v := ?_) (a' := ?_) #[true, true, false, true, false, false, true, true, false, false] rfl rfl (by kernel_rfl) (fun _ _ _ h => h) (Or.inl ⟨by rfl, ?_⟩) hHeld ?_ ?_
                rotate_left
                ·
                 intro w' s0
                 go_simp
                 with_reducible rfl
                rotate_left
                ·
                 simp only [Act.put, List.setIfInBounds_toArray, List.set_cons_zero, List.set_cons_succ, i64_w, i32_w]
                 rfl
                refine join_ (σ := Value × Value) 3 #[true, true, true, true, true, false, true, true, false, false] (fun s_ => [(35, s_.1), (37, s_.2)]) (fun s_ w' => (w'.cell? ⟨gy, 0, none⟩ = some (.func (.func 140) #[] #[.pointer (some ⟨gt, 0, none⟩), .pointer (some ⟨gn, 0, none⟩), .pointer (some ⟨gl, 0, none⟩), .pointer (some ⟨gc, 0, none⟩), .pointer (some ⟨gy, 0, none⟩)])) ∧ (Kd.N (Kd.slice 3 (Kd.int .i64)) 23 w' wB.heap.size (fun q => (¬ ok1 q ∧ q < wB.heap.size) ∨ wB.heap.size ≤ q) s_.1 l) ∧ (Kd.N (Kd.slice 3 (Kd.int .i64)) 23 w' wB.heap.size (fun q => (fun q => (¬ ok1 q ∧ q < wB.heap.size) ∨ wB.heap.size ≤ q) q ∧ some q ≠ (s_.1 : Value).ownBlock) s_.2 [x5]) ∧ (Below wB.heap.size wB w')) ?_ ?_
                rotate_left
                ·
                 intro hCont
                 refine two_ (i := 2) (j := 4) (Ni := some 35) (Nj := some 37) #[true, true, true, true, false, false, true, true, false, false] #[true, true, false, true, true, false, true, true, false, false] rfl rfl rfl rfl (by kernel_rfl) (by decide) (by decide) (fun K hK => ?_) (fun K hK => ?_)
                 ·
                  refine goes_ Try.func141 (by kernel_rfl) rfl #[.slice A0 l.length c0] (by rfl) rfl rfl (by (try simp only [List.map_toArray, List.map_cons, List.map_nil]); first | done | rfl) ?_
                  refine (clone2.calls A0 c0 l _ (fun q => ¬ ok1 q ∧ q < wB.heap.size) (Kd.F_below (Kd.F_bound HF0'.out) (bU0 HB.out)) HC0.out LM9.out).mono ?_
                  rintro e w3 ⟨v2, rfl, ho, hb⟩
                  refine ⟨_, rfl, ?_⟩
                  have HO2 : Aside0 (Kd.N (Kd.slice 3 (Kd.int .i64)) 23 w3 wB.heap.size (fun q => (¬ ok1 q ∧ q < wB.heap.size) ∨ wB.heap.size ≤ q) v2 l) := ⟨Kd.N_lower (Kd.N_mono ho (fun q hq => hq.elim (fun h2 => Or.inl h2.1) (fun h2 => Or.inr (Nat.le_trans (below_size (bU0 HB.out)) h2)))) (below_size (bU0 HB.out))⟩; have n0_ := Az (below_step (bU0 HB.out) hb); clear HB; have HB := n0_; clear n0_ ho hb
                  refine hK.out _ _ (pw_cell_below (bU0 HB.out) ((blk_cell BY.out 0).trans rfl)) (fun hHeld => ?_)
                  clear hK K
                  refine norm_ (a' := ?_) ?_ ?_
                  rotate_left
                  ·
                   show Act.put _ (some 35) _ = _
                   simp only [Act.put, List.setIfInBounds_toArray, List.set_cons_zero, List.set_cons_succ, i64_w, i32_w]
                   rfl
                  refine one_ (i := 4) (N := some 37) #[true, true, true, true, true, false, true, true, false, false] rfl rfl (by kernel_rfl) (by decide) (fun K hK => ?_)
                  refine Kd.N_lit_step (Kd.slice 3 (Kd.int .i64)) (w0 := wB) wB.heap.size 23 (by rfl) (N' := 37) rfl (xs := [x5]) (inner := [.slice A5 x5.length c5]) (ok := (fun q => (fun q => (¬ ok1 q ∧ q < wB.heap.size) ∨ wB.heap.size ≤ q) q ∧ some q ≠ (v2 : Value).ownBlock)) (okp := (fun q => ¬ ok1 q ∧ q < wB.heap.size)) ?hr ?hp ?hk ?hf (bU0 HB.out) (below_size (bU0 HB.out)) (by simp) ?_
                  (case hr => first | (go_simp; done) | (go_simp; rfl))
                  (case hp => exact Reps.one (Kd.FK_slice_mk HC5.out (Kd.F_below (Kd.F_bound HR5.out) (bU0 HB.out))) (Reps.none _ _))
                  (case hk => exact fun q hq => ⟨Or.inl hq, fun e_ => by have := Kd.N_base HO2.out q e_.symm; have := hq.2; omega⟩)
                  (case hf => exact ⟨Or.inr (below_size (bU0 HB.out)), fun e_ => by have := Kd.N_lt HO2.out _ e_.symm; omega⟩)
                  intro v4 w4 ho hb hg_ hnew_
                  refine hK.out _ _ (pw_cell_below hb ((blk_cell BY.out 0).trans rfl)) (fun hHeld => ?_)
                  clear hK K
                  refine norm_ (a' := ?_) ?_ ?_
                  rotate_left
                  ·
                   show Act.put _ (some 37) _ = _
                   simp only [Act.put, List.setIfInBounds_toArray, List.set_cons_zero, List.set_cons_succ, i64_w, i32_w]
                   rfl
                  exact norm_ (by simp only [putAll, Act.put, List.setIfInBounds_toArray, List.set_cons_zero, List.set_cons_succ]) (hCont (v2, v4) _ ⟨hHeld, Kd.N_grown HO2.out hg_ (fun _ _ h2 => by cases h2), ho, hb⟩)
                 ·
                  refine Kd.N_lit_step (Kd.slice 3 (Kd.int .i64)) (w0 := wB) wB.heap.size 23 (by rfl) (N' := 37) rfl (xs := [x5]) (inner := [.slice A5 x5.length c5]) (ok := (fun q => (¬ ok1 q ∧ q < wB.heap.size) ∨ wB.heap.size ≤ q)) (okp := (fun q => ¬ ok1 q ∧ q < wB.heap.size)) ?hr ?hp ?hk ?hf (bU0 HB.out) (below_size (bU0 HB.out)) (by simp) ?_
                  (case hr => first | (go_simp; done) | (go_simp; rfl))
                  (case hp => exact Reps.one (Kd.FK_slice_mk HC5.out (Kd.F_below (Kd.F_bound HR5.out) (bU0 HB.out))) (Reps.none _ _))
                  (case hk => exact fun q hq => Or.inl hq)
                  (case hf => exact Or.inr (below_size (bU0 HB.out)))
                  intro v4 w3 ho hb hg_ hnew_
                  have HO4 := Az ho; clear HB; have HB := Az hb; clear ho hb hg_ hnew_
                  refine hK.out _ _ (pw_cell_below (bU0 HB.out) ((blk_cell BY.out 0).trans rfl)) (fun hHeld => ?_)
                  clear hK K
                  refine norm_ (a' := ?_) ?_ ?_
                  rotate_left
                  ·
                   show Act.put _ (some 37) _ = _
                   simp only [Act.put, List.setIfInBounds_toArray, List.set_cons_zero, List.set_cons_succ, i64_w, i32_w]
                   rfl
                  refine one_ (i := 2) (N := some 35) #[true, true, true, true, true, false, true, true, false, false] rfl rfl (by kernel_rfl) (by decide) (fun K hK => ?_)
                  refine goes_ Try.func141 (by kernel_rfl) rfl #[.slice A0 l.length c0] (by rfl) rfl rfl (by (try simp only [List.map_toArray, List.map_cons, List.map_nil]); first | done | rfl) ?_
                  refine (clone2.calls A0 c0 l _ (fun q => ¬ ok1 q ∧ q < wB.heap.size) (Kd.F_below (Kd.F_bound HF0'.out) (bU0 HB.out)) HC0.out LM9.out).mono ?_
                  rintro e w4 ⟨v2, rfl, ho, hb⟩
                  refine ⟨_, rfl, ?_⟩
                  have HO2 : Aside0 (Kd.N (Kd.slice 3 (Kd.int .i64)) 23 w4 wB.heap.size (fun q => (¬ ok1 q ∧ q < wB.heap.size) ∨ wB.heap.size ≤ q) v2 l) := ⟨Kd.N_lower (Kd.N_mono ho (fun q hq => hq.elim (fun h2 => Or.inl h2.1) (fun h2 => Or.inr (Nat.le_trans (below_size (bU0 HB.out)) h2)))) (below_size (bU0 HB.out))⟩; have HO5 := Az (Kd.N_elder' HO4.out (Kd.N_base ho) hb); have n0_ := Az (below_step (bU0 HB.out) hb); clear HB; have HB := n0_; clear n0_ ho hb
                  refine hK.out _ _ (pw_cell_below (bU0 HB.out) ((blk_cell BY.out 0).trans rfl)) (fun hHeld => ?_)
                  clear hK K
                  refine norm_ (a' := ?_) ?_ ?_
                  rotate_left
                  ·
                   show Act.put _ (some 35) _ = _
                   simp only [Act.put, List.setIfInBounds_toArray, List.set_cons_zero, List.set_cons_succ, i64_w, i32_w]
                   rfl
                  exact norm_ (by simp only [putAll, Act.put, List.setIfInBounds_toArray, List.set_cons_zero, List.set_cons_succ]) (hCont (v2, v4) _ ⟨hHeld, HO2.out, HO5.out, HB.out⟩)
                rintro ⟨v2, v4⟩ w5 ⟨hS_, h0_, h1_, hB_⟩
                obtain ⟨A7, c7, e7⟩ := Kd.N_slice h1_; simp only at e7 h0_ h1_ hB_ hS_; subst e7; have HO2 := Az h0_; have HO4 := Az h1_; clear HB; have HB := Az hB_; clear h0_ h1_ hB_
                refine norm_ (a' := ?_) ?_ ?_
                rotate_left
                ·
                 simp only [putAll, Act.put, List.setIfInBounds_toArray, List.set_cons_zero, List.set_cons_succ]
                 rfl
                obtain ⟨y8, hy8⟩ : ∃ y_ : List (List Int), y_ = l ++ [x5] := ⟨_, rfl⟩; rw [← hy8] at A11; have Ny8 := Az hy8; clear hy8
                refine one_ (i := 5) (N := some 38) #[true, true, true, true, true, true, true, true, false, false] rfl rfl (by kernel_rfl) (by decide) (fun K hK => ?_)
                refine Kd.N_append_rows_step (Kd.slice 3 (Kd.int .i64)) (w0 := wB) wB.heap.size (by rfl) (.tmp 35) (.tmp 37) 45 23 (.slice none 0 0) 24 rfl Try.underlying45 infoF23 rfl (by decide) (by omega) v2 l [x5] A7 [x5].length c7 (fun q => (¬ ok1 q ∧ q < wB.heap.size) ∨ wB.heap.size ≤ q) (fun q => (fun q => (¬ ok1 q ∧ q < wB.heap.size) ∨ wB.heap.size ≤ q) q ∧ some q ≠ (v2 : Value).ownBlock) rfl rfl HO2.out (Kd.N_F HO4.out) (fun _ h2 => h2) (fun q hq => Or.inr (Nat.le_trans (below_size (bU0 HB.out)) hq)) (bU0 HB.out) (below_size (bU0 HB.out)) (by have := LM9.out; simp only [List.length_cons, List.length_nil]; omega) ?_
                intro v8 w6 ho hb hg hat
                rw [← Ny8.out] at ho; obtain ⟨A8, c8, e8⟩ := Kd.N_slice ho; subst e8; have HO8 := Az ho; clear HB HO2 HO4; have HB := Az hb; clear ho hb hg hat
                refine hK.out _ _ (pw_cell_below (bU0 HB.out) ((blk_cell BY.out 0).trans rfl)) (fun hHeld => ?_)
                clear hK K
                refine norm_ (a' := ?_) ?_ ?_
                rotate_left
                ·
                 show Act.put _ (some 38) _ = _
                 simp only [Act.put, List.setIfInBounds_toArray, List.set_cons_zero, List.set_cons_succ, i64_w, i32_w]
                 rfl
                refine one_ (i := 8) (N := some 41) #[true, true, true, true, true, true, true, true, true, false] rfl rfl (by kernel_rfl) (by decide) (fun K hK => ?_)
                refine goes_ Try.func67 (by kernel_rfl) rfl #[.slice A1 p.length c1, .slice A5 x5.length c5] (by rfl) rfl rfl (by (try simp only [List.map_toArray, List.map_cons, List.map_nil]); first | done | rfl) ?_
                refine (impl_mul.calls k1 _ _ p _ _ x5 q_ _ (Kd.C_below (Kd.F_now HF1'.out) (bU0 HB.out)) HC1.out (Kd.C_below (Kd.F_now HR5.out) (bU0 HB.out)) HC5.out A10.out).mono ?_
                rintro e w7 ⟨v9, rfl, ho, hb⟩
                refine ⟨_, rfl, ?_⟩
                obtain ⟨A9, c9, e9⟩ := Kd.R_slice ho; subst e9; have HO9 := Az (Kd.R_lower ho (below_size (bU0 HB.out))); have n1_ := Az (Kd.N_below HO8.out hb); clear HO8; have HO8 := n1_; clear n1_; have n0_ := Az (below_step (bU0 HB.out) hb); clear HB; have HB := n0_; clear n0_ ho hb
                refine hK.out _ _ (pw_cell_below (bU0 HB.out) ((blk_cell BY.out 0).trans rfl)) (fun hHeld => ?_)
                clear hK K
                refine norm_ (a' := ?_) ?_ ?_
                rotate_left
                ·
                 show Act.put _ (some 41) _ = _
                 simp only [Act.put, List.setIfInBounds_toArray, List.set_cons_zero, List.set_cons_succ, i64_w, i32_w]
                 rfl
                refine one_ (i := 9) (N := some 42) #[true, true, true, true, true, true, true, true, true, true] rfl rfl (by kernel_rfl) (by decide) (fun K hK => ?_)
                refine goesV_ (f := 140) Try.func140 (by kernel_rfl) rfl #[.slice A8 y8.length c8, .slice A9 q_.length c9, .pointer (some ⟨gt, 0, none⟩), .pointer (some ⟨gn, 0, none⟩), .pointer (some ⟨gl, 0, none⟩), .pointer (some ⟨gc, 0, none⟩), .pointer (some ⟨gy, 0, none⟩)] (by rfl) rfl rfl (by rfl) (by first | rfl | (simp; done) | (simp; exact ⟨rfl, rfl⟩)) ?_
                refine (IH.out k1 (by have := HK1.out; omega) s1 s2 A8 c8 y8 A9 c9 q_ _ ok1 (HI.out _ _ _ _ HIV.out (bU0 HB.out)) NT1.out NN1.out NL1.out NC1.out NY1.out (blk_below BT.out (bU0 HB.out)) (blk_below BN.out (bU0 HB.out)) (blk_below BL.out (bU0 HB.out)) (blk_below BC.out (bU0 HB.out)) (blk_below BY.out (bU0 HB.out)) (Kd.F_mono (Kd.N_F HO8.out) (fun q hq h1 => hq.elim (fun h2 => h2.1 h1) (fun h2 => by have := HL.out _ _ _ _ HIV.out h1; omega))) (Kd.N_reads' HO8.out).2.1 (Kd.F_mono (Kd.R_F (Kd.R_bound HO9.out)) (fun q hq h1 => by have := HL.out _ _ _ _ HIV.out h1; have := hq.2.1; omega)) (Kd.R_reads' HO9.out).2.1 (Kd.F_below HFC'.out (bU0 HB.out)) A11.out).mono ?_
                rintro e w' ⟨rfl, ok2, i1, i2, i3⟩
                refine ⟨_, rfl, ?_⟩
                have R1 := Az i1; have R2 := Az i2; have R3 := Az i3; have hcy := blk_kept (blk_below BY.out (bU0 HB.out)) i3 NY1.out; clear i1 i2 i3
                refine hK.out _ _ ((blk_cell hcy 0).trans rfl) (fun hHeld => ?_)
                clear hK K
                refine norm_ (a' := ?_) ?_ ?_
                rotate_left
                ·
                 show Act.put _ (some 42) _ = _
                 simp only [Act.put, List.setIfInBounds_toArray, List.set_cons_zero, List.set_cons_succ, i64_w, i32_w]
                 rfl
                refine done_ (by kernel_rfl) ?_
                clear hHeld hcy
                try go_wp2
                (first | go_roundg k1 | (refine Handed.intro k1 ?measure ?_; rotate_left; go_step; (try simp only [add_plain]); (repeat apply Exists.intro); refine ⟨?rel, rfl⟩))
                case measure => have := HK1.out; omega
                case rel => exact ⟨(wrap64 (i + 1)), s2, ok2, rfl, H', ⟨by have := HK1.out; omega⟩, R1, ⟨fun q hq => (R2.out q hq).elim (HOK.out q) (fun h_ => Or.inr (Nat.le_trans (Nat.le_trans HKP.out.1 HB.out.size) h_))⟩, ⟨Kept.then_ (Kept.below HKP.out HB.out) R3.out (fun q hq => HOK.out q hq)⟩⟩
              ·
                rw [if_neg c9] at H
                exact absurd H (by simp)
            ·
              rw [if_neg c8] at H
              exact absurd H (by simp)
          ·
            rw [if_neg c7] at H; have c7b0 := decide_eq_false c7; clear c7; obtain rfl := Option.some.inj H
            go_wp2
            first | go_end0 | ((try simp only [Exit.inBlock, Exit.then]); refine bodyPost_ret (results_none rfl _ _ _) rfl ?_)
            exact ⟨rfl, ok1, HI.out _ _ _ _ HIV.out (bU0 HB.out), HOK.out, Kept.below HKP.out (bU0 HB.out)⟩
    ·
      rw [if_neg c6] at h
      exact absurd h (by simp)
def facsG {σ : Type} (step : Nat → σ → List (List Int) → Option σ) (k : Nat) (ts : List (List Int)) (n : Int) (s : σ) : Option σ :=
  if ts.length ≤ 11728124029610 then ((permG (fun k cs p => fac1L k ts p cs 0) k n (List.replicate ts.length []) []).bind fun cs => ((impl_still.f k n).bind fun t => facG step ts n cs k s [] t)) else none
set_option maxHeartbeats 8000000 in
set_option maxRecDepth 100000 in
theorem facs.calls {σ : Type} (step : Nat → σ → List (List Int) → Option σ) (Inv : σ → World → (Nat → Prop) → Prop) (TF : Nat) (fnT : Func) (hfT : Try.prog.funcs[TF]? = some fnT) (hnT : (fnT.name == "runtime.NumGoroutine") = false) (hbT : fnT.body.isSome = true) (gm : Nat)
  (hI : ∀ s W W' ok, Inv s W ok → Below W.heap.size W W' → Inv s W' ok) (hL : ∀ s W ok q, Inv s W ok → ok q → q < W.heap.size)
  (hT : ∀ (k : Nat) (s s' : σ) (l : List (List Int)) (A : Option Addr) (c : Nat) (W : World) (ok : Nat → Prop), Inv s W ok → Kd.F (Kd.slice 3 (Kd.int .i64)) W (fun q => ¬ ok q) A l.length l → l.length ≤ c → step k s l = some s' → Calls Try.prog TF #[.slice A l.length c, .pointer (some ⟨gm, 0, none⟩)] W fun e w' => e = .returned (.tuple #[]) ∧ ∃ ok', Inv s' w' ok' ∧ (∀ q, ok' q → ok q ∨ W.heap.size ≤ q) ∧ Kept W w' ok)
  (k : Nat) (At : Option Addr) (ct : Nat) (ts : List (List Int)) (n : Int) (s s' : σ) (w : World) (ok : Nat → Prop) (hInv : Inv s w ok) (hr0 : Kd.C (Kd.slice 3 (Kd.int .i64)) w At ts.length ts) (hc0 : ts.length ≤ ct) (h : facsG step k ts n s = some s') :
  Calls Try.prog 95 #[.slice At ts.length ct, .int .i64 n, .func (.func TF) #[] #[.pointer (some ⟨gm, 0, none⟩)]] w fun e w' => e = .returned (.tuple #[]) ∧ ∃ ok', Inv s' w' ok' ∧ (∀ q, ok' q → ok q ∨ w.heap.size ≤ q) ∧ Kept w w' ok := by
  have HTS := Az hr0; have HCT := Az hc0; have HIV := Az hInv; have HB := Az (Below.refl w.heap.size w); clear hr0 hc0 hInv
  unfold facsG at h
  by_cases c1 : ts.length ≤ 11728124029610
  ·
    rw [if_pos c1] at h; have LM := Az c1; obtain ⟨cs, A10, h⟩ := Option.bind_eq_some_iff.mp h; obtain ⟨t, A20, h⟩ := Option.bind_eq_some_iff.mp h; have A1 := Az A10; have A2 := Az A20; have A3 := Az h; clear A10 A20 h c1
    go_enter Try.func95, Try.ntmps95
    go_wp2_with (first  | ((with_reducible refine gate_dst (N := 3) rfl ?_); refine box_event ?hg (N := 3) ?hd (cs := #[.slice At ts.length ct]) (t := 45) ?hr ?_; (case hd => rfl); (case hg => rfl); (case hr => first | (go_simp; done) | (go_simp; rfl)); intro gt hg_ w2 hbox hb; have n1 := Az (below_step HB.out hb); have B_gt := Az hbox; have G_gt := Az ((by rw [hg_]; exact below_size HB.out) : w.heap.size ≤ gt); clear HB hb hbox hg_; have HB := n1; clear n1) | ((with_reducible refine gate_dst (N := 4) rfl ?_); refine box_event ?hg (N := 4) ?hd (cs := #[.int .i64 n]) (t := 3) ?hr ?_; (case hd => rfl); (case hg => rfl); (case hr => first | (go_simp; done) | (go_simp; rfl)); intro gn hg_ w3 hbox hb; have n1 := Az (below_step HB.out hb); have m0 := Az (blk_below B_gt.out hb); have B_gn := Az hbox; have G_gn := Az ((by rw [hg_]; exact below_size HB.out) : w.heap.size ≤ gn); clear HB hb hbox hg_ B_gt; have HB := n1; clear n1; have B_gt := m0; clear m0) | ((with_reducible refine gate_dst (N := 5) rfl ?_); refine box_event ?hg (N := 5) ?hd (cs := #[.func (.func TF) #[] #[.pointer (some ⟨gm, 0, none⟩)]]) (t := 76) ?hr ?_; (case hd => rfl); (case hg => rfl); (case hr => first | (go_simp; done) | (go_simp; rfl)); intro gl hg_ w4 hbox hb; have n1 := Az (below_step HB.out hb); have m0 := Az (blk_below B_gt.out hb); have m1 := Az (blk_below B_gn.out hb); have B_gl := Az hbox; have G_gl := Az ((by rw [hg_]; exact below_size HB.out) : w.heap.size ≤ gl); clear HB hb hbox hg_ B_gt B_gn; have HB := n1; clear n1; have B_gt := m0; clear m0; have B_gn := m1; clear m1; have hcz0 : w4.cell? ⟨gt, 0, none⟩ = some (.slice At ts.length ct) := (blk_cell B_gt.out 0).trans rfl) | ((with_reducible refine gate_dst (N := 10) rfl ?_); refine Kd.S_make (Kd.slice 23 (Kd.slice 3 (Kd.int .i64))) _ 45 rfl (N := 10) rfl 98 _ _ rfl (ts.length : Int) rfl rfl Try.underlying98 (.slice none 0 0) 24 infoF45 rfl (by decide) (by omega) ([] : List (List Int)) (ok := fun _ => True) (okp := fun _ => True) (Kd.M_row (Kd.R_nil _ _ _ _ _)) (fun _ hk => hk) trivial (by omega) (by have := LM.out; simp only [Int.toNat_natCast]; omega) (Below.refl _ _) (Nat.le_refl _) ?_; intro v1 w5 ho hb hg_ hnew_; rw [Int.toNat_natCast] at ho; have HSZ := Az hb.size; have LT := Az (blk_lt B_gt.out); have LN := Az (blk_lt B_gn.out); have LL := Az (blk_lt B_gl.out); have HO := Az (Kd.S_mono (Kd.S_bound ho) (ok' := fun q => w4.heap.size ≤ q ∧ q < w5.heap.size) (fun q hq => ⟨hq.2.1, hq.2.2.1⟩)); have m0 := Az (blk_below B_gt.out hb); have m1 := Az (blk_below B_gn.out hb); have m2 := Az (blk_below B_gl.out hb); have m3 := Az (below_step HB.out hb); have HS4 := Az (below_size HB.out); clear B_gt B_gn B_gl HB ho hb hg_ hnew_ hcz0; have B_gt := m0; have B_gn := m1; have B_gl := m2; have HB := m3; clear m0 m1 m2 m3) | ((with_reducible refine gate_store (p := 6) (t := 98) rfl ?_); refine store_event (w1 := w5.alloc (.cells #[v1] 98 (0, 0))) rfl rfl rfl ?hr ?_; (case hr => (obtain ⟨Av, cv, ev⟩ := Kd.S_slice HO.out; subst ev; go_simp; first | exact setCell_new _ _ _ _ | (rw [run_store _ _ _ _ _ rfl]; simp [stored]; exact setCell_new _ _ _ _) | trace_state)); intro w6 hw6; have hb6 : Below w5.heap.size w5 w6 := (by rw [hw6]; exact below_alloc (Below.refl _ _) _); have B_gc := Az ((by rw [hw6]; exact blk_new w5 _) : w6.heap[w5.heap.size]? = some (.cells #[v1] 98 (0, 0))); have m0 := Az (blk_below B_gt.out hb6); have m1 := Az (blk_below B_gn.out hb6); have m2 := Az (blk_below B_gl.out hb6); have m3 := Az (below_step HB.out hb6); have m4 := Az (Kd.S_below HO.out hb6); have HS5 := Az hb6.size; clear B_gt B_gn B_gl HB HO hb6 hw6; have B_gt := m0; have B_gn := m1; have B_gl := m2; have HB := m3; have HO := m4; clear m0 m1 m2 m3 m4; obtain ⟨gc, hgc⟩ : ∃ g_ : Nat, g_ = w5.heap.size := ⟨_, rfl⟩; rw [← hgc] at B_gc ⊢; have HGC := Az hgc; clear hgc; have hcz1 : w6.cell? ⟨gn, 0, none⟩ = some (.int .i64 n) := (blk_cell B_gn.out 0).trans rfl) | (go_at_call 138; refine (perm0.calls (σ := List (List (List Int))) (fun k cs p => fac1L k ts p cs 0) (fac1I w At ct ts gt gc v1) gt gc (fun s W W' ok h hb => fac1I.below h hb) (fun s W ok q h hq => (h.2.2.2.2.1 q hq).2.2) (fun k s s' p A c W ok hI hp hc h => fac1.calls w At ct ts gt gc v1 HTS.out HCT.out k s s' p A c W ok hI hp hc h) k n (List.replicate ts.length []) cs w6 (fun q => w4.heap.size ≤ q ∧ q < w5.heap.size) ⟨HB.out, B_gt.out, B_gc.out, Kd.S_lower HO.out HS4.out, fun q hq => ⟨fun e_ => by have := LT.out; omega, fun e_ => by have := HGC.out; omega, Nat.lt_of_lt_of_le hq.2 HS5.out⟩, List.length_replicate⟩ A1.out).mono ?_; rintro e w7 ⟨rfl, ok', i1, i2, i3⟩; have FI := Az i1; have R3 := Az i3; clear i1 i2 i3 hcz1) | ((with_reducible refine gate_store (p := 7) (t := 100) rfl ?_); refine store_event (w1 := w7.alloc (.cells #[.func (.func 140) #[] #[.pointer (some ⟨gt, 0, none⟩), .pointer (some ⟨gn, 0, none⟩), .pointer (some ⟨gl, 0, none⟩), .pointer (some ⟨gc, 0, none⟩), .pointer (some ⟨w7.heap.size, 0, none⟩)]] 100 (0, 0))) rfl rfl rfl ?hr ?_; (case hr => (go_simp; rw [run_store _ _ _ _ _ rfl]; simp [stored]; exact setCell_new _ _ _ _)); intro w8 hw8; have hb8 : Below w7.heap.size w7 w8 := (by rw [hw8]; exact below_alloc (Below.refl _ _) _); have B_gy0 : w8.heap[w7.heap.size]? = some (.cells #[.func (.func 140) #[] #[.pointer (some ⟨gt, 0, none⟩), .pointer (some ⟨gn, 0, none⟩), .pointer (some ⟨gl, 0, none⟩), .pointer (some ⟨gc, 0, none⟩), .pointer (some ⟨w7.heap.size, 0, none⟩)]] 100 (0, 0)) := (by rw [hw8]; exact blk_new w7 _); clear hw8; obtain ⟨gy, hgy⟩ : ∃ g_ : Nat, g_ = w7.heap.size := ⟨_, rfl⟩; rw [← hgy] at B_gy0 ⊢; have B_gy := Az B_gy0; have HGY := Az hgy; have HB8 := Az hb8; clear B_gy0 hgy hb8))
    obtain ⟨f1, f2, f3, f4, f5, f6⟩ := FI.out; obtain ⟨Ac, cc, ev⟩ := Kd.S_slice f4; subst ev; have FS := Az f4; have FB7 := Az f1; have FT7 := Az f2; have FC7 := Az f3; have FN7 := Az (blk_kept B_gn.out R3.out (fun h2 => by have := LN.out; omega)); have FL7 := Az (blk_kept B_gl.out R3.out (fun h2 => by have := LL.out; omega)); have GC := Az ((by have := HGC.out; have := HS4.out; have := HSZ.out; omega) : w.heap.size ≤ gc); have GY := Az ((by rw [HGY.out]; exact below_size FB7.out) : w.heap.size ≤ gy); clear f1 f2 f3 f4 f5 f6 FI B_gt B_gn B_gl B_gc HB HO R3; have HB : Aside0 (Below w.heap.size w w8) := ⟨below_step FB7.out HB8.out⟩; have B_gn := Az (blk_below FN7.out HB8.out); have B_gt := Az (blk_below FT7.out HB8.out); have B_gl := Az (blk_below FL7.out HB8.out); have B_gc := Az (blk_below FC7.out HB8.out); have FS8 := Az (Kd.S_below FS.out HB8.out); clear FN7 FT7 FL7 FC7 FS HB8 FB7; have HB8 : Aside0 (Below w8.heap.size w8 w8) := ⟨Below.refl _ _⟩
    refine start_ (n := 4) (S := fun w' => w'.cell? ⟨gy, 0, none⟩ = some (.func (.func 140) #[] #[.pointer (some ⟨gt, 0, none⟩), .pointer (some ⟨gn, 0, none⟩), .pointer (some ⟨gl, 0, none⟩), .pointer (some ⟨gc, 0, none⟩), .pointer (some ⟨gy, 0, none⟩)]) ∧ w'.cell? ⟨gn, 0, none⟩ = some (.int .i64 n)) (ds := []) #[false, false, false, false] (by kernel_rfl) rfl rfl ⟨pw_cell_below (by repeat (first | (with_reducible first | exact HB8.out | apply below_alloc | apply pw_below_drewN | apply below_drew1) | exact HB8.out)) ((blk_cell B_gy.out 0).trans rfl), pw_cell_below (by repeat (first | (with_reducible first | exact HB8.out | apply below_alloc | apply pw_below_drewN | apply below_drew1) | exact HB8.out)) ((blk_cell B_gn.out 0).trans rfl)⟩ (fun hHeld => ?_)
    refine take_ (i := 0) (N := some 15) (v := ?_) (a' := ?_) #[true, false, false, false] rfl rfl (by kernel_rfl) (fun _ _ _ h => h) (Or.inl ⟨by rfl, ?_⟩) hHeld ?_ ?_
    rotate_left
    ·
     intro w' s0
     obtain ⟨s0, s1⟩ := s0
     go_simp
     with_reducible rfl
    rotate_left
    ·
     simp only [Act.put, List.setIfInBounds_toArray, List.set_cons_zero, List.set_cons_succ, i64_w, i32_w]
     rfl
    refine take_ (i := 1) (N := some 16) (v := ?_) (a' := ?_) #[true, true, false, false] rfl rfl (by kernel_rfl) (fun _ _ _ h => h) (Or.inl ⟨by rfl, ?_⟩) hHeld ?_ ?_
    rotate_left
    ·
     intro w' s0
     obtain ⟨s0, s1⟩ := s0
     go_simp
     with_reducible rfl
    rotate_left
    ·
     simp only [Act.put, List.setIfInBounds_toArray, List.set_cons_zero, List.set_cons_succ, i64_w, i32_w]
     rfl
    refine one_ (i := 2) (N := some 17) #[true, true, true, false] rfl rfl (by kernel_rfl) (by decide) (fun K hK => ?_)
    refine goes_ Try.func104 (by kernel_rfl) rfl #[.int .i64 n] (by rfl) rfl rfl (by (try simp only [List.map_toArray, List.map_cons, List.map_nil]); first | done | rfl) ?_
    refine (impl_still.calls k n t _ A2.out).mono ?_
    rintro e w9 ⟨v9, rfl, ho, hb⟩
    refine ⟨_, rfl, ?_⟩
    obtain ⟨A9, c9, e9⟩ := Kd.R_slice ho; subst e9; have HO9 := Az (Kd.R_lower ho (below_size (by repeat (first | (with_reducible first | exact HB8.out | apply below_alloc | apply pw_below_drewN | apply below_drew1) | exact HB8.out)))); have n0_ := Az (below_step (by repeat (first | (with_reducible first | exact HB8.out | apply below_alloc | apply pw_below_drewN | apply below_drew1) | exact HB8.out)) hb); clear HB8 ho hb; have HB8 := n0_; clear n0_
    refine hK.out _ _ ⟨pw_cell_below (by repeat (first | (with_reducible first | exact HB8.out | apply below_alloc | apply pw_below_drewN | apply below_drew1) | exact HB8.out)) ((blk_cell B_gy.out 0).trans rfl), pw_cell_below (by repeat (first | (with_reducible first | exact HB8.out | apply below_alloc | apply pw_below_drewN | apply below_drew1) | exact HB8.out)) ((blk_cell B_gn.out 0).trans rfl)⟩ (fun hHeld => ?_)
    clear hK K
    refine norm_ (a' := ?_) ?_ ?_
    rotate_left
    ·
     show Act.put _ (some 17) _ = _
     simp only [Act.put, List.setIfInBounds_toArray, List.set_cons_zero, List.set_cons_succ, i64_w, i32_w]
     rfl
    refine one_ (i := 3) (N := some 18) #[true, true, true, true] rfl rfl (by kernel_rfl) (by decide) (fun K hK => ?_)
    refine goesV_ (f := 140) Try.func140 (by kernel_rfl) rfl #[.slice none 0 0, .slice A9 t.length c9, .pointer (some ⟨gt, 0, none⟩), .pointer (some ⟨gn, 0, none⟩), .pointer (some ⟨gl, 0, none⟩), .pointer (some ⟨gc, 0, none⟩), .pointer (some ⟨gy, 0, none⟩)] (by rfl) rfl rfl (by rfl) (by first | rfl | (simp; done) | (simp; exact ⟨rfl, rfl⟩) | (simp; rfl)) ?_
    refine (fac2.calls step Inv TF fnT hfT hnT hbT gm hI hL hT gt gn gl gc gy At ct ts n Ac cc cs k s s' none 0 [] A9 c9 t _ ok (hI _ _ _ _ HIV.out (below_step HB.out HB8.out)) (fun h2 => Nat.lt_irrefl _ (Nat.lt_of_lt_of_le (hL _ _ _ _ HIV.out h2) G_gt.out)) (fun h2 => Nat.lt_irrefl _ (Nat.lt_of_lt_of_le (hL _ _ _ _ HIV.out h2) G_gn.out)) (fun h2 => Nat.lt_irrefl _ (Nat.lt_of_lt_of_le (hL _ _ _ _ HIV.out h2) G_gl.out)) (fun h2 => Nat.lt_irrefl _ (Nat.lt_of_lt_of_le (hL _ _ _ _ HIV.out h2) GC.out)) (fun h2 => Nat.lt_irrefl _ (Nat.lt_of_lt_of_le (hL _ _ _ _ HIV.out h2) GY.out)) (blk_below B_gt.out HB8.out) (blk_below B_gn.out HB8.out) (blk_below B_gl.out HB8.out) (blk_below B_gc.out HB8.out) (blk_below B_gy.out HB8.out) (Kd.F_nil _ _ _) (Nat.le_refl 0) (Kd.F_mono (Kd.R_F (Kd.R_bound HO9.out)) (fun q hq h1 => by have := hL _ _ _ _ HIV.out h1; have := hq.2.1; have := below_size HB.out; omega)) (Kd.R_reads' HO9.out).2.1 (Kd.F_below (Kd.F_mono (Kd.S_F (Kd.S_bound FS8.out)) (fun q hq h1 => by have := hL _ _ _ _ HIV.out h1; have := hq.2.1; omega)) HB8.out) A3.out).mono ?_
    rintro e w' ⟨rfl, ok2, i1, i2, i3⟩
    refine ⟨_, rfl, ?_⟩
    have R1 := Az i1; have R2 := Az i2; have R3 := Az i3
    have N1 : ∀ g, w.heap.size ≤ g → ¬ ok g := fun g hg h2 => Nat.lt_irrefl _ (Nat.lt_of_lt_of_le (hL _ _ _ _ HIV.out h2) hg)
    have hcy := blk_kept (blk_below B_gy.out HB8.out) i3 (N1 _ GY.out); have hcn := blk_kept (blk_below B_gn.out HB8.out) i3 (N1 _ G_gn.out); clear i1 i2 i3
    refine hK.out _ _ ⟨(blk_cell hcy 0).trans rfl, (blk_cell hcn 0).trans rfl⟩ (fun hHeld => ?_)
    clear hK K
    refine norm_ (a' := ?_) ?_ ?_
    rotate_left
    ·
     show Act.put _ (some 18) _ = _
     simp only [Act.put, List.setIfInBounds_toArray, List.set_cons_zero, List.set_cons_succ, i64_w, i32_w]
     rfl
    refine done_ (by kernel_rfl) ?_
    clear hHeld hcy hcn
    try go_wp2
    first | go_end0 | ((try simp only [Exit.inBlock, Exit.then]); refine bodyPost_ret (results_none rfl _ _ _) rfl ?_)
    have hb9 := below_step HB.out HB8.out
    exact ⟨rfl, ok2, R1.out, fun q hq => (R2.out q hq).imp id (fun h2 => Nat.le_trans (below_size hb9) h2), Kept.then_ (Kept.of_below hb9 ok) R3.out (fun q hq => Or.inl hq)⟩
  ·
    rw [if_neg c1] at h
    cases h
def oneI (w0 : World) (g : Nat) (m : Int) (W : World) (ok : Nat → Prop) : Prop := Below w0.heap.size w0 W ∧ W.heap[g]? = some (.cells #[.int .i64 m] 3 (0, 0)) ∧ ok = fun q => q = g
theorem oneI.below {w0 W W1 : World} {g : Nat} {m : Int} {ok : Nat → Prop} (h : oneI w0 g m W ok) (hb : Below W.heap.size W W1) : oneI w0 g m W1 ok := ⟨below_step h.1 hb, blk_below h.2.1 hb, h.2.2⟩
theorem oneI.put {w0 W : World} {g : Nat} {m : Int} {ok : Nat → Prop} (h : oneI w0 g m W ok) (hg : w0.heap.size ≤ g) (m' : Int) : oneI w0 g m' (W.setCell ⟨g, 0, none⟩ (.int .i64 m')) ok ∧ Kept W (W.setCell ⟨g, 0, none⟩ (.int .i64 m')) ok := by
  obtain ⟨h1, h2, rfl⟩ := h
  exact ⟨⟨below_set h1 hg, one_setCell h2, rfl⟩, Kept.setCell (S := fun q => q = g) (p := ⟨g, 0, none⟩) (Kept.refl _ _) (Or.inl rfl) _⟩
set_option maxHeartbeats 8000000 in
set_option maxRecDepth 100000 in
theorem tellE.calls (w0 : World) (g : Nat) (hg : w0.heap.size ≤ g) (s s' : Int) (v : Value) (w : World) (ok : Nat → Prop) (hI : oneI w0 g s w ok) (h : some (wrap64 (s + 1)) = some s') :
    Calls Try.prog 96 #[v, .pointer (some ⟨g, 0, none⟩)] w fun e w' => e = .returned (.tuple #[]) ∧ ∃ ok', oneI w0 g s' w' ok' ∧ (∀ q, ok' q → ok q ∨ w.heap.size ≤ q) ∧ Kept w w' ok := by
  obtain rfl := Option.some.inj h; have HI := Az hI; have hcz0 : w.cell? ⟨g, 0, none⟩ = some (.int .i64 s) := (blk_cell hI.2.1 0).trans rfl; have hfz0 := blk_frozen hI.2.1 0; clear hI h
  go_enter Try.func96, Try.ntmps96
  go_wp2_with (first | ((with_reducible refine gate_store (p := 1) (t := 3) rfl ?_); refine store_event (w1 := w.setCell ⟨g, 0, none⟩ (.int .i64 (wrap64 (s + 1)))) rfl rfl rfl ?hr ?_; (case hr => first | (go_simp; done) | (go_simp; rfl)); intro w1 hw1))
  first | go_end0 | ((try simp only [Exit.inBlock, Exit.then]); refine bodyPost_ret (results_none rfl _ _ _) rfl ?_)
  rw [hw1]
  exact ⟨rfl, ok, (oneI.put HI.out hg _).1, fun q hq => Or.inl hq, (oneI.put HI.out hg _).2⟩
def impl_FactorEach.f (k : Nat) (ts : List (List Int)) : Option Int := (impl_typesSum.f k ts).bind fun n => (if n < 0 then some (-1) else (if n > 4 then some (-1) else (if (ts.length : Int) > 3 then some (-1) else facsG (fun _ m _ => some (wrap64 (m + 1))) k ts n (0 : Int))))
set_option maxHeartbeats 8000000 in
set_option maxRecDepth 100000 in
theorem impl_FactorEach.calls (k : Nat) (A0 : Option Addr) (c0 : Nat) (l0 : List (List Int)) (r : Int) (w : World) (hr0 : Kd.C (Kd.slice 3 (Kd.int .i64)) w A0 l0.length l0) (hc0 : l0.length ≤ c0) (h : impl_FactorEach.f k l0 = some r) :
    Calls Try.prog 41 #[.slice A0 l0.length c0] w fun e w' => e = .returned (.int .i64 r) ∧ Below w.heap.size w w' := by
  have HR0 := Az hr0; have HC0 := Az hc0; have HB := Az (Below.refl w.heap.size w); clear hr0 hc0
  unfold impl_FactorEach.f at h
  obtain ⟨n, A10, h⟩ := Option.bind_eq_some_iff.mp h; have A1 := Az A10; clear A10
  by_cases c1 : n < 0
  ·
    rw [if_pos c1] at h; have c1b0 := decide_eq_true c1; obtain rfl := Option.some.inj h; clear h c1
    go_enter Try.func41, Try.ntmps41
    go_wp2_with (first | (go_at_call 94; (with_reducible refine (impl_typesSum.calls k _ _ l0 n _ ?side1 ?side2 A1.out).mono ?_); (case side1 => exact Kd.C_below HR0.out (bU0 HB.out)); (case side2 => exact HC0.out); rintro e w1 ⟨rfl, hd⟩; have n0 := Az (below_step (bU0 HB.out) (Drawn0.below hd)); clear HB hd; have HB := n0; clear n0))
    go_ret
    exact ⟨rfl, (bU0 HB.out)⟩
  ·
    rw [if_neg c1] at h; have c1b0 := decide_eq_false c1; clear c1
    by_cases c2 : n > 4
    ·
      rw [if_pos c2] at h; have c2b0 := decide_eq_true c2; obtain rfl := Option.some.inj h; clear h c2
      go_enter Try.func41, Try.ntmps41
      go_wp2_with (first | (go_at_call 94; (with_reducible refine (impl_typesSum.calls k _ _ l0 n _ ?side1 ?side2 A1.out).mono ?_); (case side1 => exact Kd.C_below HR0.out (bU0 HB.out)); (case side2 => exact HC0.out); rintro e w1 ⟨rfl, hd⟩; have n0 := Az (below_step (bU0 HB.out) (Drawn0.below hd)); clear HB hd; have HB := n0; clear n0))
      go_ret
      exact ⟨rfl, (bU0 HB.out)⟩
    ·
      rw [if_neg c2] at h; have c2b0 := decide_eq_false c2; clear c2
      by_cases c3 : (l0.length : Int) > 3
      ·
        rw [if_pos c3] at h; have c3b0 := decide_eq_true c3; have c3b1 : decide (l0.length > 3) = true := decide_eq_true (by omega); obtain rfl := Option.some.inj h; clear h c3
        go_enter Try.func41, Try.ntmps41
        go_wp2_with (first | (go_at_call 94; (with_reducible refine (impl_typesSum.calls k _ _ l0 n _ ?side1 ?side2 A1.out).mono ?_); (case side1 => exact Kd.C_below HR0.out (bU0 HB.out)); (case side2 => exact HC0.out); rintro e w1 ⟨rfl, hd⟩; have n0 := Az (below_step (bU0 HB.out) (Drawn0.below hd)); clear HB hd; have HB := n0; clear n0))
        go_ret
        exact ⟨rfl, (bU0 HB.out)⟩
      ·
        rw [if_neg c3] at h; have c3b0 := decide_eq_false c3; have c3b1 : decide (l0.length > 3) = false := decide_eq_false (by omega); have A2 := Az h; clear h c3
        go_enter Try.func41, Try.ntmps41
        go_wp2_with (first | (go_at_call 94; (with_reducible refine (impl_typesSum.calls k _ _ l0 n _ ?side1 ?side2 A1.out).mono ?_); (case side1 => exact Kd.C_below HR0.out (bU0 HB.out)); (case side2 => exact HC0.out); rintro e w1 ⟨rfl, hd⟩; have n0 := Az (below_step (bU0 HB.out) (Drawn0.below hd)); clear HB hd; have HB := n0; clear n0) | ((with_reducible refine gate_store (p := 4) (t := 3) rfl ?_); go_loud (refine store_event (w1 := w1.alloc (.cells #[.int .i64 0] 3 (0, 0))) rfl rfl rfl ?hr ?_; (case hr => first | (go_simp; done) | (go_simp; exact setCell_new _ _ _ _)); intro w2 hw2; have hb2 : Below w1.heap.size w1 w2 := (by rw [hw2]; exact below_alloc (Below.refl _ _) _); have B_g0 := Az ((by rw [hw2]; exact blk_new _ _) : w2.heap[w1.heap.size]? = some (.cells #[.int .i64 0] 3 (0, 0))); have m0 := Az (below_step (bU0 HB.out) hb2); clear hw2; obtain ⟨g, hgg⟩ : ∃ g_ : Nat, g_ = w1.heap.size := ⟨_, rfl⟩; have HGG := Az ((by rw [hgg]; exact below_size HB.out) : w.heap.size ≤ g); rw [← hgg] at B_g0; rw [← hgg]; clear hb2 HB hgg; have HB := m0; clear m0)) | (go_at_call 95; go_loud (refine (facs.calls (σ := Int) (fun _ m _ => some (wrap64 (m + 1))) (oneI w g) 96 _ Try.func96 (by kernel_rfl) rfl g (fun s W W' ok h hb => oneI.below h hb) (fun s W ok q h hq => (by have h2 := h.2.2; subst h2; rw [show q = g from hq]; exact blk_lt h.2.1)) (fun k s s' l A c W ok h _ _ hs => tellE.calls w g HGG.out s s' _ W ok h hs) k A0 c0 l0 n 0 r _ (fun q => q = g) ⟨(bU0 HB.out), B_g0.out, rfl⟩ (Kd.C_below HR0.out (bU0 HB.out)) HC0.out A2.out).mono ?_; rintro e w3 ⟨rfl, ok', i1, i2, i3⟩; have R1 := Az i1; have hcy : w3.cell? ⟨g, 0, none⟩ = some (.int .i64 r) := (blk_cell i1.2.1 0).trans rfl; clear i1 i2 i3)))
        go_ret
        exact ⟨rfl, R1.out.1⟩
def laws_eqIntS.l0 : Nat → List Int → List Int → Int → Option (Bool)
 | 0, _, _, _ => none
 | k + 1, x0, x1, x5 => if x5 < (x0.length : Int) then (if 0 ≤ x5 then (if x5 < (x1.length : Int) then (if (rd x0 x5) = (rd x1 x5) then (laws_eqIntS.l0 k x0 x1 (wrap64 (x5 + 1))) else (some false)) else (none)) else (none)) else (some true)
def laws_eqIntS.f (k : Nat) (l0 : List Int) (l1 : List Int) : Option (Bool) := if (l0.length : Int) = (l1.length : Int) then (laws_eqIntS.l0 k l0 l1 0) else (some false)
set_option maxHeartbeats 8000000 in
set_option maxRecDepth 100000 in
theorem laws_eqIntS.calls (k : Nat) (A0 : Option Addr) (c0 : Nat) (l0 : List Int) (A1 : Option Addr) (c1 : Nat) (l1 : List Int) (r : Bool) (w : World) (hr0 : Kd.C (Kd.int .i64) w A0 l0.length l0) (hc0 : l0.length ≤ c0) (hr1 : Kd.C (Kd.int .i64) w A1 l1.length l1) (hc1 : l1.length ≤ c1) (h : laws_eqIntS.f k l0 l1 = some r) :
  Calls Try.prog 73 #[.slice A0 l0.length c0, .slice A1 l1.length c1] w fun e w' => e = .returned (.bool r) ∧ Drawn0 w w' := by
 have HR0 := Az hr0; have HC0 := Az hc0; clear hr0 hc0; have HR1 := Az hr1; have HC1 := Az hc1; clear hr1 hc1; have H : (if (l0.length : Int) = (l1.length : Int) then (laws_eqIntS.l0 k l0 l1 0) else (some false)) = some r := h; clear h
 by_cases c3 : (l0.length : Int) = (l1.length : Int)
 ·
  rw [if_pos c3] at H; have c3b0 := beq_iff_eq.mpr c3; have c3b1 := bne_eq_false_iff_eq.mpr c3
  have c3b2 : (l0.length == l1.length) = true := by first | simpa using c3 | (simp at c3 ⊢; omega)
  clear c3; have H' := Az H; clear H
  go_enter Try.func73, Try.ntmps73
  go_wp2
  repeat (go_quiet (fail); try go_wp2)
  go_loopg [5] k (fun kq v5 w' => ∃ (x5_1 : Int), v5 = .int .i64 x5_1 ∧ Aside0 (laws_eqIntS.l0 kq l0 l1 x5_1 = some r) ∧ Aside0 (kq ≤ k) ∧ Drawn0 w w')
  case atStart => exact ⟨(0), rS, H', ⟨Nat.le_refl _⟩, by repeat (first | exact Drawn0.refl _ | apply Drawn0.step)⟩
  case round =>
   clear H'; (try clear c1); (try clear p2); (try clear c3); (try clear c3b0); (try clear c3b1); (try clear c3b2); obtain ⟨x5_1, rfl, HA, HK1, ⟨m1, rfl⟩⟩ := hrel
   cases gk with
   | zero => exact absurd HA.out (by simp [laws_eqIntS.l0])
   | succ k1 =>
    have H := HA.out; clear HA; simp only [laws_eqIntS.l0] at H
    by_cases c4 : x5_1 < (l0.length : Int)
    ·
     rw [if_pos c4] at H; have c4b0 := decide_eq_true c4; clear c4
     by_cases c5 : 0 ≤ x5_1
     ·
      rw [if_pos c5] at H; have c5b0 := decide_eq_true c5; clear c5
      by_cases c6 : x5_1 < (l1.length : Int)
      ·
       rw [if_pos c6] at H; have c6b0 := decide_eq_true c6; clear c6
       by_cases c7 : (rd l0 x5_1) = (rd l1 x5_1)
       ·
        rw [if_pos c7] at H; have c7b0 := beq_iff_eq.mpr c7; have c7b1 := bne_eq_false_iff_eq.mpr c7; clear c7; have H' := Az H; clear H; have p469 : 0 ≤ (x5_1 : Int) := oA; have q469 : x5_1 < (l0.length : Int) := oA; obtain ⟨ad469, e469, hx469_0⟩ := Kd.at_int HR0.out x5_1 p469 q469
        cases e469
        replace p469 := eq_true p469; replace q469 := eq_true q469; have p470 : 0 ≤ (x5_1 : Int) := oA; have q470 : x5_1 < (l1.length : Int) := oA; obtain ⟨ad470, e470, hx470_0⟩ := Kd.at_int HR1.out x5_1 p470 q470
        cases e470
        replace p470 := eq_true p470; replace q470 := eq_true q470
        go_wp2
        repeat (go_quiet (fail); try go_wp2)
        (first | go_roundg k1 | (refine Handed.intro k1 ?measure ?_; rotate_left; go_step; (try simp only [add_plain]); (repeat apply Exists.intro); refine ⟨?rel, rfl⟩))
        case measure => have := HK1.out; omega
        case rel => exact ⟨(wrap64 (x5_1 + 1)), rS, H', ⟨by have := HK1.out; omega⟩, by repeat (first | exact Drawn0.refl _ | apply Drawn0.step)⟩
       ·
        rw [if_neg c7] at H; have c7b0 := beq_eq_false_iff_ne.mpr c7; have c7b1 := bne_iff_ne.mpr c7; obtain rfl := Option.some.inj H; have p469 : 0 ≤ (x5_1 : Int) := oA; have q469 : x5_1 < (l0.length : Int) := oA; obtain ⟨ad469, e469, hx469_0⟩ := Kd.at_int HR0.out x5_1 p469 q469
        cases e469
        replace p469 := eq_true p469; replace q469 := eq_true q469; have p470 : 0 ≤ (x5_1 : Int) := oA; have q470 : x5_1 < (l1.length : Int) := oA; obtain ⟨ad470, e470, hx470_0⟩ := Kd.at_int HR1.out x5_1 p470 q470
        cases e470
        replace p470 := eq_true p470; replace q470 := eq_true q470
        go_wp2
        repeat (go_quiet (fail); try go_wp2)
        go_ret
        exact ⟨by first | rfl | (simp; done) | (simp [*]; done), by repeat (first | exact Drawn0.refl _ | apply Drawn0.step)⟩
      ·
       rw [if_neg c6] at H
       exact absurd H (by simp)
     ·
      rw [if_neg c5] at H
      exact absurd H (by simp)
    ·
     rw [if_neg c4] at H; have c4b0 := decide_eq_false c4; clear c4; obtain rfl := Option.some.inj H
     go_wp2
     repeat (go_quiet (fail); try go_wp2)
     go_ret
     exact ⟨by first | rfl | (simp; done) | (simp [*]; done), by repeat (first | exact Drawn0.refl _ | apply Drawn0.step)⟩
 ·
  rw [if_neg c3] at H; have c3b0 := beq_eq_false_iff_ne.mpr c3; have c3b1 := bne_iff_ne.mpr c3
  have c3b2 : (l0.length == l1.length) = false := by first | simpa using c3 | (simp at c3 ⊢; omega)
  obtain rfl := Option.some.inj H
  go_enter Try.func73, Try.ntmps73
  go_wp2
  repeat (go_quiet (fail); try go_wp2)
  go_ret
  exact ⟨by first | rfl | (simp; done) | (simp [*]; done), by repeat (first | exact Drawn0.refl _ | apply Drawn0.step)⟩
def laws_eqIntSS.l0 : Nat → List (List Int) → List (List Int) → Int → Option (Bool)
 | 0, _, _, _ => none
 | k + 1, x0, x1, x5 => if x5 < (x0.length : Int) then (if 0 ≤ x5 then (if x5 < (x1.length : Int) then ((laws_eqIntS.f k (rd_L1 x0 x5) (rd_L1 x1 x5)).bind fun t473 => (if t473 = true then (laws_eqIntSS.l0 k x0 x1 (wrap64 (x5 + 1))) else (some false))) else (none)) else (none)) else (some true)
def laws_eqIntSS.f (k : Nat) (l0 : List (List Int)) (l1 : List (List Int)) : Option (Bool) := if (l0.length : Int) = (l1.length : Int) then (laws_eqIntSS.l0 k l0 l1 0) else (some false)
set_option maxHeartbeats 8000000 in
set_option maxRecDepth 100000 in
theorem laws_eqIntSS.calls (k : Nat) (A0 : Option Addr) (c0 : Nat) (l0 : List (List Int)) (A1 : Option Addr) (c1 : Nat) (l1 : List (List Int)) (r : Bool) (w : World) (hr0 : Kd.C (Kd.slice 3 (Kd.int .i64)) w A0 l0.length l0) (hc0 : l0.length ≤ c0) (hr1 : Kd.C (Kd.slice 3 (Kd.int .i64)) w A1 l1.length l1) (hc1 : l1.length ≤ c1) (h : laws_eqIntSS.f k l0 l1 = some r) :
  Calls Try.prog 42 #[.slice A0 l0.length c0, .slice A1 l1.length c1] w fun e w' => e = .returned (.bool r) ∧ Drawn0 w w' := by
 have HR0 := Az hr0; have HC0 := Az hc0; clear hr0 hc0; have HR1 := Az hr1; have HC1 := Az hc1; clear hr1 hc1; have H : (if (l0.length : Int) = (l1.length : Int) then (laws_eqIntSS.l0 k l0 l1 0) else (some false)) = some r := h; clear h
 by_cases c3 : (l0.length : Int) = (l1.length : Int)
 ·
  rw [if_pos c3] at H; have c3b0 := beq_iff_eq.mpr c3; have c3b1 := bne_eq_false_iff_eq.mpr c3
  have c3b2 : (l0.length == l1.length) = true := by first | simpa using c3 | (simp at c3 ⊢; omega)
  clear c3; have H' := Az H; clear H
  go_enter Try.func42, Try.ntmps42
  go_wp2
  repeat (go_quiet (fail); try go_wp2)
  go_loopg [5] k (fun kq v5 w' => ∃ (x5_1 : Int), v5 = .int .i64 x5_1 ∧ Aside0 (laws_eqIntSS.l0 kq l0 l1 x5_1 = some r) ∧ Aside0 (kq ≤ k) ∧ Drawn0 w w')
  case atStart => exact ⟨(0), rS, H', ⟨Nat.le_refl _⟩, by repeat (first | exact Drawn0.refl _ | apply Drawn0.step)⟩
  case round =>
   clear H'; (try clear c1); (try clear p2); (try clear c3); (try clear c3b0); (try clear c3b1); (try clear c3b2); obtain ⟨x5_1, rfl, HA, HK1, ⟨m1, rfl⟩⟩ := hrel
   cases gk with
   | zero => exact absurd HA.out (by simp [laws_eqIntSS.l0])
   | succ k1 =>
    have H := HA.out; clear HA; simp only [laws_eqIntSS.l0] at H
    by_cases c4 : x5_1 < (l0.length : Int)
    ·
     rw [if_pos c4] at H; have c4b0 := decide_eq_true c4; clear c4
     by_cases c5 : 0 ≤ x5_1
     ·
      rw [if_pos c5] at H; have c5b0 := decide_eq_true c5; clear c5
      by_cases c6 : x5_1 < (l1.length : Int)
      ·
       rw [if_pos c6] at H; have c6b0 := decide_eq_true c6; clear c6; replace H := Option.bind_eq_some_iff.mp H; obtain ⟨t473, A70, H⟩ := H; replace H : (if t473 = true then (laws_eqIntSS.l0 k1 l0 l1 (wrap64 (x5_1 + 1))) else (some false)) = some r := H; have A7 := Az A70; clear A70
       by_cases c8 : t473 = true
       ·
        subst c8
        have H1 : (laws_eqIntSS.l0 k1 l0 l1 (wrap64 (x5_1 + 1))) = some r := by rw [if_pos rfl] at H; exact H
        clear H; have H := H1; clear H1; have H' := Az H; clear H; have p471 : 0 ≤ (x5_1 : Int) := oA; have q471 : x5_1 < (l0.length : Int) := oA; obtain ⟨ad471, A471_0, c471_0, e471, hx471_0, hl471_0, hi471_0⟩ := at_L1 HR0.out x5_1 p471 q471
        cases e471
        have HR471_0 := Az hi471_0; have HC471_0 := Az hl471_0; clear hi471_0 hl471_0; replace p471 := eq_true p471; replace q471 := eq_true q471; have p472 : 0 ≤ (x5_1 : Int) := oA; have q472 : x5_1 < (l1.length : Int) := oA; obtain ⟨ad472, A472_0, c472_0, e472, hx472_0, hl472_0, hi472_0⟩ := at_L1 HR1.out x5_1 p472 q472
        cases e472
        have HR472_0 := Az hi472_0; have HC472_0 := Az hl472_0; clear hi472_0 hl472_0; replace p472 := eq_true p472; replace q472 := eq_true q472
        go_wp2_with (first | (go_at_call 73; (with_reducible refine (laws_eqIntS.calls k1 _ _ (rd_L1 l0 x5_1) _ _ (rd_L1 l1 x5_1) true _ ?side1 ?side2 ?side3 ?side4 A7.out).mono ?_); (case side1 => exact cU (HR471_0.out)); (case side2 => exact HC471_0.out); (case side3 => exact cU (HR472_0.out)); (case side4 => exact HC472_0.out); rintro e w' ⟨rfl, ⟨nd, rfl⟩⟩; (try first | exact ⟨rfl, _, World.drewN_drewN _ _ _⟩ | exact ⟨rfl, _, Eq.trans (World.drewN_drewN _ _ _) (congrArg (World.drewN _) (Nat.add_assoc _ _ _))⟩)))
        repeat (go_quiet (first | (go_at_call 73; (try simp only [Go.IntWalk.i64_left]); (with_reducible refine (laws_eqIntS.calls k1 _ _ (rd_L1 l0 x5_1) _ _ (rd_L1 l1 x5_1) true _ ?side1 ?side2 ?side3 ?side4 A7.out).mono ?_); (case side1 => exact cU (HR471_0.out)); (case side2 => exact HC471_0.out); (case side3 => exact cU (HR472_0.out)); (case side4 => exact HC472_0.out); rintro e w' ⟨rfl, ⟨nd, rfl⟩⟩; (try first | exact ⟨rfl, _, World.drewN_drewN _ _ _⟩ | exact ⟨rfl, _, Eq.trans (World.drewN_drewN _ _ _) (congrArg (World.drewN _) (Nat.add_assoc _ _ _))⟩))); try go_wp2_with (first | (go_at_call 73; (try simp only [Go.IntWalk.i64_left]); (with_reducible refine (laws_eqIntS.calls k1 _ _ (rd_L1 l0 x5_1) _ _ (rd_L1 l1 x5_1) true _ ?side1 ?side2 ?side3 ?side4 A7.out).mono ?_); (case side1 => exact cU (HR471_0.out)); (case side2 => exact HC471_0.out); (case side3 => exact cU (HR472_0.out)); (case side4 => exact HC472_0.out); rintro e w' ⟨rfl, ⟨nd, rfl⟩⟩; (try first | exact ⟨rfl, _, World.drewN_drewN _ _ _⟩ | exact ⟨rfl, _, Eq.trans (World.drewN_drewN _ _ _) (congrArg (World.drewN _) (Nat.add_assoc _ _ _))⟩))))
        (first | go_roundg k1 | (refine Handed.intro k1 ?measure ?_; rotate_left; go_step; (try simp only [add_plain]); (repeat apply Exists.intro); refine ⟨?rel, rfl⟩))
        case measure => have := HK1.out; omega
        case rel => exact ⟨(wrap64 (x5_1 + 1)), rS, H', ⟨by have := HK1.out; omega⟩, by repeat (first | exact Drawn0.refl _ | apply Drawn0.step)⟩
       ·
        replace c8 := Bool.eq_false_iff.mpr c8; subst c8
        have H1 : (some false) = some r := by rw [if_neg (show ¬ (false = true) by decide)] at H; exact H
        clear H; have H := H1; clear H1; obtain rfl := Option.some.inj H; have p471 : 0 ≤ (x5_1 : Int) := oA; have q471 : x5_1 < (l0.length : Int) := oA; obtain ⟨ad471, A471_0, c471_0, e471, hx471_0, hl471_0, hi471_0⟩ := at_L1 HR0.out x5_1 p471 q471
        cases e471
        have HR471_0 := Az hi471_0; have HC471_0 := Az hl471_0; clear hi471_0 hl471_0; replace p471 := eq_true p471; replace q471 := eq_true q471; have p472 : 0 ≤ (x5_1 : Int) := oA; have q472 : x5_1 < (l1.length : Int) := oA; obtain ⟨ad472, A472_0, c472_0, e472, hx472_0, hl472_0, hi472_0⟩ := at_L1 HR1.out x5_1 p472 q472
        cases e472
        have HR472_0 := Az hi472_0; have HC472_0 := Az hl472_0; clear hi472_0 hl472_0; replace p472 := eq_true p472; replace q472 := eq_true q472
        go_wp2_with (first | (go_at_call 73; (with_reducible refine (laws_eqIntS.calls k1 _ _ (rd_L1 l0 x5_1) _ _ (rd_L1 l1 x5_1) false _ ?side1 ?side2 ?side3 ?side4 A7.out).mono ?_); (case side1 => exact cU (HR471_0.out)); (case side2 => exact HC471_0.out); (case side3 => exact cU (HR472_0.out)); (case side4 => exact HC472_0.out); rintro e w' ⟨rfl, ⟨nd, rfl⟩⟩; (try first | exact ⟨rfl, _, World.drewN_drewN _ _ _⟩ | exact ⟨rfl, _, Eq.trans (World.drewN_drewN _ _ _) (congrArg (World.drewN _) (Nat.add_assoc _ _ _))⟩)))
        repeat (go_quiet (first | (go_at_call 73; (try simp only [Go.IntWalk.i64_left]); (with_reducible refine (laws_eqIntS.calls k1 _ _ (rd_L1 l0 x5_1) _ _ (rd_L1 l1 x5_1) false _ ?side1 ?side2 ?side3 ?side4 A7.out).mono ?_); (case side1 => exact cU (HR471_0.out)); (case side2 => exact HC471_0.out); (case side3 => exact cU (HR472_0.out)); (case side4 => exact HC472_0.out); rintro e w' ⟨rfl, ⟨nd, rfl⟩⟩; (try first | exact ⟨rfl, _, World.drewN_drewN _ _ _⟩ | exact ⟨rfl, _, Eq.trans (World.drewN_drewN _ _ _) (congrArg (World.drewN _) (Nat.add_assoc _ _ _))⟩))); try go_wp2_with (first | (go_at_call 73; (try simp only [Go.IntWalk.i64_left]); (with_reducible refine (laws_eqIntS.calls k1 _ _ (rd_L1 l0 x5_1) _ _ (rd_L1 l1 x5_1) false _ ?side1 ?side2 ?side3 ?side4 A7.out).mono ?_); (case side1 => exact cU (HR471_0.out)); (case side2 => exact HC471_0.out); (case side3 => exact cU (HR472_0.out)); (case side4 => exact HC472_0.out); rintro e w' ⟨rfl, ⟨nd, rfl⟩⟩; (try first | exact ⟨rfl, _, World.drewN_drewN _ _ _⟩ | exact ⟨rfl, _, Eq.trans (World.drewN_drewN _ _ _) (congrArg (World.drewN _) (Nat.add_assoc _ _ _))⟩))))
        go_ret
        exact ⟨by first | rfl | (simp; done) | (simp [*]; done), by repeat (first | exact Drawn0.refl _ | apply Drawn0.step)⟩
      ·
       rw [if_neg c6] at H
       exact absurd H (by simp)
     ·
      rw [if_neg c5] at H
      exact absurd H (by simp)
    ·
     rw [if_neg c4] at H; have c4b0 := decide_eq_false c4; clear c4; obtain rfl := Option.some.inj H
     go_wp2
     repeat (go_quiet (fail); try go_wp2)
     go_ret
     exact ⟨by first | rfl | (simp; done) | (simp [*]; done), by repeat (first | exact Drawn0.refl _ | apply Drawn0.step)⟩
 ·
  rw [if_neg c3] at H; have c3b0 := beq_eq_false_iff_ne.mpr c3; have c3b1 := bne_iff_ne.mpr c3
  have c3b2 : (l0.length == l1.length) = false := by first | simpa using c3 | (simp at c3 ⊢; omega)
  obtain rfl := Option.some.inj H
  go_enter Try.func42, Try.ntmps42
  go_wp2
  repeat (go_quiet (fail); try go_wp2)
  go_ret
  exact ⟨by first | rfl | (simp; done) | (simp [*]; done), by repeat (first | exact Drawn0.refl _ | apply Drawn0.step)⟩
def laws_FnExactFactorEach.f (k : Nat) (l0 : List (List Int)) : Option (Bool) := (laws_szIntSS.f k l0 1048576).bind fun t474 => (if t474 < 0 then (some true) else ((laws_toIntSS.f k l0).bind fun t475 => ((spec_FactorEach.f k t475).bind fun t478 => ((laws_toIntSS.f k l0).bind fun t479 => ((impl_FactorEach.f k t479).bind fun t482 => (if t482 = t478 then ((laws_toIntSS.f k l0).bind fun t483 => ((laws_eqIntSS.f k t479 t483).bind fun t486 => (if t486 = true then (some true) else (some false)))) else (some false)))))))
set_option maxHeartbeats 8000000 in
set_option maxRecDepth 100000 in
theorem laws_FnExactFactorEach.calls (k : Nat) (A0 : Option Addr) (c0 : Nat) (l0 : List (List Int)) (r : Bool) (w : World) (hr0 : Kd.C (Kd.slice 3 (Kd.int .i64)) w A0 l0.length l0) (hc0 : l0.length ≤ c0) (h : laws_FnExactFactorEach.f k l0 = some r) :
  Calls Try.prog 7 #[.slice A0 l0.length c0] w fun e w' => e = .returned (.bool r) ∧ Below w.heap.size w w' := by
 have HR0 := Az hr0; have HC0 := Az hc0; clear hr0 hc0; have HB := Az (Below.refl w.heap.size w); have H : ((laws_szIntSS.f k l0 1048576).bind fun t474 => (if t474 < 0 then (some true) else ((laws_toIntSS.f k l0).bind fun t475 => ((spec_FactorEach.f k t475).bind fun t478 => ((laws_toIntSS.f k l0).bind fun t479 => ((impl_FactorEach.f k t479).bind fun t482 => (if t482 = t478 then ((laws_toIntSS.f k l0).bind fun t483 => ((laws_eqIntSS.f k t479 t483).bind fun t486 => (if t486 = true then (some true) else (some false)))) else (some false)))))))) = some r := h; clear h; replace H := Option.bind_eq_some_iff.mp H; obtain ⟨t474, A20, H⟩ := H; replace H : (if t474 < 0 then (some true) else ((laws_toIntSS.f k l0).bind fun t475 => ((spec_FactorEach.f k t475).bind fun t478 => ((laws_toIntSS.f k l0).bind fun t479 => ((impl_FactorEach.f k t479).bind fun t482 => (if t482 = t478 then ((laws_toIntSS.f k l0).bind fun t483 => ((laws_eqIntSS.f k t479 t483).bind fun t486 => (if t486 = true then (some true) else (some false)))) else (some false))))))) = some r := H; have A2 := Az A20; clear A20
 by_cases c3 : t474 < 0
 ·
  rw [if_pos c3] at H; have c3b0 := decide_eq_true c3; clear c3; obtain rfl := Option.some.inj H
  go_enter Try.func7, Try.ntmps7
  go_wp2_with (first | ((with_reducible refine gate_callee (f := 38) rfl ?_); refine goesL_ (some 9) rfl rfl Try.func38 (by kernel_rfl) rfl #[.slice A0 l0.length c0, .int .i64 1048576] rfl (by (try simp only [List.map_toArray, List.map_cons, List.map_nil]); first | done | rfl | (simp only [List.length_drop, List.length_take]; rfl)) ?_; (with_reducible refine (laws_szIntSS.calls k _ _ l0 1048576 t474 _ ?side1 ?side2 A2.out).mono ?_); (case side1 => exact cU (HR0.out)); (case side2 => exact HC0.out); rintro e w' ⟨rfl, ⟨nd, rfl⟩⟩; refine ⟨_, rfl, ?_⟩))
  go_ret
  exact ⟨rE, bU0 HB.out⟩
 ·
  rw [if_neg c3] at H; have c3b0 := decide_eq_false c3; clear c3; replace H := Option.bind_eq_some_iff.mp H; obtain ⟨t475, A40, H⟩ := H; replace H : ((spec_FactorEach.f k t475).bind fun t478 => ((laws_toIntSS.f k l0).bind fun t479 => ((impl_FactorEach.f k t479).bind fun t482 => (if t482 = t478 then ((laws_toIntSS.f k l0).bind fun t483 => ((laws_eqIntSS.f k t479 t483).bind fun t486 => (if t486 = true then (some true) else (some false)))) else (some false))))) = some r := H; have A4 := Az A40; clear A40; replace H := Option.bind_eq_some_iff.mp H; obtain ⟨t478, A50, H⟩ := H; replace H : ((laws_toIntSS.f k l0).bind fun t479 => ((impl_FactorEach.f k t479).bind fun t482 => (if t482 = t478 then ((laws_toIntSS.f k l0).bind fun t483 => ((laws_eqIntSS.f k t479 t483).bind fun t486 => (if t486 = true then (some true) else (some false)))) else (some false)))) = some r := H; have A5 := Az A50; clear A50; replace H := Option.bind_eq_some_iff.mp H; obtain ⟨t479, A60, H⟩ := H; replace H : ((impl_FactorEach.f k t479).bind fun t482 => (if t482 = t478 then ((laws_toIntSS.f k l0).bind fun t483 => ((laws_eqIntSS.f k t479 t483).bind fun t486 => (if t486 = true then (some true) else (some false)))) else (some false))) = some r := H; have A6 := Az A60; clear A60; replace H := Option.bind_eq_some_iff.mp H; obtain ⟨t482, A70, H⟩ := H; replace H : (if t482 = t478 then ((laws_toIntSS.f k l0).bind fun t483 => ((laws_eqIntSS.f k t479 t483).bind fun t486 => (if t486 = true then (some true) else (some false)))) else (some false)) = some r := H; have A7 := Az A70; clear A70
  by_cases c8 : t482 = t478
  ·
   rw [if_pos c8] at H; have c8b0 := beq_iff_eq.mpr c8; have c8b1 := bne_eq_false_iff_eq.mpr c8; clear c8; replace H := Option.bind_eq_some_iff.mp H; obtain ⟨t483, A90, H⟩ := H; replace H : ((laws_eqIntSS.f k t479 t483).bind fun t486 => (if t486 = true then (some true) else (some false))) = some r := H; have A9 := Az A90; clear A90; replace H := Option.bind_eq_some_iff.mp H; obtain ⟨t486, A100, H⟩ := H; replace H : (if t486 = true then (some true) else (some false)) = some r := H; have A10 := Az A100; clear A100
   by_cases c11 : t486 = true
   ·
    subst c11
    have H1 : (some true) = some r := by rw [if_pos rfl] at H; exact H
    clear H; have H := H1; clear H1; obtain rfl := Option.some.inj H
    go_enter Try.func7, Try.ntmps7
    go_wp2_with (first | ((with_reducible refine gate_callee (f := 38) rfl ?_); refine goesL_ (some 9) rfl rfl Try.func38 (by kernel_rfl) rfl #[.slice A0 l0.length c0, .int .i64 1048576] rfl (by (try simp only [List.map_toArray, List.map_cons, List.map_nil]); first | done | rfl | (simp only [List.length_drop, List.length_take]; rfl)) ?_; (with_reducible refine (laws_szIntSS.calls k _ _ l0 1048576 t474 _ ?side1 ?side2 A2.out).mono ?_); (case side1 => exact cU (HR0.out)); (case side2 => exact HC0.out); rintro e w' ⟨rfl, ⟨nd, rfl⟩⟩; refine ⟨_, rfl, ?_⟩) | ((with_reducible refine gate_callee (f := 40) rfl ?_); refine goesL_ (some 13) rfl rfl Try.func40 (by kernel_rfl) rfl #[.slice A0 l0.length c0] rfl (by (try simp only [List.map_toArray, List.map_cons, List.map_nil]); first | done | rfl | (simp only [List.length_drop, List.length_take]; rfl)) ?_; (with_reducible refine (laws_toIntSS.calls k _ _ l0 t475 _ ?side1 ?side2 A4.out).mono ?_); (case side1 => exact cU (HR0.out)); (case side2 => exact HC0.out); rintro e w12 ⟨v476, rfl, ho0, hb⟩; refine ⟨_, rfl, ?_⟩; have n0 := Az (Kd.S_lower ho0 (below_size (bU0 HB.out))); have n1 := Az (below_step (bU0 HB.out) hb); clear HB; have HO477 := n0; have HB := n1; clear n0 n1; (try clear hb); (try clear hb2); (try clear hk); (try clear hi); (try clear ho0); obtain ⟨Ao13, co13, eo13⟩ := Kd.S_slice HO477.out; subst eo13) | ((with_reducible refine gate_callee (f := 39) rfl ?_); refine goesL_ (some 14) rfl rfl Try.func39 (by kernel_rfl) rfl #[.slice Ao13 t475.length co13] rfl (by (try simp only [List.map_toArray, List.map_cons, List.map_nil]); first | done | rfl | (simp only [List.length_drop, List.length_take]; rfl)) ?_; (with_reducible refine (spec_FactorEach.calls k _ _ t475 t478 _ ?side1 ?side2 A5.out).mono ?_); (case side1 => exact cU ((Kd.S_reads' HO477.out).2.2)); (case side2 => exact (Kd.S_reads' HO477.out).2.1); rintro e w14 ⟨rfl, hb⟩; refine ⟨_, rfl, ?_⟩; have n0 := Az (Kd.S_below (sU HO477.out) hb); have n1 := Az (below_step (bU0 HB.out) hb); clear HO477 HB; have HO477 := n0; have HB := n1; clear n0 n1; (try clear hb); (try clear hb2); (try clear hk); (try clear hi)) | ((with_reducible refine gate_callee (f := 40) rfl ?_); refine goesL_ (some 16) rfl rfl Try.func40 (by kernel_rfl) rfl #[.slice A0 l0.length c0] rfl (by (try simp only [List.map_toArray, List.map_cons, List.map_nil]); first | done | rfl | (simp only [List.length_drop, List.length_take]; rfl)) ?_; (with_reducible refine (laws_toIntSS.calls k _ _ l0 t479 _ ?side1 ?side2 A6.out).mono ?_); (case side1 => exact cU (Kd.C_below HR0.out HB.out)); (case side2 => exact HC0.out); rintro e w15 ⟨v480, rfl, ho0, hb⟩; refine ⟨_, rfl, ?_⟩; have n0 := Az (Kd.S_elder' (sU HO477.out) (Kd.S_base ho0) hb); have n1 := Az (Kd.S_lower (Kd.S_new' ho0 (Kd.S_lt (sU HO477.out))) (below_size (bU0 HB.out))); have n2 := Az (below_step (bU0 HB.out) hb); clear HO477 HB; have HO477 := n0; have HO481 := n1; have HB := n2; clear n0 n1 n2; (try clear hb); (try clear hb2); (try clear hk); (try clear hi); (try clear ho0); obtain ⟨Ao16, co16, eo16⟩ := Kd.S_slice HO481.out; subst eo16) | ((with_reducible refine gate_callee (f := 41) rfl ?_); refine goesL_ (some 18) rfl rfl Try.func41 (by kernel_rfl) rfl #[.slice Ao16 t479.length co16] rfl (by (try simp only [List.map_toArray, List.map_cons, List.map_nil]); first | done | rfl | (simp only [List.length_drop, List.length_take]; rfl)) ?_; (with_reducible refine (impl_FactorEach.calls k _ _ t479 t482 _ ?side1 ?side2 A7.out).mono ?_); (case side1 => exact cU ((Kd.S_reads' HO481.out).2.2)); (case side2 => exact (Kd.S_reads' HO481.out).2.1); rintro e w17 ⟨rfl, hb⟩; refine ⟨_, rfl, ?_⟩; have n0 := Az (Kd.S_below (sU HO477.out) hb); have n1 := Az (Kd.S_below (sU HO481.out) hb); have n2 := Az (below_step (bU0 HB.out) hb); clear HO477 HO481 HB; have HO477 := n0; have HO481 := n1; have HB := n2; clear n0 n1 n2; (try clear hb); (try clear hb2); (try clear hk); (try clear hi)) | ((with_reducible refine gate_callee (f := 40) rfl ?_); refine goesL_ (some 24) rfl rfl Try.func40 (by kernel_rfl) rfl #[.slice A0 l0.length c0] rfl (by (try simp only [List.map_toArray, List.map_cons, List.map_nil]); first | done | rfl | (simp only [List.length_drop, List.length_take]; rfl)) ?_; (with_reducible refine (laws_toIntSS.calls k _ _ l0 t483 _ ?side1 ?side2 A9.out).mono ?_); (case side1 => exact cU (Kd.C_below HR0.out HB.out)); (case side2 => exact HC0.out); rintro e w18 ⟨v484, rfl, ho0, hb⟩; refine ⟨_, rfl, ?_⟩; have n0 := Az (Kd.S_elder' (sU HO477.out) (Kd.S_base ho0) hb); have n1 := Az (Kd.S_elder' (sU HO481.out) (Kd.S_base ho0) hb); have n2 := Az (Kd.S_lower (Kd.S_new' (Kd.S_new' ho0 (Kd.S_lt (sU HO477.out))) (Kd.S_lt (sU HO481.out))) (below_size (bU0 HB.out))); have n3 := Az (below_step (bU0 HB.out) hb); clear HO477 HO481 HB; have HO477 := n0; have HO481 := n1; have HO485 := n2; have HB := n3; clear n0 n1 n2 n3; (try clear hb); (try clear hb2); (try clear hk); (try clear hi); (try clear ho0); obtain ⟨Ao19, co19, eo19⟩ := Kd.S_slice HO485.out; subst eo19) | ((with_reducible refine gate_callee (f := 42) rfl ?_); refine goesL_ (some 25) rfl rfl Try.func42 (by kernel_rfl) rfl #[.slice Ao16 t479.length co16, .slice Ao19 t483.length co19] rfl (by (try simp only [List.map_toArray, List.map_cons, List.map_nil]); first | done | rfl | (simp only [List.length_drop, List.length_take]; rfl)) ?_; (with_reducible refine (laws_eqIntSS.calls k _ _ t479 _ _ t483 true _ ?side1 ?side2 ?side3 ?side4 A10.out).mono ?_); (case side1 => exact cU ((Kd.S_reads' HO481.out).2.2)); (case side2 => exact (Kd.S_reads' HO481.out).2.1); (case side3 => exact cU ((Kd.S_reads' HO485.out).2.2)); (case side4 => exact (Kd.S_reads' HO485.out).2.1); rintro e w' ⟨rfl, ⟨nd, rfl⟩⟩; refine ⟨_, rfl, ?_⟩))
    go_ret
    exact ⟨rE, bU0 HB.out⟩
   ·
    replace c11 := Bool.eq_false_iff.mpr c11; subst c11
    have H1 : (some false) = some r := by rw [if_neg (show ¬ (false = true) by decide)] at H; exact H
    clear H; have H := H1; clear H1; obtain rfl := Option.some.inj H
    go_enter Try.func7, Try.ntmps7
    go_wp2_with (first | ((with_reducible refine gate_callee (f := 38) rfl ?_); refine goesL_ (some 9) rfl rfl Try.func38 (by kernel_rfl) rfl #[.slice A0 l0.length c0, .int .i64 1048576] rfl (by (try simp only [List.map_toArray, List.map_cons, List.map_nil]); first | done | rfl | (simp only [List.length_drop, List.length_take]; rfl)) ?_; (with_reducible refine (laws_szIntSS.calls k _ _ l0 1048576 t474 _ ?side1 ?side2 A2.out).mono ?_); (case side1 => exact cU (HR0.out)); (case side2 => exact HC0.out); rintro e w' ⟨rfl, ⟨nd, rfl⟩⟩; refine ⟨_, rfl, ?_⟩) | ((with_reducible refine gate_callee (f := 40) rfl ?_); refine goesL_ (some 13) rfl rfl Try.func40 (by kernel_rfl) rfl #[.slice A0 l0.length c0] rfl (by (try simp only [List.map_toArray, List.map_cons, List.map_nil]); first | done | rfl | (simp only [List.length_drop, List.length_take]; rfl)) ?_; (with_reducible refine (laws_toIntSS.calls k _ _ l0 t475 _ ?side1 ?side2 A4.out).mono ?_); (case side1 => exact cU (HR0.out)); (case side2 => exact HC0.out); rintro e w20 ⟨v476, rfl, ho0, hb⟩; refine ⟨_, rfl, ?_⟩; have n0 := Az (Kd.S_lower ho0 (below_size (bU0 HB.out))); have n1 := Az (below_step (bU0 HB.out) hb); clear HB; have HO477 := n0; have HB := n1; clear n0 n1; (try clear hb); (try clear hb2); (try clear hk); (try clear hi); (try clear ho0); obtain ⟨Ao21, co21, eo21⟩ := Kd.S_slice HO477.out; subst eo21) | ((with_reducible refine gate_callee (f := 39) rfl ?_); refine goesL_ (some 14) rfl rfl Try.func39 (by kernel_rfl) rfl #[.slice Ao21 t475.length co21] rfl (by (try simp only [List.map_toArray, List.map_cons, List.map_nil]); first | done | rfl | (simp only [List.length_drop, List.length_take]; rfl)) ?_; (with_reducible refine (spec_FactorEach.calls k _ _ t475 t478 _ ?side1 ?side2 A5.out).mono ?_); (case side1 => exact cU ((Kd.S_reads' HO477.out).2.2)); (case side2 => exact (Kd.S_reads' HO477.out).2.1); rintro e w22 ⟨rfl, hb⟩; refine ⟨_, rfl, ?_⟩; have n0 := Az (Kd.S_below (sU HO477.out) hb); have n1 := Az (below_step (bU0 HB.out) hb); clear HO477 HB; have HO477 := n0; have HB := n1; clear n0 n1; (try clear hb); (try clear hb2); (try clear hk); (try clear hi)) | ((with_reducible refine gate_callee (f := 40) rfl ?_); refine goesL_ (some 16) rfl rfl Try.func40 (by kernel_rfl) rfl #[.slice A0 l0.length c0] rfl (by (try simp only [List.map_toArray, List.map_cons, List.map_nil]); first | done | rfl | (simp only [List.length_drop, List.length_take]; rfl)) ?_; (with_reducible refine (laws_toIntSS.calls k _ _ l0 t479 _ ?side1 ?side2 A6.out).mono ?_); (case side1 => exact cU (Kd.C_below HR0.out HB.out)); (case side2 => exact HC0.out); rintro e w23 ⟨v480, rfl, ho0, hb⟩; refine ⟨_, rfl, ?_⟩; have n0 := Az (Kd.S_elder' (sU HO477.out) (Kd.S_base ho0) hb); have n1 := Az (Kd.S_lower (Kd.S_new' ho0 (Kd.S_lt (sU HO477.out))) (below_size (bU0 HB.out))); have n2 := Az (below_step (bU0 HB.out) hb); clear HO477 HB; have HO477 := n0; have HO481 := n1; have HB := n2; clear n0 n1 n2; (try clear hb); (try clear hb2); (try clear hk); (try clear hi); (try clear ho0); obtain ⟨Ao24, co24, eo24⟩ := Kd.S_slice HO481.out; subst eo24) | ((with_reducible refine gate_callee (f := 41) rfl ?_); refine goesL_ (some 18) rfl rfl Try.func41 (by kernel_rfl) rfl #[.slice Ao24 t479.length co24] rfl (by (try simp only [List.map_toArray, List.map_cons, List.map_nil]); first | done | rfl | (simp only [List.length_drop, List.length_take]; rfl)) ?_; (with_reducible refine (impl_FactorEach.calls k _ _ t479 t482 _ ?side1 ?side2 A7.out).mono ?_); (case side1 => exact cU ((Kd.S_reads' HO481.out).2.2)); (case side2 => exact (Kd.S_reads' HO481.out).2.1); rintro e w25 ⟨rfl, hb⟩; refine ⟨_, rfl, ?_⟩; have n0 := Az (Kd.S_below (sU HO477.out) hb); have n1 := Az (Kd.S_below (sU HO481.out) hb); have n2 := Az (below_step (bU0 HB.out) hb); clear HO477 HO481 HB; have HO477 := n0; have HO481 := n1; have HB := n2; clear n0 n1 n2; (try clear hb); (try clear hb2); (try clear hk); (try clear hi)) | ((with_reducible refine gate_callee (f := 40) rfl ?_); refine goesL_ (some 24) rfl rfl Try.func40 (by kernel_rfl) rfl #[.slice A0 l0.length c0] rfl (by (try simp only [List.map_toArray, List.map_cons, List.map_nil]); first | done | rfl | (simp only [List.length_drop, List.length_take]; rfl)) ?_; (with_reducible refine (laws_toIntSS.calls k _ _ l0 t483 _ ?side1 ?side2 A9.out).mono ?_); (case side1 => exact cU (Kd.C_below HR0.out HB.out)); (case side2 => exact HC0.out); rintro e w26 ⟨v484, rfl, ho0, hb⟩; refine ⟨_, rfl, ?_⟩; have n0 := Az (Kd.S_elder' (sU HO477.out) (Kd.S_base ho0) hb); have n1 := Az (Kd.S_elder' (sU HO481.out) (Kd.S_base ho0) hb); have n2 := Az (Kd.S_lower (Kd.S_new' (Kd.S_new' ho0 (Kd.S_lt (sU HO477.out))) (Kd.S_lt (sU HO481.out))) (below_size (bU0 HB.out))); have n3 := Az (below_step (bU0 HB.out) hb); clear HO477 HO481 HB; have HO477 := n0; have HO481 := n1; have HO485 := n2; have HB := n3; clear n0 n1 n2 n3; (try clear hb); (try clear hb2); (try clear hk); (try clear hi); (try clear ho0); obtain ⟨Ao27, co27, eo27⟩ := Kd.S_slice HO485.out; subst eo27) | ((with_reducible refine gate_callee (f := 42) rfl ?_); refine goesL_ (some 25) rfl rfl Try.func42 (by kernel_rfl) rfl #[.slice Ao24 t479.length co24, .slice Ao27 t483.length co27] rfl (by (try simp only [List.map_toArray, List.map_cons, List.map_nil]); first | done | rfl | (simp only [List.length_drop, List.length_take]; rfl)) ?_; (with_reducible refine (laws_eqIntSS.calls k _ _ t479 _ _ t483 false _ ?side1 ?side2 ?side3 ?side4 A10.out).mono ?_); (case side1 => exact cU ((Kd.S_reads' HO481.out).2.2)); (case side2 => exact (Kd.S_reads' HO481.out).2.1); (case side3 => exact cU ((Kd.S_reads' HO485.out).2.2)); (case side4 => exact (Kd.S_reads' HO485.out).2.1); rintro e w' ⟨rfl, ⟨nd, rfl⟩⟩; refine ⟨_, rfl, ?_⟩))
    go_ret
    exact ⟨rE, bU0 HB.out⟩
  ·
   rw [if_neg c8] at H; have c8b0 := beq_eq_false_iff_ne.mpr c8; have c8b1 := bne_iff_ne.mpr c8; obtain rfl := Option.some.inj H
   go_enter Try.func7, Try.ntmps7
   go_wp2_with (first | ((with_reducible refine gate_callee (f := 38) rfl ?_); refine goesL_ (some 9) rfl rfl Try.func38 (by kernel_rfl) rfl #[.slice A0 l0.length c0, .int .i64 1048576] rfl (by (try simp only [List.map_toArray, List.map_cons, List.map_nil]); first | done | rfl | (simp only [List.length_drop, List.length_take]; rfl)) ?_; (with_reducible refine (laws_szIntSS.calls k _ _ l0 1048576 t474 _ ?side1 ?side2 A2.out).mono ?_); (case side1 => exact cU (HR0.out)); (case side2 => exact HC0.out); rintro e w' ⟨rfl, ⟨nd, rfl⟩⟩; refine ⟨_, rfl, ?_⟩) | ((with_reducible refine gate_callee (f := 40) rfl ?_); refine goesL_ (some 13) rfl rfl Try.func40 (by kernel_rfl) rfl #[.slice A0 l0.length c0] rfl (by (try simp only [List.map_toArray, List.map_cons, List.map_nil]); first | done | rfl | (simp only [List.length_drop, List.length_take]; rfl)) ?_; (with_reducible refine (laws_toIntSS.calls k _ _ l0 t475 _ ?side1 ?side2 A4.out).mono ?_); (case side1 => exact cU (HR0.out)); (case side2 => exact HC0.out); rintro e w28 ⟨v476, rfl, ho0, hb⟩; refine ⟨_, rfl, ?_⟩; have n0 := Az (Kd.S_lower ho0 (below_size (bU0 HB.out))); have n1 := Az (below_step (bU0 HB.out) hb); clear HB; have HO477 := n0; have HB := n1; clear n0 n1; (try clear hb); (try clear hb2); (try clear hk); (try clear hi); (try clear ho0); obtain ⟨Ao29, co29, eo29⟩ := Kd.S_slice HO477.out; subst eo29) | ((with_reducible refine gate_callee (f := 39) rfl ?_); refine goesL_ (some 14) rfl rfl Try.func39 (by kernel_rfl) rfl #[.slice Ao29 t475.length co29] rfl (by (try simp only [List.map_toArray, List.map_cons, List.map_nil]); first | done | rfl | (simp only [List.length_drop, List.length_take]; rfl)) ?_; (with_reducible refine (spec_FactorEach.calls k _ _ t475 t478 _ ?side1 ?side2 A5.out).mono ?_); (case side1 => exact cU ((Kd.S_reads' HO477.out).2.2)); (case side2 => exact (Kd.S_reads' HO477.out).2.1); rintro e w30 ⟨rfl, hb⟩; refine ⟨_, rfl, ?_⟩; have n0 := Az (Kd.S_below (sU HO477.out) hb); have n1 := Az (below_step (bU0 HB.out) hb); clear HO477 HB; have HO477 := n0; have HB := n1; clear n0 n1; (try clear hb); (try clear hb2); (try clear hk); (try clear hi)) | ((with_reducible refine gate_callee (f := 40) rfl ?_); refine goesL_ (some 16) rfl rfl Try.func40 (by kernel_rfl) rfl #[.slice A0 l0.length c0] rfl (by (try simp only [List.map_toArray, List.map_cons, List.map_nil]); first | done | rfl | (simp only [List.length_drop, List.length_take]; rfl)) ?_; (with_reducible refine (laws_toIntSS.calls k _ _ l0 t479 _ ?side1 ?side2 A6.out).mono ?_); (case side1 => exact cU (Kd.C_below HR0.out HB.out)); (case side2 => exact HC0.out); rintro e w31 ⟨v480, rfl, ho0, hb⟩; refine ⟨_, rfl, ?_⟩; have n0 := Az (Kd.S_elder' (sU HO477.out) (Kd.S_base ho0) hb); have n1 := Az (Kd.S_lower (Kd.S_new' ho0 (Kd.S_lt (sU HO477.out))) (below_size (bU0 HB.out))); have n2 := Az (below_step (bU0 HB.out) hb); clear HO477 HB; have HO477 := n0; have HO481 := n1; have HB := n2; clear n0 n1 n2; (try clear hb); (try clear hb2); (try clear hk); (try clear hi); (try clear ho0); obtain ⟨Ao32, co32, eo32⟩ := Kd.S_slice HO481.out; subst eo32) | ((with_reducible refine gate_callee (f := 41) rfl ?_); refine goesL_ (some 18) rfl rfl Try.func41 (by kernel_rfl) rfl #[.slice Ao32 t479.length co32] rfl (by (try simp only [List.map_toArray, List.map_cons, List.map_nil]); first | done | rfl | (simp only [List.length_drop, List.length_take]; rfl)) ?_; (with_reducible refine (impl_FactorEach.calls k _ _ t479 t482 _ ?side1 ?side2 A7.out).mono ?_); (case side1 => exact cU ((Kd.S_reads' HO481.out).2.2)); (case side2 => exact (Kd.S_reads' HO481.out).2.1); rintro e w33 ⟨rfl, hb⟩; refine ⟨_, rfl, ?_⟩; have n0 := Az (Kd.S_below (sU HO477.out) hb); have n1 := Az (Kd.S_below (sU HO481.out) hb); have n2 := Az (below_step (bU0 HB.out) hb); clear HO477 HO481 HB; have HO477 := n0; have HO481 := n1; have HB := n2; clear n0 n1 n2; (try clear hb); (try clear hb2); (try clear hk); (try clear hi)))
   go_ret
   exact ⟨rE, bU0 HB.out⟩
def laws_FnExactFactorEach.Pure : Prop := ∀ (l0 : List (List Int)), l0.length ≤ maxLen → (∀ y ∈ l0, y.length ≤ maxLen) → ∃ k, laws_FnExactFactorEach.f k l0 = some true
end Go.Proofs.Ytggghijamfmenaa.PL

set_option linter.unusedVariables false
set_option linter.unusedSimpArgs false
namespace Go.Proofs.Ytggghijamfmenaa.PL
open Go.RowKit Go.Proofs.YtggghijamfmenaaW.PrintWords Go.Proofs.YtggghijamfmenaaW.PrintLast Go.Proofs.YtggghijamfmenaaW.PrintMore
theorem Ev.s {α : Type} {g : Nat → Option α} {r : α} (h : Ev (fun k => g (k + 1)) r) : Ev g r := Ev.step (fun _ => rfl) h
theorem Ev.const {α : Type} {o : Option α} {r : α} (h : o = some r) : Ev (fun _ => o) r := ⟨0, fun _ _ => h⟩
theorem w64 {x : Int} (h1 : -9223372036854775808 ≤ x) (h2 : x < 9223372036854775808) : wrap64 x = x := by unfold wrap64; omega
theorem w64n {i : Nat} (h : i < 4611686018427387904) : wrap64 ((i : Int) + 1) = ((i + 1 : Nat) : Int) := by rw [w64 (by omega) (by omega)]; omega
theorem rd_lt (l : List Int) (i : Nat) (h : i < l.length) : rd l (i : Int) = l[i] := by
  unfold rd
  rw [Int.toNat_natCast, List.getD_eq_getElem?_getD, List.getElem?_eq_getElem h]
  rfl
theorem toIntS_run (l : List Int) (hl : l.length ≤ 1048576) : ∀ (d : Nat) (m : List Int) (i : Nat), l.length - i = d → i ≤ l.length → m.length = l.length → m.take i = l.take i → Ev (fun k => laws_toIntS.l0 k l m i) l
  | 0, m, i, hd, hi, hm, ht => by
    refine Ev.s ?_
    simp only [laws_toIntS.l0, show ¬ (i : Int) < (l.length : Int) by omega, if_false]
    have hi' : i = l.length := by omega
    subst hi'
    rw [List.take_length] at ht
    rw [← hm, List.take_length] at ht
    exact Ev.const (by rw [ht])
  | d + 1, m, i, hd, hi, hm, ht => by
    have hlt : i < l.length := by omega
    refine Ev.s ?_
    simp only [laws_toIntS.l0, show (i : Int) < (l.length : Int) by omega, show (0 : Int) ≤ i by omega, show (i : Int) < (m.length : Int) by omega, if_true]
    rw [w64 (x := (i : Int) + 1) (by omega) (by omega), show ((i : Int) + 1) = ((i + 1 : Nat) : Int) by omega]
    refine toIntS_run l hl d _ (i + 1) (by omega) (by omega) (by simpa using hm) ?_
    rw [Int.toNat_natCast, rd_lt l i hlt]
    have h2 : i < m.length := by omega
    rw [List.take_succ_eq_append_getElem (by simpa using h2), List.take_succ_eq_append_getElem hlt, List.take_set_of_le (Nat.le_refl _), ht]
    simp
theorem toIntS_ev (l : List Int) (hl : l.length ≤ 1048576) : Ev (fun k => laws_toIntS.f k l) l := by
  unfold laws_toIntS.f
  simp only [show (0 : Int) ≤ (l.length : Int) by omega, show ((l.length : Int)).toNat ≤ 35184372088832 by omega, if_true]
  exact toIntS_run l hl l.length _ 0 (by omega) (by omega) (by simp) (by simp)
theorem eqIntS_run (l : List Int) (hl : l.length ≤ 1048576) : ∀ (d : Nat) (i : Nat), l.length - i = d → i ≤ l.length → Ev (fun k => laws_eqIntS.l0 k l l i) true
  | 0, i, hd, hi => by
    refine Ev.s ?_
    simp only [laws_eqIntS.l0, show ¬ (i : Int) < (l.length : Int) by omega, if_false]
    exact Ev.const rfl
  | d + 1, i, hd, hi => by
    refine Ev.s ?_
    simp only [laws_eqIntS.l0, show (i : Int) < (l.length : Int) by omega, show (0 : Int) ≤ i by omega, if_true]
    rw [w64 (x := (i : Int) + 1) (by omega) (by omega), show ((i : Int) + 1) = ((i + 1 : Nat) : Int) by omega]
    exact eqIntS_run l hl d (i + 1) (by omega) (by omega)
theorem eqIntS_same (l : List Int) (hl : l.length ≤ 1048576) : Ev (fun k => laws_eqIntS.f k l l) true := by
  unfold laws_eqIntS.f
  simp only [if_true]
  exact eqIntS_run l hl l.length 0 (by omega) (by omega)
def stl (n : Nat) : List Int := (List.range n).map fun (i : Nat) => (i : Int)
theorem stl_length (n : Nat) : (stl n).length = n := by simp [stl]
theorem stl_rd (n i : Nat) (h : i < n) : rd (stl n) i = i := by
  rw [rd_lt _ _ (by rw [stl_length]; exact h)]
  simp [stl]
theorem stl_succ (n : Nat) : stl (n + 1) = stl n ++ [(n : Int)] := by simp [stl, List.range_succ]
theorem rd_set_self (l : List Int) (i : Nat) (v : Int) (h : i < l.length) : rd (l.set i v) i = v := by
  rw [rd_lt _ _ (by simpa using h)]; simp
theorem rd_set_ne (l : List Int) (i j : Nat) (v : Int) (h : i ≠ j) : rd (l.set i v) j = rd l j := by
  unfold rd
  rw [Int.toNat_natCast, List.getD_eq_getElem?_getD, List.getD_eq_getElem?_getD, List.getElem?_set_ne h]
theorem rd_app_lt (l m : List Int) (i : Nat) (h : i < l.length) : rd (l ++ m) i = rd l i := by
  unfold rd
  rw [Int.toNat_natCast, List.getD_eq_getElem?_getD, List.getD_eq_getElem?_getD, List.getElem?_append_left h]
theorem list_ext (a b : List Int) (h : a.length = b.length) (hr : ∀ i : Nat, i < a.length → rd a i = rd b i) : a = b := by
  refine List.ext_getElem h fun i h1 h2 => ?_
  have := hr i h1
  rwa [rd_lt a i h1, rd_lt b i h2] at this
theorem same_run (n : Nat) (hn : n ≤ 1048576) : ∀ (d i : Nat), n - i = d → i ≤ n → Ev (fun k => spec_l1Same.l0 k n (stl i) i) (stl n)
  | 0, i, hd, hi => by
    refine Ev.s ?_
    simp only [spec_l1Same.l0, show ¬ (i : Int) < (n : Int) by omega, if_false]
    have : i = n := by omega
    subst this
    exact Ev.const rfl
  | d + 1, i, hd, hi => by
    refine Ev.s ?_
    simp only [spec_l1Same.l0, show (i : Int) < (n : Int) by omega, if_true, stl_length, show i < 17592186044416 by omega]
    rw [w64 (x := (i : Int) + 1) (by omega) (by omega), show ((i : Int) + 1) = ((i + 1 : Nat) : Int) by omega, ← stl_succ]
    exact same_run n hn d (i + 1) (by omega) (by omega)
theorem same_ev (n : Nat) (hn : n ≤ 1048576) : Ev (fun k => spec_l1Same.f k n) (stl n) := by
  unfold spec_l1Same.f
  exact same_run n hn n 0 (by omega) (by omega)
theorem still_run (n : Nat) (hn : n ≤ 1048576) : ∀ (d i : Nat) (l : List Int), n - i = d → i ≤ n → l.length = n → l.take i = (stl n).take i → Ev (fun k => impl_still.l0 k l n i) (stl n)
  | 0, i, l, hd, hi, hl, ht => by
    refine Ev.s ?_
    simp only [impl_still.l0, show ¬ (i : Int) < (n : Int) by omega, if_false]
    have : i = n := by omega
    subst this
    have e : (stl i).take i = stl i := by rw [List.take_of_length_le]; rw [stl_length]; exact Nat.le_refl _
    rw [e, List.take_of_length_le (by omega)] at ht
    exact Ev.const (by rw [ht])
  | d + 1, i, l, hd, hi, hl, ht => by
    have hlt : i < l.length := by omega
    refine Ev.s ?_
    simp only [impl_still.l0, show (i : Int) < (n : Int) by omega, show (0 : Int) ≤ i by omega, show (i : Int) < (l.length : Int) by omega, if_true]
    rw [w64 (x := (i : Int) + 1) (by omega) (by omega), show ((i : Int) + 1) = ((i + 1 : Nat) : Int) by omega, Int.toNat_natCast]
    refine still_run n hn d (i + 1) _ (by omega) (by omega) (by simpa using hl) ?_
    have h2 : i < (stl n).length := by rw [stl_length]; omega
    rw [List.take_succ_eq_append_getElem (by simpa using hlt), List.take_succ_eq_append_getElem h2, List.take_set_of_le (Nat.le_refl _), ht]
    simp [stl]
theorem still_ev (n : Nat) (hn : n ≤ 1048576) : Ev (fun k => impl_still.f k n) (stl n) := by
  unfold impl_still.f
  have h1 : n ≤ 35184372088832 := by omega
  have h2 : (0 : Int) ≤ (n : Int) := by omega
  simp only [Int.toNat_natCast, h1, h2, if_true, Option.bind_some, List.length_replicate]
  exact still_run n hn n 0 _ (by omega) (by omega) (by simp) (by simp)
def inR (n : Nat) (p : List Int) : Prop := p.length = n ∧ ∀ i : Nat, i < n → 0 ≤ rd p i ∧ rd p i < n
def closedL (ps : List (List Int)) (n : Nat) (S : Nat → Prop) : Prop := ∀ p ∈ ps, ∀ k, k < n → (S k ↔ S (rd p k).toNat)
def Reach (ps : List (List Int)) (n : Nat) (i j : Nat) : Prop := ∀ S, closedL ps n S → (S i ↔ S j)
theorem Reach.refl (ps : List (List Int)) (n i : Nat) : Reach ps n i i := fun S _ => Iff.rfl
theorem Reach.symm {ps : List (List Int)} {n i j : Nat} (h : Reach ps n i j) : Reach ps n j i := fun S c => (h S c).symm
theorem Reach.trans {ps : List (List Int)} {n i j k : Nat} (h : Reach ps n i j) (h' : Reach ps n j k) : Reach ps n i k := fun S c => (h S c).trans (h' S c)
theorem Reach.step {ps : List (List Int)} {n : Nat} {p : List Int} (hp : p ∈ ps) {k : Nat} (hk : k < n) : Reach ps n k (rd p k).toNat := fun S c => c p hp k hk
def orbI (ps : List (List Int)) (n : Nat) (o : List Int) : Prop := o.length = n ∧ ∀ i : Nat, i < n → 0 ≤ rd o i ∧ rd o i ≤ i ∧ Reach ps n (rd o i).toNat i
theorem stl_orbI (ps : List (List Int)) (n : Nat) : orbI ps n (stl n) := by
  refine ⟨stl_length n, fun i hi => ?_⟩
  rw [stl_rd n i hi]
  exact ⟨by omega, by omega, by rw [Int.toNat_natCast]; exact Reach.refl _ _ _⟩
theorem mn_le (a b : Int) : mn a b ≤ a ∧ mn a b ≤ b ∧ (mn a b = a ∨ mn a b = b) := by unfold mn; split <;> omega
theorem orbI_put {ps : List (List Int)} {n : Nat} {o : List Int} (h : orbI ps n o) {i : Nat} (hi : i < n) {v : Int} (h0 : 0 ≤ v) (h1 : v ≤ i) (hr : Reach ps n v.toNat i) : orbI ps n (o.set i v) := by
  refine ⟨by simpa using h.1, fun j hj => ?_⟩
  by_cases e : i = j
  · subst e
    rw [rd_set_self _ _ _ (by rw [h.1]; exact hi)]
    exact ⟨h0, h1, hr⟩
  · rw [rd_set_ne _ _ _ _ e]
    exact h.2 j hj
theorem rdL_nth (ps : List (List Int)) (q : Nat) (h : q < ps.length) : rd_L1 ps (q : Int) = ps[q] := by
  have e : (q : Int).toNat = q := Int.toNat_natCast q
  unfold rd_L1
  rw [e, List.getD_eq_getElem?_getD, List.getElem?_eq_getElem h]
  rfl
theorem szSS_run (l : List (List Int)) (h1 : l.length ≤ 1048576) (h2 : ∀ y ∈ l, y.length ≤ maxLen) : ∀ (d i : Nat) (a : Int), l.length - i = d → i ≤ l.length → 0 ≤ a → a ≤ 1048576 → (∀ j : Nat, j < i → (rd_L1 l (j : Int)).length ≤ 1048576) → ∃ r, Ev (fun k => laws_szIntSS.l0 k l a i) r ∧ (r < 0 ∨ ∀ j : Nat, j < l.length → (rd_L1 l (j : Int)).length ≤ 1048576)
  | 0, i, a, hd, hi, h0, ha, hj => by
    refine ⟨a, Ev.s ?_, Or.inr fun j hj2 => hj j (by omega)⟩
    simp only [laws_szIntSS.l0, show ¬ (i : Int) < (l.length : Int) by omega, if_false]
    exact Ev.const rfl
  | d + 1, i, a, hd, hi, h0, ha, hj => by
    have hlt : i < l.length := by omega
    have hm : (rd_L1 l (i : Int)).length ≤ 9223372036854775807 := by rw [rdL_nth l i hlt]; exact h2 _ (List.getElem_mem hlt)
    have hw : wrap64 (a - ((rd_L1 l (i : Int)).length : Int)) = a - ((rd_L1 l (i : Int)).length : Int) := w64 (by omega) (by omega)
    by_cases hn : a - ((rd_L1 l (i : Int)).length : Int) < 0
    · refine ⟨-1, Ev.s ?_, Or.inl (by omega)⟩
      simp only [laws_szIntSS.l0, laws_szIntS.f, hw, show (i : Int) < (l.length : Int) by omega, show (0 : Int) ≤ i by omega, hn, if_true, Option.bind_some, show (-1 : Int) < 0 by omega]
      exact Ev.const rfl
    · obtain ⟨r, e, h⟩ := szSS_run l h1 h2 d (i + 1) (a - ((rd_L1 l (i : Int)).length : Int)) (by omega) (by omega) (by omega) (by omega) (fun j hj2 => by
        by_cases e : j = i
        · subst e; omega
        · exact hj j (by omega))
      refine ⟨r, Ev.s ?_, h⟩
      simp only [laws_szIntSS.l0, laws_szIntS.f, hw, show (i : Int) < (l.length : Int) by omega, show (0 : Int) ≤ i by omega, hn, if_true, if_false, Option.bind_some]
      rw [w64n (by omega)]
      exact e
theorem szSS_ev (l : List (List Int)) (h1 : l.length ≤ maxLen) (h2 : ∀ y ∈ l, y.length ≤ maxLen) : ∃ r, Ev (fun k => laws_szIntSS.f k l 1048576) r ∧ (r < 0 ∨ (l.length ≤ 1048576 ∧ ∀ j : Nat, j < l.length → (rd_L1 l (j : Int)).length ≤ 1048576)) := by
  have hm : l.length ≤ 9223372036854775807 := h1
  have hw : wrap64 (1048576 - (l.length : Int)) = 1048576 - (l.length : Int) := w64 (by omega) (by omega)
  unfold laws_szIntSS.f
  simp only [hw]
  by_cases hn : (1048576 : Int) - (l.length : Int) < 0
  · exact ⟨-1, by simp only [hn, if_true]; exact Ev.const rfl, Or.inl (by omega)⟩
  · obtain ⟨r, e, h⟩ := szSS_run l (by omega) h2 l.length 0 (1048576 - (l.length : Int)) (by omega) (by omega) (by omega) (by omega) (fun j hj => by omega)
    exact ⟨r, by simp only [hn, if_false]; exact e, h.imp id (fun h => ⟨by omega, h⟩)⟩
theorem toIntSS_run (l : List (List Int)) (hl : l.length ≤ 1048576) (h2 : ∀ j : Nat, j < l.length → (rd_L1 l (j : Int)).length ≤ 1048576) : ∀ (d : Nat) (m : List (List Int)) (i : Nat), l.length - i = d → i ≤ l.length → m.length = l.length → m.take i = l.take i → Ev (fun k => laws_toIntSS.l0 k l m i) l
  | 0, m, i, hd, hi, hm, ht => by
    refine Ev.s ?_
    simp only [laws_toIntSS.l0, show ¬ (i : Int) < (l.length : Int) by omega, if_false]
    have hi' : i = l.length := by omega
    subst hi'
    rw [List.take_length] at ht
    rw [← hm, List.take_length] at ht
    exact Ev.const (by rw [ht])
  | d + 1, m, i, hd, hi, hm, ht => by
    have hlt : i < l.length := by omega
    refine Ev.s ?_
    simp only [laws_toIntSS.l0, show (i : Int) < (l.length : Int) by omega, show (0 : Int) ≤ i by omega, show (i : Int) < (m.length : Int) by omega, if_true]
    refine Ev.bind (toIntS_ev _ (h2 i hlt)) ?_
    rw [w64n (by omega)]
    refine toIntSS_run l hl h2 d _ (i + 1) (by omega) (by omega) (by simpa using hm) ?_
    rw [Int.toNat_natCast, rdL_nth l i hlt]
    have h2 : i < m.length := by omega
    rw [List.take_succ_eq_append_getElem (by simpa using h2), List.take_succ_eq_append_getElem hlt, List.take_set_of_le (Nat.le_refl _), ht]
    simp
theorem toIntSS_ev (l : List (List Int)) (hl : l.length ≤ 1048576) (h2 : ∀ j : Nat, j < l.length → (rd_L1 l (j : Int)).length ≤ 1048576) : Ev (fun k => laws_toIntSS.f k l) l := by
  unfold laws_toIntSS.f
  simp only [show (0 : Int) ≤ (l.length : Int) by omega, show ((l.length : Int)).toNat ≤ 11728124029610 by omega, if_true]
  exact toIntSS_run l hl h2 l.length _ 0 (by omega) (by omega) (by simp) (by simp)
theorem eqIntSS_run (l : List (List Int)) (hl : l.length ≤ 1048576) (h2 : ∀ j : Nat, j < l.length → (rd_L1 l (j : Int)).length ≤ 1048576) : ∀ (d : Nat) (i : Nat), l.length - i = d → i ≤ l.length → Ev (fun k => laws_eqIntSS.l0 k l l i) true
  | 0, i, hd, hi => by
    refine Ev.s ?_
    simp only [laws_eqIntSS.l0, show ¬ (i : Int) < (l.length : Int) by omega, if_false]
    exact Ev.const rfl
  | d + 1, i, hd, hi => by
    refine Ev.s ?_
    simp only [laws_eqIntSS.l0, show (i : Int) < (l.length : Int) by omega, show (0 : Int) ≤ i by omega, if_true]
    refine Ev.bind (eqIntS_same _ (h2 i (by omega))) ?_
    simp only [if_true]
    rw [w64n (by omega)]
    exact eqIntSS_run l hl h2 d (i + 1) (by omega) (by omega)
theorem eqIntSS_same (l : List (List Int)) (hl : l.length ≤ 1048576) (h2 : ∀ j : Nat, j < l.length → (rd_L1 l (j : Int)).length ≤ 1048576) : Ev (fun k => laws_eqIntSS.f k l l) true := by
  unfold laws_eqIntSS.f
  simp only [if_true]
  exact eqIntSS_run l hl h2 l.length 0 (by omega) (by omega)
end Go.Proofs.Ytggghijamfmenaa.PL
