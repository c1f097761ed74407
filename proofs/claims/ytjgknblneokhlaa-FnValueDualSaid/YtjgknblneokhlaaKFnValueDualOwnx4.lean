/- For every code: of the map and the three numbers that the statement draws, RibbonValue of the program answers what the reference answers; on the sphere the dual map's value is the value with x and y exchanged; with 1, 1, 1 the value is the number of choices; with 0, 0 that of the spanning trees. There are no conditions. -/
import Derived.Test.YtjgknblneokhlaaKFnValueDualOwnx3
namespace Go.Proofs.Ytjgknblneokhlaa.PK
open Go.RowKit Go.Proofs.YtjgknblneokhlaaW.PrintWords Go.Proofs.YtjgknblneokhlaaW.PrintLast Go.Proofs.YtjgknblneokhlaaW.PrintMore
theorem z4_0 {p : Prop} (h : p := by first | exact q678 | exact oA | (have e_ := (Kd.S_reads' HO_8.out).1; omega)) : p := h
theorem z4_1 {p : Prop} (h : p := by repeat (first | (with_reducible exact HR679_0.out) | (with_reducible refine Kd.C_alloc ?_ _) | (with_reducible refine Kd.C_drewN ?_ _) | (with_reducible refine Kd.C_drew ?_) | exact HR679_0.out)) : p := h
theorem z4_2 {p : Prop} (h : p := by repeat (first | (with_reducible exact HR709_0.out) | (with_reducible refine Kd.C_alloc ?_ _) | (with_reducible refine Kd.C_drewN ?_ _) | (with_reducible refine Kd.C_drew ?_) | exact HR709_0.out)) : p := h
theorem z4_3 {p : Prop} (h : p := by repeat (first | (with_reducible exact HR727_0.out) | (with_reducible refine Kd.C_alloc ?_ _) | (with_reducible refine Kd.C_drewN ?_ _) | (with_reducible refine Kd.C_drew ?_) | exact HR727_0.out)) : p := h
theorem z4_4 {p : Prop} (h : p := by exact (below_step (bU1 HB.out GW719.out) hb)) : p := h
theorem z4_5 {p : Prop} (h : p := by exact (below_step (bU1 HB.out GE788.out) hb)) : p := h
attribute [local go_sem] max2_int min2_int max_two min_two max_three min_three max_four min_four   -- for this text's walks alone
set_option linter.unusedVariables false
set_option linter.unusedSimpArgs false
mutual
def spec_l7Parts.l0 : Nat → List Int → List Int → List Int → Int → List Int → List Int → Option (Int)
 | 0, _, _, _, _, _, _ => none
 | k + 1, x1, x5, x6, x7, xZ0, xZ1 => if x7 < (x5.length : Int) then (if 0 ≤ x7 then (if x7 < (x6.length : Int) then ((spec_l7Has.f k x1 (rd x6 x7)).bind fun t505 => (if t505 = true then (if x7 < (xZ1.length : Int) then (spec_l7Parts.l0 k x1 (x5.set (x7 : Int).toNat (rd xZ1 x7)) x6 (wrap64 (x7 + 1)) xZ0 xZ1) else (none)) else (spec_l7Parts.l0 k x1 x5 x6 (wrap64 (x7 + 1)) xZ0 xZ1))) else (none)) else (none)) else ((spec_l1Orbits.f k xZ0 x5).bind fun t508 => (spec_l7Parts.l1 k t508 0 0))
def spec_l7Parts.l1 : Nat → List Int → Int → Int → Option (Int)
 | 0, _, _, _ => none
 | k + 1, x8, x9, x10 => if x10 < (x8.length : Int) then (if 0 ≤ x10 then (if (rd x8 x10) = x10 then (spec_l7Parts.l1 k x8 (wrap64 (x9 + 1)) (wrap64 (x10 + 1))) else (spec_l7Parts.l1 k x8 x9 (wrap64 (x10 + 1)))) else (none)) else (some x9)
end
def spec_l7Parts.f (k : Nat) (l0_0 : List Int) (l0_1 : List Int) (l1 : List Int) : Option (Int) := (spec_l1Same.f k (l0_1.length : Int)).bind fun t498 => ((spec_l7Edges.f k l0_0 l0_1).bind fun t501 => (spec_l7Parts.l0 k l1 t498 t501 0 l0_0 l0_1))
set_option maxHeartbeats 8000000 in
set_option maxRecDepth 100000 in
theorem spec_l7Parts.calls (k : Nat) (A0_0 : Option Addr) (c0_0 : Nat) (l0_0 : List Int) (A0_1 : Option Addr) (c0_1 : Nat) (l0_1 : List Int) (A1 : Option Addr) (c1 : Nat) (l1 : List Int) (r : Int) (w : World) (hr0_0 : Kd.C (Kd.int .i64) w A0_0 l0_0.length l0_0) (hc0_0 : l0_0.length ≤ c0_0) (hr0_1 : Kd.C (Kd.int .i64) w A0_1 l0_1.length l0_1) (hc0_1 : l0_1.length ≤ c0_1) (hr1 : Kd.C (Kd.int .i64) w A1 l1.length l1) (hc1 : l1.length ≤ c1) (h : spec_l7Parts.f k l0_0 l0_1 l1 = some r) :
  Calls Try.prog 89 #[.agg #[.slice A0_0 l0_0.length c0_0, .slice A0_1 l0_1.length c0_1], .slice A1 l1.length c1] w fun e w' => e = .returned (.int .i64 r) ∧ Below w.heap.size w w' := by
 have hu25 := Try.underlying25; have HR0_0 := Az hr0_0; have HC0_0 := Az hc0_0; clear hr0_0 hc0_0; have HR0_1 := Az hr0_1; have HC0_1 := Az hc0_1; clear hr0_1 hc0_1; have HR1 := Az hr1; have HC1 := Az hc1; clear hr1 hc1; have HB := bZ w; have H := h; clear h; unfold spec_l7Parts.f at H; replace H := bd H; obtain ⟨t498, A3, H⟩ := H; replace H := bd H; obtain ⟨t501, A4, H⟩ := H; have H' := Az H; clear H; go_enter Try.func89, Try.ntmps89
 go_wp2_with (first | ((with_reducible refine gd 2 rfl ?_); refine bE 2 #[.slice A0_0 l0_0.length c0_0, .slice A0_1 l0_1.length c0_1] 25 ?_; intro gb497 hg w5 hbox hb; have BK497 := Az (hbox); have GW497 := gW hg (bU0 HB.out); replace HB := Az (below_step (bU0 HB.out) hb); clear hb hbox hg; have hz6 := bc2 BK497.out) | ((with_reducible refine gK 108 rfl ?_); refine gC (some 14) Try.func108 #[.int .i64 (l0_1.length : Int)] ?_; (with_reducible refine (spec_l1Same.calls k (l0_1.length : Int) t498 _ A3.out).mono ?_); rintro e w7 ⟨v499, rfl, ho0, hb⟩; refine ⟨_, rfl, ?_⟩; have HO500 := Az (Kd.R_lower ho0 (below_size (bU1 HB.out GW497.out))); replace BK497 := kB BK497.out hb; replace HB := Az (below_step (bU1 HB.out GW497.out) hb); clear hb ho0; have hz8 := bc2 BK497.out) | ((with_reducible refine gK 107 rfl ?_); refine gC (some 16) Try.func107 #[.agg #[.slice A0_0 l0_0.length c0_0, .slice A0_1 l0_1.length c0_1]] ?_; (with_reducible refine (spec_l7Edges.calls k _ _ l0_0 _ _ l0_1 t501 _ ?_ ?_ ?_ ?_ A4.out).mono ?_); exact cU (Kd.C_below HR0_0.out HB.out); exact HC0_0.out; exact cU (Kd.C_below HR0_1.out HB.out); exact HC0_1.out; rintro e w9 ⟨v502, rfl, ho0, hb⟩; refine ⟨_, rfl, ?_⟩; have HO503 := Az (Kd.R_lower (Kd.R_new' ho0 (Kd.R_lt (rU HO500.out))) (below_size (bU1 HB.out GW497.out))); replace HO500 := Az (Kd.R_elder' (rU HO500.out) (Kd.R_base ho0) hb); replace BK497 := kB BK497.out hb; replace HB := Az (below_step (bU1 HB.out GW497.out) hb); clear hb ho0))
 go_loopg [7] k (fun kq v7 w' => ∃ (x5_1 : List Int) (x7_1 : Int), v7 = .int .i64 x7_1 ∧ Aside0 (spec_l7Parts.l0 kq l1 x5_1 t501 x7_1 l0_0 l0_1 = some r) ∧ Aside0 (kq ≤ k) ∧ Aside0 (Kd.R (Kd.int .i64) 3 w' w.heap.size (fun k_ => oV k_ v502) v499 x5_1) ∧ Aside0 (Kd.R (Kd.int .i64) 3 w' w.heap.size (fun k_ => oV k_ v499) v502 t501) ∧ Aside0 (w'.heap[gb497]? = some (.cells #[(.slice A0_0 l0_0.length c0_0), (.slice A0_1 l0_1.length c0_1)] 25 (0, 0))) ∧ Aside0 (Below w.heap.size w w'))
 case atStart => exact ⟨(t498), (0), rS, H', ⟨Nat.le_refl _⟩, ⟨rM HO500.out⟩, ⟨rM HO503.out⟩, ⟨kU BK497.out⟩, ⟨bU1 HB.out GW497.out⟩⟩
 case round =>
  clear H'; obtain ⟨x5_1, x7_1, rfl, HA, HK1, HO_5, HO_6, BK497, HB⟩ := hrel
  rcases gk with _ | k1
  exact (nN HA.out).elim; have H := HA.out; clear HA; simp only [spec_l7Parts.l0] at H
  by_cases c10 : x7_1 < (x5_1.length : Int)
  ·
   rw [if_pos c10] at H; have c10b0 := decide_eq_true c10; clear c10; replace H := gD2 H; obtain ⟨c11b0, c12b0, H⟩ := H; replace H := bd H; obtain ⟨t505, A13, H⟩ := H
   by_cases c14 : t505 = true
   ·
    subst c14; rw [if_pos rfl] at H; replace H := gD1 H; obtain ⟨c15b0, H⟩ := H; generalize Ny507 : (x5_1.set (x7_1 : Int).toNat (rd l0_1 x7_1) : List Int) = y507 at H; replace Ny507 := Ay Ny507; have H' := Az H; clear H; obtain ⟨Ao17, co17, eo17⟩ := Kd.R_slice HO_5.out; subst eo17; obtain ⟨Ao18, co18, eo18⟩ := Kd.R_slice HO_6.out; subst eo18; obtain ⟨ad504, e504, _, _, hx504_0⟩ := aI (Kd.R_reads' HO_6.out).2.2 x7_1
    cases e504
    go_wp2_with (first | ((with_reducible refine gK 67 rfl ?_); refine gC (some 28) Try.func67 #[.slice A1 l1.length c1, .int .i64 (rd t501 x7_1)] ?_; (with_reducible refine (spec_l7Has.calls k1 _ _ l1 (rd t501 x7_1) true _ ?_ ?_ A13.out).mono ?_); exact cU (Kd.C_below HR1.out HB.out); exact HC1.out; rintro e w' ⟨rfl, ⟨nd, rfl⟩⟩; refine ⟨_, rfl, ?_⟩; (rw [drewN_self wr]; generalize hq_ : World.drewN wr _ = wr; have n0 : Aside0 (Kd.R (Kd.int .i64) 3 wr w.heap.size (fun k_ => some k_ ≠ (.slice (some ad504) t501.length co18 : Value).ownBlock) (.slice Ao17 x5_1.length co17) x5_1) := ⟨by rw [← hq_]; exact (rU HO_5.out)⟩; have n1 : Aside0 (Kd.R (Kd.int .i64) 3 wr w.heap.size (fun k_ => oS k_ Ao17 x5_1.length co17) (.slice (some ad504) t501.length co18) t501) := ⟨by rw [← hq_]; exact (rU HO_6.out)⟩; have n2 : Aside0 (wr.heap[gb497]? = some (.cells #[.slice A0_0 l0_0.length c0_0, .slice A0_1 l0_1.length c0_1] 25 (0, 0))) := ⟨by rw [← hq_]; exact (kU BK497.out)⟩; have n3 : Aside0 (Below w.heap.size w wr) := ⟨by rw [← hq_]; exact (bU1 HB.out GW497.out)⟩; clear HO_5 HO_6 BK497 HB hq_; have HO_5 := n0; have HO_6 := n1; have BK497 := n2; have HB := n3; clear n0 n1 n2 n3); have hz19 := bc2 BK497.out; obtain ⟨ad506, e506, _, _, hx506_0⟩ := aI HR0_1.out x7_1; cases e506; replace hx506_0 := hT HB.out hx506_0; have p16 : 0 ≤ (x7_1 : Int) := oA; have q16 : (x7_1 : Int) < ((x5_1.length : Int) : Int) := oA; obtain ⟨go16, co16, eo16, gb16, gl16, cl16, HG16⟩ := Kd.R_form HO_5.out (by omega); (first | cases eo16 | (injection eo16 with ea_ en_ ec_; (first | subst ea_ | (injection ea_ with ea_; subst ea_)); subst ec_; clear en_)); have GB16 := Az gb16; have GG16 := Az HG16; clear gb16 gl16 HG16; obtain ⟨hx16_0, hf16_0⟩ := Kd.R_celln 0 HO_5.out (x7_1 : Int) p16 q16; replace p16 := eq_true p16; replace q16 := eq_true q16; obtain ⟨hy20_, hz20_⟩ := Kd.R_celln 0 HO_5.out (x7_1 : Int) (oA) (oA); have HP20 := Kd.R_putg HO_5.out (x7_1 : Int) (rd l0_1 x7_1)) | ((with_reducible refine gs 3 36 rfl ?_); refine sE 3 36 (wr.setCell ⟨go16, (x7_1 : Int).toNat, none⟩ (.int .i64 (rd l0_1 x7_1))) ?_; intro w21 hw; have hg : wr.grownBy w21 (some go16) := (by rw [hw]; exact HP20.2); have hp_ : Kd.R (Kd.int .i64) 3 w21 w.heap.size (fun k_ => some k_ ≠ (.slice (some ad504) t501.length co18 : Value).ownBlock) (.slice (some ⟨go16, 0, none⟩) x5_1.length co17) y507 := (by rw [hw, Ny507.out]; exact HP20.1); clear HP20; replace HO_6 := Az (Kd.R_after (v := (.slice (some ⟨go16, 0, none⟩) x5_1.length co17)) (v1 := (.slice (some ⟨go16, 0, none⟩) x5_1.length co17)) (ok := (fun _ => True)) (rM HO_6.out) hg (.inl rfl)); replace BK497 := Az (kG BK497.out hg (Kd.R_ne HO_5.out BK497.out (by decide))); replace HO_5 := Az (hp_); replace HB := Az ((by rw [hw]; exact below_set (HB.out) GB16.out : Below w.heap.size w w21)); clear hg hw hp_))
    go_roundg k1
    case measure => exact mO
    case rel => exact ⟨(y507), (wrap64 (x7_1 + 1)), rS, H', ⟨mO⟩, ⟨rU HO_5.out⟩, ⟨rM HO_6.out⟩, ⟨kU BK497.out⟩, ⟨bU1 HB.out GW497.out⟩⟩
   ·
    replace c14 := Bool.eq_false_iff.mpr c14; subst c14; rw [if_neg nT] at H; have H' := Az H; clear H; obtain ⟨Ao22, co22, eo22⟩ := Kd.R_slice HO_5.out; subst eo22; obtain ⟨Ao23, co23, eo23⟩ := Kd.R_slice HO_6.out; subst eo23; obtain ⟨ad504, e504, _, _, hx504_0⟩ := aI (Kd.R_reads' HO_6.out).2.2 x7_1
    cases e504
    go_wp2_with (first | ((with_reducible refine gK 67 rfl ?_); refine gC (some 28) Try.func67 #[.slice A1 l1.length c1, .int .i64 (rd t501 x7_1)] ?_; (with_reducible refine (spec_l7Has.calls k1 _ _ l1 (rd t501 x7_1) false _ ?_ ?_ A13.out).mono ?_); exact cU (Kd.C_below HR1.out HB.out); exact HC1.out; rintro e w' ⟨rfl, ⟨nd, rfl⟩⟩; refine ⟨_, rfl, ?_⟩))
    go_roundg k1
    case measure => exact mO
    case rel => exact ⟨(x5_1), (wrap64 (x7_1 + 1)), rS, H', ⟨mO⟩, ⟨rU HO_5.out⟩, ⟨rU HO_6.out⟩, ⟨kU BK497.out⟩, ⟨bU1 HB.out GW497.out⟩⟩
  ·
   rw [if_neg c10] at H; have c10b0 := decide_eq_false c10; clear c10; replace H := bd H; obtain ⟨t508, A24, H⟩ := H; have H' := Az H; clear H; obtain ⟨Ao25, co25, eo25⟩ := Kd.R_slice HO_5.out; subst eo25; have hz26 := bc2 BK497.out
   go_wp2_with (first | ((with_reducible refine gK 99 rfl ?_); refine gC (some 40) Try.func99 #[.slice A0_0 l0_0.length c0_0, .slice Ao25 x5_1.length co25] ?_; (with_reducible refine (spec_l1Orbits.calls k1 _ _ l0_0 _ _ x5_1 t508 _ ?_ ?_ ?_ ?_ A24.out).mono ?_); exact cU (Kd.C_below HR0_0.out HB.out); exact HC0_0.out; exact cU ((Kd.R_reads' HO_5.out).2.2); exact (Kd.R_reads' HO_5.out).2.1; rintro e w27 ⟨v509, rfl, ho0, hb⟩; refine ⟨_, rfl, ?_⟩; have HO510 := Az (Kd.R_lower (Kd.R_new' (Kd.R_new' ho0 (Kd.R_lt (rU HO_5.out))) (Kd.R_lt (rU HO_6.out))) (below_size (bU1 HB.out GW497.out))); replace HO_5 := Az (Kd.R_elder' (rU HO_5.out) (Kd.R_base ho0) hb); replace HO_6 := Az (Kd.R_elder' (rU HO_6.out) (Kd.R_base ho0) hb); replace BK497 := kB BK497.out hb; replace HB := Az (below_step (bU1 HB.out GW497.out) hb); clear hb ho0))
   go_loopg [9, 10] k1 (fun kq v9 v10 w' => ∃ (x9_2 : Int) (x10_2 : Int), v9 = .int .i64 x9_2 ∧ v10 = .int .i64 x10_2 ∧ Aside0 (spec_l7Parts.l1 kq t508 x9_2 x10_2 = some r) ∧ Aside0 (kq ≤ k1) ∧ Aside0 (Kd.R (Kd.int .i64) 3 w' w.heap.size (fun _ => True) v509 t508) ∧ Aside0 (w'.heap[gb497]? = some (.cells #[(.slice A0_0 l0_0.length c0_0), (.slice A0_1 l0_1.length c0_1)] 25 (0, 0))) ∧ Aside0 (Below w.heap.size w w'))
   case atStart => exact ⟨(0), (0), rS, rS, H', ⟨Nat.le_refl _⟩, ⟨rM HO510.out⟩, ⟨kU BK497.out⟩, ⟨bU1 HB.out GW497.out⟩⟩
   case round =>
    clear H'; obtain ⟨x9_2, x10_2, rfl, rfl, HA, HK2, HO_8, BK497, HB⟩ := hrel
    rcases gk with _ | k2
    exact (nN HA.out).elim; have H := HA.out; clear HA; simp only [spec_l7Parts.l1] at H
    replace H := gB H; rcases H with ⟨c28b0, H⟩ | ⟨c28b0, H⟩
    ·
     replace H := gD1 H; obtain ⟨c29b0, H⟩ := H
     replace H := gQ H; rcases H with ⟨c30b0, c30b1, H⟩ | ⟨c30b0, c30b1, H⟩
     ·
      have H' := Az H; clear H; obtain ⟨Ao31, co31, eo31⟩ := Kd.R_slice HO_8.out; subst eo31; obtain ⟨ad511, e511, _, _, hx511_0⟩ := aI (Kd.R_reads' HO_8.out).2.2 x10_2
      cases e511; go_wp2; go_roundg k2
      case measure => exact mO
      case rel => exact ⟨(wrap64 (x9_2 + 1)), (wrap64 (x10_2 + 1)), rS, rS, H', ⟨mO⟩, ⟨rU HO_8.out⟩, ⟨kU BK497.out⟩, ⟨bU1 HB.out GW497.out⟩⟩
     ·
      have H' := Az H; clear H; obtain ⟨Ao32, co32, eo32⟩ := Kd.R_slice HO_8.out; subst eo32; obtain ⟨ad511, e511, _, _, hx511_0⟩ := aI (Kd.R_reads' HO_8.out).2.2 x10_2
      cases e511; go_wp2; go_roundg k2
      case measure => exact mO
      case rel => exact ⟨(x9_2), (wrap64 (x10_2 + 1)), rS, rS, H', ⟨mO⟩, ⟨rU HO_8.out⟩, ⟨kU BK497.out⟩, ⟨bU1 HB.out GW497.out⟩⟩
    · obtain rfl := Option.some.inj H; obtain ⟨Ao33, co33, eo33⟩ := Kd.R_slice HO_8.out; subst eo33; go_wp2; go_ret; exact ⟨rE, bU1 HB.out GW497.out⟩
def spec_l2Copy.f (l0 : List Int) : Option (List Int) := (some (([] : List Int) : List Int)).bind fun y530 => (if y530.length + l0.length < 17592186044416 then (some (y530 ++ l0)) else (none))
set_option maxHeartbeats 8000000 in
set_option maxRecDepth 100000 in
theorem spec_l2Copy.calls (A0 : Option Addr) (c0 : Nat) (l0 : List Int) (r : List Int) (w : World) (hr0 : Kd.C (Kd.int .i64) w A0 l0.length l0) (hc0 : l0.length ≤ c0) (h : spec_l2Copy.f l0 = some r) :
  Calls Try.prog 92 #[.slice A0 l0.length c0] w fun e w' => ∃ v0_ : Value, e = .returned (v0_) ∧ Kd.R (Kd.int .i64) 3 w' w.heap.size (fun _ => True) v0_ r ∧ Below w.heap.size w w' := by
 have HR0 := Az hr0; have HC0 := Az hc0; clear hr0 hc0; have HB := bZ w; have H := h; clear h; unfold spec_l2Copy.f at H; generalize Ny530 : (([] : List Int) : List Int) = y530 at H; simp only [Option.bind_some] at H; replace Ny530 := Ay Ny530; replace H := gP H; obtain ⟨c2, H⟩ := H; have LMc2 := Az c2; clear c2; generalize Ny533 : (y530 ++ l0 : List Int) = y533 at H; replace Ny533 := Ay Ny533; obtain rfl := Option.some.inj H; go_enter Try.func92, Try.ntmps92
 go_wp2_with (first | ((with_reducible refine gd 3 rfl ?_); refine Kd.R_lit (Kd.int .i64) _ 3 rfl (N := 3) rfl (xs := ([] : List Int)) (inner := []) (ok := fun _ => True) (okp := fun _ => True) hS ?hp (fun _ hk => hk) trivial (Below.refl _ _) (Nat.le_refl _) (by simp) ?_; (case hp => exact (Reps.none _ _)); intro v531 w3 ho4 hb hg_ hnew_; clear hg_ hnew_; (first | rw [← Ny530.out] at ho4 | (simp only [Int.reduceToNat] at ho4; rw [← Ny530.out] at ho4)); have HO532 := Az (Kd.R_lower ho4 (below_size (bU0 HB.out))); replace HB := Az (below_step (bU0 HB.out) hb); clear hb ho4) | ((with_reducible refine gate_builtin (b := .append) (xs := #[.tmp 3, .tmp 4]) rfl ?_); at_builtin; refine Kd.R_append_rows (Kd.int .i64) (w0 := w) w.heap.size rfl (.tmp 3) (.tmp 4) 23 3 (.int .i64 0) 8 rfl Try.underlying23 info3 rfl (by decide) (by omega) v531 y530 l0 _ _ _ (fun _ => True) (fun _ => False) rfl rfl ?aO ?aR (fun _ _ h => h) (fun _ h => h.elim) ?aF ?aB ?aS ?aL ?_; (case aR => exact cU (Kd.C_below HR0.out HB.out)); (case aB => exact (bU0 HB.out)); (case aF => exact (fun _ _ => trivial)); (case aO => exact (rU HO532.out)); (case aS => exact (below_size (bU0 HB.out))); (case aL => have := LMc2.out; omega); intro v534 w5 ho hb hg hat; rw [← Ny533.out] at ho; replace HB := Az (hb); have HO535 := Az (ho); clear HO532 ho hb hg hat))
 go_ret; exact ⟨_, rE, rU HO535.out, bU0 HB.out⟩
mutual
def spec_l7Sides.l0 : Nat → List Int → List Int → List Int → Int → List (List Int) → Int → List Int → List Int → Option (Int)
 | 0, _, _, _, _, _, _, _, _ => none
 | k + 1, x1, x5, x6, x7, x8, x9, xZ0, xZ1 => if x9 < (x8.length : Int) then (spec_l7Sides.l1 k x1 x5 x6 x7 x8 x9 0 0 xZ0 xZ1) else (spec_l7Sides.l2 k x1 x5 x6 x7 0 xZ0 xZ1)
def spec_l7Sides.l1 : Nat → List Int → List Int → List Int → Int → List (List Int) → Int → Int → Int → List Int → List Int → Option (Int)
 | 0, _, _, _, _, _, _, _, _, _, _ => none
 | k + 1, x1, x5, x6, x7, x8, x9, x10, x11, xZ0, xZ1 => if 0 ≤ x9 then (if x9 < (x8.length : Int) then (if x11 < ((rd_L1 x8 x9).length : Int) then (if 0 ≤ x11 then (if 0 ≤ (rd (rd_L1 x8 x9) x11) then (if (rd (rd_L1 x8 x9) x11) < (x5.length : Int) then ((spec_l7Has.f k x1 (rd x5 (rd (rd_L1 x8 x9) x11))).bind fun t682 => (if t682 = true then (spec_l7Sides.l1 k x1 x5 x6 x7 x8 x9 (wrap64 (x10 + 1)) (wrap64 (x11 + 1)) xZ0 xZ1) else (spec_l7Sides.l1 k x1 x5 x6 x7 x8 x9 x10 (wrap64 (x11 + 1)) xZ0 xZ1))) else (none)) else (none)) else (none)) else (if x10 = 0 then (spec_l7Sides.l0 k x1 x5 x6 (wrap64 (x7 + 1)) x8 (wrap64 (x9 + 1)) xZ0 xZ1) else (spec_l7Sides.l0 k x1 x5 x6 x7 x8 (wrap64 (x9 + 1)) xZ0 xZ1))) else (none)) else (none)
def spec_l7Sides.l2 : Nat → List Int → List Int → List Int → Int → Int → List Int → List Int → Option (Int)
 | 0, _, _, _, _, _, _, _ => none
 | k + 1, x1, x5, x6, x7, x12, xZ0, xZ1 => if x12 < (x6.length : Int) then (if 0 ≤ x12 then (if x12 < (x5.length : Int) then ((spec_l7Has.f k x1 (rd x5 x12)).bind fun t687 => (if t687 = true then (if x12 < (xZ1.length : Int) then (if 0 ≤ (rd xZ1 x12) then (if (rd xZ1 x12) < (xZ0.length : Int) then (spec_l7Sides.l3 k x1 x5 x6 x7 x12 (rd xZ0 (rd xZ1 x12)) xZ0 xZ1) else (none)) else (none)) else (none)) else (spec_l7Sides.l2 k x1 x5 x6 x7 (wrap64 (x12 + 1)) xZ0 xZ1))) else (none)) else (none)) else ((spec_l1Cycles.f k x6).bind fun t683 => (some (wrap64 ((wrap64 ((t683.length : Int) - (wrap64 ((x6.length : Int) - (wrap64 (2 * (x1.length : Int))))))) + x7))))
def spec_l7Sides.l3 : Nat → List Int → List Int → List Int → Int → Int → Int → List Int → List Int → Option (Int)
 | 0, _, _, _, _, _, _, _, _ => none
 | k + 1, x1, x5, x6, x7, x12, x13, xZ0, xZ1 => if 0 ≤ x13 then (if x13 < (x5.length : Int) then ((spec_l7Has.f k x1 (rd x5 x13)).bind fun t691 => (if t691 = true then (if 0 ≤ x12 then (if x12 < (x6.length : Int) then (spec_l7Sides.l2 k x1 x5 (x6.set (x12 : Int).toNat x13) x7 (wrap64 (x12 + 1)) xZ0 xZ1) else (none)) else (none)) else (if x13 < (xZ0.length : Int) then (spec_l7Sides.l3 k x1 x5 x6 x7 x12 (rd xZ0 x13) xZ0 xZ1) else (none)))) else (none)) else (none)
end
def spec_l7Sides.f (k : Nat) (l0_0 : List Int) (l0_1 : List Int) (l1 : List Int) : Option (Int) := (spec_l7Edges.f k l0_0 l0_1).bind fun t669 => ((spec_l1Same.f k (l0_1.length : Int)).bind fun t672 => ((spec_l1Cycles.f k l0_0).bind fun t675 => (spec_l7Sides.l0 k l1 t669 t672 0 t675 0 l0_0 l0_1)))
set_option maxHeartbeats 8000000 in
set_option maxRecDepth 100000 in
theorem spec_l7Sides.calls (k : Nat) (A0_0 : Option Addr) (c0_0 : Nat) (l0_0 : List Int) (A0_1 : Option Addr) (c0_1 : Nat) (l0_1 : List Int) (A1 : Option Addr) (c1 : Nat) (l1 : List Int) (r : Int) (w : World) (hr0_0 : Kd.C (Kd.int .i64) w A0_0 l0_0.length l0_0) (hc0_0 : l0_0.length ≤ c0_0) (hr0_1 : Kd.C (Kd.int .i64) w A0_1 l0_1.length l0_1) (hc0_1 : l0_1.length ≤ c0_1) (hr1 : Kd.C (Kd.int .i64) w A1 l1.length l1) (hc1 : l1.length ≤ c1) (h : spec_l7Sides.f k l0_0 l0_1 l1 = some r) :
  Calls Try.prog 104 #[.agg #[.slice A0_0 l0_0.length c0_0, .slice A0_1 l0_1.length c0_1], .slice A1 l1.length c1] w fun e w' => e = .returned (.int .i64 r) ∧ Below w.heap.size w w' := by
 have hu25 := Try.underlying25; have HR0_0 := Az hr0_0; have HC0_0 := Az hc0_0; clear hr0_0 hc0_0; have HR0_1 := Az hr0_1; have HC0_1 := Az hc0_1; clear hr0_1 hc0_1; have HR1 := Az hr1; have HC1 := Az hc1; clear hr1 hc1; have HB := bZ w; have H := h; clear h; unfold spec_l7Sides.f at H; replace H := bd H; obtain ⟨t669, A3, H⟩ := H; replace H := bd H; obtain ⟨t672, A4, H⟩ := H; replace H := bd H; obtain ⟨t675, A5, H⟩ := H; have H' := Az H; clear H; go_enter Try.func104, Try.ntmps104
 go_wp2_with (first | ((with_reducible refine gd 2 rfl ?_); refine bE 2 #[.slice A0_0 l0_0.length c0_0, .slice A0_1 l0_1.length c0_1] 25 ?_; intro gb668 hg w6 hbox hb; have BK668 := Az (hbox); have GW668 := gW hg (bU0 HB.out); replace HB := Az (below_step (bU0 HB.out) hb); clear hb hbox hg; have hz7 := bc2 BK668.out) | (go_at_call 107; (with_reducible refine (spec_l7Edges.calls k _ _ l0_0 _ _ l0_1 t669 _ ?_ ?_ ?_ ?_ A3.out).mono ?_); exact cU (Kd.C_below HR0_0.out HB.out); exact HC0_0.out; exact cU (Kd.C_below HR0_1.out HB.out); exact HC0_1.out; rintro e w8 ⟨v670, rfl, ho0, hb⟩; have HO671 := Az (Kd.R_lower ho0 (below_size (bU1 HB.out GW668.out))); replace BK668 := kB BK668.out hb; replace HB := Az (below_step (bU1 HB.out GW668.out) hb); clear hb ho0; have hz9 := bc2 BK668.out) | (go_at_call 108; (with_reducible refine (spec_l1Same.calls k (l0_1.length : Int) t672 _ A4.out).mono ?_); rintro e w10 ⟨v673, rfl, ho0, hb⟩; have HO674 := Az (Kd.R_lower (Kd.R_new' ho0 (Kd.R_lt (rU HO671.out))) (below_size (bU1 HB.out GW668.out))); replace HO671 := Az (Kd.R_elder' (rU HO671.out) (Kd.R_base ho0) hb); replace BK668 := kB BK668.out hb; replace HB := Az (below_step (bU1 HB.out GW668.out) hb); clear hb ho0; have hz11 := bc2 BK668.out) | (go_at_call 81; (with_reducible refine (spec_l1Cycles.calls k _ _ l0_0 t675 _ ?_ ?_ A5.out).mono ?_); exact cU (Kd.C_below HR0_0.out HB.out); exact HC0_0.out; rintro e w12 ⟨v676, rfl, ho0, hb⟩; have HO677 := Az (Kd.S_lower (Kd.S_new' (Kd.S_new' ho0 (Kd.R_lt (rU HO671.out))) (Kd.R_lt (rU HO674.out))) (below_size (bU1 HB.out GW668.out))); replace HO671 := rB HO671.out hb; replace HO674 := rB HO674.out hb; replace BK668 := kB BK668.out hb; replace HB := Az (below_step (bU1 HB.out GW668.out) hb); clear hb ho0))
 repeat (go_quiet (fail); try go_wp2_with (fail))
 go_loopg [7, 9] k (fun kq v7 v9 w' => ∃ (x7_1 : Int) (x9_1 : Int), v7 = .int .i64 x7_1 ∧ v9 = .int .i64 x9_1 ∧ Aside0 (spec_l7Sides.l0 kq l1 t669 t672 x7_1 t675 x9_1 l0_0 l0_1 = some r) ∧ Aside0 (kq ≤ k) ∧ Aside0 (Kd.R (Kd.int .i64) 3 w' w.heap.size (fun k_ => oV k_ v673) v670 t669) ∧ Aside0 (Kd.R (Kd.int .i64) 3 w' w.heap.size (fun k_ => oV k_ v670) v673 t672) ∧ Aside0 (Kd.S (Kd.slice 3 (Kd.int .i64)) 23 w' w.heap.size (fun k_ => oV k_ v670 ∧ oV k_ v673) v676 t675) ∧ Aside0 (w'.heap[gb668]? = some (.cells #[(.slice A0_0 l0_0.length c0_0), (.slice A0_1 l0_1.length c0_1)] 25 (0, 0))) ∧ Aside0 (Below w.heap.size w w'))
 case atStart => exact ⟨(0), (0), rS, rS, H', ⟨Nat.le_refl _⟩, ⟨rM HO671.out⟩, ⟨rM HO674.out⟩, ⟨sM HO677.out⟩, ⟨kU BK668.out⟩, ⟨bU1 HB.out GW668.out⟩⟩
 case round =>
  clear H'; obtain ⟨x7_1, x9_1, rfl, rfl, HA, HK1, HO_5, HO_6, HO_8, BK668, HB⟩ := hrel
  rcases gk with _ | k1
  exact (nN HA.out).elim; have H := HA.out; clear HA; simp only [spec_l7Sides.l0] at H
  by_cases c13 : x9_1 < (t675.length : Int)
  ·
   rw [if_pos c13] at H; have c13b0 := decide_eq_true c13; clear c13; have H' := Az H; clear H; obtain ⟨Ao14, co14, eo14⟩ := Kd.S_slice HO_8.out; subst eo14; go_wp2
   repeat (go_quiet (fail); try go_wp2)
   go_loopg [10, 11] k1 (fun kq v10 v11 w' => ∃ (x10_2 : Int) (x11_2 : Int), v10 = .int .i64 x10_2 ∧ v11 = .int .i64 x11_2 ∧ Aside0 (spec_l7Sides.l1 kq l1 t669 t672 x7_1 t675 x9_1 x10_2 x11_2 l0_0 l0_1 = some r) ∧ Aside0 (kq ≤ k1) ∧ Aside0 (Kd.R (Kd.int .i64) 3 w' w.heap.size (fun k_ => oV k_ v673) v670 t669) ∧ Aside0 (Kd.R (Kd.int .i64) 3 w' w.heap.size (fun k_ => oV k_ v670) v673 t672) ∧ Aside0 (Kd.S (Kd.slice 3 (Kd.int .i64)) 23 w' w.heap.size (fun k_ => oV k_ v670 ∧ oV k_ v673) (.slice Ao14 t675.length co14) t675) ∧ Aside0 (w'.heap[gb668]? = some (.cells #[(.slice A0_0 l0_0.length c0_0), (.slice A0_1 l0_1.length c0_1)] 25 (0, 0))) ∧ Aside0 (Below w.heap.size w w'))
   case atStart => exact ⟨(0), (0), rS, rS, H', ⟨Nat.le_refl _⟩, ⟨rU HO_5.out⟩, ⟨rU HO_6.out⟩, ⟨sU HO_8.out⟩, ⟨kU BK668.out⟩, ⟨bU1 HB.out GW668.out⟩⟩
   case round =>
    clear H'; obtain ⟨x10_2, x11_2, rfl, rfl, HA, HK2, HO_5, HO_6, HO_8, BK668, HB⟩ := hrel
    rcases gk with _ | k2
    exact (nN HA.out).elim; have H := HA.out; clear HA; simp only [spec_l7Sides.l1] at H; replace H := gD2 H; obtain ⟨c15b0, c16b0, H⟩ := H
    replace H := gB H; rcases H with ⟨c17b0, H⟩ | ⟨c17b0, H⟩
    ·
     replace H := gD3 H; obtain ⟨c18b0, c19b0, c20b0, H⟩ := H; replace H := bd H; obtain ⟨t682, A21, H⟩ := H
     by_cases c22 : t682 = true
     ·
      subst c22; rw [if_pos rfl] at H; have H' := Az H; clear H; have p678 : 0 ≤ (x9_1 : Int) := oA; have q678 : x9_1 < (t675.length : Int) := oA; obtain ⟨ad678, A678_0, c678_0, e678, hx678_0, hl678_0, hi678_0⟩ := at_L1 (Kd.S_reads' HO_8.out).2.2 x9_1 p678 q678
      cases e678
      obtain ⟨ce678, hce678, hMe678, hcc678⟩ := Kd.S_get HO_8.out [] x9_1 p678 z4_0; obtain ⟨ve678_0, rfl, ge678_0⟩ := hMe678; have hv678_0 := hcc678 0 _ rfl; rw [Nat.add_zero, show ((Kd.slice 3 (Kd.int .i64))).sz = 1 from rfl, Nat.mul_one] at hv678_0; replace hv678_0 := Option.some.inj (hv678_0.symm.trans hx678_0); rw [hv678_0] at ge678_0; have HL678_0 := Az (show Kd.R (Kd.int .i64) 3 _ _ _ _ (rd_L1 t675 x9_1) from ge678_0); clear hv678_0 ge678_0 hcc678 hce678; have HR678_0 := Az hi678_0; have HC678_0 := Az hl678_0; clear hi678_0 hl678_0; replace p678 := eq_true p678; replace q678 := eq_true q678; have p679 : 0 ≤ (x9_1 : Int) := oA; have q679 : x9_1 < (t675.length : Int) := oA; obtain ⟨ad679, A679_0, c679_0, e679, hx679_0, hl679_0, hi679_0⟩ := at_L1 (Kd.S_reads' HO_8.out).2.2 x9_1 p679 q679; obtain rfl : ad678 = ad679 := (by injection e679); obtain ⟨ce679, hce679, hMe679, hcc679⟩ := Kd.S_get HO_8.out [] x9_1 p679 (by first | exact q679 | exact oA | (have e_ := (Kd.S_reads' HO_8.out).1; omega)); obtain ⟨ve679_0, rfl, ge679_0⟩ := hMe679; have hv679_0 := hcc679 0 _ rfl; rw [Nat.add_zero, show ((Kd.slice 3 (Kd.int .i64))).sz = 1 from rfl, Nat.mul_one] at hv679_0; replace hv679_0 := Option.some.inj (hv679_0.symm.trans hx679_0); rw [hv679_0] at ge679_0; have HL679_0 := Az (show Kd.R (Kd.int .i64) 3 _ _ _ _ (rd_L1 t675 x9_1) from ge679_0); clear hv679_0 ge679_0 hcc679 hce679; have HR679_0 := Az hi679_0; have HC679_0 := Az hl679_0; clear hi679_0 hl679_0; replace p679 := eq_true p679; replace q679 := eq_true q679; have ea_ := Option.some.inj (hx678_0.symm.trans hx679_0); injection ea_ with ea_ en_ ec_; subst ea_; subst ec_; clear en_; obtain ⟨ad680, e680, _, _, hx680_0⟩ := aI z4_1 x11_2
      cases e680; obtain ⟨Ao23, co23, eo23⟩ := Kd.R_slice HO_5.out; subst eo23; obtain ⟨ad681, e681, _, _, hx681_0⟩ := aI (Kd.R_reads' HO_5.out).2.2 (rd (rd_L1 t675 x9_1) x11_2)
      cases e681
      go_wp2_with (first | (go_at_call 67; (with_reducible refine (spec_l7Has.calls k2 _ _ l1 (rd t669 (rd (rd_L1 t675 x9_1) x11_2)) true _ ?_ ?_ A21.out).mono ?_); exact cU (Kd.C_below HR1.out HB.out); exact HC1.out; rintro e w' ⟨rfl, ⟨nd, rfl⟩⟩))
      repeat (go_quiet (fail); try go_wp2_with (fail))
      go_roundg k2
      case measure => exact mO
      case rel => exact ⟨(wrap64 (x10_2 + 1)), (wrap64 (x11_2 + 1)), rS, rS, H', ⟨mO⟩, ⟨rU HO_5.out⟩, ⟨rU HO_6.out⟩, ⟨sU HO_8.out⟩, ⟨kU BK668.out⟩, ⟨bU1 HB.out GW668.out⟩⟩
     ·
      replace c22 := Bool.eq_false_iff.mpr c22; subst c22; rw [if_neg nT] at H; have H' := Az H; clear H; have p678 : 0 ≤ (x9_1 : Int) := oA; have q678 : x9_1 < (t675.length : Int) := oA; obtain ⟨ad678, A678_0, c678_0, e678, hx678_0, hl678_0, hi678_0⟩ := at_L1 (Kd.S_reads' HO_8.out).2.2 x9_1 p678 q678
      cases e678
      obtain ⟨ce678, hce678, hMe678, hcc678⟩ := Kd.S_get HO_8.out [] x9_1 p678 z4_0; obtain ⟨ve678_0, rfl, ge678_0⟩ := hMe678; have hv678_0 := hcc678 0 _ rfl; rw [Nat.add_zero, show ((Kd.slice 3 (Kd.int .i64))).sz = 1 from rfl, Nat.mul_one] at hv678_0; replace hv678_0 := Option.some.inj (hv678_0.symm.trans hx678_0); rw [hv678_0] at ge678_0; have HL678_0 := Az (show Kd.R (Kd.int .i64) 3 _ _ _ _ (rd_L1 t675 x9_1) from ge678_0); clear hv678_0 ge678_0 hcc678 hce678; have HR678_0 := Az hi678_0; have HC678_0 := Az hl678_0; clear hi678_0 hl678_0; replace p678 := eq_true p678; replace q678 := eq_true q678; have p679 : 0 ≤ (x9_1 : Int) := oA; have q679 : x9_1 < (t675.length : Int) := oA; obtain ⟨ad679, A679_0, c679_0, e679, hx679_0, hl679_0, hi679_0⟩ := at_L1 (Kd.S_reads' HO_8.out).2.2 x9_1 p679 q679; obtain rfl : ad678 = ad679 := (by injection e679); obtain ⟨ce679, hce679, hMe679, hcc679⟩ := Kd.S_get HO_8.out [] x9_1 p679 (by first | exact q679 | exact oA | (have e_ := (Kd.S_reads' HO_8.out).1; omega)); obtain ⟨ve679_0, rfl, ge679_0⟩ := hMe679; have hv679_0 := hcc679 0 _ rfl; rw [Nat.add_zero, show ((Kd.slice 3 (Kd.int .i64))).sz = 1 from rfl, Nat.mul_one] at hv679_0; replace hv679_0 := Option.some.inj (hv679_0.symm.trans hx679_0); rw [hv679_0] at ge679_0; have HL679_0 := Az (show Kd.R (Kd.int .i64) 3 _ _ _ _ (rd_L1 t675 x9_1) from ge679_0); clear hv679_0 ge679_0 hcc679 hce679; have HR679_0 := Az hi679_0; have HC679_0 := Az hl679_0; clear hi679_0 hl679_0; replace p679 := eq_true p679; replace q679 := eq_true q679; have ea_ := Option.some.inj (hx678_0.symm.trans hx679_0); injection ea_ with ea_ en_ ec_; subst ea_; subst ec_; clear en_; obtain ⟨ad680, e680, _, _, hx680_0⟩ := aI z4_1 x11_2
      cases e680; obtain ⟨Ao24, co24, eo24⟩ := Kd.R_slice HO_5.out; subst eo24; obtain ⟨ad681, e681, _, _, hx681_0⟩ := aI (Kd.R_reads' HO_5.out).2.2 (rd (rd_L1 t675 x9_1) x11_2)
      cases e681
      go_wp2_with (first | (go_at_call 67; (with_reducible refine (spec_l7Has.calls k2 _ _ l1 (rd t669 (rd (rd_L1 t675 x9_1) x11_2)) false _ ?_ ?_ A21.out).mono ?_); exact cU (Kd.C_below HR1.out HB.out); exact HC1.out; rintro e w' ⟨rfl, ⟨nd, rfl⟩⟩))
      repeat (go_quiet (fail); try go_wp2_with (fail))
      go_roundg k2
      case measure => exact mO
      case rel => exact ⟨(x10_2), (wrap64 (x11_2 + 1)), rS, rS, H', ⟨mO⟩, ⟨rU HO_5.out⟩, ⟨rU HO_6.out⟩, ⟨sU HO_8.out⟩, ⟨kU BK668.out⟩, ⟨bU1 HB.out GW668.out⟩⟩
    ·
     replace H := gQ H; rcases H with ⟨c25b0, c25b1, H⟩ | ⟨c25b0, c25b1, H⟩
     ·
      have H' := Az H; clear H; have p678 : 0 ≤ (x9_1 : Int) := oA; have q678 : x9_1 < (t675.length : Int) := oA; obtain ⟨ad678, A678_0, c678_0, e678, hx678_0, hl678_0, hi678_0⟩ := at_L1 (Kd.S_reads' HO_8.out).2.2 x9_1 p678 q678
      cases e678
      obtain ⟨ce678, hce678, hMe678, hcc678⟩ := Kd.S_get HO_8.out [] x9_1 p678 z4_0; obtain ⟨ve678_0, rfl, ge678_0⟩ := hMe678; have hv678_0 := hcc678 0 _ rfl; rw [Nat.add_zero, show ((Kd.slice 3 (Kd.int .i64))).sz = 1 from rfl, Nat.mul_one] at hv678_0; replace hv678_0 := Option.some.inj (hv678_0.symm.trans hx678_0); rw [hv678_0] at ge678_0; have HL678_0 := Az (show Kd.R (Kd.int .i64) 3 _ _ _ _ (rd_L1 t675 x9_1) from ge678_0); clear hv678_0 ge678_0 hcc678 hce678; have HR678_0 := Az hi678_0; have HC678_0 := Az hl678_0; clear hi678_0 hl678_0; replace p678 := eq_true p678; replace q678 := eq_true q678; go_wp2
      repeat (go_quiet (fail); try go_wp2)
      go_roundg k2
      case measure => exact mO
      case rel => exact ⟨(wrap64 (x7_1 + 1)), (wrap64 (x9_1 + 1)), rS, rS, H', ⟨mO⟩, ⟨rU HO_5.out⟩, ⟨rU HO_6.out⟩, ⟨sU HO_8.out⟩, ⟨kU BK668.out⟩, ⟨bU1 HB.out GW668.out⟩⟩
     ·
      have H' := Az H; clear H; have p678 : 0 ≤ (x9_1 : Int) := oA; have q678 : x9_1 < (t675.length : Int) := oA; obtain ⟨ad678, A678_0, c678_0, e678, hx678_0, hl678_0, hi678_0⟩ := at_L1 (Kd.S_reads' HO_8.out).2.2 x9_1 p678 q678
      cases e678
      obtain ⟨ce678, hce678, hMe678, hcc678⟩ := Kd.S_get HO_8.out [] x9_1 p678 z4_0; obtain ⟨ve678_0, rfl, ge678_0⟩ := hMe678; have hv678_0 := hcc678 0 _ rfl; rw [Nat.add_zero, show ((Kd.slice 3 (Kd.int .i64))).sz = 1 from rfl, Nat.mul_one] at hv678_0; replace hv678_0 := Option.some.inj (hv678_0.symm.trans hx678_0); rw [hv678_0] at ge678_0; have HL678_0 := Az (show Kd.R (Kd.int .i64) 3 _ _ _ _ (rd_L1 t675 x9_1) from ge678_0); clear hv678_0 ge678_0 hcc678 hce678; have HR678_0 := Az hi678_0; have HC678_0 := Az hl678_0; clear hi678_0 hl678_0; replace p678 := eq_true p678; replace q678 := eq_true q678; go_wp2
      repeat (go_quiet (fail); try go_wp2)
      go_roundg k2
      case measure => exact mO
      case rel => exact ⟨(x7_1), (wrap64 (x9_1 + 1)), rS, rS, H', ⟨mO⟩, ⟨rU HO_5.out⟩, ⟨rU HO_6.out⟩, ⟨sU HO_8.out⟩, ⟨kU BK668.out⟩, ⟨bU1 HB.out GW668.out⟩⟩
  ·
   rw [if_neg c13] at H; have c13b0 := decide_eq_false c13; clear c13; have H' := Az H; clear H; obtain ⟨Ao26, co26, eo26⟩ := Kd.S_slice HO_8.out; subst eo26; go_wp2
   repeat (go_quiet (fail); try go_wp2)
   go_loopg [12] k1 (fun kq v12 w' => ∃ (x6_2 : List Int) (x12_2 : Int), v12 = .int .i64 x12_2 ∧ Aside0 (spec_l7Sides.l2 kq l1 t669 x6_2 x7_1 x12_2 l0_0 l0_1 = some r) ∧ Aside0 (kq ≤ k1) ∧ Aside0 (Kd.R (Kd.int .i64) 3 w' w.heap.size (fun k_ => oV k_ v673) v670 t669) ∧ Aside0 (Kd.R (Kd.int .i64) 3 w' w.heap.size (fun k_ => oV k_ v670) v673 x6_2) ∧ Aside0 (w'.heap[gb668]? = some (.cells #[(.slice A0_0 l0_0.length c0_0), (.slice A0_1 l0_1.length c0_1)] 25 (0, 0))) ∧ Aside0 (Below w.heap.size w w'))
   case atStart => exact ⟨(t672), (0), rS, H', ⟨Nat.le_refl _⟩, ⟨rU HO_5.out⟩, ⟨rU HO_6.out⟩, ⟨kU BK668.out⟩, ⟨bU1 HB.out GW668.out⟩⟩
   case round =>
    clear H'; obtain ⟨x6_2, x12_2, rfl, HA, HK2, HO_5, HO_6, BK668, HB⟩ := hrel
    rcases gk with _ | k2
    exact (nN HA.out).elim; have H := HA.out; clear HA; simp only [spec_l7Sides.l2] at H
    by_cases c27 : x12_2 < (x6_2.length : Int)
    ·
     rw [if_pos c27] at H; have c27b0 := decide_eq_true c27; clear c27; replace H := gD2 H; obtain ⟨c28b0, c29b0, H⟩ := H; replace H := bd H; obtain ⟨t687, A30, H⟩ := H
     by_cases c31 : t687 = true
     ·
      subst c31; rw [if_pos rfl] at H; replace H := gD3 H; obtain ⟨c32b0, c33b0, c34b0, H⟩ := H; have H' := Az H; clear H; obtain ⟨Ao35, co35, eo35⟩ := Kd.R_slice HO_6.out; subst eo35; obtain ⟨Ao36, co36, eo36⟩ := Kd.R_slice HO_5.out; subst eo36; obtain ⟨ad686, e686, _, _, hx686_0⟩ := aI (Kd.R_reads' HO_5.out).2.2 x12_2
      cases e686
      go_wp2_with (first | (go_at_call 67; (with_reducible refine (spec_l7Has.calls k2 _ _ l1 (rd t669 x12_2) true _ ?_ ?_ A30.out).mono ?_); exact cU (Kd.C_below HR1.out HB.out); exact HC1.out; rintro e w' ⟨rfl, ⟨nd, rfl⟩⟩; have hz37 := bc2 BK668.out; obtain ⟨ad688, e688, _, _, hx688_0⟩ := aI HR0_1.out x12_2; cases e688; replace hx688_0 := hT HB.out hx688_0; obtain ⟨ad689, e689, _, _, hx689_0⟩ := aI HR0_0.out (rd l0_1 x12_2); cases e689; replace hx689_0 := hT HB.out hx689_0))
      repeat (go_quiet (fail); try go_wp2_with (fail))
      go_loopg [13] k2 (fun kq v13 w' => ∃ (x13_3 : Int), v13 = .int .i64 x13_3 ∧ Aside0 (spec_l7Sides.l3 kq l1 t669 x6_2 x7_1 x12_2 x13_3 l0_0 l0_1 = some r) ∧ Aside0 (kq ≤ k2) ∧ Aside0 (Kd.R (Kd.int .i64) 3 w' w.heap.size (fun k_ => some k_ ≠ ((.slice Ao35 x6_2.length co35) : Value).ownBlock) (.slice (some ad686) t669.length co36) t669) ∧ Aside0 (Kd.R (Kd.int .i64) 3 w' w.heap.size (fun k_ => some k_ ≠ ((.slice (some ad686) t669.length co36) : Value).ownBlock) (.slice Ao35 x6_2.length co35) x6_2) ∧ Aside0 (w'.heap[gb668]? = some (.cells #[(.slice (some ad689) l0_0.length c0_0), (.slice (some ad688) l0_1.length c0_1)] 25 (0, 0))) ∧ Aside0 (Below w.heap.size w w'))
      case atStart => exact ⟨(rd l0_0 (rd l0_1 x12_2)), rS, H', ⟨Nat.le_refl _⟩, ⟨rU HO_5.out⟩, ⟨rU HO_6.out⟩, ⟨kU BK668.out⟩, ⟨bU1 HB.out GW668.out⟩⟩
      case round =>
       clear H'; obtain ⟨x13_3, rfl, HA, HK3, HO_5, HO_6, BK668, HB⟩ := hrel
       rcases gk with _ | k3
       exact (nN HA.out).elim; have H := HA.out; clear HA; simp only [spec_l7Sides.l3] at H; replace H := gD2 H; obtain ⟨c38b0, c39b0, H⟩ := H; replace H := bd H; obtain ⟨t691, A40, H⟩ := H
       by_cases c41 : t691 = true
       ·
        subst c41; rw [if_pos rfl] at H; replace H := gD2 H; obtain ⟨c42b0, c43b0, H⟩ := H; generalize Ny692 : (x6_2.set (x12_2 : Int).toNat x13_3 : List Int) = y692 at H; replace Ny692 := Ay Ny692; have H' := Az H; clear H; obtain ⟨_, _, hx690_0⟩ := aJ (Kd.R_reads' HO_5.out).2.2 x13_3
        go_wp2_with (first | (go_at_call 67; (with_reducible refine (spec_l7Has.calls k3 _ _ l1 (rd t669 x13_3) true _ ?_ ?_ A40.out).mono ?_); exact cU (Kd.C_below HR1.out HB.out); exact HC1.out; rintro e w' ⟨rfl, ⟨nd, rfl⟩⟩; have p44 : 0 ≤ (x12_2 : Int) := oA; have q44 : (x12_2 : Int) < ((x6_2.length : Int) : Int) := oA; obtain ⟨go44, co44, eo44, gb44, gl44, cl44, HG44⟩ := Kd.R_form HO_6.out (by omega); (first | cases eo44 | (injection eo44 with ea_ en_ ec_; (first | subst ea_ | (injection ea_ with ea_; subst ea_)); subst ec_; clear en_)); have GB44 := Az gb44; have GG44 := Az HG44; clear gb44 gl44 HG44; obtain ⟨hx44_0, hf44_0⟩ := Kd.R_celln 0 HO_6.out (x12_2 : Int) p44 q44; replace p44 := eq_true p44; replace q44 := eq_true q44; obtain ⟨hy45_, hz45_⟩ := Kd.R_celln 0 HO_6.out (x12_2 : Int) (oA) (oA); have HP45 := Kd.R_putg HO_6.out (x12_2 : Int) x13_3) | ((with_reducible refine gs 3 92 rfl ?_); (rw [drewN_self wr]; generalize hq_ : World.drewN wr _ = wr; replace HO_5 := Az (Kd.R_at hq_ HO_5.out); replace HO_6 := Az (Kd.R_at hq_ HO_6.out); replace BK668 := Az (blk_at hq_ BK668.out); replace HB := Az (below_at hq_ HB.out); clear hq_; (obtain ⟨hy45_, hz45_⟩ := Kd.R_celln 0 HO_6.out (x12_2 : Int) (oA) (oA)); (have HP45 := Kd.R_putg HO_6.out (x12_2 : Int) x13_3)); refine sE 3 92 (wr.setCell ⟨go44, (x12_2 : Int).toNat, none⟩ (.int .i64 x13_3)) ?_; intro w46 hw; have hg : wr.grownBy w46 (some go44) := (by rw [hw]; exact HP45.2); have hp_ : Kd.R (Kd.int .i64) 3 w46 w.heap.size (fun k_ => some k_ ≠ (.slice (some ad686) t669.length co36 : Value).ownBlock) (.slice (some ⟨go44, 0, none⟩) x6_2.length co35) y692 := (by rw [hw, Ny692.out]; exact HP45.1); clear HP45; replace HO_5 := Az (Kd.R_after (v := (.slice (some ⟨go44, 0, none⟩) x6_2.length co35)) (v1 := (.slice (some ⟨go44, 0, none⟩) x6_2.length co35)) (ok := (fun _ => True)) (rM HO_5.out) hg (.inl rfl)); replace BK668 := Az (kG BK668.out hg (Kd.R_ne HO_6.out BK668.out (by decide))); replace HO_6 := Az (hp_); replace HB := Az ((by rw [hw]; exact below_set (HB.out) GB44.out : Below w.heap.size w w46)); clear hg hw hp_))
        repeat (go_quiet (fail); try go_wp2_with (fail))
        go_roundg k3
        case measure => exact mO
        case rel => exact ⟨(y692), (wrap64 (x12_2 + 1)), rS, H', ⟨mO⟩, ⟨rM HO_5.out⟩, ⟨rU HO_6.out⟩, ⟨kU BK668.out⟩, ⟨bU1 HB.out GW668.out⟩⟩
       ·
        replace c41 := Bool.eq_false_iff.mpr c41; subst c41; rw [if_neg nT] at H; replace H := gD1 H; obtain ⟨c47b0, H⟩ := H; have H' := Az H; clear H; obtain ⟨_, _, hx690_0⟩ := aJ (Kd.R_reads' HO_5.out).2.2 x13_3
        go_wp2_with (first | (go_at_call 67; (with_reducible refine (spec_l7Has.calls k3 _ _ l1 (rd t669 x13_3) false _ ?_ ?_ A40.out).mono ?_); exact cU (Kd.C_below HR1.out HB.out); exact HC1.out; rintro e w' ⟨rfl, ⟨nd, rfl⟩⟩; have hz48 := bc2 BK668.out; obtain ⟨_, _, hx693_0⟩ := aJ HR0_0.out x13_3; replace hx693_0 := hT HB.out hx693_0))
        repeat (go_quiet (fail); try go_wp2_with (fail))
        go_roundg k3
        case measure => exact mO
        case rel => exact ⟨(rd l0_0 x13_3), rS, H', ⟨mO⟩, ⟨rU HO_5.out⟩, ⟨rU HO_6.out⟩, ⟨kU BK668.out⟩, ⟨bU1 HB.out GW668.out⟩⟩
     ·
      replace c31 := Bool.eq_false_iff.mpr c31; subst c31; rw [if_neg nT] at H; have H' := Az H; clear H; obtain ⟨Ao49, co49, eo49⟩ := Kd.R_slice HO_6.out; subst eo49; obtain ⟨Ao50, co50, eo50⟩ := Kd.R_slice HO_5.out; subst eo50; obtain ⟨ad686, e686, _, _, hx686_0⟩ := aI (Kd.R_reads' HO_5.out).2.2 x12_2
      cases e686
      go_wp2_with (first | (go_at_call 67; (with_reducible refine (spec_l7Has.calls k2 _ _ l1 (rd t669 x12_2) false _ ?_ ?_ A30.out).mono ?_); exact cU (Kd.C_below HR1.out HB.out); exact HC1.out; rintro e w' ⟨rfl, ⟨nd, rfl⟩⟩))
      repeat (go_quiet (fail); try go_wp2_with (fail))
      go_roundg k2
      case measure => exact mO
      case rel => exact ⟨(x6_2), (wrap64 (x12_2 + 1)), rS, H', ⟨mO⟩, ⟨rU HO_5.out⟩, ⟨rU HO_6.out⟩, ⟨kU BK668.out⟩, ⟨bU1 HB.out GW668.out⟩⟩
    ·
     rw [if_neg c27] at H; have c27b0 := decide_eq_false c27; clear c27; replace H := bd H; obtain ⟨t683, A51, H⟩ := H; obtain rfl := Option.some.inj H; obtain ⟨Ao52, co52, eo52⟩ := Kd.R_slice HO_6.out; subst eo52
     go_wp2_with (first | (go_at_call 81; (with_reducible refine (spec_l1Cycles.calls k2 _ _ x6_2 t683 _ ?_ ?_ A51.out).mono ?_); exact cU ((Kd.R_reads' HO_6.out).2.2); exact (Kd.R_reads' HO_6.out).2.1; rintro e w53 ⟨v684, rfl, ho0, hb⟩; have HO685 := Az (Kd.S_lower (Kd.S_new' (Kd.S_new' ho0 (Kd.R_lt (rU HO_5.out))) (Kd.R_lt (rU HO_6.out))) (below_size (bU1 HB.out GW668.out))); replace HO_5 := rB HO_5.out hb; replace HO_6 := rB HO_6.out hb; replace BK668 := kB BK668.out hb; replace HB := Az (below_step (bU1 HB.out GW668.out) hb); clear hb ho0; obtain ⟨Ao54, co54, eo54⟩ := Kd.S_slice HO685.out; subst eo54))
     repeat (go_quiet (fail); try go_wp2_with (fail))
     go_ret; exact ⟨rE, bU1 HB.out GW668.out⟩
def spec_l7Counts.f (k : Nat) (l0_0 : List Int) (l0_1 : List Int) (l1 : List Int) : Option (List Int) := (spec_l7Parts.f k l0_0 l0_1 l1).bind fun t695 => ((spec_l7Sides.f k l0_0 l0_1 l1).bind fun t696 => ((spec_l1Cycles.f k l0_0).bind fun t697 => (some (([t695, t696, wrap64 ((t697.length : Int) - t695), wrap64 ((l1.length : Int) - (wrap64 ((t697.length : Int) - t695))), wrap64 (Int.tdiv (wrap64 ((wrap64 ((wrap64 ((wrap64 (2 * t695)) - (t697.length : Int))) + (l1.length : Int))) - t696)) 2)] : List Int)))))
set_option maxHeartbeats 8000000 in
set_option maxRecDepth 100000 in
theorem spec_l7Counts.calls (k : Nat) (A0_0 : Option Addr) (c0_0 : Nat) (l0_0 : List Int) (A0_1 : Option Addr) (c0_1 : Nat) (l0_1 : List Int) (A1 : Option Addr) (c1 : Nat) (l1 : List Int) (r : List Int) (w : World) (hr0_0 : Kd.C (Kd.int .i64) w A0_0 l0_0.length l0_0) (hc0_0 : l0_0.length ≤ c0_0) (hr0_1 : Kd.C (Kd.int .i64) w A0_1 l0_1.length l0_1) (hc0_1 : l0_1.length ≤ c0_1) (hr1 : Kd.C (Kd.int .i64) w A1 l1.length l1) (hc1 : l1.length ≤ c1) (h : spec_l7Counts.f k l0_0 l0_1 l1 = some r) :
  Calls Try.prog 69 #[.agg #[.slice A0_0 l0_0.length c0_0, .slice A0_1 l0_1.length c0_1], .slice A1 l1.length c1] w fun e w' => ∃ v0_ : Value, e = .returned (v0_) ∧ Kd.R (Kd.int .i64) 3 w' w.heap.size (fun _ => True) v0_ r ∧ Below w.heap.size w w' := by
 have hu25 := Try.underlying25; have HR0_0 := Az hr0_0; have HC0_0 := Az hc0_0; clear hr0_0 hc0_0; have HR0_1 := Az hr0_1; have HC0_1 := Az hc0_1; clear hr0_1 hc0_1; have HR1 := Az hr1; have HC1 := Az hc1; clear hr1 hc1; have HB := bZ w; have H := h; clear h; unfold spec_l7Counts.f at H; replace H := bd H; obtain ⟨t695, A3, H⟩ := H; replace H := bd H; obtain ⟨t696, A4, H⟩ := H; replace H := bd H; obtain ⟨t697, A5, H⟩ := H; generalize Ny700 : (([t695, t696, wrap64 ((t697.length : Int) - t695), wrap64 ((l1.length : Int) - (wrap64 ((t697.length : Int) - t695))), wrap64 (Int.tdiv (wrap64 ((wrap64 ((wrap64 ((wrap64 (2 * t695)) - (t697.length : Int))) + (l1.length : Int))) - t696)) 2)] : List Int) : List Int) = y700 at H; replace Ny700 := Ay Ny700; obtain rfl := Option.some.inj H; go_enter Try.func69, Try.ntmps69
 go_wp2_with (first | ((with_reducible refine gd 2 rfl ?_); refine bE 2 #[.slice A0_0 l0_0.length c0_0, .slice A0_1 l0_1.length c0_1] 25 ?_; intro gb694 hg w6 hbox hb; have BK694 := Az (hbox); have GW694 := gW hg (bU0 HB.out); replace HB := Az (below_step (bU0 HB.out) hb); clear hb hbox hg; have hz7 := bc2 BK694.out) | ((with_reducible refine gK 89 rfl ?_); refine gC (some 11) Try.func89 #[.agg #[.slice A0_0 l0_0.length c0_0, .slice A0_1 l0_1.length c0_1], .slice A1 l1.length c1] ?_; (with_reducible refine (spec_l7Parts.calls k _ _ l0_0 _ _ l0_1 _ _ l1 t695 _ ?_ ?_ ?_ ?_ ?_ ?_ A3.out).mono ?_); exact cU (Kd.C_below HR0_0.out HB.out); exact HC0_0.out; exact cU (Kd.C_below HR0_1.out HB.out); exact HC0_1.out; exact cU (Kd.C_below HR1.out HB.out); exact HC1.out; rintro e w8 ⟨rfl, hb⟩; refine ⟨_, rfl, ?_⟩; replace BK694 := kB BK694.out hb; replace HB := Az (below_step (bU1 HB.out GW694.out) hb); clear hb; have hz9 := bc2 BK694.out) | ((with_reducible refine gK 104 rfl ?_); refine gC (some 14) Try.func104 #[.agg #[.slice A0_0 l0_0.length c0_0, .slice A0_1 l0_1.length c0_1], .slice A1 l1.length c1] ?_; (with_reducible refine (spec_l7Sides.calls k _ _ l0_0 _ _ l0_1 _ _ l1 t696 _ ?_ ?_ ?_ ?_ ?_ ?_ A4.out).mono ?_); exact cU (Kd.C_below HR0_0.out HB.out); exact HC0_0.out; exact cU (Kd.C_below HR0_1.out HB.out); exact HC0_1.out; exact cU (Kd.C_below HR1.out HB.out); exact HC1.out; rintro e w10 ⟨rfl, hb⟩; refine ⟨_, rfl, ?_⟩; replace BK694 := kB BK694.out hb; replace HB := Az (below_step (bU1 HB.out GW694.out) hb); clear hb; have hz11 := bc2 BK694.out) | ((with_reducible refine gK 81 rfl ?_); refine gC (some 17) Try.func81 #[.slice A0_0 l0_0.length c0_0] ?_; (with_reducible refine (spec_l1Cycles.calls k _ _ l0_0 t697 _ ?_ ?_ A5.out).mono ?_); exact cU (Kd.C_below HR0_0.out HB.out); exact HC0_0.out; rintro e w12 ⟨v698, rfl, ho0, hb⟩; refine ⟨_, rfl, ?_⟩; have HO699 := Az (Kd.S_lower ho0 (below_size (bU1 HB.out GW694.out))); replace BK694 := kB BK694.out hb; replace HB := Az (below_step (bU1 HB.out GW694.out) hb); clear hb ho0; obtain ⟨Ao13, co13, eo13⟩ := Kd.S_slice HO699.out; subst eo13) | ((with_reducible refine gd 39 rfl ?_); refine Kd.R_lit (Kd.int .i64) _ 3 rfl (N := 39) rfl (xs := ([t695, t696, wrap64 ((t697.length : Int) - t695), wrap64 ((l1.length : Int) - (wrap64 ((t697.length : Int) - t695))), wrap64 (Int.tdiv (wrap64 ((wrap64 ((wrap64 ((wrap64 (2 * t695)) - (t697.length : Int))) + (l1.length : Int))) - t696)) 2)] : List Int)) (inner := [.int .i64 t695, .int .i64 t696, .int .i64 (wrap64 ((t697.length : Int) - t695)), .int .i64 (wrap64 ((l1.length : Int) - (wrap64 ((t697.length : Int) - t695)))), .int .i64 (wrap64 (Int.tdiv (wrap64 ((wrap64 ((wrap64 ((wrap64 (2 * t695)) - (t697.length : Int))) + (l1.length : Int))) - t696)) 2))]) (ok := fun _ => True) (okp := fun _ => True) hS ?hp (fun _ hk => hk) trivial (Below.refl _ _) (Nat.le_refl _) (by simp) ?_; (case hp => exact (Reps.one (show Kd.M (Kd.int .i64) _ _ _ t695 [.int .i64 t695] from rfl) (Reps.one (show Kd.M (Kd.int .i64) _ _ _ t696 [.int .i64 t696] from rfl) (Reps.one (show Kd.M (Kd.int .i64) _ _ _ (wrap64 ((t697.length : Int) - t695)) [.int .i64 (wrap64 ((t697.length : Int) - t695))] from rfl) (Reps.one (show Kd.M (Kd.int .i64) _ _ _ (wrap64 ((l1.length : Int) - (wrap64 ((t697.length : Int) - t695)))) [.int .i64 (wrap64 ((l1.length : Int) - (wrap64 ((t697.length : Int) - t695))))] from rfl) (Reps.one (show Kd.M (Kd.int .i64) _ _ _ (wrap64 (Int.tdiv (wrap64 ((wrap64 ((wrap64 ((wrap64 (2 * t695)) - (t697.length : Int))) + (l1.length : Int))) - t696)) 2)) [.int .i64 (wrap64 (Int.tdiv (wrap64 ((wrap64 ((wrap64 ((wrap64 (2 * t695)) - (t697.length : Int))) + (l1.length : Int))) - t696)) 2))] from rfl) (Reps.none _ _))))))); intro v701 w14 ho15 hb hg_ hnew_; clear hg_ hnew_; (first | rw [← Ny700.out] at ho15 | (simp only [Int.reduceToNat] at ho15; rw [← Ny700.out] at ho15)); replace HO699 := Az (Kd.S_elder' (sU HO699.out) (Kd.R_base ho15) hb); have HO702 := Az (Kd.R_lower ho15 (below_size (bU1 HB.out GW694.out))); replace BK694 := kB BK694.out hb; replace HB := Az (below_step (bU1 HB.out GW694.out) hb); clear hb ho15))
 go_ret; exact ⟨_, rE, rU HO702.out, bU1 HB.out GW694.out⟩
mutual
def spec_l7All.l0 : Nat → Int → List (List Int) → Int → Option ((List (List Int)))
 | 0, _, _, _ => none
 | k + 1, x0, x3, x4 => if x4 < x0 then (spec_l7All.l1 k x0 x3 x4 (x3.length : Int) 0) else (some x3)
def spec_l7All.l1 : Nat → Int → List (List Int) → Int → Int → Int → Option ((List (List Int)))
 | 0, _, _, _, _, _ => none
 | k + 1, x0, x3, x4, x5, x6 => if x6 < x5 then (if 0 ≤ x6 then (if x6 < (x3.length : Int) then ((spec_l2Copy.f (rd_L1 x3 x6)).bind fun t710 => (if t710.length < 17592186044416 then (if x3.length < 5864062014805 then (spec_l7All.l1 k x0 (x3 ++ [(t710 ++ [x4])]) x4 x5 (wrap64 (x6 + 1))) else (none)) else (none))) else (none)) else (none)) else (spec_l7All.l0 k x0 x3 (wrap64 (x4 + 1)))
end
def spec_l7All.f (k : Nat) (a0 : Int) : Option ((List (List Int))) := spec_l7All.l0 k a0 (([(([] : List Int))] : List (List Int))) 0
theorem spec_l7All.mono_l : ∀ k, (∀ y0 y1 y2, LeO (spec_l7All.l0 k y0 y1 y2) (spec_l7All.l0 (k + 1) y0 y1 y2)) ∧ (∀ y0 y1 y2 y3 y4, LeO (spec_l7All.l1 k y0 y1 y2 y3 y4) (spec_l7All.l1 (k + 1) y0 y1 y2 y3 y4))
 | 0 => ⟨fun _ _ _ r h => by simp [spec_l7All.l0] at h, fun _ _ _ _ _ r h => by simp [spec_l7All.l1] at h⟩
 | k + 1 => by
  obtain ⟨ih0, ih1⟩ := spec_l7All.mono_l k; refine ⟨?_, ?_⟩
  ·
   intro y0 y1 y2
   unfold spec_l7All.l0
   repeat' first
   | (with_reducible exact ih0 _ _ _)
   | (with_reducible exact ih1 _ _ _ _ _)
   | (with_reducible exact LeO.refl _)
   | (with_reducible exact LeO.none _)
   | (with_reducible refine LeO.ite ?_ ?_)
   | (with_reducible refine LeO.bind ?_ (fun _ => ?_))
   | exact ih0 _ _ _
   | exact ih1 _ _ _ _ _
   | exact LeO.none _
   | refine LeO.ite ?_ ?_
   | refine LeO.bind ?_ (fun _ => ?_)
  ·
   intro y0 y1 y2 y3 y4
   unfold spec_l7All.l1
   repeat' first
   | (with_reducible exact ih0 _ _ _)
   | (with_reducible exact ih1 _ _ _ _ _)
   | (with_reducible exact LeO.refl _)
   | (with_reducible exact LeO.none _)
   | (with_reducible refine LeO.ite ?_ ?_)
   | (with_reducible refine LeO.bind ?_ (fun _ => ?_))
   | exact ih0 _ _ _
   | exact ih1 _ _ _ _ _
   | exact LeO.none _
   | refine LeO.ite ?_ ?_
   | refine LeO.bind ?_ (fun _ => ?_)
theorem spec_l7All.mono : ∀ a0 k, LeO (spec_l7All.f k a0) (spec_l7All.f (k + 1) a0) := by
 intro a0 k; obtain ⟨ih0, ih1⟩ := spec_l7All.mono_l k
 unfold spec_l7All.f
 repeat' first
   | (with_reducible exact ih0 _ _ _)
   | (with_reducible exact ih1 _ _ _ _ _)
   | (with_reducible exact LeO.refl _)
   | (with_reducible exact LeO.none _)
   | (with_reducible refine LeO.ite ?_ ?_)
   | (with_reducible refine LeO.bind ?_ (fun _ => ?_))
   | exact ih0 _ _ _
   | exact ih1 _ _ _ _ _
   | exact LeO.none _
   | refine LeO.ite ?_ ?_
   | refine LeO.bind ?_ (fun _ => ?_)
set_option maxHeartbeats 8000000 in
set_option maxRecDepth 100000 in
theorem spec_l7All.calls (k : Nat) (a0 : Int) (r : List (List Int)) (w : World) (h : spec_l7All.f k a0 = some r) :
  Calls Try.prog 75 #[.int .i64 a0] w fun e w' => ∃ v0_ : Value, e = .returned (v0_) ∧ Kd.N (Kd.slice 3 (Kd.int .i64)) 23 w' w.heap.size (fun k_ => (w.heap.size ≤ k_)) v0_ r ∧ Below w.heap.size w w' := by
 have HB := bZ w; have H := h; clear h; unfold spec_l7All.f at H; generalize Ny703 : (([] : List Int) : List Int) = y703 at H; replace Ny703 := Ay Ny703; generalize Ny706 : (([y703] : List (List Int)) : List (List Int)) = y706 at H; replace Ny706 := Ay Ny706; have H' := Az H; clear H; go_enter Try.func75, Try.ntmps75
 go_wp2_with (first | ((with_reducible refine gd 7 rfl ?_); refine Kd.R_lit (Kd.int .i64) _ 3 rfl (N := 7) rfl (xs := ([] : List Int)) (inner := []) (ok := fun _ => True) (okp := fun _ => True) hS ?hp (fun _ hk => hk) trivial (Below.refl _ _) (Nat.le_refl _) (by simp) ?_; (case hp => exact (Reps.none _ _)); intro v704 w2 ho3 hb hg_ hnew_; clear hg_ hnew_; (first | rw [← Ny703.out] at ho3 | (simp only [Int.reduceToNat] at ho3; rw [← Ny703.out] at ho3)); have HO705 := Az (Kd.R_lower (Kd.R_newM (M := fun k_ => (w.heap.size ≤ k_)) ho3 (below_size (bU0 HB.out)) (fun k_ h_ => h_)) (below_size (bU0 HB.out))); replace HB := Az (below_step (bU0 HB.out) hb); clear hb ho3; obtain ⟨Ao4, co4, eo4⟩ := Kd.R_slice HO705.out; subst eo4) | ((with_reducible refine gd 8 rfl ?_); refine Kd.N_lit (Kd.slice 3 (Kd.int .i64)) _ 23 ?hg (N' := 8) ?hd (xs := ([y703] : List (List Int))) (inner := [.slice Ao4 y703.length co4]) (ok := (fun k_ => (w.heap.size ≤ k_))) (okp := (fun k_ => (w.heap.size ≤ k_))) ?hr ?hp (fun _ hk => hk) ((show ∀ k_, w2.heap.size ≤ k_ → (fun k_ => (w.heap.size ≤ k_)) k_ from fun k_ hk => (Nat.le_trans (below_size (bU0 HB.out)) hk)) _ (Nat.le_refl _)) (Below.refl _ _) (Nat.le_refl _) (by simp) ?_; (case hd => rfl); (case hg => rfl); (case hr => first | (go_simp; done) | (go_simp; rfl)); (case hp => exact (Reps.one (show Kd.FK (Kd.slice 3 (Kd.int .i64)) _ _ y703 [.slice Ao4 y703.length co4] from (Kd.FK_slice_mk (Kd.R_reads' (Kd.R_mono (ok' := (fun k_ => (w.heap.size ≤ k_))) (HO705.out) (fun k_ hk => hk.1))).2.1 (Kd.R_F (Kd.R_mono (ok' := (fun k_ => (w.heap.size ≤ k_))) (HO705.out) (fun k_ hk => hk.1))))) (Reps.none _ _))); intro v707 w5 ho6 hb hg_ hnew_; clear hg_ hnew_; (first | rw [← Ny706.out] at ho6 | (simp only [Int.reduceToNat] at ho6; rw [← Ny706.out] at ho6)); have HO708 := Az (Kd.N_lower ho6 (below_size (bU0 HB.out))); replace HB := Az (below_step (bU0 HB.out) hb); clear HO705 hb ho6))
 go_loopg [3, 4] k (fun kq v3 v4 w' => ∃ (x3_1 : List (List Int)) (x4_1 : Int), v4 = .int .i64 x4_1 ∧ Aside0 (spec_l7All.l0 kq a0 x3_1 x4_1 = some r) ∧ Aside0 (kq ≤ k) ∧ Aside0 (Kd.N (Kd.slice 3 (Kd.int .i64)) 23 w' w.heap.size (fun k_ => (w.heap.size ≤ k_)) v3 x3_1) ∧ Aside0 (Below w.heap.size w w'))
 case atStart => exact ⟨(y706), (0), rS, H', ⟨Nat.le_refl _⟩, ⟨nU HO708.out⟩, ⟨bU0 HB.out⟩⟩
 case round =>
  clear H'; obtain ⟨x3_1, x4_1, rfl, HA, HK1, HO_3, HB⟩ := hrel
  rcases gk with _ | k1
  exact (nN HA.out).elim; have H := HA.out; clear HA; simp only [spec_l7All.l0] at H
  by_cases c7 : x4_1 < a0
  ·
   rw [if_pos c7] at H; have c7b0 := decide_eq_true c7; clear c7; have H' := Az H; clear H; obtain ⟨Ao8, co8, eo8⟩ := Kd.N_slice HO_3.out; subst eo8; go_wp2
   go_loopg [3, 6] k1 (fun kq v3 v6 w' => ∃ (x3_2 : List (List Int)) (x6_2 : Int), v6 = .int .i64 x6_2 ∧ Aside0 (spec_l7All.l1 kq a0 x3_2 x4_1 (x3_1.length : Int) x6_2 = some r) ∧ Aside0 (kq ≤ k1) ∧ Aside0 (Kd.N (Kd.slice 3 (Kd.int .i64)) 23 w' w.heap.size (fun k_ => (w.heap.size ≤ k_)) v3 x3_2) ∧ Aside0 (Below w.heap.size w w'))
   case atStart => exact ⟨(x3_1), (0), rS, H', ⟨Nat.le_refl _⟩, ⟨nU HO_3.out⟩, ⟨bU0 HB.out⟩⟩
   case round =>
    clear H'; obtain ⟨x3_2, x6_2, rfl, HA, HK2, HO_3, HB⟩ := hrel
    rcases gk with _ | k2
    exact (nN HA.out).elim; have H := HA.out; clear HA; simp only [spec_l7All.l1] at H
    replace H := gB H; rcases H with ⟨c9b0, H⟩ | ⟨c9b0, H⟩
    ·
     replace H := gD2 H; obtain ⟨c10b0, c11b0, H⟩ := H; replace H := bd H; obtain ⟨t710, A12, H⟩ := H; replace H := gP H; obtain ⟨c13, H⟩ := H; have LMc13 := Az c13; clear c13; generalize Ny713 : (t710 ++ [x4_1] : List Int) = y713 at H; replace Ny713 := Ay Ny713; replace H := gP H; obtain ⟨c14, H⟩ := H; have LMc14 := Az c14; clear c14; generalize Ny716 : (x3_2 ++ [y713] : List (List Int)) = y716 at H; replace Ny716 := Ay Ny716; have H' := Az H; clear H; obtain ⟨Ao15, co15, eo15⟩ := Kd.N_slice HO_3.out; subst eo15; have p709 : 0 ≤ (x6_2 : Int) := oA; have q709 : x6_2 < (x3_2.length : Int) := oA; obtain ⟨ad709, A709_0, c709_0, e709, hx709_0, hl709_0, hi709_0⟩ := at_L1 (Kd.N_reads' HO_3.out).2.2 x6_2 p709 q709
     cases e709
     obtain ⟨ce709, hce709, hMe709, hcc709⟩ := Kd.N_get HO_3.out [] x6_2 p709 (by first | exact q709 | exact oA | (have e_ := (Kd.N_reads' HO_3.out).1; omega)); obtain ⟨ua709_0, uc709_0, rfl, ul709_0, ge709_0⟩ := Kd.FK_slice_open hMe709; have hv709_0 := hcc709 0 _ rfl; rw [Nat.add_zero, show ((Kd.slice 3 (Kd.int .i64))).sz = 1 from rfl, Nat.mul_one] at hv709_0; replace hv709_0 := Option.some.inj (hv709_0.symm.trans hx709_0); injection hv709_0 with hva_ hvn_ hvc_; rw [hva_] at ge709_0; rw [hvc_] at ul709_0; have HL709_0 := Az (show Kd.V (Kd.int .i64) 3 _ w.heap.size _ _ (rd_L1 x3_2 x6_2) from Kd.V_mk ul709_0 ge709_0); clear hva_ hvn_ hvc_ ge709_0 ul709_0 hcc709 hce709; have HR709_0 := Az hi709_0; have HC709_0 := Az hl709_0; clear hi709_0 hl709_0; replace p709 := eq_true p709; replace q709 := eq_true q709
     go_wp2_with (first | ((with_reducible refine gK 92 rfl ?_); refine gC (some 26) Try.func92 #[.slice A709_0 (rd_L1 x3_2 x6_2).length c709_0] ?_; (with_reducible refine (spec_l2Copy.calls _ _ (rd_L1 x3_2 x6_2) t710 _ ?_ ?_ A12.out).mono ?_); (exact cU z4_2); exact HC709_0.out; rintro e w16 ⟨v711, rfl, ho0, hb⟩; refine ⟨_, rfl, ?_⟩; replace HO_3 := Az (Kd.N_elder' (nU HO_3.out) (Kd.R_base ho0) hb); replace HL709_0 := Az (Kd.V_elder' (vU HL709_0.out) (Kd.R_base ho0) hb); have HO712 := Az (Kd.R_lower (Kd.R_newM (M := fun k_ => (w.heap.size ≤ k_)) ho0 (below_size (bU0 HB.out)) (fun k_ h_ => h_)) (below_size (bU0 HB.out))); replace HR709_0 := Az (Kd.C_below z4_2 hb); replace HB := Az (below_step (bU0 HB.out) hb); clear hb ho0) | ((with_reducible refine gate_builtin (b := .append) (xs := #[.tmp 26, .tmp 28]) rfl ?_); at_builtin; refine Kd.R_append (Kd.int .i64) (w0 := w) w.heap.size rfl (.tmp 26) (.tmp 28) 23 3 (.int .i64 0) 8 rfl Try.underlying23 info3 rfl (by decide) (by omega) v711 t710 x4_1 [.int .i64 x4_1] (fun k_ => (w.heap.size ≤ k_)) (fun _ => False) rfl rfl ?aP (fun _ hk => hk.elim) ?aF ?aO ?aB ?aS ?aL ?_; (case aP => exact rfl); (case aB => exact (bU0 HB.out)); (case aF => exact (fun k_ hk => (Nat.le_trans (below_size (bU0 HB.out)) hk))); (case aO => exact (rU (Kd.R_mono HO712.out (fun _ hk => hk.1)))); (case aS => exact (below_size (bU0 HB.out))); (case aL => have := LMc13.out; omega); intro v714 w17 ho hb hg hat; rw [← Ny713.out] at ho; replace HO_3 := Az (Kd.N_afterv (ok := (fun k_ => (w.heap.size ≤ k_))) (nU HO_3.out) hg hat); replace HL709_0 := Az (Kd.V_afterv (ok := (fun k_ => (w.heap.size ≤ k_) ∧ some k_ ≠ (.slice (some ad709) x3_2.length co15 : Value).ownBlock)) (vU HL709_0.out) hg hat); replace HB := Az (hb); have HO715 := Az (ho); clear HO712 ho hb hg hat; obtain ⟨Ao19, co19, eo19⟩ := Kd.R_slice HO715.out; subst eo19) | ((with_reducible refine gate_builtin (b := .append) (xs := #[.tmp 21, .tmp 30]) rfl ?_); at_builtin; refine Kd.N_append (Kd.slice 3 (Kd.int .i64)) (w0 := w) w.heap.size rfl (.tmp 21) (.tmp 30) 54 23 (.slice none 0 0) 24 rfl Try.underlying54 info23 rfl (by decide) (by omega) (.slice (some ad709) x3_2.length co15) x3_2 y713 [.slice Ao19 y713.length co19] (fun k_ => (w.heap.size ≤ k_)) (fun k_ => ((fun k_ => (w.heap.size ≤ k_))) k_ ∧ some k_ ≠ (.slice (some ad709) x3_2.length co15 : Value).ownBlock) rfl rfl ?aP (fun _ hk => hk) ?aF ?aO ?aB ?aS ?aL ?_; (case aP => exact (Kd.FK_slice_mk (Kd.R_reads' (Kd.R_mono (ok' := (fun k_ => ((fun k_ => (w.heap.size ≤ k_))) k_ ∧ some k_ ≠ (.slice (some ad709) x3_2.length co15 : Value).ownBlock)) (Kd.R_apart' (HO715.out) (Kd.N_typed HO_3.out) (by decide)) (fun k_ hk => ⟨hk.1, hk.2⟩))).2.1 (Kd.R_F (Kd.R_mono (ok' := (fun k_ => ((fun k_ => (w.heap.size ≤ k_))) k_ ∧ some k_ ≠ (.slice (some ad709) x3_2.length co15 : Value).ownBlock)) (Kd.R_apart' (HO715.out) (Kd.N_typed HO_3.out) (by decide)) (fun k_ hk => ⟨hk.1, hk.2⟩))))); (case aB => exact (bU0 HB.out)); (case aF => exact (fun k_ hk => (Nat.le_trans (below_size (bU0 HB.out)) hk))); (case aO => exact (nU (Kd.N_mono HO_3.out (fun _ hk => hk.1)))); (case aS => exact (below_size (bU0 HB.out))); (case aL => have := LMc14.out; omega); intro v717 w18 ho hb hg hat; rw [← Ny716.out] at ho; replace HL709_0 := Az (Kd.V_afterv (ok := (fun k_ => (w.heap.size ≤ k_) ∧ oS k_ Ao19 y713.length co19)) (vM HL709_0.out) hg hat); replace HB := Az (hb); have HO718 := Az (ho); clear HO_3 HO715 ho hb hg hat))
     go_roundg k2
     case measure => exact mO
     case rel => exact ⟨(y716), (wrap64 (x6_2 + 1)), rS, H', ⟨mO⟩, ⟨nU HO718.out⟩, ⟨bU0 HB.out⟩⟩
    ·
     have H' := Az H; clear H; go_wp2; go_roundg k2
     case measure => exact mO
     case rel => exact ⟨(x3_2), (wrap64 (x4_1 + 1)), rS, H', ⟨mO⟩, ⟨nU HO_3.out⟩, ⟨bU0 HB.out⟩⟩
  · rw [if_neg c7] at H; have c7b0 := decide_eq_false c7; clear c7; obtain rfl := Option.some.inj H; go_wp2; go_ret; exact ⟨_, rE, nU HO_3.out, bU0 HB.out⟩
def spec_l7Power.l0 : Nat → Int → Int → Int → Int → Option (Int)
 | 0, _, _, _, _ => none
 | k + 1, x0, x1, x5, x6 => if x6 < x1 then (spec_l7Power.l0 k x0 x1 (wrap64 (x0 * x5)) (wrap64 (x6 + 1))) else (some x5)
def spec_l7Power.f (k : Nat) (a0 : Int) (a1 : Int) : Option (Int) := spec_l7Power.l0 k a0 a1 1 0
set_option maxHeartbeats 8000000 in
set_option maxRecDepth 100000 in
theorem spec_l7Power.calls (k : Nat) (a0 : Int) (a1 : Int) (r : Int) (w : World) (h : spec_l7Power.f k a0 a1 = some r) :
  Calls Try.prog 76 #[.int .i64 a0, .int .i64 a1] w fun e w' => e = .returned (.int .i64 r) ∧ Drawn0 w w' := by
 have H := h; clear h; unfold spec_l7Power.f at H; have H' := Az H; clear H; go_enter Try.func76, Try.ntmps76; go_wp2
 go_loopg [5, 6] k (fun kq v5 v6 w' => ∃ (x5_1 : Int) (x6_1 : Int), v5 = .int .i64 x5_1 ∧ v6 = .int .i64 x6_1 ∧ Aside0 (spec_l7Power.l0 kq a0 a1 x5_1 x6_1 = some r) ∧ Aside0 (kq ≤ k) ∧ Drawn0 w w')
 case atStart => exact ⟨(1), (0), rS, rS, H', ⟨Nat.le_refl _⟩, by repeat (first | exact Drawn0.refl _ | apply Drawn0.step)⟩
 case round =>
  clear H'; obtain ⟨x5_1, x6_1, rfl, rfl, HA, HK1, ⟨m1, rfl⟩⟩ := hrel
  rcases gk with _ | k1
  exact (nN HA.out).elim; have H := HA.out; clear HA; simp only [spec_l7Power.l0] at H
  replace H := gB H; rcases H with ⟨c3b0, H⟩ | ⟨c3b0, H⟩
  ·
   have H' := Az H; clear H; go_wp2; go_roundg k1
   case measure => exact mO
   case rel => exact ⟨(wrap64 (a0 * x5_1)), (wrap64 (x6_1 + 1)), rS, rS, H', ⟨mO⟩, by repeat (first | exact Drawn0.refl _ | apply Drawn0.step)⟩
  · obtain rfl := Option.some.inj H; go_wp2; go_ret; exact ⟨by first | rfl | (simp; done) | (simp [*]; done), by repeat (first | exact Drawn0.refl _ | apply Drawn0.step)⟩
mutual
def spec_RibbonValue.j0 : Nat → Int → Int → Int → Bool → List Int → List Int → Option (Int)
 | 0, _, _, _, _, _, _ => none
 | k + 1, x1, x2, x3, x30, xZ0, xZ1 => if x30 = true then (some (-1)) else ((spec_l7All.f k (wrap64 ((xZ1.length : Int) / 2))).bind fun t724 => (spec_RibbonValue.l0 k x1 x2 x3 0 t724 0 xZ0 xZ1))
def spec_RibbonValue.l0 : Nat → Int → Int → Int → Int → List (List Int) → Int → List Int → List Int → Option (Int)
 | 0, _, _, _, _, _, _, _, _ => none
 | k + 1, x1, x2, x3, x9, x10, x11, xZ0, xZ1 => if x11 < (x10.length : Int) then (if 0 ≤ x11 then ((spec_l7Counts.f k xZ0 xZ1 (rd_L1 x10 x11)).bind fun t728 => (if 0 < (t728.length : Int) then ((spec_l7Power.f k x1 (wrap64 ((rd t728 0) - 1))).bind fun t732 => (if 3 < (t728.length : Int) then ((spec_l7Power.f k x2 (rd t728 3)).bind fun t734 => (if 4 < (t728.length : Int) then ((spec_l7Power.f k x3 (rd t728 4)).bind fun t736 => (spec_RibbonValue.l0 k x1 x2 x3 (wrap64 (x9 + (wrap64 ((wrap64 (t732 * t734)) * t736)))) x10 (wrap64 (x11 + 1)) xZ0 xZ1)) else (none))) else (none))) else (none))) else (none)) else (some x9)
end
def spec_RibbonValue.f (k : Nat) (l0_0 : List Int) (l0_1 : List Int) (a1 : Int) (a2 : Int) (a3 : Int) : Option (Int) := (spec_MapValid.f k l0_0 l0_1).bind fun t720 => (if t720 = true then ((spec_l6In.f a1 0 3).bind fun t721 => (if t721 = true then ((spec_l6In.f a2 0 3).bind fun t722 => (if t722 = true then ((spec_l6In.f a3 0 3).bind fun t723 => (spec_RibbonValue.j0 k a1 a2 a3 (!t723) l0_0 l0_1)) else (spec_RibbonValue.j0 k a1 a2 a3 true l0_0 l0_1))) else (spec_RibbonValue.j0 k a1 a2 a3 true l0_0 l0_1))) else (spec_RibbonValue.j0 k a1 a2 a3 true l0_0 l0_1))
def spec_RibbonValue.T9 : Bool × List (List Nat × List Nat) := (true, [([], []), ([], []), ([], []), ([2], [2]), ([3], [3]), ([4], [4]), ([1, 5], [1, 5]), ([], []), ([], []), ([8], [8]), ([9], [9]), ([7, 10, 6], [7, 10]), ([6, 11], [6, 11]), ([], []), ([], []), ([14], [14]), ([15], [15]), ([13, 16, 11], [13, 16]), ([12, 17], [12, 17]), ([0, 18], [0, 18]), ([19, 17, 0, 1, 2, 3, 4, 5, 6, 7, 8, 9, 10, 11, 12, 13, 14, 15, 16, 17, 18, 19], [0, 19])])
def spec_RibbonValue.B9 : List Nat := [0, 0, 0, 4, 12, 28, 62, 0, 0, 256, 768, 2046, 4094, 0, 0, 16384, 49152, 126974, 262142, 524287, 1048575]
theorem spec_RibbonValue.tab9 : rtab .any (opsOf Try.f38 9) = spec_RibbonValue.T9 := by kernel_rfl
theorem spec_RibbonValue.bits9 : waitsOk spec_RibbonValue.T9.2 spec_RibbonValue.B9 = true := by kernel_rfl
set_option maxHeartbeats 8000000 in
set_option maxRecDepth 100000 in
theorem spec_RibbonValue.calls (k : Nat) (A0_0 : Option Addr) (c0_0 : Nat) (l0_0 : List Int) (A0_1 : Option Addr) (c0_1 : Nat) (l0_1 : List Int) (a1 : Int) (a2 : Int) (a3 : Int) (r : Int) (w : World) (hr0_0 : Kd.C (Kd.int .i64) w A0_0 l0_0.length l0_0) (hc0_0 : l0_0.length ≤ c0_0) (hr0_1 : Kd.C (Kd.int .i64) w A0_1 l0_1.length l0_1) (hc0_1 : l0_1.length ≤ c0_1) (h : spec_RibbonValue.f k l0_0 l0_1 a1 a2 a3 = some r) :
  Calls Try.prog 38 #[.agg #[.slice A0_0 l0_0.length c0_0, .slice A0_1 l0_1.length c0_1], .int .i64 a1, .int .i64 a2, .int .i64 a3] w fun e w' => e = .returned (.int .i64 r) ∧ Below w.heap.size w w' := by
 have hu25 := Try.underlying25; have HR0_0 := Az hr0_0; have HC0_0 := Az hc0_0; clear hr0_0 hc0_0; have HR0_1 := Az hr0_1; have HC0_1 := Az hc0_1; clear hr0_1 hc0_1; have HB := bZ w; have H := h; clear h; unfold spec_RibbonValue.f at H; have HC5 := Az H; clear H; go_enter Try.func38, Try.ntmps38
 go_upto_region 1 with (first | ((with_reducible refine gd 4 rfl ?_); refine bE 4 #[.slice A0_0 l0_0.length c0_0, .slice A0_1 l0_1.length c0_1] 25 ?_; intro gb719 hg w6 hbox hb; have BK719 := Az (hbox); have GW719 := gW hg (bU0 HB.out); replace HB := Az (below_step (bU0 HB.out) hb); clear hb hbox hg))
 go_cut [30] (fun v30 wc => ∃ (kq : Nat) (x30_4 : Bool), v30 = .bool x30_4 ∧ Aside0 (spec_RibbonValue.j0 kq a1 a2 a3 x30_4 l0_0 l0_1 = some r) ∧ Aside0 (kq ≤ k) ∧ Aside0 (wc.heap[gb719]? = some (.cells #[(.slice A0_0 l0_0.length c0_0), (.slice A0_1 l0_1.length c0_1)] 25 (0, 0))) ∧ Aside0 (Below w.heap.size w wc))
 case first =>
  have H := HC5.out; clear HC5; replace H := bd H; obtain ⟨t720, A7, H⟩ := H
  by_cases c8 : t720 = true
  ·
   subst c8; rw [if_pos rfl] at H; replace H := bd H; obtain ⟨t721, A9, H⟩ := H
   by_cases c10 : t721 = true
   ·
    subst c10; rw [if_pos rfl] at H; replace H := bd H; obtain ⟨t722, A11, H⟩ := H
    by_cases c12 : t722 = true
    ·
     subst c12; rw [if_pos rfl] at H; replace H := bd H; obtain ⟨t723, A13, H⟩ := H; have H' := Az H; clear H; have hz14 := bc2 BK719.out
     go_wp2_with (first | ((with_reducible refine gK 61 rfl ?_); refine gC (some 14) Try.func61 #[.agg #[.slice A0_0 l0_0.length c0_0, .slice A0_1 l0_1.length c0_1]] ?_; (with_reducible refine (spec_MapValid.calls k _ _ l0_0 _ _ l0_1 true _ ?_ ?_ ?_ ?_ A7.out).mono ?_); exact cU (Kd.C_below HR0_0.out HB.out); exact HC0_0.out; exact cU (Kd.C_below HR0_1.out HB.out); exact HC0_1.out; rintro e w15 ⟨rfl, hb⟩; refine ⟨_, rfl, ?_⟩; replace BK719 := kB BK719.out hb; replace HB := Az z4_4; clear hb) | (go_at_call 60; (with_reducible refine (spec_l6In.calls a1 0 3 true _ A9.out).mono ?_); rintro e w' ⟨rfl, ⟨nd, rfl⟩⟩) | (go_at_call 60; (with_reducible refine (spec_l6In.calls a2 0 3 true _ A11.out).mono ?_); rintro e w' ⟨rfl, ⟨nd, rfl⟩⟩) | (go_at_call 60; (with_reducible refine (spec_l6In.calls a3 0 3 t723 _ A13.out).mono ?_); rintro e w' ⟨rfl, ⟨nd, rfl⟩⟩))
     go_meet
     case rel => exact ⟨_, (!t723), rS, H', ⟨mO⟩, ⟨kU BK719.out⟩, ⟨bU1 HB.out GW719.out⟩⟩
    ·
     replace c12 := Bool.eq_false_iff.mpr c12; subst c12; rw [if_neg nT] at H; have H' := Az H; clear H; have hz16 := bc2 BK719.out
     go_wp2_with (first | ((with_reducible refine gK 61 rfl ?_); refine gC (some 14) Try.func61 #[.agg #[.slice A0_0 l0_0.length c0_0, .slice A0_1 l0_1.length c0_1]] ?_; (with_reducible refine (spec_MapValid.calls k _ _ l0_0 _ _ l0_1 true _ ?_ ?_ ?_ ?_ A7.out).mono ?_); exact cU (Kd.C_below HR0_0.out HB.out); exact HC0_0.out; exact cU (Kd.C_below HR0_1.out HB.out); exact HC0_1.out; rintro e w17 ⟨rfl, hb⟩; refine ⟨_, rfl, ?_⟩; replace BK719 := kB BK719.out hb; replace HB := Az z4_4; clear hb) | (go_at_call 60; (with_reducible refine (spec_l6In.calls a1 0 3 true _ A9.out).mono ?_); rintro e w' ⟨rfl, ⟨nd, rfl⟩⟩) | (go_at_call 60; (with_reducible refine (spec_l6In.calls a2 0 3 false _ A11.out).mono ?_); rintro e w' ⟨rfl, ⟨nd, rfl⟩⟩))
     go_meet
     case rel => exact ⟨_, (true), rS, H', ⟨mO⟩, ⟨kU BK719.out⟩, ⟨bU1 HB.out GW719.out⟩⟩
   ·
    replace c10 := Bool.eq_false_iff.mpr c10; subst c10; rw [if_neg nT] at H; have H' := Az H; clear H; have hz18 := bc2 BK719.out
    go_wp2_with (first | ((with_reducible refine gK 61 rfl ?_); refine gC (some 14) Try.func61 #[.agg #[.slice A0_0 l0_0.length c0_0, .slice A0_1 l0_1.length c0_1]] ?_; (with_reducible refine (spec_MapValid.calls k _ _ l0_0 _ _ l0_1 true _ ?_ ?_ ?_ ?_ A7.out).mono ?_); exact cU (Kd.C_below HR0_0.out HB.out); exact HC0_0.out; exact cU (Kd.C_below HR0_1.out HB.out); exact HC0_1.out; rintro e w19 ⟨rfl, hb⟩; refine ⟨_, rfl, ?_⟩; replace BK719 := kB BK719.out hb; replace HB := Az z4_4; clear hb) | (go_at_call 60; (with_reducible refine (spec_l6In.calls a1 0 3 false _ A9.out).mono ?_); rintro e w' ⟨rfl, ⟨nd, rfl⟩⟩))
    go_meet
    case rel => exact ⟨_, (true), rS, H', ⟨mO⟩, ⟨kU BK719.out⟩, ⟨bU1 HB.out GW719.out⟩⟩
  ·
   replace c8 := Bool.eq_false_iff.mpr c8; subst c8; rw [if_neg nT] at H; have H' := Az H; clear H; have hz20 := bc2 BK719.out
   go_wp2_with (first | ((with_reducible refine gK 61 rfl ?_); refine gC (some 14) Try.func61 #[.agg #[.slice A0_0 l0_0.length c0_0, .slice A0_1 l0_1.length c0_1]] ?_; (with_reducible refine (spec_MapValid.calls k _ _ l0_0 _ _ l0_1 false _ ?_ ?_ ?_ ?_ A7.out).mono ?_); exact cU (Kd.C_below HR0_0.out HB.out); exact HC0_0.out; exact cU (Kd.C_below HR0_1.out HB.out); exact HC0_1.out; rintro e w21 ⟨rfl, hb⟩; refine ⟨_, rfl, ?_⟩; replace BK719 := kB BK719.out hb; replace HB := Az z4_4; clear hb))
   go_meet
   case rel => exact ⟨_, (true), rS, H', ⟨mO⟩, ⟨kU BK719.out⟩, ⟨bU1 HB.out GW719.out⟩⟩
 case rest =>
  clear HC5; obtain ⟨kq, x30_4, rfl, HA, HJ4, BK719, HB⟩ := hcut
  rcases kq with _ | kj4
  exact (nN HA.out).elim; have H := HA.out; clear HA; simp only [spec_RibbonValue.j0] at H
  by_cases c22 : x30_4 = true
  · subst c22; rw [if_pos rfl] at H; obtain rfl := Option.some.inj H; go_wp2; go_ret; exact ⟨rE, bU1 HB.out GW719.out⟩
  ·
   replace c22 := Bool.eq_false_iff.mpr c22; subst c22; rw [if_neg nT] at H; replace H := bd H; obtain ⟨t724, A23, H⟩ := H; have H' := Az H; clear H; have hz24 := bc2 BK719.out
   go_wp2_with (first | ((with_reducible refine gK 75 rfl ?_); refine gC (some 35) Try.func75 #[.int .i64 (wrap64 ((l0_1.length : Int) / 2))] ?_; (with_reducible refine (spec_l7All.calls kj4 (wrap64 ((l0_1.length : Int) / 2)) t724 _ A23.out).mono ?_); rintro e w25 ⟨v725, rfl, ho0, hb⟩; refine ⟨_, rfl, ?_⟩; have HO726 := Az (Kd.N_lower (Kd.N_mono (ok' := fun k_ => k_ ≠ gb719) ho0 (fun k_ hk_ => (Kd.freshB (g := gb719) (o := .cells #[.slice A0_0 l0_0.length c0_0, .slice A0_1 l0_1.length c0_1] 25 (0, 0)) (kU BK719.out) k_ hk_))) (below_size (bU1 HB.out GW719.out))); replace BK719 := kB BK719.out hb; replace HB := Az z4_4; clear hb ho0))
   go_loopg [9, 11] kj4 (fun kq v9 v11 w' => ∃ (x9_2 : Int) (x11_2 : Int), v9 = .int .i64 x9_2 ∧ v11 = .int .i64 x11_2 ∧ Aside0 (spec_RibbonValue.l0 kq a1 a2 a3 x9_2 t724 x11_2 l0_0 l0_1 = some r) ∧ Aside0 (kq ≤ kj4) ∧ Aside0 (Kd.N (Kd.slice 3 (Kd.int .i64)) 23 w' w.heap.size (fun k_ => k_ ≠ gb719) v725 t724) ∧ Aside0 (w'.heap[gb719]? = some (.cells #[(.slice A0_0 l0_0.length c0_0), (.slice A0_1 l0_1.length c0_1)] 25 (0, 0))) ∧ Aside0 (Below w.heap.size w w'))
   case atStart => exact ⟨(0), (0), rS, rS, H', ⟨Nat.le_refl _⟩, ⟨nU HO726.out⟩, ⟨kU BK719.out⟩, ⟨bU1 HB.out GW719.out⟩⟩
   case round =>
    clear H'; obtain ⟨x9_2, x11_2, rfl, rfl, HA, HK2, HO_10, BK719, HB⟩ := hrel
    rcases gk with _ | k2
    exact (nN HA.out).elim; have H := HA.out; clear HA; simp only [spec_RibbonValue.l0] at H
    replace H := gB H; rcases H with ⟨c26b0, H⟩ | ⟨c26b0, H⟩
    ·
     replace H := gD1 H; obtain ⟨c27b0, H⟩ := H; replace H := bd H; obtain ⟨t728, A28, H⟩ := H; replace H := gP H; obtain ⟨c29, H⟩ := H; have c29b0 := decide_eq_true c29; have c29b1 : decide (0 < t728.length) = true := decide_eq_true (by omega); clear c29; replace H := bd H; obtain ⟨t732, A30, H⟩ := H; replace H := gP H; obtain ⟨c31, H⟩ := H; have c31b0 := decide_eq_true c31; have c31b1 : decide (3 < t728.length) = true := decide_eq_true (by omega); clear c31; replace H := bd H; obtain ⟨t734, A32, H⟩ := H; replace H := gP H; obtain ⟨c33, H⟩ := H; have c33b0 := decide_eq_true c33; have c33b1 : decide (4 < t728.length) = true := decide_eq_true (by omega); clear c33; replace H := bd H; obtain ⟨t736, A34, H⟩ := H; have H' := Az H; clear H; obtain ⟨Ao35, co35, eo35⟩ := Kd.N_slice HO_10.out; subst eo35
     try go_wp2
     replace HO_10 := Az (Kd.N_drew HO_10.out); replace BK719 := Az (blk_drew BK719.out); replace HB := Az (below_drew1 HB.out); have p727 : 0 ≤ (x11_2 : Int) := oA; have q727 : x11_2 < (t724.length : Int) := oA; obtain ⟨ad727, A727_0, c727_0, e727, hx727_0, hl727_0, hi727_0⟩ := at_L1 (Kd.N_reads' HO_10.out).2.2 x11_2 p727 q727
     cases e727
     obtain ⟨ce727, hce727, hMe727, hcc727⟩ := Kd.N_get HO_10.out [] x11_2 p727 (by first | exact q727 | exact oA | (have e_ := (Kd.N_reads' HO_10.out).1; omega)); obtain ⟨ua727_0, uc727_0, rfl, ul727_0, ge727_0⟩ := Kd.FK_slice_open hMe727; have hv727_0 := hcc727 0 _ rfl; rw [Nat.add_zero, show ((Kd.slice 3 (Kd.int .i64))).sz = 1 from rfl, Nat.mul_one] at hv727_0; replace hv727_0 := Option.some.inj (hv727_0.symm.trans hx727_0); injection hv727_0 with hva_ hvn_ hvc_; rw [hva_] at ge727_0; rw [hvc_] at ul727_0; have HL727_0 := Az (show Kd.V (Kd.int .i64) 3 _ w.heap.size _ _ (rd_L1 t724 x11_2) from Kd.V_mk ul727_0 ge727_0); clear hva_ hvn_ hvc_ ge727_0 ul727_0 hcc727 hce727; have HR727_0 := Az hi727_0; have HC727_0 := Az hl727_0; clear hi727_0 hl727_0; replace p727 := eq_true p727; replace q727 := eq_true q727; refine start_ (n := 7) (S := fun w' => w'.cell? ⟨gb719, 0, none⟩ = some (.slice A0_0 l0_0.length c0_0) ∧ w'.cell? ⟨gb719, 1, none⟩ = some (.slice A0_1 l0_1.length c0_1) ∧ w'.cell? (ad727.add (x11_2).toNat) = some (.slice A727_0 (rd_L1 t724 x11_2).length c727_0)) (ds := []) (bv 7 0) (by kernel_rfl) rfl rfl ⟨(blk_cell BK719.out 0).trans rfl, (blk_cell BK719.out 1).trans rfl, hx727_0⟩ (fun hHeld => ?_); generalize wr.drew = w36 at HO_10 BK719 HB HL727_0 HR727_0 hx727_0 hHeld ⊢; refine pure_ (i := 1) (N := some 43) (v := ?_) (a' := ?_) (bv 7 2) rfl rfl (by kernel_rfl) (fun _ _ _ h => h) (Or.inl ⟨by rfl, ?_⟩) ?_ ?_; rotate_left; (exact yP); rotate_left; (exact aP); refine pure_ (i := 2) (N := some 44) (v := ?_) (a' := ?_) (bv 7 6) rfl rfl (by kernel_rfl) (fun _ _ _ h => h) (Or.inl ⟨by rfl, ?_⟩) ?_ ?_; rotate_left; (exact yP); rotate_left; (exact aP); refine pure_ (i := 3) (N := some 45) (v := ?_) (a' := ?_) (bv 7 14) rfl rfl (by kernel_rfl) (fun _ _ _ h => h) (Or.inl ⟨by rfl, ?_⟩) ?_ ?_; rotate_left; (exact yP); rotate_left; (exact aP); refine take_ (i := 0) (N := some 42) (v := ?_) (a' := ?_) (bv 7 15) rfl rfl (by kernel_rfl) (fun _ _ _ h => h) (Or.inl ⟨by rfl, ?_⟩) hHeld ?_ ?_; rotate_left
     ·
      rintro w' ⟨s0, s1, s2⟩; go_simp
      with_reducible rfl
     rotate_left; (exact aP); refine take_ (i := 4) (N := some 46) (v := ?_) (a' := ?_) (bv 7 31) rfl rfl (by kernel_rfl) (fun _ _ _ h => h) (Or.inl ⟨by rfl, ?_⟩) hHeld ?_ ?_; rotate_left
     ·
      rintro w' ⟨s0, s1, s2⟩; go_simp
      with_reducible rfl
     rotate_left; (exact aP); refine one_ (i := 5) (N := some 47) (bv 7 63) rfl rfl (by kernel_rfl) (by decide) (fun K hK => ?_); refine goes_ Try.func69 (by kernel_rfl) rfl #[.agg #[.slice A0_0 l0_0.length c0_0, .slice A0_1 l0_1.length c0_1], .slice A727_0 (rd_L1 t724 x11_2).length c727_0] (by rfl) rfl rfl lQ ?_
     with_reducible refine (spec_l7Counts.calls k2 _ _ l0_0 _ _ l0_1 _ _ (rd_L1 t724 x11_2) t728 _ ?side1 ?side2 ?side3 ?side4 ?side5 ?side6 A28.out).mono ?_
     (case side1 => exact cU (Kd.C_below HR0_0.out HB.out))
     (case side2 => exact HC0_0.out)
     (case side3 => exact cU (Kd.C_below HR0_1.out HB.out))
     (case side4 => exact HC0_1.out)
     (case side5 => exact cU z4_3)
     (case side6 => exact HC727_0.out)
     rintro e w37 ⟨v729, rfl, ho0, hb⟩; have HS2_ := (hb.cell (World.block_lt_of_cell? _ _ (hHeld.2.2))).trans (hHeld.2.2); refine ⟨_, rfl, ?_⟩; replace HO_10 := Az (Kd.N_elder' (nU HO_10.out) (Kd.R_base ho0) hb); replace HL727_0 := Az (Kd.V_elder' (vU HL727_0.out) (Kd.R_base ho0) hb); have HO730 := Az (Kd.R_lower ho0 (below_size (bU1 HB.out GW719.out))); replace BK719 := kB BK719.out hb; replace HR727_0 := Az (Kd.C_below z4_3 hb); replace HB := Az z4_4; clear hb ho0; refine hK.out _ _ ⟨(blk_cell BK719.out 0).trans rfl, (blk_cell BK719.out 1).trans rfl, HS2_⟩ (fun hHeld => ?_); clear hK K; refine norm_ (a' := ?_) ?_ ?_; rotate_left
     ·
      show Act.put _ (some 47) _ = _
      simp only [Act.put, List.setIfInBounds_toArray, List.set_cons_zero, List.set_cons_succ, i64_w, i32_w]; rfl
     refine pure_ (i := 6) (N := some 12) (v := ?_) (a' := ?_) (bv 7 127) rfl rfl (by kernel_rfl) (fun _ _ _ h => h) (Or.inl ⟨by rfl, ?_⟩) ?_ ?_; rotate_left; (exact yP); rotate_left; (exact aP); refine done_ (by kernel_rfl) ?_
     try go_wp2
     replace HO_10 := Az (Kd.N_drew HO_10.out); replace HL727_0 := Az (Kd.V_drew HL727_0.out); replace HO730 := Az (Kd.R_drew HO730.out); replace BK719 := Az (blk_drew BK719.out); replace HR727_0 := Az (Kd.C_drew HR727_0.out); replace HB := Az (below_drew1 HB.out); obtain ⟨Ao39, co39, eo39⟩ := Kd.R_slice HO730.out; (first | subst eo39 | (injection eo39 with f1_ f2_ f3_; have f4_ := f1_.symm; have f5_ := f3_.symm; clear f1_ f2_ f3_; subst f4_; subst f5_)); have p731 : 0 ≤ (0 : Int) := (by omega); have q731 : 0 < (t728.length : Int) := oA; obtain ⟨ad731, e731, hx731_0⟩ := Kd.at_int (Kd.R_reads' HO730.out).2.2 0 p731 q731
     cases e731
     have qi731 : (0 < t728.length) = True := eq_true (by omega); rw [show ((0 : Int)).toNat = 0 from rfl] at hx731_0; rw [Addr.add_zero'] at hx731_0; replace p731 := eq_true p731; replace q731 := eq_true q731; have p733 : 0 ≤ (3 : Int) := (by omega); have q733 : 3 < (t728.length : Int) := oA; obtain ⟨ad733, e733, hx733_0⟩ := Kd.at_int (Kd.R_reads' HO730.out).2.2 3 p733 q733; obtain rfl : ad731 = ad733 := (by injection e733); simp only [show (3 : Int).toNat = 3 from rfl, Nat.reduceMul, Nat.reduceEqDiff, Go.Addr.add, ↓reduceIte] at hx733_0; have qi733 : (3 < t728.length) = True := eq_true (by omega); replace p733 := eq_true p733; replace q733 := eq_true q733; have p735 : 0 ≤ (4 : Int) := (by omega); have q735 : 4 < (t728.length : Int) := oA; obtain ⟨ad735, e735, hx735_0⟩ := Kd.at_int (Kd.R_reads' HO730.out).2.2 4 p735 q735; obtain rfl : ad731 = ad735 := (by injection e735); simp only [show (4 : Int).toNat = 4 from rfl, Nat.reduceMul, Nat.reduceEqDiff, Go.Addr.add, ↓reduceIte] at hx735_0; have qi735 : (4 < t728.length) = True := eq_true (by omega); replace p735 := eq_true p735; replace q735 := eq_true q735; refine start_ (n := 21) (S := fun w' => w'.cell? ad731 = some (.int .i64 (rd t728 0)) ∧ w'.cell? ⟨ad731.block, ad731.off + 3, none⟩ = some (.int .i64 (rd t728 3)) ∧ w'.cell? ⟨ad731.block, ad731.off + 4, none⟩ = some (.int .i64 (rd t728 4))) (ds := []) (bv 21 0) (by kernel_rfl) rfl rfl ⟨hx731_0, hx733_0, hx735_0⟩ (fun hHeld => ?_); refine with_tabW spec_RibbonValue.tab9 spec_RibbonValue.bits9 (fun HT_ HW_ => ?_); generalize w37.drew = w38 at HO_10 HL727_0 HO730 BK719 HR727_0 HB hx731_0 hx733_0 hx735_0 hHeld ⊢; refine pure_ (i := 0) (N := some 48) (v := ?_) (a' := ?_) (bv 21 1) rfl rfl (any_of HT_.out (by kernel_rfl)) (fun _ _ _ h => h) (Or.inl ⟨by rfl, ?_⟩) ?_ ?_; rotate_left; (exact yP); rotate_left; (exact aP); refine pure_ (i := 1) (N := some 49) (v := ?_) (a' := ?_) (bv 21 3) rfl rfl (any_of HT_.out (by kernel_rfl)) (fun _ _ _ h => h) (Or.inl ⟨by rfl, ?_⟩) ?_ ?_; rotate_left; (exact yP); rotate_left; (exact aP); refine pure_ (i := 2) (N := some 50) (v := ?_) (a' := ?_) (bv 21 7) rfl rfl (any_of HT_.out (by kernel_rfl)) (fun _ _ _ h => h) (Or.inl ⟨by rfl, ?_⟩) ?_ ?_; rotate_left; (exact yP); rotate_left; (exact aP); refine pure_ (i := 3) (N := some 51) (v := ?_) (a' := ?_) (bv 21 15) rfl rfl (any_of HT_.out (by kernel_rfl)) (fun _ _ _ h => h) (Or.inl ⟨by rfl, ?_⟩) ?_ ?_; rotate_left; (exact yP); rotate_left; (exact aP); refine pure_ (i := 7) (N := some 55) (v := ?_) (a' := ?_) (bv 21 143) rfl rfl (any_of HT_.out (by kernel_rfl)) (fun _ _ _ h => h) (Or.inl ⟨by rfl, ?_⟩) ?_ ?_; rotate_left; (exact yP); rotate_left; (exact aP); refine pure_ (i := 8) (N := some 56) (v := ?_) (a' := ?_) (bv 21 399) rfl rfl (any_of HT_.out (by kernel_rfl)) (fun _ _ _ h => h) (Or.inl ⟨by rfl, ?_⟩) ?_ ?_; rotate_left; (exact yP); rotate_left; (exact aP); refine pure_ (i := 9) (N := some 57) (v := ?_) (a' := ?_) (bv 21 911) rfl rfl (any_of HT_.out (by kernel_rfl)) (fun _ _ _ h => h) (Or.inl ⟨by rfl, ?_⟩) ?_ ?_; rotate_left; (exact yP); rotate_left; (exact aP); refine pure_ (i := 13) (N := some 61) (v := ?_) (a' := ?_) (bv 21 9103) rfl rfl (any_of HT_.out (by kernel_rfl)) (fun _ _ _ h => h) (Or.inl ⟨by rfl, ?_⟩) ?_ ?_; rotate_left; (exact yP); rotate_left; (exact aP); refine pure_ (i := 14) (N := some 62) (v := ?_) (a' := ?_) (bv 21 25487) rfl rfl (any_of HT_.out (by kernel_rfl)) (fun _ _ _ h => h) (Or.inl ⟨by rfl, ?_⟩) ?_ ?_; rotate_left; (exact yP); rotate_left; (exact aP); refine pure_ (i := 15) (N := some 63) (v := ?_) (a' := ?_) (bv 21 58255) rfl rfl (any_of HT_.out (by kernel_rfl)) (fun _ _ _ h => h) (Or.inl ⟨by rfl, ?_⟩) ?_ ?_; rotate_left; (exact yP); rotate_left; (exact aP); refine take_ (i := 4) (N := some 52) (v := ?_) (a' := ?_) (bv 21 58271) rfl rfl (take_ofW HT_.out HW_.out (by kernel_rfl)) (fun _ _ _ h => h) (Or.inl ⟨by rfl, ?_⟩) hHeld ?_ ?_; rotate_left
     ·
      rintro w' ⟨s0, s1, s2⟩; go_simp
      with_reducible rfl
     rotate_left; (exact aP); refine pure_ (i := 5) (N := some 53) (v := ?_) (a' := ?_) (bv 21 58303) rfl rfl (any_of HT_.out (by kernel_rfl)) (fun _ _ _ h => h) (Or.inl ⟨by rfl, ?_⟩) ?_ ?_; rotate_left; (exact yP); rotate_left; (exact aP); refine take_ (i := 10) (N := some 58) (v := ?_) (a' := ?_) (bv 21 59327) rfl rfl (take_ofW HT_.out HW_.out (by kernel_rfl)) (fun _ _ _ h => h) (Or.inl ⟨by rfl, ?_⟩) hHeld ?_ ?_; rotate_left
     ·
      rintro w' ⟨s0, s1, s2⟩; go_simp
      with_reducible rfl
     rotate_left; (exact aP); refine take_ (i := 16) (N := some 64) (v := ?_) (a' := ?_) (bv 21 124863) rfl rfl (take_ofW HT_.out HW_.out (by kernel_rfl)) (fun _ _ _ h => h) (Or.inl ⟨by rfl, ?_⟩) hHeld ?_ ?_; rotate_left
     ·
      rintro w' ⟨s0, s1, s2⟩; go_simp
      with_reducible rfl
     rotate_left; (exact aP); refine one_ (i := 6) (N := some 54) (bv 21 124927) rfl rfl (one_of HT_.out (by kernel_rfl)) (by decide) (fun K hK => ?_); refine goes_ Try.func76 (by kernel_rfl) rfl #[.int .i64 a1, .int .i64 (wrap64 ((rd t728 0) - 1))] (by rfl) rfl rfl lQ ?_
     with_reducible refine (spec_l7Power.calls k2 a1 (wrap64 ((rd t728 0) - 1)) t732 _ A30.out).mono ?_
     rintro e w' ⟨rfl, ⟨nd, rfl⟩⟩; refine ⟨_, rfl, ?_⟩; refine hK.out _ _ ⟨hHeld.1, hHeld.2.1, hHeld.2.2⟩ (fun hHeld => ?_); clear hK K; refine norm_ (a' := ?_) ?_ ?_; rotate_left
     ·
      show Act.put _ (some 54) _ = _
      simp only [Act.put, List.setIfInBounds_toArray, List.set_cons_zero, List.set_cons_succ, i64_w, i32_w]; rfl
     refine one_ (i := 11) (N := some 59) (bv 21 126975) rfl rfl (one_of HT_.out (by kernel_rfl)) (by decide) (fun K hK => ?_); refine goes_ Try.func76 (by kernel_rfl) rfl #[.int .i64 a2, .int .i64 (rd t728 3)] (by rfl) rfl rfl lQ ?_
     with_reducible refine (spec_l7Power.calls k2 a2 (rd t728 3) t734 _ A32.out).mono ?_
     rintro e w' ⟨rfl, ⟨nd, rfl⟩⟩; refine ⟨_, rfl, ?_⟩; refine hK.out _ _ ⟨hHeld.1, hHeld.2.1, hHeld.2.2⟩ (fun hHeld => ?_); clear hK K; refine norm_ (a' := ?_) ?_ ?_; rotate_left
     ·
      show Act.put _ (some 59) _ = _
      simp only [Act.put, List.setIfInBounds_toArray, List.set_cons_zero, List.set_cons_succ, i64_w, i32_w]; rfl
     refine pure_ (i := 12) (N := some 60) (v := ?_) (a' := ?_) (bv 21 131071) rfl rfl (any_of HT_.out (by kernel_rfl)) (fun _ _ _ h => h) (Or.inl ⟨by rfl, ?_⟩) ?_ ?_; rotate_left; (exact yP); rotate_left; (exact aP); refine one_ (i := 17) (N := some 65) (bv 21 262143) rfl rfl (one_of HT_.out (by kernel_rfl)) (by decide) (fun K hK => ?_); refine goes_ Try.func76 (by kernel_rfl) rfl #[.int .i64 a3, .int .i64 (rd t728 4)] (by rfl) rfl rfl lQ ?_
     with_reducible refine (spec_l7Power.calls k2 a3 (rd t728 4) t736 _ A34.out).mono ?_
     rintro e w' ⟨rfl, ⟨nd, rfl⟩⟩; refine ⟨_, rfl, ?_⟩; refine hK.out _ _ ⟨hHeld.1, hHeld.2.1, hHeld.2.2⟩ (fun hHeld => ?_); clear hK K; refine norm_ (a' := ?_) ?_ ?_; rotate_left
     ·
      show Act.put _ (some 65) _ = _
      simp only [Act.put, List.setIfInBounds_toArray, List.set_cons_zero, List.set_cons_succ, i64_w, i32_w]; rfl
     refine pure_ (i := 18) (N := some 66) (v := ?_) (a' := ?_) (bv 21 524287) rfl rfl (any_of HT_.out (by kernel_rfl)) (fun _ _ _ h => h) (Or.inl ⟨by rfl, ?_⟩) ?_ ?_; rotate_left; (exact yP); rotate_left; (exact aP); refine pure_ (i := 19) (N := some 67) (v := ?_) (a' := ?_) (bv 21 1048575) rfl rfl (any_of HT_.out (by kernel_rfl)) (fun _ _ _ h => h) (Or.inl ⟨by rfl, ?_⟩) ?_ ?_; rotate_left; (exact yP); rotate_left; (exact aP); refine pure_ (i := 20) (N := some 9) (v := ?_) (a' := ?_) (bv 21 2097151) rfl rfl (any_of HT_.out (by kernel_rfl)) (fun _ _ _ h => h) (Or.inl ⟨by rfl, ?_⟩) ?_ ?_; rotate_left; (exact yP); rotate_left; (exact aP); refine done_ (done_of HT_.out (by kernel_rfl)) ?_
     try go_wp2
     go_roundg k2
     case measure => have := HJ4.out; have := HK2.out; omega
     case rel => exact ⟨(wrap64 (x9_2 + (wrap64 ((wrap64 (t732 * t734)) * t736)))), (wrap64 (x11_2 + 1)), rS, rS, H', ⟨by have := HJ4.out; have := HK2.out; omega⟩, ⟨nM HO_10.out⟩, ⟨kU BK719.out⟩, ⟨bU1 HB.out GW719.out⟩⟩
    · obtain rfl := Option.some.inj H; obtain ⟨Ao40, co40, eo40⟩ := Kd.N_slice HO_10.out; subst eo40; go_wp2; go_ret; exact ⟨rE, bU1 HB.out GW719.out⟩
def impl_genusOf.f (k : Nat) (l0_0 : List Int) (l0_1 : List Int) : Option (Int) := (impl_cyclesOf.f k l0_0).bind fun t776 => ((impl_mul.f k l0_1 l0_0).bind fun t779 => ((impl_cyclesOf.f k t779).bind fun t782 => (some (wrap64 (Int.tdiv (wrap64 ((wrap64 ((wrap64 (2 - (t776.length : Int))) + (wrap64 ((l0_1.length : Int) / 2)))) - (t782.length : Int))) 2)))))
def impl_genusOf.T1 : Bool × List (List Nat × List Nat) := (true, [([], []), ([0], [0]), ([1], [1]), ([2], [2]), ([3], [3]), ([], []), ([5], [5]), ([6], [6]), ([7], [7]), ([4, 8], [4, 8]), ([], []), ([10], [10]), ([], []), ([12], [12]), ([11, 13, 2], [11, 13]), ([14, 14], [14]), ([15], [15]), ([9, 16], [9, 16]), ([17], [17]), ([18, 15, 0, 1, 2, 3, 4, 5, 6, 7, 8, 9, 10, 11, 12, 13, 14, 15, 16, 17, 18], [18])])
def impl_genusOf.B1 : List Nat := [0, 1, 3, 7, 15, 0, 32, 96, 224, 511, 0, 1024, 0, 4096, 15367, 31751, 64519, 131071, 262143, 524287]
theorem impl_genusOf.tab1 : rtab .any (opsOf Try.f66 1) = impl_genusOf.T1 := by kernel_rfl
theorem impl_genusOf.bits1 : waitsOk impl_genusOf.T1.2 impl_genusOf.B1 = true := by kernel_rfl
set_option maxHeartbeats 8000000 in
set_option maxRecDepth 100000 in
theorem impl_genusOf.calls (k : Nat) (A0_0 : Option Addr) (c0_0 : Nat) (l0_0 : List Int) (A0_1 : Option Addr) (c0_1 : Nat) (l0_1 : List Int) (r : Int) (w : World) (hr0_0 : Kd.C (Kd.int .i64) w A0_0 l0_0.length l0_0) (hc0_0 : l0_0.length ≤ c0_0) (hr0_1 : Kd.C (Kd.int .i64) w A0_1 l0_1.length l0_1) (hc0_1 : l0_1.length ≤ c0_1) (h : impl_genusOf.f k l0_0 l0_1 = some r) :
  Calls Try.prog 66 #[.agg #[.slice A0_0 l0_0.length c0_0, .slice A0_1 l0_1.length c0_1]] w fun e w' => e = .returned (.int .i64 r) ∧ Below w.heap.size w w' := by
 have hu25 := Try.underlying25; have HR0_0 := Az hr0_0; have HC0_0 := Az hc0_0; clear hr0_0 hc0_0; have HR0_1 := Az hr0_1; have HC0_1 := Az hc0_1; clear hr0_1 hc0_1; have HB := bZ w; have H := h; clear h; unfold impl_genusOf.f at H; replace H := bd H; obtain ⟨t776, A2, H⟩ := H; replace H := bd H; obtain ⟨t779, A3, H⟩ := H; replace H := bd H; obtain ⟨t782, A4, H⟩ := H; obtain rfl := Option.some.inj H; go_enter Try.func66, Try.ntmps66
 try go_wp2_with (first | ((with_reducible refine gd 1 rfl ?_); refine bE 1 #[.slice A0_0 l0_0.length c0_0, .slice A0_1 l0_1.length c0_1] 25 ?_; intro gb775 hg w5 hbox hb; have n0_ := Az (below_step (bU0 HB.out) hb); have n1_ := Az (hbox); have n2_ := Az ((by rw [hg]; exact (below_size (bU0 HB.out)) : w.heap.size ≤ gb775)); have n3_ := n2_; clear HB; have HB := n0_; have BK775 := n1_; have GW775 := n2_; have GE775 := n3_; clear n0_ n1_ n2_ n3_ hb hbox hg))
 have n0_ := Az (blk_drew BK775.out); have n1_ := Az (below_drew1 HB.out); clear BK775 HB; have BK775 := n0_; have HB := n1_; clear n0_ n1_; refine start_ (n := 20) (S := fun w' => w'.cell? ⟨gb775, 0, none⟩ = some (.slice A0_0 l0_0.length c0_0) ∧ w'.cell? ⟨gb775, 1, none⟩ = some (.slice A0_1 l0_1.length c0_1)) (ds := []) (bv 20 0) (by kernel_rfl) rfl rfl ⟨(blk_cell BK775.out 0).trans rfl, (blk_cell BK775.out 1).trans rfl⟩ (fun hHeld => ?_); refine with_tabW impl_genusOf.tab1 impl_genusOf.bits1 (fun HT_ HW_ => ?_); generalize w5.drew = w6 at BK775 HB hHeld ⊢; refine pure_ (i := 0) (N := some 3) (v := ?_) (a' := ?_) (bv 20 1) rfl rfl (any_of HT_.out (by kernel_rfl)) (fun _ _ _ h => h) (Or.inl ⟨by rfl, ?_⟩) ?_ ?_; rotate_left; (exact yP); rotate_left; (exact aP); refine pure_ (i := 5) (N := some 8) (v := ?_) (a' := ?_) (bv 20 33) rfl rfl (any_of HT_.out (by kernel_rfl)) (fun _ _ _ h => h) (Or.inl ⟨by rfl, ?_⟩) ?_ ?_; rotate_left; (exact yP); rotate_left; (exact aP); refine pure_ (i := 10) (N := some 13) (v := ?_) (a' := ?_) (bv 20 1057) rfl rfl (any_of HT_.out (by kernel_rfl)) (fun _ _ _ h => h) (Or.inl ⟨by rfl, ?_⟩) ?_ ?_; rotate_left; (exact yP); rotate_left; (exact aP); refine pure_ (i := 12) (N := some 15) (v := ?_) (a' := ?_) (bv 20 5153) rfl rfl (any_of HT_.out (by kernel_rfl)) (fun _ _ _ h => h) (Or.inl ⟨by rfl, ?_⟩) ?_ ?_; rotate_left; (exact yP); rotate_left; (exact aP); refine take_ (i := 1) (N := some 4) (v := ?_) (a' := ?_) (bv 20 5155) rfl rfl (take_ofW HT_.out HW_.out (by kernel_rfl)) (fun _ _ _ h => h) (Or.inl ⟨by rfl, ?_⟩) hHeld ?_ ?_; rotate_left
 ·
  rintro w' ⟨s0, s1⟩; go_simp
  with_reducible rfl
 rotate_left; (exact aP); refine take_ (i := 6) (N := some 9) (v := ?_) (a' := ?_) (bv 20 5219) rfl rfl (take_ofW HT_.out HW_.out (by kernel_rfl)) (fun _ _ _ h => h) (Or.inl ⟨by rfl, ?_⟩) hHeld ?_ ?_; rotate_left
 ·
  rintro w' ⟨s0, s1⟩; go_simp
  with_reducible rfl
 rotate_left; (exact aP); refine pure_ (i := 7) (N := some 10) (v := ?_) (a' := ?_) (bv 20 5347) rfl rfl (any_of HT_.out (by kernel_rfl)) (fun _ _ _ h => h) (Or.inl ⟨by rfl, ?_⟩) ?_ ?_; rotate_left; (exact yP); rotate_left; (exact aP); refine pure_ (i := 8) (N := some 11) (v := ?_) (a' := ?_) (bv 20 5603) rfl rfl (any_of HT_.out (by kernel_rfl)) (fun _ _ _ h => h) (Or.inl ⟨by rfl, ?_⟩) ?_ ?_; rotate_left; (exact yP); rotate_left; (exact aP); refine take_ (i := 11) (N := some 14) (v := ?_) (a' := ?_) (bv 20 7651) rfl rfl (take_ofW HT_.out HW_.out (by kernel_rfl)) (fun _ _ _ h => h) (Or.inl ⟨by rfl, ?_⟩) hHeld ?_ ?_; rotate_left
 ·
  rintro w' ⟨s0, s1⟩; go_simp
  with_reducible rfl
 rotate_left; (exact aP); refine take_ (i := 13) (N := some 16) (v := ?_) (a' := ?_) (bv 20 15843) rfl rfl (take_ofW HT_.out HW_.out (by kernel_rfl)) (fun _ _ _ h => h) (Or.inl ⟨by rfl, ?_⟩) hHeld ?_ ?_; rotate_left
 ·
  rintro w' ⟨s0, s1⟩; go_simp
  with_reducible rfl
 rotate_left; (exact aP); refine one_ (i := 2) (N := some 5) (bv 20 15847) rfl rfl (one_of HT_.out (by kernel_rfl)) (by decide) (fun K hK => ?_); refine goes_ Try.func63 (by kernel_rfl) rfl #[.slice A0_0 l0_0.length c0_0] (by rfl) rfl rfl lQ ?_
 with_reducible refine (impl_cyclesOf.calls k _ _ l0_0 t776 _ ?side1 ?side2 A2.out).mono ?_
 (case side1 => exact cU (Kd.C_below HR0_0.out HB.out))
 (case side2 => exact HC0_0.out)
 rintro e w7 ⟨v777, rfl, ho0, hb⟩; refine ⟨_, rfl, ?_⟩; have n0_ := Az (Kd.S_lower ho0 (below_size (bU1 HB.out GE775.out))); have n1_ := kB BK775.out hb; have n2_ := Az (below_step (bU1 HB.out GE775.out) hb); clear BK775 HB; have HO778 := n0_; have BK775 := n1_; have HB := n2_; clear n0_ n1_ n2_ hb ho0; obtain ⟨Ao8, co8, eo8⟩ := Kd.S_slice HO778.out; (first | subst eo8 | (injection eo8 with f1_ f2_ f3_; have f4_ := f1_.symm; have f5_ := f3_.symm; clear f1_ f2_ f3_; subst f4_; subst f5_)); refine hK.out _ _ ⟨(blk_cell BK775.out 0).trans rfl, (blk_cell BK775.out 1).trans rfl⟩ (fun hHeld => ?_); clear hK K; refine norm_ (a' := ?_) ?_ ?_; rotate_left
 ·
  show Act.put _ (some 5) _ = _
  simp only [Act.put, List.setIfInBounds_toArray, List.set_cons_zero, List.set_cons_succ, i64_w, i32_w]; rfl
 refine pure_ (i := 3) (N := some 6) (v := ?_) (a' := ?_) (bv 20 15855) rfl rfl (any_of HT_.out (by kernel_rfl)) (fun _ _ _ h => h) (Or.inl ⟨by rfl, ?_⟩) ?_ ?_; rotate_left; (exact yP); rotate_left; (exact aP); refine pure_ (i := 4) (N := some 7) (v := ?_) (a' := ?_) (bv 20 15871) rfl rfl (any_of HT_.out (by kernel_rfl)) (fun _ _ _ h => h) (Or.inl ⟨by rfl, ?_⟩) ?_ ?_; rotate_left; (exact yP); rotate_left; (exact aP); refine pure_ (i := 9) (N := some 12) (v := ?_) (a' := ?_) (bv 20 16383) rfl rfl (any_of HT_.out (by kernel_rfl)) (fun _ _ _ h => h) (Or.inl ⟨by rfl, ?_⟩) ?_ ?_; rotate_left; (exact yP); rotate_left; (exact aP); refine one_ (i := 14) (N := some 17) (bv 20 32767) rfl rfl (one_of HT_.out (by kernel_rfl)) (by decide) (fun K hK => ?_); refine goes_ Try.func64 (by kernel_rfl) rfl #[.slice A0_1 l0_1.length c0_1, .slice A0_0 l0_0.length c0_0] (by rfl) rfl rfl lQ ?_
 with_reducible refine (impl_mul.calls k _ _ l0_1 _ _ l0_0 t779 _ ?side1 ?side2 ?side3 ?side4 A3.out).mono ?_
 (case side1 => exact cU (Kd.C_below HR0_1.out HB.out))
 (case side2 => exact HC0_1.out)
 (case side3 => exact cU (Kd.C_below HR0_0.out HB.out))
 (case side4 => exact HC0_0.out)
 rintro e w9 ⟨v780, rfl, ho0, hb⟩; refine ⟨_, rfl, ?_⟩; have n0_ := Az (Kd.S_elder' (sU HO778.out) (Kd.R_base ho0) hb); have n1_ := Az (Kd.R_lower ho0 (below_size (bU1 HB.out GE775.out))); have n2_ := kB BK775.out hb; have n3_ := Az (below_step (bU1 HB.out GE775.out) hb); clear HO778 BK775 HB; have HO778 := n0_; have HO781 := n1_; have BK775 := n2_; have HB := n3_; clear n0_ n1_ n2_ n3_ hb ho0; obtain ⟨Ao10, co10, eo10⟩ := Kd.R_slice HO781.out; (first | subst eo10 | (injection eo10 with f1_ f2_ f3_; have f4_ := f1_.symm; have f5_ := f3_.symm; clear f1_ f2_ f3_; subst f4_; subst f5_)); refine hK.out _ _ ⟨(blk_cell BK775.out 0).trans rfl, (blk_cell BK775.out 1).trans rfl⟩ (fun hHeld => ?_); clear hK K; refine norm_ (a' := ?_) ?_ ?_; rotate_left
 ·
  show Act.put _ (some 17) _ = _
  simp only [Act.put, List.setIfInBounds_toArray, List.set_cons_zero, List.set_cons_succ, i64_w, i32_w]; rfl
 refine one_ (i := 15) (N := some 18) (bv 20 65535) rfl rfl (one_of HT_.out (by kernel_rfl)) (by decide) (fun K hK => ?_); refine goes_ Try.func63 (by kernel_rfl) rfl #[.slice Ao10 t779.length co10] (by rfl) rfl rfl lQ ?_
 with_reducible refine (impl_cyclesOf.calls k _ _ t779 t782 _ ?side1 ?side2 A4.out).mono ?_
 (case side1 => exact cU ((Kd.R_reads' HO781.out).2.2))
 (case side2 => exact (Kd.R_reads' HO781.out).2.1)
 rintro e w11 ⟨v783, rfl, ho0, hb⟩; refine ⟨_, rfl, ?_⟩; have n0_ := Az (Kd.S_elder' (sU HO778.out) (Kd.S_base ho0) hb); have n1_ := rB HO781.out hb; have n2_ := Az (Kd.S_lower (Kd.S_new' (Kd.S_new' ho0 (Kd.S_lt (sU HO778.out))) (Kd.R_lt (rU HO781.out))) (below_size (bU1 HB.out GE775.out))); have n3_ := kB BK775.out hb; have n4_ := Az (below_step (bU1 HB.out GE775.out) hb); clear HO778 HO781 BK775 HB; have HO778 := n0_; have HO781 := n1_; have HO784 := n2_; have BK775 := n3_; have HB := n4_; clear n0_ n1_ n2_ n3_ n4_ hb ho0; obtain ⟨Ao12, co12, eo12⟩ := Kd.S_slice HO784.out; (first | subst eo12 | (injection eo12 with f1_ f2_ f3_; have f4_ := f1_.symm; have f5_ := f3_.symm; clear f1_ f2_ f3_; subst f4_; subst f5_)); refine hK.out _ _ ⟨(blk_cell BK775.out 0).trans rfl, (blk_cell BK775.out 1).trans rfl⟩ (fun hHeld => ?_); clear hK K; refine norm_ (a' := ?_) ?_ ?_; rotate_left
 ·
  show Act.put _ (some 18) _ = _
  simp only [Act.put, List.setIfInBounds_toArray, List.set_cons_zero, List.set_cons_succ, i64_w, i32_w]; rfl
 refine pure_ (i := 16) (N := some 19) (v := ?_) (a' := ?_) (bv 20 131071) rfl rfl (any_of HT_.out (by kernel_rfl)) (fun _ _ _ h => h) (Or.inl ⟨by rfl, ?_⟩) ?_ ?_; rotate_left; (exact yP); rotate_left; (exact aP); refine pure_ (i := 17) (N := some 20) (v := ?_) (a' := ?_) (bv 20 262143) rfl rfl (any_of HT_.out (by kernel_rfl)) (fun _ _ _ h => h) (Or.inl ⟨by rfl, ?_⟩) ?_ ?_; rotate_left; (exact yP); rotate_left; (exact aP); refine pure_ (i := 18) (N := some 21) (v := ?_) (a' := ?_) (bv 20 524287) rfl rfl (any_of HT_.out (by kernel_rfl)) (fun _ _ _ h => h) (Or.inl ⟨by rfl, ?_⟩) ?_ ?_; rotate_left; (exact yP); rotate_left; (exact aP); refine pure_ (i := 19) (N := some 2) (v := ?_) (a' := ?_) (bv 20 1048575) rfl rfl (any_of HT_.out (by kernel_rfl)) (fun _ _ _ h => h) (Or.inl ⟨by rfl, ?_⟩) ?_ ?_; rotate_left; (exact yP); rotate_left; (exact aP); refine done_ (done_of HT_.out (by kernel_rfl)) ?_
 try go_wp2
 go_ret; exact ⟨rE, bU1 HB.out GE775.out⟩
def impl_MapGenus.f (k : Nat) (l0_0 : List Int) (l0_1 : List Int) : Option (Int) := (impl_MapValid.f k l0_0 l0_1).bind fun t786 => (if t786 = true then ((impl_genusOf.f k l0_0 l0_1).bind fun t787 => (some t787)) else (some (-1)))
set_option maxHeartbeats 8000000 in
set_option maxRecDepth 100000 in
theorem impl_MapGenus.calls (k : Nat) (A0_0 : Option Addr) (c0_0 : Nat) (l0_0 : List Int) (A0_1 : Option Addr) (c0_1 : Nat) (l0_1 : List Int) (r : Int) (w : World) (hr0_0 : Kd.C (Kd.int .i64) w A0_0 l0_0.length l0_0) (hc0_0 : l0_0.length ≤ c0_0) (hr0_1 : Kd.C (Kd.int .i64) w A0_1 l0_1.length l0_1) (hc0_1 : l0_1.length ≤ c0_1) (h : impl_MapGenus.f k l0_0 l0_1 = some r) :
  Calls Try.prog 22 #[.agg #[.slice A0_0 l0_0.length c0_0, .slice A0_1 l0_1.length c0_1]] w fun e w' => e = .returned (.int .i64 r) ∧ Below w.heap.size w w' := by
 have hu25 := Try.underlying25; have HR0_0 := Az hr0_0; have HC0_0 := Az hc0_0; clear hr0_0 hc0_0; have HR0_1 := Az hr0_1; have HC0_1 := Az hc0_1; clear hr0_1 hc0_1; have HB := bZ w; have H := h; clear h; unfold impl_MapGenus.f at H; replace H := bd H; obtain ⟨t786, A2, H⟩ := H
 by_cases c3 : t786 = true
 ·
  subst c3; rw [if_pos rfl] at H; replace H := bd H; obtain ⟨t787, A4, H⟩ := H; obtain rfl := Option.some.inj H; go_enter Try.func22, Try.ntmps22
  go_wp2_with (first | ((with_reducible refine gd 1 rfl ?_); refine bE 1 #[.slice A0_0 l0_0.length c0_0, .slice A0_1 l0_1.length c0_1] 25 ?_; intro gb785 hg w5 hbox hb; have n0_ := Az (below_step (bU0 HB.out) hb); have n1_ := Az (hbox); have n2_ := Az ((by rw [hg]; exact (below_size (bU0 HB.out)) : w.heap.size ≤ gb785)); have n3_ := n2_; clear HB; have HB := n0_; have BK785 := n1_; have GW785 := n2_; have GE785 := n3_; clear n0_ n1_ n2_ n3_ hb hbox hg; have hz6 := bc2 BK785.out) | ((with_reducible refine gK 59 rfl ?_); refine gC (some 4) Try.func59 #[.agg #[.slice A0_0 l0_0.length c0_0, .slice A0_1 l0_1.length c0_1]] ?_; (with_reducible refine (impl_MapValid.calls k (fun k_ => k_ < w.heap.size) _ _ l0_0 (fun k_ => k_ < w.heap.size) _ _ l0_1 true _ ?_ ?_ A2.out).mono ?_); exact Kd.V_mk HC0_0.out (Kd.F_below (Kd.C_F (Kd.heap_int .i64) HR0_0.out) (bU1 HB.out GE785.out)); exact Kd.V_mk HC0_1.out (Kd.F_below (Kd.C_F (Kd.heap_int .i64) HR0_1.out) (bU1 HB.out GE785.out)); rintro e w7 ⟨rfl, hb⟩; refine ⟨_, rfl, ?_⟩; have n0_ := kB BK785.out hb; have n1_ := Az (below_step (bU1 HB.out GE785.out) hb); clear BK785 HB; have BK785 := n0_; have HB := n1_; clear n0_ n1_ hb; have hz8 := bc2 BK785.out) | ((with_reducible refine gK 66 rfl ?_); refine gC (some 7) Try.func66 #[.agg #[.slice A0_0 l0_0.length c0_0, .slice A0_1 l0_1.length c0_1]] ?_; (with_reducible refine (impl_genusOf.calls k _ _ l0_0 _ _ l0_1 t787 _ ?_ ?_ ?_ ?_ A4.out).mono ?_); exact cU (Kd.C_below HR0_0.out HB.out); exact HC0_0.out; exact cU (Kd.C_below HR0_1.out HB.out); exact HC0_1.out; rintro e w9 ⟨rfl, hb⟩; refine ⟨_, rfl, ?_⟩; have n0_ := kB BK785.out hb; have n1_ := Az (below_step (bU1 HB.out GE785.out) hb); clear BK785 HB; have BK785 := n0_; have HB := n1_; clear n0_ n1_ hb))
  go_ret; exact ⟨rE, bU1 HB.out GE785.out⟩
 ·
  replace c3 := Bool.eq_false_iff.mpr c3; subst c3; rw [if_neg nT] at H; obtain rfl := Option.some.inj H; go_enter Try.func22, Try.ntmps22
  go_wp2_with (first | ((with_reducible refine gd 1 rfl ?_); refine bE 1 #[.slice A0_0 l0_0.length c0_0, .slice A0_1 l0_1.length c0_1] 25 ?_; intro gb785 hg w10 hbox hb; have n0_ := Az (below_step (bU0 HB.out) hb); have n1_ := Az (hbox); have n2_ := Az ((by rw [hg]; exact (below_size (bU0 HB.out)) : w.heap.size ≤ gb785)); have n3_ := n2_; clear HB; have HB := n0_; have BK785 := n1_; have GW785 := n2_; have GE785 := n3_; clear n0_ n1_ n2_ n3_ hb hbox hg; have hz11 := bc2 BK785.out) | ((with_reducible refine gK 59 rfl ?_); refine gC (some 4) Try.func59 #[.agg #[.slice A0_0 l0_0.length c0_0, .slice A0_1 l0_1.length c0_1]] ?_; (with_reducible refine (impl_MapValid.calls k (fun k_ => k_ < w.heap.size) _ _ l0_0 (fun k_ => k_ < w.heap.size) _ _ l0_1 false _ ?_ ?_ A2.out).mono ?_); exact Kd.V_mk HC0_0.out (Kd.F_below (Kd.C_F (Kd.heap_int .i64) HR0_0.out) (bU1 HB.out GE785.out)); exact Kd.V_mk HC0_1.out (Kd.F_below (Kd.C_F (Kd.heap_int .i64) HR0_1.out) (bU1 HB.out GE785.out)); rintro e w12 ⟨rfl, hb⟩; refine ⟨_, rfl, ?_⟩; have n0_ := kB BK785.out hb; have n1_ := Az (below_step (bU1 HB.out GE785.out) hb); clear BK785 HB; have BK785 := n0_; have HB := n1_; clear n0_ n1_ hb))
  go_ret; exact ⟨rE, bU1 HB.out GE785.out⟩
def impl_ChoiceTree.f (k : Nat) (l0_0 : List Int) (l0_1 : List Int) (l1 : List Int) : Option (Bool) := (impl_ChoiceValid.f k l0_0 l0_1 l1).bind fun t789 => (if t789 = true then ((impl_ribbon.f k l0_0 l0_1 l1).bind fun t790 => (if 0 < (t790.length : Int) then (if (rd t790 0) = 1 then (if 3 < (t790.length : Int) then (some ((rd t790 3) == 0)) else (none)) else (some false)) else (none))) else (some false))
set_option maxHeartbeats 8000000 in
set_option maxRecDepth 100000 in
theorem impl_ChoiceTree.calls (k : Nat) (A0_0 : Option Addr) (c0_0 : Nat) (l0_0 : List Int) (A0_1 : Option Addr) (c0_1 : Nat) (l0_1 : List Int) (A1 : Option Addr) (c1 : Nat) (l1 : List Int) (r : Bool) (w : World) (hr0_0 : Kd.C (Kd.int .i64) w A0_0 l0_0.length l0_0) (hc0_0 : l0_0.length ≤ c0_0) (hr0_1 : Kd.C (Kd.int .i64) w A0_1 l0_1.length l0_1) (hc0_1 : l0_1.length ≤ c0_1) (hr1 : Kd.C (Kd.int .i64) w A1 l1.length l1) (hc1 : l1.length ≤ c1) (h : impl_ChoiceTree.f k l0_0 l0_1 l1 = some r) :
  Calls Try.prog 28 #[.agg #[.slice A0_0 l0_0.length c0_0, .slice A0_1 l0_1.length c0_1], .slice A1 l1.length c1] w fun e w' => e = .returned (.bool r) ∧ Below w.heap.size w w' := by
 have hu25 := Try.underlying25; have HR0_0 := Az hr0_0; have HC0_0 := Az hc0_0; clear hr0_0 hc0_0; have HR0_1 := Az hr0_1; have HC0_1 := Az hc0_1; clear hr0_1 hc0_1; have HR1 := Az hr1; have HC1 := Az hc1; clear hr1 hc1; have HB := bZ w; have H := h; clear h; unfold impl_ChoiceTree.f at H; replace H := bd H; obtain ⟨t789, A3, H⟩ := H
 by_cases c4 : t789 = true
 ·
  subst c4; rw [if_pos rfl] at H; replace H := bd H; obtain ⟨t790, A5, H⟩ := H; replace H := gP H; obtain ⟨c6, H⟩ := H; have c6b0 := decide_eq_true c6; have c6b1 : decide (0 < t790.length) = true := decide_eq_true (by omega); clear c6
  replace H := gQ H; rcases H with ⟨c7b0, c7b1, H⟩ | ⟨c7b0, c7b1, H⟩
  ·
   replace H := gP H; obtain ⟨c8, H⟩ := H; have c8b0 := decide_eq_true c8; have c8b1 : decide (3 < t790.length) = true := decide_eq_true (by omega); clear c8; obtain rfl := Option.some.inj H; go_enter Try.func28, Try.ntmps28
   go_wp2_with (first | ((with_reducible refine gd 2 rfl ?_); refine bE 2 #[.slice A0_0 l0_0.length c0_0, .slice A0_1 l0_1.length c0_1] 25 ?_; intro gb788 hg w9 hbox hb; have n0_ := Az (below_step (bU0 HB.out) hb); have n1_ := Az (hbox); have n2_ := Az ((by rw [hg]; exact (below_size (bU0 HB.out)) : w.heap.size ≤ gb788)); have n3_ := n2_; clear HB; have HB := n0_; have BK788 := n1_; have GW788 := n2_; have GE788 := n3_; clear n0_ n1_ n2_ n3_ hb hbox hg; have hz10 := bc2 BK788.out) | ((with_reducible refine gK 16 rfl ?_); refine gC (some 8) Try.func16 #[.agg #[.slice A0_0 l0_0.length c0_0, .slice A0_1 l0_1.length c0_1], .slice A1 l1.length c1] ?_; (with_reducible refine (impl_ChoiceValid.calls k _ _ l0_0 _ _ l0_1 _ _ l1 true _ ?_ ?_ ?_ ?_ ?_ ?_ A3.out).mono ?_); exact cU (Kd.C_below HR0_0.out HB.out); exact HC0_0.out; exact cU (Kd.C_below HR0_1.out HB.out); exact HC0_1.out; exact cU (Kd.C_below HR1.out HB.out); exact HC1.out; rintro e w11 ⟨rfl, hb⟩; refine ⟨_, rfl, ?_⟩; have n0_ := kB BK788.out hb; have n1_ := Az z4_5; clear BK788 HB; have BK788 := n0_; have HB := n1_; clear n0_ n1_ hb; have hz12 := bc2 BK788.out) | ((with_reducible refine gK 65 rfl ?_); refine gC (some 12) Try.func65 #[.agg #[.slice A0_0 l0_0.length c0_0, .slice A0_1 l0_1.length c0_1], .slice A1 l1.length c1] ?_; (with_reducible refine (impl_ribbon.calls k (fun k_ => k_ < w.heap.size) _ _ l0_0 _ _ l0_1 _ _ l1 t790 _ ?_ ?_ ?_ ?_ ?_ A5.out).mono ?_); exact Kd.V_mk HC0_0.out (Kd.F_below (Kd.C_F (Kd.heap_int .i64) HR0_0.out) (bU1 HB.out GE788.out)); exact cU (Kd.C_below HR0_1.out HB.out); exact HC0_1.out; exact cU (Kd.C_below HR1.out HB.out); exact HC1.out; rintro e w13 ⟨v791, rfl, ho0, hb⟩; refine ⟨_, rfl, ?_⟩; have n0_ := Az (Kd.R_lower (Kd.R_mono (ok' := fun k_ => True) ho0 (fun _ hk_ => trivial)) (below_size (bU1 HB.out GE788.out))); have n1_ := kB BK788.out hb; have n2_ := Az z4_5; clear BK788 HB; have HO792 := n0_; have BK788 := n1_; have HB := n2_; clear n0_ n1_ n2_ hb ho0; obtain ⟨Ao14, co14, eo14⟩ := Kd.R_slice HO792.out; subst eo14; have p793 : 0 ≤ (0 : Int) := (by omega); have q793 : 0 < (t790.length : Int) := oA; obtain ⟨ad793, e793, hx793_0⟩ := Kd.at_int (Kd.R_reads' HO792.out).2.2 0 p793 q793; cases e793; have qi793 : (0 < t790.length) = True := eq_true (by omega); rw [show ((0 : Int)).toNat = 0 from rfl] at hx793_0; rw [Addr.add_zero'] at hx793_0; replace p793 := eq_true p793; replace q793 := eq_true q793; have p794 : 0 ≤ (3 : Int) := (by omega); have q794 : 3 < (t790.length : Int) := oA; obtain ⟨ad794, e794, hx794_0⟩ := Kd.at_int (Kd.R_reads' HO792.out).2.2 3 p794 q794; obtain rfl : ad793 = ad794 := (by injection e794); simp only [show (3 : Int).toNat = 3 from rfl, Nat.reduceMul, Nat.reduceEqDiff, Go.Addr.add, ↓reduceIte] at hx794_0; have qi794 : (3 < t790.length) = True := eq_true (by omega); replace p794 := eq_true p794; replace q794 := eq_true q794))
   go_ret; exact ⟨rE, bU1 HB.out GE788.out⟩
  ·
   obtain rfl := Option.some.inj H; go_enter Try.func28, Try.ntmps28
   go_wp2_with (first | ((with_reducible refine gd 2 rfl ?_); refine bE 2 #[.slice A0_0 l0_0.length c0_0, .slice A0_1 l0_1.length c0_1] 25 ?_; intro gb788 hg w15 hbox hb; have n0_ := Az (below_step (bU0 HB.out) hb); have n1_ := Az (hbox); have n2_ := Az ((by rw [hg]; exact (below_size (bU0 HB.out)) : w.heap.size ≤ gb788)); have n3_ := n2_; clear HB; have HB := n0_; have BK788 := n1_; have GW788 := n2_; have GE788 := n3_; clear n0_ n1_ n2_ n3_ hb hbox hg; have hz16 := bc2 BK788.out) | ((with_reducible refine gK 16 rfl ?_); refine gC (some 8) Try.func16 #[.agg #[.slice A0_0 l0_0.length c0_0, .slice A0_1 l0_1.length c0_1], .slice A1 l1.length c1] ?_; (with_reducible refine (impl_ChoiceValid.calls k _ _ l0_0 _ _ l0_1 _ _ l1 true _ ?_ ?_ ?_ ?_ ?_ ?_ A3.out).mono ?_); exact cU (Kd.C_below HR0_0.out HB.out); exact HC0_0.out; exact cU (Kd.C_below HR0_1.out HB.out); exact HC0_1.out; exact cU (Kd.C_below HR1.out HB.out); exact HC1.out; rintro e w17 ⟨rfl, hb⟩; refine ⟨_, rfl, ?_⟩; have n0_ := kB BK788.out hb; have n1_ := Az z4_5; clear BK788 HB; have BK788 := n0_; have HB := n1_; clear n0_ n1_ hb; have hz18 := bc2 BK788.out) | ((with_reducible refine gK 65 rfl ?_); refine gC (some 12) Try.func65 #[.agg #[.slice A0_0 l0_0.length c0_0, .slice A0_1 l0_1.length c0_1], .slice A1 l1.length c1] ?_; (with_reducible refine (impl_ribbon.calls k (fun k_ => k_ < w.heap.size) _ _ l0_0 _ _ l0_1 _ _ l1 t790 _ ?_ ?_ ?_ ?_ ?_ A5.out).mono ?_); exact Kd.V_mk HC0_0.out (Kd.F_below (Kd.C_F (Kd.heap_int .i64) HR0_0.out) (bU1 HB.out GE788.out)); exact cU (Kd.C_below HR0_1.out HB.out); exact HC0_1.out; exact cU (Kd.C_below HR1.out HB.out); exact HC1.out; rintro e w19 ⟨v791, rfl, ho0, hb⟩; refine ⟨_, rfl, ?_⟩; have n0_ := Az (Kd.R_lower (Kd.R_mono (ok' := fun k_ => True) ho0 (fun _ hk_ => trivial)) (below_size (bU1 HB.out GE788.out))); have n1_ := kB BK788.out hb; have n2_ := Az z4_5; clear BK788 HB; have HO792 := n0_; have BK788 := n1_; have HB := n2_; clear n0_ n1_ n2_ hb ho0; obtain ⟨Ao20, co20, eo20⟩ := Kd.R_slice HO792.out; subst eo20; have p793 : 0 ≤ (0 : Int) := (by omega); have q793 : 0 < (t790.length : Int) := oA; obtain ⟨ad793, e793, hx793_0⟩ := Kd.at_int (Kd.R_reads' HO792.out).2.2 0 p793 q793; cases e793; have qi793 : (0 < t790.length) = True := eq_true (by omega); rw [show ((0 : Int)).toNat = 0 from rfl] at hx793_0; rw [Addr.add_zero'] at hx793_0; replace p793 := eq_true p793; replace q793 := eq_true q793))
   go_ret; exact ⟨rE, bU1 HB.out GE788.out⟩
 ·
  replace c4 := Bool.eq_false_iff.mpr c4; subst c4; rw [if_neg nT] at H; obtain rfl := Option.some.inj H; go_enter Try.func28, Try.ntmps28
  go_wp2_with (first | ((with_reducible refine gd 2 rfl ?_); refine bE 2 #[.slice A0_0 l0_0.length c0_0, .slice A0_1 l0_1.length c0_1] 25 ?_; intro gb788 hg w21 hbox hb; have n0_ := Az (below_step (bU0 HB.out) hb); have n1_ := Az (hbox); have n2_ := Az ((by rw [hg]; exact (below_size (bU0 HB.out)) : w.heap.size ≤ gb788)); have n3_ := n2_; clear HB; have HB := n0_; have BK788 := n1_; have GW788 := n2_; have GE788 := n3_; clear n0_ n1_ n2_ n3_ hb hbox hg; have hz22 := bc2 BK788.out) | ((with_reducible refine gK 16 rfl ?_); refine gC (some 8) Try.func16 #[.agg #[.slice A0_0 l0_0.length c0_0, .slice A0_1 l0_1.length c0_1], .slice A1 l1.length c1] ?_; (with_reducible refine (impl_ChoiceValid.calls k _ _ l0_0 _ _ l0_1 _ _ l1 false _ ?_ ?_ ?_ ?_ ?_ ?_ A3.out).mono ?_); exact cU (Kd.C_below HR0_0.out HB.out); exact HC0_0.out; exact cU (Kd.C_below HR0_1.out HB.out); exact HC0_1.out; exact cU (Kd.C_below HR1.out HB.out); exact HC1.out; rintro e w23 ⟨rfl, hb⟩; refine ⟨_, rfl, ?_⟩; have n0_ := kB BK788.out hb; have n1_ := Az z4_5; clear BK788 HB; have BK788 := n0_; have HB := n1_; clear n0_ n1_ hb))
  go_ret; exact ⟨rE, bU1 HB.out GE788.out⟩
def tch.l1 : Nat → List Int → Int → Int → Int → Option (List Int)
 | 0, _, _, _, _ => none
 | k + 1, c, s, e, E => if e < E then (if 0 ≤ e then (if Go.bits .and .i64 (s / 2 ^ min e.toNat 64) 1 = 1 then (if c.length < 17592186044416 then tch.l1 k (c ++ [e]) s (wrap64 (e + 1)) E else none) else tch.l1 k c s (wrap64 (e + 1)) E) else none) else some c
def tch.l0 : Nat → List Int → List Int → Int → Int → Int → Option Int
 | 0, _, _, _, _, _ => none
 | k + 1, t, f, x, s, lim => if s < lim then ((tch.l1 k [] s 0 ((f.length : Int) / 2)).bind fun c => (impl_ChoiceTree.f k t f c).bind fun b => tch.l0 k t f (if b = true then wrap64 (x + 1) else x) (wrap64 (s + 1)) lim) else some x
def impl_RibbonTrees.f (k : Nat) (t f : List Int) : Option Int := (impl_MapValid.f k t f).bind fun v => if v = true then (if f.length ≤ 12 then tch.l0 k t f 0 0 (wrap64 (2 ^ (f.length / 2))) else none) else some (-1)
theorem tch.mono_l1 : ∀ k, (∀ y0 y1 y2 y3, LeO (tch.l1 k y0 y1 y2 y3) (tch.l1 (k + 1) y0 y1 y2 y3))
 | 0 => fun _ _ _ _ r h => by simp [tch.l1] at h
 | k + 1 => by
  have ih0 := tch.mono_l1 k; intro y0 y1 y2 y3
  unfold tch.l1
  repeat' first
   | (with_reducible exact ih0 _ _ _ _)
   | (with_reducible exact LeO.refl _)
   | (with_reducible refine LeO.ite ?_ ?_)
set_option maxHeartbeats 4000000 in
set_option maxRecDepth 100000 in
theorem ttell.yes (k : Nat) (A0 : Option Addr) (c0 : Nat) (l0 : List Int) (A1 : Option Addr) (c1 : Nat) (l1 : List Int) (A2 : Option Addr) (c2 : Nat) (l2 : List Int) (gm gn : Nat) (x : Int) (w : World)
  (hbm : w.heap[gm]? = some (.cells #[.slice A0 l0.length c0, .slice A1 l1.length c1] 25 (0, 0))) (hbn : w.heap[gn]? = some (.cells #[.int .i64 x] 3 (0, 0)))
  (hr0 : Kd.C (Kd.int .i64) w A0 l0.length l0) (hc0 : l0.length ≤ c0) (hr1 : Kd.C (Kd.int .i64) w A1 l1.length l1) (hc1 : l1.length ≤ c1) (hr2 : Kd.C (Kd.int .i64) w A2 l2.length l2) (hc2 : l2.length ≤ c2)
  (h : impl_ChoiceTree.f k l0 l1 l2 = some true) : Calls Try.prog 77 #[.slice A2 l2.length c2, .pointer (some ⟨gm, 0, none⟩), .pointer (some ⟨gn, 0, none⟩)] w fun e w' => e = .returned (.tuple #[]) ∧ ∃ w1, Below w.heap.size w w1 ∧ w' = w1.setCell ⟨gn, 0, none⟩ (.int .i64 (wrap64 (x + 1))) := by
 have hu25 := Try.underlying25; have hcm0 : w.cell? ⟨gm, 0, none⟩ = some (.slice A0 l0.length c0) := (blk_cell hbm 0).trans rfl; have hcm1 : w.cell? ⟨gm, 1, none⟩ = some (.slice A1 l1.length c1) := (blk_cell hbm 1).trans rfl; have Hbn := Az hbn; have HR0 := Az hr0; have HR1 := Az hr1; have HR2 := Az hr2; have HH := Az h; clear hbn hbm hr0 hr1 hr2 h; go_enter Try.func77, Try.ntmps77
 go_wp2_with (first | (go_at_call 28; refine (impl_ChoiceTree.calls k A0 c0 l0 A1 c1 l1 A2 c2 l2 true _ HR0.out hc0 HR1.out hc1 HR2.out hc2 HH.out).mono ?_; rintro e w1 ⟨rfl, hb⟩; have Hb := Az hb; have hbn1 := blk_below Hbn.out hb; have hcn : w1.cell? ⟨gn, 0, none⟩ = some (.int .i64 x) := (blk_cell hbn1 0).trans rfl; have hfn := blk_frozen hbn1 0; clear hb hbn1))
 refine bodyPost_end (results_none rfl _ _ _) rfl ?_; exact ⟨rfl, _, Hb.out, rfl⟩
set_option maxHeartbeats 4000000 in
set_option maxRecDepth 100000 in
theorem ttell.no (k : Nat) (A0 : Option Addr) (c0 : Nat) (l0 : List Int) (A1 : Option Addr) (c1 : Nat) (l1 : List Int) (A2 : Option Addr) (c2 : Nat) (l2 : List Int) (gm gn : Nat) (x : Int) (w : World)
  (hbm : w.heap[gm]? = some (.cells #[.slice A0 l0.length c0, .slice A1 l1.length c1] 25 (0, 0))) (hbn : w.heap[gn]? = some (.cells #[.int .i64 x] 3 (0, 0)))
  (hr0 : Kd.C (Kd.int .i64) w A0 l0.length l0) (hc0 : l0.length ≤ c0) (hr1 : Kd.C (Kd.int .i64) w A1 l1.length l1) (hc1 : l1.length ≤ c1) (hr2 : Kd.C (Kd.int .i64) w A2 l2.length l2) (hc2 : l2.length ≤ c2)
  (h : impl_ChoiceTree.f k l0 l1 l2 = some false) : Calls Try.prog 77 #[.slice A2 l2.length c2, .pointer (some ⟨gm, 0, none⟩), .pointer (some ⟨gn, 0, none⟩)] w fun e w' => e = .returned (.tuple #[]) ∧ Below w.heap.size w w' := by
 have hu25 := Try.underlying25; have hcm0 : w.cell? ⟨gm, 0, none⟩ = some (.slice A0 l0.length c0) := (blk_cell hbm 0).trans rfl; have hcm1 : w.cell? ⟨gm, 1, none⟩ = some (.slice A1 l1.length c1) := (blk_cell hbm 1).trans rfl; have Hbn := Az hbn; have HR0 := Az hr0; have HR1 := Az hr1; have HR2 := Az hr2; have HH := Az h; clear hbn hbm hr0 hr1 hr2 h; go_enter Try.func77, Try.ntmps77
 go_wp2_with (first | (go_at_call 28; refine (impl_ChoiceTree.calls k A0 c0 l0 A1 c1 l1 A2 c2 l2 false _ HR0.out hc0 HR1.out hc1 HR2.out hc2 HH.out).mono ?_; rintro e w1 ⟨rfl, hb⟩; have Hb := Az hb; clear hb))
 refine bodyPost_end (results_none rfl _ _ _) rfl ?_; exact ⟨rfl, Hb.out⟩
set_option maxHeartbeats 4000000 in
set_option maxRecDepth 100000 in
theorem tch.calls (k : Nat) (A0 : Option Addr) (c0 : Nat) (l0 : List Int) (A1 : Option Addr) (c1 : Nat) (l1 : List Int) (gm gn : Nat) (x r : Int) (w0 w : World)
  (hB : Below w0.heap.size w0 w) (hgm : w0.heap.size ≤ gm) (hgn : w0.heap.size ≤ gn)
  (hbm : w.heap[gm]? = some (.cells #[.slice A0 l0.length c0, .slice A1 l1.length c1] 25 (0, 0))) (hbn : w.heap[gn]? = some (.cells #[.int .i64 x] 3 (0, 0)))
  (hr0 : Kd.C (Kd.int .i64) w0 A0 l0.length l0) (hc0 : l0.length ≤ c0) (hr1 : Kd.C (Kd.int .i64) w0 A1 l1.length l1) (hc1 : l1.length ≤ c1) (hE : l1.length ≤ 12) (h : tch.l0 k l0 l1 x 0 (wrap64 (2 ^ (l1.length / 2))) = some r) :
  Calls Try.prog 72 #[.agg #[.slice A0 l0.length c0, .slice A1 l1.length c1], .func (.func 77) #[] #[.pointer (some ⟨gm, 0, none⟩), .pointer (some ⟨gn, 0, none⟩)]] w fun e w' =>
   e = .returned (.tuple #[]) ∧ Below w0.heap.size w0 w' ∧ w'.heap[gm]? = some (.cells #[.slice A0 l0.length c0, .slice A1 l1.length c1] 25 (0, 0)) ∧ w'.heap[gn]? = some (.cells #[.int .i64 r] 3 (0, 0)) := by
 have hu25 := Try.underlying25; have HB := Az hB; have BM := Az hbm; have BN := Az hbn; have HR0 := Az hr0; have HR1 := Az hr1; clear hB hbm hbn hr0 hr1; go_enter Try.func72, Try.ntmps72
 go_wp2_with (first | ((with_reducible refine gd 2 rfl ?_); refine bE 2 #[.slice A0 l0.length c0, .slice A1 l1.length c1] 25 ?_; intro gb hg w5 hbox hb; have n1 := Az (below_step HB.out hb); have n2 := Az (blk_below BM.out hb); have n3 := Az (blk_below BN.out hb); have BK := Az hbox; have GE := Az ((by rw [hg]; exact below_size HB.out) : w0.heap.size ≤ gb); clear HB BM BN hb hbox hg; have HB := n1; have BM := n2; have BN := n3; clear n1 n2 n3; have hcz0 := cz BK.out 0; have hcz1 := cz BK.out 1))
 have H' := Az h; clear h hcz0 hcz1; generalize hlim : wrap64 (2 ^ (l1.length / 2)) = lim at H' ⊢; have HLIM := Az hlim; clear hlim
 go_loopg [12] k (fun kq v12 w' => ∃ (s x' : Int), v12 = .int .i64 s ∧ Aside0 (tch.l0 kq l0 l1 x' s lim = some r) ∧ Aside0 (kq ≤ k) ∧ Aside0 (w'.heap[gb]? = some (.cells #[.slice A0 l0.length c0, .slice A1 l1.length c1] 25 (0, 0))) ∧ Aside0 (w'.heap[gm]? = some (.cells #[.slice A0 l0.length c0, .slice A1 l1.length c1] 25 (0, 0))) ∧ Aside0 (w'.heap[gn]? = some (.cells #[.int .i64 x'] 3 (0, 0))) ∧ Aside0 (Below w0.heap.size w0 w'))
 case atStart => exact ⟨0, x, rfl, H', ⟨Nat.le_refl _⟩, BK, BM, BN, HB⟩
 case round =>
  clear H' BK BM BN HB; obtain ⟨s, x', rfl, HA, HK1, BK, BM, BN, HB⟩ := hrel
  rcases gk with _ | k1
  exact (nN HA.out).elim; have H := HA.out; clear HA; simp only [tch.l0] at H
  by_cases c2 : s < lim
  ·
   rw [if_pos c2] at H; have c2b : decide (s < lim) = true := decide_eq_true c2; clear c2; obtain ⟨cs, A1_, H⟩ := Option.bind_eq_some_iff.mp H; obtain ⟨b, A2_, H⟩ := Option.bind_eq_some_iff.mp H; have HA1 := Az A1_; have HA2 := Az A2_; have H' := Az H; clear A1_ A2_ H; have hcz0 := cz BK.out 0; have hcz1 := cz BK.out 1
   go_wp2_with (first | ((with_reducible refine gd 15 rfl ?_); (refine gate_guard (by rfl) ?_; dsimp only); refine Kd.R_lit (Kd.int .i64) _ 3 rfl (N := 15) rfl (xs := ([] : List Int)) (inner := []) (ok := fun _ => True) (okp := fun _ => True) hS ?hp (fun _ hk => hk) trivial (Below.refl _ _) (Nat.le_refl _) (by simp) ?_; (case hp => exact (Reps.none _ _)); intro v15 w6 ho6 hb hg_ hnew_; clear hg_ hnew_; have n1 := Az (Kd.R_lower (Kd.R_mono (ok' := fun k_ => k_ ≠ gn) (Kd.R_bound ho6) (fun k hk e => absurd (blk_lt BN.out) (by rw [← e]; exact Nat.not_lt.mpr hk.2.1))) (below_size HB.out)); have n2 := Az (blk_below BK.out hb); have n3 := Az (blk_below BM.out hb); have n4 := Az (blk_below BN.out hb); have n5 := Az (below_step HB.out hb); clear BK BM BN HB hb ho6 hcz0 hcz1; have HO := n1; have BK := n2; have BM := n3; have BN := n4; have HB := n5; clear n1 n2 n3 n4 n5; have hcz0 := cz BK.out 0; have hcz1 := cz BK.out 1))
   go_loopg [5, 20] k1 (fun kq v5 v20 w' => ∃ (c : List Int) (e : Int), v20 = .int .i64 e ∧ Aside0 (tch.l1 kq c s e ((l1.length : Int) / 2) = some cs) ∧ Aside0 (kq ≤ k1) ∧ Aside0 (Kd.R (Kd.int .i64) 3 w' w0.heap.size (fun k_ => k_ ≠ gn) v5 c) ∧ Aside0 (w'.heap[gb]? = some (.cells #[.slice A0 l0.length c0, .slice A1 l1.length c1] 25 (0, 0))) ∧ Aside0 (w'.heap[gm]? = some (.cells #[.slice A0 l0.length c0, .slice A1 l1.length c1] 25 (0, 0))) ∧ Aside0 (w'.heap[gn]? = some (.cells #[.int .i64 x'] 3 (0, 0))) ∧ Aside0 (Below w0.heap.size w0 w'))
   case atStart => exact ⟨[], 0, rfl, HA1, ⟨Nat.le_refl _⟩, HO, BK, BM, BN, HB⟩
   case round =>
    clear HA1 HO BK BM BN HB hcz0 hcz1; obtain ⟨c, e, rfl, HA, HK2, HO, BK, BM, BN, HB⟩ := hrel
    rcases gk with _ | k2
    exact (nN HA.out).elim; have H := HA.out; clear HA; simp only [tch.l1] at H
    by_cases c3 : e < (l1.length : Int) / 2
    ·
     rw [if_pos c3] at H; have c3b : decide (e < (l1.length : Int) / 2) = true := decide_eq_true c3
     by_cases c4 : 0 ≤ e
     ·
      rw [if_pos c4] at H; have c4b : decide (e < 0) = false := decide_eq_false (by omega); clear c3
      by_cases c5 : Go.bits .and .i64 (s / 2 ^ min e.toNat 64) 1 = 1
      ·
       rw [if_pos c5] at H; have c5b : (Go.bits .and .i64 (s / 2 ^ min e.toNat 64) 1 == 1) = true := beq_iff_eq.mpr c5; clear c5
       by_cases c6 : c.length < 17592186044416
       ·
        rw [if_pos c6] at H; have LM := Az c6; have HH := Az H; clear H c6
        go_wp2_with (first | ((with_reducible refine gate_builtin (b := .append) (xs := #[.tmp 28, .tmp 30]) rfl ?_); at_builtin; refine Kd.R_append (Kd.int .i64) (w0 := w0) w0.heap.size rfl (.tmp 28) (.tmp 30) 23 3 (.int .i64 0) 8 rfl Try.underlying23 info3 rfl (by decide) (by omega) u5 c e [.int .i64 e] (fun k_ => k_ ≠ gn) (fun _ => False) rfl rfl ?aP (fun _ hk => hk.elim) ?aF ?aO ?aB ?aS ?aL ?_; (case aP => exact rfl); (case aB => exact (bU0 HB.out)); (case aF => exact (fun k_ hk e_ => absurd (blk_lt BN.out) (by rw [← e_]; exact Nat.not_lt.mpr hk))); (case aO => exact (rU HO.out)); (case aS => exact (below_size (bU0 HB.out))); (case aL => have := LM.out; omega); intro v31 w9 ho hb hg hat; have n1 := Az (blk_grown (g := gb) (kU BK.out) hg (Kd.R_ne HO.out BK.out (by decide))); have n2 := Az (blk_grown (g := gm) (kU BM.out) hg (Kd.R_ne HO.out BM.out (by decide))); have n3 := Az (blk_grown (g := gn) (kU BN.out) hg (fun e_ => HO.out.1 gn e_.symm rfl)); have n4 := Az hb; have n5 := Az ho; clear BK BM BN HB HO hb ho hg hat; have BK := n1; have BM := n2; have BN := n3; have HB := n4; have HO := n5; clear n1 n2 n3 n4 n5))
        go_roundg k2
        case measure => exact mO
        case rel => exact ⟨_, wrap64 (e + 1), rfl, HH, ⟨mO⟩, HO, BK, BM, BN, HB⟩
       ·
        rw [if_neg c6] at H
        cases H
      ·
       rw [if_neg c5] at H; have c5b : (Go.bits .and .i64 (s / 2 ^ min e.toNat 64) 1 == 1) = false := beq_eq_false_iff_ne.mpr c5; clear c5; have HH := Az H; clear H; go_wp2; go_roundg k2
       case measure => exact mO
       case rel => exact ⟨_, wrap64 (e + 1), rfl, HH, ⟨mO⟩, HO, BK, BM, BN, HB⟩
     ·
      rw [if_neg c4] at H
      cases H
    ·
     rw [if_neg c3] at H; have c3b : decide (e < (l1.length : Int) / 2) = false := decide_eq_false c3; clear c3; obtain rfl := Option.some.inj H; clear H; obtain ⟨Ao, co, eo⟩ := Kd.R_slice HO.out; subst eo; have nkn : gb ≠ gn := blk_ne BK.out BN.out (by decide); have nmn : gm ≠ gn := blk_ne BM.out BN.out (by decide)
     cases b with
     | true =>
      have HH := Az (by have := H'.out; rw [if_pos rfl] at this; exact this : tch.l0 k1 l0 l1 (wrap64 (x' + 1)) (wrap64 (s + 1)) lim = some r); clear H'
      go_wp2_with (first | (go_at_call 77; refine (ttell.yes k1 A0 c0 l0 A1 c1 l1 Ao co c gm gn x' _ BM.out BN.out (Kd.C_below HR0.out HB.out) hc0 (Kd.C_below HR1.out HB.out) hc1 (Kd.R_reads' HO.out).2.2 (Kd.R_reads' HO.out).2.1 HA2.out).mono ?_; rintro e_ w8 ⟨rfl, w7, hb, rfl⟩; have n1 := Az (blk_far (blk_below BK.out hb) (p := ⟨gn, 0, none⟩) nkn (.int .i64 (wrap64 (x' + 1)))); have n2 := Az (blk_far (blk_below BM.out hb) (p := ⟨gn, 0, none⟩) nmn (.int .i64 (wrap64 (x' + 1)))); have n3 := Az (blk_put (blk_below BN.out hb) 0 (.int .i64 (wrap64 (x' + 1))) rfl); have n4 := Az (below_set (g := gn) (j := 0) (v := .int .i64 (wrap64 (x' + 1))) (below_step HB.out hb) hgn); clear BK BM BN HB HO hb; have BK := n1; have BM := n2; have BN := n3; have HB := n4; clear n1 n2 n3 n4))
      go_roundg k1
      case measure => exact mO
      case rel => exact ⟨wrap64 (s + 1), wrap64 (x' + 1), rfl, HH, ⟨mO⟩, BK, BM, BN, HB⟩
     | false =>
      have HH := Az (by have := H'.out; rw [if_neg (by decide)] at this; exact this : tch.l0 k1 l0 l1 x' (wrap64 (s + 1)) lim = some r); clear H'
      go_wp2_with (first | (go_at_call 77; refine (ttell.no k1 A0 c0 l0 A1 c1 l1 Ao co c gm gn x' _ BM.out BN.out (Kd.C_below HR0.out HB.out) hc0 (Kd.C_below HR1.out HB.out) hc1 (Kd.R_reads' HO.out).2.2 (Kd.R_reads' HO.out).2.1 HA2.out).mono ?_; rintro e_ w8 ⟨rfl, hb⟩; have n1 := Az (blk_below BK.out hb); have n2 := Az (blk_below BM.out hb); have n3 := Az (blk_below BN.out hb); have n4 := Az (below_step HB.out hb); clear BK BM BN HB HO hb; have BK := n1; have BM := n2; have BN := n3; have HB := n4; clear n1 n2 n3 n4))
      go_roundg k1
      case measure => exact mO
      case rel => exact ⟨wrap64 (s + 1), x', rfl, HH, ⟨mO⟩, BK, BM, BN, HB⟩
  · rw [if_neg c2] at H; have c2b : decide (s < lim) = false := decide_eq_false c2; clear c2; obtain rfl := Option.some.inj H; go_wp2; refine bodyPost_end (results_none rfl _ _ _) rfl ?_; exact ⟨rfl, HB.out, BM.out, BN.out⟩
set_option maxHeartbeats 4000000 in
set_option maxRecDepth 100000 in
theorem impl_RibbonTrees.calls (k : Nat) (A0_0 : Option Addr) (c0_0 : Nat) (l0_0 : List Int) (A0_1 : Option Addr) (c0_1 : Nat) (l0_1 : List Int) (r : Int) (w : World) (hr0_0 : Kd.C (Kd.int .i64) w A0_0 l0_0.length l0_0) (hc0_0 : l0_0.length ≤ c0_0) (hr0_1 : Kd.C (Kd.int .i64) w A0_1 l0_1.length l0_1) (hc0_1 : l0_1.length ≤ c0_1) (h : impl_RibbonTrees.f k l0_0 l0_1 = some r) :
  Calls Try.prog 39 #[.agg #[.slice A0_0 l0_0.length c0_0, .slice A0_1 l0_1.length c0_1]] w fun e w' => e = .returned (.int .i64 r) ∧ Below w.heap.size w w' := by
 have hu25 := Try.underlying25; have HR0 := Az hr0_0; have HR1 := Az hr0_1; have HB := bZ w; clear hr0_0 hr0_1; obtain ⟨v, h1, h⟩ := Option.bind_eq_some_iff.mp h; have H1 := Az h1; clear h1
 cases v with
 | false =>
  rw [if_neg (by decide)] at h; obtain rfl := Option.some.inj h; clear h; go_enter Try.func39, Try.ntmps39
  go_wp2_with (first | ((with_reducible refine gd 1 rfl ?_); refine bE 1 #[.slice A0_0 l0_0.length c0_0, .slice A0_1 l0_1.length c0_1] 25 ?_; intro gm hg w5 hbox hb; have n1 := Az (below_step HB.out hb); have BM := Az hbox; have GM := Az ((by rw [hg]; exact below_size HB.out) : w.heap.size ≤ gm); clear HB hb hbox hg; have HB := n1; clear n1; have hcz0 := cz BM.out 0; have hcz1 := cz BM.out 1) | (go_at_call 59; refine (impl_MapValid.calls k (fun k_ => k_ < w.heap.size) A0_0 c0_0 l0_0 (fun k_ => k_ < w.heap.size) A0_1 c0_1 l0_1 false _ (Kd.V_mk hc0_0 (Kd.F_below (Kd.C_F (Kd.heap_int .i64) HR0.out) HB.out)) (Kd.V_mk hc0_1 (Kd.F_below (Kd.C_F (Kd.heap_int .i64) HR1.out) HB.out)) H1.out).mono ?_; rintro e_ w6 ⟨rfl, hb⟩; have n1 := Az (below_step HB.out hb); have n2 := Az (blk_below BM.out hb); clear HB BM hb hcz0 hcz1; have HB := n1; have BM := n2; clear n1 n2; have hcz0 := cz BM.out 0; have hcz1 := cz BM.out 1))
  go_ret; exact ⟨rfl, HB.out⟩
 | true =>
  rw [if_pos rfl] at h
  by_cases hE : l0_1.length ≤ 12
  ·
   rw [if_pos hE] at h; have HH := Az h; clear h; go_enter Try.func39, Try.ntmps39
   go_wp2_with (first | ((with_reducible refine gd 1 rfl ?_); refine bE 1 #[.slice A0_0 l0_0.length c0_0, .slice A0_1 l0_1.length c0_1] 25 ?_; intro gm hg w5 hbox hb; have n1 := Az (below_step HB.out hb); have BM := Az hbox; have GM := Az ((by rw [hg]; exact below_size HB.out) : w.heap.size ≤ gm); clear HB hb hbox hg; have HB := n1; clear n1; have hcz0 := cz BM.out 0; have hcz1 := cz BM.out 1) | (go_at_call 59; refine (impl_MapValid.calls k (fun k_ => k_ < w.heap.size) A0_0 c0_0 l0_0 (fun k_ => k_ < w.heap.size) A0_1 c0_1 l0_1 true _ (Kd.V_mk hc0_0 (Kd.F_below (Kd.C_F (Kd.heap_int .i64) HR0.out) HB.out)) (Kd.V_mk hc0_1 (Kd.F_below (Kd.C_F (Kd.heap_int .i64) HR1.out) HB.out)) H1.out).mono ?_; rintro e_ w6 ⟨rfl, hb⟩; have n1 := Az (below_step HB.out hb); have n2 := Az (blk_below BM.out hb); clear HB BM hb hcz0 hcz1; have HB := n1; have BM := n2; clear n1 n2; have hcz0 := cz BM.out 0; have hcz1 := cz BM.out 1; have hcy0 : (w6.alloc (.cells #[.int .i64 0] 3)).cell? ⟨gm, 0, none⟩ = some (.slice A0_0 l0_0.length c0_0) := (blk_cell (blk_alloc BM.out _) 0).trans rfl; have hcy1 : (w6.alloc (.cells #[.int .i64 0] 3)).cell? ⟨gm, 1, none⟩ = some (.slice A0_1 l0_1.length c0_1) := (blk_cell (blk_alloc BM.out _) 1).trans rfl) | (go_at_call 72; refine (tch.calls k A0_0 c0_0 l0_0 A0_1 c0_1 l0_1 gm w6.heap.size 0 r w _ (by repeat (first | exact HB.out | apply below_alloc)) GM.out (below_size HB.out) (blk_alloc BM.out _) (blk_new w6 _) HR0.out hc0_0 HR1.out hc0_1 hE HH.out).mono ?_; rintro e_ w8 ⟨rfl, hb, hm, hn⟩; have HB2 := Az hb; have hcn : w8.cell? ⟨w6.heap.size, 0, none⟩ = some (.int .i64 r) := (blk_cell hn 0).trans rfl; clear hb hm hn))
   go_ret; exact ⟨rfl, HB2.out⟩
  ·
   rw [if_neg hE] at h
   cases h
end Go.Proofs.Ytjgknblneokhlaa.PK
