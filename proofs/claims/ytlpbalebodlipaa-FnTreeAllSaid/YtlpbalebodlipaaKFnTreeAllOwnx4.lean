/- For every list of bytes, the law FnTreeAll answers true: for the number of edges that it draws. There are no conditions. -/
import Derived.Test.YtlpbalebodlipaaKFnTreeAllOwnx3
namespace Go.Proofs.Ytlpbalebodlipaa.PG
open Go.RowKit Go.Proofs.YtlpbalebodlipaaW.PrintWords Go.Proofs.YtlpbalebodlipaaW.PrintLast Go.Proofs.YtlpbalebodlipaaW.PrintMore
attribute [local go_sem] max2_int min2_int max_two min_two max_three min_three max_four min_four   -- for this text's walks alone
set_option linter.unusedVariables false
set_option linter.unusedSimpArgs false
mutual
def impl_namesFrom.l0 : Nat → Int → List Int → Int → Int → List Int → List Int → Option (List Int)
 | 0, _, _, _, _, _, _ => none
 | k + 1, x1, x5, x16, x17, xZ0, xZ1 => if x17 < x16 then (if 0 ≤ x17 then (if x17 < (x5.length : Int) then (impl_namesFrom.l0 k x1 (x5.set (x17 : Int).toNat (-1)) x16 (wrap64 (x17 + 1)) xZ0 xZ1) else (none)) else (none)) else (if 0 ≤ x1 then (if x1 < (x5.length : Int) then (impl_namesFrom.l1 k (x5.set (x1 : Int).toNat 0) (([x1] : List Int)) 0 xZ0 xZ1) else (none)) else (none))
def impl_namesFrom.l1 : Nat → List Int → List Int → Int → List Int → List Int → Option (List Int)
 | 0, _, _, _, _, _ => none
 | k + 1, x5, x7, x8, xZ0, xZ1 => if x8 < (x7.length : Int) then (if 0 ≤ x8 then (if 0 ≤ (rd x7 x8) then (if (rd x7 x8) < (xZ0.length : Int) then (if (rd x7 x8) < (xZ1.length : Int) then ((some (([rd xZ0 (rd x7 x8), rd xZ1 (rd x7 x8)] : List Int) : List Int)).bind fun y762 => (impl_namesFrom.l2 k x5 x7 x8 y762 (y762.length : Int) 0 xZ0 xZ1)) else (none)) else (none)) else (none)) else (none)) else (some x5)
def impl_namesFrom.l2 : Nat → List Int → List Int → Int → List Int → Int → Int → List Int → List Int → Option (List Int)
 | 0, _, _, _, _, _, _, _, _ => none
 | k + 1, x5, x7, x8, x51, x52, x53, xZ0, xZ1 => if x53 < x52 then (if 0 ≤ x53 then (if x53 < (x51.length : Int) then (if 0 ≤ (rd x51 x53) then (if (rd x51 x53) < (x5.length : Int) then (if (rd x5 (rd x51 x53)) < 0 then (if x7.length < 17592186044416 then (impl_namesFrom.l2 k (x5.set ((rd x51 x53) : Int).toNat (x7.length : Int)) (x7 ++ [rd x51 x53]) x8 x51 x52 (wrap64 (x53 + 1)) xZ0 xZ1) else (none)) else (impl_namesFrom.l2 k x5 x7 x8 x51 x52 (wrap64 (x53 + 1)) xZ0 xZ1)) else (none)) else (none)) else (none)) else (none)) else (impl_namesFrom.l1 k x5 x7 (wrap64 (x8 + 1)) xZ0 xZ1)
end
def impl_namesFrom.f (k : Nat) (l0_0 : List Int) (l0_1 : List Int) (a1 : Int) : Option (List Int) := if 0 ≤ (l0_0.length : Int) then (if ((l0_0.length : Int) : Int).toNat ≤ 35184372088832 then ((some (List.replicate ((l0_0.length : Int) : Int).toNat 0 : List Int)).bind fun y750 => (impl_namesFrom.l0 k a1 y750 (y750.length : Int) 0 l0_0 l0_1)) else (none)) else (none)
theorem impl_namesFrom.mono_l : ∀ k, (∀ y0 y1 y2 y3 y4 y5, LeO (impl_namesFrom.l0 k y0 y1 y2 y3 y4 y5) (impl_namesFrom.l0 (k + 1) y0 y1 y2 y3 y4 y5)) ∧ (∀ y0 y1 y2 y3 y4, LeO (impl_namesFrom.l1 k y0 y1 y2 y3 y4) (impl_namesFrom.l1 (k + 1) y0 y1 y2 y3 y4)) ∧ (∀ y0 y1 y2 y3 y4 y5 y6 y7, LeO (impl_namesFrom.l2 k y0 y1 y2 y3 y4 y5 y6 y7) (impl_namesFrom.l2 (k + 1) y0 y1 y2 y3 y4 y5 y6 y7))
 | 0 => ⟨fun _ _ _ _ _ _ r h => by simp [impl_namesFrom.l0] at h, fun _ _ _ _ _ r h => by simp [impl_namesFrom.l1] at h, fun _ _ _ _ _ _ _ _ r h => by simp [impl_namesFrom.l2] at h⟩
 | k + 1 => by
  obtain ⟨ih0, ih1, ih2⟩ := impl_namesFrom.mono_l k
  refine ⟨?_, ?_, ?_⟩
  ·
   intro y0 y1 y2 y3 y4 y5
   unfold impl_namesFrom.l0
   repeat' first
   | (with_reducible exact ih0 _ _ _ _ _ _)
   | (with_reducible exact ih1 _ _ _ _ _)
   | (with_reducible exact ih2 _ _ _ _ _ _ _ _)
   | (with_reducible exact LeO.refl _)
   | (with_reducible exact LeO.none _)
   | (with_reducible refine LeO.ite ?_ ?_)
   | (with_reducible refine LeO.bind ?_ (fun _ => ?_))
   | exact ih0 _ _ _ _ _ _
   | exact ih1 _ _ _ _ _
   | exact ih2 _ _ _ _ _ _ _ _
   | exact LeO.none _
   | refine LeO.ite ?_ ?_
   | refine LeO.bind ?_ (fun _ => ?_)
  ·
   intro y0 y1 y2 y3 y4
   unfold impl_namesFrom.l1
   repeat' first
   | (with_reducible exact ih0 _ _ _ _ _ _)
   | (with_reducible exact ih1 _ _ _ _ _)
   | (with_reducible exact ih2 _ _ _ _ _ _ _ _)
   | (with_reducible exact LeO.refl _)
   | (with_reducible exact LeO.none _)
   | (with_reducible refine LeO.ite ?_ ?_)
   | (with_reducible refine LeO.bind ?_ (fun _ => ?_))
   | exact ih0 _ _ _ _ _ _
   | exact ih1 _ _ _ _ _
   | exact ih2 _ _ _ _ _ _ _ _
   | exact LeO.none _
   | refine LeO.ite ?_ ?_
   | refine LeO.bind ?_ (fun _ => ?_)
  ·
   intro y0 y1 y2 y3 y4 y5 y6 y7
   unfold impl_namesFrom.l2
   repeat' first
   | (with_reducible exact ih0 _ _ _ _ _ _)
   | (with_reducible exact ih1 _ _ _ _ _)
   | (with_reducible exact ih2 _ _ _ _ _ _ _ _)
   | (with_reducible exact LeO.refl _)
   | (with_reducible exact LeO.none _)
   | (with_reducible refine LeO.ite ?_ ?_)
   | (with_reducible refine LeO.bind ?_ (fun _ => ?_))
   | exact ih0 _ _ _ _ _ _
   | exact ih1 _ _ _ _ _
   | exact ih2 _ _ _ _ _ _ _ _
   | exact LeO.none _
   | refine LeO.ite ?_ ?_
   | refine LeO.bind ?_ (fun _ => ?_)
theorem impl_namesFrom.mono : ∀ a0 a1 a2 k, LeO (impl_namesFrom.f k a0 a1 a2) (impl_namesFrom.f (k + 1) a0 a1 a2) := by
 intro a0 a1 a2 k
 obtain ⟨ih0, ih1, ih2⟩ := impl_namesFrom.mono_l k
 unfold impl_namesFrom.f
 repeat' first
   | (with_reducible exact ih0 _ _ _ _ _ _)
   | (with_reducible exact ih1 _ _ _ _ _)
   | (with_reducible exact ih2 _ _ _ _ _ _ _ _)
   | (with_reducible exact LeO.refl _)
   | (with_reducible exact LeO.none _)
   | (with_reducible refine LeO.ite ?_ ?_)
   | (with_reducible refine LeO.bind ?_ (fun _ => ?_))
   | exact ih0 _ _ _ _ _ _
   | exact ih1 _ _ _ _ _
   | exact ih2 _ _ _ _ _ _ _ _
   | exact LeO.none _
   | refine LeO.ite ?_ ?_
   | refine LeO.bind ?_ (fun _ => ?_)
def impl_namesFrom.T12 : Bool × List (List Nat × List Nat) := (true, [([], []), ([0], [0]), ([], []), ([], []), ([2, 3], [2, 3]), ([4], [4]), ([1, 5], [1, 5]), ([6], [6]), ([], []), ([8], [8]), ([], []), ([], []), ([10, 11], [10, 11]), ([12], [12]), ([9, 13], [9, 13]), ([14], [14]), ([7, 15], [7, 15]), ([16], [16]), ([], [])])
def impl_namesFrom.B12 : List Nat := [0, 1, 0, 0, 12, 28, 63, 127, 0, 256, 0, 0, 3072, 7168, 16128, 32512, 65535, 131071, 0]
theorem impl_namesFrom.tab12 : rtab .any (opsOf Try.f81 12) = impl_namesFrom.T12 := by kernel_rfl
theorem impl_namesFrom.bits12 : waitsOk impl_namesFrom.T12.2 impl_namesFrom.B12 = true := by kernel_rfl
set_option maxHeartbeats 8000000 in
set_option maxRecDepth 100000 in
theorem impl_namesFrom.calls (k : Nat) (A0_0 : Option Addr) (c0_0 : Nat) (l0_0 : List Int) (A0_1 : Option Addr) (c0_1 : Nat) (l0_1 : List Int) (a1 : Int) (r : List Int) (w : World) (hr0_0 : Kd.C (Kd.int .i64) w A0_0 l0_0.length l0_0) (hc0_0 : l0_0.length ≤ c0_0) (hr0_1 : Kd.C (Kd.int .i64) w A0_1 l0_1.length l0_1) (hc0_1 : l0_1.length ≤ c0_1) (h : impl_namesFrom.f k l0_0 l0_1 a1 = some r) :
  Calls Try.prog 81 #[.agg #[.slice A0_0 l0_0.length c0_0, .slice A0_1 l0_1.length c0_1], .int .i64 a1] w fun e w' => ∃ v0_ : Value, e = .returned (v0_) ∧ Kd.R (Kd.int .i64) 3 w' w.heap.size (fun _ => True) v0_ r ∧ Below w.heap.size w w' := by
 have hu29 := Try.underlying29; have HR0_0 := Az hr0_0; have HC0_0 := Az hc0_0; clear hr0_0 hc0_0; have HR0_1 := Az hr0_1; have HC0_1 := Az hc0_1; clear hr0_1 hc0_1; have HB := Az (Below.refl w.heap.size w); have H : (if 0 ≤ (l0_0.length : Int) then (if ((l0_0.length : Int) : Int).toNat ≤ 35184372088832 then ((some (List.replicate ((l0_0.length : Int) : Int).toNat 0 : List Int)).bind fun y750 => (impl_namesFrom.l0 k a1 y750 (y750.length : Int) 0 l0_0 l0_1)) else (none)) else (none)) = some r := h; clear h
 by_cases c3 : 0 ≤ (l0_0.length : Int)
 ·
  rw [if_pos c3] at H; have c3b0 := eq_true c3; have c3b1 := decide_eq_true c3; clear c3
  by_cases c4 : ((l0_0.length : Int) : Int).toNat ≤ 35184372088832
  ·
   rw [if_pos c4] at H; have c4b0 := eq_true c4; have c4b1 := decide_eq_true c4; clear c4; obtain ⟨y750, hy750⟩ : ∃ y_ : List Int, y_ = (List.replicate ((l0_0.length : Int) : Int).toNat 0) := ⟨_, rfl⟩; replace H : (impl_namesFrom.l0 k a1 y750 (y750.length : Int) 0 l0_0 l0_1) = some r := hR hy750 H; have Ny750 := Az hy750; clear hy750; have H' := Az H; clear H
   go_enter Try.func81, Try.ntmps81
   go_wp2_with (first | ((with_reducible refine gate_dst (N := 2) rfl ?_); refine box_event ?hg (N := 2) ?hd (cs := #[.slice A0_0 l0_0.length c0_0, .slice A0_1 l0_1.length c0_1]) (t := 29) ?hr ?_; (case hd => rfl); (case hg => rfl); (case hr => first | (go_simp; done) | (go_simp; rfl)); intro gb749 hg w5 hbox hb; have n0 := Az (below_step (bU0 HB.out) hb); have n1 := Az (hbox); have n2 := Az ((by rw [hg]; exact (below_size (bU0 HB.out)) : w.heap.size ≤ gb749)); have n3 := n2; clear HB; have HB := n0; have BK749 := n1; have GW749 := n2; have GE749 := n3; clear n0 n1 n2 n3 hb hbox hg; have hcz6_0 : w5.cell? ⟨gb749, 0, none⟩ = some (.slice A0_0 l0_0.length c0_0) := (blk_cell BK749.out 0).trans rfl; have hcz6_1 : w5.cell? ⟨gb749, 1, none⟩ = some (.slice A0_1 l0_1.length c0_1) := (blk_cell BK749.out 1).trans rfl; have hfz6_0 := blk_frozen BK749.out 0; have hfz6_1 := blk_frozen BK749.out 1) | ((with_reducible refine gate_dst (N := 14) rfl ?_); refine Kd.R_make (Kd.int .i64) _ 3 rfl (N := 14) rfl 23 _ _ rfl (l0_0.length : Int) rfl rfl Try.underlying23 (.int .i64 0) 8 info3 rfl (by decide) (by omega) 0 (ok := fun _ => True) (okp := fun _ => True) rfl (fun _ hk => hk) trivial (oA) (Nat.le_trans (Nat.mul_le_mul_right _ (oA : (l0_0.length : Int).toNat ≤ 35184372088832)) (by omega)) (Below.refl _ _) (Nat.le_refl _) ?_; intro v751 w7 ho8 hb hg_ hnew_; clear hg_ hnew_; (first | rw [← Ny750.out] at ho8 | (simp only [Int.reduceToNat] at ho8; rw [← Ny750.out] at ho8)); have n0 := Az (Kd.R_lower ho8 (below_size (bU1 HB.out GE749.out))); have n1 := Az (blk_below (g := gb749) (o := .cells #[.slice A0_0 l0_0.length c0_0, .slice A0_1 l0_1.length c0_1] 29 (0, 0)) (kU BK749.out) hb); have n2 := Az (below_step (bU1 HB.out GE749.out) hb); clear BK749 HB; have HO752 := n0; have BK749 := n1; have HB := n2; clear n0 n1 n2 hb ho8; obtain ⟨Ao9, co9, eo9⟩ := Kd.R_slice HO752.out; subst eo9))
   go_loopg [17] k (fun kq v17 w' => ∃ (x5_1 : List Int) (x17_1 : Int), v17 = .int .i64 x17_1 ∧ Aside0 (impl_namesFrom.l0 kq a1 x5_1 (y750.length : Int) x17_1 l0_0 l0_1 = some r) ∧ Aside0 (kq ≤ k) ∧ Aside0 (Kd.R (Kd.int .i64) 3 w' w.heap.size (fun _ => True) (.slice Ao9 y750.length co9) x5_1) ∧ Aside0 (w'.heap[gb749]? = some (.cells #[(.slice A0_0 l0_0.length c0_0), (.slice A0_1 l0_1.length c0_1)] 29 (0, 0))) ∧ Aside0 (Below w.heap.size w w'))
   case atStart => exact ⟨(y750), (0), rS, H', ⟨Nat.le_refl _⟩, ⟨rU HO752.out⟩, ⟨kU BK749.out⟩, ⟨bU1 HB.out GE749.out⟩⟩
   case round =>
    clear H'; (try clear p2); (try clear c3); (try clear c3b0); (try clear c3b1); (try clear c4); (try clear c4b0); (try clear c4b1); (try clear c8); (try clear hcz6_0); (try clear hcz6_1); (try clear hfz6_0); (try clear hfz6_1); obtain ⟨x5_1, x17_1, rfl, HA, HK1, HO_5, BK749, HB⟩ := hrel; have hl5_1 := (Kd.R_reads' HO_5.out).1; rw [hl5_1] at HO_5; (try simp only [hl5_1]); (try simp only [hl5_1] at BK749)
    cases gk with
    | zero => exact absurd HA.out (by simp [impl_namesFrom.l0])
    | succ k1 =>
     have H := HA.out; clear HA; simp only [impl_namesFrom.l0] at H
     by_cases c10 : x17_1 < (y750.length : Int)
     ·
      rw [if_pos c10] at H; have c10b0 := decide_eq_true c10; (try (have c10b0hl5_1 := c10b0; rw [hl5_1] at c10b0hl5_1)); clear c10
      by_cases c11 : 0 ≤ x17_1
      ·
       rw [if_pos c11] at H; have c11b0 := decide_eq_true c11; clear c11
       by_cases c12 : x17_1 < (x5_1.length : Int)
       ·
        rw [if_pos c12] at H; have c12b0 := decide_eq_true c12; (try (have c12b0hl5_1 := c12b0; rw [hl5_1] at c12b0hl5_1)); clear c12; obtain ⟨y753, hy753⟩ : ∃ y_ : List Int, y_ = (x5_1.set (x17_1 : Int).toNat (-1)) := ⟨_, rfl⟩; replace H : (impl_namesFrom.l0 k1 a1 y753 (y750.length : Int) (wrap64 (x17_1 + 1)) l0_0 l0_1) = some r := hR hy753 H; have Ny753 := Az hy753; clear hy753; have H' := Az H; clear H; have p13 : 0 ≤ (x17_1 : Int) := oA; have q13 : (x17_1 : Int) < ((x5_1.length : Int) : Int) := oA; obtain ⟨go13, co13, eo13, gb13, gl13, cl13, HG13⟩ := Kd.R_form HO_5.out (by omega); (first | cases eo13 | (injection eo13 with ea_ en_ ec_; (first | subst ea_ | (injection ea_ with ea_; subst ea_)); subst ec_; clear en_)); have GB13 := Az gb13; have GG13 := Az HG13; clear gb13 gl13 HG13; obtain ⟨hx13_0, hf13_0⟩ := Kd.R_celln 0 HO_5.out (x17_1 : Int) p13 q13; replace p13 := eq_true p13; replace q13 := eq_true q13; obtain ⟨hy14_, hz14_⟩ := Kd.R_celln 0 HO_5.out (x17_1 : Int) (oA) (oA); have HP14 := Kd.R_putg HO_5.out (x17_1 : Int) (-1)
        go_wp2_with (first | ((with_reducible refine gate_store (t := 3) (p := 22) rfl ?_); refine store_event (t := 3) (p := 22) (v := ?vo_w15) (w1 := (wr.setCell ⟨go13, (x17_1 : Int).toNat, none⟩ (.int .i64 (-1)))) ?hg ?ho ?hn ?hr ?_; (case ho => rfl); (case hg => rfl); (case hn => rfl); (case hr => first | (go_simp; done) | (go_simp; rfl)); intro w15 hw; have hg : wr.grownBy w15 (some go13) := (by rw [hw]; exact HP14.2); have hp_ : Kd.R (Kd.int .i64) 3 w15 w.heap.size (fun _ => True) (.slice (some ⟨go13, 0, none⟩) x5_1.length co9) y753 := (by rw [hw, Ny753.out]; exact HP14.1); clear HP14; have n0 := Az (hp_); have n1 := Az (blk_grown (g := gb749) (o := .cells #[.slice A0_0 l0_0.length c0_0, .slice A0_1 l0_1.length c0_1] 29 (0, 0)) (kU BK749.out) hg (Kd.R_ne HO_5.out BK749.out (by decide))); have n2 := Az ((by rw [hw]; exact below_set (HB.out) GB13.out : Below w.heap.size w w15)); clear HO_5 BK749 HB; have HO_5 := n0; have BK749 := n1; have HB := n2; clear n0 n1 n2; clear hg hw hp_))
        (try simp only [← hl5_1]); (first | go_roundg k1 | (refine Handed.intro k1 ?measure ?_; rotate_left; go_step; (try simp only [add_plain]); (repeat apply Exists.intro); refine ⟨?rel, rfl⟩))
        case measure => have := HK1.out; omega
        case rel => exact ⟨(y753), (wrap64 (x17_1 + 1)), rS, H', ⟨by have := HK1.out; omega⟩, ⟨by (try simp only [hl5_1]); (with_reducible repeat (first | apply Kd.R_alloc | apply Kd.R_drewN | apply Kd.R_drew)); exact HO_5.out⟩, ⟨by (try simp only [hl5_1]); (with_reducible repeat (first | refine blk_drewN ?_ _ | refine blk_drew ?_ | refine blk_alloc ?_ _)); exact BK749.out⟩, ⟨bU1 HB.out GE749.out⟩⟩
       ·
        rw [if_neg c12] at H
        exact absurd H (by simp)
      ·
       rw [if_neg c11] at H
       exact absurd H (by simp)
     ·
      rw [if_neg c10] at H; have c10b0 := decide_eq_false c10; (try (have c10b0hl5_1 := c10b0; rw [hl5_1] at c10b0hl5_1)); clear c10
      by_cases c16 : 0 ≤ a1
      ·
       rw [if_pos c16] at H; have c16b0 := decide_eq_true c16; clear c16
       by_cases c17 : a1 < (x5_1.length : Int)
       ·
        rw [if_pos c17] at H; have c17b0 := decide_eq_true c17; (try (have c17b0hl5_1 := c17b0; rw [hl5_1] at c17b0hl5_1)); clear c17; obtain ⟨y754, hy754⟩ : ∃ y_ : List Int, y_ = (x5_1.set (a1 : Int).toNat 0) := ⟨_, rfl⟩; replace H : (impl_namesFrom.l1 k1 y754 (([a1] : List Int)) 0 l0_0 l0_1) = some r := hR hy754 H; have Ny754 := Az hy754; clear hy754; obtain ⟨y755, hy755⟩ : ∃ y_ : List Int, y_ = (([a1] : List Int)) := ⟨_, rfl⟩; replace H : (impl_namesFrom.l1 k1 y754 y755 0 l0_0 l0_1) = some r := hR hy755 H; have Ny755 := Az hy755; clear hy755; have H' := Az H; clear H; have p18 : 0 ≤ (a1 : Int) := oA; have q18 : (a1 : Int) < ((x5_1.length : Int) : Int) := oA; obtain ⟨go18, co18, eo18, gb18, gl18, cl18, HG18⟩ := Kd.R_form HO_5.out (by omega); (first | cases eo18 | (injection eo18 with ea_ en_ ec_; (first | subst ea_ | (injection ea_ with ea_; subst ea_)); subst ec_; clear en_)); have GB18 := Az gb18; have GG18 := Az HG18; clear gb18 gl18 HG18; obtain ⟨hx18_0, hf18_0⟩ := Kd.R_celln 0 HO_5.out (a1 : Int) p18 q18; replace p18 := eq_true p18; replace q18 := eq_true q18; obtain ⟨hy19_, hz19_⟩ := Kd.R_celln 0 HO_5.out (a1 : Int) (oA) (oA); have HP19 := Kd.R_putg HO_5.out (a1 : Int) 0
        go_wp2_with (first | ((with_reducible refine gate_store (t := 3) (p := 26) rfl ?_); refine store_event (t := 3) (p := 26) (v := ?vo_w20) (w1 := (wr.setCell ⟨go18, (a1 : Int).toNat, none⟩ (.int .i64 0))) ?hg ?ho ?hn ?hr ?_; (case ho => rfl); (case hg => rfl); (case hn => rfl); (case hr => first | (go_simp; done) | (go_simp; rfl)); intro w20 hw; have hg : wr.grownBy w20 (some go18) := (by rw [hw]; exact HP19.2); have hp_ : Kd.R (Kd.int .i64) 3 w20 w.heap.size (fun _ => True) (.slice (some ⟨go18, 0, none⟩) x5_1.length co9) y754 := (by rw [hw, Ny754.out]; exact HP19.1); clear HP19; have n0 := Az (hp_); have n1 := Az (blk_grown (g := gb749) (o := .cells #[.slice A0_0 l0_0.length c0_0, .slice A0_1 l0_1.length c0_1] 29 (0, 0)) (kU BK749.out) hg (Kd.R_ne HO_5.out BK749.out (by decide))); have n2 := Az ((by rw [hw]; exact below_set (HB.out) GB18.out : Below w.heap.size w w20)); clear HO_5 BK749 HB; have HO_5 := n0; have BK749 := n1; have HB := n2; clear n0 n1 n2; clear hg hw hp_) | ((with_reducible refine gate_dst (N := 28) rfl ?_); refine Kd.R_lit (Kd.int .i64) _ 3 ?hg (N := 28) ?hd (xs := ([a1] : List Int)) (inner := [.int .i64 a1]) (ok := fun _ => True) (okp := fun _ => True) ?hr ?hp (fun _ hk => hk) trivial (Below.refl _ _) (Nat.le_refl _) (by simp) ?_; (case hd => rfl); (case hg => rfl); (case hr => first | (go_simp; done) | (go_simp; rfl)); (case hp => exact (Reps.one (show Kd.M (Kd.int .i64) _ _ _ a1 [.int .i64 a1] from rfl) (Reps.none _ _))); intro v756 w21 ho22 hb hg_ hnew_; clear hg_ hnew_; (first | rw [← Ny755.out] at ho22 | (simp only [Int.reduceToNat] at ho22; rw [← Ny755.out] at ho22)); have n0 := Az (Kd.R_elder' (rU HO_5.out) (Kd.R_base ho22) hb); have n1 := Az (Kd.R_lower (Kd.R_new' ho22 (Kd.R_lt (rU HO_5.out))) (below_size (bU1 HB.out GE749.out))); have n2 := Az (blk_below (g := gb749) (o := .cells #[.slice A0_0 l0_0.length c0_0, .slice A0_1 l0_1.length c0_1] 29 (0, 0)) (kU BK749.out) hb); have n3 := Az (below_step (bU1 HB.out GE749.out) hb); clear HO_5 BK749 HB; have HO_5 := n0; have HO757 := n1; have BK749 := n2; have HB := n3; clear n0 n1 n2 n3; clear hb ho22))
        go_loopg [7, 8] k1 (fun kq v7 v8 w' => ∃ (x5_2 : List Int) (x7_2 : List Int) (x8_2 : Int), v8 = .int .i64 x8_2 ∧ Aside0 (impl_namesFrom.l1 kq x5_2 x7_2 x8_2 l0_0 l0_1 = some r) ∧ Aside0 (kq ≤ k1) ∧ Aside0 (Kd.R (Kd.int .i64) 3 w' w.heap.size (fun k_ => some k_ ≠ (v7 : Value).ownBlock) (.slice (some ⟨go18, 0, none⟩) x5_1.length co9) x5_2) ∧ Aside0 (Kd.R (Kd.int .i64) 3 w' w.heap.size (fun k_ => some k_ ≠ ((.slice (some ⟨go18, 0, none⟩) x5_1.length co9) : Value).ownBlock) v7 x7_2) ∧ Aside0 (w'.heap[gb749]? = some (.cells #[(.slice A0_0 l0_0.length c0_0), (.slice A0_1 l0_1.length c0_1)] 29 (0, 0))) ∧ Aside0 (Below w.heap.size w w'))
        case atStart => exact ⟨(y754), (y755), (0), rS, H', ⟨Nat.le_refl _⟩, ⟨by (try simp only [hl5_1]); (with_reducible repeat (first | apply Kd.R_alloc | apply Kd.R_drewN | apply Kd.R_drew)); exact Kd.R_mono HO_5.out (fun _ hk => hk.2)⟩, ⟨by (try simp only [hl5_1]); (with_reducible repeat (first | apply Kd.R_alloc | apply Kd.R_drewN | apply Kd.R_drew)); exact Kd.R_mono HO757.out (fun _ hk => hk.2)⟩, ⟨by (try simp only [hl5_1]); (with_reducible repeat (first | refine blk_drewN ?_ _ | refine blk_drew ?_ | refine blk_alloc ?_ _)); exact BK749.out⟩, ⟨bU1 HB.out GE749.out⟩⟩
        case round =>
         clear H'; (try clear c1); (try clear p1); (try clear q1); (try clear hx1); (try clear p2); (try clear c3); (try clear c3b0); (try clear c3b1); (try clear c4); (try clear c4b0); (try clear c4b1); (try clear p6); (try clear c8); (try clear c10); (try clear c10b0); (try clear c11); (try clear c11b0); (try clear c12); (try clear c12b0); (try clear p13); (try clear q13); (try clear hx13); (try clear hf13); (try clear c16); (try clear c16b0); (try clear c17); (try clear c17b0); (try clear p18); (try clear q18); (try clear hx18); (try clear hf18); (try clear hcz6_0); (try clear hcz6_1); (try clear hfz6_0); (try clear hfz6_1); (try clear hx13_0); (try clear hx18_0); (try clear p13); (try clear p18); (try clear p2); (try clear q13); (try clear q18); obtain ⟨x5_2, x7_2, x8_2, rfl, HA, HK2, HO_5, HO_7, BK749, HB⟩ := hrel; have hl5_2 := (Kd.R_reads' HO_5.out).1; rw [hl5_2] at HO_5; (try simp only [hl5_2]); (try simp only [hl5_2] at BK749); (try simp only [hl5_2] at HO_7)
         cases gk with
         | zero => exact absurd HA.out (by simp [impl_namesFrom.l1])
         | succ k2 =>
          have H := HA.out; clear HA; simp only [impl_namesFrom.l1] at H
          by_cases c23 : x8_2 < (x7_2.length : Int)
          ·
           rw [if_pos c23] at H; have c23b0 := decide_eq_true c23; (try (have c23b0hl5_1 := c23b0; rw [hl5_1] at c23b0hl5_1)); (try (have c23b0hl5_2 := c23b0; rw [hl5_2] at c23b0hl5_2)); clear c23
           by_cases c24 : 0 ≤ x8_2
           ·
            rw [if_pos c24] at H; have c24b0 := decide_eq_true c24; clear c24
            by_cases c25 : 0 ≤ (rd x7_2 x8_2)
            ·
             rw [if_pos c25] at H; have c25b0 := decide_eq_true c25; clear c25
             by_cases c26 : (rd x7_2 x8_2) < (l0_0.length : Int)
             ·
              rw [if_pos c26] at H; have c26b0 := decide_eq_true c26; (try (have c26b0hl5_1 := c26b0; rw [hl5_1] at c26b0hl5_1)); (try (have c26b0hl5_2 := c26b0; rw [hl5_2] at c26b0hl5_2)); clear c26
              by_cases c27 : (rd x7_2 x8_2) < (l0_1.length : Int)
              ·
               rw [if_pos c27] at H; have c27b0 := decide_eq_true c27; (try (have c27b0hl5_1 := c27b0; rw [hl5_1] at c27b0hl5_1)); (try (have c27b0hl5_2 := c27b0; rw [hl5_2] at c27b0hl5_2)); clear c27; obtain ⟨y762, hy762⟩ : ∃ y_ : List Int, y_ = (([rd l0_0 (rd x7_2 x8_2), rd l0_1 (rd x7_2 x8_2)] : List Int)) := ⟨_, rfl⟩; replace H : (impl_namesFrom.l2 k2 x5_2 x7_2 x8_2 y762 (y762.length : Int) 0 l0_0 l0_1) = some r := hR hy762 H; have Ny762 := Az hy762; clear hy762; have H' := Az H; clear H; obtain ⟨Ao28, co28, eo28⟩ := Kd.R_slice HO_7.out; subst eo28
               try go_wp2
               have n0 := Az (Kd.R_drew HO_5.out); have n1 := Az (Kd.R_drew HO_7.out); have n2 := Az (blk_drew BK749.out); have n3 := Az (below_drew1 HB.out); clear HO_5 HO_7 BK749 HB; have HO_5 := n0; have HO_7 := n1; have BK749 := n2; have HB := n3; clear n0 n1 n2 n3; have p758 : 0 ≤ (x8_2 : Int) := oA; have q758 : x8_2 < (x7_2.length : Int) := oA; obtain ⟨ad758, e758, hx758_0⟩ := Kd.at_int (Kd.R_reads' HO_7.out).2.2 x8_2 p758 q758
               cases e758
               replace p758 := eq_true p758; replace q758 := eq_true q758; have p759 : 0 ≤ ((rd x7_2 x8_2) : Int) := oA; have q759 : (rd x7_2 x8_2) < (l0_0.length : Int) := oA; obtain ⟨ad759, e759, hx759_0⟩ := Kd.at_int HR0_0.out (rd x7_2 x8_2) p759 q759; have hw759_0 := hx759_0
               cases e759
               (try replace hx759_0 := (HB.out.cell (World.block_lt_of_cell? w _ hx759_0)).trans hx759_0); replace p759 := eq_true p759; replace q759 := eq_true q759; have p760 : 0 ≤ (x8_2 : Int) := oA; have q760 : x8_2 < (x7_2.length : Int) := oA; obtain ⟨ad760, e760, hx760_0⟩ := Kd.at_int (Kd.R_reads' HO_7.out).2.2 x8_2 p760 q760; obtain rfl : ad758 = ad760 := (by injection e760); replace p760 := eq_true p760; replace q760 := eq_true q760; have p761 : 0 ≤ ((rd x7_2 x8_2) : Int) := oA; have q761 : (rd x7_2 x8_2) < (l0_1.length : Int) := oA; obtain ⟨ad761, e761, hx761_0⟩ := Kd.at_int HR0_1.out (rd x7_2 x8_2) p761 q761; have hw761_0 := hx761_0
               cases e761
               (try replace hx761_0 := (HB.out.cell (World.block_lt_of_cell? w _ hx761_0)).trans hx761_0); replace p761 := eq_true p761; replace q761 := eq_true q761
               refine start_ (n := 19) (S := fun w' => w'.cell? ⟨gb749, 0, none⟩ = some (.slice (some ad759) l0_0.length c0_0) ∧ w'.cell? ⟨gb749, 1, none⟩ = some (.slice (some ad761) l0_1.length c0_1) ∧ w'.cell? (ad758.add (x8_2).toNat) = some (.int .i64 (rd x7_2 x8_2)) ∧ w'.cell? (ad759.add ((rd x7_2 x8_2)).toNat) = some (.int .i64 (rd l0_0 (rd x7_2 x8_2))) ∧ w'.cell? (ad758.add (x8_2).toNat) = some (.int .i64 (rd x7_2 x8_2)) ∧ w'.cell? (ad761.add ((rd x7_2 x8_2)).toNat) = some (.int .i64 (rd l0_1 (rd x7_2 x8_2)))) (ds := []) #[false, false, false, false, false, false, false, false, false, false, false, false, false, false, false, false, false, false, false] (by kernel_rfl) rfl rfl ⟨(blk_cell BK749.out 0).trans rfl, (blk_cell BK749.out 1).trans rfl, hx758_0, ((HB.out.cell (World.block_lt_of_cell? w _ hw759_0)).trans hw759_0), hx760_0, ((HB.out.cell (World.block_lt_of_cell? w _ hw761_0)).trans hw761_0)⟩ (fun hHeld => ?_); refine with_tabW impl_namesFrom.tab12 impl_namesFrom.bits12 (fun HT_ HW_ => ?_)
               generalize wr.drew = w29 at HO_5 HO_7 BK749 HB hx758_0 hx759_0 hx760_0 hx761_0 hHeld ⊢
               refine pure_ (i := 0) (N := some 35) (v := ?_) (a' := ?_) #[true, false, false, false, false, false, false, false, false, false, false, false, false, false, false, false, false, false, false] rfl rfl (any_of HT_.out (by kernel_rfl)) (fun _ _ _ h => h) (Or.inl ⟨by rfl, ?_⟩) ?_ ?_
               rotate_left
               ·
                intro w'
                go_simp
                with_reducible rfl
               rotate_left
               ·
                simp only [Act.put, List.setIfInBounds_toArray, List.set_cons_zero, List.set_cons_succ, i64_w, i32_w]
                rfl
               refine pure_ (i := 2) (N := some 37) (v := ?_) (a' := ?_) #[true, false, true, false, false, false, false, false, false, false, false, false, false, false, false, false, false, false, false] rfl rfl (any_of HT_.out (by kernel_rfl)) (fun _ _ _ h => h) (Or.inl ⟨by rfl, ?_⟩) ?_ ?_
               rotate_left
               ·
                intro w'
                go_simp
                with_reducible rfl
               rotate_left
               ·
                simp only [Act.put, List.setIfInBounds_toArray, List.set_cons_zero, List.set_cons_succ, i64_w, i32_w]
                rfl
               refine pure_ (i := 3) (N := some 38) (v := ?_) (a' := ?_) #[true, false, true, true, false, false, false, false, false, false, false, false, false, false, false, false, false, false, false] rfl rfl (any_of HT_.out (by kernel_rfl)) (fun _ _ _ h => h) (Or.inl ⟨by rfl, ?_⟩) ?_ ?_
               rotate_left
               ·
                intro w'
                go_simp
                with_reducible rfl
               rotate_left
               ·
                simp only [Act.put, List.setIfInBounds_toArray, List.set_cons_zero, List.set_cons_succ, i64_w, i32_w]
                rfl
               refine pure_ (i := 4) (N := some 39) (v := ?_) (a' := ?_) #[true, false, true, true, true, false, false, false, false, false, false, false, false, false, false, false, false, false, false] rfl rfl (any_of HT_.out (by kernel_rfl)) (fun _ _ _ h => h) (Or.inl ⟨by rfl, ?_⟩) ?_ ?_
               rotate_left
               ·
                intro w'
                go_simp
                with_reducible rfl
               rotate_left
               ·
                simp only [Act.put, List.setIfInBounds_toArray, List.set_cons_zero, List.set_cons_succ, i64_w, i32_w]
                rfl
               refine pure_ (i := 8) (N := some 43) (v := ?_) (a' := ?_) #[true, false, true, true, true, false, false, false, true, false, false, false, false, false, false, false, false, false, false] rfl rfl (any_of HT_.out (by kernel_rfl)) (fun _ _ _ h => h) (Or.inl ⟨by rfl, ?_⟩) ?_ ?_
               rotate_left
               ·
                intro w'
                go_simp
                with_reducible rfl
               rotate_left
               ·
                simp only [Act.put, List.setIfInBounds_toArray, List.set_cons_zero, List.set_cons_succ, i64_w, i32_w]
                rfl
               refine pure_ (i := 10) (N := some 45) (v := ?_) (a' := ?_) #[true, false, true, true, true, false, false, false, true, false, true, false, false, false, false, false, false, false, false] rfl rfl (any_of HT_.out (by kernel_rfl)) (fun _ _ _ h => h) (Or.inl ⟨by rfl, ?_⟩) ?_ ?_
               rotate_left
               ·
                intro w'
                go_simp
                with_reducible rfl
               rotate_left
               ·
                simp only [Act.put, List.setIfInBounds_toArray, List.set_cons_zero, List.set_cons_succ, i64_w, i32_w]
                rfl
               refine pure_ (i := 11) (N := some 46) (v := ?_) (a' := ?_) #[true, false, true, true, true, false, false, false, true, false, true, true, false, false, false, false, false, false, false] rfl rfl (any_of HT_.out (by kernel_rfl)) (fun _ _ _ h => h) (Or.inl ⟨by rfl, ?_⟩) ?_ ?_
               rotate_left
               ·
                intro w'
                go_simp
                with_reducible rfl
               rotate_left
               ·
                simp only [Act.put, List.setIfInBounds_toArray, List.set_cons_zero, List.set_cons_succ, i64_w, i32_w]
                rfl
               refine pure_ (i := 12) (N := some 47) (v := ?_) (a' := ?_) #[true, false, true, true, true, false, false, false, true, false, true, true, true, false, false, false, false, false, false] rfl rfl (any_of HT_.out (by kernel_rfl)) (fun _ _ _ h => h) (Or.inl ⟨by rfl, ?_⟩) ?_ ?_
               rotate_left
               ·
                intro w'
                go_simp
                with_reducible rfl
               rotate_left
               ·
                simp only [Act.put, List.setIfInBounds_toArray, List.set_cons_zero, List.set_cons_succ, i64_w, i32_w]
                rfl
               refine pure_ (i := 18) (N := some 53) (v := ?_) (a' := ?_) #[true, false, true, true, true, false, false, false, true, false, true, true, true, false, false, false, false, false, true] rfl rfl (any_of HT_.out (by kernel_rfl)) (fun _ _ _ h => h) (Or.inl ⟨by rfl, ?_⟩) ?_ ?_
               rotate_left
               ·
                intro w'
                go_simp
                with_reducible rfl
               rotate_left
               ·
                simp only [Act.put, List.setIfInBounds_toArray, List.set_cons_zero, List.set_cons_succ, i64_w, i32_w]
                rfl
               refine take_ (i := 1) (N := some 36) (v := ?_) (a' := ?_) #[true, true, true, true, true, false, false, false, true, false, true, true, true, false, false, false, false, false, true] rfl rfl (take_ofW HT_.out HW_.out (by kernel_rfl)) (fun _ _ _ h => h) (Or.inl ⟨by rfl, ?_⟩) hHeld ?_ ?_
               rotate_left
               ·
                rintro w' ⟨s0, s1, s2, s3, s4, s5⟩
                go_simp
                with_reducible rfl
               rotate_left
               ·
                simp only [Act.put, List.setIfInBounds_toArray, List.set_cons_zero, List.set_cons_succ, i64_w, i32_w]
                rfl
               refine take_ (i := 5) (N := some 40) (v := ?_) (a' := ?_) #[true, true, true, true, true, true, false, false, true, false, true, true, true, false, false, false, false, false, true] rfl rfl (take_ofW HT_.out HW_.out (by kernel_rfl)) (fun _ _ _ h => h) (Or.inl ⟨by rfl, ?_⟩) hHeld ?_ ?_
               rotate_left
               ·
                rintro w' ⟨s0, s1, s2, s3, s4, s5⟩
                go_simp
                with_reducible rfl
               rotate_left
               ·
                simp only [Act.put, List.setIfInBounds_toArray, List.set_cons_zero, List.set_cons_succ, i64_w, i32_w]
                rfl
               refine pure_ (i := 6) (N := some 41) (v := ?_) (a' := ?_) #[true, true, true, true, true, true, true, false, true, false, true, true, true, false, false, false, false, false, true] rfl rfl (any_of HT_.out (by kernel_rfl)) (fun _ _ _ h => h) (Or.inl ⟨by rfl, ?_⟩) ?_ ?_
               rotate_left
               ·
                intro w'
                go_simp
                with_reducible rfl
               rotate_left
               ·
                simp only [Act.put, List.setIfInBounds_toArray, List.set_cons_zero, List.set_cons_succ, i64_w, i32_w]
                rfl
               refine take_ (i := 7) (N := some 42) (v := ?_) (a' := ?_) #[true, true, true, true, true, true, true, true, true, false, true, true, true, false, false, false, false, false, true] rfl rfl (take_ofW HT_.out HW_.out (by kernel_rfl)) (fun _ _ _ h => h) (Or.inl ⟨by rfl, ?_⟩) hHeld ?_ ?_
               rotate_left
               ·
                rintro w' ⟨s0, s1, s2, s3, s4, s5⟩
                go_simp
                with_reducible rfl
               rotate_left
               ·
                simp only [Act.put, List.setIfInBounds_toArray, List.set_cons_zero, List.set_cons_succ, i64_w, i32_w]
                rfl
               refine take_ (i := 9) (N := some 44) (v := ?_) (a' := ?_) #[true, true, true, true, true, true, true, true, true, true, true, true, true, false, false, false, false, false, true] rfl rfl (take_ofW HT_.out HW_.out (by kernel_rfl)) (fun _ _ _ h => h) (Or.inl ⟨by rfl, ?_⟩) hHeld ?_ ?_
               rotate_left
               ·
                rintro w' ⟨s0, s1, s2, s3, s4, s5⟩
                go_simp
                with_reducible rfl
               rotate_left
               ·
                simp only [Act.put, List.setIfInBounds_toArray, List.set_cons_zero, List.set_cons_succ, i64_w, i32_w]
                rfl
               refine take_ (i := 13) (N := some 48) (v := ?_) (a' := ?_) #[true, true, true, true, true, true, true, true, true, true, true, true, true, true, false, false, false, false, true] rfl rfl (take_ofW HT_.out HW_.out (by kernel_rfl)) (fun _ _ _ h => h) (Or.inl ⟨by rfl, ?_⟩) hHeld ?_ ?_
               rotate_left
               ·
                rintro w' ⟨s0, s1, s2, s3, s4, s5⟩
                go_simp
                with_reducible rfl
               rotate_left
               ·
                simp only [Act.put, List.setIfInBounds_toArray, List.set_cons_zero, List.set_cons_succ, i64_w, i32_w]
                rfl
               refine pure_ (i := 14) (N := some 49) (v := ?_) (a' := ?_) #[true, true, true, true, true, true, true, true, true, true, true, true, true, true, true, false, false, false, true] rfl rfl (any_of HT_.out (by kernel_rfl)) (fun _ _ _ h => h) (Or.inl ⟨by rfl, ?_⟩) ?_ ?_
               rotate_left
               ·
                intro w'
                go_simp
                with_reducible rfl
               rotate_left
               ·
                simp only [Act.put, List.setIfInBounds_toArray, List.set_cons_zero, List.set_cons_succ, i64_w, i32_w]
                rfl
               refine take_ (i := 15) (N := some 50) (v := ?_) (a' := ?_) #[true, true, true, true, true, true, true, true, true, true, true, true, true, true, true, true, false, false, true] rfl rfl (take_ofW HT_.out HW_.out (by kernel_rfl)) (fun _ _ _ h => h) (Or.inl ⟨by rfl, ?_⟩) hHeld ?_ ?_
               rotate_left
               ·
                rintro w' ⟨s0, s1, s2, s3, s4, s5⟩
                go_simp
                with_reducible rfl
               rotate_left
               ·
                simp only [Act.put, List.setIfInBounds_toArray, List.set_cons_zero, List.set_cons_succ, i64_w, i32_w]
                rfl
               refine one_ (i := 16) (N := some 51) #[true, true, true, true, true, true, true, true, true, true, true, true, true, true, true, true, true, false, true] rfl rfl (one_of HT_.out (by kernel_rfl)) (by decide) (fun K hK => ?_)
               refine Kd.R_lit_step (Kd.int .i64) _ 3 ?hg (N := 51) ?hd (xs := ([rd l0_0 (rd x7_2 x8_2), rd l0_1 (rd x7_2 x8_2)] : List Int)) (inner := [.int .i64 (rd l0_0 (rd x7_2 x8_2)), .int .i64 (rd l0_1 (rd x7_2 x8_2))]) (ok := fun _ => True) (okp := fun _ => True) ?hr ?hp (fun _ hk => hk) trivial (Below.refl _ _) (Nat.le_refl _) (by simp) ?_; (case hd => rfl); (case hg => rfl); (case hr => first | (go_simp; done) | (go_simp; rfl)); (case hp => exact (Reps.one (show Kd.M (Kd.int .i64) _ _ _ (rd l0_0 (rd x7_2 x8_2)) [.int .i64 (rd l0_0 (rd x7_2 x8_2))] from rfl) (Reps.one (show Kd.M (Kd.int .i64) _ _ _ (rd l0_1 (rd x7_2 x8_2)) [.int .i64 (rd l0_1 (rd x7_2 x8_2))] from rfl) (Reps.none _ _))))
               intro v763 w30 ho31 hb hg_ hnew_
               have HS2_ := (hb.cell (World.block_lt_of_cell? _ _ (hHeld.2.2.1))).trans (hHeld.2.2.1); have HS4_ := (hb.cell (World.block_lt_of_cell? _ _ (hHeld.2.2.2.2.1))).trans (hHeld.2.2.2.2.1); clear hg_ hnew_; (first | rw [← Ny762.out] at ho31 | (simp only [Int.reduceToNat] at ho31; rw [← Ny762.out] at ho31)); have n0 := Az (Kd.R_elder' (rU HO_5.out) (Kd.R_base ho31) hb); have n1 := Az (Kd.R_elder' (rU HO_7.out) (Kd.R_base ho31) hb); have n2 := Az (Kd.R_lower (Kd.R_new' (Kd.R_new' ho31 (Kd.R_lt (rU HO_5.out))) (Kd.R_lt (rU HO_7.out))) (below_size (bU1 HB.out GE749.out))); have n3 := Az (blk_below (g := gb749) (o := .cells #[.slice (some ad759) l0_0.length c0_0, .slice (some ad761) l0_1.length c0_1] 29 (0, 0)) (kU BK749.out) hb); have n4 := Az (below_step (bU1 HB.out GE749.out) hb); clear HO_5 HO_7 BK749 HB; have HO_5 := n0; have HO_7 := n1; have HO764 := n2; have BK749 := n3; have HB := n4; clear n0 n1 n2 n3 n4 hb ho31; obtain ⟨Ao32, co32, eo32⟩ := Kd.R_slice HO764.out; (first | subst eo32 | (injection eo32 with f1_ f2_ f3_; have f4_ := f1_.symm; have f5_ := f3_.symm; clear f1_ f2_ f3_; subst f4_; subst f5_))
               refine hK.out _ _ ⟨(blk_cell BK749.out 0).trans rfl, (blk_cell BK749.out 1).trans rfl, HS2_, ((HB.out.cell (World.block_lt_of_cell? w _ hw759_0)).trans hw759_0), HS4_, ((HB.out.cell (World.block_lt_of_cell? w _ hw761_0)).trans hw761_0)⟩ (fun hHeld => ?_)
               clear hK K
               refine norm_ (a' := ?_) ?_ ?_
               rotate_left
               ·
                show Act.put _ (some 51) _ = _
                simp only [Act.put, List.setIfInBounds_toArray, List.set_cons_zero, List.set_cons_succ, i64_w, i32_w]
                rfl
               refine pure_ (i := 17) (N := some 52) (v := ?_) (a' := ?_) #[true, true, true, true, true, true, true, true, true, true, true, true, true, true, true, true, true, true, true] rfl rfl (any_of HT_.out (by kernel_rfl)) (fun _ _ _ h => h) (Or.inl ⟨by rfl, ?_⟩) ?_ ?_
               rotate_left
               ·
                intro w'
                go_simp
                with_reducible rfl
               rotate_left
               ·
                simp only [Act.put, List.setIfInBounds_toArray, List.set_cons_zero, List.set_cons_succ, i64_w, i32_w]
                rfl
               refine done_ (done_of HT_.out (by kernel_rfl)) ?_
               try go_wp2
               go_loopg [7, 53] k2 (fun kq v7 v53 w' => ∃ (x5_3 : List Int) (x7_3 : List Int) (x53_3 : Int), v53 = .int .i64 x53_3 ∧ Aside0 (impl_namesFrom.l2 kq x5_3 x7_3 x8_2 y762 (y762.length : Int) x53_3 l0_0 l0_1 = some r) ∧ Aside0 (kq ≤ k2) ∧ Aside0 (Kd.R (Kd.int .i64) 3 w' w.heap.size (fun k_ => some k_ ≠ (v7 : Value).ownBlock ∧ some k_ ≠ ((.slice Ao32 y762.length co32) : Value).ownBlock) (.slice (some ⟨go18, 0, none⟩) x5_2.length co9) x5_3) ∧ Aside0 (Kd.R (Kd.int .i64) 3 w' w.heap.size (fun k_ => some k_ ≠ ((.slice (some ⟨go18, 0, none⟩) x5_2.length co9) : Value).ownBlock ∧ some k_ ≠ ((.slice Ao32 y762.length co32) : Value).ownBlock) v7 x7_3) ∧ Aside0 (Kd.R (Kd.int .i64) 3 w' w.heap.size (fun k_ => some k_ ≠ ((.slice (some ⟨go18, 0, none⟩) x5_2.length co9) : Value).ownBlock ∧ some k_ ≠ (v7 : Value).ownBlock) (.slice Ao32 y762.length co32) y762) ∧ Aside0 (w'.heap[gb749]? = some (.cells #[(.slice (some ad759) l0_0.length c0_0), (.slice (some ad761) l0_1.length c0_1)] 29 (0, 0))) ∧ Aside0 (Below w.heap.size w w'))
               case atStart => exact ⟨(x5_2), (x7_2), (0), rS, H', ⟨Nat.le_refl _⟩, ⟨by (try simp only [hl5_1]); (try simp only [hl5_2]); (with_reducible repeat (first | apply Kd.R_alloc | apply Kd.R_drewN | apply Kd.R_drew)); exact HO_5.out⟩, ⟨by (try simp only [hl5_1]); (try simp only [hl5_2]); (with_reducible repeat (first | apply Kd.R_alloc | apply Kd.R_drewN | apply Kd.R_drew)); exact HO_7.out⟩, ⟨by (try simp only [hl5_1]); (try simp only [hl5_2]); (with_reducible repeat (first | apply Kd.R_alloc | apply Kd.R_drewN | apply Kd.R_drew)); exact Kd.R_mono HO764.out (fun _ hk => ⟨hk.1.2, hk.2⟩)⟩, ⟨by (try simp only [hl5_1]); (try simp only [hl5_2]); (with_reducible repeat (first | refine blk_drewN ?_ _ | refine blk_drew ?_ | refine blk_alloc ?_ _)); exact BK749.out⟩, ⟨bU1 HB.out GE749.out⟩⟩
               case round =>
                clear H'; (try clear c1); (try clear p1); (try clear q1); (try clear hx1); (try clear c2); (try clear p2); (try clear c3); (try clear c3b0); (try clear c3b1); (try clear c4); (try clear c4b0); (try clear c4b1); (try clear p6); (try clear p7); (try clear q7); (try clear hx7); (try clear c8); (try clear c10); (try clear c10b0); (try clear c11); (try clear c11b0); (try clear c12); (try clear c12b0); (try clear p13); (try clear q13); (try clear hx13); (try clear hf13); (try clear c16); (try clear c16b0); (try clear c17); (try clear c17b0); (try clear p18); (try clear q18); (try clear hx18); (try clear hf18); (try clear c23); (try clear c23b0); (try clear c24); (try clear c24b0); (try clear c25); (try clear c25b0); (try clear c26); (try clear c26b0); (try clear c27); (try clear c27b0); (try clear hcz6_0); (try clear hcz6_1); (try clear hfz6_0); (try clear hfz6_1); (try clear hx13_0); (try clear hx18_0); (try clear hx758_0); (try clear hx759_0); (try clear hx760_0); (try clear hx761_0); (try clear p1); (try clear p13); (try clear p18); (try clear p2); (try clear p6); (try clear p758); (try clear p759); (try clear p760); (try clear p761); (try clear q1); (try clear q13); (try clear q18); (try clear q758); (try clear q759); (try clear q760); (try clear q761); obtain ⟨x5_3, x7_3, x53_3, rfl, HA, HK3, HO_5, HO_7, HO_51, BK749, HB⟩ := hrel; have hl5_3 := (Kd.R_reads' HO_5.out).1; rw [hl5_3] at HO_5; (try simp only [hl5_3]); (try simp only [hl5_3] at BK749); (try simp only [hl5_3] at HO_7); (try simp only [hl5_3] at HO_51)
                cases gk with
                | zero => exact absurd HA.out (by simp [impl_namesFrom.l2])
                | succ k3 =>
                 have H := HA.out; clear HA; simp only [impl_namesFrom.l2] at H
                 by_cases c33 : x53_3 < (y762.length : Int)
                 ·
                  rw [if_pos c33] at H; have c33b0 := decide_eq_true c33; (try (have c33b0hl5_1 := c33b0; rw [hl5_1] at c33b0hl5_1)); (try (have c33b0hl5_2 := c33b0; rw [hl5_2] at c33b0hl5_2)); (try (have c33b0hl5_3 := c33b0; rw [hl5_3] at c33b0hl5_3)); clear c33
                  by_cases c34 : 0 ≤ x53_3
                  ·
                   rw [if_pos c34] at H; have c34b0 := decide_eq_true c34; clear c34
                   by_cases c35 : x53_3 < (y762.length : Int)
                   ·
                    rw [if_pos c35] at H; have c35b0 := decide_eq_true c35; (try (have c35b0hl5_1 := c35b0; rw [hl5_1] at c35b0hl5_1)); (try (have c35b0hl5_2 := c35b0; rw [hl5_2] at c35b0hl5_2)); (try (have c35b0hl5_3 := c35b0; rw [hl5_3] at c35b0hl5_3)); clear c35
                    by_cases c36 : 0 ≤ (rd y762 x53_3)
                    ·
                     rw [if_pos c36] at H; have c36b0 := decide_eq_true c36; clear c36
                     by_cases c37 : (rd y762 x53_3) < (x5_3.length : Int)
                     ·
                      rw [if_pos c37] at H; have c37b0 := decide_eq_true c37; (try (have c37b0hl5_1 := c37b0; rw [hl5_1] at c37b0hl5_1)); (try (have c37b0hl5_2 := c37b0; rw [hl5_2] at c37b0hl5_2)); (try (have c37b0hl5_3 := c37b0; rw [hl5_3] at c37b0hl5_3)); clear c37
                      by_cases c38 : (rd x5_3 (rd y762 x53_3)) < 0
                      ·
                       rw [if_pos c38] at H; have c38b0 := decide_eq_true c38; clear c38; obtain ⟨y767, hy767⟩ : ∃ y_ : List Int, y_ = (x5_3.set ((rd y762 x53_3) : Int).toNat (x7_3.length : Int)) := ⟨_, rfl⟩; replace H : (if x7_3.length < 17592186044416 then (impl_namesFrom.l2 k3 y767 (x7_3 ++ [rd y762 x53_3]) x8_2 y762 (y762.length : Int) (wrap64 (x53_3 + 1)) l0_0 l0_1) else (none)) = some r := hR hy767 H; have Ny767 := Az hy767; clear hy767
                       by_cases c40 : x7_3.length < 17592186044416
                       ·
                        rw [if_pos c40] at H; have LMc40 := Az c40; clear c40; obtain ⟨y768, hy768⟩ : ∃ y_ : List Int, y_ = (x7_3 ++ [rd y762 x53_3]) := ⟨_, rfl⟩; replace H : (impl_namesFrom.l2 k3 y767 y768 x8_2 y762 (y762.length : Int) (wrap64 (x53_3 + 1)) l0_0 l0_1) = some r := hR hy768 H; have Ny768 := Az hy768; clear hy768; have H' := Az H; clear H; have p765 : 0 ≤ (x53_3 : Int) := oA; have q765 : x53_3 < (y762.length : Int) := oA; obtain ⟨ad765, e765, hx765_0⟩ := Kd.at_int (Kd.R_reads' HO_51.out).2.2 x53_3 p765 q765
                        cases e765
                        replace p765 := eq_true p765; replace q765 := eq_true q765; have p766 : 0 ≤ ((rd y762 x53_3) : Int) := oA; have q766 : (rd y762 x53_3) < (x5_3.length : Int) := oA; obtain ⟨ad766, e766, hx766_0⟩ := Kd.at_int (Kd.R_reads' HO_5.out).2.2 (rd y762 x53_3) p766 q766; obtain rfl : (⟨go18, 0, none⟩ : Addr) = ad766 := (by injection e766); (first | simp only [add_plain] at hx766_0 | simp only [add_at] at hx766_0 | simp only [Addr.add, Nat.zero_add] at hx766_0 | skip); replace p766 := eq_true p766; replace q766 := eq_true q766; obtain ⟨Ao41, co41, eo41⟩ := Kd.R_slice HO_7.out; subst eo41; have p39 : 0 ≤ ((rd y762 x53_3) : Int) := oA; have q39 : ((rd y762 x53_3) : Int) < ((x5_3.length : Int) : Int) := oA; obtain ⟨hx39_0, hf39_0⟩ := Kd.R_celln 0 HO_5.out ((rd y762 x53_3) : Int) p39 q39; replace p39 := eq_true p39; replace q39 := eq_true q39; obtain ⟨hy42_, hz42_⟩ := Kd.R_celln 0 HO_5.out ((rd y762 x53_3) : Int) (oA) (oA); have HP42 := Kd.R_putg HO_5.out ((rd y762 x53_3) : Int) (x7_3.length : Int)
                        go_wp2_with (first | ((with_reducible refine gate_store (t := 3) (p := 66) rfl ?_); refine store_event (t := 3) (p := 66) (v := ?vo_w43) (w1 := (wr.setCell ⟨go18, ((rd y762 x53_3) : Int).toNat, none⟩ (.int .i64 (x7_3.length : Int)))) ?hg ?ho ?hn ?hr ?_; (case ho => rfl); (case hg => rfl); (case hn => rfl); (case hr => first | (go_simp; done) | (go_simp; rfl)); intro w43 hw; have hg : wr.grownBy w43 (some go18) := (by rw [hw]; exact HP42.2); have hp_ : Kd.R (Kd.int .i64) 3 w43 w.heap.size (fun k_ => some k_ ≠ (.slice Ao41 x7_3.length co41 : Value).ownBlock ∧ some k_ ≠ (.slice (some ad765) y762.length co32 : Value).ownBlock) (.slice (some ⟨go18, 0, none⟩) x5_3.length co9) y767 := (by rw [hw, Ny767.out]; exact HP42.1); clear HP42; have n0 := Az (hp_); have n1 := Az (Kd.R_after (v := (.slice (some ⟨go18, 0, none⟩) x5_3.length co9)) (v1 := (.slice (some ⟨go18, 0, none⟩) x5_3.length co9)) (ok := (fun k_ => some k_ ≠ (.slice (some ad765) y762.length co32 : Value).ownBlock)) (by (with_reducible repeat (first | apply Kd.R_alloc | apply Kd.R_drewN | apply Kd.R_drew)); exact Kd.R_mono HO_7.out (fun _ hk => ⟨hk.2, hk.1⟩)) hg (.inl rfl)); have n2 := Az (Kd.R_after (v := (.slice (some ⟨go18, 0, none⟩) x5_3.length co9)) (v1 := (.slice (some ⟨go18, 0, none⟩) x5_3.length co9)) (ok := (fun k_ => some k_ ≠ (.slice Ao41 x7_3.length co41 : Value).ownBlock)) (by (with_reducible repeat (first | apply Kd.R_alloc | apply Kd.R_drewN | apply Kd.R_drew)); exact Kd.R_mono HO_51.out (fun _ hk => ⟨hk.2, hk.1⟩)) hg (.inl rfl)); have n3 := Az (blk_grown (g := gb749) (o := .cells #[.slice (some ad759) l0_0.length c0_0, .slice (some ad761) l0_1.length c0_1] 29 (0, 0)) (kU BK749.out) hg (Kd.R_ne HO_5.out BK749.out (by decide))); have n4 := Az ((by rw [hw]; exact below_set (HB.out) GB18.out : Below w.heap.size w w43)); clear HO_5 HO_7 HO_51 BK749 HB; have HO_5 := n0; have HO_7 := n1; have HO_51 := n2; have BK749 := n3; have HB := n4; clear n0 n1 n2 n3 n4; clear hg hw hp_) | ((with_reducible refine gate_builtin (b := .append) (xs := #[.tmp 67, .tmp 69]) rfl ?_); at_builtin; refine Kd.R_append (Kd.int .i64) (w0 := w) w.heap.size rfl (.tmp 67) (.tmp 69) 23 3 (.int .i64 0) 8 rfl Try.underlying23 info3 rfl (by decide) (by omega) (.slice Ao41 x7_3.length co41) x7_3 (rd y762 x53_3) [.int .i64 (rd y762 x53_3)] (fun k_ => some k_ ≠ (.slice (some ⟨go18, 0, none⟩) x5_3.length co9 : Value).ownBlock ∧ some k_ ≠ (.slice (some ad765) y762.length co32 : Value).ownBlock) (fun _ => False) rfl rfl ?aP (fun _ hk => hk.elim) ?aF ?aO ?aB ?aS ?aL ?_; (case aP => exact rfl); (case aB => exact (bU1 HB.out GE749.out)); (case aF => exact (fun k_ hk => ⟨Kd.fresh' (Kd.R_lt (rU HO_5.out)) k_ hk, Kd.fresh' (Kd.R_lt (rU HO_51.out)) k_ hk⟩)); (case aO => exact (by (with_reducible repeat (first | apply Kd.R_alloc | apply Kd.R_drewN | apply Kd.R_drew)); exact Kd.R_mono HO_7.out (fun _ hk => ⟨hk.2, hk.1⟩))); (case aS => exact (below_size (bU1 HB.out GE749.out))); (case aL => have := LMc40.out; omega); intro v769 w44 ho hb hg hat; rw [← Ny768.out] at ho; have n0 := Az (Kd.R_after (ok := (fun k_ => some k_ ≠ (.slice (some ad765) y762.length co32 : Value).ownBlock)) (by (with_reducible repeat (first | apply Kd.R_alloc | apply Kd.R_drewN | apply Kd.R_drew)); exact Kd.R_mono HO_5.out (fun _ hk => ⟨hk.2, hk.1⟩)) hg hat); have n1 := Az (Kd.R_after (ok := (fun k_ => some k_ ≠ (.slice (some ⟨go18, 0, none⟩) x5_3.length co9 : Value).ownBlock)) (by (with_reducible repeat (first | apply Kd.R_alloc | apply Kd.R_drewN | apply Kd.R_drew)); exact Kd.R_mono HO_51.out (fun _ hk => ⟨hk.2, hk.1⟩)) hg hat); have n2 := Az (blk_grown (g := gb749) (o := .cells #[.slice (some ad759) l0_0.length c0_0, .slice (some ad761) l0_1.length c0_1] 29 (0, 0)) (kU BK749.out) hg (Kd.R_ne HO_7.out BK749.out (by decide))); have n3 := Az (hb); have n4 := Az (ho); clear HO_5 HO_51 BK749 HB HO_7; have HO_5 := n0; have HO_51 := n1; have BK749 := n2; have HB := n3; have HO770 := n4; clear n0 n1 n2 n3 n4; clear ho hb hg hat))
                        (try simp only [← hl5_3]); (first | go_roundg k3 | (refine Handed.intro k3 ?measure ?_; rotate_left; go_step; (try simp only [add_plain]); (repeat apply Exists.intro); refine ⟨?rel, rfl⟩))
                        case measure => have := HK1.out; have := HK2.out; have := HK3.out; omega
                        case rel => exact ⟨(y767), (y768), (wrap64 (x53_3 + 1)), rS, H', ⟨by have := HK1.out; have := HK2.out; have := HK3.out; omega⟩, ⟨by (try simp only [hl5_1]); (try simp only [hl5_2]); (try simp only [hl5_3]); (with_reducible repeat (first | apply Kd.R_alloc | apply Kd.R_drewN | apply Kd.R_drew)); exact Kd.R_mono HO_5.out (fun _ hk => ⟨hk.2, hk.1⟩)⟩, ⟨by (try simp only [hl5_1]); (try simp only [hl5_2]); (try simp only [hl5_3]); (with_reducible repeat (first | apply Kd.R_alloc | apply Kd.R_drewN | apply Kd.R_drew)); exact HO770.out⟩, ⟨by (try simp only [hl5_1]); (try simp only [hl5_2]); (try simp only [hl5_3]); (with_reducible repeat (first | apply Kd.R_alloc | apply Kd.R_drewN | apply Kd.R_drew)); exact HO_51.out⟩, ⟨by (try simp only [hl5_1]); (try simp only [hl5_2]); (try simp only [hl5_3]); (with_reducible repeat (first | refine blk_drewN ?_ _ | refine blk_drew ?_ | refine blk_alloc ?_ _)); exact BK749.out⟩, ⟨bU1 HB.out GE749.out⟩⟩
                       ·
                        rw [if_neg c40] at H
                        exact absurd H (by simp)
                      ·
                       rw [if_neg c38] at H; have c38b0 := decide_eq_false c38; clear c38; have H' := Az H; clear H; have p765 : 0 ≤ (x53_3 : Int) := oA; have q765 : x53_3 < (y762.length : Int) := oA; obtain ⟨ad765, e765, hx765_0⟩ := Kd.at_int (Kd.R_reads' HO_51.out).2.2 x53_3 p765 q765
                       cases e765
                       replace p765 := eq_true p765; replace q765 := eq_true q765; have p766 : 0 ≤ ((rd y762 x53_3) : Int) := oA; have q766 : (rd y762 x53_3) < (x5_3.length : Int) := oA; obtain ⟨ad766, e766, hx766_0⟩ := Kd.at_int (Kd.R_reads' HO_5.out).2.2 (rd y762 x53_3) p766 q766; obtain rfl : (⟨go18, 0, none⟩ : Addr) = ad766 := (by injection e766); (first | simp only [add_plain] at hx766_0 | simp only [add_at] at hx766_0 | simp only [Addr.add, Nat.zero_add] at hx766_0 | skip); replace p766 := eq_true p766; replace q766 := eq_true q766
                       go_wp2
                       (try simp only [← hl5_3]); (first | go_roundg k3 | (refine Handed.intro k3 ?measure ?_; rotate_left; go_step; (try simp only [add_plain]); (repeat apply Exists.intro); refine ⟨?rel, rfl⟩))
                       case measure => have := HK1.out; have := HK2.out; have := HK3.out; omega
                       case rel => exact ⟨(x5_3), (x7_3), (wrap64 (x53_3 + 1)), rS, H', ⟨by have := HK1.out; have := HK2.out; have := HK3.out; omega⟩, ⟨by (try simp only [hl5_1]); (try simp only [hl5_2]); (try simp only [hl5_3]); (with_reducible repeat (first | apply Kd.R_alloc | apply Kd.R_drewN | apply Kd.R_drew)); exact HO_5.out⟩, ⟨by (try simp only [hl5_1]); (try simp only [hl5_2]); (try simp only [hl5_3]); (with_reducible repeat (first | apply Kd.R_alloc | apply Kd.R_drewN | apply Kd.R_drew)); exact HO_7.out⟩, ⟨by (try simp only [hl5_1]); (try simp only [hl5_2]); (try simp only [hl5_3]); (with_reducible repeat (first | apply Kd.R_alloc | apply Kd.R_drewN | apply Kd.R_drew)); exact HO_51.out⟩, ⟨by (try simp only [hl5_1]); (try simp only [hl5_2]); (try simp only [hl5_3]); (with_reducible repeat (first | refine blk_drewN ?_ _ | refine blk_drew ?_ | refine blk_alloc ?_ _)); exact BK749.out⟩, ⟨bU1 HB.out GE749.out⟩⟩
                     ·
                      rw [if_neg c37] at H
                      exact absurd H (by simp)
                    ·
                     rw [if_neg c36] at H
                     exact absurd H (by simp)
                   ·
                    rw [if_neg c35] at H
                    exact absurd H (by simp)
                  ·
                   rw [if_neg c34] at H
                   exact absurd H (by simp)
                 ·
                  rw [if_neg c33] at H; have c33b0 := decide_eq_false c33; (try (have c33b0hl5_1 := c33b0; rw [hl5_1] at c33b0hl5_1)); (try (have c33b0hl5_2 := c33b0; rw [hl5_2] at c33b0hl5_2)); (try (have c33b0hl5_3 := c33b0; rw [hl5_3] at c33b0hl5_3)); clear c33; have H' := Az H; clear H
                  go_wp2
                  (try simp only [← hl5_2, ← hl5_3]); (first | go_roundg k3 | (refine Handed.intro k3 ?measure ?_; rotate_left; go_step; (try simp only [add_plain]); (repeat apply Exists.intro); refine ⟨?rel, rfl⟩))
                  case measure => have := HK1.out; have := HK2.out; have := HK3.out; omega
                  case rel => exact ⟨(x5_3), (x7_3), (wrap64 (x8_2 + 1)), rS, H', ⟨by have := HK1.out; have := HK2.out; have := HK3.out; omega⟩, ⟨by (try simp only [hl5_1]); (try simp only [hl5_2]); (try simp only [hl5_3]); (with_reducible repeat (first | apply Kd.R_alloc | apply Kd.R_drewN | apply Kd.R_drew)); exact Kd.R_mono HO_5.out (fun _ hk => hk.1)⟩, ⟨by (try simp only [hl5_1]); (try simp only [hl5_2]); (try simp only [hl5_3]); (with_reducible repeat (first | apply Kd.R_alloc | apply Kd.R_drewN | apply Kd.R_drew)); exact Kd.R_mono HO_7.out (fun _ hk => hk.1)⟩, ⟨by (try simp only [hl5_1]); (try simp only [hl5_2]); (try simp only [hl5_3]); (with_reducible repeat (first | refine blk_drewN ?_ _ | refine blk_drew ?_ | refine blk_alloc ?_ _)); exact BK749.out⟩, ⟨bU1 HB.out GE749.out⟩⟩
              ·
               rw [if_neg c27] at H
               exact absurd H (by simp)
             ·
              rw [if_neg c26] at H
              exact absurd H (by simp)
            ·
             rw [if_neg c25] at H
             exact absurd H (by simp)
           ·
            rw [if_neg c24] at H
            exact absurd H (by simp)
          ·
           rw [if_neg c23] at H; have c23b0 := decide_eq_false c23; (try (have c23b0hl5_1 := c23b0; rw [hl5_1] at c23b0hl5_1)); (try (have c23b0hl5_2 := c23b0; rw [hl5_2] at c23b0hl5_2)); clear c23; obtain rfl := Option.some.inj H; obtain ⟨Ao45, co45, eo45⟩ := Kd.R_slice HO_7.out; subst eo45
           go_wp2
           go_ret
           exact ⟨_, rE, by (with_reducible repeat (first | apply Kd.R_alloc | apply Kd.R_drewN | apply Kd.R_drew)); exact Kd.R_mono HO_5.out (fun _ hk => trivial), bU1 HB.out GE749.out⟩
       ·
        rw [if_neg c17] at H
        exact absurd H (by simp)
      ·
       rw [if_neg c16] at H
       exact absurd H (by simp)
  ·
   rw [if_neg c4] at H
   exact absurd H (by simp)
 ·
  rw [if_neg c3] at H
  exact absurd H (by simp)
def impl_MapForm.j0 : Nat → Int → Bool → List Int → List Int → Option (List Int × List Int × Bool)
 | 0, _, _, _, _ => none
 | k + 1, x1, x19, xZ2, xZ3 => if x19 = true then (some (([] : List Int), ([] : List Int), false)) else ((impl_namesFrom.f k xZ2 xZ3 x1).bind fun t774 => ((impl_renamed.f k xZ2 xZ3 t774).bind fun bt777 => (some (bt777.1, bt777.2, true))))
def impl_MapForm.f (k : Nat) (l0_0 : List Int) (l0_1 : List Int) (a1 : Int) : Option (List Int × List Int × Bool) := (impl_MapValid.f k l0_0 l0_1).bind fun t773 => (if t773 = true then (if a1 < 0 then (impl_MapForm.j0 k a1 true l0_0 l0_1) else (impl_MapForm.j0 k a1 (decide (a1 ≥ (l0_0.length : Int))) l0_0 l0_1)) else (impl_MapForm.j0 k a1 true l0_0 l0_1))
theorem impl_MapForm.mono_l : ∀ k, (∀ y0 y1 y2 y3, LeO (impl_MapForm.j0 k y0 y1 y2 y3) (impl_MapForm.j0 (k + 1) y0 y1 y2 y3))
 | 0 => fun _ _ _ _ r h => by simp [impl_MapForm.j0] at h
 | k + 1 => by
  have ih0 := impl_MapForm.mono_l k
  ·
   intro y0 y1 y2 y3
   unfold impl_MapForm.j0
   repeat' first
   | (with_reducible exact ih0 _ _ _ _)
   | (with_reducible exact impl_MapValid.mono _ _ _)
   | (with_reducible exact impl_namesFrom.mono _ _ _ _)
   | (with_reducible exact impl_renamed.mono _ _ _ _)
   | (with_reducible exact LeO.refl _)
   | (with_reducible exact LeO.none _)
   | (with_reducible refine LeO.ite ?_ ?_)
   | (with_reducible refine LeO.bind ?_ (fun _ => ?_))
   | exact ih0 _ _ _ _
   | exact impl_MapValid.mono _ _ _
   | exact impl_namesFrom.mono _ _ _ _
   | exact impl_renamed.mono _ _ _ _
   | exact LeO.none _
   | refine LeO.ite ?_ ?_
   | refine LeO.bind ?_ (fun _ => ?_)
theorem impl_MapForm.mono : ∀ a0 a1 a2 k, LeO (impl_MapForm.f k a0 a1 a2) (impl_MapForm.f (k + 1) a0 a1 a2) := by
 intro a0 a1 a2 k
 have ih0 := impl_MapForm.mono_l k
 unfold impl_MapForm.f
 repeat' first
   | (with_reducible exact ih0 _ _ _ _)
   | (with_reducible exact impl_MapValid.mono _ _ _)
   | (with_reducible exact impl_namesFrom.mono _ _ _ _)
   | (with_reducible exact impl_renamed.mono _ _ _ _)
   | (with_reducible exact LeO.refl _)
   | (with_reducible exact LeO.none _)
   | (with_reducible refine LeO.ite ?_ ?_)
   | (with_reducible refine LeO.bind ?_ (fun _ => ?_))
   | exact ih0 _ _ _ _
   | exact impl_MapValid.mono _ _ _
   | exact impl_namesFrom.mono _ _ _ _
   | exact impl_renamed.mono _ _ _ _
   | exact LeO.none _
   | refine LeO.ite ?_ ?_
   | refine LeO.bind ?_ (fun _ => ?_)
set_option maxHeartbeats 8000000 in
set_option maxRecDepth 100000 in
theorem impl_MapForm.calls (k : Nat) (A0_0 : Option Addr) (c0_0 : Nat) (l0_0 : List Int) (A0_1 : Option Addr) (c0_1 : Nat) (l0_1 : List Int) (a1 : Int) (r1 : List Int) (r2 : List Int) (r3 : Bool) (w : World) (hr0_0 : Kd.C (Kd.int .i64) w A0_0 l0_0.length l0_0) (hc0_0 : l0_0.length ≤ c0_0) (hr0_1 : Kd.C (Kd.int .i64) w A0_1 l0_1.length l0_1) (hc0_1 : l0_1.length ≤ c0_1) (h : impl_MapForm.f k l0_0 l0_1 a1 = some (r1, r2, r3)) :
  Calls Try.prog 33 #[.agg #[.slice A0_0 l0_0.length c0_0, .slice A0_1 l0_1.length c0_1], .int .i64 a1] w fun e w' => ∃ v0_ v1_ : Value, e = .returned (.tuple #[.agg #[v0_, v1_], .bool r3]) ∧ Kd.R (Kd.int .i64) 3 w' w.heap.size (fun k_ => some k_ ≠ (v1_ : Value).ownBlock) v0_ r1 ∧ Kd.R (Kd.int .i64) 3 w' w.heap.size (fun k_ => some k_ ≠ (v0_ : Value).ownBlock) v1_ r2 ∧ Below w.heap.size w w' := by
 have hu29 := Try.underlying29; have HR0_0 := Az hr0_0; have HC0_0 := Az hc0_0; clear hr0_0 hc0_0; have HR0_1 := Az hr0_1; have HC0_1 := Az hc0_1; clear hr0_1 hc0_1; have HB := Az (Below.refl w.heap.size w); have H : ((impl_MapValid.f k l0_0 l0_1).bind fun t773 => (if t773 = true then (if a1 < 0 then (impl_MapForm.j0 k a1 true l0_0 l0_1) else (impl_MapForm.j0 k a1 (decide (a1 ≥ (l0_0.length : Int))) l0_0 l0_1)) else (impl_MapForm.j0 k a1 true l0_0 l0_1))) = some (r1, r2, r3) := h; clear h; have HC3 := Az H; clear H
 go_enter Try.func33, Try.ntmps33
 go_upto_region 1 with (first | ((with_reducible refine gate_dst (N := 2) rfl ?_); (try (refine gate_guard (by rfl) ?_; dsimp only)); refine box_event ?hg (N := 2) ?hd (cs := #[.slice A0_0 l0_0.length c0_0, .slice A0_1 l0_1.length c0_1]) (t := 29) ?hr ?_; (case hd => rfl); (case hg => rfl); (case hr => first | (go_simp; done) | (go_simp; rfl)); intro gb771 hg w4 hbox hb; have n0 := Az (below_step (bU0 HB.out) hb); have n1 := Az (hbox); have n2 := Az ((by rw [hg]; exact (below_size (bU0 HB.out)) : w.heap.size ≤ gb771)); have n3 := n2; clear HB; have HB := n0; have BK771 := n1; have GW771 := n2; have GE771 := n3; clear n0 n1 n2 n3; clear hb hbox hg) | ((with_reducible refine gate_dst (N := 4) rfl ?_); (try (refine gate_guard (by rfl) ?_; dsimp only)); refine box_event ?hg (N := 4) ?hd (cs := #[.slice none 0 0, .slice none 0 0]) (t := 29) ?hr ?_; (case hd => rfl); (case hg => rfl); (case hr => first | (go_simp; done) | (go_simp; rfl)); intro gb772 hg w5 hbox hb; have n0 := Az (blk_below (g := gb771) (o := .cells #[.slice A0_0 l0_0.length c0_0, .slice A0_1 l0_1.length c0_1] 29 (0, 0)) (kU BK771.out) hb); have n1 := Az (below_step (bU1 HB.out GE771.out) hb); have n2 := Az (hbox); have n3 := Az ((by rw [hg]; exact (below_size (bU1 HB.out GE771.out)) : w.heap.size ≤ gb772)); have n4 := n3; have n5 := Az ((by rw [hg]; exact Nat.ne_of_lt (blk_lt (g := gb771) (o := .cells #[.slice A0_0 l0_0.length c0_0, .slice A0_1 l0_1.length c0_1] 29 (0, 0)) (kU BK771.out)) : gb771 ≠ gb772)); have n6 := Az ((by rw [hg]; exact Nat.ne_of_gt (blk_lt (g := gb771) (o := .cells #[.slice A0_0 l0_0.length c0_0, .slice A0_1 l0_1.length c0_1] 29 (0, 0)) (kU BK771.out)) : gb772 ≠ gb771)); clear BK771 HB; have BK771 := n0; have HB := n1; have BK772 := n2; have GW772 := n3; have GE772 := n4; have NB771_772 := n5; have NB772_771 := n6; clear n0 n1 n2 n3 n4 n5 n6; clear hb hbox hg))
 (try simp only [Act.put, List.setIfInBounds_toArray, List.set_cons_zero, List.set_cons_succ])
 go_cut [19] (fun v19 wc => ∃ (kq : Nat) (x19_2 : Bool), v19 = .bool x19_2 ∧ Aside0 (impl_MapForm.j0 kq a1 x19_2 l0_0 l0_1 = some (r1, r2, r3)) ∧ Aside0 (kq ≤ k) ∧ Aside0 (wc.heap[gb771]? = some (.cells #[(.slice A0_0 l0_0.length c0_0), (.slice A0_1 l0_1.length c0_1)] 29 (0, 0))) ∧ Aside0 (wc.heap[gb772]? = some (.cells #[(.slice none 0 0), (.slice none 0 0)] 29 (0, 0))) ∧ Aside0 (Below w.heap.size w wc))
 case first =>
  have H := HC3.out; clear HC3; replace H := Option.bind_eq_some_iff.mp H; obtain ⟨t773, A60, H⟩ := H; replace H : (if t773 = true then (if a1 < 0 then (impl_MapForm.j0 k a1 true l0_0 l0_1) else (impl_MapForm.j0 k a1 (decide (a1 ≥ (l0_0.length : Int))) l0_0 l0_1)) else (impl_MapForm.j0 k a1 true l0_0 l0_1)) = some (r1, r2, r3) := H; have A6 := Az A60; clear A60
  by_cases c7 : t773 = true
  ·
   subst c7
   have H1 : (if a1 < 0 then (impl_MapForm.j0 k a1 true l0_0 l0_1) else (impl_MapForm.j0 k a1 (decide (a1 ≥ (l0_0.length : Int))) l0_0 l0_1)) = some (r1, r2, r3) := by rw [if_pos rfl] at H; exact H
   clear H; have H := H1; clear H1
   by_cases c8 : a1 < 0
   ·
    rw [if_pos c8] at H; have c8b0 := decide_eq_true c8; clear c8; (first | rw [c8b0] | (simp only [i64_w, i32_w]; rw [c8b0]) | skip); have H' := Az H; clear H; have hnb9 := NB771_772.out; have hnc9 := NB772_771.out; have hcz10_0 : w5.cell? ⟨gb771, 0, none⟩ = some (.slice A0_0 l0_0.length c0_0) := (blk_cell BK771.out 0).trans rfl; have hcz10_1 : w5.cell? ⟨gb771, 1, none⟩ = some (.slice A0_1 l0_1.length c0_1) := (blk_cell BK771.out 1).trans rfl; have hfz10_0 := blk_frozen BK771.out 0; have hfz10_1 := blk_frozen BK771.out 1
    go_wp2_with (first | ((with_reducible refine gate_callee (f := 66) rfl ?_); refine goesL_ (some 7) rfl rfl Try.func66 (by kernel_rfl) rfl #[.agg #[.slice A0_0 l0_0.length c0_0, .slice A0_1 l0_1.length c0_1]] rfl (by (try simp only [List.map_toArray, List.map_cons, List.map_nil]); first | done | rfl | (simp only [List.length_drop, List.length_take]; rfl)) ?_; (with_reducible refine (impl_MapValid.calls k (fun k_ => k_ < w.heap.size) _ _ l0_0 (fun k_ => k_ < w.heap.size) _ _ l0_1 true _ ?side1 ?side2 A6.out).mono ?_); (case side1 => exact Kd.V_mk HC0_0.out (Kd.F_below (Kd.C_F (Kd.heap_int .i64) HR0_0.out) (bU2 HB.out GE771.out GE772.out))); (case side2 => exact Kd.V_mk HC0_1.out (Kd.F_below (Kd.C_F (Kd.heap_int .i64) HR0_1.out) (bU2 HB.out GE771.out GE772.out))); rintro e w11 ⟨rfl, hb⟩; refine ⟨_, rfl, ?_⟩; have n0 := Az (blk_below (g := gb771) (o := .cells #[.slice A0_0 l0_0.length c0_0, .slice A0_1 l0_1.length c0_1] 29 (0, 0)) (kU BK771.out) hb); have n1 := Az (blk_below (g := gb772) (o := .cells #[.slice none 0 0, .slice none 0 0] 29 (0, 0)) (kU BK772.out) hb); have n2 := Az (below_step (bU2 HB.out GE771.out GE772.out) hb); clear BK771 BK772 HB; have BK771 := n0; have BK772 := n1; have HB := n2; clear n0 n1 n2; (try clear hb); (try clear hb2); (try clear hk); (try clear hi)))
    go_meet
    case rel => exact ⟨_, (true), rS, H', ⟨by first | omega | exact Nat.le_refl _⟩, ⟨kU BK771.out⟩, ⟨kU BK772.out⟩, ⟨bU2 HB.out GE771.out GE772.out⟩⟩
   ·
    rw [if_neg c8] at H; have c8b0 := decide_eq_false c8; clear c8; (first | rw [c8b0] | (simp only [i64_w, i32_w]; rw [c8b0]) | skip); have H' := Az H; clear H; have hnb12 := NB771_772.out; have hnc12 := NB772_771.out; have hcz13_0 : w5.cell? ⟨gb771, 0, none⟩ = some (.slice A0_0 l0_0.length c0_0) := (blk_cell BK771.out 0).trans rfl; have hcz13_1 : w5.cell? ⟨gb771, 1, none⟩ = some (.slice A0_1 l0_1.length c0_1) := (blk_cell BK771.out 1).trans rfl; have hfz13_0 := blk_frozen BK771.out 0; have hfz13_1 := blk_frozen BK771.out 1
    go_wp2_with (first | ((with_reducible refine gate_callee (f := 66) rfl ?_); refine goesL_ (some 7) rfl rfl Try.func66 (by kernel_rfl) rfl #[.agg #[.slice A0_0 l0_0.length c0_0, .slice A0_1 l0_1.length c0_1]] rfl (by (try simp only [List.map_toArray, List.map_cons, List.map_nil]); first | done | rfl | (simp only [List.length_drop, List.length_take]; rfl)) ?_; (with_reducible refine (impl_MapValid.calls k (fun k_ => k_ < w.heap.size) _ _ l0_0 (fun k_ => k_ < w.heap.size) _ _ l0_1 true _ ?side1 ?side2 A6.out).mono ?_); (case side1 => exact Kd.V_mk HC0_0.out (Kd.F_below (Kd.C_F (Kd.heap_int .i64) HR0_0.out) (bU2 HB.out GE771.out GE772.out))); (case side2 => exact Kd.V_mk HC0_1.out (Kd.F_below (Kd.C_F (Kd.heap_int .i64) HR0_1.out) (bU2 HB.out GE771.out GE772.out))); rintro e w14 ⟨rfl, hb⟩; refine ⟨_, rfl, ?_⟩; have n0 := Az (blk_below (g := gb771) (o := .cells #[.slice A0_0 l0_0.length c0_0, .slice A0_1 l0_1.length c0_1] 29 (0, 0)) (kU BK771.out) hb); have n1 := Az (blk_below (g := gb772) (o := .cells #[.slice none 0 0, .slice none 0 0] 29 (0, 0)) (kU BK772.out) hb); have n2 := Az (below_step (bU2 HB.out GE771.out GE772.out) hb); clear BK771 BK772 HB; have BK771 := n0; have BK772 := n1; have HB := n2; clear n0 n1 n2; (try clear hb); (try clear hb2); (try clear hk); (try clear hi); have hcz15_0 : w14.cell? ⟨gb771, 0, none⟩ = some (.slice A0_0 l0_0.length c0_0) := (blk_cell BK771.out 0).trans rfl; have hcz15_1 : w14.cell? ⟨gb771, 1, none⟩ = some (.slice A0_1 l0_1.length c0_1) := (blk_cell BK771.out 1).trans rfl; have hfz15_0 := blk_frozen BK771.out 0; have hfz15_1 := blk_frozen BK771.out 1))
    go_meet
    case rel => exact ⟨_, (decide (a1 ≥ (l0_0.length : Int))), rS, H', ⟨by first | omega | exact Nat.le_refl _⟩, ⟨kU BK771.out⟩, ⟨kU BK772.out⟩, ⟨bU2 HB.out GE771.out GE772.out⟩⟩
  ·
   replace c7 := Bool.eq_false_iff.mpr c7; subst c7
   have H1 : (impl_MapForm.j0 k a1 true l0_0 l0_1) = some (r1, r2, r3) := by rw [if_neg (show ¬ (false = true) by decide)] at H; exact H
   clear H; have H := H1; clear H1; have H' := Az H; clear H; have hnb16 := NB771_772.out; have hnc16 := NB772_771.out; have hcz17_0 : w5.cell? ⟨gb771, 0, none⟩ = some (.slice A0_0 l0_0.length c0_0) := (blk_cell BK771.out 0).trans rfl; have hcz17_1 : w5.cell? ⟨gb771, 1, none⟩ = some (.slice A0_1 l0_1.length c0_1) := (blk_cell BK771.out 1).trans rfl; have hfz17_0 := blk_frozen BK771.out 0; have hfz17_1 := blk_frozen BK771.out 1
   go_wp2_with (first | ((with_reducible refine gate_callee (f := 66) rfl ?_); refine goesL_ (some 7) rfl rfl Try.func66 (by kernel_rfl) rfl #[.agg #[.slice A0_0 l0_0.length c0_0, .slice A0_1 l0_1.length c0_1]] rfl (by (try simp only [List.map_toArray, List.map_cons, List.map_nil]); first | done | rfl | (simp only [List.length_drop, List.length_take]; rfl)) ?_; (with_reducible refine (impl_MapValid.calls k (fun k_ => k_ < w.heap.size) _ _ l0_0 (fun k_ => k_ < w.heap.size) _ _ l0_1 false _ ?side1 ?side2 A6.out).mono ?_); (case side1 => exact Kd.V_mk HC0_0.out (Kd.F_below (Kd.C_F (Kd.heap_int .i64) HR0_0.out) (bU2 HB.out GE771.out GE772.out))); (case side2 => exact Kd.V_mk HC0_1.out (Kd.F_below (Kd.C_F (Kd.heap_int .i64) HR0_1.out) (bU2 HB.out GE771.out GE772.out))); rintro e w18 ⟨rfl, hb⟩; refine ⟨_, rfl, ?_⟩; have n0 := Az (blk_below (g := gb771) (o := .cells #[.slice A0_0 l0_0.length c0_0, .slice A0_1 l0_1.length c0_1] 29 (0, 0)) (kU BK771.out) hb); have n1 := Az (blk_below (g := gb772) (o := .cells #[.slice none 0 0, .slice none 0 0] 29 (0, 0)) (kU BK772.out) hb); have n2 := Az (below_step (bU2 HB.out GE771.out GE772.out) hb); clear BK771 BK772 HB; have BK771 := n0; have BK772 := n1; have HB := n2; clear n0 n1 n2; (try clear hb); (try clear hb2); (try clear hk); (try clear hi)))
   go_meet
   case rel => exact ⟨_, (true), rS, H', ⟨by first | omega | exact Nat.le_refl _⟩, ⟨kU BK771.out⟩, ⟨kU BK772.out⟩, ⟨bU2 HB.out GE771.out GE772.out⟩⟩
 case rest =>
  clear HC3; (try clear c1); (try clear p2); (try clear c3); (try clear c6); (try clear c7); (try clear c8); (try clear c8b0); (try clear c9); (try clear c12); (try clear c16); (try clear hcz10_0); (try clear hcz10_1); (try clear hcz13_0); (try clear hcz13_1); (try clear hcz15_0); (try clear hcz15_1); (try clear hcz17_0); (try clear hcz17_1); (try clear hfz10_0); (try clear hfz10_1); (try clear hfz13_0); (try clear hfz13_1); (try clear hfz15_0); (try clear hfz15_1); (try clear hfz17_0); (try clear hfz17_1); obtain ⟨kq, x19_2, rfl, HA, HJ2, BK771, BK772, HB⟩ := hcut
  cases kq with
  | zero => exact absurd HA.out (by simp [impl_MapForm.j0])
  | succ kj2 =>
   have H := HA.out; clear HA; simp only [impl_MapForm.j0] at H
   by_cases c19 : x19_2 = true
   ·
    subst c19
    have H1 : (some (([] : List Int), ([] : List Int), false)) = some (r1, r2, r3) := by rw [if_pos rfl] at H; exact H
    clear H; have H := H1; clear H1; simp only [Option.some.injEq, Prod.mk.injEq] at H; obtain ⟨rfl, rfl, rfl⟩ := H; have hnb20 := NB772_771.out; have hnc20 := NB771_772.out; have hcz21_0 : wc.cell? ⟨gb772, 0, none⟩ = some (.slice none 0 0) := (blk_cell BK772.out 0).trans rfl; have hcz21_1 : wc.cell? ⟨gb772, 1, none⟩ = some (.slice none 0 0) := (blk_cell BK772.out 1).trans rfl; have hfz21_0 := blk_frozen BK772.out 0; have hfz21_1 := blk_frozen BK772.out 1
    go_wp2
    refine bodyPost_ret (results_ct rfl _ _ gb772 29 #[.slice none 0 0, .slice none 0 0] (0, 0) _ rfl (by (with_reducible repeat (first | refine blk_drewN ?_ _ | refine blk_drew ?_ | refine blk_alloc ?_ _)); refine blk_put (cs := #[.slice none 0 0, .slice none 0 0]) ?_ 1 _ rfl; (with_reducible repeat (first | refine blk_drewN ?_ _ | refine blk_drew ?_ | refine blk_alloc ?_ _)); refine blk_put (cs := #[.slice none 0 0, .slice none 0 0]) ?_ 0 _ rfl; (with_reducible repeat (first | refine blk_drewN ?_ _ | refine blk_drew ?_ | refine blk_alloc ?_ _)); exact BK772.out) Try.underlying29 rfl (by kernel_rfl)) rfl ?_
    exact ⟨_, _, rE, by first | exact Kd.R_nil _ _ _ _ _ | exact Kd.N_nil _ _ _ _ _ | exact Kd.V_nil _ _ _ _ _ | exact Kd.Q_nil _ _ _ _ _ | exact Kd.S_nil _ _ _ _ _, by first | exact Kd.R_nil _ _ _ _ _ | exact Kd.N_nil _ _ _ _ _ | exact Kd.V_nil _ _ _ _ _ | exact Kd.Q_nil _ _ _ _ _ | exact Kd.S_nil _ _ _ _ _, bU2 HB.out GE771.out GE772.out⟩
   ·
    replace c19 := Bool.eq_false_iff.mpr c19; subst c19
    have H1 : ((impl_namesFrom.f kj2 l0_0 l0_1 a1).bind fun t774 => ((impl_renamed.f kj2 l0_0 l0_1 t774).bind fun bt777 => (some (bt777.1, bt777.2, true)))) = some (r1, r2, r3) := by rw [if_neg (show ¬ (false = true) by decide)] at H; exact H
    clear H; have H := H1; clear H1; replace H := Option.bind_eq_some_iff.mp H; obtain ⟨t774, A220, H⟩ := H; replace H : ((impl_renamed.f kj2 l0_0 l0_1 t774).bind fun bt777 => (some (bt777.1, bt777.2, true))) = some (r1, r2, r3) := H; have A22 := Az A220; clear A220; replace H := Option.bind_eq_some_iff.mp H; obtain ⟨⟨t777, t780⟩, A230, H⟩ := H; replace H : (some (t777, t780, true)) = some (r1, r2, r3) := H; have A23 := Az A230; clear A230; simp only [Option.some.injEq, Prod.mk.injEq] at H; obtain ⟨rfl, rfl, rfl⟩ := H
    try go_wp2
    have n0 := Az (blk_drew BK771.out); have n1 := Az (blk_drew BK772.out); have n2 := Az (below_drew1 HB.out); clear BK771 BK772 HB; have BK771 := n0; have BK772 := n1; have HB := n2; clear n0 n1 n2
    refine start_ (n := 7) (S := fun w' => w'.cell? ⟨gb771, 0, none⟩ = some (.slice A0_0 l0_0.length c0_0) ∧ w'.cell? ⟨gb771, 1, none⟩ = some (.slice A0_1 l0_1.length c0_1)) (ds := []) #[false, false, false, false, false, false, false] (by kernel_rfl) rfl rfl ⟨(blk_cell BK771.out 0).trans rfl, (blk_cell BK771.out 1).trans rfl⟩ (fun hHeld => ?_)
    generalize wc.drew = w24 at BK771 BK772 HB hHeld ⊢
    refine pure_ (i := 2) (N := some 23) (v := ?_) (a' := ?_) #[false, false, true, false, false, false, false] rfl rfl (by kernel_rfl) (fun _ _ _ h => h) (Or.inl ⟨by rfl, ?_⟩) ?_ ?_
    rotate_left
    ·
     intro w'
     go_simp
     with_reducible rfl
    rotate_left
    ·
     simp only [Act.put, List.setIfInBounds_toArray, List.set_cons_zero, List.set_cons_succ, i64_w, i32_w]
     rfl
    refine take_ (i := 0) (N := some 21) (v := ?_) (a' := ?_) #[true, false, true, false, false, false, false] rfl rfl (by kernel_rfl) (fun _ _ _ h => h) (Or.inl ⟨by rfl, ?_⟩) hHeld ?_ ?_
    rotate_left
    ·
     rintro w' ⟨s0, s1⟩
     go_simp
     with_reducible rfl
    rotate_left
    ·
     simp only [Act.put, List.setIfInBounds_toArray, List.set_cons_zero, List.set_cons_succ, i64_w, i32_w]
     rfl
    refine take_ (i := 1) (N := some 22) (v := ?_) (a' := ?_) #[true, true, true, false, false, false, false] rfl rfl (by kernel_rfl) (fun _ _ _ h => h) (Or.inl ⟨by rfl, ?_⟩) hHeld ?_ ?_
    rotate_left
    ·
     rintro w' ⟨s0, s1⟩
     go_simp
     with_reducible rfl
    rotate_left
    ·
     simp only [Act.put, List.setIfInBounds_toArray, List.set_cons_zero, List.set_cons_succ, i64_w, i32_w]
     rfl
    refine one_ (i := 3) (N := some 24) #[true, true, true, true, false, false, false] rfl rfl (by kernel_rfl) (by decide) (fun K hK => ?_)
    refine goes_ Try.func81 (by kernel_rfl) rfl #[.agg #[.slice A0_0 l0_0.length c0_0, .slice A0_1 l0_1.length c0_1], .int .i64 a1] (by rfl) rfl rfl (by (try simp only [List.map_toArray, List.map_cons, List.map_nil]); first | done | rfl | (simp only [List.length_drop, List.length_take]; rfl)) ?_
    with_reducible refine (impl_namesFrom.calls kj2 _ _ l0_0 _ _ l0_1 a1 t774 _ ?side1 ?side2 ?side3 ?side4 A22.out).mono ?_
    (case side1 => exact cU (Kd.C_below HR0_0.out HB.out))
    (case side2 => exact HC0_0.out)
    (case side3 => exact cU (Kd.C_below HR0_1.out HB.out))
    (case side4 => exact HC0_1.out)
    rintro e w25 ⟨v775, rfl, ho0, hb⟩
    refine ⟨_, rfl, ?_⟩
    have n0 := Az (Kd.R_lower ho0 (below_size (bU2 HB.out GE771.out GE772.out))); have n1 := Az (blk_below (g := gb771) (o := .cells #[.slice A0_0 l0_0.length c0_0, .slice A0_1 l0_1.length c0_1] 29 (0, 0)) (kU BK771.out) hb); have n2 := Az (blk_below (g := gb772) (o := .cells #[.slice none 0 0, .slice none 0 0] 29 (0, 0)) (kU BK772.out) hb); have n3 := Az (below_step (bU2 HB.out GE771.out GE772.out) hb); clear BK771 BK772 HB; have HO776 := n0; have BK771 := n1; have BK772 := n2; have HB := n3; clear n0 n1 n2 n3; (try clear hb); (try clear hb2); (try clear hk); (try clear hi); (try clear ho0); obtain ⟨Ao26, co26, eo26⟩ := Kd.R_slice HO776.out; (first | subst eo26 | (injection eo26 with f1_ f2_ f3_; have f4_ := f1_.symm; have f5_ := f3_.symm; clear f1_ f2_ f3_; subst f4_; subst f5_))
    refine hK.out _ _ ⟨(blk_cell BK771.out 0).trans rfl, (blk_cell BK771.out 1).trans rfl⟩ (fun hHeld => ?_)
    clear hK K
    refine norm_ (a' := ?_) ?_ ?_
    rotate_left
    ·
     show Act.put _ (some 24) _ = _
     simp only [Act.put, List.setIfInBounds_toArray, List.set_cons_zero, List.set_cons_succ, i64_w, i32_w]
     rfl
    refine one_ (i := 4) (N := some 25) #[true, true, true, true, true, false, false] rfl rfl (by kernel_rfl) (by decide) (fun K hK => ?_)
    refine goes_ Try.func80 (by kernel_rfl) rfl #[.agg #[.slice A0_0 l0_0.length c0_0, .slice A0_1 l0_1.length c0_1], .slice Ao26 t774.length co26] (by rfl) rfl rfl (by (try simp only [List.map_toArray, List.map_cons, List.map_nil]); first | done | rfl | (simp only [List.length_drop, List.length_take]; rfl)) ?_
    with_reducible refine (impl_renamed.calls kj2 _ _ l0_0 _ _ l0_1 _ _ t774 t777 t780 _ ?side1 ?side2 ?side3 ?side4 ?side5 ?side6 A23.out).mono ?_
    (case side1 => exact cU (Kd.C_below HR0_0.out HB.out))
    (case side2 => exact HC0_0.out)
    (case side3 => exact cU (Kd.C_below HR0_1.out HB.out))
    (case side4 => exact HC0_1.out)
    (case side5 => exact cU ((Kd.R_reads' HO776.out).2.2))
    (case side6 => exact (Kd.R_reads' HO776.out).2.1)
    rintro e w27 ⟨v778, v781, rfl, ho0, ho1, hb⟩
    refine ⟨_, rfl, ?_⟩
    have n0 := Az (Kd.R_mono (Kd.R_told (Kd.R_told (Kd.R_old (rU HO776.out) hb) (Kd.R_base ho0)) (Kd.R_base ho1)) (fun _ h_ => h_.1)); have n1 := Az (Kd.R_lower (Kd.R_new' ho0 (Kd.R_lt (rU HO776.out))) (below_size (bU2 HB.out GE771.out GE772.out))); have n2 := Az (Kd.R_lower (Kd.R_new' ho1 (Kd.R_lt (rU HO776.out))) (below_size (bU2 HB.out GE771.out GE772.out))); have n3 := Az (blk_below (g := gb771) (o := .cells #[.slice A0_0 l0_0.length c0_0, .slice A0_1 l0_1.length c0_1] 29 (0, 0)) (kU BK771.out) hb); have n4 := Az (blk_below (g := gb772) (o := .cells #[.slice none 0 0, .slice none 0 0] 29 (0, 0)) (kU BK772.out) hb); have n5 := Az (below_step (bU2 HB.out GE771.out GE772.out) hb); clear HO776 BK771 BK772 HB; have HO776 := n0; have HO779 := n1; have HO782 := n2; have BK771 := n3; have BK772 := n4; have HB := n5; clear n0 n1 n2 n3 n4 n5; (try clear hb); (try clear hb2); (try clear hk); (try clear hi); (try clear ho0); (try clear ho1); obtain ⟨Ao28, co28, eo28⟩ := Kd.R_slice HO779.out; (first | subst eo28 | (injection eo28 with f1_ f2_ f3_; have f4_ := f1_.symm; have f5_ := f3_.symm; clear f1_ f2_ f3_; subst f4_; subst f5_)); obtain ⟨Ao30, co30, eo30⟩ := Kd.R_slice HO782.out; (first | subst eo30 | (injection eo30 with f1_ f2_ f3_; have f4_ := f1_.symm; have f5_ := f3_.symm; clear f1_ f2_ f3_; subst f4_; subst f5_))
    refine hK.out _ _ ⟨(blk_cell BK771.out 0).trans rfl, (blk_cell BK771.out 1).trans rfl⟩ (fun hHeld => ?_)
    clear hK K
    refine norm_ (a' := ?_) ?_ ?_
    rotate_left
    ·
     show Act.put _ (some 25) _ = _
     simp only [Act.put, List.setIfInBounds_toArray, List.set_cons_zero, List.set_cons_succ, i64_w, i32_w]
     rfl
    refine one_ (i := 5) (N := none) #[true, true, true, true, true, true, false] rfl rfl (by kernel_rfl) (by decide) (fun K hK => ?_)
    have hs29 : w27.cell? ⟨gb772, 0, none⟩ = some (.slice none 0 0) := (blk_cell BK772.out 0).trans rfl; have hfs29 := blk_frozen BK772.out 0; have hns29_0 := NB771_772.out; have hms29_0 := NB772_771.out; have hs31 : w27.cell? ⟨gb772, 1, none⟩ = some (.slice none 0 0) := (blk_cell BK772.out 1).trans rfl; have hfs31 := blk_frozen BK772.out 1; have hns31_0 := NB771_772.out; have hms31_0 := NB772_771.out
    refine skip_ (w1 := ?_) (by rfl) rfl ?_ ?_
    rotate_left
    ·
     go_simp
     rfl
    refine hK.out _ _ ⟨((cell_far (p := ⟨gb772, _, none⟩) NB771_772.out _).trans (((cell_far (p := ⟨gb772, _, none⟩) NB771_772.out _).trans (hHeld.1)))), ((cell_far (p := ⟨gb772, _, none⟩) NB771_772.out _).trans (((cell_far (p := ⟨gb772, _, none⟩) NB771_772.out _).trans (hHeld.2))))⟩ (fun hHeld => ?_)
    clear hK K
    refine pure_ (i := 6) (N := some 5) (v := ?_) (a' := ?_) #[true, true, true, true, true, true, true] rfl rfl (by kernel_rfl) (fun _ _ _ h => h) (Or.inl ⟨by rfl, ?_⟩) ?_ ?_
    rotate_left
    ·
     intro w'
     go_simp
     with_reducible rfl
    rotate_left
    ·
     simp only [Act.put, List.setIfInBounds_toArray, List.set_cons_zero, List.set_cons_succ, i64_w, i32_w]
     rfl
    refine done_ (by kernel_rfl) ?_
    try go_wp2
    refine bodyPost_ret (results_ct rfl _ _ gb772 29 #[.slice Ao28 t777.length co28, .slice Ao30 t780.length co30] (0, 0) _ rfl (by (with_reducible repeat (first | refine blk_drewN ?_ _ | refine blk_drew ?_ | refine blk_alloc ?_ _)); refine blk_put (cs := #[.slice Ao28 t777.length co28, .slice none 0 0]) ?_ 1 _ rfl; (with_reducible repeat (first | refine blk_drewN ?_ _ | refine blk_drew ?_ | refine blk_alloc ?_ _)); refine blk_put (cs := #[.slice none 0 0, .slice none 0 0]) ?_ 0 _ rfl; (with_reducible repeat (first | refine blk_drewN ?_ _ | refine blk_drew ?_ | refine blk_alloc ?_ _)); exact BK772.out) Try.underlying29 rfl (by kernel_rfl)) rfl ?_
    exact ⟨_, _, rE, by (with_reducible repeat (first | apply Kd.R_alloc | apply Kd.R_drewN | apply Kd.R_drew)); exact Kd.R_mono (Kd.R_far (p := ⟨gb772, 1, none⟩) (Kd.R_far (p := ⟨gb772, 0, none⟩) (Kd.R_types HO779.out BK772.out (by decide)) (fun _ hk => hk.2) (.slice Ao28 t777.length co28)) (fun _ hk => hk.2) (.slice Ao30 t780.length co30)) (fun _ hk => hk.1.1), by (with_reducible repeat (first | apply Kd.R_alloc | apply Kd.R_drewN | apply Kd.R_drew)); exact Kd.R_mono (Kd.R_far (p := ⟨gb772, 1, none⟩) (Kd.R_far (p := ⟨gb772, 0, none⟩) (Kd.R_types HO782.out BK772.out (by decide)) (fun _ hk => hk.2) (.slice Ao28 t777.length co28)) (fun _ hk => hk.2) (.slice Ao30 t780.length co30)) (fun _ hk => hk.1.1), bU2 HB.out GE771.out GE772.out⟩
mutual
def impl_choose.j0 : Nat → Int → Int → Bool → Option (Int)
 | 0, _, _, _ => none
 | k + 1, x0, x1, x13 => if x13 = true then (some 0) else (impl_choose.l0 k x0 x1 1 1)
def impl_choose.l0 : Nat → Int → Int → Int → Int → Option (Int)
 | 0, _, _, _, _ => none
 | k + 1, x0, x1, x5, x6 => if x6 ≤ x1 then (if x6 = 0 then (none) else (impl_choose.l0 k x0 x1 (wrap64 (Int.tdiv (wrap64 (x5 * (wrap64 ((wrap64 (x0 - x1)) + x6)))) x6)) (wrap64 (x6 + 1)))) else (some x5)
end
def impl_choose.f (k : Nat) (a0 : Int) (a1 : Int) : Option (Int) := if a1 < 0 then (impl_choose.j0 k a0 a1 true) else (impl_choose.j0 k a0 a1 (decide (a1 > a0)))
theorem impl_choose.mono_l : ∀ k, (∀ y0 y1 y2, LeO (impl_choose.j0 k y0 y1 y2) (impl_choose.j0 (k + 1) y0 y1 y2)) ∧ (∀ y0 y1 y2 y3, LeO (impl_choose.l0 k y0 y1 y2 y3) (impl_choose.l0 (k + 1) y0 y1 y2 y3))
 | 0 => ⟨fun _ _ _ r h => by simp [impl_choose.j0] at h, fun _ _ _ _ r h => by simp [impl_choose.l0] at h⟩
 | k + 1 => by
  obtain ⟨ih0, ih1⟩ := impl_choose.mono_l k
  refine ⟨?_, ?_⟩
  ·
   intro y0 y1 y2
   unfold impl_choose.j0
   repeat' first
   | (with_reducible exact ih0 _ _ _)
   | (with_reducible exact ih1 _ _ _ _)
   | (with_reducible exact LeO.refl _)
   | (with_reducible exact LeO.none _)
   | (with_reducible refine LeO.ite ?_ ?_)
   | (with_reducible refine LeO.bind ?_ (fun _ => ?_))
   | exact ih0 _ _ _
   | exact ih1 _ _ _ _
   | exact LeO.none _
   | refine LeO.ite ?_ ?_
   | refine LeO.bind ?_ (fun _ => ?_)
  ·
   intro y0 y1 y2 y3
   unfold impl_choose.l0
   repeat' first
   | (with_reducible exact ih0 _ _ _)
   | (with_reducible exact ih1 _ _ _ _)
   | (with_reducible exact LeO.refl _)
   | (with_reducible exact LeO.none _)
   | (with_reducible refine LeO.ite ?_ ?_)
   | (with_reducible refine LeO.bind ?_ (fun _ => ?_))
   | exact ih0 _ _ _
   | exact ih1 _ _ _ _
   | exact LeO.none _
   | refine LeO.ite ?_ ?_
   | refine LeO.bind ?_ (fun _ => ?_)
theorem impl_choose.mono : ∀ a0 a1 k, LeO (impl_choose.f k a0 a1) (impl_choose.f (k + 1) a0 a1) := by
 intro a0 a1 k
 obtain ⟨ih0, ih1⟩ := impl_choose.mono_l k
 unfold impl_choose.f
 repeat' first
   | (with_reducible exact ih0 _ _ _)
   | (with_reducible exact ih1 _ _ _ _)
   | (with_reducible exact LeO.refl _)
   | (with_reducible exact LeO.none _)
   | (with_reducible refine LeO.ite ?_ ?_)
   | (with_reducible refine LeO.bind ?_ (fun _ => ?_))
   | exact ih0 _ _ _
   | exact ih1 _ _ _ _
   | exact LeO.none _
   | refine LeO.ite ?_ ?_
   | refine LeO.bind ?_ (fun _ => ?_)
set_option maxHeartbeats 8000000 in
set_option maxRecDepth 100000 in
theorem impl_choose.calls (k : Nat) (a0 : Int) (a1 : Int) (r : Int) (w : World) (h : impl_choose.f k a0 a1 = some r) :
  Calls Try.prog 83 #[.int .i64 a0, .int .i64 a1] w fun e w' => e = .returned (.int .i64 r) ∧ Drawn0 w w' := by
 have H : (if a1 < 0 then (impl_choose.j0 k a0 a1 true) else (impl_choose.j0 k a0 a1 (decide (a1 > a0)))) = some r := h; clear h; have HC3 := Az H; clear H
 go_enter Try.func83, Try.ntmps83
 go_upto_region 1 with (fail)
 go_cut [13] (fun v13 wc => ∃ (kq : Nat) (x13_2 : Bool), v13 = .bool x13_2 ∧ Aside0 (impl_choose.j0 kq a0 a1 x13_2 = some r) ∧ Aside0 (kq ≤ k) ∧ Drawn0 w wc)
 case first =>
  have H := HC3.out; clear HC3
  by_cases c4 : a1 < 0
  ·
   rw [if_pos c4] at H; have c4b0 := decide_eq_true c4; clear c4; (first | rw [c4b0] | (simp only [i64_w, i32_w]; rw [c4b0]) | skip); have H' := Az H; clear H
   go_wp2
   go_meet
   case rel => exact ⟨_, (true), rS, H', ⟨by first | omega | exact Nat.le_refl _⟩, by repeat (first | exact Drawn0.refl _ | apply Drawn0.step)⟩
  ·
   rw [if_neg c4] at H; have c4b0 := decide_eq_false c4; clear c4; (first | rw [c4b0] | (simp only [i64_w, i32_w]; rw [c4b0]) | skip); have H' := Az H; clear H
   go_wp2
   go_meet
   case rel => exact ⟨_, (decide (a1 > a0)), rS, H', ⟨by first | omega | exact Nat.le_refl _⟩, by repeat (first | exact Drawn0.refl _ | apply Drawn0.step)⟩
 case rest =>
  clear HC3; (try clear p2); (try clear c4); (try clear c4b0); obtain ⟨kq, x13_2, rfl, HA, HJ2, ⟨mc2, rfl⟩⟩ := hcut
  cases kq with
  | zero => exact absurd HA.out (by simp [impl_choose.j0])
  | succ kj2 =>
   have H := HA.out; clear HA; simp only [impl_choose.j0] at H
   by_cases c5 : x13_2 = true
   ·
    subst c5
    have H1 : (some 0) = some r := by rw [if_pos rfl] at H; exact H
    clear H; have H := H1; clear H1; obtain rfl := Option.some.inj H
    go_wp2
    go_ret
    exact ⟨by first | rfl | (simp; done) | (simp [*]; done), by repeat (first | exact Drawn0.refl _ | apply Drawn0.step)⟩
   ·
    replace c5 := Bool.eq_false_iff.mpr c5; subst c5
    have H1 : (impl_choose.l0 kj2 a0 a1 1 1) = some r := by rw [if_neg (show ¬ (false = true) by decide)] at H; exact H
    clear H; have H := H1; clear H1; have H' := Az H; clear H
    go_wp2
    go_loopg [5, 6] kj2 (fun kq v5 v6 w' => ∃ (x5_2 : Int) (x6_2 : Int), v5 = .int .i64 x5_2 ∧ v6 = .int .i64 x6_2 ∧ Aside0 (impl_choose.l0 kq a0 a1 x5_2 x6_2 = some r) ∧ Aside0 (kq ≤ kj2) ∧ Drawn0 w w')
    case atStart => exact ⟨(1), (1), rS, rS, H', ⟨Nat.le_refl _⟩, by repeat (first | exact Drawn0.refl _ | apply Drawn0.step)⟩
    case round =>
     clear H'; (try clear c2); (try clear p2); (try clear c4); (try clear c4b0); (try clear c5); (try clear p2); obtain ⟨x5_2, x6_2, rfl, rfl, HA, HK2, ⟨m2, rfl⟩⟩ := hrel
     cases gk with
     | zero => exact absurd HA.out (by simp [impl_choose.l0])
     | succ k2 =>
      have H := HA.out; clear HA; simp only [impl_choose.l0] at H
      by_cases c6 : x6_2 ≤ a1
      ·
       rw [if_pos c6] at H; have c6b0 := decide_eq_true c6; clear c6
       by_cases c7 : x6_2 = 0
       ·
        rw [if_pos c7] at H
        exact absurd H (by simp)
       ·
        rw [if_neg c7] at H; have c7b0 := beq_eq_false_iff_ne.mpr c7; have c7b1 := bne_iff_ne.mpr c7; have H' := Az H; clear H
        go_wp2
        (first | go_roundg k2 | (refine Handed.intro k2 ?measure ?_; rotate_left; go_step; (try simp only [add_plain]); (repeat apply Exists.intro); refine ⟨?rel, rfl⟩))
        case measure => have := HJ2.out; have := HK2.out; omega
        case rel => exact ⟨(wrap64 (Int.tdiv (wrap64 (x5_2 * (wrap64 ((wrap64 (a0 - a1)) + x6_2)))) x6_2)), (wrap64 (x6_2 + 1)), rS, rS, H', ⟨by have := HJ2.out; have := HK2.out; omega⟩, by repeat (first | exact Drawn0.refl _ | apply Drawn0.step)⟩
      ·
       rw [if_neg c6] at H; have c6b0 := decide_eq_false c6; clear c6; obtain rfl := Option.some.inj H
       go_wp2
       go_ret
       exact ⟨by first | rfl | (simp; done) | (simp [*]; done), by repeat (first | exact Drawn0.refl _ | apply Drawn0.step)⟩
def impl_RootedTrees.f (k : Nat) (a0 : Int) : Option (Int) := if a0 < 0 then (some (-1)) else (if a0 > 12 then (some (-1)) else ((impl_choose.f k (wrap64 (2 * a0)) a0).bind fun t783 => (if (wrap64 (a0 + 1)) = 0 then (none) else (some (wrap64 (Int.tdiv t783 (wrap64 (a0 + 1))))))))
theorem impl_RootedTrees.mono : ∀ a0 k, LeO (impl_RootedTrees.f k a0) (impl_RootedTrees.f (k + 1) a0) := by
 intro a0 k
 unfold impl_RootedTrees.f
 repeat' first
   | (with_reducible exact impl_choose.mono _ _ _)
   | (with_reducible exact LeO.refl _)
   | (with_reducible exact LeO.none _)
   | (with_reducible refine LeO.ite ?_ ?_)
   | (with_reducible refine LeO.bind ?_ (fun _ => ?_))
   | exact impl_choose.mono _ _ _
   | exact LeO.none _
   | refine LeO.ite ?_ ?_
   | refine LeO.bind ?_ (fun _ => ?_)
set_option maxHeartbeats 8000000 in
set_option maxRecDepth 100000 in
theorem impl_RootedTrees.calls (k : Nat) (a0 : Int) (r : Int) (w : World) (h : impl_RootedTrees.f k a0 = some r) :
  Calls Try.prog 82 #[.int .i64 a0] w fun e w' => e = .returned (.int .i64 r) ∧ Drawn0 w w' := by
 have H : (if a0 < 0 then (some (-1)) else (if a0 > 12 then (some (-1)) else ((impl_choose.f k (wrap64 (2 * a0)) a0).bind fun t783 => (if (wrap64 (a0 + 1)) = 0 then (none) else (some (wrap64 (Int.tdiv t783 (wrap64 (a0 + 1))))))))) = some r := h; clear h
 by_cases c2 : a0 < 0
 ·
  rw [if_pos c2] at H; have c2b0 := decide_eq_true c2; clear c2; obtain rfl := Option.some.inj H
  go_enter Try.func82, Try.ntmps82
  go_wp2
  go_ret
  exact ⟨by first | rfl | (simp; done) | (simp [*]; done), by repeat (first | exact Drawn0.refl _ | apply Drawn0.step)⟩
 ·
  rw [if_neg c2] at H; have c2b0 := decide_eq_false c2; clear c2
  by_cases c3 : a0 > 12
  ·
   rw [if_pos c3] at H; have c3b0 := decide_eq_true c3; clear c3; obtain rfl := Option.some.inj H
   go_enter Try.func82, Try.ntmps82
   go_wp2
   go_ret
   exact ⟨by first | rfl | (simp; done) | (simp [*]; done), by repeat (first | exact Drawn0.refl _ | apply Drawn0.step)⟩
  ·
   rw [if_neg c3] at H; have c3b0 := decide_eq_false c3; clear c3; replace H := Option.bind_eq_some_iff.mp H; obtain ⟨t783, A40, H⟩ := H; replace H : (if (wrap64 (a0 + 1)) = 0 then (none) else (some (wrap64 (Int.tdiv t783 (wrap64 (a0 + 1)))))) = some r := H; have A4 := Az A40; clear A40
   by_cases c5 : (wrap64 (a0 + 1)) = 0
   ·
    rw [if_pos c5] at H
    exact absurd H (by simp)
   ·
    rw [if_neg c5] at H; have c5b0 := beq_eq_false_iff_ne.mpr c5; have c5b1 := bne_iff_ne.mpr c5; obtain rfl := Option.some.inj H
    go_enter Try.func82, Try.ntmps82
    go_wp2_with (first | ((with_reducible refine gate_callee (f := 83) rfl ?_); refine goesL_ (some 12) rfl rfl Try.func83 (by kernel_rfl) rfl #[.int .i64 (wrap64 (2 * a0)), .int .i64 a0] rfl (by (try simp only [List.map_toArray, List.map_cons, List.map_nil]); first | done | rfl | (simp only [List.length_drop, List.length_take]; rfl)) ?_; (with_reducible refine (impl_choose.calls k (wrap64 (2 * a0)) a0 t783 _ A4.out).mono ?_); rintro e w' ⟨rfl, ⟨nd, rfl⟩⟩; refine ⟨_, rfl, ?_⟩))
    go_ret
    exact ⟨by first | rfl | (simp; done) | (simp [*]; done), by repeat (first | exact Drawn0.refl _ | apply Drawn0.step)⟩
mutual
def impl_TreesMany.j0 : Nat → Int → Bool → Option (Int)
 | 0, _, _ => none
 | k + 1, x0, x9 => if x9 = true then (some (-1)) else ((impl_RootedTrees.f k x0).bind fun t784 => (impl_TreesMany.l0 k t784 x0 0))
def impl_TreesMany.l0 : Nat → Int → Int → Int → Option (Int)
 | 0, _, _, _ => none
 | k + 1, x3, x12, x13 => if x13 < x12 then (impl_TreesMany.l0 k (wrap64 (x3 * 3)) x12 (wrap64 (x13 + 1))) else (some x3)
end
def impl_TreesMany.f (k : Nat) (a0 : Int) : Option (Int) := if a0 < 1 then (impl_TreesMany.j0 k a0 true) else (impl_TreesMany.j0 k a0 (decide (a0 > 3)))
theorem impl_TreesMany.mono_l : ∀ k, (∀ y0 y1, LeO (impl_TreesMany.j0 k y0 y1) (impl_TreesMany.j0 (k + 1) y0 y1)) ∧ (∀ y0 y1 y2, LeO (impl_TreesMany.l0 k y0 y1 y2) (impl_TreesMany.l0 (k + 1) y0 y1 y2))
 | 0 => ⟨fun _ _ r h => by simp [impl_TreesMany.j0] at h, fun _ _ _ r h => by simp [impl_TreesMany.l0] at h⟩
 | k + 1 => by
  obtain ⟨ih0, ih1⟩ := impl_TreesMany.mono_l k
  refine ⟨?_, ?_⟩
  ·
   intro y0 y1
   unfold impl_TreesMany.j0
   repeat' first
   | (with_reducible exact ih0 _ _)
   | (with_reducible exact ih1 _ _ _)
   | (with_reducible exact impl_RootedTrees.mono _ _)
   | (with_reducible exact LeO.refl _)
   | (with_reducible exact LeO.none _)
   | (with_reducible refine LeO.ite ?_ ?_)
   | (with_reducible refine LeO.bind ?_ (fun _ => ?_))
   | exact ih0 _ _
   | exact ih1 _ _ _
   | exact impl_RootedTrees.mono _ _
   | exact LeO.none _
   | refine LeO.ite ?_ ?_
   | refine LeO.bind ?_ (fun _ => ?_)
  ·
   intro y0 y1 y2
   unfold impl_TreesMany.l0
   repeat' first
   | (with_reducible exact ih0 _ _)
   | (with_reducible exact ih1 _ _ _)
   | (with_reducible exact impl_RootedTrees.mono _ _)
   | (with_reducible exact LeO.refl _)
   | (with_reducible exact LeO.none _)
   | (with_reducible refine LeO.ite ?_ ?_)
   | (with_reducible refine LeO.bind ?_ (fun _ => ?_))
   | exact ih0 _ _
   | exact ih1 _ _ _
   | exact impl_RootedTrees.mono _ _
   | exact LeO.none _
   | refine LeO.ite ?_ ?_
   | refine LeO.bind ?_ (fun _ => ?_)
theorem impl_TreesMany.mono : ∀ a0 k, LeO (impl_TreesMany.f k a0) (impl_TreesMany.f (k + 1) a0) := by
 intro a0 k
 obtain ⟨ih0, ih1⟩ := impl_TreesMany.mono_l k
 unfold impl_TreesMany.f
 repeat' first
   | (with_reducible exact ih0 _ _)
   | (with_reducible exact ih1 _ _ _)
   | (with_reducible exact impl_RootedTrees.mono _ _)
   | (with_reducible exact LeO.refl _)
   | (with_reducible exact LeO.none _)
   | (with_reducible refine LeO.ite ?_ ?_)
   | (with_reducible refine LeO.bind ?_ (fun _ => ?_))
   | exact ih0 _ _
   | exact ih1 _ _ _
   | exact impl_RootedTrees.mono _ _
   | exact LeO.none _
   | refine LeO.ite ?_ ?_
   | refine LeO.bind ?_ (fun _ => ?_)
set_option maxHeartbeats 8000000 in
set_option maxRecDepth 100000 in
theorem impl_TreesMany.calls (k : Nat) (a0 : Int) (r : Int) (w : World) (h : impl_TreesMany.f k a0 = some r) :
  Calls Try.prog 36 #[.int .i64 a0] w fun e w' => e = .returned (.int .i64 r) ∧ Drawn0 w w' := by
 have H : (if a0 < 1 then (impl_TreesMany.j0 k a0 true) else (impl_TreesMany.j0 k a0 (decide (a0 > 3)))) = some r := h; clear h; have HC2 := Az H; clear H
 go_enter Try.func36, Try.ntmps36
 go_upto_region 1 with (fail)
 go_cut [9] (fun v9 wc => ∃ (kq : Nat) (x9_1 : Bool), v9 = .bool x9_1 ∧ Aside0 (impl_TreesMany.j0 kq a0 x9_1 = some r) ∧ Aside0 (kq ≤ k) ∧ Drawn0 w wc)
 case first =>
  have H := HC2.out; clear HC2
  by_cases c3 : a0 < 1
  ·
   rw [if_pos c3] at H; have c3b0 := decide_eq_true c3; clear c3; (first | rw [c3b0] | (simp only [i64_w, i32_w]; rw [c3b0]) | skip); have H' := Az H; clear H
   go_wp2
   go_meet
   case rel => exact ⟨_, (true), rS, H', ⟨by first | omega | exact Nat.le_refl _⟩, by repeat (first | exact Drawn0.refl _ | apply Drawn0.step)⟩
  ·
   rw [if_neg c3] at H; have c3b0 := decide_eq_false c3; clear c3; (first | rw [c3b0] | (simp only [i64_w, i32_w]; rw [c3b0]) | skip); have H' := Az H; clear H
   go_wp2
   go_meet
   case rel => exact ⟨_, (decide (a0 > 3)), rS, H', ⟨by first | omega | exact Nat.le_refl _⟩, by repeat (first | exact Drawn0.refl _ | apply Drawn0.step)⟩
 case rest =>
  clear HC2; (try clear p2); (try clear c3); (try clear c3b0); obtain ⟨kq, x9_1, rfl, HA, HJ1, ⟨mc1, rfl⟩⟩ := hcut
  cases kq with
  | zero => exact absurd HA.out (by simp [impl_TreesMany.j0])
  | succ kj1 =>
   have H := HA.out; clear HA; simp only [impl_TreesMany.j0] at H
   by_cases c4 : x9_1 = true
   ·
    subst c4
    have H1 : (some (-1)) = some r := by rw [if_pos rfl] at H; exact H
    clear H; have H := H1; clear H1; obtain rfl := Option.some.inj H
    go_wp2
    go_ret
    exact ⟨by first | rfl | (simp; done) | (simp [*]; done), by repeat (first | exact Drawn0.refl _ | apply Drawn0.step)⟩
   ·
    replace c4 := Bool.eq_false_iff.mpr c4; subst c4
    have H1 : ((impl_RootedTrees.f kj1 a0).bind fun t784 => (impl_TreesMany.l0 kj1 t784 a0 0)) = some r := by rw [if_neg (show ¬ (false = true) by decide)] at H; exact H
    clear H; have H := H1; clear H1; replace H := Option.bind_eq_some_iff.mp H; obtain ⟨t784, A50, H⟩ := H; replace H : (impl_TreesMany.l0 kj1 t784 a0 0) = some r := H; have A5 := Az A50; clear A50; have H' := Az H; clear H
    go_wp2_with (first | ((with_reducible refine gate_callee (f := 82) rfl ?_); refine goesL_ (some 11) rfl rfl Try.func82 (by kernel_rfl) rfl #[.int .i64 a0] rfl (by (try simp only [List.map_toArray, List.map_cons, List.map_nil]); first | done | rfl | (simp only [List.length_drop, List.length_take]; rfl)) ?_; (with_reducible refine (impl_RootedTrees.calls kj1 a0 t784 _ A5.out).mono ?_); rintro e w' ⟨rfl, ⟨nd, rfl⟩⟩; refine ⟨_, rfl, ?_⟩))
    go_loopg [3, 13] kj1 (fun kq v3 v13 w' => ∃ (x3_2 : Int) (x13_2 : Int), v3 = .int .i64 x3_2 ∧ v13 = .int .i64 x13_2 ∧ Aside0 (impl_TreesMany.l0 kq x3_2 a0 x13_2 = some r) ∧ Aside0 (kq ≤ kj1) ∧ Drawn0 w w')
    case atStart => exact ⟨(t784), (0), rS, rS, H', ⟨Nat.le_refl _⟩, by repeat (first | exact Drawn0.refl _ | apply Drawn0.step)⟩
    case round =>
     clear H'; (try clear c1); (try clear p2); (try clear c3); (try clear c3b0); (try clear c4); (try clear p2); obtain ⟨x3_2, x13_2, rfl, rfl, HA, HK2, ⟨m2, rfl⟩⟩ := hrel
     cases gk with
     | zero => exact absurd HA.out (by simp [impl_TreesMany.l0])
     | succ k2 =>
      have H := HA.out; clear HA; simp only [impl_TreesMany.l0] at H
      by_cases c6 : x13_2 < a0
      ·
       rw [if_pos c6] at H; have c6b0 := decide_eq_true c6; clear c6; have H' := Az H; clear H
       go_wp2
       (first | go_roundg k2 | (refine Handed.intro k2 ?measure ?_; rotate_left; go_step; (try simp only [add_plain]); (repeat apply Exists.intro); refine ⟨?rel, rfl⟩))
       case measure => have := HJ1.out; have := HK2.out; omega
       case rel => exact ⟨(wrap64 (x3_2 * 3)), (wrap64 (x13_2 + 1)), rS, rS, H', ⟨by have := HJ1.out; have := HK2.out; omega⟩, by repeat (first | exact Drawn0.refl _ | apply Drawn0.step)⟩
      ·
       rw [if_neg c6] at H; have c6b0 := decide_eq_false c6; clear c6; obtain rfl := Option.some.inj H
       go_wp2
       go_ret
       exact ⟨by first | rfl | (simp; done) | (simp [*]; done), by repeat (first | exact Drawn0.refl _ | apply Drawn0.step)⟩
mutual
def impl_RootedPlane.j0 : Nat → Int → Bool → Option (Int)
 | 0, _, _ => none
 | k + 1, x0, x9 => if x9 = true then (some (-1)) else ((impl_choose.f k (wrap64 (2 * x0)) x0).bind fun t785 => (impl_RootedPlane.l0 k x0 (wrap64 (2 * t785)) x0 0))
def impl_RootedPlane.l0 : Nat → Int → Int → Int → Int → Option (Int)
 | 0, _, _, _, _ => none
 | k + 1, x0, x3, x15, x16 => if x16 < x15 then (impl_RootedPlane.l0 k x0 (wrap64 (x3 * 3)) x15 (wrap64 (x16 + 1))) else (if (wrap64 ((wrap64 (x0 + 1)) * (wrap64 (x0 + 2)))) = 0 then (none) else (some (wrap64 (Int.tdiv x3 (wrap64 ((wrap64 (x0 + 1)) * (wrap64 (x0 + 2))))))))
end
def impl_RootedPlane.f (k : Nat) (a0 : Int) : Option (Int) := if a0 < 0 then (impl_RootedPlane.j0 k a0 true) else (impl_RootedPlane.j0 k a0 (decide (a0 > 9)))
theorem impl_RootedPlane.mono_l : ∀ k, (∀ y0 y1, LeO (impl_RootedPlane.j0 k y0 y1) (impl_RootedPlane.j0 (k + 1) y0 y1)) ∧ (∀ y0 y1 y2 y3, LeO (impl_RootedPlane.l0 k y0 y1 y2 y3) (impl_RootedPlane.l0 (k + 1) y0 y1 y2 y3))
 | 0 => ⟨fun _ _ r h => by simp [impl_RootedPlane.j0] at h, fun _ _ _ _ r h => by simp [impl_RootedPlane.l0] at h⟩
 | k + 1 => by
  obtain ⟨ih0, ih1⟩ := impl_RootedPlane.mono_l k
  refine ⟨?_, ?_⟩
  ·
   intro y0 y1
   unfold impl_RootedPlane.j0
   repeat' first
   | (with_reducible exact ih0 _ _)
   | (with_reducible exact ih1 _ _ _ _)
   | (with_reducible exact impl_choose.mono _ _ _)
   | (with_reducible exact LeO.refl _)
   | (with_reducible exact LeO.none _)
   | (with_reducible refine LeO.ite ?_ ?_)
   | (with_reducible refine LeO.bind ?_ (fun _ => ?_))
   | exact ih0 _ _
   | exact ih1 _ _ _ _
   | exact impl_choose.mono _ _ _
   | exact LeO.none _
   | refine LeO.ite ?_ ?_
   | refine LeO.bind ?_ (fun _ => ?_)
  ·
   intro y0 y1 y2 y3
   unfold impl_RootedPlane.l0
   repeat' first
   | (with_reducible exact ih0 _ _)
   | (with_reducible exact ih1 _ _ _ _)
   | (with_reducible exact impl_choose.mono _ _ _)
   | (with_reducible exact LeO.refl _)
   | (with_reducible exact LeO.none _)
   | (with_reducible refine LeO.ite ?_ ?_)
   | (with_reducible refine LeO.bind ?_ (fun _ => ?_))
   | exact ih0 _ _
   | exact ih1 _ _ _ _
   | exact impl_choose.mono _ _ _
   | exact LeO.none _
   | refine LeO.ite ?_ ?_
   | refine LeO.bind ?_ (fun _ => ?_)
theorem impl_RootedPlane.mono : ∀ a0 k, LeO (impl_RootedPlane.f k a0) (impl_RootedPlane.f (k + 1) a0) := by
 intro a0 k
 obtain ⟨ih0, ih1⟩ := impl_RootedPlane.mono_l k
 unfold impl_RootedPlane.f
 repeat' first
   | (with_reducible exact ih0 _ _)
   | (with_reducible exact ih1 _ _ _ _)
   | (with_reducible exact impl_choose.mono _ _ _)
   | (with_reducible exact LeO.refl _)
   | (with_reducible exact LeO.none _)
   | (with_reducible refine LeO.ite ?_ ?_)
   | (with_reducible refine LeO.bind ?_ (fun _ => ?_))
   | exact ih0 _ _
   | exact ih1 _ _ _ _
   | exact impl_choose.mono _ _ _
   | exact LeO.none _
   | refine LeO.ite ?_ ?_
   | refine LeO.bind ?_ (fun _ => ?_)
set_option maxHeartbeats 8000000 in
set_option maxRecDepth 100000 in
theorem impl_RootedPlane.calls (k : Nat) (a0 : Int) (r : Int) (w : World) (h : impl_RootedPlane.f k a0 = some r) :
  Calls Try.prog 37 #[.int .i64 a0] w fun e w' => e = .returned (.int .i64 r) ∧ Drawn0 w w' := by
 have H : (if a0 < 0 then (impl_RootedPlane.j0 k a0 true) else (impl_RootedPlane.j0 k a0 (decide (a0 > 9)))) = some r := h; clear h; have HC2 := Az H; clear H
 go_enter Try.func37, Try.ntmps37
 go_upto_region 1 with (fail)
 go_cut [9] (fun v9 wc => ∃ (kq : Nat) (x9_1 : Bool), v9 = .bool x9_1 ∧ Aside0 (impl_RootedPlane.j0 kq a0 x9_1 = some r) ∧ Aside0 (kq ≤ k) ∧ Drawn0 w wc)
 case first =>
  have H := HC2.out; clear HC2
  by_cases c3 : a0 < 0
  ·
   rw [if_pos c3] at H; have c3b0 := decide_eq_true c3; clear c3; (first | rw [c3b0] | (simp only [i64_w, i32_w]; rw [c3b0]) | skip); have H' := Az H; clear H
   go_wp2
   go_meet
   case rel => exact ⟨_, (true), rS, H', ⟨by first | omega | exact Nat.le_refl _⟩, by repeat (first | exact Drawn0.refl _ | apply Drawn0.step)⟩
  ·
   rw [if_neg c3] at H; have c3b0 := decide_eq_false c3; clear c3; (first | rw [c3b0] | (simp only [i64_w, i32_w]; rw [c3b0]) | skip); have H' := Az H; clear H
   go_wp2
   go_meet
   case rel => exact ⟨_, (decide (a0 > 9)), rS, H', ⟨by first | omega | exact Nat.le_refl _⟩, by repeat (first | exact Drawn0.refl _ | apply Drawn0.step)⟩
 case rest =>
  clear HC2; (try clear p2); (try clear c3); (try clear c3b0); obtain ⟨kq, x9_1, rfl, HA, HJ1, ⟨mc1, rfl⟩⟩ := hcut
  cases kq with
  | zero => exact absurd HA.out (by simp [impl_RootedPlane.j0])
  | succ kj1 =>
   have H := HA.out; clear HA; simp only [impl_RootedPlane.j0] at H
   by_cases c4 : x9_1 = true
   ·
    subst c4
    have H1 : (some (-1)) = some r := by rw [if_pos rfl] at H; exact H
    clear H; have H := H1; clear H1; obtain rfl := Option.some.inj H
    go_wp2
    go_ret
    exact ⟨by first | rfl | (simp; done) | (simp [*]; done), by repeat (first | exact Drawn0.refl _ | apply Drawn0.step)⟩
   ·
    replace c4 := Bool.eq_false_iff.mpr c4; subst c4
    have H1 : ((impl_choose.f kj1 (wrap64 (2 * a0)) a0).bind fun t785 => (impl_RootedPlane.l0 kj1 a0 (wrap64 (2 * t785)) a0 0)) = some r := by rw [if_neg (show ¬ (false = true) by decide)] at H; exact H
    clear H; have H := H1; clear H1; replace H := Option.bind_eq_some_iff.mp H; obtain ⟨t785, A50, H⟩ := H; replace H : (impl_RootedPlane.l0 kj1 a0 (wrap64 (2 * t785)) a0 0) = some r := H; have A5 := Az A50; clear A50; have H' := Az H; clear H
    go_wp2_with (first | ((with_reducible refine gate_callee (f := 83) rfl ?_); refine goesL_ (some 13) rfl rfl Try.func83 (by kernel_rfl) rfl #[.int .i64 (wrap64 (2 * a0)), .int .i64 a0] rfl (by (try simp only [List.map_toArray, List.map_cons, List.map_nil]); first | done | rfl | (simp only [List.length_drop, List.length_take]; rfl)) ?_; (with_reducible refine (impl_choose.calls kj1 (wrap64 (2 * a0)) a0 t785 _ A5.out).mono ?_); rintro e w' ⟨rfl, ⟨nd, rfl⟩⟩; refine ⟨_, rfl, ?_⟩))
    go_loopg [3, 16] kj1 (fun kq v3 v16 w' => ∃ (x3_2 : Int) (x16_2 : Int), v3 = .int .i64 x3_2 ∧ v16 = .int .i64 x16_2 ∧ Aside0 (impl_RootedPlane.l0 kq a0 x3_2 a0 x16_2 = some r) ∧ Aside0 (kq ≤ kj1) ∧ Drawn0 w w')
    case atStart => exact ⟨(wrap64 (2 * t785)), (0), rS, rS, H', ⟨Nat.le_refl _⟩, by repeat (first | exact Drawn0.refl _ | apply Drawn0.step)⟩
    case round =>
     clear H'; (try clear c1); (try clear p2); (try clear c3); (try clear c3b0); (try clear c4); (try clear p2); obtain ⟨x3_2, x16_2, rfl, rfl, HA, HK2, ⟨m2, rfl⟩⟩ := hrel
     cases gk with
     | zero => exact absurd HA.out (by simp [impl_RootedPlane.l0])
     | succ k2 =>
      have H := HA.out; clear HA; simp only [impl_RootedPlane.l0] at H
      by_cases c6 : x16_2 < a0
      ·
       rw [if_pos c6] at H; have c6b0 := decide_eq_true c6; clear c6; have H' := Az H; clear H
       go_wp2
       (first | go_roundg k2 | (refine Handed.intro k2 ?measure ?_; rotate_left; go_step; (try simp only [add_plain]); (repeat apply Exists.intro); refine ⟨?rel, rfl⟩))
       case measure => have := HJ1.out; have := HK2.out; omega
       case rel => exact ⟨(wrap64 (x3_2 * 3)), (wrap64 (x16_2 + 1)), rS, rS, H', ⟨by have := HJ1.out; have := HK2.out; omega⟩, by repeat (first | exact Drawn0.refl _ | apply Drawn0.step)⟩
      ·
       rw [if_neg c6] at H; have c6b0 := decide_eq_false c6; clear c6
       by_cases c7 : (wrap64 ((wrap64 (a0 + 1)) * (wrap64 (a0 + 2)))) = 0
       ·
        rw [if_pos c7] at H
        exact absurd H (by simp)
       ·
        rw [if_neg c7] at H; have c7b0 := beq_eq_false_iff_ne.mpr c7; have c7b1 := bne_iff_ne.mpr c7; obtain rfl := Option.some.inj H
        go_wp2
        go_ret
        exact ⟨by first | rfl | (simp; done) | (simp [*]; done), by repeat (first | exact Drawn0.refl _ | apply Drawn0.step)⟩
mutual
def laws_FnTreeAll.j0 : Nat → Int → List (S25) → Bool → List (S25) → Bool → Bool → Option (Bool)
 | 0, _, _, _, _, _, _ => none
 | k + 1, x3, x4, x5, x6, x7, x44 => if x44 = true then (if (x5 == x7) = true then ((laws_sameTrees.f k x4 x6).bind fun t796 => (some t796)) else (some false)) else (laws_FnTreeAll.l0 k x3 x4 (([] : List (S29))) 0)
def laws_FnTreeAll.l0 : Nat → Int → List (S25) → List (S29) → Int → Option (Bool)
 | 0, _, _, _, _ => none
 | k + 1, x3, x4, x8, x9 => if x9 < (x4.length : Int) then (if 0 ≤ x9 then ((impl_TreeQuad.f k ((rd_T25 x4 x9).f0) ((rd_T25 x4 x9).f1)).bind fun bt803 => ((impl_MapForm.f k bt803.1 bt803.2.1 0).bind fun bt812 => (laws_FnTreeAll.l1 k x3 x4 x8 x9 bt803.2.2.2 bt812.2.2 true 0 bt812.1 bt812.2.1))) else (none)) else ((impl_TreesMany.f k x3).bind fun t800 => (if (x4.length : Int) = t800 then ((impl_RootedPlane.f k x3).bind fun t801 => (some ((x8.length : Int) == t801))) else (some false)))
def laws_FnTreeAll.l1 : Nat → Int → List (S25) → List (S29) → Int → Bool → Bool → Bool → Int → List Int → List Int → Option (Bool)
 | 0, _, _, _, _, _, _, _, _, _, _ => none
 | k + 1, x3, x4, x8, x9, x12, x14, x15, x16, xZ2, xZ3 => if x16 < (x8.length : Int) then (if x15 = true then (if 0 ≤ x16 then ((laws_sameMap.f k ((rd_T29 x8 x16).f0) ((rd_T29 x8 x16).f1) xZ2 xZ3).bind fun t821 => (laws_FnTreeAll.l1 k x3 x4 x8 x9 x12 x14 (!t821) (wrap64 (x16 + 1)) xZ2 xZ3)) else (none)) else (laws_FnTreeAll.l1 k x3 x4 x8 x9 x12 x14 false (wrap64 (x16 + 1)) xZ2 xZ3)) else (if x12 = true then (if x14 = true then (if x9 > 0 then (if 0 ≤ x9 then (if x9 < (x4.length : Int) then (if 0 ≤ (wrap64 (x9 - 1)) then (if (wrap64 (x9 - 1)) < (x4.length : Int) then ((laws_sameTree.f k ((rd_T25 x4 x9).f0) ((rd_T25 x4 x9).f1) ((rd_T25 x4 (wrap64 (x9 - 1))).f0) ((rd_T25 x4 (wrap64 (x9 - 1))).f1)).bind fun t824 => (laws_FnTreeAll.j3 k x3 x4 x8 x9 x15 t824 xZ2 xZ3)) else (none)) else (none)) else (none)) else (none)) else (laws_FnTreeAll.j3 k x3 x4 x8 x9 x15 false xZ2 xZ3)) else (laws_FnTreeAll.j3 k x3 x4 x8 x9 x15 true xZ2 xZ3)) else (laws_FnTreeAll.j3 k x3 x4 x8 x9 x15 true xZ2 xZ3))
def laws_FnTreeAll.j3 : Nat → Int → List (S25) → List (S29) → Int → Bool → Bool → List Int → List Int → Option (Bool)
 | 0, _, _, _, _, _, _, _, _ => none
 | k + 1, x3, x4, x8, x9, x15, x111, xZ2, xZ3 => if x111 = true then (some false) else (if x15 = true then (if x8.length < 2932031007402 then (laws_FnTreeAll.l0 k x3 x4 (x8 ++ [(⟨xZ2, xZ3⟩ : S29)]) (wrap64 (x9 + 1))) else (none)) else (laws_FnTreeAll.l0 k x3 x4 x8 (wrap64 (x9 + 1))))
end
def laws_FnTreeAll.f (k : Nat) (l0 : List Int) : Option (Bool) := if (l0.length : Int) > 1048576 then (some true) else ((spec_DrawTreeAll.f k l0).bind fun t786 => ((impl_TreeAll.f k t786).bind fun bt787 => ((spec_TreeAll.f k t786).bind fun bt791 => (if (bt787.2 != bt791.2) = true then (laws_FnTreeAll.j0 k t786 bt787.1 bt787.2 bt791.1 bt791.2 true) else ((laws_sameTrees.f k bt787.1 bt791.1).bind fun t795 => (if t795 = true then (laws_FnTreeAll.j0 k t786 bt787.1 bt787.2 bt791.1 bt791.2 (!bt787.2)) else (laws_FnTreeAll.j0 k t786 bt787.1 bt787.2 bt791.1 bt791.2 true)))))))
theorem laws_FnTreeAll.mono_l : ∀ k, (∀ y0 y1 y2 y3 y4 y5, LeO (laws_FnTreeAll.j0 k y0 y1 y2 y3 y4 y5) (laws_FnTreeAll.j0 (k + 1) y0 y1 y2 y3 y4 y5)) ∧ (∀ y0 y1 y2 y3, LeO (laws_FnTreeAll.l0 k y0 y1 y2 y3) (laws_FnTreeAll.l0 (k + 1) y0 y1 y2 y3)) ∧ (∀ y0 y1 y2 y3 y4 y5 y6 y7 y8 y9, LeO (laws_FnTreeAll.l1 k y0 y1 y2 y3 y4 y5 y6 y7 y8 y9) (laws_FnTreeAll.l1 (k + 1) y0 y1 y2 y3 y4 y5 y6 y7 y8 y9)) ∧ (∀ y0 y1 y2 y3 y4 y5 y6 y7, LeO (laws_FnTreeAll.j3 k y0 y1 y2 y3 y4 y5 y6 y7) (laws_FnTreeAll.j3 (k + 1) y0 y1 y2 y3 y4 y5 y6 y7))
 | 0 => ⟨fun _ _ _ _ _ _ r h => by simp [laws_FnTreeAll.j0] at h, fun _ _ _ _ r h => by simp [laws_FnTreeAll.l0] at h, fun _ _ _ _ _ _ _ _ _ _ r h => by simp [laws_FnTreeAll.l1] at h, fun _ _ _ _ _ _ _ _ r h => by simp [laws_FnTreeAll.j3] at h⟩
 | k + 1 => by
  obtain ⟨ih0, ih1, ih2, ih3⟩ := laws_FnTreeAll.mono_l k
  refine ⟨?_, ?_, ?_, ?_⟩
  ·
   intro y0 y1 y2 y3 y4 y5
   unfold laws_FnTreeAll.j0
   repeat' first
   | (with_reducible exact ih0 _ _ _ _ _ _)
   | (with_reducible exact ih1 _ _ _ _)
   | (with_reducible exact ih2 _ _ _ _ _ _ _ _ _ _)
   | (with_reducible exact ih3 _ _ _ _ _ _ _ _)
   | (with_reducible exact impl_MapForm.mono _ _ _ _)
   | (with_reducible exact impl_RootedPlane.mono _ _)
   | (with_reducible exact impl_TreeAll.mono _ _)
   | (with_reducible exact impl_TreeQuad.mono _ _ _)
   | (with_reducible exact impl_TreesMany.mono _ _)
   | (with_reducible exact laws_sameMap.mono _ _ _ _ _)
   | (with_reducible exact laws_sameTree.mono _ _ _ _ _)
   | (with_reducible exact laws_sameTrees.mono _ _ _)
   | (with_reducible exact spec_DrawTreeAll.mono _ _)
   | (with_reducible exact spec_TreeAll.mono _ _)
   | (with_reducible exact LeO.refl _)
   | (with_reducible exact LeO.none _)
   | (with_reducible refine LeO.ite ?_ ?_)
   | (with_reducible refine LeO.bind ?_ (fun _ => ?_))
   | exact ih0 _ _ _ _ _ _
   | exact ih1 _ _ _ _
   | exact ih2 _ _ _ _ _ _ _ _ _ _
   | exact ih3 _ _ _ _ _ _ _ _
   | exact impl_MapForm.mono _ _ _ _
   | exact impl_RootedPlane.mono _ _
   | exact impl_TreeAll.mono _ _
   | exact impl_TreeQuad.mono _ _ _
   | exact impl_TreesMany.mono _ _
   | exact laws_sameMap.mono _ _ _ _ _
   | exact laws_sameTree.mono _ _ _ _ _
   | exact laws_sameTrees.mono _ _ _
   | exact spec_DrawTreeAll.mono _ _
   | exact spec_TreeAll.mono _ _
   | exact LeO.none _
   | refine LeO.ite ?_ ?_
   | refine LeO.bind ?_ (fun _ => ?_)
  ·
   intro y0 y1 y2 y3
   unfold laws_FnTreeAll.l0
   repeat' first
   | (with_reducible exact ih0 _ _ _ _ _ _)
   | (with_reducible exact ih1 _ _ _ _)
   | (with_reducible exact ih2 _ _ _ _ _ _ _ _ _ _)
   | (with_reducible exact ih3 _ _ _ _ _ _ _ _)
   | (with_reducible exact impl_MapForm.mono _ _ _ _)
   | (with_reducible exact impl_RootedPlane.mono _ _)
   | (with_reducible exact impl_TreeAll.mono _ _)
   | (with_reducible exact impl_TreeQuad.mono _ _ _)
   | (with_reducible exact impl_TreesMany.mono _ _)
   | (with_reducible exact laws_sameMap.mono _ _ _ _ _)
   | (with_reducible exact laws_sameTree.mono _ _ _ _ _)
   | (with_reducible exact laws_sameTrees.mono _ _ _)
   | (with_reducible exact spec_DrawTreeAll.mono _ _)
   | (with_reducible exact spec_TreeAll.mono _ _)
   | (with_reducible exact LeO.refl _)
   | (with_reducible exact LeO.none _)
   | (with_reducible refine LeO.ite ?_ ?_)
   | (with_reducible refine LeO.bind ?_ (fun _ => ?_))
   | exact ih0 _ _ _ _ _ _
   | exact ih1 _ _ _ _
   | exact ih2 _ _ _ _ _ _ _ _ _ _
   | exact ih3 _ _ _ _ _ _ _ _
   | exact impl_MapForm.mono _ _ _ _
   | exact impl_RootedPlane.mono _ _
   | exact impl_TreeAll.mono _ _
   | exact impl_TreeQuad.mono _ _ _
   | exact impl_TreesMany.mono _ _
   | exact laws_sameMap.mono _ _ _ _ _
   | exact laws_sameTree.mono _ _ _ _ _
   | exact laws_sameTrees.mono _ _ _
   | exact spec_DrawTreeAll.mono _ _
   | exact spec_TreeAll.mono _ _
   | exact LeO.none _
   | refine LeO.ite ?_ ?_
   | refine LeO.bind ?_ (fun _ => ?_)
  ·
   intro y0 y1 y2 y3 y4 y5 y6 y7 y8 y9
   unfold laws_FnTreeAll.l1
   repeat' first
   | (with_reducible exact ih0 _ _ _ _ _ _)
   | (with_reducible exact ih1 _ _ _ _)
   | (with_reducible exact ih2 _ _ _ _ _ _ _ _ _ _)
   | (with_reducible exact ih3 _ _ _ _ _ _ _ _)
   | (with_reducible exact impl_MapForm.mono _ _ _ _)
   | (with_reducible exact impl_RootedPlane.mono _ _)
   | (with_reducible exact impl_TreeAll.mono _ _)
   | (with_reducible exact impl_TreeQuad.mono _ _ _)
   | (with_reducible exact impl_TreesMany.mono _ _)
   | (with_reducible exact laws_sameMap.mono _ _ _ _ _)
   | (with_reducible exact laws_sameTree.mono _ _ _ _ _)
   | (with_reducible exact laws_sameTrees.mono _ _ _)
   | (with_reducible exact spec_DrawTreeAll.mono _ _)
   | (with_reducible exact spec_TreeAll.mono _ _)
   | (with_reducible exact LeO.refl _)
   | (with_reducible exact LeO.none _)
   | (with_reducible refine LeO.ite ?_ ?_)
   | (with_reducible refine LeO.bind ?_ (fun _ => ?_))
   | exact ih0 _ _ _ _ _ _
   | exact ih1 _ _ _ _
   | exact ih2 _ _ _ _ _ _ _ _ _ _
   | exact ih3 _ _ _ _ _ _ _ _
   | exact impl_MapForm.mono _ _ _ _
   | exact impl_RootedPlane.mono _ _
   | exact impl_TreeAll.mono _ _
   | exact impl_TreeQuad.mono _ _ _
   | exact impl_TreesMany.mono _ _
   | exact laws_sameMap.mono _ _ _ _ _
   | exact laws_sameTree.mono _ _ _ _ _
   | exact laws_sameTrees.mono _ _ _
   | exact spec_DrawTreeAll.mono _ _
   | exact spec_TreeAll.mono _ _
   | exact LeO.none _
   | refine LeO.ite ?_ ?_
   | refine LeO.bind ?_ (fun _ => ?_)
  ·
   intro y0 y1 y2 y3 y4 y5 y6 y7
   unfold laws_FnTreeAll.j3
   repeat' first
   | (with_reducible exact ih0 _ _ _ _ _ _)
   | (with_reducible exact ih1 _ _ _ _)
   | (with_reducible exact ih2 _ _ _ _ _ _ _ _ _ _)
   | (with_reducible exact ih3 _ _ _ _ _ _ _ _)
   | (with_reducible exact impl_MapForm.mono _ _ _ _)
   | (with_reducible exact impl_RootedPlane.mono _ _)
   | (with_reducible exact impl_TreeAll.mono _ _)
   | (with_reducible exact impl_TreeQuad.mono _ _ _)
   | (with_reducible exact impl_TreesMany.mono _ _)
   | (with_reducible exact laws_sameMap.mono _ _ _ _ _)
   | (with_reducible exact laws_sameTree.mono _ _ _ _ _)
   | (with_reducible exact laws_sameTrees.mono _ _ _)
   | (with_reducible exact spec_DrawTreeAll.mono _ _)
   | (with_reducible exact spec_TreeAll.mono _ _)
   | (with_reducible exact LeO.refl _)
   | (with_reducible exact LeO.none _)
   | (with_reducible refine LeO.ite ?_ ?_)
   | (with_reducible refine LeO.bind ?_ (fun _ => ?_))
   | exact ih0 _ _ _ _ _ _
   | exact ih1 _ _ _ _
   | exact ih2 _ _ _ _ _ _ _ _ _ _
   | exact ih3 _ _ _ _ _ _ _ _
   | exact impl_MapForm.mono _ _ _ _
   | exact impl_RootedPlane.mono _ _
   | exact impl_TreeAll.mono _ _
   | exact impl_TreeQuad.mono _ _ _
   | exact impl_TreesMany.mono _ _
   | exact laws_sameMap.mono _ _ _ _ _
   | exact laws_sameTree.mono _ _ _ _ _
   | exact laws_sameTrees.mono _ _ _
   | exact spec_DrawTreeAll.mono _ _
   | exact spec_TreeAll.mono _ _
   | exact LeO.none _
   | refine LeO.ite ?_ ?_
   | refine LeO.bind ?_ (fun _ => ?_)
theorem laws_FnTreeAll.mono : ∀ a0 k, LeO (laws_FnTreeAll.f k a0) (laws_FnTreeAll.f (k + 1) a0) := by
 intro a0 k
 obtain ⟨ih0, ih1, ih2, ih3⟩ := laws_FnTreeAll.mono_l k
 unfold laws_FnTreeAll.f
 repeat' first
   | (with_reducible exact ih0 _ _ _ _ _ _)
   | (with_reducible exact ih1 _ _ _ _)
   | (with_reducible exact ih2 _ _ _ _ _ _ _ _ _ _)
   | (with_reducible exact ih3 _ _ _ _ _ _ _ _)
   | (with_reducible exact impl_MapForm.mono _ _ _ _)
   | (with_reducible exact impl_RootedPlane.mono _ _)
   | (with_reducible exact impl_TreeAll.mono _ _)
   | (with_reducible exact impl_TreeQuad.mono _ _ _)
   | (with_reducible exact impl_TreesMany.mono _ _)
   | (with_reducible exact laws_sameMap.mono _ _ _ _ _)
   | (with_reducible exact laws_sameTree.mono _ _ _ _ _)
   | (with_reducible exact laws_sameTrees.mono _ _ _)
   | (with_reducible exact spec_DrawTreeAll.mono _ _)
   | (with_reducible exact spec_TreeAll.mono _ _)
   | (with_reducible exact LeO.refl _)
   | (with_reducible exact LeO.none _)
   | (with_reducible refine LeO.ite ?_ ?_)
   | (with_reducible refine LeO.bind ?_ (fun _ => ?_))
   | exact ih0 _ _ _ _ _ _
   | exact ih1 _ _ _ _
   | exact ih2 _ _ _ _ _ _ _ _ _ _
   | exact ih3 _ _ _ _ _ _ _ _
   | exact impl_MapForm.mono _ _ _ _
   | exact impl_RootedPlane.mono _ _
   | exact impl_TreeAll.mono _ _
   | exact impl_TreeQuad.mono _ _ _
   | exact impl_TreesMany.mono _ _
   | exact laws_sameMap.mono _ _ _ _ _
   | exact laws_sameTree.mono _ _ _ _ _
   | exact laws_sameTrees.mono _ _ _
   | exact spec_DrawTreeAll.mono _ _
   | exact spec_TreeAll.mono _ _
   | exact LeO.none _
   | refine LeO.ite ?_ ?_
   | refine LeO.bind ?_ (fun _ => ?_)
def laws_FnTreeAll.T18 : Bool × List (List Nat × List Nat) := (true, [([], []), ([0], [0]), ([1], [1]), ([1], [1]), ([2, 3, 1], [1, 2, 3]), ([4, 1], [1, 4]), ([1], [1]), ([5, 6, 1, 1], [1, 5, 6]), ([7, 1], [1, 7]), ([1, 8], [1, 8]), ([9, 7, 0, 1, 2, 3, 4, 5, 6, 7, 8, 9], [0, 9])])
def laws_FnTreeAll.B18 : List Nat := [0, 1, 3, 3, 15, 31, 3, 127, 255, 511, 1023]
theorem laws_FnTreeAll.tab18 : rtab .any (opsOf Try.f5 18) = laws_FnTreeAll.T18 := by kernel_rfl
theorem laws_FnTreeAll.bits18 : waitsOk laws_FnTreeAll.T18.2 laws_FnTreeAll.B18 = true := by kernel_rfl
def laws_FnTreeAll.T19 : Bool × List (List Nat × List Nat) := (true, [([], []), ([0], [0]), ([1], [1]), ([2], [2]), ([3, 2], [2, 3]), ([2, 4], [2, 4]), ([5, 2], [5]), ([6], [6]), ([7, 6], [6, 7]), ([8, 6, 6], [6, 8]), ([9], [9]), ([9], [9]), ([10, 11, 9], [9, 10, 11]), ([12, 9], [9, 12]), ([9], [9]), ([9], [9]), ([15, 9], [9, 15]), ([14, 16, 9], [9, 14, 16]), ([17, 9], [9, 17]), ([13, 18, 9, 9], [9, 13, 18]), ([9, 19, 6], [6, 9, 19]), ([6, 20], [6, 20])])
def laws_FnTreeAll.B19 : List Nat := [0, 1, 3, 7, 15, 31, 63, 127, 255, 511, 1023, 1023, 4095, 8191, 1023, 1023, 33791, 115711, 246783, 524287, 1048575, 2097151]
theorem laws_FnTreeAll.tab19 : rtab .any (opsOf Try.f5 19) = laws_FnTreeAll.T19 := by kernel_rfl
theorem laws_FnTreeAll.bits19 : waitsOk laws_FnTreeAll.T19.2 laws_FnTreeAll.B19 = true := by kernel_rfl
set_option maxHeartbeats 8000000 in
set_option maxRecDepth 100000 in
theorem laws_FnTreeAll.calls (k : Nat) (A0 : Option Addr) (c0 : Nat) (l0 : List Int) (r : Bool) (w : World) (hr0 : Kd.C (Kd.int .u8) w A0 l0.length l0) (hc0 : l0.length ≤ c0) (h : laws_FnTreeAll.f k l0 = some r) :
  Calls Try.prog 5 #[.slice A0 l0.length c0] w fun e w' => e = .returned (.bool r) ∧ Below w.heap.size w w' := by
 have hu25 := Try.underlying25; have hu29 := Try.underlying29; have HR0 := Az hr0; have HC0 := Az hc0; clear hr0 hc0; have HB := Az (Below.refl w.heap.size w); have H : (if (l0.length : Int) > 1048576 then (some true) else ((spec_DrawTreeAll.f k l0).bind fun t786 => ((impl_TreeAll.f k t786).bind fun bt787 => ((spec_TreeAll.f k t786).bind fun bt791 => (if (bt787.2 != bt791.2) = true then (laws_FnTreeAll.j0 k t786 bt787.1 bt787.2 bt791.1 bt791.2 true) else ((laws_sameTrees.f k bt787.1 bt791.1).bind fun t795 => (if t795 = true then (laws_FnTreeAll.j0 k t786 bt787.1 bt787.2 bt791.1 bt791.2 (!bt787.2)) else (laws_FnTreeAll.j0 k t786 bt787.1 bt787.2 bt791.1 bt791.2 true)))))))) = some r := h; clear h
 by_cases c2 : (l0.length : Int) > 1048576
 ·
  rw [if_pos c2] at H; have c2b0 := decide_eq_true c2; have c2b1 : decide (1048576 < l0.length) = true := decide_eq_true (by omega); clear c2; obtain rfl := Option.some.inj H
  go_enter Try.func5, Try.ntmps5
  go_wp2
  go_ret
  exact ⟨rE, bU0 HB.out⟩
 ·
  rw [if_neg c2] at H; have c2b0 := decide_eq_false c2; have c2b1 : decide (1048576 < l0.length) = false := decide_eq_false (by omega); clear c2; replace H := Option.bind_eq_some_iff.mp H; obtain ⟨t786, A30, H⟩ := H; replace H : ((impl_TreeAll.f k t786).bind fun bt787 => ((spec_TreeAll.f k t786).bind fun bt791 => (if (bt787.2 != bt791.2) = true then (laws_FnTreeAll.j0 k t786 bt787.1 bt787.2 bt791.1 bt791.2 true) else ((laws_sameTrees.f k bt787.1 bt791.1).bind fun t795 => (if t795 = true then (laws_FnTreeAll.j0 k t786 bt787.1 bt787.2 bt791.1 bt791.2 (!bt787.2)) else (laws_FnTreeAll.j0 k t786 bt787.1 bt787.2 bt791.1 bt791.2 true)))))) = some r := H; have A3 := Az A30; clear A30; replace H := Option.bind_eq_some_iff.mp H; obtain ⟨⟨t787, t788⟩, A40, H⟩ := H; replace H : ((spec_TreeAll.f k t786).bind fun bt791 => (if (t788 != bt791.2) = true then (laws_FnTreeAll.j0 k t786 t787 t788 bt791.1 bt791.2 true) else ((laws_sameTrees.f k t787 bt791.1).bind fun t795 => (if t795 = true then (laws_FnTreeAll.j0 k t786 t787 t788 bt791.1 bt791.2 (!t788)) else (laws_FnTreeAll.j0 k t786 t787 t788 bt791.1 bt791.2 true))))) = some r := H; have A4 := Az A40; clear A40; replace H := Option.bind_eq_some_iff.mp H; obtain ⟨⟨t791, t792⟩, A50, H⟩ := H; replace H : (if (t788 != t792) = true then (laws_FnTreeAll.j0 k t786 t787 t788 t791 t792 true) else ((laws_sameTrees.f k t787 t791).bind fun t795 => (if t795 = true then (laws_FnTreeAll.j0 k t786 t787 t788 t791 t792 (!t788)) else (laws_FnTreeAll.j0 k t786 t787 t788 t791 t792 true)))) = some r := H; have A5 := Az A50; clear A50; have HC6 := Az H; clear H
  go_enter Try.func5, Try.ntmps5
  go_upto_region 6 with (first | ((with_reducible refine gate_callee (f := 29) rfl ?_); refine goesL_ (some 21) rfl rfl Try.func29 (by kernel_rfl) rfl #[.slice A0 l0.length c0] rfl (by (try simp only [List.map_toArray, List.map_cons, List.map_nil]); first | done | rfl | (simp only [List.length_drop, List.length_take]; rfl)) ?_; (with_reducible refine (spec_DrawTreeAll.calls k _ _ l0 t786 _ ?side1 ?side2 A3.out).mono ?_); (case side1 => exact cU (HR0.out)); (case side2 => exact HC0.out); rintro e w7 ⟨rfl, hb⟩; refine ⟨_, rfl, ?_⟩; have n0 := Az (below_step (bU0 HB.out) hb); clear HB; have HB := n0; clear n0; (try clear hb); (try clear hb2); (try clear hk); (try clear hi)) | ((with_reducible refine gate_callee (f := 30) rfl ?_); refine goesL_ (some 24) rfl rfl Try.func30 (by kernel_rfl) rfl #[.int .i64 t786] rfl (by (try simp only [List.map_toArray, List.map_cons, List.map_nil]); first | done | rfl | (simp only [List.length_drop, List.length_take]; rfl)) ?_; (with_reducible refine (impl_TreeAll.calls k t786 t787 t788 _ A4.out).mono ?_); rintro e w8 ⟨v789, rfl, ho0, hb⟩; refine ⟨_, rfl, ?_⟩; have n0 := Az (Kd.S_lower ho0 (below_size (bU0 HB.out))); have n1 := Az (below_step (bU0 HB.out) hb); clear HB; have HO790 := n0; have HB := n1; clear n0 n1; (try clear hb); (try clear hb2); (try clear hk); (try clear hi); (try clear ho0)) | ((with_reducible refine gate_callee (f := 31) rfl ?_); refine goesL_ (some 29) rfl rfl Try.func31 (by kernel_rfl) rfl #[.int .i64 t786] rfl (by (try simp only [List.map_toArray, List.map_cons, List.map_nil]); first | done | rfl | (simp only [List.length_drop, List.length_take]; rfl)) ?_; (with_reducible refine (spec_TreeAll.calls k t786 t791 t792 _ A5.out).mono ?_); rintro e w9 ⟨v793, rfl, ho0, hb⟩; refine ⟨_, rfl, ?_⟩; have n0 := Az (Kd.S_elder' (sU HO790.out) (Kd.S_base ho0) hb); have n1 := Az (Kd.S_lower (Kd.S_new' ho0 (Kd.S_lt (sU HO790.out))) (below_size (bU0 HB.out))); have n2 := Az (below_step (bU0 HB.out) hb); clear HO790 HB; have HO790 := n0; have HO794 := n1; have HB := n2; clear n0 n1 n2; (try clear hb); (try clear hb2); (try clear hk); (try clear hi); (try clear ho0)))
  (try simp only [Act.put, List.setIfInBounds_toArray, List.set_cons_zero, List.set_cons_succ])
  go_cut [44] (fun v44 wc => ∃ (kq : Nat) (x44_5 : Bool), v44 = .bool x44_5 ∧ Aside0 (laws_FnTreeAll.j0 kq t786 t787 t788 t791 t792 x44_5 = some r) ∧ Aside0 (kq ≤ k) ∧ Aside0 (Kd.S k25 25 wc w.heap.size (fun k_ => some k_ ≠ (v793 : Value).ownBlock) v789 t787) ∧ Aside0 (Kd.S k25 25 wc w.heap.size (fun k_ => some k_ ≠ (v789 : Value).ownBlock) v793 t791) ∧ Aside0 (Below w.heap.size w wc))
  case first =>
   have H := HC6.out; clear HC6
   by_cases c10 : (t788 != t792) = true
   ·
    rw [if_pos c10] at H; have c10b0 : (t788 != t792) = true := c10; (try (have c10b1 : decide (t788 = t792) = false := by simpa using c10)); (try (have c10b2 : (t788 == t792) = false := by simpa using c10)); (try (have c10b3 : ¬ (t788 = t792) := by simpa using c10)); clear c10; (first | rw [c10b0] | (simp only [i64_w, i32_w]; rw [c10b0]) | skip); have H' := Az H; clear H
    go_wp2
    go_meet
    case rel => exact ⟨_, (true), rS, H', ⟨by first | omega | exact Nat.le_refl _⟩, ⟨by (with_reducible repeat (first | apply Kd.S_alloc | apply Kd.S_drewN | apply Kd.S_drew)); exact Kd.S_mono HO790.out (fun _ hk => hk.2)⟩, ⟨by (with_reducible repeat (first | apply Kd.S_alloc | apply Kd.S_drewN | apply Kd.S_drew)); exact Kd.S_mono HO794.out (fun _ hk => hk.2)⟩, ⟨bU0 HB.out⟩⟩
   ·
    rw [if_neg c10] at H
    have c10b0 : (t788 != t792) = false := by simpa using c10
    (try (have c10b1 : decide (t788 = t792) = true := by simpa using c10)); (try (have c10b2 : (t788 == t792) = true := by simpa using c10)); clear c10; (first | rw [c10b0] | (simp only [i64_w, i32_w]; rw [c10b0]) | skip); replace H := Option.bind_eq_some_iff.mp H; obtain ⟨t795, A110, H⟩ := H; replace H : (if t795 = true then (laws_FnTreeAll.j0 k t786 t787 t788 t791 t792 (!t788)) else (laws_FnTreeAll.j0 k t786 t787 t788 t791 t792 true)) = some r := H; have A11 := Az A110; clear A110
    by_cases c12 : t795 = true
    ·
     subst c12
     have H1 : (laws_FnTreeAll.j0 k t786 t787 t788 t791 t792 (!t788)) = some r := by rw [if_pos rfl] at H; exact H
     clear H; have H := H1; clear H1; have H' := Az H; clear H; obtain ⟨Ao13, co13, eo13⟩ := Kd.S_slice HO790.out; subst eo13; obtain ⟨Ao14, co14, eo14⟩ := Kd.S_slice HO794.out; subst eo14
     go_wp2_with (first | (go_at_call 32; (with_reducible refine (laws_sameTrees.calls k _ _ t787 _ _ t791 true _ ?side1 ?side2 ?side3 ?side4 A11.out).mono ?_); (case side1 => exact cU ((Kd.S_reads' HO790.out).2.2)); (case side2 => exact (Kd.S_reads' HO790.out).2.1); (case side3 => exact cU ((Kd.S_reads' HO794.out).2.2)); (case side4 => exact (Kd.S_reads' HO794.out).2.1); rintro e w15 ⟨rfl, hb⟩; have n0 := Az (Kd.S_below (sU HO790.out) hb); have n1 := Az (Kd.S_below (sU HO794.out) hb); have n2 := Az (below_step (bU0 HB.out) hb); clear HO790 HO794 HB; have HO790 := n0; have HO794 := n1; have HB := n2; clear n0 n1 n2; (try clear hb); (try clear hb2); (try clear hk); (try clear hi)))
     go_meet
     case rel => exact ⟨_, (!t788), rS, H', ⟨by first | omega | exact Nat.le_refl _⟩, ⟨by (with_reducible repeat (first | apply Kd.S_alloc | apply Kd.S_drewN | apply Kd.S_drew)); exact Kd.S_mono HO790.out (fun _ hk => hk.2)⟩, ⟨by (with_reducible repeat (first | apply Kd.S_alloc | apply Kd.S_drewN | apply Kd.S_drew)); exact Kd.S_mono HO794.out (fun _ hk => hk.2)⟩, ⟨bU0 HB.out⟩⟩
    ·
     replace c12 := Bool.eq_false_iff.mpr c12; subst c12
     have H1 : (laws_FnTreeAll.j0 k t786 t787 t788 t791 t792 true) = some r := by rw [if_neg (show ¬ (false = true) by decide)] at H; exact H
     clear H; have H := H1; clear H1; have H' := Az H; clear H; obtain ⟨Ao16, co16, eo16⟩ := Kd.S_slice HO790.out; subst eo16; obtain ⟨Ao17, co17, eo17⟩ := Kd.S_slice HO794.out; subst eo17
     go_wp2_with (first | (go_at_call 32; (with_reducible refine (laws_sameTrees.calls k _ _ t787 _ _ t791 false _ ?side1 ?side2 ?side3 ?side4 A11.out).mono ?_); (case side1 => exact cU ((Kd.S_reads' HO790.out).2.2)); (case side2 => exact (Kd.S_reads' HO790.out).2.1); (case side3 => exact cU ((Kd.S_reads' HO794.out).2.2)); (case side4 => exact (Kd.S_reads' HO794.out).2.1); rintro e w18 ⟨rfl, hb⟩; have n0 := Az (Kd.S_below (sU HO790.out) hb); have n1 := Az (Kd.S_below (sU HO794.out) hb); have n2 := Az (below_step (bU0 HB.out) hb); clear HO790 HO794 HB; have HO790 := n0; have HO794 := n1; have HB := n2; clear n0 n1 n2; (try clear hb); (try clear hb2); (try clear hk); (try clear hi)))
     go_meet
     case rel => exact ⟨_, (true), rS, H', ⟨by first | omega | exact Nat.le_refl _⟩, ⟨by (with_reducible repeat (first | apply Kd.S_alloc | apply Kd.S_drewN | apply Kd.S_drew)); exact Kd.S_mono HO790.out (fun _ hk => hk.2)⟩, ⟨by (with_reducible repeat (first | apply Kd.S_alloc | apply Kd.S_drewN | apply Kd.S_drew)); exact Kd.S_mono HO794.out (fun _ hk => hk.2)⟩, ⟨bU0 HB.out⟩⟩
  case rest =>
   clear HC6; (try clear c1); (try clear c2); (try clear c2b0); (try clear c2b1); (try clear p2); (try clear c3); (try clear c5); (try clear c10); (try clear c10b0); (try clear c10b1); (try clear c10b2); (try clear c12); obtain ⟨kq, x44_5, rfl, HA, HJ5, HO_4, HO_6, HB⟩ := hcut
   cases kq with
   | zero => exact absurd HA.out (by simp [laws_FnTreeAll.j0])
   | succ kj5 =>
    have H := HA.out; clear HA; simp only [laws_FnTreeAll.j0] at H
    by_cases c19 : x44_5 = true
    ·
     subst c19
     have H1 : (if (t788 == t792) = true then ((laws_sameTrees.f kj5 t787 t791).bind fun t796 => (some t796)) else (some false)) = some r := by rw [if_pos rfl] at H; exact H
     clear H; have H := H1; clear H1
     by_cases c20 : (t788 == t792) = true
     ·
      rw [if_pos c20] at H; have c20b0 : (t788 == t792) = true := c20; (try (have c20b1 : decide (t788 = t792) = true := by simpa using c20)); (try (have c20b2 : (t788 == t792) = true := by simpa using c20)); clear c20; replace H := Option.bind_eq_some_iff.mp H; obtain ⟨t796, A210, H⟩ := H; replace H : (some t796) = some r := H; have A21 := Az A210; clear A210; obtain rfl := Option.some.inj H; obtain ⟨Ao22, co22, eo22⟩ := Kd.S_slice HO_4.out; subst eo22; obtain ⟨Ao23, co23, eo23⟩ := Kd.S_slice HO_6.out; subst eo23
      go_wp2_with (first | (go_at_call 32; (with_reducible refine (laws_sameTrees.calls kj5 _ _ t787 _ _ t791 t796 _ ?side1 ?side2 ?side3 ?side4 A21.out).mono ?_); (case side1 => exact cU ((Kd.S_reads' HO_4.out).2.2)); (case side2 => exact (Kd.S_reads' HO_4.out).2.1); (case side3 => exact cU ((Kd.S_reads' HO_6.out).2.2)); (case side4 => exact (Kd.S_reads' HO_6.out).2.1); rintro e w24 ⟨rfl, hb⟩; have n0 := Az (Kd.S_below (sU HO_4.out) hb); have n1 := Az (Kd.S_below (sU HO_6.out) hb); have n2 := Az (below_step (bU0 HB.out) hb); clear HO_4 HO_6 HB; have HO_4 := n0; have HO_6 := n1; have HB := n2; clear n0 n1 n2; (try clear hb); (try clear hb2); (try clear hk); (try clear hi)))
      go_ret
      exact ⟨rE, bU0 HB.out⟩
     ·
      rw [if_neg c20] at H
      have c20b0 : (t788 == t792) = false := by simpa using c20
      (try (have c20b1 : decide (t788 = t792) = false := by simpa using c20)); (try (have c20b2 : (t788 == t792) = false := by simpa using c20)); (try (have c20b3 : ¬ (t788 = t792) := by simpa using c20)); clear c20; obtain rfl := Option.some.inj H
      go_wp2
      go_ret
      exact ⟨rE, bU0 HB.out⟩
    ·
     replace c19 := Bool.eq_false_iff.mpr c19; subst c19
     have H1 : (laws_FnTreeAll.l0 kj5 t786 t787 (([] : List (S29))) 0) = some r := by rw [if_neg (show ¬ (false = true) by decide)] at H; exact H
     clear H; have H := H1; clear H1; obtain ⟨y797, hy797⟩ : ∃ y_ : List (S29), y_ = (([] : List (S29))) := ⟨_, rfl⟩; replace H : (laws_FnTreeAll.l0 kj5 t786 t787 y797 0) = some r := hR hy797 H; have Ny797 := Az hy797; clear hy797; have H' := Az H; clear H
     go_wp2_with (first | ((with_reducible refine gate_dst (N := 53) rfl ?_); (try (refine gate_guard (by rfl) ?_; dsimp only)); refine Kd.S_lit k29 _ 29 ?hg (N := 53) ?hd (xs := ([] : List (S29))) (inner := []) (ok := fun _ => True) (okp := fun _ => True) ?hr ?hp (fun _ hk => hk) trivial (Below.refl _ _) (Nat.le_refl _) (by simp) ?_; (case hd => rfl); (case hg => rfl); (case hr => first | (go_simp; done) | (go_simp; rfl)); (case hp => exact (Reps.none _ _)); intro v798 w25 ho26 hb hg_ hnew_; clear hg_ hnew_; (first | rw [← Ny797.out] at ho26 | (simp only [Int.reduceToNat] at ho26; rw [← Ny797.out] at ho26)); have n0 := Az (Kd.S_below (sU HO_4.out) hb); have n1 := Az (Kd.S_below (sU HO_6.out) hb); have n2 := Az (Kd.S_lower ho26 (below_size (bU0 HB.out))); have n3 := Az (below_step (bU0 HB.out) hb); clear HO_4 HO_6 HB; have HO_4 := n0; have HO_6 := n1; have HO799 := n2; have HB := n3; clear n0 n1 n2 n3; clear hb ho26))
     go_loopg [8, 9] kj5 (fun kq v8 v9 w' => ∃ (x8_2 : List (S29)) (x9_2 : Int), v9 = .int .i64 x9_2 ∧ Aside0 (laws_FnTreeAll.l0 kq t786 t787 x8_2 x9_2 = some r) ∧ Aside0 (kq ≤ kj5) ∧ Aside0 (Kd.S k25 25 w' w.heap.size (fun _ => True) v789 t787) ∧ Aside0 (Kd.S k29 29 w' w.heap.size (fun _ => True) v8 x8_2) ∧ Aside0 (Below w.heap.size w w'))
     case atStart => exact ⟨(y797), (0), rS, H', ⟨Nat.le_refl _⟩, ⟨by (with_reducible repeat (first | apply Kd.S_alloc | apply Kd.S_drewN | apply Kd.S_drew)); exact Kd.S_mono HO_4.out (fun _ hk => trivial)⟩, ⟨sU HO799.out⟩, ⟨bU0 HB.out⟩⟩
     case round =>
      clear H'; (try clear c1); (try clear c2); (try clear c2b0); (try clear c2b1); (try clear p2); (try clear c3); (try clear c5); (try clear c10); (try clear c10b0); (try clear c10b1); (try clear c10b2); (try clear c12); (try clear c19); (try clear c20); (try clear c20b0); (try clear c20b1); (try clear c20b2); (try clear p2); obtain ⟨x8_2, x9_2, rfl, HA, HK2, HO_4, HO_8, HB⟩ := hrel
      cases gk with
      | zero => exact absurd HA.out (by simp [laws_FnTreeAll.l0])
      | succ k2 =>
       have H := HA.out; clear HA; simp only [laws_FnTreeAll.l0] at H
       by_cases c27 : x9_2 < (t787.length : Int)
       ·
        rw [if_pos c27] at H; have c27b0 := decide_eq_true c27; clear c27
        by_cases c28 : 0 ≤ x9_2
        ·
         rw [if_pos c28] at H; have c28b0 := decide_eq_true c28; clear c28; replace H := Option.bind_eq_some_iff.mp H; obtain ⟨⟨t803, t806, t809, t810⟩, A290, H⟩ := H; replace H : ((impl_MapForm.f k2 t803 t806 0).bind fun bt812 => (laws_FnTreeAll.l1 k2 t786 t787 x8_2 x9_2 t810 bt812.2.2 true 0 bt812.1 bt812.2.1)) = some r := H; have A29 := Az A290; clear A290; replace H := Option.bind_eq_some_iff.mp H; obtain ⟨⟨t812, t815, t818⟩, A300, H⟩ := H; replace H : (laws_FnTreeAll.l1 k2 t786 t787 x8_2 x9_2 t810 t818 true 0 t812 t815) = some r := H; have A30 := Az A300; clear A300; have H' := Az H; clear H; obtain ⟨Ao31, co31, eo31⟩ := Kd.S_slice HO_4.out; subst eo31; have p802 : 0 ≤ (x9_2 : Int) := oA; have q802 : x9_2 < (t787.length : Int) := oA; obtain ⟨ad802, A802_1, c802_1, e802, hx802_0, hx802_1, hl802_1, hi802_1⟩ := at_T25 (Kd.S_reads' HO_4.out).2.2 x9_2 p802 q802
         cases e802
         obtain ⟨ce802, hce802, hMe802, hcc802⟩ := Kd.S_get HO_4.out z25 x9_2 p802 (by first | exact q802 | exact oA | (have e_ := (Kd.S_reads' HO_4.out).1; omega)); obtain ⟨ve802_1, rfl, ge802_1⟩ := k25_openM hMe802; have hv802_1 := hcc802 1 _ rfl; rw [add_field _ _ 1 (by omega)] at hv802_1; replace hv802_1 := Option.some.inj (hv802_1.symm.trans hx802_1); rw [hv802_1] at ge802_1; have HL802_1 := Az (show Kd.R (Kd.int .i64) 3 _ _ _ _ ((rd_T25 t787 x9_2).f1) from ge802_1); clear hv802_1 ge802_1 hcc802 hce802; have HR802_1 := Az hi802_1; have HC802_1 := Az hl802_1; clear hi802_1 hl802_1; replace p802 := eq_true p802; replace q802 := eq_true q802
         go_wp2_with (first | ((with_reducible refine gate_callee (f := 23) rfl ?_); refine goesL_ (some 65) rfl rfl Try.func23 (by kernel_rfl) rfl #[.agg #[.string ((rd_T25 t787 x9_2).f0), .slice A802_1 ((rd_T25 t787 x9_2).f1).length c802_1]] rfl (by (try simp only [List.map_toArray, List.map_cons, List.map_nil]); first | done | rfl | (simp only [List.length_drop, List.length_take]; rfl)) ?_; (with_reducible refine (impl_TreeQuad.calls k2 ((rd_T25 t787 x9_2).f0) _ _ ((rd_T25 t787 x9_2).f1) t803 t806 t809 t810 _ ?side1 ?side2 A29.out).mono ?_); (case side1 => exact cU (by repeat (first | (with_reducible exact HR802_1.out) | (with_reducible refine Kd.C_alloc ?_ _) | (with_reducible refine Kd.C_drewN ?_ _) | (with_reducible refine Kd.C_drew ?_) | exact HR802_1.out))); (case side2 => exact HC802_1.out); rintro e w32 ⟨v804, v807, rfl, ho0, ho1, hb⟩; refine ⟨_, rfl, ?_⟩; have n0 := Az (Kd.S_mono (Kd.S_told (Kd.S_told (Kd.S_old (sU HO_4.out) hb) (Kd.R_base ho0)) (Kd.R_base ho1)) (fun _ h_ => h_.1)); have n1 := Az (Kd.S_mono (Kd.S_told (Kd.S_told (Kd.S_old (sU HO_8.out) hb) (Kd.R_base ho0)) (Kd.R_base ho1)) (fun _ h_ => h_.1)); have n2 := Az (Kd.R_mono (Kd.R_told (Kd.R_told (Kd.R_old (rU HL802_1.out) hb) (Kd.R_base ho0)) (Kd.R_base ho1)) (fun _ h_ => h_.1)); have n3 := Az (Kd.R_lower (Kd.R_new' ho0 (Kd.R_lt (rU HL802_1.out))) (below_size (bU0 HB.out))); have n4 := Az (Kd.R_lower (Kd.R_new' ho1 (Kd.R_lt (rU HL802_1.out))) (below_size (bU0 HB.out))); have n5 := Az (Kd.C_below (by repeat (first | (with_reducible exact HR802_1.out) | (with_reducible refine Kd.C_alloc ?_ _) | (with_reducible refine Kd.C_drewN ?_ _) | (with_reducible refine Kd.C_drew ?_) | exact HR802_1.out)) hb); have n6 := Az (below_step (bU0 HB.out) hb); clear HO_4 HO_8 HL802_1 HR802_1 HB; have HO_4 := n0; have HO_8 := n1; have HL802_1 := n2; have HO805 := n3; have HO808 := n4; have HR802_1 := n5; have HB := n6; clear n0 n1 n2 n3 n4 n5 n6; (try clear hb); (try clear hb2); (try clear hk); (try clear hi); (try clear ho0); (try clear ho1)) | ((with_reducible refine gate_dst (N := 10) rfl ?_); (try (refine gate_guard (by rfl) ?_; dsimp only)); refine box_event ?hg (N := 10) ?hd (cs := #[.slice none 0 0, .slice none 0 0]) (t := 29) ?hr ?_; (case hd => rfl); (case hg => rfl); (case hr => first | (go_simp; done) | (go_simp; rfl)); intro gb811 hg w33 hbox hb; have n0 := Az (Kd.S_below (sU HO_4.out) hb); have n1 := Az (Kd.S_below (Kd.S_elderB (sU HO_8.out) gb811 (Nat.le_of_eq hg.symm)) hb); have n2 := Az (Kd.R_below (rU HL802_1.out) hb); have n3 := Az (Kd.R_below (rU HO805.out) hb); have n4 := Az (Kd.R_below (rU HO808.out) hb); have n5 := Az (Kd.C_below (by repeat (first | (with_reducible exact HR802_1.out) | (with_reducible refine Kd.C_alloc ?_ _) | (with_reducible refine Kd.C_drewN ?_ _) | (with_reducible refine Kd.C_drew ?_) | exact HR802_1.out)) hb); have n6 := Az (below_step (bU0 HB.out) hb); have n7 := Az (hbox); have n8 := Az ((by rw [hg]; exact (below_size (bU0 HB.out)) : w.heap.size ≤ gb811)); have n9 := n8; clear HO_4 HO_8 HL802_1 HO805 HO808 HR802_1 HB; have HO_4 := n0; have HO_8 := n1; have HL802_1 := n2; have HO805 := n3; have HO808 := n4; have HR802_1 := n5; have HB := n6; have BK811 := n7; have GW811 := n8; have GE811 := n9; clear n0 n1 n2 n3 n4 n5 n6 n7 n8 n9 hb hbox hg; obtain ⟨Ao34, co34, eo34⟩ := Kd.R_slice HO805.out; subst eo34; have hcz35_0 : w33.cell? ⟨gb811, 0, none⟩ = some (.slice none 0 0) := (blk_cell BK811.out 0).trans rfl; have hcz35_1 : w33.cell? ⟨gb811, 1, none⟩ = some (.slice none 0 0) := (blk_cell BK811.out 1).trans rfl; have hfz35_0 := blk_frozen BK811.out 0; have hfz35_1 := blk_frozen BK811.out 1; obtain ⟨Ao36, co36, eo36⟩ := Kd.R_slice HO808.out; subst eo36) | ((with_reducible refine gate_callee (f := 33) rfl ?_); refine goesL_ (some 71) rfl rfl Try.func33 (by kernel_rfl) rfl #[.agg #[.slice Ao34 t803.length co34, .slice Ao36 t806.length co36], .int .i64 0] rfl (by (try simp only [List.map_toArray, List.map_cons, List.map_nil]); first | done | rfl | (simp only [List.length_drop, List.length_take]; rfl)) ?_; (with_reducible refine (impl_MapForm.calls k2 _ _ t803 _ _ t806 0 t812 t815 t818 _ ?side1 ?side2 ?side3 ?side4 A30.out).mono ?_); (case side1 => refine (Kd.R_reads' (e := 3) (base := w.heap.size) (ok := fun k_ => (some k_ ≠ (.slice Ao36 t806.length co36 : Value).ownBlock ∧ some k_ ≠ (.slice A802_1 ((rd_T25 t787 x9_2).f1).length c802_1 : Value).ownBlock)) (n := t803.length) (c := co34) ?_).2.2; exact (by (with_reducible repeat (first | apply Kd.R_alloc | apply Kd.R_drewN | apply Kd.R_drew)); exact (Kd.R_mono (Kd.R_far (p := ⟨gb811, 1, none⟩) (Kd.R_far (p := ⟨gb811, 0, none⟩) (Kd.R_types HO805.out BK811.out (by decide)) (fun _ hk => hk.2) (.slice Ao34 t803.length co34)) (fun _ hk => hk.2) (.slice Ao36 t806.length co36)) (fun _ h_ => h_.1)))); (case side2 => exact (Kd.R_reads' HO805.out).2.1); (case side3 => refine (Kd.R_reads' (e := 3) (base := w.heap.size) (ok := fun k_ => (some k_ ≠ (.slice Ao34 t803.length co34 : Value).ownBlock ∧ some k_ ≠ (.slice A802_1 ((rd_T25 t787 x9_2).f1).length c802_1 : Value).ownBlock)) (n := t806.length) (c := co36) ?_).2.2; exact (by (with_reducible repeat (first | apply Kd.R_alloc | apply Kd.R_drewN | apply Kd.R_drew)); exact (Kd.R_mono (Kd.R_far (p := ⟨gb811, 1, none⟩) (Kd.R_far (p := ⟨gb811, 0, none⟩) (Kd.R_types HO808.out BK811.out (by decide)) (fun _ hk => hk.2) (.slice Ao34 t803.length co34)) (fun _ hk => hk.2) (.slice Ao36 t806.length co36)) (fun _ h_ => h_.1)))); (case side4 => exact (Kd.R_reads' HO808.out).2.1); rintro e w37 ⟨v813, v816, rfl, ho0, ho1, hb⟩; refine ⟨_, rfl, ?_⟩; have n0 := Az (Kd.S_mono (Kd.S_told (Kd.S_told (Kd.S_old (by (with_reducible repeat (first | apply Kd.S_alloc | apply Kd.S_drewN | apply Kd.S_drew)); exact (Kd.S_mono (Kd.S_far (p := ⟨gb811, 1, none⟩) (Kd.S_far (p := ⟨gb811, 0, none⟩) (Kd.S_types HO_4.out BK811.out (by decide)) (fun _ hk => hk.2) (.slice Ao34 t803.length co34)) (fun _ hk => hk.2) (.slice Ao36 t806.length co36)) (fun _ h_ => h_.1))) hb) (Kd.R_base ho0)) (Kd.R_base ho1)) (fun _ h_ => h_.1)); have n1 := Az (Kd.S_mono (Kd.S_told (Kd.S_told (Kd.S_old (by (with_reducible repeat (first | apply Kd.S_alloc | apply Kd.S_drewN | apply Kd.S_drew)); exact (Kd.S_mono (Kd.S_far (p := ⟨gb811, 1, none⟩) (Kd.S_far (p := ⟨gb811, 0, none⟩) (Kd.S_mono HO_8.out (fun k_ hk => (⟨hk, hk.2⟩ : _ ∧ k_ ≠ gb811))) (fun _ hk => hk.2) (.slice Ao34 t803.length co34)) (fun _ hk => hk.2) (.slice Ao36 t806.length co36)) (fun _ h_ => h_.1))) hb) (Kd.R_base ho0)) (Kd.R_base ho1)) (fun _ h_ => h_.1)); have n2 := Az (Kd.R_mono (Kd.R_told (Kd.R_told (Kd.R_old (by (with_reducible repeat (first | apply Kd.R_alloc | apply Kd.R_drewN | apply Kd.R_drew)); exact (Kd.R_mono (Kd.R_far (p := ⟨gb811, 1, none⟩) (Kd.R_far (p := ⟨gb811, 0, none⟩) (Kd.R_types HL802_1.out BK811.out (by decide)) (fun _ hk => hk.2) (.slice Ao34 t803.length co34)) (fun _ hk => hk.2) (.slice Ao36 t806.length co36)) (fun _ h_ => h_.1))) hb) (Kd.R_base ho0)) (Kd.R_base ho1)) (fun _ h_ => h_.1)); have n3 := Az (Kd.R_mono (Kd.R_told (Kd.R_told (Kd.R_old (by (with_reducible repeat (first | apply Kd.R_alloc | apply Kd.R_drewN | apply Kd.R_drew)); exact (Kd.R_mono (Kd.R_far (p := ⟨gb811, 1, none⟩) (Kd.R_far (p := ⟨gb811, 0, none⟩) (Kd.R_types HO805.out BK811.out (by decide)) (fun _ hk => hk.2) (.slice Ao34 t803.length co34)) (fun _ hk => hk.2) (.slice Ao36 t806.length co36)) (fun _ h_ => h_.1))) hb) (Kd.R_base ho0)) (Kd.R_base ho1)) (fun _ h_ => h_.1)); have n4 := Az (Kd.R_mono (Kd.R_told (Kd.R_told (Kd.R_old (by (with_reducible repeat (first | apply Kd.R_alloc | apply Kd.R_drewN | apply Kd.R_drew)); exact (Kd.R_mono (Kd.R_far (p := ⟨gb811, 1, none⟩) (Kd.R_far (p := ⟨gb811, 0, none⟩) (Kd.R_types HO808.out BK811.out (by decide)) (fun _ hk => hk.2) (.slice Ao34 t803.length co34)) (fun _ hk => hk.2) (.slice Ao36 t806.length co36)) (fun _ h_ => h_.1))) hb) (Kd.R_base ho0)) (Kd.R_base ho1)) (fun _ h_ => h_.1)); have n5 := Az (Kd.R_lower (Kd.R_new' (Kd.R_new' (Kd.R_new' ho0 (Kd.R_lt (by (with_reducible repeat (first | apply Kd.R_alloc | apply Kd.R_drewN | apply Kd.R_drew)); exact (Kd.R_mono (Kd.R_far (p := ⟨gb811, 1, none⟩) (Kd.R_far (p := ⟨gb811, 0, none⟩) (Kd.R_types HL802_1.out BK811.out (by decide)) (fun _ hk => hk.2) (.slice Ao34 t803.length co34)) (fun _ hk => hk.2) (.slice Ao36 t806.length co36)) (fun _ h_ => h_.1))))) (Kd.R_lt (by (with_reducible repeat (first | apply Kd.R_alloc | apply Kd.R_drewN | apply Kd.R_drew)); exact (Kd.R_mono (Kd.R_far (p := ⟨gb811, 1, none⟩) (Kd.R_far (p := ⟨gb811, 0, none⟩) (Kd.R_types HO805.out BK811.out (by decide)) (fun _ hk => hk.2) (.slice Ao34 t803.length co34)) (fun _ hk => hk.2) (.slice Ao36 t806.length co36)) (fun _ h_ => h_.1))))) (Kd.R_lt (by (with_reducible repeat (first | apply Kd.R_alloc | apply Kd.R_drewN | apply Kd.R_drew)); exact (Kd.R_mono (Kd.R_far (p := ⟨gb811, 1, none⟩) (Kd.R_far (p := ⟨gb811, 0, none⟩) (Kd.R_types HO808.out BK811.out (by decide)) (fun _ hk => hk.2) (.slice Ao34 t803.length co34)) (fun _ hk => hk.2) (.slice Ao36 t806.length co36)) (fun _ h_ => h_.1))))) (below_size (bU1 HB.out GE811.out))); have n6 := Az (Kd.R_lower (Kd.R_new' (Kd.R_new' (Kd.R_new' ho1 (Kd.R_lt (by (with_reducible repeat (first | apply Kd.R_alloc | apply Kd.R_drewN | apply Kd.R_drew)); exact (Kd.R_mono (Kd.R_far (p := ⟨gb811, 1, none⟩) (Kd.R_far (p := ⟨gb811, 0, none⟩) (Kd.R_types HL802_1.out BK811.out (by decide)) (fun _ hk => hk.2) (.slice Ao34 t803.length co34)) (fun _ hk => hk.2) (.slice Ao36 t806.length co36)) (fun _ h_ => h_.1))))) (Kd.R_lt (by (with_reducible repeat (first | apply Kd.R_alloc | apply Kd.R_drewN | apply Kd.R_drew)); exact (Kd.R_mono (Kd.R_far (p := ⟨gb811, 1, none⟩) (Kd.R_far (p := ⟨gb811, 0, none⟩) (Kd.R_types HO805.out BK811.out (by decide)) (fun _ hk => hk.2) (.slice Ao34 t803.length co34)) (fun _ hk => hk.2) (.slice Ao36 t806.length co36)) (fun _ h_ => h_.1))))) (Kd.R_lt (by (with_reducible repeat (first | apply Kd.R_alloc | apply Kd.R_drewN | apply Kd.R_drew)); exact (Kd.R_mono (Kd.R_far (p := ⟨gb811, 1, none⟩) (Kd.R_far (p := ⟨gb811, 0, none⟩) (Kd.R_types HO808.out BK811.out (by decide)) (fun _ hk => hk.2) (.slice Ao34 t803.length co34)) (fun _ hk => hk.2) (.slice Ao36 t806.length co36)) (fun _ h_ => h_.1))))) (below_size (bU1 HB.out GE811.out))); have n7 := Az (Kd.C_below ((Kd.R_reads' (by (with_reducible repeat (first | apply Kd.R_alloc | apply Kd.R_drewN | apply Kd.R_drew)); exact (Kd.R_mono (Kd.R_far (p := ⟨gb811, 1, none⟩) (Kd.R_far (p := ⟨gb811, 0, none⟩) (Kd.R_types HL802_1.out BK811.out (by decide)) (fun _ hk => hk.2) (.slice Ao34 t803.length co34)) (fun _ hk => hk.2) (.slice Ao36 t806.length co36)) (fun _ h_ => h_.1)))).2.2) hb); have n8 := Az (blk_below (g := gb811) (o := .cells #[.slice Ao34 t803.length co34, .slice Ao36 t806.length co36] 29 (0, 0)) (by (with_reducible repeat (first | refine blk_drewN ?_ _ | refine blk_drew ?_ | refine blk_alloc ?_ _)); refine blk_put (cs := #[.slice Ao34 t803.length co34, .slice none 0 0]) ?_ 1 _ rfl; (with_reducible repeat (first | refine blk_drewN ?_ _ | refine blk_drew ?_ | refine blk_alloc ?_ _)); refine blk_put (cs := #[.slice none 0 0, .slice none 0 0]) ?_ 0 _ rfl; (with_reducible repeat (first | refine blk_drewN ?_ _ | refine blk_drew ?_ | refine blk_alloc ?_ _)); exact BK811.out) hb); have n9 := Az (below_step (bU1 HB.out GE811.out) hb); clear HO_4 HO_8 HL802_1 HO805 HO808 HR802_1 BK811 HB; have HO_4 := n0; have HO_8 := n1; have HL802_1 := n2; have HO805 := n3; have HO808 := n4; have HO814 := n5; have HO817 := n6; have HR802_1 := n7; have BK811 := n8; have HB := n9; clear n0 n1 n2 n3 n4 n5 n6 n7 n8 n9; (try clear hb); (try clear hb2); (try clear hk); (try clear hi); (try clear ho0); (try clear ho1)) | ((with_reducible refine gate_dst (N := 13) rfl ?_); (try (refine gate_guard (by rfl) ?_; dsimp only)); refine box_event ?hg (N := 13) ?hd (cs := #[.slice none 0 0, .slice none 0 0]) (t := 29) ?hr ?_; (case hd => rfl); (case hg => rfl); (case hr => first | (go_simp; done) | (go_simp; rfl)); intro gb819 hg w38 hbox hb; have n0 := Az (Kd.S_below (sU HO_4.out) hb); have n1 := Az (Kd.S_below (Kd.S_elderB (sU HO_8.out) gb819 (Nat.le_of_eq hg.symm)) hb); have n2 := Az (Kd.R_below (rU HL802_1.out) hb); have n3 := Az (Kd.R_below (rU HO805.out) hb); have n4 := Az (Kd.R_below (rU HO808.out) hb); have n5 := Az (Kd.R_below (rU HO814.out) hb); have n6 := Az (Kd.R_below (rU HO817.out) hb); have n7 := Az (Kd.C_below (by repeat (first | (with_reducible exact HR802_1.out) | (with_reducible refine Kd.C_alloc ?_ _) | (with_reducible refine Kd.C_drewN ?_ _) | (with_reducible refine Kd.C_drew ?_) | exact HR802_1.out)) hb); have n8 := Az (blk_below (g := gb811) (o := .cells #[.slice Ao34 t803.length co34, .slice Ao36 t806.length co36] 29 (0, 0)) (kU BK811.out) hb); have n9 := Az (below_step (bU1 HB.out GE811.out) hb); have n10 := Az (hbox); have n11 := Az ((by rw [hg]; exact (below_size (bU1 HB.out GE811.out)) : w.heap.size ≤ gb819)); have n12 := n11; have n13 := Az ((by rw [hg]; exact Nat.ne_of_lt (blk_lt (g := gb811) (o := .cells #[.slice Ao34 t803.length co34, .slice Ao36 t806.length co36] 29 (0, 0)) (kU BK811.out)) : gb811 ≠ gb819)); have n14 := Az ((by rw [hg]; exact Nat.ne_of_gt (blk_lt (g := gb811) (o := .cells #[.slice Ao34 t803.length co34, .slice Ao36 t806.length co36] 29 (0, 0)) (kU BK811.out)) : gb819 ≠ gb811)); clear HO_4 HO_8 HL802_1 HO805 HO808 HO814 HO817 HR802_1 BK811 HB; have HO_4 := n0; have HO_8 := n1; have HL802_1 := n2; have HO805 := n3; have HO808 := n4; have HO814 := n5; have HO817 := n6; have HR802_1 := n7; have BK811 := n8; have HB := n9; have BK819 := n10; have GW819 := n11; have GE819 := n12; have NB811_819 := n13; have NB819_811 := n14; clear n0 n1 n2 n3 n4 n5 n6 n7 n8 n9 n10 n11 n12 n13 n14 hb hbox hg; obtain ⟨Ao39, co39, eo39⟩ := Kd.R_slice HO814.out; subst eo39; have hnb40 := NB819_811.out; have hnc40 := NB811_819.out; have hcz41_0 : w38.cell? ⟨gb819, 0, none⟩ = some (.slice none 0 0) := (blk_cell BK819.out 0).trans rfl; have hcz41_1 : w38.cell? ⟨gb819, 1, none⟩ = some (.slice none 0 0) := (blk_cell BK819.out 1).trans rfl; have hfz41_0 := blk_frozen BK819.out 0; have hfz41_1 := blk_frozen BK819.out 1; obtain ⟨Ao42, co42, eo42⟩ := Kd.R_slice HO817.out; subst eo42))
         go_loopg [15, 16] k2 (fun kq v15 v16 w' => ∃ (x15_3 : Bool) (x16_3 : Int), v15 = .bool x15_3 ∧ v16 = .int .i64 x16_3 ∧ Aside0 (laws_FnTreeAll.l1 kq t786 t787 x8_2 x9_2 t810 t818 x15_3 x16_3 t812 t815 = some r) ∧ Aside0 (kq ≤ k2) ∧ Aside0 (Kd.S k25 25 w' w.heap.size (fun k_ => some k_ ≠ ((.slice Ao34 t803.length co34) : Value).ownBlock ∧ some k_ ≠ ((.slice Ao36 t806.length co36) : Value).ownBlock ∧ some k_ ≠ ((.slice Ao39 t812.length co39) : Value).ownBlock ∧ some k_ ≠ ((.slice Ao42 t815.length co42) : Value).ownBlock) (.slice (some ad802) t787.length co31) t787) ∧ Aside0 (Kd.S k29 29 w' w.heap.size (fun k_ => some k_ ≠ ((.slice Ao34 t803.length co34) : Value).ownBlock ∧ some k_ ≠ ((.slice Ao36 t806.length co36) : Value).ownBlock ∧ some k_ ≠ ((.slice Ao39 t812.length co39) : Value).ownBlock ∧ some k_ ≠ ((.slice Ao42 t815.length co42) : Value).ownBlock ∧ k_ ≠ gb811 ∧ k_ ≠ gb819) u8 x8_2) ∧ Aside0 (Kd.R (Kd.int .i64) 3 w' w.heap.size (fun k_ => some k_ ≠ ((.slice Ao36 t806.length co36) : Value).ownBlock ∧ some k_ ≠ ((.slice Ao39 t812.length co39) : Value).ownBlock ∧ some k_ ≠ ((.slice Ao42 t815.length co42) : Value).ownBlock) (.slice Ao34 t803.length co34) t803) ∧ Aside0 (Kd.R (Kd.int .i64) 3 w' w.heap.size (fun k_ => some k_ ≠ ((.slice Ao34 t803.length co34) : Value).ownBlock ∧ some k_ ≠ ((.slice Ao39 t812.length co39) : Value).ownBlock ∧ some k_ ≠ ((.slice Ao42 t815.length co42) : Value).ownBlock) (.slice Ao36 t806.length co36) t806) ∧ Aside0 (Kd.R (Kd.int .i64) 3 w' w.heap.size (fun k_ => some k_ ≠ ((.slice Ao34 t803.length co34) : Value).ownBlock ∧ some k_ ≠ ((.slice Ao36 t806.length co36) : Value).ownBlock ∧ some k_ ≠ ((.slice Ao42 t815.length co42) : Value).ownBlock) (.slice Ao39 t812.length co39) t812) ∧ Aside0 (Kd.R (Kd.int .i64) 3 w' w.heap.size (fun k_ => some k_ ≠ ((.slice Ao34 t803.length co34) : Value).ownBlock ∧ some k_ ≠ ((.slice Ao36 t806.length co36) : Value).ownBlock ∧ some k_ ≠ ((.slice Ao39 t812.length co39) : Value).ownBlock) (.slice Ao42 t815.length co42) t815) ∧ Aside0 (w'.heap[gb811]? = some (.cells #[(.slice Ao34 t803.length co34), (.slice Ao36 t806.length co36)] 29 (0, 0))) ∧ Aside0 (w'.heap[gb819]? = some (.cells #[(.slice Ao39 t812.length co39), (.slice Ao42 t815.length co42)] 29 (0, 0))) ∧ Aside0 (Kd.C (Kd.int .i64) w' A802_1 ((rd_T25 t787 x9_2).f1).length ((rd_T25 t787 x9_2).f1)) ∧ Aside0 (Below w.heap.size w w'))
         case atStart => exact ⟨(true), (0), rS, rS, H', ⟨Nat.le_refl _⟩, ⟨by (with_reducible repeat (first | apply Kd.S_alloc | apply Kd.S_drewN | apply Kd.S_drew)); exact Kd.S_mono (Kd.S_far (p := ⟨gb819, 1, none⟩) (Kd.S_far (p := ⟨gb819, 0, none⟩) (Kd.S_types HO_4.out BK819.out (by decide)) (fun _ hk => hk.2) (.slice Ao39 t812.length co39)) (fun _ hk => hk.2) (.slice Ao42 t815.length co42)) (fun _ hk => ⟨hk.1.1.1.1.2, ⟨hk.1.1.1.2, ⟨hk.1.1.2, hk.1.2⟩⟩⟩)⟩, ⟨by (with_reducible repeat (first | apply Kd.S_alloc | apply Kd.S_drewN | apply Kd.S_drew)); exact Kd.S_mono (Kd.S_far (p := ⟨gb819, 1, none⟩) (Kd.S_far (p := ⟨gb819, 0, none⟩) (Kd.S_mono HO_8.out (fun k_ hk => (⟨hk, hk.2⟩ : _ ∧ k_ ≠ gb819))) (fun _ hk => hk.2) (.slice Ao39 t812.length co39)) (fun _ hk => hk.2) (.slice Ao42 t815.length co42)) (fun _ hk => ⟨hk.1.1.1.1.1.1.2, ⟨hk.1.1.1.1.1.2, ⟨hk.1.1.1.2, ⟨hk.1.1.2, ⟨hk.1.1.1.1.2, hk.1.2⟩⟩⟩⟩⟩)⟩, ⟨by (with_reducible repeat (first | apply Kd.R_alloc | apply Kd.R_drewN | apply Kd.R_drew)); exact Kd.R_mono (Kd.R_far (p := ⟨gb819, 1, none⟩) (Kd.R_far (p := ⟨gb819, 0, none⟩) (Kd.R_types HO805.out BK819.out (by decide)) (fun _ hk => hk.2) (.slice Ao39 t812.length co39)) (fun _ hk => hk.2) (.slice Ao42 t815.length co42)) (fun _ hk => ⟨hk.1.1.1.1, ⟨hk.1.1.2, hk.1.2⟩⟩)⟩, ⟨by (with_reducible repeat (first | apply Kd.R_alloc | apply Kd.R_drewN | apply Kd.R_drew)); exact Kd.R_mono (Kd.R_far (p := ⟨gb819, 1, none⟩) (Kd.R_far (p := ⟨gb819, 0, none⟩) (Kd.R_types HO808.out BK819.out (by decide)) (fun _ hk => hk.2) (.slice Ao39 t812.length co39)) (fun _ hk => hk.2) (.slice Ao42 t815.length co42)) (fun _ hk => ⟨hk.1.1.1.1, ⟨hk.1.1.2, hk.1.2⟩⟩)⟩, ⟨by (with_reducible repeat (first | apply Kd.R_alloc | apply Kd.R_drewN | apply Kd.R_drew)); exact Kd.R_mono (Kd.R_far (p := ⟨gb819, 1, none⟩) (Kd.R_far (p := ⟨gb819, 0, none⟩) (Kd.R_types HO814.out BK819.out (by decide)) (fun _ hk => hk.2) (.slice Ao39 t812.length co39)) (fun _ hk => hk.2) (.slice Ao42 t815.length co42)) (fun _ hk => ⟨hk.1.1.2, ⟨hk.1.2, hk.1.1.1.1⟩⟩)⟩, ⟨by (with_reducible repeat (first | apply Kd.R_alloc | apply Kd.R_drewN | apply Kd.R_drew)); exact Kd.R_mono (Kd.R_far (p := ⟨gb819, 1, none⟩) (Kd.R_far (p := ⟨gb819, 0, none⟩) (Kd.R_types HO817.out BK819.out (by decide)) (fun _ hk => hk.2) (.slice Ao39 t812.length co39)) (fun _ hk => hk.2) (.slice Ao42 t815.length co42)) (fun _ hk => ⟨hk.1.1.2, ⟨hk.1.2, hk.1.1.1.1⟩⟩)⟩, ⟨by (with_reducible repeat (first | refine blk_drewN ?_ _ | refine blk_drew ?_ | refine blk_alloc ?_ _)); refine blk_far ?_ NB811_819.out _; (with_reducible repeat (first | refine blk_drewN ?_ _ | refine blk_drew ?_ | refine blk_alloc ?_ _)); refine blk_far ?_ NB811_819.out _; (with_reducible repeat (first | refine blk_drewN ?_ _ | refine blk_drew ?_ | refine blk_alloc ?_ _)); exact BK811.out⟩, ⟨by (with_reducible repeat (first | refine blk_drewN ?_ _ | refine blk_drew ?_ | refine blk_alloc ?_ _)); refine blk_put (cs := #[.slice Ao39 t812.length co39, .slice none 0 0]) ?_ 1 _ rfl; (with_reducible repeat (first | refine blk_drewN ?_ _ | refine blk_drew ?_ | refine blk_alloc ?_ _)); refine blk_put (cs := #[.slice none 0 0, .slice none 0 0]) ?_ 0 _ rfl; (with_reducible repeat (first | refine blk_drewN ?_ _ | refine blk_drew ?_ | refine blk_alloc ?_ _)); exact BK819.out⟩, ⟨(Kd.R_reads' (by (with_reducible repeat (first | apply Kd.R_alloc | apply Kd.R_drewN | apply Kd.R_drew)); exact (Kd.R_mono (Kd.R_far (p := ⟨gb819, 1, none⟩) (Kd.R_far (p := ⟨gb819, 0, none⟩) (Kd.R_types HL802_1.out BK819.out (by decide)) (fun _ hk => hk.2) (.slice Ao39 t812.length co39)) (fun _ hk => hk.2) (.slice Ao42 t815.length co42)) (fun _ h_ => h_.1)))).2.2⟩, ⟨bU2 HB.out GE811.out GE819.out⟩⟩
         case round =>
          clear H'; (try clear c1); (try clear c2); (try clear c2b0); (try clear c2b1); (try clear p2); (try clear c3); (try clear c4); (try clear c5); (try clear c8); (try clear p8); (try clear q8); (try clear hx8); (try clear c10); (try clear c10b0); (try clear c10b1); (try clear c10b2); (try clear c12); (try clear c19); (try clear c20); (try clear c20b0); (try clear c20b1); (try clear c20b2); (try clear c23); (try clear c27); (try clear c27b0); (try clear c28); (try clear c28b0); (try clear c29); (try clear c30); (try clear c31); (try clear c33); (try clear c40); (try clear hcz35_0); (try clear hcz35_1); (try clear hcz41_0); (try clear hcz41_1); (try clear hfz35_0); (try clear hfz35_1); (try clear hfz41_0); (try clear hfz41_1); (try clear hx802_0); (try clear hx802_1); (try clear p2); (try clear p802); (try clear q802); obtain ⟨x15_3, x16_3, rfl, rfl, HA, HK3, HO_4, HO_8, HO_Z0, HO_Z1, HO_Z2, HO_Z3, BK811, BK819, HR802_1, HB⟩ := hrel
          cases gk with
          | zero => exact absurd HA.out (by simp [laws_FnTreeAll.l1])
          | succ k3 =>
           have H := HA.out; clear HA; simp only [laws_FnTreeAll.l1] at H
           by_cases c43 : x16_3 < (x8_2.length : Int)
           ·
            rw [if_pos c43] at H; have c43b0 := decide_eq_true c43; clear c43
            by_cases c44 : x15_3 = true
            ·
             subst c44
             have H1 : (if 0 ≤ x16_3 then ((laws_sameMap.f k3 ((rd_T29 x8_2 x16_3).f0) ((rd_T29 x8_2 x16_3).f1) t812 t815).bind fun t821 => (laws_FnTreeAll.l1 k3 t786 t787 x8_2 x9_2 t810 t818 (!t821) (wrap64 (x16_3 + 1)) t812 t815)) else (none)) = some r := by rw [if_pos rfl] at H; exact H
             clear H; have H := H1; clear H1
             by_cases c45 : 0 ≤ x16_3
             ·
              rw [if_pos c45] at H; have c45b0 := decide_eq_true c45; clear c45; replace H := Option.bind_eq_some_iff.mp H; obtain ⟨t821, A460, H⟩ := H; replace H : (laws_FnTreeAll.l1 k3 t786 t787 x8_2 x9_2 t810 t818 (!t821) (wrap64 (x16_3 + 1)) t812 t815) = some r := H; have A46 := Az A460; clear A460; have H' := Az H; clear H; obtain ⟨Ao47, co47, eo47⟩ := Kd.S_slice HO_8.out; subst eo47
              try go_wp2
              have n0 := Az (Kd.S_drew HO_4.out); have n1 := Az (Kd.S_drew HO_8.out); have n2 := Az (Kd.R_drew HO_Z0.out); have n3 := Az (Kd.R_drew HO_Z1.out); have n4 := Az (Kd.R_drew HO_Z2.out); have n5 := Az (Kd.R_drew HO_Z3.out); have n6 := Az (blk_drew BK811.out); have n7 := Az (blk_drew BK819.out); have n8 := Az (Kd.C_drew HR802_1.out); have n9 := Az (below_drew1 HB.out); clear HO_4 HO_8 HO_Z0 HO_Z1 HO_Z2 HO_Z3 BK811 BK819 HR802_1 HB; have HO_4 := n0; have HO_8 := n1; have HO_Z0 := n2; have HO_Z1 := n3; have HO_Z2 := n4; have HO_Z3 := n5; have BK811 := n6; have BK819 := n7; have HR802_1 := n8; have HB := n9; clear n0 n1 n2 n3 n4 n5 n6 n7 n8 n9; have p820 : 0 ≤ (x16_3 : Int) := oA; have q820 : x16_3 < (x8_2.length : Int) := oA; obtain ⟨ad820, A820_0, c820_0, A820_1, c820_1, e820, hx820_0, hx820_1, hl820_0, hi820_0, hl820_1, hi820_1⟩ := at_T29 (Kd.S_reads' HO_8.out).2.2 x16_3 p820 q820
              cases e820
              obtain ⟨ce820, hce820, hMe820, hcc820⟩ := Kd.S_get HO_8.out z29 x16_3 p820 (by first | exact q820 | exact oA | (have e_ := (Kd.S_reads' HO_8.out).1; omega)); obtain ⟨ve820_0, ve820_1, rfl, ge820_0, ge820_1⟩ := k29_openM hMe820; have hv820_0 := hcc820 0 _ rfl; rw [Nat.add_zero] at hv820_0; replace hv820_0 := Option.some.inj (hv820_0.symm.trans hx820_0); rw [hv820_0] at ge820_0; have HL820_0 := Az (show Kd.R (Kd.int .i64) 3 _ _ _ _ ((rd_T29 x8_2 x16_3).f0) from ge820_0); clear hv820_0 ge820_0; have hv820_1 := hcc820 1 _ rfl; rw [add_field _ _ 1 (by omega)] at hv820_1; replace hv820_1 := Option.some.inj (hv820_1.symm.trans hx820_1); rw [hv820_1] at ge820_1; have HL820_1 := Az (show Kd.R (Kd.int .i64) 3 _ _ _ _ ((rd_T29 x8_2 x16_3).f1) from ge820_1); clear hv820_1 ge820_1 hcc820 hce820; have HR820_0 := Az hi820_0; have HC820_0 := Az hl820_0; clear hi820_0 hl820_0; have HR820_1 := Az hi820_1; have HC820_1 := Az hl820_1; clear hi820_1 hl820_1; replace p820 := eq_true p820; replace q820 := eq_true q820
              refine start_ (n := 11) (S := fun w' => w'.cell? ⟨gb819, 0, none⟩ = some (.slice Ao39 t812.length co39) ∧ w'.cell? ⟨gb819, 1, none⟩ = some (.slice Ao42 t815.length co42) ∧ w'.cell? (ad820.add ((x16_3).toNat * 2)) = some (.slice A820_0 ((rd_T29 x8_2 x16_3).f0).length c820_0) ∧ w'.cell? ⟨(ad820.add ((x16_3).toNat * 2)).block, (ad820.add ((x16_3).toNat * 2)).off + 1, none⟩ = some (.slice A820_1 ((rd_T29 x8_2 x16_3).f1).length c820_1)) (ds := []) #[false, false, false, false, false, false, false, false, false, false, false] (by kernel_rfl) rfl rfl ⟨(blk_cell BK819.out 0).trans rfl, (blk_cell BK819.out 1).trans rfl, hx820_0, hx820_1⟩ (fun hHeld => ?_); refine with_tabW laws_FnTreeAll.tab18 laws_FnTreeAll.bits18 (fun HT_ HW_ => ?_)
              generalize wr.drew = w48 at HO_4 HO_8 HO_Z0 HO_Z1 HO_Z2 HO_Z3 BK811 BK819 HR802_1 HB HL820_0 HL820_1 HR820_0 HR820_1 hx820_0 hx820_1 hHeld ⊢
              refine pure_ (i := 0) (N := some 80) (v := ?_) (a' := ?_) #[true, false, false, false, false, false, false, false, false, false, false] rfl rfl (any_of HT_.out (by kernel_rfl)) (fun _ _ _ h => h) (Or.inl ⟨by rfl, ?_⟩) ?_ ?_
              rotate_left
              ·
               intro w'
               go_simp
               with_reducible rfl
              rotate_left
              ·
               simp only [Act.put, List.setIfInBounds_toArray, List.set_cons_zero, List.set_cons_succ, i64_w, i32_w]
               rfl
              refine pure_ (i := 1) (N := some 81) (v := ?_) (a' := ?_) #[true, true, false, false, false, false, false, false, false, false, false] rfl rfl (any_of HT_.out (by kernel_rfl)) (fun _ _ _ h => h) (Or.inl ⟨by rfl, ?_⟩) ?_ ?_
              rotate_left
              ·
               intro w'
               go_simp
               with_reducible rfl
              rotate_left
              ·
               simp only [Act.put, List.setIfInBounds_toArray, List.set_cons_zero, List.set_cons_succ, i64_w, i32_w]
               rfl
              refine pure_ (i := 2) (N := some 82) (v := ?_) (a' := ?_) #[true, true, true, false, false, false, false, false, false, false, false] rfl rfl (any_of HT_.out (by kernel_rfl)) (fun _ _ _ h => h) (Or.inl ⟨by rfl, ?_⟩) ?_ ?_
              rotate_left
              ·
               intro w'
               go_simp
               with_reducible rfl
              rotate_left
              ·
               simp only [Act.put, List.setIfInBounds_toArray, List.set_cons_zero, List.set_cons_succ, i64_w, i32_w]
               rfl
              refine pure_ (i := 3) (N := some 83) (v := ?_) (a' := ?_) #[true, true, true, true, false, false, false, false, false, false, false] rfl rfl (any_of HT_.out (by kernel_rfl)) (fun _ _ _ h => h) (Or.inl ⟨by rfl, ?_⟩) ?_ ?_
              rotate_left
              ·
               intro w'
               go_simp
               with_reducible rfl
              rotate_left
              ·
               simp only [Act.put, List.setIfInBounds_toArray, List.set_cons_zero, List.set_cons_succ, i64_w, i32_w]
               rfl
              refine pure_ (i := 4) (N := some 84) (v := ?_) (a' := ?_) #[true, true, true, true, true, false, false, false, false, false, false] rfl rfl (any_of HT_.out (by kernel_rfl)) (fun _ _ _ h => h) (Or.inl ⟨by rfl, ?_⟩) ?_ ?_
              rotate_left
              ·
               intro w'
               go_simp
               with_reducible rfl
              rotate_left
              ·
               simp only [Act.put, List.setIfInBounds_toArray, List.set_cons_zero, List.set_cons_succ, i64_w, i32_w]
               rfl
              refine take_ (i := 5) (N := some 85) (v := ?_) (a' := ?_) #[true, true, true, true, true, true, false, false, false, false, false] rfl rfl (take_ofW HT_.out HW_.out (by kernel_rfl)) (fun _ _ _ h => h) (Or.inl ⟨by rfl, ?_⟩) hHeld ?_ ?_
              rotate_left
              ·
               rintro w' ⟨s0, s1, s2, s3⟩
               go_simp
               with_reducible rfl
              rotate_left
              ·
               simp only [Act.put, List.setIfInBounds_toArray, List.set_cons_zero, List.set_cons_succ, i64_w, i32_w]
               rfl
              refine take_ (i := 6) (N := some 86) (v := ?_) (a' := ?_) #[true, true, true, true, true, true, true, false, false, false, false] rfl rfl (take_ofW HT_.out HW_.out (by kernel_rfl)) (fun _ _ _ h => h) (Or.inl ⟨by rfl, ?_⟩) hHeld ?_ ?_
              rotate_left
              ·
               rintro w' ⟨s0, s1, s2, s3⟩
               go_simp
               with_reducible rfl
              rotate_left
              ·
               simp only [Act.put, List.setIfInBounds_toArray, List.set_cons_zero, List.set_cons_succ, i64_w, i32_w]
               rfl
              refine one_ (i := 7) (N := some 87) #[true, true, true, true, true, true, true, true, false, false, false] rfl rfl (one_of HT_.out (by kernel_rfl)) (by decide) (fun K hK => ?_)
              refine goes_ Try.func34 (by kernel_rfl) rfl #[.agg #[.slice A820_0 ((rd_T29 x8_2 x16_3).f0).length c820_0, .slice A820_1 ((rd_T29 x8_2 x16_3).f1).length c820_1], .agg #[.slice Ao39 t812.length co39, .slice Ao42 t815.length co42]] (by rfl) rfl rfl (by (try simp only [List.map_toArray, List.map_cons, List.map_nil]); first | done | rfl | (simp only [List.length_drop, List.length_take]; rfl)) ?_
              with_reducible refine (laws_sameMap.calls k3 _ _ ((rd_T29 x8_2 x16_3).f0) _ _ ((rd_T29 x8_2 x16_3).f1) _ _ t812 _ _ t815 t821 _ ?side1 ?side2 ?side3 ?side4 ?side5 ?side6 ?side7 ?side8 A46.out).mono ?_
              (case side1 => exact cU (by repeat (first | (with_reducible exact HR820_0.out) | (with_reducible refine Kd.C_alloc ?_ _) | (with_reducible refine Kd.C_drewN ?_ _) | (with_reducible refine Kd.C_drew ?_) | exact HR820_0.out)))
              (case side2 => exact HC820_0.out)
              (case side3 => exact cU (by repeat (first | (with_reducible exact HR820_1.out) | (with_reducible refine Kd.C_alloc ?_ _) | (with_reducible refine Kd.C_drewN ?_ _) | (with_reducible refine Kd.C_drew ?_) | exact HR820_1.out)))
              (case side4 => exact HC820_1.out)
              (case side5 => exact cU ((Kd.R_reads' HO_Z2.out).2.2))
              (case side6 => exact (Kd.R_reads' HO_Z2.out).2.1)
              (case side7 => exact cU ((Kd.R_reads' HO_Z3.out).2.2))
              (case side8 => exact (Kd.R_reads' HO_Z3.out).2.1)
              rintro e w49 ⟨rfl, hb⟩
              have HS2_ := (hb.cell (World.block_lt_of_cell? _ _ (hHeld.2.2.1))).trans (hHeld.2.2.1); have HS3_ := (hb.cell (World.block_lt_of_cell? _ _ (hHeld.2.2.2))).trans (hHeld.2.2.2)
              refine ⟨_, rfl, ?_⟩
              have n0 := Az (Kd.S_below (sU HO_4.out) hb); have n1 := Az (Kd.S_below (sU HO_8.out) hb); have n2 := Az (Kd.R_below (rU HO_Z0.out) hb); have n3 := Az (Kd.R_below (rU HO_Z1.out) hb); have n4 := Az (Kd.R_below (rU HO_Z2.out) hb); have n5 := Az (Kd.R_below (rU HO_Z3.out) hb); have n6 := Az (Kd.R_below (rU HL820_0.out) hb); have n7 := Az (Kd.R_below (rU HL820_1.out) hb); have n8 := Az (blk_below (g := gb811) (o := .cells #[.slice Ao34 t803.length co34, .slice Ao36 t806.length co36] 29 (0, 0)) (kU BK811.out) hb); have n9 := Az (blk_below (g := gb819) (o := .cells #[.slice Ao39 t812.length co39, .slice Ao42 t815.length co42] 29 (0, 0)) (kU BK819.out) hb); have n10 := Az (Kd.C_below (by repeat (first | (with_reducible exact HR802_1.out) | (with_reducible refine Kd.C_alloc ?_ _) | (with_reducible refine Kd.C_drewN ?_ _) | (with_reducible refine Kd.C_drew ?_) | exact HR802_1.out)) hb); have n11 := Az (Kd.C_below (by repeat (first | (with_reducible exact HR820_0.out) | (with_reducible refine Kd.C_alloc ?_ _) | (with_reducible refine Kd.C_drewN ?_ _) | (with_reducible refine Kd.C_drew ?_) | exact HR820_0.out)) hb); have n12 := Az (Kd.C_below (by repeat (first | (with_reducible exact HR820_1.out) | (with_reducible refine Kd.C_alloc ?_ _) | (with_reducible refine Kd.C_drewN ?_ _) | (with_reducible refine Kd.C_drew ?_) | exact HR820_1.out)) hb); have n13 := Az (below_step (bU2 HB.out GE811.out GE819.out) hb); clear HO_4 HO_8 HO_Z0 HO_Z1 HO_Z2 HO_Z3 HL820_0 HL820_1 BK811 BK819 HR802_1 HR820_0 HR820_1 HB; have HO_4 := n0; have HO_8 := n1; have HO_Z0 := n2; have HO_Z1 := n3; have HO_Z2 := n4; have HO_Z3 := n5; have HL820_0 := n6; have HL820_1 := n7; have BK811 := n8; have BK819 := n9; have HR802_1 := n10; have HR820_0 := n11; have HR820_1 := n12; have HB := n13; clear n0 n1 n2 n3 n4 n5 n6 n7 n8 n9 n10 n11 n12 n13; (try clear hb); (try clear hb2); (try clear hk); (try clear hi)
              refine hK.out _ _ ⟨(blk_cell BK819.out 0).trans rfl, (blk_cell BK819.out 1).trans rfl, HS2_, HS3_⟩ (fun hHeld => ?_)
              clear hK K
              refine norm_ (a' := ?_) ?_ ?_
              rotate_left
              ·
               show Act.put _ (some 87) _ = _
               simp only [Act.put, List.setIfInBounds_toArray, List.set_cons_zero, List.set_cons_succ, i64_w, i32_w]
               rfl
              refine pure_ (i := 8) (N := some 88) (v := ?_) (a' := ?_) #[true, true, true, true, true, true, true, true, true, false, false] rfl rfl (any_of HT_.out (by kernel_rfl)) (fun _ _ _ h => h) (Or.inl ⟨by rfl, ?_⟩) ?_ ?_
              rotate_left
              ·
               intro w'
               go_simp
               with_reducible rfl
              rotate_left
              ·
               simp only [Act.put, List.setIfInBounds_toArray, List.set_cons_zero, List.set_cons_succ, i64_w, i32_w]
               rfl
              refine pure_ (i := 9) (N := some 89) (v := ?_) (a' := ?_) #[true, true, true, true, true, true, true, true, true, true, false] rfl rfl (any_of HT_.out (by kernel_rfl)) (fun _ _ _ h => h) (Or.inl ⟨by rfl, ?_⟩) ?_ ?_
              rotate_left
              ·
               intro w'
               go_simp
               with_reducible rfl
              rotate_left
              ·
               simp only [Act.put, List.setIfInBounds_toArray, List.set_cons_zero, List.set_cons_succ, i64_w, i32_w]
               rfl
              refine pure_ (i := 10) (N := some 15) (v := ?_) (a' := ?_) #[true, true, true, true, true, true, true, true, true, true, true] rfl rfl (any_of HT_.out (by kernel_rfl)) (fun _ _ _ h => h) (Or.inl ⟨by rfl, ?_⟩) ?_ ?_
              rotate_left
              ·
               intro w'
               go_simp
               with_reducible rfl
              rotate_left
              ·
               simp only [Act.put, List.setIfInBounds_toArray, List.set_cons_zero, List.set_cons_succ, i64_w, i32_w]
               rfl
              refine done_ (done_of HT_.out (by kernel_rfl)) ?_
              try go_wp2
              (first | go_roundg k3 | (refine Handed.intro k3 ?measure ?_; rotate_left; go_step; (try simp only [add_plain]); (repeat apply Exists.intro); refine ⟨?rel, rfl⟩))
              case measure => have := HJ5.out; have := HK2.out; have := HK3.out; omega
              case rel => exact ⟨(!t821), (wrap64 (x16_3 + 1)), rS, rS, H', ⟨by have := HJ5.out; have := HK2.out; have := HK3.out; omega⟩, ⟨sU HO_4.out⟩, ⟨sU HO_8.out⟩, ⟨rU HO_Z0.out⟩, ⟨rU HO_Z1.out⟩, ⟨rU HO_Z2.out⟩, ⟨rU HO_Z3.out⟩, ⟨kU BK811.out⟩, ⟨kU BK819.out⟩, ⟨by repeat (first | (with_reducible exact HR802_1.out) | (with_reducible refine Kd.C_alloc ?_ _) | (with_reducible refine Kd.C_drewN ?_ _) | (with_reducible refine Kd.C_drew ?_) | exact HR802_1.out)⟩, ⟨bU2 HB.out GE811.out GE819.out⟩⟩
             ·
              rw [if_neg c45] at H
              exact absurd H (by simp)
            ·
             replace c44 := Bool.eq_false_iff.mpr c44; subst c44
             have H1 : (laws_FnTreeAll.l1 k3 t786 t787 x8_2 x9_2 t810 t818 false (wrap64 (x16_3 + 1)) t812 t815) = some r := by rw [if_neg (show ¬ (false = true) by decide)] at H; exact H
             clear H; have H := H1; clear H1; have H' := Az H; clear H; obtain ⟨Ao50, co50, eo50⟩ := Kd.S_slice HO_8.out; subst eo50
             try go_wp2
             have n0 := Az (Kd.S_drew HO_4.out); have n1 := Az (Kd.S_drew HO_8.out); have n2 := Az (Kd.R_drew HO_Z0.out); have n3 := Az (Kd.R_drew HO_Z1.out); have n4 := Az (Kd.R_drew HO_Z2.out); have n5 := Az (Kd.R_drew HO_Z3.out); have n6 := Az (blk_drew BK811.out); have n7 := Az (blk_drew BK819.out); have n8 := Az (Kd.C_drew HR802_1.out); have n9 := Az (below_drew1 HB.out); clear HO_4 HO_8 HO_Z0 HO_Z1 HO_Z2 HO_Z3 BK811 BK819 HR802_1 HB; have HO_4 := n0; have HO_8 := n1; have HO_Z0 := n2; have HO_Z1 := n3; have HO_Z2 := n4; have HO_Z3 := n5; have BK811 := n6; have BK819 := n7; have HR802_1 := n8; have HB := n9; clear n0 n1 n2 n3 n4 n5 n6 n7 n8 n9
             refine start_ (n := 11) (S := fun w' => True) (ds := []) #[false, false, false, false, false, false, false, false, false, false, false] (by kernel_rfl) rfl rfl trivial (fun hHeld => ?_); refine with_tabW laws_FnTreeAll.tab18 laws_FnTreeAll.bits18 (fun HT_ HW_ => ?_)
             generalize wr.drew = w51 at HO_4 HO_8 HO_Z0 HO_Z1 HO_Z2 HO_Z3 BK811 BK819 HR802_1 HB hHeld ⊢
             refine pure_ (i := 0) (N := some 80) (v := ?_) (a' := ?_) #[true, false, false, false, false, false, false, false, false, false, false] rfl rfl (any_of HT_.out (by kernel_rfl)) (fun _ _ _ h => h) (Or.inl ⟨by rfl, ?_⟩) ?_ ?_
             rotate_left
             ·
              intro w'
              go_simp
              with_reducible rfl
             rotate_left
             ·
              simp only [Act.put, List.setIfInBounds_toArray, List.set_cons_zero, List.set_cons_succ, i64_w, i32_w]
              rfl
             refine pure_ (i := 1) (N := some 81) (v := ?_) (a' := ?_) #[true, true, false, false, false, false, false, false, false, false, false] rfl rfl (any_of HT_.out (by kernel_rfl)) (fun _ _ _ h => h) (Or.inl ⟨by rfl, ?_⟩) ?_ ?_
             rotate_left
             ·
              intro w'
              go_simp
              with_reducible rfl
             rotate_left
             ·
              simp only [Act.put, List.setIfInBounds_toArray, List.set_cons_zero, List.set_cons_succ, i64_w, i32_w]
              rfl
             refine pure_ (i := 2) (N := some 82) (v := undef) (a' := ?_) #[true, true, true, false, false, false, false, false, false, false, false] rfl rfl (any_of HT_.out (by kernel_rfl)) (fun _ _ _ h => h) (Or.inr ⟨by rfl, rfl⟩) ?_ ?_
             rotate_left
             ·
              simp only [Act.put, List.setIfInBounds_toArray, List.set_cons_zero, List.set_cons_succ, i64_w, i32_w]
              rfl
             refine pure_ (i := 3) (N := some 83) (v := undef) (a' := ?_) #[true, true, true, true, false, false, false, false, false, false, false] rfl rfl (any_of HT_.out (by kernel_rfl)) (fun _ _ _ h => h) (Or.inr ⟨by rfl, rfl⟩) ?_ ?_
             rotate_left
             ·
              simp only [Act.put, List.setIfInBounds_toArray, List.set_cons_zero, List.set_cons_succ, i64_w, i32_w]
              rfl
             refine pure_ (i := 4) (N := some 84) (v := undef) (a' := ?_) #[true, true, true, true, true, false, false, false, false, false, false] rfl rfl (any_of HT_.out (by kernel_rfl)) (fun _ _ _ h => h) (Or.inr ⟨by rfl, rfl⟩) ?_ ?_
             rotate_left
             ·
              simp only [Act.put, List.setIfInBounds_toArray, List.set_cons_zero, List.set_cons_succ, i64_w, i32_w]
              rfl
             refine pure_ (i := 5) (N := some 85) (v := undef) (a' := ?_) #[true, true, true, true, true, true, false, false, false, false, false] rfl rfl (any_of HT_.out (by kernel_rfl)) (fun _ _ _ h => h) (Or.inr ⟨by rfl, rfl⟩) ?_ ?_
             rotate_left
             ·
              simp only [Act.put, List.setIfInBounds_toArray, List.set_cons_zero, List.set_cons_succ, i64_w, i32_w]
              rfl
             refine pure_ (i := 6) (N := some 86) (v := undef) (a' := ?_) #[true, true, true, true, true, true, true, false, false, false, false] rfl rfl (any_of HT_.out (by kernel_rfl)) (fun _ _ _ h => h) (Or.inr ⟨by rfl, rfl⟩) ?_ ?_
             rotate_left
             ·
              simp only [Act.put, List.setIfInBounds_toArray, List.set_cons_zero, List.set_cons_succ, i64_w, i32_w]
              rfl
             refine pure_ (i := 7) (N := some 87) (v := undef) (a' := ?_) #[true, true, true, true, true, true, true, true, false, false, false] rfl rfl (any_of HT_.out (by kernel_rfl)) (fun _ _ _ h => h) (Or.inr ⟨by rfl, rfl⟩) ?_ ?_
             rotate_left
             ·
              simp only [Act.put, List.setIfInBounds_toArray, List.set_cons_zero, List.set_cons_succ, i64_w, i32_w]
              rfl
             refine pure_ (i := 8) (N := some 88) (v := undef) (a' := ?_) #[true, true, true, true, true, true, true, true, true, false, false] rfl rfl (any_of HT_.out (by kernel_rfl)) (fun _ _ _ h => h) (Or.inr ⟨by rfl, rfl⟩) ?_ ?_
             rotate_left
             ·
              simp only [Act.put, List.setIfInBounds_toArray, List.set_cons_zero, List.set_cons_succ, i64_w, i32_w]
              rfl
             refine pure_ (i := 9) (N := some 89) (v := ?_) (a' := ?_) #[true, true, true, true, true, true, true, true, true, true, false] rfl rfl (any_of HT_.out (by kernel_rfl)) (fun _ _ _ h => h) (Or.inl ⟨by rfl, ?_⟩) ?_ ?_
             rotate_left
             ·
              intro w'
              go_simp
              with_reducible rfl
             rotate_left
             ·
              simp only [Act.put, List.setIfInBounds_toArray, List.set_cons_zero, List.set_cons_succ, i64_w, i32_w]
              rfl
             refine pure_ (i := 10) (N := some 15) (v := ?_) (a' := ?_) #[true, true, true, true, true, true, true, true, true, true, true] rfl rfl (any_of HT_.out (by kernel_rfl)) (fun _ _ _ h => h) (Or.inl ⟨by rfl, ?_⟩) ?_ ?_
             rotate_left
             ·
              intro w'
              go_simp
              with_reducible rfl
             rotate_left
             ·
              simp only [Act.put, List.setIfInBounds_toArray, List.set_cons_zero, List.set_cons_succ, i64_w, i32_w]
              rfl
             refine done_ (done_of HT_.out (by kernel_rfl)) ?_
             try go_wp2
             (first | go_roundg k3 | (refine Handed.intro k3 ?measure ?_; rotate_left; go_step; (try simp only [add_plain]); (repeat apply Exists.intro); refine ⟨?rel, rfl⟩))
             case measure => have := HJ5.out; have := HK2.out; have := HK3.out; omega
             case rel => exact ⟨(false), (wrap64 (x16_3 + 1)), rS, rS, H', ⟨by have := HJ5.out; have := HK2.out; have := HK3.out; omega⟩, ⟨sU HO_4.out⟩, ⟨sU HO_8.out⟩, ⟨rU HO_Z0.out⟩, ⟨rU HO_Z1.out⟩, ⟨rU HO_Z2.out⟩, ⟨rU HO_Z3.out⟩, ⟨kU BK811.out⟩, ⟨kU BK819.out⟩, ⟨by repeat (first | (with_reducible exact HR802_1.out) | (with_reducible refine Kd.C_alloc ?_ _) | (with_reducible refine Kd.C_drewN ?_ _) | (with_reducible refine Kd.C_drew ?_) | exact HR802_1.out)⟩, ⟨bU2 HB.out GE811.out GE819.out⟩⟩
           ·
            rw [if_neg c43] at H; have c43b0 := decide_eq_false c43; clear c43; have HC52 := Az H; clear H; obtain ⟨Ao53, co53, eo53⟩ := Kd.S_slice HO_8.out; subst eo53
            go_upto_region 19 with (fail)
            go_cut [111] (fun v111 wc => ∃ (kq : Nat) (x111_51 : Bool), v111 = .bool x111_51 ∧ Aside0 (laws_FnTreeAll.j3 kq t786 t787 x8_2 x9_2 x15_3 x111_51 t812 t815 = some r) ∧ Aside0 (kq ≤ k3) ∧ Aside0 (Kd.S k25 25 wc w.heap.size (fun k_ => some k_ ≠ ((.slice Ao34 t803.length co34) : Value).ownBlock ∧ some k_ ≠ ((.slice Ao36 t806.length co36) : Value).ownBlock ∧ some k_ ≠ ((.slice Ao39 t812.length co39) : Value).ownBlock ∧ some k_ ≠ ((.slice Ao42 t815.length co42) : Value).ownBlock) (.slice (some ad802) t787.length co31) t787) ∧ Aside0 (Kd.S k29 29 wc w.heap.size (fun k_ => some k_ ≠ ((.slice Ao34 t803.length co34) : Value).ownBlock ∧ some k_ ≠ ((.slice Ao36 t806.length co36) : Value).ownBlock ∧ some k_ ≠ ((.slice Ao39 t812.length co39) : Value).ownBlock ∧ some k_ ≠ ((.slice Ao42 t815.length co42) : Value).ownBlock ∧ k_ ≠ gb811 ∧ k_ ≠ gb819) (.slice Ao53 x8_2.length co53) x8_2) ∧ Aside0 (Kd.R (Kd.int .i64) 3 wc w.heap.size (fun k_ => some k_ ≠ ((.slice Ao36 t806.length co36) : Value).ownBlock ∧ some k_ ≠ ((.slice Ao39 t812.length co39) : Value).ownBlock ∧ some k_ ≠ ((.slice Ao42 t815.length co42) : Value).ownBlock) (.slice Ao34 t803.length co34) t803) ∧ Aside0 (Kd.R (Kd.int .i64) 3 wc w.heap.size (fun k_ => some k_ ≠ ((.slice Ao34 t803.length co34) : Value).ownBlock ∧ some k_ ≠ ((.slice Ao39 t812.length co39) : Value).ownBlock ∧ some k_ ≠ ((.slice Ao42 t815.length co42) : Value).ownBlock) (.slice Ao36 t806.length co36) t806) ∧ Aside0 (Kd.R (Kd.int .i64) 3 wc w.heap.size (fun k_ => some k_ ≠ ((.slice Ao34 t803.length co34) : Value).ownBlock ∧ some k_ ≠ ((.slice Ao36 t806.length co36) : Value).ownBlock ∧ some k_ ≠ ((.slice Ao42 t815.length co42) : Value).ownBlock) (.slice Ao39 t812.length co39) t812) ∧ Aside0 (Kd.R (Kd.int .i64) 3 wc w.heap.size (fun k_ => some k_ ≠ ((.slice Ao34 t803.length co34) : Value).ownBlock ∧ some k_ ≠ ((.slice Ao36 t806.length co36) : Value).ownBlock ∧ some k_ ≠ ((.slice Ao39 t812.length co39) : Value).ownBlock) (.slice Ao42 t815.length co42) t815) ∧ Aside0 (wc.heap[gb811]? = some (.cells #[(.slice Ao34 t803.length co34), (.slice Ao36 t806.length co36)] 29 (0, 0))) ∧ Aside0 (wc.heap[gb819]? = some (.cells #[(.slice Ao39 t812.length co39), (.slice Ao42 t815.length co42)] 29 (0, 0))) ∧ Aside0 (Kd.C (Kd.int .i64) wc A802_1 ((rd_T25 t787 x9_2).f1).length ((rd_T25 t787 x9_2).f1)) ∧ Aside0 (Below w.heap.size w wc))
            case first =>
             have H := HC52.out; clear HC52
             by_cases c54 : t810 = true
             ·
              subst c54
              have H1 : (if t818 = true then (if x9_2 > 0 then (if 0 ≤ x9_2 then (if x9_2 < (t787.length : Int) then (if 0 ≤ (wrap64 (x9_2 - 1)) then (if (wrap64 (x9_2 - 1)) < (t787.length : Int) then ((laws_sameTree.f k3 ((rd_T25 t787 x9_2).f0) ((rd_T25 t787 x9_2).f1) ((rd_T25 t787 (wrap64 (x9_2 - 1))).f0) ((rd_T25 t787 (wrap64 (x9_2 - 1))).f1)).bind fun t824 => (laws_FnTreeAll.j3 k3 t786 t787 x8_2 x9_2 x15_3 t824 t812 t815)) else (none)) else (none)) else (none)) else (none)) else (laws_FnTreeAll.j3 k3 t786 t787 x8_2 x9_2 x15_3 false t812 t815)) else (laws_FnTreeAll.j3 k3 t786 t787 x8_2 x9_2 x15_3 true t812 t815)) = some r := by rw [if_pos rfl] at H; exact H
              clear H; have H := H1; clear H1
              by_cases c55 : t818 = true
              ·
               subst c55
               have H1 : (if x9_2 > 0 then (if 0 ≤ x9_2 then (if x9_2 < (t787.length : Int) then (if 0 ≤ (wrap64 (x9_2 - 1)) then (if (wrap64 (x9_2 - 1)) < (t787.length : Int) then ((laws_sameTree.f k3 ((rd_T25 t787 x9_2).f0) ((rd_T25 t787 x9_2).f1) ((rd_T25 t787 (wrap64 (x9_2 - 1))).f0) ((rd_T25 t787 (wrap64 (x9_2 - 1))).f1)).bind fun t824 => (laws_FnTreeAll.j3 k3 t786 t787 x8_2 x9_2 x15_3 t824 t812 t815)) else (none)) else (none)) else (none)) else (none)) else (laws_FnTreeAll.j3 k3 t786 t787 x8_2 x9_2 x15_3 false t812 t815)) = some r := by rw [if_pos rfl] at H; exact H
               clear H; have H := H1; clear H1
               by_cases c56 : x9_2 > 0
               ·
                rw [if_pos c56] at H; have c56b0 := decide_eq_true c56; clear c56; (first | rw [c56b0] | (simp only [i64_w, i32_w]; rw [c56b0]) | skip)
                by_cases c57 : 0 ≤ x9_2
                ·
                 rw [if_pos c57] at H; have c57b0 := decide_eq_true c57; clear c57
                 by_cases c58 : x9_2 < (t787.length : Int)
                 ·
                  rw [if_pos c58] at H; have c58b0 := decide_eq_true c58; clear c58; obtain ⟨ji59, hji59⟩ : ∃ j_ : Int, (wrap64 (x9_2 - 1)) = j_ := ⟨_, rfl⟩
                  replace H : (if 0 ≤ (ji59) then (if (ji59) < (t787.length : Int) then ((laws_sameTree.f k3 ((rd_T25 t787 x9_2).f0) ((rd_T25 t787 x9_2).f1) ((rd_T25 t787 (ji59)).f0) ((rd_T25 t787 (ji59)).f1)).bind fun t824 => (laws_FnTreeAll.j3 k3 t786 t787 x8_2 x9_2 x15_3 t824 t812 t815)) else (none)) else (none)) = some r := by first | (rw [hji59] at H; exact H) | (simp only [hji59] at H ⊢; exact H)
                  have hji59w : (IntKind.i64.wrap (x9_2 - 1)) = ji59 := (i64_w _).trans hji59
                  by_cases c60 : 0 ≤ (ji59)
                  ·
                   rw [if_pos c60] at H; have c60b0 := decide_eq_true c60; clear c60
                   by_cases c61 : (ji59) < (t787.length : Int)
                   ·
                    rw [if_pos c61] at H; have c61b0 := decide_eq_true c61; clear c61; replace H := Option.bind_eq_some_iff.mp H; obtain ⟨t824, A620, H⟩ := H; replace H : (laws_FnTreeAll.j3 k3 t786 t787 x8_2 x9_2 x15_3 t824 t812 t815) = some r := H; have A62 := Az A620; clear A620; have H' := Az H; clear H
                    try go_wp2
                    have n0 := Az (Kd.S_drew HO_4.out); have n1 := Az (Kd.S_drew HO_8.out); have n2 := Az (Kd.R_drew HO_Z0.out); have n3 := Az (Kd.R_drew HO_Z1.out); have n4 := Az (Kd.R_drew HO_Z2.out); have n5 := Az (Kd.R_drew HO_Z3.out); have n6 := Az (blk_drew BK811.out); have n7 := Az (blk_drew BK819.out); have n8 := Az (Kd.C_drew HR802_1.out); have n9 := Az (below_drew1 HB.out); clear HO_4 HO_8 HO_Z0 HO_Z1 HO_Z2 HO_Z3 BK811 BK819 HR802_1 HB; have HO_4 := n0; have HO_8 := n1; have HO_Z0 := n2; have HO_Z1 := n3; have HO_Z2 := n4; have HO_Z3 := n5; have BK811 := n6; have BK819 := n7; have HR802_1 := n8; have HB := n9; clear n0 n1 n2 n3 n4 n5 n6 n7 n8 n9; have p822 : 0 ≤ (x9_2 : Int) := oA; have q822 : x9_2 < (t787.length : Int) := oA; obtain ⟨ad822, A822_1, c822_1, e822, hx822_0, hx822_1, hl822_1, hi822_1⟩ := at_T25 (Kd.S_reads' HO_4.out).2.2 x9_2 p822 q822; obtain rfl : ad802 = ad822 := (by injection e822); obtain ⟨ce822, hce822, hMe822, hcc822⟩ := Kd.S_get HO_4.out z25 x9_2 p822 (by first | exact q822 | exact oA | (have e_ := (Kd.S_reads' HO_4.out).1; omega)); obtain ⟨ve822_1, rfl, ge822_1⟩ := k25_openM hMe822; have hv822_1 := hcc822 1 _ rfl; rw [add_field _ _ 1 (by omega)] at hv822_1; replace hv822_1 := Option.some.inj (hv822_1.symm.trans hx822_1); rw [hv822_1] at ge822_1; have HL822_1 := Az (show Kd.R (Kd.int .i64) 3 _ _ _ _ ((rd_T25 t787 x9_2).f1) from ge822_1); clear hv822_1 ge822_1 hcc822 hce822; have HR822_1 := Az hi822_1; have HC822_1 := Az hl822_1; clear hi822_1 hl822_1; replace p822 := eq_true p822; replace q822 := eq_true q822; have p823 : 0 ≤ ((ji59) : Int) := oA; have q823 : (ji59) < (t787.length : Int) := oA; obtain ⟨ad823, A823_1, c823_1, e823, hx823_0, hx823_1, hl823_1, hi823_1⟩ := at_T25 (Kd.S_reads' HO_4.out).2.2 (ji59) p823 q823; obtain rfl : ad802 = ad823 := (by injection e823); obtain ⟨ce823, hce823, hMe823, hcc823⟩ := Kd.S_get HO_4.out z25 (ji59) p823 (by first | exact q823 | exact oA | (have e_ := (Kd.S_reads' HO_4.out).1; omega)); obtain ⟨ve823_1, rfl, ge823_1⟩ := k25_openM hMe823; have hv823_1 := hcc823 1 _ rfl; rw [add_field _ _ 1 (by omega)] at hv823_1; replace hv823_1 := Option.some.inj (hv823_1.symm.trans hx823_1); rw [hv823_1] at ge823_1; have HL823_1 := Az (show Kd.R (Kd.int .i64) 3 _ _ _ _ ((rd_T25 t787 (ji59)).f1) from ge823_1); clear hv823_1 ge823_1 hcc823 hce823; have HR823_1 := Az hi823_1; have HC823_1 := Az hl823_1; clear hi823_1 hl823_1; replace p823 := eq_true p823; replace q823 := eq_true q823
                    refine start_ (n := 22) (S := fun w' => w'.cell? (ad802.add ((x9_2).toNat * 2)) = some (.string ((rd_T25 t787 x9_2).f0)) ∧ w'.cell? ⟨(ad802.add ((x9_2).toNat * 2)).block, (ad802.add ((x9_2).toNat * 2)).off + 1, none⟩ = some (.slice A822_1 ((rd_T25 t787 x9_2).f1).length c822_1) ∧ w'.cell? (ad802.add (((ji59)).toNat * 2)) = some (.string ((rd_T25 t787 (ji59)).f0)) ∧ w'.cell? ⟨(ad802.add (((ji59)).toNat * 2)).block, (ad802.add (((ji59)).toNat * 2)).off + 1, none⟩ = some (.slice A823_1 ((rd_T25 t787 (ji59)).f1).length c823_1)) (ds := []) #[false, false, false, false, false, false, false, false, false, false, false, false, false, false, false, false, false, false, false, false, false, false] (by kernel_rfl) rfl rfl ⟨hx822_0, hx822_1, hx823_0, hx823_1⟩ (fun hHeld => ?_); refine with_tabW laws_FnTreeAll.tab19 laws_FnTreeAll.bits19 (fun HT_ HW_ => ?_)
                    generalize wr.drew = w63 at HO_4 HO_8 HO_Z0 HO_Z1 HO_Z2 HO_Z3 BK811 BK819 HR802_1 HB HL822_1 HL823_1 HR822_1 HR823_1 hx822_0 hx822_1 hx823_0 hx823_1 hHeld ⊢
                    refine pure_ (i := 0) (N := some 90) (v := ?_) (a' := ?_) #[true, false, false, false, false, false, false, false, false, false, false, false, false, false, false, false, false, false, false, false, false, false] rfl rfl (any_of HT_.out (by kernel_rfl)) (fun _ _ _ h => h) (Or.inl ⟨by rfl, ?_⟩) ?_ ?_
                    rotate_left
                    ·
                     intro w'
                     go_simp
                     with_reducible rfl
                    rotate_left
                    ·
                     simp only [Act.put, List.setIfInBounds_toArray, List.set_cons_zero, List.set_cons_succ, i64_w, i32_w]
                     rfl
                    refine pure_ (i := 1) (N := some 91) (v := ?_) (a' := ?_) #[true, true, false, false, false, false, false, false, false, false, false, false, false, false, false, false, false, false, false, false, false, false] rfl rfl (any_of HT_.out (by kernel_rfl)) (fun _ _ _ h => h) (Or.inl ⟨by rfl, ?_⟩) ?_ ?_
                    rotate_left
                    ·
                     intro w'
                     go_simp
                     with_reducible rfl
                    rotate_left
                    ·
                     simp only [Act.put, List.setIfInBounds_toArray, List.set_cons_zero, List.set_cons_succ, i64_w, i32_w]
                     rfl
                    refine pure_ (i := 2) (N := some 92) (v := ?_) (a' := ?_) #[true, true, true, false, false, false, false, false, false, false, false, false, false, false, false, false, false, false, false, false, false, false] rfl rfl (any_of HT_.out (by kernel_rfl)) (fun _ _ _ h => h) (Or.inl ⟨by rfl, ?_⟩) ?_ ?_
                    rotate_left
                    ·
                     intro w'
                     go_simp
                     with_reducible rfl
                    rotate_left
                    ·
                     simp only [Act.put, List.setIfInBounds_toArray, List.set_cons_zero, List.set_cons_succ, i64_w, i32_w]
                     rfl
                    refine pure_ (i := 3) (N := some 93) (v := ?_) (a' := ?_) #[true, true, true, true, false, false, false, false, false, false, false, false, false, false, false, false, false, false, false, false, false, false] rfl rfl (any_of HT_.out (by kernel_rfl)) (fun _ _ _ h => h) (Or.inl ⟨by rfl, ?_⟩) ?_ ?_
                    rotate_left
                    ·
                     intro w'
                     go_simp
                     with_reducible rfl
                    rotate_left
                    ·
                     simp only [Act.put, List.setIfInBounds_toArray, List.set_cons_zero, List.set_cons_succ, i64_w, i32_w]
                     rfl
                    refine pure_ (i := 4) (N := some 94) (v := ?_) (a' := ?_) #[true, true, true, true, true, false, false, false, false, false, false, false, false, false, false, false, false, false, false, false, false, false] rfl rfl (any_of HT_.out (by kernel_rfl)) (fun _ _ _ h => h) (Or.inl ⟨by rfl, ?_⟩) ?_ ?_
                    rotate_left
                    ·
                     intro w'
                     go_simp
                     with_reducible rfl
                    rotate_left
                    ·
                     simp only [Act.put, List.setIfInBounds_toArray, List.set_cons_zero, List.set_cons_succ, i64_w, i32_w]
                     rfl
                    refine pure_ (i := 5) (N := some 95) (v := ?_) (a' := ?_) #[true, true, true, true, true, true, false, false, false, false, false, false, false, false, false, false, false, false, false, false, false, false] rfl rfl (any_of HT_.out (by kernel_rfl)) (fun _ _ _ h => h) (Or.inl ⟨by rfl, ?_⟩) ?_ ?_
                    rotate_left
                    ·
                     intro w'
                     go_simp
                     with_reducible rfl
                    rotate_left
                    ·
                     simp only [Act.put, List.setIfInBounds_toArray, List.set_cons_zero, List.set_cons_succ, i64_w, i32_w]
                     rfl
                    refine pure_ (i := 6) (N := some 96) (v := ?_) (a' := ?_) #[true, true, true, true, true, true, true, false, false, false, false, false, false, false, false, false, false, false, false, false, false, false] rfl rfl (any_of HT_.out (by kernel_rfl)) (fun _ _ _ h => h) (Or.inl ⟨by rfl, ?_⟩) ?_ ?_
                    rotate_left
                    ·
                     intro w'
                     go_simp
                     with_reducible rfl
                    rotate_left
                    ·
                     simp only [Act.put, List.setIfInBounds_toArray, List.set_cons_zero, List.set_cons_succ, i64_w, i32_w]
                     rfl
                    refine pure_ (i := 7) (N := some 97) (v := ?_) (a' := ?_) #[true, true, true, true, true, true, true, true, false, false, false, false, false, false, false, false, false, false, false, false, false, false] rfl rfl (any_of HT_.out (by kernel_rfl)) (fun _ _ _ h => h) (Or.inl ⟨by rfl, ?_⟩) ?_ ?_
                    rotate_left
                    ·
                     intro w'
                     go_simp
                     with_reducible rfl
                    rotate_left
                    ·
                     simp only [Act.put, List.setIfInBounds_toArray, List.set_cons_zero, List.set_cons_succ, i64_w, i32_w]
                     rfl
                    refine pure_ (i := 8) (N := some 98) (v := ?_) (a' := ?_) #[true, true, true, true, true, true, true, true, true, false, false, false, false, false, false, false, false, false, false, false, false, false] rfl rfl (any_of HT_.out (by kernel_rfl)) (fun _ _ _ h => h) (Or.inl ⟨by rfl, ?_⟩) ?_ ?_
                    rotate_left
                    ·
                     intro w'
                     go_simp
                     with_reducible rfl
                    rotate_left
                    ·
                     simp only [Act.put, List.setIfInBounds_toArray, List.set_cons_zero, List.set_cons_succ, i64_w, i32_w]
                     rfl
                    refine pure_ (i := 9) (N := some 99) (v := ?_) (a' := ?_) #[true, true, true, true, true, true, true, true, true, true, false, false, false, false, false, false, false, false, false, false, false, false] rfl rfl (any_of HT_.out (by kernel_rfl)) (fun _ _ _ h => h) (Or.inl ⟨by rfl, ?_⟩) ?_ ?_
                    rotate_left
                    ·
                     intro w'
                     go_simp
                     with_reducible rfl
                    rotate_left
                    ·
                     simp only [Act.put, List.setIfInBounds_toArray, List.set_cons_zero, List.set_cons_succ, i64_w, i32_w]
                     rfl
                    refine pure_ (i := 10) (N := some 100) (v := ?_) (a' := ?_) #[true, true, true, true, true, true, true, true, true, true, true, false, false, false, false, false, false, false, false, false, false, false] rfl rfl (any_of HT_.out (by kernel_rfl)) (fun _ _ _ h => h) (Or.inl ⟨by rfl, ?_⟩) ?_ ?_
                    rotate_left
                    ·
                     intro w'
                     go_simp
                     with_reducible rfl
                    rotate_left
                    ·
                     simp only [Act.put, List.setIfInBounds_toArray, List.set_cons_zero, List.set_cons_succ, i64_w, i32_w]
                     rfl
                    refine pure_ (i := 11) (N := some 101) (v := ?_) (a' := ?_) #[true, true, true, true, true, true, true, true, true, true, true, true, false, false, false, false, false, false, false, false, false, false] rfl rfl (any_of HT_.out (by kernel_rfl)) (fun _ _ _ h => h) (Or.inl ⟨by rfl, ?_⟩) ?_ ?_
                    rotate_left
                    ·
                     intro w'
                     go_simp
                     with_reducible rfl
                    rotate_left
                    ·
                     simp only [Act.put, List.setIfInBounds_toArray, List.set_cons_zero, List.set_cons_succ, i64_w, i32_w]
                     rfl
                    refine pure_ (i := 12) (N := some 102) (v := ?_) (a' := ?_) #[true, true, true, true, true, true, true, true, true, true, true, true, true, false, false, false, false, false, false, false, false, false] rfl rfl (any_of HT_.out (by kernel_rfl)) (fun _ _ _ h => h) (Or.inl ⟨by rfl, ?_⟩) ?_ ?_
                    rotate_left
                    ·
                     intro w'
                     go_simp
                     with_reducible rfl
                    rotate_left
                    ·
                     simp only [Act.put, List.setIfInBounds_toArray, List.set_cons_zero, List.set_cons_succ, i64_w, i32_w]
                     rfl
                    refine pure_ (i := 14) (N := some 104) (v := ?_) (a' := ?_) #[true, true, true, true, true, true, true, true, true, true, true, true, true, false, true, false, false, false, false, false, false, false] rfl rfl (any_of HT_.out (by kernel_rfl)) (fun _ _ _ h => h) (Or.inl ⟨by rfl, ?_⟩) ?_ ?_
                    rotate_left
                    ·
                     intro w'
                     go_simp
                     with_reducible rfl
                    rotate_left
                    ·
                     simp only [Act.put, List.setIfInBounds_toArray, List.set_cons_zero, List.set_cons_succ, i64_w, i32_w]
                     rfl
                    refine pure_ (i := 15) (N := some 105) (v := ?_) (a' := ?_) #[true, true, true, true, true, true, true, true, true, true, true, true, true, false, true, true, false, false, false, false, false, false] rfl rfl (any_of HT_.out (by kernel_rfl)) (fun _ _ _ h => h) (Or.inl ⟨by rfl, ?_⟩) ?_ ?_
                    rotate_left
                    ·
                     intro w'
                     go_simp
                     with_reducible rfl
                    rotate_left
                    ·
                     simp only [Act.put, List.setIfInBounds_toArray, List.set_cons_zero, List.set_cons_succ, i64_w, i32_w]
                     rfl
                    refine pure_ (i := 16) (N := some 106) (v := ?_) (a' := ?_) #[true, true, true, true, true, true, true, true, true, true, true, true, true, false, true, true, true, false, false, false, false, false] rfl rfl (any_of HT_.out (by kernel_rfl)) (fun _ _ _ h => h) (Or.inl ⟨by rfl, ?_⟩) ?_ ?_
                    rotate_left
                    ·
                     intro w'
                     go_simp
                     with_reducible rfl
                    rotate_left
                    ·
                     simp only [Act.put, List.setIfInBounds_toArray, List.set_cons_zero, List.set_cons_succ, i64_w, i32_w]
                     rfl
                    refine pure_ (i := 17) (N := some 107) (v := ?_) (a' := ?_) #[true, true, true, true, true, true, true, true, true, true, true, true, true, false, true, true, true, true, false, false, false, false] rfl rfl (any_of HT_.out (by kernel_rfl)) (fun _ _ _ h => h) (Or.inl ⟨by rfl, ?_⟩) ?_ ?_
                    rotate_left
                    ·
                     intro w'
                     go_simp
                     with_reducible rfl
                    rotate_left
                    ·
                     simp only [Act.put, List.setIfInBounds_toArray, List.set_cons_zero, List.set_cons_succ, i64_w, i32_w]
                     rfl
                    refine take_ (i := 13) (N := some 103) (v := ?_) (a' := ?_) #[true, true, true, true, true, true, true, true, true, true, true, true, true, true, true, true, true, true, false, false, false, false] rfl rfl (take_ofW HT_.out HW_.out (by kernel_rfl)) (fun _ _ _ h => h) (Or.inl ⟨by rfl, ?_⟩) hHeld ?_ ?_
                    rotate_left
                    ·
                     rintro w' ⟨s0, s1, s2, s3⟩
                     go_simp
                     with_reducible rfl
                    rotate_left
                    ·
                     simp only [Act.put, List.setIfInBounds_toArray, List.set_cons_zero, List.set_cons_succ, i64_w, i32_w]
                     rfl
                    refine take_ (i := 18) (N := some 108) (v := ?_) (a' := ?_) #[true, true, true, true, true, true, true, true, true, true, true, true, true, true, true, true, true, true, true, false, false, false] rfl rfl (take_ofW HT_.out HW_.out (by kernel_rfl)) (fun _ _ _ h => h) (Or.inl ⟨by rfl, ?_⟩) hHeld ?_ ?_
                    rotate_left
                    ·
                     rintro w' ⟨s0, s1, s2, s3⟩
                     go_simp
                     with_reducible rfl
                    rotate_left
                    ·
                     simp only [Act.put, List.setIfInBounds_toArray, List.set_cons_zero, List.set_cons_succ, i64_w, i32_w]
                     rfl
                    refine one_ (i := 19) (N := some 109) #[true, true, true, true, true, true, true, true, true, true, true, true, true, true, true, true, true, true, true, true, false, false] rfl rfl (one_of HT_.out (by kernel_rfl)) (by decide) (fun K hK => ?_)
                    refine goes_ Try.func35 (by kernel_rfl) rfl #[.agg #[.string ((rd_T25 t787 x9_2).f0), .slice A822_1 ((rd_T25 t787 x9_2).f1).length c822_1], .agg #[.string ((rd_T25 t787 (ji59)).f0), .slice A823_1 ((rd_T25 t787 (ji59)).f1).length c823_1]] (by rfl) rfl rfl (by (try simp only [List.map_toArray, List.map_cons, List.map_nil]); first | done | (simp only [hji59]; rfl) | rfl | (simp only [List.length_drop, List.length_take]; rfl)) ?_
                    with_reducible refine (laws_sameTree.calls k3 ((rd_T25 t787 x9_2).f0) _ _ ((rd_T25 t787 x9_2).f1) ((rd_T25 t787 (ji59)).f0) _ _ ((rd_T25 t787 (ji59)).f1) t824 _ ?side1 ?side2 ?side3 ?side4 A62.out).mono ?_
                    (case side1 => exact cU (by repeat (first | (with_reducible exact HR822_1.out) | (with_reducible refine Kd.C_alloc ?_ _) | (with_reducible refine Kd.C_drewN ?_ _) | (with_reducible refine Kd.C_drew ?_) | exact HR822_1.out)))
                    (case side2 => exact HC822_1.out)
                    (case side3 => exact cU (by repeat (first | (with_reducible exact HR823_1.out) | (with_reducible refine Kd.C_alloc ?_ _) | (with_reducible refine Kd.C_drewN ?_ _) | (with_reducible refine Kd.C_drew ?_) | exact HR823_1.out)))
                    (case side4 => exact HC823_1.out)
                    rintro e w64 ⟨rfl, hb⟩
                    have HS0_ := (hb.cell (World.block_lt_of_cell? _ _ (hHeld.1))).trans (hHeld.1); have HS1_ := (hb.cell (World.block_lt_of_cell? _ _ (hHeld.2.1))).trans (hHeld.2.1); have HS2_ := (hb.cell (World.block_lt_of_cell? _ _ (hHeld.2.2.1))).trans (hHeld.2.2.1); have HS3_ := (hb.cell (World.block_lt_of_cell? _ _ (hHeld.2.2.2))).trans (hHeld.2.2.2)
                    refine ⟨_, rfl, ?_⟩
                    have n0 := Az (Kd.S_below (sU HO_4.out) hb); have n1 := Az (Kd.S_below (sU HO_8.out) hb); have n2 := Az (Kd.R_below (rU HO_Z0.out) hb); have n3 := Az (Kd.R_below (rU HO_Z1.out) hb); have n4 := Az (Kd.R_below (rU HO_Z2.out) hb); have n5 := Az (Kd.R_below (rU HO_Z3.out) hb); have n6 := Az (Kd.R_below (rU HL822_1.out) hb); have n7 := Az (Kd.R_below (rU HL823_1.out) hb); have n8 := Az (blk_below (g := gb811) (o := .cells #[.slice Ao34 t803.length co34, .slice Ao36 t806.length co36] 29 (0, 0)) (kU BK811.out) hb); have n9 := Az (blk_below (g := gb819) (o := .cells #[.slice Ao39 t812.length co39, .slice Ao42 t815.length co42] 29 (0, 0)) (kU BK819.out) hb); have n10 := Az (Kd.C_below (by repeat (first | (with_reducible exact HR802_1.out) | (with_reducible refine Kd.C_alloc ?_ _) | (with_reducible refine Kd.C_drewN ?_ _) | (with_reducible refine Kd.C_drew ?_) | exact HR802_1.out)) hb); have n11 := Az (Kd.C_below (by repeat (first | (with_reducible exact HR822_1.out) | (with_reducible refine Kd.C_alloc ?_ _) | (with_reducible refine Kd.C_drewN ?_ _) | (with_reducible refine Kd.C_drew ?_) | exact HR822_1.out)) hb); have n12 := Az (Kd.C_below (by repeat (first | (with_reducible exact HR823_1.out) | (with_reducible refine Kd.C_alloc ?_ _) | (with_reducible refine Kd.C_drewN ?_ _) | (with_reducible refine Kd.C_drew ?_) | exact HR823_1.out)) hb); have n13 := Az (below_step (bU2 HB.out GE811.out GE819.out) hb); clear HO_4 HO_8 HO_Z0 HO_Z1 HO_Z2 HO_Z3 HL822_1 HL823_1 BK811 BK819 HR802_1 HR822_1 HR823_1 HB; have HO_4 := n0; have HO_8 := n1; have HO_Z0 := n2; have HO_Z1 := n3; have HO_Z2 := n4; have HO_Z3 := n5; have HL822_1 := n6; have HL823_1 := n7; have BK811 := n8; have BK819 := n9; have HR802_1 := n10; have HR822_1 := n11; have HR823_1 := n12; have HB := n13; clear n0 n1 n2 n3 n4 n5 n6 n7 n8 n9 n10 n11 n12 n13; (try clear hb); (try clear hb2); (try clear hk); (try clear hi)
                    refine hK.out _ _ ⟨HS0_, HS1_, HS2_, HS3_⟩ (fun hHeld => ?_)
                    clear hK K
                    refine norm_ (a' := ?_) ?_ ?_
                    rotate_left
                    ·
                     show Act.put _ (some 109) _ = _
                     simp only [Act.put, List.setIfInBounds_toArray, List.set_cons_zero, List.set_cons_succ, i64_w, i32_w]
                     rfl
                    refine pure_ (i := 20) (N := some 110) (v := ?_) (a' := ?_) #[true, true, true, true, true, true, true, true, true, true, true, true, true, true, true, true, true, true, true, true, true, false] rfl rfl (any_of HT_.out (by kernel_rfl)) (fun _ _ _ h => h) (Or.inl ⟨by rfl, ?_⟩) ?_ ?_
                    rotate_left
                    ·
                     intro w'
                     go_simp
                     with_reducible rfl
                    rotate_left
                    ·
                     simp only [Act.put, List.setIfInBounds_toArray, List.set_cons_zero, List.set_cons_succ, i64_w, i32_w]
                     rfl
                    refine pure_ (i := 21) (N := some 111) (v := ?_) (a' := ?_) #[true, true, true, true, true, true, true, true, true, true, true, true, true, true, true, true, true, true, true, true, true, true] rfl rfl (any_of HT_.out (by kernel_rfl)) (fun _ _ _ h => h) (Or.inl ⟨by rfl, ?_⟩) ?_ ?_
                    rotate_left
                    ·
                     intro w'
                     go_simp
                     with_reducible rfl
                    rotate_left
                    ·
                     simp only [Act.put, List.setIfInBounds_toArray, List.set_cons_zero, List.set_cons_succ, i64_w, i32_w]
                     rfl
                    refine done_ (done_of HT_.out (by kernel_rfl)) ?_
                    try go_wp2
                    go_meet
                    case rel => exact ⟨_, (t824), rS, H', ⟨by have := HJ5.out; have := HK2.out; have := HK3.out; first | omega | exact Nat.le_refl _⟩, ⟨sU HO_4.out⟩, ⟨sU HO_8.out⟩, ⟨rU HO_Z0.out⟩, ⟨rU HO_Z1.out⟩, ⟨rU HO_Z2.out⟩, ⟨rU HO_Z3.out⟩, ⟨kU BK811.out⟩, ⟨kU BK819.out⟩, ⟨by repeat (first | (with_reducible exact HR802_1.out) | (with_reducible refine Kd.C_alloc ?_ _) | (with_reducible refine Kd.C_drewN ?_ _) | (with_reducible refine Kd.C_drew ?_) | exact HR802_1.out)⟩, ⟨bU2 HB.out GE811.out GE819.out⟩⟩
                   ·
                    rw [if_neg c61] at H
                    exact absurd H (by simp)
                  ·
                   rw [if_neg c60] at H
                   exact absurd H (by simp)
                 ·
                  rw [if_neg c58] at H
                  exact absurd H (by simp)
                ·
                 rw [if_neg c57] at H
                 exact absurd H (by simp)
               ·
                rw [if_neg c56] at H; have c56b0 := decide_eq_false c56; clear c56; (first | rw [c56b0] | (simp only [i64_w, i32_w]; rw [c56b0]) | skip); have H' := Az H; clear H
                try go_wp2
                have n0 := Az (Kd.S_drew HO_4.out); have n1 := Az (Kd.S_drew HO_8.out); have n2 := Az (Kd.R_drew HO_Z0.out); have n3 := Az (Kd.R_drew HO_Z1.out); have n4 := Az (Kd.R_drew HO_Z2.out); have n5 := Az (Kd.R_drew HO_Z3.out); have n6 := Az (blk_drew BK811.out); have n7 := Az (blk_drew BK819.out); have n8 := Az (Kd.C_drew HR802_1.out); have n9 := Az (below_drew1 HB.out); clear HO_4 HO_8 HO_Z0 HO_Z1 HO_Z2 HO_Z3 BK811 BK819 HR802_1 HB; have HO_4 := n0; have HO_8 := n1; have HO_Z0 := n2; have HO_Z1 := n3; have HO_Z2 := n4; have HO_Z3 := n5; have BK811 := n6; have BK819 := n7; have HR802_1 := n8; have HB := n9; clear n0 n1 n2 n3 n4 n5 n6 n7 n8 n9
                refine start_ (n := 22) (S := fun w' => True) (ds := []) #[false, false, false, false, false, false, false, false, false, false, false, false, false, false, false, false, false, false, false, false, false, false] (by kernel_rfl) rfl rfl trivial (fun hHeld => ?_); refine with_tabW laws_FnTreeAll.tab19 laws_FnTreeAll.bits19 (fun HT_ HW_ => ?_)
                generalize wr.drew = w65 at HO_4 HO_8 HO_Z0 HO_Z1 HO_Z2 HO_Z3 BK811 BK819 HR802_1 HB hHeld ⊢
                refine pure_ (i := 0) (N := some 90) (v := ?_) (a' := ?_) #[true, false, false, false, false, false, false, false, false, false, false, false, false, false, false, false, false, false, false, false, false, false] rfl rfl (any_of HT_.out (by kernel_rfl)) (fun _ _ _ h => h) (Or.inl ⟨by rfl, ?_⟩) ?_ ?_
                rotate_left
                ·
                 intro w'
                 go_simp
                 with_reducible rfl
                rotate_left
                ·
                 simp only [Act.put, List.setIfInBounds_toArray, List.set_cons_zero, List.set_cons_succ, i64_w, i32_w]
                 rfl
                refine pure_ (i := 1) (N := some 91) (v := ?_) (a' := ?_) #[true, true, false, false, false, false, false, false, false, false, false, false, false, false, false, false, false, false, false, false, false, false] rfl rfl (any_of HT_.out (by kernel_rfl)) (fun _ _ _ h => h) (Or.inl ⟨by rfl, ?_⟩) ?_ ?_
                rotate_left
                ·
                 intro w'
                 go_simp
                 with_reducible rfl
                rotate_left
                ·
                 simp only [Act.put, List.setIfInBounds_toArray, List.set_cons_zero, List.set_cons_succ, i64_w, i32_w]
                 rfl
                refine pure_ (i := 2) (N := some 92) (v := ?_) (a' := ?_) #[true, true, true, false, false, false, false, false, false, false, false, false, false, false, false, false, false, false, false, false, false, false] rfl rfl (any_of HT_.out (by kernel_rfl)) (fun _ _ _ h => h) (Or.inl ⟨by rfl, ?_⟩) ?_ ?_
                rotate_left
                ·
                 intro w'
                 go_simp
                 with_reducible rfl
                rotate_left
                ·
                 simp only [Act.put, List.setIfInBounds_toArray, List.set_cons_zero, List.set_cons_succ, i64_w, i32_w]
                 rfl
                refine pure_ (i := 3) (N := some 93) (v := ?_) (a' := ?_) #[true, true, true, true, false, false, false, false, false, false, false, false, false, false, false, false, false, false, false, false, false, false] rfl rfl (any_of HT_.out (by kernel_rfl)) (fun _ _ _ h => h) (Or.inl ⟨by rfl, ?_⟩) ?_ ?_
                rotate_left
                ·
                 intro w'
                 go_simp
                 with_reducible rfl
                rotate_left
                ·
                 simp only [Act.put, List.setIfInBounds_toArray, List.set_cons_zero, List.set_cons_succ, i64_w, i32_w]
                 rfl
                refine pure_ (i := 4) (N := some 94) (v := ?_) (a' := ?_) #[true, true, true, true, true, false, false, false, false, false, false, false, false, false, false, false, false, false, false, false, false, false] rfl rfl (any_of HT_.out (by kernel_rfl)) (fun _ _ _ h => h) (Or.inl ⟨by rfl, ?_⟩) ?_ ?_
                rotate_left
                ·
                 intro w'
                 go_simp
                 with_reducible rfl
                rotate_left
                ·
                 simp only [Act.put, List.setIfInBounds_toArray, List.set_cons_zero, List.set_cons_succ, i64_w, i32_w]
                 rfl
                refine pure_ (i := 5) (N := some 95) (v := ?_) (a' := ?_) #[true, true, true, true, true, true, false, false, false, false, false, false, false, false, false, false, false, false, false, false, false, false] rfl rfl (any_of HT_.out (by kernel_rfl)) (fun _ _ _ h => h) (Or.inl ⟨by rfl, ?_⟩) ?_ ?_
                rotate_left
                ·
                 intro w'
                 go_simp
                 with_reducible rfl
                rotate_left
                ·
                 simp only [Act.put, List.setIfInBounds_toArray, List.set_cons_zero, List.set_cons_succ, i64_w, i32_w]
                 rfl
                refine pure_ (i := 6) (N := some 96) (v := ?_) (a' := ?_) #[true, true, true, true, true, true, true, false, false, false, false, false, false, false, false, false, false, false, false, false, false, false] rfl rfl (any_of HT_.out (by kernel_rfl)) (fun _ _ _ h => h) (Or.inl ⟨by rfl, ?_⟩) ?_ ?_
                rotate_left
                ·
                 intro w'
                 go_simp
                 with_reducible rfl
                rotate_left
                ·
                 simp only [Act.put, List.setIfInBounds_toArray, List.set_cons_zero, List.set_cons_succ, i64_w, i32_w]
                 rfl
                refine pure_ (i := 7) (N := some 97) (v := ?_) (a' := ?_) #[true, true, true, true, true, true, true, true, false, false, false, false, false, false, false, false, false, false, false, false, false, false] rfl rfl (any_of HT_.out (by kernel_rfl)) (fun _ _ _ h => h) (Or.inl ⟨by rfl, ?_⟩) ?_ ?_
                rotate_left
                ·
                 intro w'
                 go_simp
                 with_reducible rfl
                rotate_left
                ·
                 simp only [Act.put, List.setIfInBounds_toArray, List.set_cons_zero, List.set_cons_succ, i64_w, i32_w]
                 rfl
                refine pure_ (i := 8) (N := some 98) (v := ?_) (a' := ?_) #[true, true, true, true, true, true, true, true, true, false, false, false, false, false, false, false, false, false, false, false, false, false] rfl rfl (any_of HT_.out (by kernel_rfl)) (fun _ _ _ h => h) (Or.inl ⟨by rfl, ?_⟩) ?_ ?_
                rotate_left
                ·
                 intro w'
                 go_simp
                 with_reducible rfl
                rotate_left
                ·
                 simp only [Act.put, List.setIfInBounds_toArray, List.set_cons_zero, List.set_cons_succ, i64_w, i32_w]
                 rfl
                refine pure_ (i := 9) (N := some 99) (v := ?_) (a' := ?_) #[true, true, true, true, true, true, true, true, true, true, false, false, false, false, false, false, false, false, false, false, false, false] rfl rfl (any_of HT_.out (by kernel_rfl)) (fun _ _ _ h => h) (Or.inl ⟨by rfl, ?_⟩) ?_ ?_
                rotate_left
                ·
                 intro w'
                 go_simp
                 with_reducible rfl
                rotate_left
                ·
                 simp only [Act.put, List.setIfInBounds_toArray, List.set_cons_zero, List.set_cons_succ, i64_w, i32_w]
                 rfl
                refine pure_ (i := 10) (N := some 100) (v := undef) (a' := ?_) #[true, true, true, true, true, true, true, true, true, true, true, false, false, false, false, false, false, false, false, false, false, false] rfl rfl (any_of HT_.out (by kernel_rfl)) (fun _ _ _ h => h) (Or.inr ⟨by rfl, rfl⟩) ?_ ?_
                rotate_left
                ·
                 simp only [Act.put, List.setIfInBounds_toArray, List.set_cons_zero, List.set_cons_succ, i64_w, i32_w]
                 rfl
                refine pure_ (i := 11) (N := some 101) (v := undef) (a' := ?_) #[true, true, true, true, true, true, true, true, true, true, true, true, false, false, false, false, false, false, false, false, false, false] rfl rfl (any_of HT_.out (by kernel_rfl)) (fun _ _ _ h => h) (Or.inr ⟨by rfl, rfl⟩) ?_ ?_
                rotate_left
                ·
                 simp only [Act.put, List.setIfInBounds_toArray, List.set_cons_zero, List.set_cons_succ, i64_w, i32_w]
                 rfl
                refine pure_ (i := 12) (N := some 102) (v := undef) (a' := ?_) #[true, true, true, true, true, true, true, true, true, true, true, true, true, false, false, false, false, false, false, false, false, false] rfl rfl (any_of HT_.out (by kernel_rfl)) (fun _ _ _ h => h) (Or.inr ⟨by rfl, rfl⟩) ?_ ?_
                rotate_left
                ·
                 simp only [Act.put, List.setIfInBounds_toArray, List.set_cons_zero, List.set_cons_succ, i64_w, i32_w]
                 rfl
                refine pure_ (i := 13) (N := some 103) (v := undef) (a' := ?_) #[true, true, true, true, true, true, true, true, true, true, true, true, true, true, false, false, false, false, false, false, false, false] rfl rfl (any_of HT_.out (by kernel_rfl)) (fun _ _ _ h => h) (Or.inr ⟨by rfl, rfl⟩) ?_ ?_
                rotate_left
                ·
                 simp only [Act.put, List.setIfInBounds_toArray, List.set_cons_zero, List.set_cons_succ, i64_w, i32_w]
                 rfl
                refine pure_ (i := 14) (N := some 104) (v := undef) (a' := ?_) #[true, true, true, true, true, true, true, true, true, true, true, true, true, true, true, false, false, false, false, false, false, false] rfl rfl (any_of HT_.out (by kernel_rfl)) (fun _ _ _ h => h) (Or.inr ⟨by rfl, rfl⟩) ?_ ?_
                rotate_left
                ·
                 simp only [Act.put, List.setIfInBounds_toArray, List.set_cons_zero, List.set_cons_succ, i64_w, i32_w]
                 rfl
                refine pure_ (i := 15) (N := some 105) (v := undef) (a' := ?_) #[true, true, true, true, true, true, true, true, true, true, true, true, true, true, true, true, false, false, false, false, false, false] rfl rfl (any_of HT_.out (by kernel_rfl)) (fun _ _ _ h => h) (Or.inr ⟨by rfl, rfl⟩) ?_ ?_
                rotate_left
                ·
                 simp only [Act.put, List.setIfInBounds_toArray, List.set_cons_zero, List.set_cons_succ, i64_w, i32_w]
                 rfl
                refine pure_ (i := 16) (N := some 106) (v := undef) (a' := ?_) #[true, true, true, true, true, true, true, true, true, true, true, true, true, true, true, true, true, false, false, false, false, false] rfl rfl (any_of HT_.out (by kernel_rfl)) (fun _ _ _ h => h) (Or.inr ⟨by rfl, rfl⟩) ?_ ?_
                rotate_left
                ·
                 simp only [Act.put, List.setIfInBounds_toArray, List.set_cons_zero, List.set_cons_succ, i64_w, i32_w]
                 rfl
                refine pure_ (i := 17) (N := some 107) (v := undef) (a' := ?_) #[true, true, true, true, true, true, true, true, true, true, true, true, true, true, true, true, true, true, false, false, false, false] rfl rfl (any_of HT_.out (by kernel_rfl)) (fun _ _ _ h => h) (Or.inr ⟨by rfl, rfl⟩) ?_ ?_
                rotate_left
                ·
                 simp only [Act.put, List.setIfInBounds_toArray, List.set_cons_zero, List.set_cons_succ, i64_w, i32_w]
                 rfl
                refine pure_ (i := 18) (N := some 108) (v := undef) (a' := ?_) #[true, true, true, true, true, true, true, true, true, true, true, true, true, true, true, true, true, true, true, false, false, false] rfl rfl (any_of HT_.out (by kernel_rfl)) (fun _ _ _ h => h) (Or.inr ⟨by rfl, rfl⟩) ?_ ?_
                rotate_left
                ·
                 simp only [Act.put, List.setIfInBounds_toArray, List.set_cons_zero, List.set_cons_succ, i64_w, i32_w]
                 rfl
                refine pure_ (i := 19) (N := some 109) (v := undef) (a' := ?_) #[true, true, true, true, true, true, true, true, true, true, true, true, true, true, true, true, true, true, true, true, false, false] rfl rfl (any_of HT_.out (by kernel_rfl)) (fun _ _ _ h => h) (Or.inr ⟨by rfl, rfl⟩) ?_ ?_
                rotate_left
                ·
                 simp only [Act.put, List.setIfInBounds_toArray, List.set_cons_zero, List.set_cons_succ, i64_w, i32_w]
                 rfl
                refine pure_ (i := 20) (N := some 110) (v := ?_) (a' := ?_) #[true, true, true, true, true, true, true, true, true, true, true, true, true, true, true, true, true, true, true, true, true, false] rfl rfl (any_of HT_.out (by kernel_rfl)) (fun _ _ _ h => h) (Or.inl ⟨by rfl, ?_⟩) ?_ ?_
                rotate_left
                ·
                 intro w'
                 go_simp
                 with_reducible rfl
                rotate_left
                ·
                 simp only [Act.put, List.setIfInBounds_toArray, List.set_cons_zero, List.set_cons_succ, i64_w, i32_w]
                 rfl
                refine pure_ (i := 21) (N := some 111) (v := ?_) (a' := ?_) #[true, true, true, true, true, true, true, true, true, true, true, true, true, true, true, true, true, true, true, true, true, true] rfl rfl (any_of HT_.out (by kernel_rfl)) (fun _ _ _ h => h) (Or.inl ⟨by rfl, ?_⟩) ?_ ?_
                rotate_left
                ·
                 intro w'
                 go_simp
                 with_reducible rfl
                rotate_left
                ·
                 simp only [Act.put, List.setIfInBounds_toArray, List.set_cons_zero, List.set_cons_succ, i64_w, i32_w]
                 rfl
                refine done_ (done_of HT_.out (by kernel_rfl)) ?_
                try go_wp2
                go_meet
                case rel => exact ⟨_, (false), rS, H', ⟨by have := HJ5.out; have := HK2.out; have := HK3.out; first | omega | exact Nat.le_refl _⟩, ⟨sU HO_4.out⟩, ⟨sU HO_8.out⟩, ⟨rU HO_Z0.out⟩, ⟨rU HO_Z1.out⟩, ⟨rU HO_Z2.out⟩, ⟨rU HO_Z3.out⟩, ⟨kU BK811.out⟩, ⟨kU BK819.out⟩, ⟨by repeat (first | (with_reducible exact HR802_1.out) | (with_reducible refine Kd.C_alloc ?_ _) | (with_reducible refine Kd.C_drewN ?_ _) | (with_reducible refine Kd.C_drew ?_) | exact HR802_1.out)⟩, ⟨bU2 HB.out GE811.out GE819.out⟩⟩
              ·
               replace c55 := Bool.eq_false_iff.mpr c55; subst c55
               have H1 : (laws_FnTreeAll.j3 k3 t786 t787 x8_2 x9_2 x15_3 true t812 t815) = some r := by rw [if_neg (show ¬ (false = true) by decide)] at H; exact H
               clear H; have H := H1; clear H1; have H' := Az H; clear H
               try go_wp2
               have n0 := Az (Kd.S_drew HO_4.out); have n1 := Az (Kd.S_drew HO_8.out); have n2 := Az (Kd.R_drew HO_Z0.out); have n3 := Az (Kd.R_drew HO_Z1.out); have n4 := Az (Kd.R_drew HO_Z2.out); have n5 := Az (Kd.R_drew HO_Z3.out); have n6 := Az (blk_drew BK811.out); have n7 := Az (blk_drew BK819.out); have n8 := Az (Kd.C_drew HR802_1.out); have n9 := Az (below_drew1 HB.out); clear HO_4 HO_8 HO_Z0 HO_Z1 HO_Z2 HO_Z3 BK811 BK819 HR802_1 HB; have HO_4 := n0; have HO_8 := n1; have HO_Z0 := n2; have HO_Z1 := n3; have HO_Z2 := n4; have HO_Z3 := n5; have BK811 := n6; have BK819 := n7; have HR802_1 := n8; have HB := n9; clear n0 n1 n2 n3 n4 n5 n6 n7 n8 n9
               refine start_ (n := 22) (S := fun w' => True) (ds := []) #[false, false, false, false, false, false, false, false, false, false, false, false, false, false, false, false, false, false, false, false, false, false] (by kernel_rfl) rfl rfl trivial (fun hHeld => ?_); refine with_tabW laws_FnTreeAll.tab19 laws_FnTreeAll.bits19 (fun HT_ HW_ => ?_)
               generalize wr.drew = w66 at HO_4 HO_8 HO_Z0 HO_Z1 HO_Z2 HO_Z3 BK811 BK819 HR802_1 HB hHeld ⊢
               refine pure_ (i := 0) (N := some 90) (v := ?_) (a' := ?_) #[true, false, false, false, false, false, false, false, false, false, false, false, false, false, false, false, false, false, false, false, false, false] rfl rfl (any_of HT_.out (by kernel_rfl)) (fun _ _ _ h => h) (Or.inl ⟨by rfl, ?_⟩) ?_ ?_
               rotate_left
               ·
                intro w'
                go_simp
                with_reducible rfl
               rotate_left
               ·
                simp only [Act.put, List.setIfInBounds_toArray, List.set_cons_zero, List.set_cons_succ, i64_w, i32_w]
                rfl
               refine pure_ (i := 1) (N := some 91) (v := ?_) (a' := ?_) #[true, true, false, false, false, false, false, false, false, false, false, false, false, false, false, false, false, false, false, false, false, false] rfl rfl (any_of HT_.out (by kernel_rfl)) (fun _ _ _ h => h) (Or.inl ⟨by rfl, ?_⟩) ?_ ?_
               rotate_left
               ·
                intro w'
                go_simp
                with_reducible rfl
               rotate_left
               ·
                simp only [Act.put, List.setIfInBounds_toArray, List.set_cons_zero, List.set_cons_succ, i64_w, i32_w]
                rfl
               refine pure_ (i := 2) (N := some 92) (v := ?_) (a' := ?_) #[true, true, true, false, false, false, false, false, false, false, false, false, false, false, false, false, false, false, false, false, false, false] rfl rfl (any_of HT_.out (by kernel_rfl)) (fun _ _ _ h => h) (Or.inl ⟨by rfl, ?_⟩) ?_ ?_
               rotate_left
               ·
                intro w'
                go_simp
                with_reducible rfl
               rotate_left
               ·
                simp only [Act.put, List.setIfInBounds_toArray, List.set_cons_zero, List.set_cons_succ, i64_w, i32_w]
                rfl
               refine pure_ (i := 3) (N := some 93) (v := ?_) (a' := ?_) #[true, true, true, true, false, false, false, false, false, false, false, false, false, false, false, false, false, false, false, false, false, false] rfl rfl (any_of HT_.out (by kernel_rfl)) (fun _ _ _ h => h) (Or.inl ⟨by rfl, ?_⟩) ?_ ?_
               rotate_left
               ·
                intro w'
                go_simp
                with_reducible rfl
               rotate_left
               ·
                simp only [Act.put, List.setIfInBounds_toArray, List.set_cons_zero, List.set_cons_succ, i64_w, i32_w]
                rfl
               refine pure_ (i := 4) (N := some 94) (v := ?_) (a' := ?_) #[true, true, true, true, true, false, false, false, false, false, false, false, false, false, false, false, false, false, false, false, false, false] rfl rfl (any_of HT_.out (by kernel_rfl)) (fun _ _ _ h => h) (Or.inl ⟨by rfl, ?_⟩) ?_ ?_
               rotate_left
               ·
                intro w'
                go_simp
                with_reducible rfl
               rotate_left
               ·
                simp only [Act.put, List.setIfInBounds_toArray, List.set_cons_zero, List.set_cons_succ, i64_w, i32_w]
                rfl
               refine pure_ (i := 5) (N := some 95) (v := ?_) (a' := ?_) #[true, true, true, true, true, true, false, false, false, false, false, false, false, false, false, false, false, false, false, false, false, false] rfl rfl (any_of HT_.out (by kernel_rfl)) (fun _ _ _ h => h) (Or.inl ⟨by rfl, ?_⟩) ?_ ?_
               rotate_left
               ·
                intro w'
                go_simp
                with_reducible rfl
               rotate_left
               ·
                simp only [Act.put, List.setIfInBounds_toArray, List.set_cons_zero, List.set_cons_succ, i64_w, i32_w]
                rfl
               refine pure_ (i := 6) (N := some 96) (v := ?_) (a' := ?_) #[true, true, true, true, true, true, true, false, false, false, false, false, false, false, false, false, false, false, false, false, false, false] rfl rfl (any_of HT_.out (by kernel_rfl)) (fun _ _ _ h => h) (Or.inl ⟨by rfl, ?_⟩) ?_ ?_
               rotate_left
               ·
                intro w'
                go_simp
                with_reducible rfl
               rotate_left
               ·
                simp only [Act.put, List.setIfInBounds_toArray, List.set_cons_zero, List.set_cons_succ, i64_w, i32_w]
                rfl
               refine pure_ (i := 7) (N := some 97) (v := undef) (a' := ?_) #[true, true, true, true, true, true, true, true, false, false, false, false, false, false, false, false, false, false, false, false, false, false] rfl rfl (any_of HT_.out (by kernel_rfl)) (fun _ _ _ h => h) (Or.inr ⟨by rfl, rfl⟩) ?_ ?_
               rotate_left
               ·
                simp only [Act.put, List.setIfInBounds_toArray, List.set_cons_zero, List.set_cons_succ, i64_w, i32_w]
                rfl
               refine pure_ (i := 8) (N := some 98) (v := undef) (a' := ?_) #[true, true, true, true, true, true, true, true, true, false, false, false, false, false, false, false, false, false, false, false, false, false] rfl rfl (any_of HT_.out (by kernel_rfl)) (fun _ _ _ h => h) (Or.inr ⟨by rfl, rfl⟩) ?_ ?_
               rotate_left
               ·
                simp only [Act.put, List.setIfInBounds_toArray, List.set_cons_zero, List.set_cons_succ, i64_w, i32_w]
                rfl
               refine pure_ (i := 9) (N := some 99) (v := undef) (a' := ?_) #[true, true, true, true, true, true, true, true, true, true, false, false, false, false, false, false, false, false, false, false, false, false] rfl rfl (any_of HT_.out (by kernel_rfl)) (fun _ _ _ h => h) (Or.inr ⟨by rfl, rfl⟩) ?_ ?_
               rotate_left
               ·
                simp only [Act.put, List.setIfInBounds_toArray, List.set_cons_zero, List.set_cons_succ, i64_w, i32_w]
                rfl
               refine pure_ (i := 10) (N := some 100) (v := undef) (a' := ?_) #[true, true, true, true, true, true, true, true, true, true, true, false, false, false, false, false, false, false, false, false, false, false] rfl rfl (any_of HT_.out (by kernel_rfl)) (fun _ _ _ h => h) (Or.inr ⟨by rfl, rfl⟩) ?_ ?_
               rotate_left
               ·
                simp only [Act.put, List.setIfInBounds_toArray, List.set_cons_zero, List.set_cons_succ, i64_w, i32_w]
                rfl
               refine pure_ (i := 11) (N := some 101) (v := undef) (a' := ?_) #[true, true, true, true, true, true, true, true, true, true, true, true, false, false, false, false, false, false, false, false, false, false] rfl rfl (any_of HT_.out (by kernel_rfl)) (fun _ _ _ h => h) (Or.inr ⟨by rfl, rfl⟩) ?_ ?_
               rotate_left
               ·
                simp only [Act.put, List.setIfInBounds_toArray, List.set_cons_zero, List.set_cons_succ, i64_w, i32_w]
                rfl
               refine pure_ (i := 12) (N := some 102) (v := undef) (a' := ?_) #[true, true, true, true, true, true, true, true, true, true, true, true, true, false, false, false, false, false, false, false, false, false] rfl rfl (any_of HT_.out (by kernel_rfl)) (fun _ _ _ h => h) (Or.inr ⟨by rfl, rfl⟩) ?_ ?_
               rotate_left
               ·
                simp only [Act.put, List.setIfInBounds_toArray, List.set_cons_zero, List.set_cons_succ, i64_w, i32_w]
                rfl
               refine pure_ (i := 13) (N := some 103) (v := undef) (a' := ?_) #[true, true, true, true, true, true, true, true, true, true, true, true, true, true, false, false, false, false, false, false, false, false] rfl rfl (any_of HT_.out (by kernel_rfl)) (fun _ _ _ h => h) (Or.inr ⟨by rfl, rfl⟩) ?_ ?_
               rotate_left
               ·
                simp only [Act.put, List.setIfInBounds_toArray, List.set_cons_zero, List.set_cons_succ, i64_w, i32_w]
                rfl
               refine pure_ (i := 14) (N := some 104) (v := undef) (a' := ?_) #[true, true, true, true, true, true, true, true, true, true, true, true, true, true, true, false, false, false, false, false, false, false] rfl rfl (any_of HT_.out (by kernel_rfl)) (fun _ _ _ h => h) (Or.inr ⟨by rfl, rfl⟩) ?_ ?_
               rotate_left
               ·
                simp only [Act.put, List.setIfInBounds_toArray, List.set_cons_zero, List.set_cons_succ, i64_w, i32_w]
                rfl
               refine pure_ (i := 15) (N := some 105) (v := undef) (a' := ?_) #[true, true, true, true, true, true, true, true, true, true, true, true, true, true, true, true, false, false, false, false, false, false] rfl rfl (any_of HT_.out (by kernel_rfl)) (fun _ _ _ h => h) (Or.inr ⟨by rfl, rfl⟩) ?_ ?_
               rotate_left
               ·
                simp only [Act.put, List.setIfInBounds_toArray, List.set_cons_zero, List.set_cons_succ, i64_w, i32_w]
                rfl
               refine pure_ (i := 16) (N := some 106) (v := undef) (a' := ?_) #[true, true, true, true, true, true, true, true, true, true, true, true, true, true, true, true, true, false, false, false, false, false] rfl rfl (any_of HT_.out (by kernel_rfl)) (fun _ _ _ h => h) (Or.inr ⟨by rfl, rfl⟩) ?_ ?_
               rotate_left
               ·
                simp only [Act.put, List.setIfInBounds_toArray, List.set_cons_zero, List.set_cons_succ, i64_w, i32_w]
                rfl
               refine pure_ (i := 17) (N := some 107) (v := undef) (a' := ?_) #[true, true, true, true, true, true, true, true, true, true, true, true, true, true, true, true, true, true, false, false, false, false] rfl rfl (any_of HT_.out (by kernel_rfl)) (fun _ _ _ h => h) (Or.inr ⟨by rfl, rfl⟩) ?_ ?_
               rotate_left
               ·
                simp only [Act.put, List.setIfInBounds_toArray, List.set_cons_zero, List.set_cons_succ, i64_w, i32_w]
                rfl
               refine pure_ (i := 18) (N := some 108) (v := undef) (a' := ?_) #[true, true, true, true, true, true, true, true, true, true, true, true, true, true, true, true, true, true, true, false, false, false] rfl rfl (any_of HT_.out (by kernel_rfl)) (fun _ _ _ h => h) (Or.inr ⟨by rfl, rfl⟩) ?_ ?_
               rotate_left
               ·
                simp only [Act.put, List.setIfInBounds_toArray, List.set_cons_zero, List.set_cons_succ, i64_w, i32_w]
                rfl
               refine pure_ (i := 19) (N := some 109) (v := undef) (a' := ?_) #[true, true, true, true, true, true, true, true, true, true, true, true, true, true, true, true, true, true, true, true, false, false] rfl rfl (any_of HT_.out (by kernel_rfl)) (fun _ _ _ h => h) (Or.inr ⟨by rfl, rfl⟩) ?_ ?_
               rotate_left
               ·
                simp only [Act.put, List.setIfInBounds_toArray, List.set_cons_zero, List.set_cons_succ, i64_w, i32_w]
                rfl
               refine pure_ (i := 20) (N := some 110) (v := undef) (a' := ?_) #[true, true, true, true, true, true, true, true, true, true, true, true, true, true, true, true, true, true, true, true, true, false] rfl rfl (any_of HT_.out (by kernel_rfl)) (fun _ _ _ h => h) (Or.inr ⟨by rfl, rfl⟩) ?_ ?_
               rotate_left
               ·
                simp only [Act.put, List.setIfInBounds_toArray, List.set_cons_zero, List.set_cons_succ, i64_w, i32_w]
                rfl
               refine pure_ (i := 21) (N := some 111) (v := ?_) (a' := ?_) #[true, true, true, true, true, true, true, true, true, true, true, true, true, true, true, true, true, true, true, true, true, true] rfl rfl (any_of HT_.out (by kernel_rfl)) (fun _ _ _ h => h) (Or.inl ⟨by rfl, ?_⟩) ?_ ?_
               rotate_left
               ·
                intro w'
                go_simp
                with_reducible rfl
               rotate_left
               ·
                simp only [Act.put, List.setIfInBounds_toArray, List.set_cons_zero, List.set_cons_succ, i64_w, i32_w]
                rfl
               refine done_ (done_of HT_.out (by kernel_rfl)) ?_
               try go_wp2
               go_meet
               case rel => exact ⟨_, (true), rS, H', ⟨by have := HJ5.out; have := HK2.out; have := HK3.out; first | omega | exact Nat.le_refl _⟩, ⟨sU HO_4.out⟩, ⟨sU HO_8.out⟩, ⟨rU HO_Z0.out⟩, ⟨rU HO_Z1.out⟩, ⟨rU HO_Z2.out⟩, ⟨rU HO_Z3.out⟩, ⟨kU BK811.out⟩, ⟨kU BK819.out⟩, ⟨by repeat (first | (with_reducible exact HR802_1.out) | (with_reducible refine Kd.C_alloc ?_ _) | (with_reducible refine Kd.C_drewN ?_ _) | (with_reducible refine Kd.C_drew ?_) | exact HR802_1.out)⟩, ⟨bU2 HB.out GE811.out GE819.out⟩⟩
             ·
              replace c54 := Bool.eq_false_iff.mpr c54; subst c54
              have H1 : (laws_FnTreeAll.j3 k3 t786 t787 x8_2 x9_2 x15_3 true t812 t815) = some r := by rw [if_neg (show ¬ (false = true) by decide)] at H; exact H
              clear H; have H := H1; clear H1; have H' := Az H; clear H
              try go_wp2
              have n0 := Az (Kd.S_drew HO_4.out); have n1 := Az (Kd.S_drew HO_8.out); have n2 := Az (Kd.R_drew HO_Z0.out); have n3 := Az (Kd.R_drew HO_Z1.out); have n4 := Az (Kd.R_drew HO_Z2.out); have n5 := Az (Kd.R_drew HO_Z3.out); have n6 := Az (blk_drew BK811.out); have n7 := Az (blk_drew BK819.out); have n8 := Az (Kd.C_drew HR802_1.out); have n9 := Az (below_drew1 HB.out); clear HO_4 HO_8 HO_Z0 HO_Z1 HO_Z2 HO_Z3 BK811 BK819 HR802_1 HB; have HO_4 := n0; have HO_8 := n1; have HO_Z0 := n2; have HO_Z1 := n3; have HO_Z2 := n4; have HO_Z3 := n5; have BK811 := n6; have BK819 := n7; have HR802_1 := n8; have HB := n9; clear n0 n1 n2 n3 n4 n5 n6 n7 n8 n9
              refine start_ (n := 22) (S := fun w' => True) (ds := []) #[false, false, false, false, false, false, false, false, false, false, false, false, false, false, false, false, false, false, false, false, false, false] (by kernel_rfl) rfl rfl trivial (fun hHeld => ?_); refine with_tabW laws_FnTreeAll.tab19 laws_FnTreeAll.bits19 (fun HT_ HW_ => ?_)
              generalize wr.drew = w67 at HO_4 HO_8 HO_Z0 HO_Z1 HO_Z2 HO_Z3 BK811 BK819 HR802_1 HB hHeld ⊢
              refine pure_ (i := 0) (N := some 90) (v := ?_) (a' := ?_) #[true, false, false, false, false, false, false, false, false, false, false, false, false, false, false, false, false, false, false, false, false, false] rfl rfl (any_of HT_.out (by kernel_rfl)) (fun _ _ _ h => h) (Or.inl ⟨by rfl, ?_⟩) ?_ ?_
              rotate_left
              ·
               intro w'
               go_simp
               with_reducible rfl
              rotate_left
              ·
               simp only [Act.put, List.setIfInBounds_toArray, List.set_cons_zero, List.set_cons_succ, i64_w, i32_w]
               rfl
              refine pure_ (i := 1) (N := some 91) (v := ?_) (a' := ?_) #[true, true, false, false, false, false, false, false, false, false, false, false, false, false, false, false, false, false, false, false, false, false] rfl rfl (any_of HT_.out (by kernel_rfl)) (fun _ _ _ h => h) (Or.inl ⟨by rfl, ?_⟩) ?_ ?_
              rotate_left
              ·
               intro w'
               go_simp
               with_reducible rfl
              rotate_left
              ·
               simp only [Act.put, List.setIfInBounds_toArray, List.set_cons_zero, List.set_cons_succ, i64_w, i32_w]
               rfl
              refine pure_ (i := 2) (N := some 92) (v := ?_) (a' := ?_) #[true, true, true, false, false, false, false, false, false, false, false, false, false, false, false, false, false, false, false, false, false, false] rfl rfl (any_of HT_.out (by kernel_rfl)) (fun _ _ _ h => h) (Or.inl ⟨by rfl, ?_⟩) ?_ ?_
              rotate_left
              ·
               intro w'
               go_simp
               with_reducible rfl
              rotate_left
              ·
               simp only [Act.put, List.setIfInBounds_toArray, List.set_cons_zero, List.set_cons_succ, i64_w, i32_w]
               rfl
              refine pure_ (i := 3) (N := some 93) (v := undef) (a' := ?_) #[true, true, true, true, false, false, false, false, false, false, false, false, false, false, false, false, false, false, false, false, false, false] rfl rfl (any_of HT_.out (by kernel_rfl)) (fun _ _ _ h => h) (Or.inr ⟨by rfl, rfl⟩) ?_ ?_
              rotate_left
              ·
               simp only [Act.put, List.setIfInBounds_toArray, List.set_cons_zero, List.set_cons_succ, i64_w, i32_w]
               rfl
              refine pure_ (i := 4) (N := some 94) (v := undef) (a' := ?_) #[true, true, true, true, true, false, false, false, false, false, false, false, false, false, false, false, false, false, false, false, false, false] rfl rfl (any_of HT_.out (by kernel_rfl)) (fun _ _ _ h => h) (Or.inr ⟨by rfl, rfl⟩) ?_ ?_
              rotate_left
              ·
               simp only [Act.put, List.setIfInBounds_toArray, List.set_cons_zero, List.set_cons_succ, i64_w, i32_w]
               rfl
              refine pure_ (i := 5) (N := some 95) (v := ?_) (a' := ?_) #[true, true, true, true, true, true, false, false, false, false, false, false, false, false, false, false, false, false, false, false, false, false] rfl rfl (any_of HT_.out (by kernel_rfl)) (fun _ _ _ h => h) (Or.inl ⟨by rfl, ?_⟩) ?_ ?_
              rotate_left
              ·
               intro w'
               go_simp
               with_reducible rfl
              rotate_left
              ·
               simp only [Act.put, List.setIfInBounds_toArray, List.set_cons_zero, List.set_cons_succ, i64_w, i32_w]
               rfl
              refine pure_ (i := 6) (N := some 96) (v := ?_) (a' := ?_) #[true, true, true, true, true, true, true, false, false, false, false, false, false, false, false, false, false, false, false, false, false, false] rfl rfl (any_of HT_.out (by kernel_rfl)) (fun _ _ _ h => h) (Or.inl ⟨by rfl, ?_⟩) ?_ ?_
              rotate_left
              ·
               intro w'
               go_simp
               with_reducible rfl
              rotate_left
              ·
               simp only [Act.put, List.setIfInBounds_toArray, List.set_cons_zero, List.set_cons_succ, i64_w, i32_w]
               rfl
              refine pure_ (i := 7) (N := some 97) (v := undef) (a' := ?_) #[true, true, true, true, true, true, true, true, false, false, false, false, false, false, false, false, false, false, false, false, false, false] rfl rfl (any_of HT_.out (by kernel_rfl)) (fun _ _ _ h => h) (Or.inr ⟨by rfl, rfl⟩) ?_ ?_
              rotate_left
              ·
               simp only [Act.put, List.setIfInBounds_toArray, List.set_cons_zero, List.set_cons_succ, i64_w, i32_w]
               rfl
              refine pure_ (i := 8) (N := some 98) (v := undef) (a' := ?_) #[true, true, true, true, true, true, true, true, true, false, false, false, false, false, false, false, false, false, false, false, false, false] rfl rfl (any_of HT_.out (by kernel_rfl)) (fun _ _ _ h => h) (Or.inr ⟨by rfl, rfl⟩) ?_ ?_
              rotate_left
              ·
               simp only [Act.put, List.setIfInBounds_toArray, List.set_cons_zero, List.set_cons_succ, i64_w, i32_w]
               rfl
              refine pure_ (i := 9) (N := some 99) (v := undef) (a' := ?_) #[true, true, true, true, true, true, true, true, true, true, false, false, false, false, false, false, false, false, false, false, false, false] rfl rfl (any_of HT_.out (by kernel_rfl)) (fun _ _ _ h => h) (Or.inr ⟨by rfl, rfl⟩) ?_ ?_
              rotate_left
              ·
               simp only [Act.put, List.setIfInBounds_toArray, List.set_cons_zero, List.set_cons_succ, i64_w, i32_w]
               rfl
              refine pure_ (i := 10) (N := some 100) (v := undef) (a' := ?_) #[true, true, true, true, true, true, true, true, true, true, true, false, false, false, false, false, false, false, false, false, false, false] rfl rfl (any_of HT_.out (by kernel_rfl)) (fun _ _ _ h => h) (Or.inr ⟨by rfl, rfl⟩) ?_ ?_
              rotate_left
              ·
               simp only [Act.put, List.setIfInBounds_toArray, List.set_cons_zero, List.set_cons_succ, i64_w, i32_w]
               rfl
              refine pure_ (i := 11) (N := some 101) (v := undef) (a' := ?_) #[true, true, true, true, true, true, true, true, true, true, true, true, false, false, false, false, false, false, false, false, false, false] rfl rfl (any_of HT_.out (by kernel_rfl)) (fun _ _ _ h => h) (Or.inr ⟨by rfl, rfl⟩) ?_ ?_
              rotate_left
              ·
               simp only [Act.put, List.setIfInBounds_toArray, List.set_cons_zero, List.set_cons_succ, i64_w, i32_w]
               rfl
              refine pure_ (i := 12) (N := some 102) (v := undef) (a' := ?_) #[true, true, true, true, true, true, true, true, true, true, true, true, true, false, false, false, false, false, false, false, false, false] rfl rfl (any_of HT_.out (by kernel_rfl)) (fun _ _ _ h => h) (Or.inr ⟨by rfl, rfl⟩) ?_ ?_
              rotate_left
              ·
               simp only [Act.put, List.setIfInBounds_toArray, List.set_cons_zero, List.set_cons_succ, i64_w, i32_w]
               rfl
              refine pure_ (i := 13) (N := some 103) (v := undef) (a' := ?_) #[true, true, true, true, true, true, true, true, true, true, true, true, true, true, false, false, false, false, false, false, false, false] rfl rfl (any_of HT_.out (by kernel_rfl)) (fun _ _ _ h => h) (Or.inr ⟨by rfl, rfl⟩) ?_ ?_
              rotate_left
              ·
               simp only [Act.put, List.setIfInBounds_toArray, List.set_cons_zero, List.set_cons_succ, i64_w, i32_w]
               rfl
              refine pure_ (i := 14) (N := some 104) (v := undef) (a' := ?_) #[true, true, true, true, true, true, true, true, true, true, true, true, true, true, true, false, false, false, false, false, false, false] rfl rfl (any_of HT_.out (by kernel_rfl)) (fun _ _ _ h => h) (Or.inr ⟨by rfl, rfl⟩) ?_ ?_
              rotate_left
              ·
               simp only [Act.put, List.setIfInBounds_toArray, List.set_cons_zero, List.set_cons_succ, i64_w, i32_w]
               rfl
              refine pure_ (i := 15) (N := some 105) (v := undef) (a' := ?_) #[true, true, true, true, true, true, true, true, true, true, true, true, true, true, true, true, false, false, false, false, false, false] rfl rfl (any_of HT_.out (by kernel_rfl)) (fun _ _ _ h => h) (Or.inr ⟨by rfl, rfl⟩) ?_ ?_
              rotate_left
              ·
               simp only [Act.put, List.setIfInBounds_toArray, List.set_cons_zero, List.set_cons_succ, i64_w, i32_w]
               rfl
              refine pure_ (i := 16) (N := some 106) (v := undef) (a' := ?_) #[true, true, true, true, true, true, true, true, true, true, true, true, true, true, true, true, true, false, false, false, false, false] rfl rfl (any_of HT_.out (by kernel_rfl)) (fun _ _ _ h => h) (Or.inr ⟨by rfl, rfl⟩) ?_ ?_
              rotate_left
              ·
               simp only [Act.put, List.setIfInBounds_toArray, List.set_cons_zero, List.set_cons_succ, i64_w, i32_w]
               rfl
              refine pure_ (i := 17) (N := some 107) (v := undef) (a' := ?_) #[true, true, true, true, true, true, true, true, true, true, true, true, true, true, true, true, true, true, false, false, false, false] rfl rfl (any_of HT_.out (by kernel_rfl)) (fun _ _ _ h => h) (Or.inr ⟨by rfl, rfl⟩) ?_ ?_
              rotate_left
              ·
               simp only [Act.put, List.setIfInBounds_toArray, List.set_cons_zero, List.set_cons_succ, i64_w, i32_w]
               rfl
              refine pure_ (i := 18) (N := some 108) (v := undef) (a' := ?_) #[true, true, true, true, true, true, true, true, true, true, true, true, true, true, true, true, true, true, true, false, false, false] rfl rfl (any_of HT_.out (by kernel_rfl)) (fun _ _ _ h => h) (Or.inr ⟨by rfl, rfl⟩) ?_ ?_
              rotate_left
              ·
               simp only [Act.put, List.setIfInBounds_toArray, List.set_cons_zero, List.set_cons_succ, i64_w, i32_w]
               rfl
              refine pure_ (i := 19) (N := some 109) (v := undef) (a' := ?_) #[true, true, true, true, true, true, true, true, true, true, true, true, true, true, true, true, true, true, true, true, false, false] rfl rfl (any_of HT_.out (by kernel_rfl)) (fun _ _ _ h => h) (Or.inr ⟨by rfl, rfl⟩) ?_ ?_
              rotate_left
              ·
               simp only [Act.put, List.setIfInBounds_toArray, List.set_cons_zero, List.set_cons_succ, i64_w, i32_w]
               rfl
              refine pure_ (i := 20) (N := some 110) (v := undef) (a' := ?_) #[true, true, true, true, true, true, true, true, true, true, true, true, true, true, true, true, true, true, true, true, true, false] rfl rfl (any_of HT_.out (by kernel_rfl)) (fun _ _ _ h => h) (Or.inr ⟨by rfl, rfl⟩) ?_ ?_
              rotate_left
              ·
               simp only [Act.put, List.setIfInBounds_toArray, List.set_cons_zero, List.set_cons_succ, i64_w, i32_w]
               rfl
              refine pure_ (i := 21) (N := some 111) (v := ?_) (a' := ?_) #[true, true, true, true, true, true, true, true, true, true, true, true, true, true, true, true, true, true, true, true, true, true] rfl rfl (any_of HT_.out (by kernel_rfl)) (fun _ _ _ h => h) (Or.inl ⟨by rfl, ?_⟩) ?_ ?_
              rotate_left
              ·
               intro w'
               go_simp
               with_reducible rfl
              rotate_left
              ·
               simp only [Act.put, List.setIfInBounds_toArray, List.set_cons_zero, List.set_cons_succ, i64_w, i32_w]
               rfl
              refine done_ (done_of HT_.out (by kernel_rfl)) ?_
              try go_wp2
              go_meet
              case rel => exact ⟨_, (true), rS, H', ⟨by have := HJ5.out; have := HK2.out; have := HK3.out; first | omega | exact Nat.le_refl _⟩, ⟨sU HO_4.out⟩, ⟨sU HO_8.out⟩, ⟨rU HO_Z0.out⟩, ⟨rU HO_Z1.out⟩, ⟨rU HO_Z2.out⟩, ⟨rU HO_Z3.out⟩, ⟨kU BK811.out⟩, ⟨kU BK819.out⟩, ⟨by repeat (first | (with_reducible exact HR802_1.out) | (with_reducible refine Kd.C_alloc ?_ _) | (with_reducible refine Kd.C_drewN ?_ _) | (with_reducible refine Kd.C_drew ?_) | exact HR802_1.out)⟩, ⟨bU2 HB.out GE811.out GE819.out⟩⟩
            case rest =>
             clear HC52; (try clear p2); (try clear c3); (try clear c5); (try clear c6); (try clear c8); (try clear c35); (try clear c54); (try clear c55); (try clear c56); (try clear c56b0); (try clear c57); (try clear c58); (try clear c60); (try clear c61); obtain ⟨kq, x111_51, rfl, HA, HJ51, HO_4, HO_8, HO_Z0, HO_Z1, HO_Z2, HO_Z3, BK811, BK819, HR802_1, HB⟩ := hcut
             cases kq with
             | zero => exact absurd HA.out (by simp [laws_FnTreeAll.j3])
             | succ kj51 =>
              have H := HA.out; clear HA; simp only [laws_FnTreeAll.j3] at H
              by_cases c68 : x111_51 = true
              ·
               subst c68
               have H1 : (some false) = some r := by rw [if_pos rfl] at H; exact H
               clear H; have H := H1; clear H1; obtain rfl := Option.some.inj H
               go_wp2
               go_ret
               exact ⟨rE, bU2 HB.out GE811.out GE819.out⟩
              ·
               replace c68 := Bool.eq_false_iff.mpr c68; subst c68
               have H1 : (if x15_3 = true then (if x8_2.length < 2932031007402 then (laws_FnTreeAll.l0 kj51 t786 t787 (x8_2 ++ [(⟨t812, t815⟩ : S29)]) (wrap64 (x9_2 + 1))) else (none)) else (laws_FnTreeAll.l0 kj51 t786 t787 x8_2 (wrap64 (x9_2 + 1)))) = some r := by rw [if_neg (show ¬ (false = true) by decide)] at H; exact H
               clear H; have H := H1; clear H1
               by_cases c69 : x15_3 = true
               ·
                subst c69
                have H1 : (if x8_2.length < 2932031007402 then (laws_FnTreeAll.l0 kj51 t786 t787 (x8_2 ++ [(⟨t812, t815⟩ : S29)]) (wrap64 (x9_2 + 1))) else (none)) = some r := by rw [if_pos rfl] at H; exact H
                clear H; have H := H1; clear H1
                by_cases c70 : x8_2.length < 2932031007402
                ·
                 rw [if_pos c70] at H; have LMc70 := Az c70; clear c70; obtain ⟨y825, hy825⟩ : ∃ y_ : List (S29), y_ = (x8_2 ++ [(⟨t812, t815⟩ : S29)]) := ⟨_, rfl⟩; replace H : (laws_FnTreeAll.l0 kj51 t786 t787 y825 (wrap64 (x9_2 + 1))) = some r := hR hy825 H; have Ny825 := Az hy825; clear hy825; have H' := Az H; clear H; have hnb71 := NB819_811.out; have hnc71 := NB811_819.out; have hcz72_0 : wc.cell? ⟨gb819, 0, none⟩ = some (.slice Ao39 t812.length co39) := (blk_cell BK819.out 0).trans rfl; have hcz72_1 : wc.cell? ⟨gb819, 1, none⟩ = some (.slice Ao42 t815.length co42) := (blk_cell BK819.out 1).trans rfl; have hfz72_0 := blk_frozen BK819.out 0; have hfz72_1 := blk_frozen BK819.out 1
                 go_wp2_with (first | ((with_reducible refine gate_builtin (b := .append) (xs := #[.tmp 113, .tmp 115]) rfl ?_); (try (refine gate_guard (by rfl) ?_; dsimp only)); at_builtin; refine Kd.S_append k29 (w0 := w) w.heap.size rfl (.tmp 113) (.tmp 115) 50 29 (.agg #[(.slice none 0 0), (.slice none 0 0)]) 48 rfl Try.underlying50 info29 rfl (by decide) (by omega) (.slice Ao53 x8_2.length co53) x8_2 (⟨t812, t815⟩ : S29) [.slice Ao39 t812.length co39, .slice Ao42 t815.length co42] (fun k_ => some k_ ≠ (.slice Ao34 t803.length co34 : Value).ownBlock ∧ some k_ ≠ (.slice Ao36 t806.length co36 : Value).ownBlock ∧ k_ ≠ gb811 ∧ k_ ≠ gb819) (fun k_ => some k_ = (.slice Ao39 t812.length co39 : Value).ownBlock ∨ some k_ = (.slice Ao42 t815.length co42 : Value).ownBlock) rfl rfl ?aP (fun k_ hk_ => hk_.elim (fun h_ => ((Kd.R_mono (ok' := fun k_ => ((fun k_ => some k_ ≠ (.slice Ao34 t803.length co34 : Value).ownBlock ∧ some k_ ≠ (.slice Ao36 t806.length co36 : Value).ownBlock ∧ k_ ≠ gb811 ∧ k_ ≠ gb819)) k_ ∧ some k_ ≠ (.slice Ao53 x8_2.length co53 : Value).ownBlock) (Kd.R_types (Kd.R_types (Kd.R_apart' (HO_Z2.out) (Kd.S_typed HO_8.out) (by decide)) BK811.out (by decide)) BK819.out (by decide)) (fun k_ hk => ⟨⟨hk.1.1.1.1, ⟨hk.1.1.1.2.1, ⟨hk.1.2, hk.2⟩⟩⟩, hk.1.1.2⟩))).1 k_ h_.symm) (fun h_ => ((Kd.R_mono (ok' := fun k_ => ((fun k_ => some k_ ≠ (.slice Ao34 t803.length co34 : Value).ownBlock ∧ some k_ ≠ (.slice Ao36 t806.length co36 : Value).ownBlock ∧ k_ ≠ gb811 ∧ k_ ≠ gb819)) k_ ∧ some k_ ≠ (.slice Ao53 x8_2.length co53 : Value).ownBlock) (Kd.R_types (Kd.R_types (Kd.R_apart' (HO_Z3.out) (Kd.S_typed HO_8.out) (by decide)) BK811.out (by decide)) BK819.out (by decide)) (fun k_ hk => ⟨⟨hk.1.1.1.1, ⟨hk.1.1.1.2.1, ⟨hk.1.2, hk.2⟩⟩⟩, hk.1.1.2⟩))).1 k_ h_.symm)) ?aF ?aO ?aB ?aS ?aL ?_; (case aP => exact k29_mkM _ _ _ (⟨t812, t815⟩ : S29) (Kd.R_mono (Kd.R_tight rfl (Kd.R_mono (ok' := fun k_ => ((fun k_ => some k_ ≠ (.slice Ao34 t803.length co34 : Value).ownBlock ∧ some k_ ≠ (.slice Ao36 t806.length co36 : Value).ownBlock ∧ k_ ≠ gb811 ∧ k_ ≠ gb819)) k_ ∧ some k_ ≠ (.slice Ao53 x8_2.length co53 : Value).ownBlock) (Kd.R_types (Kd.R_types (Kd.R_apart' (HO_Z2.out) (Kd.S_typed HO_8.out) (by decide)) BK811.out (by decide)) BK819.out (by decide)) (fun k_ hk => ⟨⟨hk.1.1.1.1, ⟨hk.1.1.1.2.1, ⟨hk.1.2, hk.2⟩⟩⟩, hk.1.1.2⟩))) (fun _ h_ => Or.inl h_)) (Kd.R_mono (Kd.R_tight rfl (Kd.R_mono (ok' := fun k_ => ((fun k_ => some k_ ≠ (.slice Ao34 t803.length co34 : Value).ownBlock ∧ some k_ ≠ (.slice Ao36 t806.length co36 : Value).ownBlock ∧ k_ ≠ gb811 ∧ k_ ≠ gb819)) k_ ∧ some k_ ≠ (.slice Ao53 x8_2.length co53 : Value).ownBlock) (Kd.R_types (Kd.R_types (Kd.R_apart' (HO_Z3.out) (Kd.S_typed HO_8.out) (by decide)) BK811.out (by decide)) BK819.out (by decide)) (fun k_ hk => ⟨⟨hk.1.1.1.1, ⟨hk.1.1.1.2.1, ⟨hk.1.2, hk.2⟩⟩⟩, hk.1.1.2⟩))) (fun _ h_ => Or.inr (h_)))); (case aB => exact (bU2 HB.out GE811.out GE819.out)); (case aF => exact (fun k_ hk => ⟨Kd.fresh' (Kd.R_lt (rU HO_Z0.out)) k_ hk, Kd.fresh' (Kd.R_lt (rU HO_Z1.out)) k_ hk, Kd.freshB (g := gb811) (o := .cells #[.slice Ao34 t803.length co34, .slice Ao36 t806.length co36] 29 (0, 0)) (kU BK811.out) k_ hk, Kd.freshB (g := gb819) (o := .cells #[.slice Ao39 t812.length co39, .slice Ao42 t815.length co42] 29 (0, 0)) (kU BK819.out) k_ hk⟩)); (case aO => exact (by (with_reducible repeat (first | apply Kd.S_alloc | apply Kd.S_drewN | apply Kd.S_drew)); exact Kd.S_mono HO_8.out (fun k_ hk => ⟨⟨hk.1, ⟨hk.2.1, ⟨hk.2.2.2.2.1, hk.2.2.2.2.2⟩⟩⟩, fun e_ => e_.elim (fun h_ => hk.2.2.1 h_) (fun h_ => hk.2.2.2.1 h_)⟩))); (case aS => exact (below_size (bU2 HB.out GE811.out GE819.out))); (case aL => have := LMc70.out; omega); intro v826 w73 ho hb hg hat; rw [← Ny825.out] at ho; have n0 := Az (Kd.S_over' (sU HO_4.out) (Kd.S_typed (sU HO_8.out)) (by decide) hg); have n1 := Az (Kd.R_over' (rU HO_Z0.out) (Kd.S_typed (sU HO_8.out)) (by decide) hg); have n2 := Az (Kd.R_over' (rU HO_Z1.out) (Kd.S_typed (sU HO_8.out)) (by decide) hg); have n3 := Az (blk_grown (g := gb811) (o := .cells #[.slice Ao34 t803.length co34, .slice Ao36 t806.length co36] 29 (0, 0)) (kU BK811.out) hg (Kd.S_away HO_8.out (fun _ hk => hk.2.2.2.2.1))); have n4 := Az (blk_grown (g := gb819) (o := .cells #[.slice Ao39 t812.length co39, .slice Ao42 t815.length co42] 29 (0, 0)) (kU BK819.out) hg (Kd.S_away HO_8.out (fun _ hk => hk.2.2.2.2.2))); have n5 := Az (hb); have n6 := Az (ho); clear HO_4 HO_Z0 HO_Z1 BK811 BK819 HB HO_8 HO_Z2 HO_Z3; have HO_4 := n0; have HO_Z0 := n1; have HO_Z1 := n2; have BK811 := n3; have BK819 := n4; have HB := n5; have HO827 := n6; clear n0 n1 n2 n3 n4 n5 n6; clear ho hb hg hat))
                 (first | go_roundg kj51 | (refine Handed.intro kj51 ?measure ?_; rotate_left; go_step; (try simp only [add_plain]); (repeat apply Exists.intro); refine ⟨?rel, rfl⟩))
                 case measure => have := HJ5.out; have := HK2.out; have := HK3.out; have := HJ51.out; omega
                 case rel => exact ⟨(y825), (wrap64 (x9_2 + 1)), rS, H', ⟨by have := HJ5.out; have := HK2.out; have := HK3.out; have := HJ51.out; omega⟩, ⟨by (with_reducible repeat (first | apply Kd.S_alloc | apply Kd.S_drewN | apply Kd.S_drew)); exact Kd.S_mono HO_4.out (fun _ hk => trivial)⟩, ⟨by (with_reducible repeat (first | apply Kd.S_alloc | apply Kd.S_drewN | apply Kd.S_drew)); exact Kd.S_mono HO827.out (fun _ hk => trivial)⟩, ⟨bU2 HB.out GE811.out GE819.out⟩⟩
                ·
                 rw [if_neg c70] at H
                 exact absurd H (by simp)
               ·
                replace c69 := Bool.eq_false_iff.mpr c69; subst c69
                have H1 : (laws_FnTreeAll.l0 kj51 t786 t787 x8_2 (wrap64 (x9_2 + 1))) = some r := by rw [if_neg (show ¬ (false = true) by decide)] at H; exact H
                clear H; have H := H1; clear H1; have H' := Az H; clear H
                go_wp2
                (first | go_roundg kj51 | (refine Handed.intro kj51 ?measure ?_; rotate_left; go_step; (try simp only [add_plain]); (repeat apply Exists.intro); refine ⟨?rel, rfl⟩))
                case measure => have := HJ5.out; have := HK2.out; have := HK3.out; have := HJ51.out; omega
                case rel => exact ⟨(x8_2), (wrap64 (x9_2 + 1)), rS, H', ⟨by have := HJ5.out; have := HK2.out; have := HK3.out; have := HJ51.out; omega⟩, ⟨by (with_reducible repeat (first | apply Kd.S_alloc | apply Kd.S_drewN | apply Kd.S_drew)); exact Kd.S_mono HO_4.out (fun _ hk => trivial)⟩, ⟨by (with_reducible repeat (first | apply Kd.S_alloc | apply Kd.S_drewN | apply Kd.S_drew)); exact Kd.S_mono HO_8.out (fun _ hk => trivial)⟩, ⟨bU2 HB.out GE811.out GE819.out⟩⟩
        ·
         rw [if_neg c28] at H
         exact absurd H (by simp)
       ·
        rw [if_neg c27] at H; have c27b0 := decide_eq_false c27; clear c27; replace H := Option.bind_eq_some_iff.mp H; obtain ⟨t800, A740, H⟩ := H; replace H : (if (t787.length : Int) = t800 then ((impl_RootedPlane.f k2 t786).bind fun t801 => (some ((x8_2.length : Int) == t801))) else (some false)) = some r := H; have A74 := Az A740; clear A740
        by_cases c75 : (t787.length : Int) = t800
        ·
         rw [if_pos c75] at H; have c75b0 := beq_iff_eq.mpr c75; have c75b1 := bne_eq_false_iff_eq.mpr c75; clear c75; replace H := Option.bind_eq_some_iff.mp H; obtain ⟨t801, A760, H⟩ := H; replace H : (some ((x8_2.length : Int) == t801)) = some r := H; have A76 := Az A760; clear A760; obtain rfl := Option.some.inj H; obtain ⟨Ao77, co77, eo77⟩ := Kd.S_slice HO_4.out; subst eo77
         go_wp2_with (first | ((with_reducible refine gate_callee (f := 36) rfl ?_); refine goesL_ (some 120) rfl rfl Try.func36 (by kernel_rfl) rfl #[.int .i64 t786] rfl (by (try simp only [List.map_toArray, List.map_cons, List.map_nil]); first | done | rfl | (simp only [List.length_drop, List.length_take]; rfl)) ?_; (with_reducible refine (impl_TreesMany.calls k2 t786 t800 _ A74.out).mono ?_); rintro e w' ⟨rfl, ⟨nd, rfl⟩⟩; refine ⟨_, rfl, ?_⟩; obtain ⟨Ao78, co78, eo78⟩ := Kd.S_slice HO_8.out; subst eo78) | (go_at_call 37; (with_reducible refine (impl_RootedPlane.calls k2 t786 t801 _ A76.out).mono ?_); rintro e w' ⟨rfl, ⟨nd, rfl⟩⟩))
         go_ret
         exact ⟨rE, bU0 HB.out⟩
        ·
         rw [if_neg c75] at H; have c75b0 := beq_eq_false_iff_ne.mpr c75; have c75b1 := bne_iff_ne.mpr c75; obtain rfl := Option.some.inj H; obtain ⟨Ao79, co79, eo79⟩ := Kd.S_slice HO_4.out; subst eo79
         go_wp2_with (first | ((with_reducible refine gate_callee (f := 36) rfl ?_); refine goesL_ (some 120) rfl rfl Try.func36 (by kernel_rfl) rfl #[.int .i64 t786] rfl (by (try simp only [List.map_toArray, List.map_cons, List.map_nil]); first | done | rfl | (simp only [List.length_drop, List.length_take]; rfl)) ?_; (with_reducible refine (impl_TreesMany.calls k2 t786 t800 _ A74.out).mono ?_); rintro e w' ⟨rfl, ⟨nd, rfl⟩⟩; refine ⟨_, rfl, ?_⟩))
         go_ret
         exact ⟨rE, bU0 HB.out⟩
def laws_FnTreeAll.Pure : Prop := ∀ (l0 : List Int), l0.length ≤ maxLen → l0.length * 1 ≤ 140737488351232 → (∀ x ∈ l0, (Lit.int .u8 x).wf = true) → ∃ k, laws_FnTreeAll.f k l0 = some true
theorem laws_FnTreeAll.walk (P : laws_FnTreeAll.Pure) (a0 : Option Addr) (len0 cap0 : Nat) (z0 : List Int) (w : World) (w0 : (a0 = none ∧ len0 = 0 ∧ cap0 = 0 ∧ z0 = []) ∨ ∃ x, a0 = some x ∧ len0 ≤ cap0 ∧ cap0 ≤ maxLen ∧ z0.length = cap0 ∧ (∀ i, i < z0.length → w.cell? (x.add i) = some (.int .u8 (z0.getD i 0))) ∧ ∀ n ∈ z0, (Lit.int .u8 n).wf = true) (y0 : len0 * 1 ≤ 140737488351232) :
  Calls Try.prog 5 #[.slice a0 len0 cap0] w fun e w' => e = .returned (.bool true) ∧ Below w.heap.size w w' := by
 obtain ⟨l0, rfl, hr0, hm0, hw0, hc0⟩ := ReadsInt.ofRowC w0; obtain ⟨k, h⟩ := P l0 hm0 y0 hw0
 refine (laws_FnTreeAll.calls k _ _ l0 true w (Kd.C_of_reads (d := (0 : Int)) (h1 := fun _ => rfl) hr0) hc0 h).mono ?_
 rintro e w' ⟨rfl, hd⟩
 exact ⟨rfl, hd⟩
end Go.Proofs.Ytlpbalebodlipaa.PG

set_option linter.unusedVariables false
set_option linter.unusedSimpArgs false
namespace Go.Proofs.Ytlpbalebodlipaa.PG
open Go.RowKit Go.Proofs.YtlpbalebodlipaaW.PrintWords Go.Proofs.YtlpbalebodlipaaW.PrintLast Go.Proofs.YtlpbalebodlipaaW.PrintMore
theorem Ev.s {α : Type} {g : Nat → Option α} {r : α} (h : Ev (fun k => g (k + 1)) r) : Ev g r := Ev.step (fun _ => rfl) h
theorem Ev.const {α : Type} {o : Option α} {r : α} (h : o = some r) : Ev (fun _ => o) r := ⟨0, fun _ _ => h⟩
theorem w64 {x : Int} (h1 : -9223372036854775808 ≤ x) (h2 : x < 9223372036854775808) : wrap64 x = x := by unfold wrap64; omega
theorem xor_nonneg (a b : Int) (ha : 0 ≤ a) (hb : 0 ≤ b) (ha' : a < 9223372036854775808) (hb' : b < 9223372036854775808) : 0 ≤ Go.bits .xor .i64 a b := by
  obtain ⟨n, rfl⟩ := Int.eq_ofNat_of_zero_le ha
  obtain ⟨m, rfl⟩ := Int.eq_ofNat_of_zero_le hb
  have hn : n % 2 ^ 64 = n := Nat.mod_eq_of_lt (by omega)
  have hm : m % 2 ^ 64 = m := Nat.mod_eq_of_lt (by omega)
  have hx : n ^^^ m < 2 ^ 63 := Nat.xor_lt_two_pow (by omega) (by omega)
  have e : Go.bits .xor .i64 (n : Int) (m : Int) = IntKind.i64.wrap ((n ^^^ m : Nat) : Int) := by
    simp only [Go.bits, BitVec.ofInt_natCast]
    show IntKind.i64.wrap (((BitVec.ofNat 64 n ^^^ BitVec.ofNat 64 m).toNat : Nat) : Int) = _
    rw [BitVec.toNat_xor, BitVec.toNat_ofNat, BitVec.toNat_ofNat, hn, hm]
  rw [e, IntKind.wrap_i64]
  omega
def bytesOk (l : List Int) : Prop := l.length ≤ 2000 ∧ ∀ x ∈ l, 0 ≤ x ∧ x ≤ 255
theorem rd_byte (l : List Int) (h : bytesOk l) (i : Int) : 0 ≤ rd l i ∧ rd l i ≤ 255 := by
  unfold rd
  by_cases hi : i.toNat < l.length
  · rw [List.getD_eq_getElem?_getD, List.getElem?_eq_getElem hi]
    exact h.2 _ (List.getElem_mem hi)
  · rw [List.getD_eq_getElem?_getD, List.getElem?_eq_none (by omega)]
    decide
theorem pick_ev (l : List Int) (h : bytesOk l) (p : Int) (hp : 0 ≤ p) (hp' : p ≤ 1000000) (n : Int) (hn : 1 ≤ n) (hn' : n ≤ 1000000) : ∃ v, Ev (fun k => spec_l6Rd_pick.f k l p n) (v, p + 1) ∧ 0 ≤ v ∧ v < n := by
  have w0 : wrap64 (p + 1) = p + 1 := w64 (by omega) (by omega)
  have w1 : wrap64 (p + 1 - 1) = p := by rw [w64 (by omega) (by omega)]; omega
  have hl := h.1
  unfold spec_l6Rd_pick.f
  simp only [show ¬ n < 1 by omega, if_false, w0]
  by_cases hz : l.length = 0
  · refine ⟨0, Ev.s ?_, by omega, by omega⟩
    have : (((l.length : Int)) == 0) = true := by simp [hz]
    simp only [this, spec_l6Rd_pick.j0, if_true]
    exact Ev.const rfl
  · have hb : (((l.length : Int)) == 0) = false := by rw [beq_eq_false_iff_ne]; omega
    have hn0 : ¬ n = 0 := by omega
    by_cases hlt : p < (l.length : Int)
    · have hr := rd_byte l h p
      have wr : wrap64 (rd l p) = rd l p := w64 (by omega) (by omega)
      refine ⟨Int.tmod (rd l p) n, Ev.s ?_, Int.tmod_nonneg _ (by omega), Int.tmod_lt_of_pos _ (by omega)⟩
      simp only [hb, spec_l6Rd_pick.j0, w1, hlt, hp, hn0, wr, Bool.false_eq_true, if_true, if_false]
      exact Ev.const rfl
    · have hl0 : ¬ (l.length : Int) = 0 := by omega
      have wk : wrap64 (p * 7) = p * 7 := w64 (by omega) (by omega)
      have wk3 : wrap64 (p * 7 + 3) = p * 7 + 3 := w64 (by omega) (by omega)
      have t1 := Int.tmod_nonneg (a := p) (l.length : Int) hp
      have t2 := Int.tmod_lt_of_pos p (b := (l.length : Int)) (by omega)
      have t3 := Int.tmod_nonneg (a := p * 7 + 3) (l.length : Int) (by omega)
      have t4 := Int.tmod_lt_of_pos (p * 7 + 3) (b := (l.length : Int)) (by omega)
      have r1 := rd_byte l h (Int.tmod p (l.length : Int))
      have r2 := rd_byte l h (Int.tmod (p * 7 + 3) (l.length : Int))
      have d1 : 0 ≤ Int.tdiv p (l.length : Int) := Int.tdiv_nonneg hp (by omega)
      have d2 : Int.tdiv p (l.length : Int) ≤ p := Int.tdiv_le_self _ hp
      obtain ⟨X, hX, hX0, hX1⟩ : ∃ X, (wrap64 ((wrap64 ((wrap64 ((wrap64 ((wrap64 (rd l (Int.tmod p (l.length : Int)))) * 131)) + (wrap64 ((wrap64 (rd l (Int.tmod (p * 7 + 3) (l.length : Int)))) * 1117)))) + (wrap64 (p * 29)))) + (wrap64 ((wrap64 (Int.tdiv p (l.length : Int))) * 53)))) = X ∧ 0 ≤ X ∧ X < 4611686018427387904 := by
        refine ⟨_, rfl, ?_, ?_⟩
        all_goals
          generalize rd l (Int.tmod p (l.length : Int)) = a at *
          generalize rd l (Int.tmod (p * 7 + 3) (l.length : Int)) = b at *
          generalize Int.tdiv p (l.length : Int) = c at *
          rw [w64 (x := a) (by omega) (by omega), w64 (x := b) (by omega) (by omega), w64 (x := a * 131) (by omega) (by omega), w64 (x := b * 1117) (by omega) (by omega), w64 (x := a * 131 + b * 1117) (by omega) (by omega), w64 (x := p * 29) (by omega) (by omega), w64 (x := a * 131 + b * 1117 + p * 29) (by omega) (by omega), w64 (x := c) (by omega) (by omega), w64 (x := c * 53) (by omega) (by omega), w64 (x := a * 131 + b * 1117 + p * 29 + c * 53) (by omega) (by omega)]
          omega
      have hd : 0 ≤ wrap64 (Int.tdiv X 64) ∧ wrap64 (Int.tdiv X 64) < 9223372036854775808 := by
        have := Int.tdiv_nonneg hX0 (show (0 : Int) ≤ 64 by decide)
        have := Int.tdiv_le_self 64 hX0
        rw [w64 (by omega) (by omega)]
        omega
      have hx := xor_nonneg X (wrap64 (Int.tdiv X 64)) hX0 hd.1 (by omega) hd.2
      refine ⟨Int.tmod (Go.bits .xor .i64 X (wrap64 (Int.tdiv X 64))) n, Ev.s ?_, Int.tmod_nonneg _ hx, Int.tmod_lt_of_pos _ (by omega)⟩
      simp only [hb, spec_l6Rd_pick.j0, w1, hlt, hl0, wk, wk3, t1, t2, t3, t4, hn0, hX, Bool.false_eq_true, if_true, if_false]
      exact Ev.const rfl
theorem open_ev (l : List Int) (hb : ∀ x ∈ l, (Lit.int .u8 x).wf = true) : ∃ l', spec_l6Open.f l = some (l', 0) ∧ bytesOk l' := by
  have hb' : ∀ x ∈ l, 0 ≤ x ∧ x ≤ 255 := by
    intro x hx
    have := hb x hx
    simp only [Lit.wf, IntKind.min, IntKind.max, IntKind.signed, IntKind.bits, Bool.and_eq_true, decide_eq_true_eq, Bool.false_eq_true, if_false] at this
    omega
  unfold spec_l6Open.f
  by_cases h : (l.length : Int) > 2000
  · refine ⟨l.take 2000, ?_, ?_, fun x hx => hb' x (List.mem_of_mem_take hx)⟩
    · rw [if_pos h, if_pos (by omega)]
    · rw [List.length_take]; omega
  · exact ⟨l, by rw [if_neg h], by omega, hb'⟩
end Go.Proofs.Ytlpbalebodlipaa.PG

set_option linter.unusedVariables false
set_option linter.unusedSimpArgs false
namespace Go.Proofs.Ytlpbalebodlipaa.Pure
open Go.RowKit Go.Proofs.Ytlpbalebodlipaa.PG Go.Proofs.YtlpbalebodlipaaW.PrintWords Go.Proofs.YtlpbalebodlipaaW.PrintLast Go.Proofs.YtlpbalebodlipaaW.PrintMore
theorem unbind {α β : Type} {g : Nat → Option α} {f : Nat → α → Option β} {a : α} {r : β} (h : Ev (fun n => (g n).bind (f n)) r) (hg : Ev g a) : Ev (fun n => f n a) r := by
  obtain ⟨K, h⟩ := h
  obtain ⟨K', hg⟩ := hg
  refine ⟨max K K', fun n hn => ?_⟩
  have h1 := h n (by omega)
  have h2 := hg n (by omega)
  simp only [h2, Option.bind_some] at h1
  exact h1
def body (k : Nat) (v : Int) : Option Bool := (impl_TreeAll.f k v).bind fun bt585 => ((spec_TreeAll.f k v).bind fun bt589 => (if (bt585.2 != bt589.2) = true then (laws_FnTreeAll.j0 k v bt585.1 bt585.2 bt589.1 bt589.2 true) else ((laws_sameTrees.f k bt585.1 bt589.1).bind fun t593 => (if t593 = true then (laws_FnTreeAll.j0 k v bt585.1 bt585.2 bt589.1 bt589.2 (!bt585.2)) else (laws_FnTreeAll.j0 k v bt585.1 bt585.2 bt589.1 bt589.2 true)))))
theorem law_body (k : Nat) (l : List Int) (hl : ¬ (l.length : Int) > 1048576) : laws_FnTreeAll.f k l = (spec_DrawTreeAll.f k l).bind (body k) := by
  unfold laws_FnTreeAll.f
  rw [if_neg hl]
  rfl
theorem one (v : Int) (h : laws_FnTreeAll.f 400 [v] = some true) (hd : spec_DrawTreeAll.f 400 [v] = some v) : Ev (fun k => body k v) true := by
  have h1 := Ev.of (fun k => laws_FnTreeAll.mono [v] k) h
  have h2 : Ev (fun k => (spec_DrawTreeAll.f k [v]).bind (body k)) true := by
    obtain ⟨K, h1⟩ := h1
    exact ⟨K, fun k hk => (law_body k [v] (by simp)).symm.trans (h1 k hk)⟩
  exact unbind h2 (Ev.of (fun k => spec_DrawTreeAll.mono [v] k) hd)
theorem one0 : Ev (fun k => body k 0) true := one 0 (by decide +kernel) (by decide +kernel)
theorem one1 : Ev (fun k => body k 1) true := one 1 (by decide +kernel) (by decide +kernel)
theorem one2 : Ev (fun k => body k 2) true := one 2 (by decide +kernel) (by decide +kernel)
theorem one3 : Ev (fun k => body k 3) true := one 3 (by decide +kernel) (by decide +kernel)
theorem FnTreeAll : laws_FnTreeAll.Pure := by
  intro c _ _ hc
  by_cases hs : (c.length : Int) > 1048576
  · exact ⟨0, by unfold laws_FnTreeAll.f; rw [if_pos hs]⟩
  · obtain ⟨c', ho, hb'⟩ := open_ev c hc
    obtain ⟨v, hv, v0, v1⟩ := pick_ev c' hb' 0 (by omega) (by omega) 4 (by omega) (by omega)
    have hd : Ev (fun k => spec_DrawTreeAll.f k c) v := by
      unfold spec_DrawTreeAll.f
      simp only [ho, Option.bind_some]
      exact Ev.bind hv (Ev.const rfl)
    have hb : Ev (fun k => body k v) true := by
      have : v = 0 ∨ v = 1 ∨ v = 2 ∨ v = 3 := by omega
      rcases this with rfl | rfl | rfl | rfl
      · exact one0
      · exact one1
      · exact one2
      · exact one3
    obtain ⟨K, h⟩ := Ev.bind (f := fun k => body k) hd hb
    exact ⟨K, by rw [law_body K c hs]; exact h K (Nat.le_refl _)⟩
end Go.Proofs.Ytlpbalebodlipaa.Pure

namespace Go.Proofs.Ytlpbalebodlipaa.fnTreeAll
open Go.ChangeShapes Go.WideShapes Go.ChangeAt Go.RowKit
open Go.ChangeMaps (open_string shut_string)
set_option linter.unusedVariables false
theorem own : ownKnob Try.prog.godebug = none := by kernel_rfl
theorem laidOut : laidOutB Try.prog = true := by kernel_rfl
def IsRow (k : IntKind) (w : World) (a : Option Addr) (len cap : Nat) (zs : List Int) : Prop :=
 (a = none ∧ len = 0 ∧ cap = 0 ∧ zs = []) ∨
 ∃ x, a = some x ∧ len ≤ cap ∧ cap ≤ maxLen ∧ zs.length = cap ∧ (∀ i, i < zs.length → w.cell? (x.add i) = some (.int k (zs.getD i 0))) ∧ ∀ n ∈ zs, (Lit.int k n).wf = true
set_option maxRecDepth 100000 in
theorem lifted (os : Os) (started : os.Started) (H : Type) (enc : TypeId × Value → H) :
  ReturnsInHanded {} Try.checked os 5 .any (Rows.fnTreeAllSpec.pre6 enc Try.prog Try.f5 Rows.fnTreeAllRow.domain false) (Rows.fnTreeAllSpec.post enc Try.prog Try.f5 false true false false) := by
 refine returnsInHanded_of_change_sized (C := Try.checked) own started (by kernel_rfl) Try.func5
  (ChangeSpec.witness6 (enc := enc) (C := Try.checked) false ⟨#[], #[.slice none 0 0], []⟩ 8 (by kernel_rfl) (by kernel_rfl) (by kernel_rfl) (by kernel_rfl)) ?_
 intro W base args ds gs before hval0 hW hcnd hsz0 _
 have hsz : (DataW.weightsEach Try.prog (Try.f5.params.toList ++ Rows.fnTreeAllSpec.plain.varTypes Try.prog) (ds ++ gs)).all (· ≤ reachBytes) = true := hsz0
 have hval : ∀ (j : Nat) t v, Try.f5.params[j]? = some t → args[j]? = some v → Value.okWide Try.prog W .any base t v := hval0
 have hW' := hW
 obtain ⟨p, q, hA0, hV, rfl, hfz, hnd⟩ := hW
 have hA : DataW.TrodAll enc Try.prog W 0 (fun _ => true) true Try.f5.params.toList args.toList ds p := hA0
 rw [Try.params5] at hA hval hsz
 obtain ⟨v0, vs0, d0, ds0, p0, q0, hargs, rfl, rfl, h0, r0⟩ := trodAll_cons hA
 obtain ⟨rfl, rfl, rfl⟩ := trodAll_nil r0
 obtain rfl : args = #[v0] := by cases args; simp_all
 obtain ⟨rfl, rfl⟩ := trodVars_none hV
 obtain ⟨a0, len0, cap0, rfl⟩ := okWide_slice Try.underlying22 (hval 0 22 v0 rfl rfl)
 have k0 := h0
 have lt0 : ∀ x ∈ p0, x.block < W.heap.size := by obtain ⟨m, hm⟩ := k0; exact DataW.trod_lt m _ _ _ hm
 obtain ⟨z0, w0⟩ : ∃ zs, IsRow .u8 W a0 len0 cap0 zs := by
  obtain ⟨fuel, hf⟩ := h0
  rcases open_ints Try.underlying22 Try.underlying5 (by kernel_rfl) hf with ⟨hcs, _⟩ | ⟨x, l, c, zs, hcs, _, hl, hm, hz, _, hcell, hwz⟩
  ·
   simp [Value.cells] at hcs
   obtain ⟨rfl, rfl, rfl⟩ := hcs
   exact ⟨[], .inl ⟨rfl, rfl, rfl, rfl⟩⟩
  ·
   simp [Value.cells] at hcs
   obtain ⟨rfl, rfl, rfl⟩ := hcs
   exact ⟨zs, .inr ⟨_, rfl, hl, hm, by simpa using hz, hcell, hwz⟩⟩
 have y0 : len0 * 1 ≤ 140737488351232 := Go.Proofs.YtlpbalebodlipaaW.PrintWords.sized_ints hsz (j := 0) (t := 22) rfl rfl Try.underlying22 Try.underlying5 (by kernel_rfl) (by kernel_rfl) h0
 clear hA0 hval0 hsz0 hsz
 refine (PG.laws_FnTreeAll.walk Pure.FnTreeAll a0 len0 cap0 z0 W w0 y0).mono fun e W' ⟨he, bel⟩ => ?_
 subst he
 exact ⟨_, rfl, _, _, _, [], _, [], hW', trodAll_mk1 (shut_bool Try.underlying4 _), (trodAll_cons_mk (Below.trod laidOut (by kernel_rfl) (of_decide_eq_true (by kernel_rfl)) k0 bel lt0) trodAll_mk0), rfl, bel.frame _, fun h => by cases h⟩
theorem over : Rows.fnTreeAllRow.holds Try.pinned (OpenSpec.ofChange Rows.fnTreeAllSpec) :=
 OpenClaim.holds_of_wide 5 Try.f5 rfl rfl rfl rfl rfl rfl rfl ⟨rfl, rfl, rfl, rfl, rfl⟩ rfl rfl rfl rfl rfl (by kernel_rfl) Try.func5 (by kernel_rfl)
  (of_decide_eq_true (by kernel_rfl)) (by unfold Func.isWrapper; first | (rw [if_pos (by decide +kernel)]; kernel_rfl) | (rw [if_neg (by decide +kernel)]; exact ⟨rfl, rfl⟩))
  (fun os started H enc _ => lifted os started H enc)
theorem proved : Rows.FnTreeAllSaid := over
#print axioms proved
end Go.Proofs.Ytlpbalebodlipaa.fnTreeAll
namespace Go.Proofs.Ytlpbalebodlipaa
theorem fnTreeAll_holds : Rows.FnTreeAllSaid := fnTreeAll.proved
end Go.Proofs.Ytlpbalebodlipaa
