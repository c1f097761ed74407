/- Characters count factorizations: what FnFactorEach says holds of all codes. There are no conditions beside the given row's own. -/
import Derived.Test.YtggghijamfmenaaKFnFactorEachOwnx1
namespace Go.Proofs.Ytggghijamfmenaa.PN
open Go.RowKit Go.Proofs.YtggghijamfmenaaW.PrintWords Go.Proofs.YtggghijamfmenaaW.PrintLast Go.Proofs.YtggghijamfmenaaW.PrintMore
attribute [local go_sem] max2_int min2_int max_two min_two max_three min_three max_four min_four   -- for this text's walks alone
set_option linter.unusedVariables false
set_option linter.unusedSimpArgs false
def spec_l2Order.l0 : Nat → List Int → List Int → Int → Option (Int)
 | 0, _, _, _ => none
 | k + 1, x0, x1, x5 => if x5 < (x0.length : Int) then (if 0 ≤ x5 then (if x5 < (x1.length : Int) then (if (rd x0 x5) < (rd x1 x5) then (some (-1)) else (if (rd x0 x5) > (rd x1 x5) then (some 1) else (spec_l2Order.l0 k x0 x1 (wrap64 (x5 + 1))))) else (none)) else (none)) else (some 0)
def spec_l2Order.f (k : Nat) (l0 : List Int) (l1 : List Int) : Option (Int) := spec_l2Order.l0 k l0 l1 0
set_option maxHeartbeats 8000000 in
set_option maxRecDepth 100000 in
theorem spec_l2Order.calls (k : Nat) (A0 : Option Addr) (c0 : Nat) (l0 : List Int) (A1 : Option Addr) (c1 : Nat) (l1 : List Int) (r : Int) (w : World) (hr0 : Kd.C (Kd.int .i64) w A0 l0.length l0) (hc0 : l0.length ≤ c0) (hr1 : Kd.C (Kd.int .i64) w A1 l1.length l1) (hc1 : l1.length ≤ c1) (h : spec_l2Order.f k l0 l1 = some r) :
  Calls Try.prog 108 #[.slice A0 l0.length c0, .slice A1 l1.length c1] w fun e w' => e = .returned (.int .i64 r) ∧ Drawn0 w w' := by
 have HR0 := Az hr0; have HC0 := Az hc0; clear hr0 hc0; have HR1 := Az hr1; have HC1 := Az hc1; clear hr1 hc1; have H : (spec_l2Order.l0 k l0 l1 0) = some r := h; clear h; have H' := Az H; clear H
 go_enter Try.func108, Try.ntmps108
 go_wp2
 repeat (go_quiet (fail); try go_wp2)
 go_loopg [5] k (fun kq v5 w' => ∃ (x5_1 : Int), v5 = .int .i64 x5_1 ∧ Aside0 (spec_l2Order.l0 kq l0 l1 x5_1 = some r) ∧ Aside0 (kq ≤ k) ∧ Drawn0 w w')
 case atStart => exact ⟨(0), rS, H', ⟨Nat.le_refl _⟩, by repeat (first | exact Drawn0.refl _ | apply Drawn0.step)⟩
 case round =>
  clear H'; (try clear c1); (try clear p2); obtain ⟨x5_1, rfl, HA, HK1, ⟨m1, rfl⟩⟩ := hrel
  cases gk with
  | zero => exact absurd HA.out (by simp [spec_l2Order.l0])
  | succ k1 =>
   have H := HA.out; clear HA; simp only [spec_l2Order.l0] at H
   by_cases c3 : x5_1 < (l0.length : Int)
   ·
    rw [if_pos c3] at H; have c3b0 := decide_eq_true c3; clear c3
    by_cases c4 : 0 ≤ x5_1
    ·
     rw [if_pos c4] at H; have c4b0 := decide_eq_true c4; clear c4
     by_cases c5 : x5_1 < (l1.length : Int)
     ·
      rw [if_pos c5] at H; have c5b0 := decide_eq_true c5; clear c5
      by_cases c6 : (rd l0 x5_1) < (rd l1 x5_1)
      ·
       rw [if_pos c6] at H; have c6b0 := decide_eq_true c6; clear c6; obtain rfl := Option.some.inj H; have p347 : 0 ≤ (x5_1 : Int) := oA; have q347 : x5_1 < (l0.length : Int) := oA; obtain ⟨ad347, e347, hx347_0⟩ := Kd.at_int HR0.out x5_1 p347 q347
       cases e347
       replace p347 := eq_true p347; replace q347 := eq_true q347; have p348 : 0 ≤ (x5_1 : Int) := oA; have q348 : x5_1 < (l1.length : Int) := oA; obtain ⟨ad348, e348, hx348_0⟩ := Kd.at_int HR1.out x5_1 p348 q348
       cases e348
       replace p348 := eq_true p348; replace q348 := eq_true q348
       go_wp2
       repeat (go_quiet (fail); try go_wp2)
       go_ret
       exact ⟨by first | rfl | (simp; done) | (simp [*]; done), by repeat (first | exact Drawn0.refl _ | apply Drawn0.step)⟩
      ·
       rw [if_neg c6] at H; have c6b0 := decide_eq_false c6; clear c6
       by_cases c7 : (rd l0 x5_1) > (rd l1 x5_1)
       ·
        rw [if_pos c7] at H; have c7b0 := decide_eq_true c7; clear c7; obtain rfl := Option.some.inj H; have p347 : 0 ≤ (x5_1 : Int) := oA; have q347 : x5_1 < (l0.length : Int) := oA; obtain ⟨ad347, e347, hx347_0⟩ := Kd.at_int HR0.out x5_1 p347 q347
        cases e347
        replace p347 := eq_true p347; replace q347 := eq_true q347; have p348 : 0 ≤ (x5_1 : Int) := oA; have q348 : x5_1 < (l1.length : Int) := oA; obtain ⟨ad348, e348, hx348_0⟩ := Kd.at_int HR1.out x5_1 p348 q348
        cases e348
        replace p348 := eq_true p348; replace q348 := eq_true q348; have p349 : 0 ≤ (x5_1 : Int) := oA; have q349 : x5_1 < (l0.length : Int) := oA; obtain ⟨ad349, e349, hx349_0⟩ := Kd.at_int HR0.out x5_1 p349 q349; obtain rfl : ad347 = ad349 := (by injection e349); replace p349 := eq_true p349; replace q349 := eq_true q349; have p350 : 0 ≤ (x5_1 : Int) := oA; have q350 : x5_1 < (l1.length : Int) := oA; obtain ⟨ad350, e350, hx350_0⟩ := Kd.at_int HR1.out x5_1 p350 q350; obtain rfl : ad348 = ad350 := (by injection e350); replace p350 := eq_true p350; replace q350 := eq_true q350
        go_wp2
        repeat (go_quiet (fail); try go_wp2)
        go_ret
        exact ⟨by first | rfl | (simp; done) | (simp [*]; done), by repeat (first | exact Drawn0.refl _ | apply Drawn0.step)⟩
       ·
        rw [if_neg c7] at H; have c7b0 := decide_eq_false c7; clear c7; have H' := Az H; clear H; have p347 : 0 ≤ (x5_1 : Int) := oA; have q347 : x5_1 < (l0.length : Int) := oA; obtain ⟨ad347, e347, hx347_0⟩ := Kd.at_int HR0.out x5_1 p347 q347
        cases e347
        replace p347 := eq_true p347; replace q347 := eq_true q347; have p348 : 0 ≤ (x5_1 : Int) := oA; have q348 : x5_1 < (l1.length : Int) := oA; obtain ⟨ad348, e348, hx348_0⟩ := Kd.at_int HR1.out x5_1 p348 q348
        cases e348
        replace p348 := eq_true p348; replace q348 := eq_true q348; have p349 : 0 ≤ (x5_1 : Int) := oA; have q349 : x5_1 < (l0.length : Int) := oA; obtain ⟨ad349, e349, hx349_0⟩ := Kd.at_int HR0.out x5_1 p349 q349; obtain rfl : ad347 = ad349 := (by injection e349); replace p349 := eq_true p349; replace q349 := eq_true q349; have p350 : 0 ≤ (x5_1 : Int) := oA; have q350 : x5_1 < (l1.length : Int) := oA; obtain ⟨ad350, e350, hx350_0⟩ := Kd.at_int HR1.out x5_1 p350 q350; obtain rfl : ad348 = ad350 := (by injection e350); replace p350 := eq_true p350; replace q350 := eq_true q350
        go_wp2
        repeat (go_quiet (fail); try go_wp2)
        (first | go_roundg k1 | (refine Handed.intro k1 ?measure ?_; rotate_left; go_step; (try simp only [add_plain]); (repeat apply Exists.intro); refine ⟨?rel, rfl⟩))
        case measure => have := HK1.out; omega
        case rel => exact ⟨(wrap64 (x5_1 + 1)), rS, H', ⟨by have := HK1.out; omega⟩, by repeat (first | exact Drawn0.refl _ | apply Drawn0.step)⟩
     ·
      rw [if_neg c5] at H
      exact absurd H (by simp)
    ·
     rw [if_neg c4] at H
     exact absurd H (by simp)
   ·
    rw [if_neg c3] at H; have c3b0 := decide_eq_false c3; clear c3; obtain rfl := Option.some.inj H
    go_wp2
    repeat (go_quiet (fail); try go_wp2)
    go_ret
    exact ⟨by first | rfl | (simp; done) | (simp [*]; done), by repeat (first | exact Drawn0.refl _ | apply Drawn0.step)⟩
mutual
def spec_l3Next.j1 : Nat → List Int → Int → Option (List Int)
 | 0, _, _ => none
 | k + 1, x0, x3 => if x3 < 0 then (some (([] : List Int))) else (spec_l3Next.l1 k x0 x3 (wrap64 ((x0.length : Int) - 1)))
def spec_l3Next.l1 : Nat → List Int → Int → Int → Option (List Int)
 | 0, _, _, _ => none
 | k + 1, x0, x3, x4 => if 0 ≤ x4 then (if x4 < (x0.length : Int) then (if 0 ≤ x3 then (if x3 < (x0.length : Int) then (if (rd x0 x4) < (rd x0 x3) then (spec_l3Next.l1 k x0 x3 (wrap64 (x4 - 1))) else ((some (([] : List Int) : List Int)).bind fun y358 => (if x3 ≤ (x0.length : Int) then (if y358.length + (x0.take (x3 : Int).toNat).length < 17592186044416 then ((some (y358 ++ (x0.take (x3 : Int).toNat) : List Int)).bind fun y362 => (if y362.length < 17592186044416 then (spec_l3Next.l2 k x0 x3 x4 (y362 ++ [rd x0 x4]) (wrap64 ((x0.length : Int) - 1))) else (none))) else (none)) else (none)))) else (none)) else (none)) else (none)) else (none)
def spec_l3Next.l2 : Nat → List Int → Int → Int → List Int → Int → Option (List Int)
 | 0, _, _, _, _, _ => none
 | k + 1, x0, x3, x4, x5, x6 => if x6 > x3 then (if x6 = x4 then (if 0 ≤ x3 then (if x3 < (x0.length : Int) then (if x5.length < 17592186044416 then (spec_l3Next.l2 k x0 x3 x4 (x5 ++ [rd x0 x3]) (wrap64 (x6 - 1))) else (none)) else (none)) else (none)) else (if 0 ≤ x6 then (if x6 < (x0.length : Int) then (if x5.length < 17592186044416 then (spec_l3Next.l2 k x0 x3 x4 (x5 ++ [rd x0 x6]) (wrap64 (x6 - 1))) else (none)) else (none)) else (none))) else (some x5)
def spec_l3Next.l0 : Nat → List Int → Int → Option (List Int)
 | 0, _, _ => none
 | k + 1, x0, x3 => if x3 ≥ 0 then (if 0 ≤ x3 then (if x3 < (x0.length : Int) then (if 0 ≤ (wrap64 (x3 + 1)) then (if (wrap64 (x3 + 1)) < (x0.length : Int) then (if (rd x0 x3) > (rd x0 (wrap64 (x3 + 1))) then (spec_l3Next.l0 k x0 (wrap64 (x3 - 1))) else (spec_l3Next.j1 k x0 x3)) else (none)) else (none)) else (none)) else (none)) else (spec_l3Next.j1 k x0 x3)
end
def spec_l3Next.f (k : Nat) (l0 : List Int) : Option (List Int) := spec_l3Next.l0 k l0 (wrap64 ((l0.length : Int) - 2))
theorem spec_l3Next.mono_l : ∀ k, (∀ y0 y1, LeO (spec_l3Next.j1 k y0 y1) (spec_l3Next.j1 (k + 1) y0 y1)) ∧ (∀ y0 y1 y2, LeO (spec_l3Next.l1 k y0 y1 y2) (spec_l3Next.l1 (k + 1) y0 y1 y2)) ∧ (∀ y0 y1 y2 y3 y4, LeO (spec_l3Next.l2 k y0 y1 y2 y3 y4) (spec_l3Next.l2 (k + 1) y0 y1 y2 y3 y4)) ∧ (∀ y0 y1, LeO (spec_l3Next.l0 k y0 y1) (spec_l3Next.l0 (k + 1) y0 y1))
 | 0 => ⟨fun _ _ r h => by simp [spec_l3Next.j1] at h, fun _ _ _ r h => by simp [spec_l3Next.l1] at h, fun _ _ _ _ _ r h => by simp [spec_l3Next.l2] at h, fun _ _ r h => by simp [spec_l3Next.l0] at h⟩
 | k + 1 => by
  obtain ⟨ih0, ih1, ih2, ih3⟩ := spec_l3Next.mono_l k
  refine ⟨?_, ?_, ?_, ?_⟩
  ·
   intro y0 y1
   unfold spec_l3Next.j1
   repeat' first
   | (with_reducible exact ih0 _ _)
   | (with_reducible exact ih1 _ _ _)
   | (with_reducible exact ih2 _ _ _ _ _)
   | (with_reducible exact ih3 _ _)
   | (with_reducible exact LeO.refl _)
   | (with_reducible exact LeO.none _)
   | (with_reducible refine LeO.ite ?_ ?_)
   | (with_reducible refine LeO.bind ?_ (fun _ => ?_))
   | exact ih0 _ _
   | exact ih1 _ _ _
   | exact ih2 _ _ _ _ _
   | exact ih3 _ _
   | exact LeO.none _
   | refine LeO.ite ?_ ?_
   | refine LeO.bind ?_ (fun _ => ?_)
  ·
   intro y0 y1 y2
   unfold spec_l3Next.l1
   repeat' first
   | (with_reducible exact ih0 _ _)
   | (with_reducible exact ih1 _ _ _)
   | (with_reducible exact ih2 _ _ _ _ _)
   | (with_reducible exact ih3 _ _)
   | (with_reducible exact LeO.refl _)
   | (with_reducible exact LeO.none _)
   | (with_reducible refine LeO.ite ?_ ?_)
   | (with_reducible refine LeO.bind ?_ (fun _ => ?_))
   | exact ih0 _ _
   | exact ih1 _ _ _
   | exact ih2 _ _ _ _ _
   | exact ih3 _ _
   | exact LeO.none _
   | refine LeO.ite ?_ ?_
   | refine LeO.bind ?_ (fun _ => ?_)
  ·
   intro y0 y1 y2 y3 y4
   unfold spec_l3Next.l2
   repeat' first
   | (with_reducible exact ih0 _ _)
   | (with_reducible exact ih1 _ _ _)
   | (with_reducible exact ih2 _ _ _ _ _)
   | (with_reducible exact ih3 _ _)
   | (with_reducible exact LeO.refl _)
   | (with_reducible exact LeO.none _)
   | (with_reducible refine LeO.ite ?_ ?_)
   | (with_reducible refine LeO.bind ?_ (fun _ => ?_))
   | exact ih0 _ _
   | exact ih1 _ _ _
   | exact ih2 _ _ _ _ _
   | exact ih3 _ _
   | exact LeO.none _
   | refine LeO.ite ?_ ?_
   | refine LeO.bind ?_ (fun _ => ?_)
  ·
   intro y0 y1
   unfold spec_l3Next.l0
   repeat' first
   | (with_reducible exact ih0 _ _)
   | (with_reducible exact ih1 _ _ _)
   | (with_reducible exact ih2 _ _ _ _ _)
   | (with_reducible exact ih3 _ _)
   | (with_reducible exact LeO.refl _)
   | (with_reducible exact LeO.none _)
   | (with_reducible refine LeO.ite ?_ ?_)
   | (with_reducible refine LeO.bind ?_ (fun _ => ?_))
   | exact ih0 _ _
   | exact ih1 _ _ _
   | exact ih2 _ _ _ _ _
   | exact ih3 _ _
   | exact LeO.none _
   | refine LeO.ite ?_ ?_
   | refine LeO.bind ?_ (fun _ => ?_)
theorem spec_l3Next.mono : ∀ a0 k, LeO (spec_l3Next.f k a0) (spec_l3Next.f (k + 1) a0) := by
 intro a0 k
 obtain ⟨ih0, ih1, ih2, ih3⟩ := spec_l3Next.mono_l k
 unfold spec_l3Next.f
 repeat' first
   | (with_reducible exact ih0 _ _)
   | (with_reducible exact ih1 _ _ _)
   | (with_reducible exact ih2 _ _ _ _ _)
   | (with_reducible exact ih3 _ _)
   | (with_reducible exact LeO.refl _)
   | (with_reducible exact LeO.none _)
   | (with_reducible refine LeO.ite ?_ ?_)
   | (with_reducible refine LeO.bind ?_ (fun _ => ?_))
   | exact ih0 _ _
   | exact ih1 _ _ _
   | exact ih2 _ _ _ _ _
   | exact ih3 _ _
   | exact LeO.none _
   | refine LeO.ite ?_ ?_
   | refine LeO.bind ?_ (fun _ => ?_)
set_option maxHeartbeats 8000000 in
set_option maxRecDepth 100000 in
theorem spec_l3Next.calls (k : Nat) (A0 : Option Addr) (c0 : Nat) (l0 : List Int) (r : List Int) (w : World) (hr0 : Kd.C (Kd.int .i64) w A0 l0.length l0) (hc0 : l0.length ≤ c0) (h : spec_l3Next.f k l0 = some r) :
  Calls Try.prog 156 #[.slice A0 l0.length c0] w fun e w' => ∃ v0_ : Value, e = .returned (v0_) ∧ Kd.R (Kd.int .i64) 3 w' w.heap.size (fun _ => True) v0_ r ∧ Below w.heap.size w w' := by
 have HR0 := Az hr0; have HC0 := Az hc0; clear hr0 hc0; have HB := Az (Below.refl w.heap.size w); have H : (spec_l3Next.l0 k l0 (wrap64 ((l0.length : Int) - 2))) = some r := h; clear h; have HC2 := Az H; clear H
 go_enter Try.func156, Try.ntmps156
 go_upto_block 0 with (fail)
 repeat (go_quiet (fail); go_upto_block 0 with (fail))
 go_cut [3] (fun v3 wc => ∃ (kq : Nat) (x3_1 : Int), v3 = .int .i64 x3_1 ∧ Aside0 (spec_l3Next.j1 kq l0 x3_1 = some r) ∧ Aside0 (kq ≤ k) ∧ Aside0 (Below w.heap.size w wc))
 case first =>
  have H := HC2.out; clear HC2; have H' := Az H; clear H
  go_wp2
  repeat (go_quiet (fail); try go_wp2)
  go_loopg [3] k (fun kq v3 w' => ∃ (x3_1 : Int), v3 = .int .i64 x3_1 ∧ Aside0 (spec_l3Next.l0 kq l0 x3_1 = some r) ∧ Aside0 (kq ≤ k) ∧ Aside0 (Below w.heap.size w w'))
  case atStart => exact ⟨(wrap64 ((l0.length : Int) - 2)), rS, H', ⟨Nat.le_refl _⟩, ⟨bU0 HB.out⟩⟩
  case round =>
   clear H'; (try clear c1); (try clear p2); obtain ⟨x3_1, rfl, HA, HK1, HB⟩ := hrel
   cases gk with
   | zero => exact absurd HA.out (by simp [spec_l3Next.l0])
   | succ k1 =>
    have H := HA.out; clear HA; simp only [spec_l3Next.l0] at H
    by_cases c3 : x3_1 ≥ 0
    ·
     rw [if_pos c3] at H; have c3b0 := decide_eq_true c3; clear c3; (first | rw [c3b0] | (simp only [i64_w, i32_w]; rw [c3b0]) | skip)
     by_cases c4 : 0 ≤ x3_1
     ·
      rw [if_pos c4] at H; have c4b0 := decide_eq_true c4; clear c4
      by_cases c5 : x3_1 < (l0.length : Int)
      ·
       rw [if_pos c5] at H; have c5b0 := decide_eq_true c5; clear c5; obtain ⟨ji6, hji6⟩ : ∃ j_ : Int, (wrap64 (x3_1 + 1)) = j_ := ⟨_, rfl⟩
       replace H : (if 0 ≤ (ji6) then (if (ji6) < (l0.length : Int) then (if (rd l0 x3_1) > (rd l0 (ji6)) then (spec_l3Next.l0 k1 l0 (wrap64 (x3_1 - 1))) else (spec_l3Next.j1 k1 l0 x3_1)) else (none)) else (none)) = some r := by first | (rw [hji6] at H; exact H) | (simp only [hji6] at H ⊢; exact H)
       have hji6w : (IntKind.i64.wrap (x3_1 + 1)) = ji6 := (i64_w _).trans hji6
       by_cases c7 : 0 ≤ (ji6)
       ·
        rw [if_pos c7] at H; have c7b0 := decide_eq_true c7; clear c7
        by_cases c8 : (ji6) < (l0.length : Int)
        ·
         rw [if_pos c8] at H; have c8b0 := decide_eq_true c8; clear c8
         by_cases c9 : (rd l0 x3_1) > (rd l0 (ji6))
         ·
          rw [if_pos c9] at H; have c9b0 := decide_eq_true c9; clear c9; have H' := Az H; clear H; have p351 : 0 ≤ (x3_1 : Int) := oA; have q351 : x3_1 < (l0.length : Int) := oA; obtain ⟨ad351, e351, hx351_0⟩ := Kd.at_int HR0.out x3_1 p351 q351
          cases e351
          (try replace hx351_0 := (HB.out.cell (World.block_lt_of_cell? w _ hx351_0)).trans hx351_0); replace p351 := eq_true p351; replace q351 := eq_true q351; have p352 : 0 ≤ ((ji6) : Int) := oA; have q352 : (ji6) < (l0.length : Int) := oA; obtain ⟨ad352, e352, hx352_0⟩ := Kd.at_int HR0.out (ji6) p352 q352; obtain rfl : ad351 = ad352 := (by injection e352); (try replace hx352_0 := (HB.out.cell (World.block_lt_of_cell? w _ hx352_0)).trans hx352_0); replace p352 := eq_true p352; replace q352 := eq_true q352
          go_wp2
          repeat (go_quiet (fail); try go_wp2)
          (first | go_roundg k1 | (refine Handed.intro k1 ?measure ?_; rotate_left; go_step; (try simp only [add_plain]); (repeat apply Exists.intro); refine ⟨?rel, rfl⟩))
          case measure => have := HK1.out; omega
          case rel => exact ⟨(wrap64 (x3_1 - 1)), rS, H', ⟨by have := HK1.out; omega⟩, ⟨bU0 HB.out⟩⟩
         ·
          rw [if_neg c9] at H; have c9b0 := decide_eq_false c9; clear c9; have H' := Az H; clear H; have p351 : 0 ≤ (x3_1 : Int) := oA; have q351 : x3_1 < (l0.length : Int) := oA; obtain ⟨ad351, e351, hx351_0⟩ := Kd.at_int HR0.out x3_1 p351 q351
          cases e351
          (try replace hx351_0 := (HB.out.cell (World.block_lt_of_cell? w _ hx351_0)).trans hx351_0); replace p351 := eq_true p351; replace q351 := eq_true q351; have p352 : 0 ≤ ((ji6) : Int) := oA; have q352 : (ji6) < (l0.length : Int) := oA; obtain ⟨ad352, e352, hx352_0⟩ := Kd.at_int HR0.out (ji6) p352 q352; obtain rfl : ad351 = ad352 := (by injection e352); (try replace hx352_0 := (HB.out.cell (World.block_lt_of_cell? w _ hx352_0)).trans hx352_0); replace p352 := eq_true p352; replace q352 := eq_true q352
          go_wp2
          repeat (go_quiet (fail); try go_wp2)
          go_meet
          case rel => exact ⟨_, (x3_1), rS, H', ⟨by have := HK1.out; first | omega | exact Nat.le_refl _⟩, ⟨bU0 HB.out⟩⟩
        ·
         rw [if_neg c8] at H
         exact absurd H (by simp)
       ·
        rw [if_neg c7] at H
        exact absurd H (by simp)
      ·
       rw [if_neg c5] at H
       exact absurd H (by simp)
     ·
      rw [if_neg c4] at H
      exact absurd H (by simp)
    ·
     rw [if_neg c3] at H; have c3b0 := decide_eq_false c3; clear c3; (first | rw [c3b0] | (simp only [i64_w, i32_w]; rw [c3b0]) | skip); have H' := Az H; clear H
     go_wp2
     repeat (go_quiet (fail); try go_wp2)
     go_meet
     case rel => exact ⟨_, (x3_1), rS, H', ⟨by have := HK1.out; first | omega | exact Nat.le_refl _⟩, ⟨bU0 HB.out⟩⟩
 case rest =>
  clear HC2; (try clear c1); (try clear p2); (try clear c3); (try clear c3b0); (try clear p3); (try clear q3); (try clear hx3); (try clear c4); (try clear c4b0); (try clear c5); (try clear c5b0); (try clear p6); (try clear c7); (try clear c7b0); (try clear c8); (try clear c8b0); (try clear c9); (try clear c9b0); (try clear hx351_0); (try clear hx352_0); (try clear p2); (try clear p351); (try clear p352); (try clear q351); (try clear q352); obtain ⟨kq, x3_1, rfl, HA, HJ1, HB⟩ := hcut
  cases kq with
  | zero => exact absurd HA.out (by simp [spec_l3Next.j1])
  | succ kj1 =>
   have H := HA.out; clear HA; simp only [spec_l3Next.j1] at H
   by_cases c10 : x3_1 < 0
   ·
    rw [if_pos c10] at H; have c10b0 := decide_eq_true c10; clear c10; obtain ⟨y353, hy353⟩ : ∃ y_ : List Int, y_ = (([] : List Int)) := ⟨_, rfl⟩; replace H : (some y353) = some r := hR hy353 H; have Ny353 := Az hy353; clear hy353; obtain rfl := Option.some.inj H
    go_wp2_with (first | ((with_reducible refine gate_dst (N := 28) rfl ?_); refine Kd.R_lit (Kd.int .i64) _ 3 ?hg (N := 28) ?hd (xs := ([] : List Int)) (inner := []) (ok := fun _ => True) (okp := fun _ => True) ?hr ?hp (fun _ hk => hk) trivial (Below.refl _ _) (Nat.le_refl _) (by simp) ?_; (case hd => rfl); (case hg => rfl); (case hr => first | (go_simp; done) | (go_simp; rfl)); (case hp => exact (Reps.none _ _)); intro v354 w11 ho12 hb hg_ hnew_; clear hg_ hnew_; (first | rw [← Ny353.out] at ho12 | (simp only [Int.reduceToNat] at ho12; rw [← Ny353.out] at ho12)); have n0 := Az (Kd.R_lower ho12 (below_size (bU0 HB.out))); have n1 := Az (below_step (bU0 HB.out) hb); clear HB; have HO355 := n0; have HB := n1; clear n0 n1; clear hb ho12))
    repeat (go_quiet (first | ((with_reducible refine gate_dst (N := 28) rfl ?_); refine Kd.R_lit (Kd.int .i64) _ 3 ?hg (N := 28) ?hd (xs := ([] : List Int)) (inner := []) (ok := fun _ => True) (okp := fun _ => True) ?hr ?hp (fun _ hk => hk) trivial (Below.refl _ _) (Nat.le_refl _) (by simp) ?_; (case hd => rfl); (case hg => rfl); (case hr => first | (go_simp; done) | (go_simp; rfl)); (case hp => exact (Reps.none _ _)); intro v354 w11 ho12 hb hg_ hnew_; clear hg_ hnew_; (first | rw [← Ny353.out] at ho12 | (simp only [Int.reduceToNat] at ho12; rw [← Ny353.out] at ho12)); have n0 := Az (Kd.R_lower ho12 (below_size (bU0 HB.out))); have n1 := Az (below_step (bU0 HB.out) hb); clear HB; have HO355 := n0; have HB := n1; clear n0 n1; clear hb ho12)); try go_wp2_with (first | ((with_reducible refine gate_dst (N := 28) rfl ?_); refine Kd.R_lit (Kd.int .i64) _ 3 ?hg (N := 28) ?hd (xs := ([] : List Int)) (inner := []) (ok := fun _ => True) (okp := fun _ => True) ?hr ?hp (fun _ hk => hk) trivial (Below.refl _ _) (Nat.le_refl _) (by simp) ?_; (case hd => rfl); (case hg => rfl); (case hr => first | (go_simp; done) | (go_simp; rfl)); (case hp => exact (Reps.none _ _)); intro v354 w11 ho12 hb hg_ hnew_; clear hg_ hnew_; (first | rw [← Ny353.out] at ho12 | (simp only [Int.reduceToNat] at ho12; rw [← Ny353.out] at ho12)); have n0 := Az (Kd.R_lower ho12 (below_size (bU0 HB.out))); have n1 := Az (below_step (bU0 HB.out) hb); clear HB; have HO355 := n0; have HB := n1; clear n0 n1; clear hb ho12)))
    go_ret
    exact ⟨_, rE, rU HO355.out, bU0 HB.out⟩
   ·
    rw [if_neg c10] at H; have c10b0 := decide_eq_false c10; clear c10; have H' := Az H; clear H
    go_wp2
    repeat (go_quiet (fail); try go_wp2)
    go_loopg [4] kj1 (fun kq v4 w' => ∃ (x4_2 : Int), v4 = .int .i64 x4_2 ∧ Aside0 (spec_l3Next.l1 kq l0 x3_1 x4_2 = some r) ∧ Aside0 (kq ≤ kj1) ∧ Aside0 (Below w.heap.size w w'))
    case atStart => exact ⟨(wrap64 ((l0.length : Int) - 1)), rS, H', ⟨Nat.le_refl _⟩, ⟨bU0 HB.out⟩⟩
    case round =>
     clear H'; (try clear c1); (try clear p2); (try clear c3); (try clear c3b0); (try clear p3); (try clear q3); (try clear hx3); (try clear c4); (try clear c4b0); (try clear c5); (try clear c5b0); (try clear p6); (try clear c7); (try clear c7b0); (try clear c8); (try clear c8b0); (try clear c9); (try clear c9b0); (try clear c10); (try clear c10b0); (try clear hx351_0); (try clear hx352_0); (try clear p2); (try clear p3); (try clear p351); (try clear p352); (try clear p6); (try clear q3); (try clear q351); (try clear q352); obtain ⟨x4_2, rfl, HA, HK2, HB⟩ := hrel
     cases gk with
     | zero => exact absurd HA.out (by simp [spec_l3Next.l1])
     | succ k2 =>
      have H := HA.out; clear HA; simp only [spec_l3Next.l1] at H
      by_cases c13 : 0 ≤ x4_2
      ·
       rw [if_pos c13] at H; have c13b0 := decide_eq_true c13; clear c13
       by_cases c14 : x4_2 < (l0.length : Int)
       ·
        rw [if_pos c14] at H; have c14b0 := decide_eq_true c14; clear c14
        by_cases c15 : 0 ≤ x3_1
        ·
         rw [if_pos c15] at H; have c15b0 := decide_eq_true c15; clear c15
         by_cases c16 : x3_1 < (l0.length : Int)
         ·
          rw [if_pos c16] at H; have c16b0 := decide_eq_true c16; clear c16
          by_cases c17 : (rd l0 x4_2) < (rd l0 x3_1)
          ·
           rw [if_pos c17] at H; have c17b0 := decide_eq_true c17; clear c17; have H' := Az H; clear H; have p356 : 0 ≤ (x4_2 : Int) := oA; have q356 : x4_2 < (l0.length : Int) := oA; obtain ⟨ad356, e356, hx356_0⟩ := Kd.at_int HR0.out x4_2 p356 q356
           cases e356
           (try replace hx356_0 := (HB.out.cell (World.block_lt_of_cell? w _ hx356_0)).trans hx356_0); replace p356 := eq_true p356; replace q356 := eq_true q356; have p357 : 0 ≤ (x3_1 : Int) := oA; have q357 : x3_1 < (l0.length : Int) := oA; obtain ⟨ad357, e357, hx357_0⟩ := Kd.at_int HR0.out x3_1 p357 q357; obtain rfl : ad356 = ad357 := (by injection e357); (try replace hx357_0 := (HB.out.cell (World.block_lt_of_cell? w _ hx357_0)).trans hx357_0); replace p357 := eq_true p357; replace q357 := eq_true q357
           go_wp2
           repeat (go_quiet (fail); try go_wp2)
           (first | go_roundg k2 | (refine Handed.intro k2 ?measure ?_; rotate_left; go_step; (try simp only [add_plain]); (repeat apply Exists.intro); refine ⟨?rel, rfl⟩))
           case measure => have := HJ1.out; have := HK2.out; omega
           case rel => exact ⟨(wrap64 (x4_2 - 1)), rS, H', ⟨by have := HJ1.out; have := HK2.out; omega⟩, ⟨bU0 HB.out⟩⟩
          ·
           rw [if_neg c17] at H; have c17b0 := decide_eq_false c17; clear c17; obtain ⟨y358, hy358⟩ : ∃ y_ : List Int, y_ = (([] : List Int)) := ⟨_, rfl⟩; replace H : (if x3_1 ≤ (l0.length : Int) then (if y358.length + (l0.take (x3_1 : Int).toNat).length < 17592186044416 then ((some (y358 ++ (l0.take (x3_1 : Int).toNat) : List Int)).bind fun y362 => (if y362.length < 17592186044416 then (spec_l3Next.l2 k2 l0 x3_1 x4_2 (y362 ++ [rd l0 x4_2]) (wrap64 ((l0.length : Int) - 1))) else (none))) else (none)) else (none)) = some r := hR hy358 H; have Ny358 := Az hy358; clear hy358; have c18b0 := eq_true (oA : 0 ≤ x3_1)
           by_cases c19 : x3_1 ≤ (l0.length : Int)
           ·
            rw [if_pos c19] at H; have c19b0 := eq_true c19; have c19b1 := decide_eq_true c19; clear c19
            by_cases c20 : y358.length + (l0.take (x3_1 : Int).toNat).length < 17592186044416
            ·
             rw [if_pos c20] at H; have LMc20 := Az c20; clear c20; obtain ⟨y362, hy362⟩ : ∃ y_ : List Int, y_ = (y358 ++ (l0.take (x3_1 : Int).toNat)) := ⟨_, rfl⟩; replace H : (if y362.length < 17592186044416 then (spec_l3Next.l2 k2 l0 x3_1 x4_2 (y362 ++ [rd l0 x4_2]) (wrap64 ((l0.length : Int) - 1))) else (none)) = some r := hR hy362 H; have Ny362 := Az hy362; clear hy362
             by_cases c21 : y362.length < 17592186044416
             ·
              rw [if_pos c21] at H; have LMc21 := Az c21; clear c21; obtain ⟨y366, hy366⟩ : ∃ y_ : List Int, y_ = (y362 ++ [rd l0 x4_2]) := ⟨_, rfl⟩; replace H : (spec_l3Next.l2 k2 l0 x3_1 x4_2 y366 (wrap64 ((l0.length : Int) - 1))) = some r := hR hy366 H; have Ny366 := Az hy366; clear hy366; have H' := Az H; clear H; have p356 : 0 ≤ (x4_2 : Int) := oA; have q356 : x4_2 < (l0.length : Int) := oA; obtain ⟨ad356, e356, hx356_0⟩ := Kd.at_int HR0.out x4_2 p356 q356
              cases e356
              (try replace hx356_0 := (HB.out.cell (World.block_lt_of_cell? w _ hx356_0)).trans hx356_0); replace p356 := eq_true p356; replace q356 := eq_true q356; have p357 : 0 ≤ (x3_1 : Int) := oA; have q357 : x3_1 < (l0.length : Int) := oA; obtain ⟨ad357, e357, hx357_0⟩ := Kd.at_int HR0.out x3_1 p357 q357; obtain rfl : ad356 = ad357 := (by injection e357); (try replace hx357_0 := (HB.out.cell (World.block_lt_of_cell? w _ hx357_0)).trans hx357_0); replace p357 := eq_true p357; replace q357 := eq_true q357
              go_wp2_with (first | ((with_reducible refine gate_dst (N := 43) rfl ?_); refine Kd.R_lit (Kd.int .i64) _ 3 ?hg (N := 43) ?hd (xs := ([] : List Int)) (inner := []) (ok := fun _ => True) (okp := fun _ => True) ?hr ?hp (fun _ hk => hk) trivial (Below.refl _ _) (Nat.le_refl _) (by simp) ?_; (case hd => rfl); (case hg => rfl); (case hr => first | (go_simp; done) | (go_simp; rfl)); (case hp => exact (Reps.none _ _)); intro v359 w22 ho23 hb hg_ hnew_; clear hg_ hnew_; (first | rw [← Ny358.out] at ho23 | (simp only [Int.reduceToNat] at ho23; rw [← Ny358.out] at ho23)); have n0 := Az (Kd.R_lower ho23 (below_size (bU0 HB.out))); have n1 := Az (below_step (bU0 HB.out) hb); clear HB; have HO360 := n0; have HB := n1; clear n0 n1 hb ho23; obtain ⟨i024, hi024, _, hsz24, _⟩ := info_parts info3; obtain ⟨hcut24, hA24, hC24⟩ := print_take_of (P := Try.prog) (Value.int .i64) 0 23 3 .i64 Try.underlying23 hi024 hsz24 (some ad356) c0 l0 x3_1 (oA) (oA) HC0.out; have HR361 := Az (Kd.C_of_reads (h1 := fun _ => rfl) (hA24 _ (Kd.reads_of_C HR0.out))); have HC361 := Az hC24; clear hA24 hC24 hi024 hsz24) | ((with_reducible refine gate_builtin (b := .append) (xs := #[.tmp 43, .tmp 46]) rfl ?_); at_builtin; refine Kd.R_append_rows (Kd.int .i64) (w0 := w) w.heap.size rfl (.tmp 43) (.tmp 46) 23 3 (.int .i64 0) 8 rfl Try.underlying23 info3 rfl (by decide) (by omega) v359 y358 (l0.take (x3_1 : Int).toNat) _ _ _ (fun _ => True) (fun _ => False) rfl rfl ?aO ?aR (fun _ _ h => h) (fun _ h => h.elim) ?aF ?aB ?aS ?aL ?_; (case aR => first | (have hl_ := (show (l0.take (x3_1 : Int).toNat).length = x3_1.toNat from (by rw [List.length_take]; have h_ : (x3_1 : Int) ≤ (l0.length : Int) := oA; omega)); have hC_ := (Kd.C_below HR361.out HB.out); generalize hz_ : (l0.take (x3_1 : Int).toNat) = z_ at hl_ hC_ ⊢; rw [hl_] at hC_; exact hC_) | (rw [← show (l0.take (x3_1 : Int).toNat).length = x3_1.toNat from (by rw [List.length_take]; have h_ : (x3_1 : Int) ≤ (l0.length : Int) := oA; omega)]; exact cU (Kd.C_below HR361.out HB.out)) | (exact cU (Kd.C_below HR361.out HB.out))); (case aB => exact (bU0 HB.out)); (case aF => exact (fun _ _ => trivial)); (case aO => exact (rU HO360.out)); (case aS => exact (below_size (bU0 HB.out))); (case aL => have := LMc20.out; have hlx_ := (show (l0.take (x3_1 : Int).toNat).length = x3_1.toNat from (by rw [List.length_take]; have h_ : (x3_1 : Int) ≤ (l0.length : Int) := oA; omega)); omega); intro v363 w25 ho hb hg hat; rw [← Ny362.out] at ho; have n0 := Az (hb); have n1 := Az (ho); clear HB HO360; have HB := n0; have HO364 := n1; clear n0 n1 ho hb hg hat; have p365 : 0 ≤ (x4_2 : Int) := oA; have q365 : x4_2 < (l0.length : Int) := oA; obtain ⟨ad365, e365, hx365_0⟩ := Kd.at_int HR0.out x4_2 p365 q365; obtain rfl : ad356 = ad365 := (by injection e365); replace hx365_0 := (HB.out.cell (World.block_lt_of_cell? w _ hx365_0)).trans hx365_0; replace p365 := eq_true p365; replace q365 := eq_true q365) | ((with_reducible refine gate_builtin (b := .append) (xs := #[.tmp 48, .tmp 53]) rfl ?_); at_builtin; refine Kd.R_append (Kd.int .i64) (w0 := w) w.heap.size rfl (.tmp 48) (.tmp 53) 23 3 (.int .i64 0) 8 rfl Try.underlying23 info3 rfl (by decide) (by omega) v363 y362 (rd l0 x4_2) [.int .i64 (rd l0 x4_2)] (fun _ => True) (fun _ => False) rfl rfl ?aP (fun _ hk => hk.elim) ?aF ?aO ?aB ?aS ?aL ?_; (case aP => exact rfl); (case aB => exact (bU0 HB.out)); (case aF => exact (fun _ _ => trivial)); (case aO => exact (rU HO364.out)); (case aS => exact (below_size (bU0 HB.out))); (case aL => have := LMc21.out; omega); intro v367 w26 ho hb hg hat; rw [← Ny366.out] at ho; have n0 := Az (hb); have n1 := Az (ho); clear HB HO364; have HB := n0; have HO368 := n1; clear n0 n1; clear ho hb hg hat))
              repeat (go_quiet (first | ((with_reducible refine gate_dst (N := 43) rfl ?_); refine Kd.R_lit (Kd.int .i64) _ 3 ?hg (N := 43) ?hd (xs := ([] : List Int)) (inner := []) (ok := fun _ => True) (okp := fun _ => True) ?hr ?hp (fun _ hk => hk) trivial (Below.refl _ _) (Nat.le_refl _) (by simp) ?_; (case hd => rfl); (case hg => rfl); (case hr => first | (go_simp; done) | (go_simp; rfl)); (case hp => exact (Reps.none _ _)); intro v359 w22 ho23 hb hg_ hnew_; clear hg_ hnew_; (first | rw [← Ny358.out] at ho23 | (simp only [Int.reduceToNat] at ho23; rw [← Ny358.out] at ho23)); have n0 := Az (Kd.R_lower ho23 (below_size (bU0 HB.out))); have n1 := Az (below_step (bU0 HB.out) hb); clear HB; have HO360 := n0; have HB := n1; clear n0 n1 hb ho23; obtain ⟨i024, hi024, _, hsz24, _⟩ := info_parts info3; obtain ⟨hcut24, hA24, hC24⟩ := print_take_of (P := Try.prog) (Value.int .i64) 0 23 3 .i64 Try.underlying23 hi024 hsz24 (some ad356) c0 l0 x3_1 (oA) (oA) HC0.out; have HR361 := Az (Kd.C_of_reads (h1 := fun _ => rfl) (hA24 _ (Kd.reads_of_C HR0.out))); have HC361 := Az hC24; clear hA24 hC24 hi024 hsz24) | ((with_reducible refine gate_builtin (b := .append) (xs := #[.tmp 43, .tmp 46]) rfl ?_); at_builtin; refine Kd.R_append_rows (Kd.int .i64) (w0 := w) w.heap.size rfl (.tmp 43) (.tmp 46) 23 3 (.int .i64 0) 8 rfl Try.underlying23 info3 rfl (by decide) (by omega) v359 y358 (l0.take (x3_1 : Int).toNat) _ _ _ (fun _ => True) (fun _ => False) rfl rfl ?aO ?aR (fun _ _ h => h) (fun _ h => h.elim) ?aF ?aB ?aS ?aL ?_; (case aR => first | (have hl_ := (show (l0.take (x3_1 : Int).toNat).length = x3_1.toNat from (by rw [List.length_take]; have h_ : (x3_1 : Int) ≤ (l0.length : Int) := oA; omega)); have hC_ := (Kd.C_below HR361.out HB.out); generalize hz_ : (l0.take (x3_1 : Int).toNat) = z_ at hl_ hC_ ⊢; rw [hl_] at hC_; exact hC_) | (rw [← show (l0.take (x3_1 : Int).toNat).length = x3_1.toNat from (by rw [List.length_take]; have h_ : (x3_1 : Int) ≤ (l0.length : Int) := oA; omega)]; exact cU (Kd.C_below HR361.out HB.out)) | (exact cU (Kd.C_below HR361.out HB.out))); (case aB => exact (bU0 HB.out)); (case aF => exact (fun _ _ => trivial)); (case aO => exact (rU HO360.out)); (case aS => exact (below_size (bU0 HB.out))); (case aL => have := LMc20.out; have hlx_ := (show (l0.take (x3_1 : Int).toNat).length = x3_1.toNat from (by rw [List.length_take]; have h_ : (x3_1 : Int) ≤ (l0.length : Int) := oA; omega)); omega); intro v363 w25 ho hb hg hat; rw [← Ny362.out] at ho; have n0 := Az (hb); have n1 := Az (ho); clear HB HO360; have HB := n0; have HO364 := n1; clear n0 n1 ho hb hg hat; have p365 : 0 ≤ (x4_2 : Int) := oA; have q365 : x4_2 < (l0.length : Int) := oA; obtain ⟨ad365, e365, hx365_0⟩ := Kd.at_int HR0.out x4_2 p365 q365; obtain rfl : ad356 = ad365 := (by injection e365); replace hx365_0 := (HB.out.cell (World.block_lt_of_cell? w _ hx365_0)).trans hx365_0; replace p365 := eq_true p365; replace q365 := eq_true q365) | ((with_reducible refine gate_builtin (b := .append) (xs := #[.tmp 48, .tmp 53]) rfl ?_); at_builtin; refine Kd.R_append (Kd.int .i64) (w0 := w) w.heap.size rfl (.tmp 48) (.tmp 53) 23 3 (.int .i64 0) 8 rfl Try.underlying23 info3 rfl (by decide) (by omega) v363 y362 (rd l0 x4_2) [.int .i64 (rd l0 x4_2)] (fun _ => True) (fun _ => False) rfl rfl ?aP (fun _ hk => hk.elim) ?aF ?aO ?aB ?aS ?aL ?_; (case aP => exact rfl); (case aB => exact (bU0 HB.out)); (case aF => exact (fun _ _ => trivial)); (case aO => exact (rU HO364.out)); (case aS => exact (below_size (bU0 HB.out))); (case aL => have := LMc21.out; omega); intro v367 w26 ho hb hg hat; rw [← Ny366.out] at ho; have n0 := Az (hb); have n1 := Az (ho); clear HB HO364; have HB := n0; have HO368 := n1; clear n0 n1; clear ho hb hg hat)); try go_wp2_with (first | ((with_reducible refine gate_dst (N := 43) rfl ?_); refine Kd.R_lit (Kd.int .i64) _ 3 ?hg (N := 43) ?hd (xs := ([] : List Int)) (inner := []) (ok := fun _ => True) (okp := fun _ => True) ?hr ?hp (fun _ hk => hk) trivial (Below.refl _ _) (Nat.le_refl _) (by simp) ?_; (case hd => rfl); (case hg => rfl); (case hr => first | (go_simp; done) | (go_simp; rfl)); (case hp => exact (Reps.none _ _)); intro v359 w22 ho23 hb hg_ hnew_; clear hg_ hnew_; (first | rw [← Ny358.out] at ho23 | (simp only [Int.reduceToNat] at ho23; rw [← Ny358.out] at ho23)); have n0 := Az (Kd.R_lower ho23 (below_size (bU0 HB.out))); have n1 := Az (below_step (bU0 HB.out) hb); clear HB; have HO360 := n0; have HB := n1; clear n0 n1 hb ho23; obtain ⟨i024, hi024, _, hsz24, _⟩ := info_parts info3; obtain ⟨hcut24, hA24, hC24⟩ := print_take_of (P := Try.prog) (Value.int .i64) 0 23 3 .i64 Try.underlying23 hi024 hsz24 (some ad356) c0 l0 x3_1 (oA) (oA) HC0.out; have HR361 := Az (Kd.C_of_reads (h1 := fun _ => rfl) (hA24 _ (Kd.reads_of_C HR0.out))); have HC361 := Az hC24; clear hA24 hC24 hi024 hsz24) | ((with_reducible refine gate_builtin (b := .append) (xs := #[.tmp 43, .tmp 46]) rfl ?_); at_builtin; refine Kd.R_append_rows (Kd.int .i64) (w0 := w) w.heap.size rfl (.tmp 43) (.tmp 46) 23 3 (.int .i64 0) 8 rfl Try.underlying23 info3 rfl (by decide) (by omega) v359 y358 (l0.take (x3_1 : Int).toNat) _ _ _ (fun _ => True) (fun _ => False) rfl rfl ?aO ?aR (fun _ _ h => h) (fun _ h => h.elim) ?aF ?aB ?aS ?aL ?_; (case aR => first | (have hl_ := (show (l0.take (x3_1 : Int).toNat).length = x3_1.toNat from (by rw [List.length_take]; have h_ : (x3_1 : Int) ≤ (l0.length : Int) := oA; omega)); have hC_ := (Kd.C_below HR361.out HB.out); generalize hz_ : (l0.take (x3_1 : Int).toNat) = z_ at hl_ hC_ ⊢; rw [hl_] at hC_; exact hC_) | (rw [← show (l0.take (x3_1 : Int).toNat).length = x3_1.toNat from (by rw [List.length_take]; have h_ : (x3_1 : Int) ≤ (l0.length : Int) := oA; omega)]; exact cU (Kd.C_below HR361.out HB.out)) | (exact cU (Kd.C_below HR361.out HB.out))); (case aB => exact (bU0 HB.out)); (case aF => exact (fun _ _ => trivial)); (case aO => exact (rU HO360.out)); (case aS => exact (below_size (bU0 HB.out))); (case aL => have := LMc20.out; have hlx_ := (show (l0.take (x3_1 : Int).toNat).length = x3_1.toNat from (by rw [List.length_take]; have h_ : (x3_1 : Int) ≤ (l0.length : Int) := oA; omega)); omega); intro v363 w25 ho hb hg hat; rw [← Ny362.out] at ho; have n0 := Az (hb); have n1 := Az (ho); clear HB HO360; have HB := n0; have HO364 := n1; clear n0 n1 ho hb hg hat; have p365 : 0 ≤ (x4_2 : Int) := oA; have q365 : x4_2 < (l0.length : Int) := oA; obtain ⟨ad365, e365, hx365_0⟩ := Kd.at_int HR0.out x4_2 p365 q365; obtain rfl : ad356 = ad365 := (by injection e365); replace hx365_0 := (HB.out.cell (World.block_lt_of_cell? w _ hx365_0)).trans hx365_0; replace p365 := eq_true p365; replace q365 := eq_true q365) | ((with_reducible refine gate_builtin (b := .append) (xs := #[.tmp 48, .tmp 53]) rfl ?_); at_builtin; refine Kd.R_append (Kd.int .i64) (w0 := w) w.heap.size rfl (.tmp 48) (.tmp 53) 23 3 (.int .i64 0) 8 rfl Try.underlying23 info3 rfl (by decide) (by omega) v363 y362 (rd l0 x4_2) [.int .i64 (rd l0 x4_2)] (fun _ => True) (fun _ => False) rfl rfl ?aP (fun _ hk => hk.elim) ?aF ?aO ?aB ?aS ?aL ?_; (case aP => exact rfl); (case aB => exact (bU0 HB.out)); (case aF => exact (fun _ _ => trivial)); (case aO => exact (rU HO364.out)); (case aS => exact (below_size (bU0 HB.out))); (case aL => have := LMc21.out; omega); intro v367 w26 ho hb hg hat; rw [← Ny366.out] at ho; have n0 := Az (hb); have n1 := Az (ho); clear HB HO364; have HB := n0; have HO368 := n1; clear n0 n1; clear ho hb hg hat)))
              go_loopg [5, 6] k2 (fun kq v5 v6 w' => ∃ (x5_3 : List Int) (x6_3 : Int), v6 = .int .i64 x6_3 ∧ Aside0 (spec_l3Next.l2 kq l0 x3_1 x4_2 x5_3 x6_3 = some r) ∧ Aside0 (kq ≤ k2) ∧ Aside0 (Kd.R (Kd.int .i64) 3 w' w.heap.size (fun _ => True) v5 x5_3) ∧ Aside0 (Below w.heap.size w w'))
              case atStart => exact ⟨(y366), (wrap64 ((l0.length : Int) - 1)), rS, H', ⟨Nat.le_refl _⟩, ⟨rU HO368.out⟩, ⟨bU0 HB.out⟩⟩
              case round =>
               clear H'; (try clear c1); (try clear c2); (try clear p2); (try clear c3); (try clear c3b0); (try clear p3); (try clear q3); (try clear hx3); (try clear c4); (try clear c4b0); (try clear c5); (try clear c5b0); (try clear p6); (try clear c7); (try clear c7b0); (try clear c8); (try clear c8b0); (try clear c9); (try clear c9b0); (try clear c10); (try clear c10b0); (try clear c13); (try clear c13b0); (try clear c14); (try clear c14b0); (try clear c15); (try clear c15b0); (try clear c16); (try clear c16b0); (try clear c17); (try clear c17b0); (try clear c18); (try clear c18b0); (try clear c19); (try clear c19b0); (try clear c19b1); (try clear c20); (try clear c21); (try clear hx351_0); (try clear hx352_0); (try clear hx356_0); (try clear hx357_0); (try clear hx365_0); (try clear p2); (try clear p3); (try clear p351); (try clear p352); (try clear p356); (try clear p357); (try clear p365); (try clear p6); (try clear q3); (try clear q351); (try clear q352); (try clear q356); (try clear q357); (try clear q365); obtain ⟨x5_3, x6_3, rfl, HA, HK3, HO_5, HB⟩ := hrel
               cases gk with
               | zero => exact absurd HA.out (by simp [spec_l3Next.l2])
               | succ k3 =>
                have H := HA.out; clear HA; simp only [spec_l3Next.l2] at H
                by_cases c27 : x6_3 > x3_1
                ·
                 rw [if_pos c27] at H; have c27b0 := decide_eq_true c27; clear c27
                 by_cases c28 : x6_3 = x4_2
                 ·
                  rw [if_pos c28] at H; have c28b0 := beq_iff_eq.mpr c28; have c28b1 := bne_eq_false_iff_eq.mpr c28; clear c28
                  by_cases c29 : 0 ≤ x3_1
                  ·
                   rw [if_pos c29] at H; have c29b0 := decide_eq_true c29; clear c29
                   by_cases c30 : x3_1 < (l0.length : Int)
                   ·
                    rw [if_pos c30] at H; have c30b0 := decide_eq_true c30; clear c30
                    by_cases c31 : x5_3.length < 17592186044416
                    ·
                     rw [if_pos c31] at H; have LMc31 := Az c31; clear c31; obtain ⟨y370, hy370⟩ : ∃ y_ : List Int, y_ = (x5_3 ++ [rd l0 x3_1]) := ⟨_, rfl⟩; replace H : (spec_l3Next.l2 k3 l0 x3_1 x4_2 y370 (wrap64 (x6_3 - 1))) = some r := hR hy370 H; have Ny370 := Az hy370; clear hy370; have H' := Az H; clear H; have p369 : 0 ≤ (x3_1 : Int) := oA; have q369 : x3_1 < (l0.length : Int) := oA; obtain ⟨ad369, e369, hx369_0⟩ := Kd.at_int HR0.out x3_1 p369 q369; obtain rfl : ad356 = ad369 := (by injection e369); (try replace hx369_0 := (HB.out.cell (World.block_lt_of_cell? w _ hx369_0)).trans hx369_0); replace p369 := eq_true p369; replace q369 := eq_true q369
                     go_wp2_with (first | ((with_reducible refine gate_builtin (b := .append) (xs := #[.tmp 66, .tmp 71]) rfl ?_); at_builtin; refine Kd.R_append (Kd.int .i64) (w0 := w) w.heap.size rfl (.tmp 66) (.tmp 71) 23 3 (.int .i64 0) 8 rfl Try.underlying23 info3 rfl (by decide) (by omega) u5 x5_3 (rd l0 x3_1) [.int .i64 (rd l0 x3_1)] (fun _ => True) (fun _ => False) rfl rfl ?aP (fun _ hk => hk.elim) ?aF ?aO ?aB ?aS ?aL ?_; (case aP => exact rfl); (case aB => exact (bU0 HB.out)); (case aF => exact (fun _ _ => trivial)); (case aO => exact (rU HO_5.out)); (case aS => exact (below_size (bU0 HB.out))); (case aL => have := LMc31.out; omega); intro v371 w32 ho hb hg hat; rw [← Ny370.out] at ho; have n0 := Az (hb); have n1 := Az (ho); clear HB HO_5; have HB := n0; have HO372 := n1; clear n0 n1; clear ho hb hg hat))
                     repeat (go_quiet (first | ((with_reducible refine gate_builtin (b := .append) (xs := #[.tmp 66, .tmp 71]) rfl ?_); at_builtin; refine Kd.R_append (Kd.int .i64) (w0 := w) w.heap.size rfl (.tmp 66) (.tmp 71) 23 3 (.int .i64 0) 8 rfl Try.underlying23 info3 rfl (by decide) (by omega) u5 x5_3 (rd l0 x3_1) [.int .i64 (rd l0 x3_1)] (fun _ => True) (fun _ => False) rfl rfl ?aP (fun _ hk => hk.elim) ?aF ?aO ?aB ?aS ?aL ?_; (case aP => exact rfl); (case aB => exact (bU0 HB.out)); (case aF => exact (fun _ _ => trivial)); (case aO => exact (rU HO_5.out)); (case aS => exact (below_size (bU0 HB.out))); (case aL => have := LMc31.out; omega); intro v371 w32 ho hb hg hat; rw [← Ny370.out] at ho; have n0 := Az (hb); have n1 := Az (ho); clear HB HO_5; have HB := n0; have HO372 := n1; clear n0 n1; clear ho hb hg hat)); try go_wp2_with (first | ((with_reducible refine gate_builtin (b := .append) (xs := #[.tmp 66, .tmp 71]) rfl ?_); at_builtin; refine Kd.R_append (Kd.int .i64) (w0 := w) w.heap.size rfl (.tmp 66) (.tmp 71) 23 3 (.int .i64 0) 8 rfl Try.underlying23 info3 rfl (by decide) (by omega) u5 x5_3 (rd l0 x3_1) [.int .i64 (rd l0 x3_1)] (fun _ => True) (fun _ => False) rfl rfl ?aP (fun _ hk => hk.elim) ?aF ?aO ?aB ?aS ?aL ?_; (case aP => exact rfl); (case aB => exact (bU0 HB.out)); (case aF => exact (fun _ _ => trivial)); (case aO => exact (rU HO_5.out)); (case aS => exact (below_size (bU0 HB.out))); (case aL => have := LMc31.out; omega); intro v371 w32 ho hb hg hat; rw [← Ny370.out] at ho; have n0 := Az (hb); have n1 := Az (ho); clear HB HO_5; have HB := n0; have HO372 := n1; clear n0 n1; clear ho hb hg hat)))
                     (first | go_roundg k3 | (refine Handed.intro k3 ?measure ?_; rotate_left; go_step; (try simp only [add_plain]); (repeat apply Exists.intro); refine ⟨?rel, rfl⟩))
                     case measure => have := HJ1.out; have := HK2.out; have := HK3.out; omega
                     case rel => exact ⟨(y370), (wrap64 (x6_3 - 1)), rS, H', ⟨by have := HJ1.out; have := HK2.out; have := HK3.out; omega⟩, ⟨rU HO372.out⟩, ⟨bU0 HB.out⟩⟩
                    ·
                     rw [if_neg c31] at H
                     exact absurd H (by simp)
                   ·
                    rw [if_neg c30] at H
                    exact absurd H (by simp)
                  ·
                   rw [if_neg c29] at H
                   exact absurd H (by simp)
                 ·
                  rw [if_neg c28] at H; have c28b0 := beq_eq_false_iff_ne.mpr c28; have c28b1 := bne_iff_ne.mpr c28
                  by_cases c33 : 0 ≤ x6_3
                  ·
                   rw [if_pos c33] at H; have c33b0 := decide_eq_true c33; clear c33
                   by_cases c34 : x6_3 < (l0.length : Int)
                   ·
                    rw [if_pos c34] at H; have c34b0 := decide_eq_true c34; clear c34
                    by_cases c35 : x5_3.length < 17592186044416
                    ·
                     rw [if_pos c35] at H; have LMc35 := Az c35; clear c35; obtain ⟨y374, hy374⟩ : ∃ y_ : List Int, y_ = (x5_3 ++ [rd l0 x6_3]) := ⟨_, rfl⟩; replace H : (spec_l3Next.l2 k3 l0 x3_1 x4_2 y374 (wrap64 (x6_3 - 1))) = some r := hR hy374 H; have Ny374 := Az hy374; clear hy374; have H' := Az H; clear H; have p373 : 0 ≤ (x6_3 : Int) := oA; have q373 : x6_3 < (l0.length : Int) := oA; obtain ⟨ad373, e373, hx373_0⟩ := Kd.at_int HR0.out x6_3 p373 q373; obtain rfl : ad356 = ad373 := (by injection e373); (try replace hx373_0 := (HB.out.cell (World.block_lt_of_cell? w _ hx373_0)).trans hx373_0); replace p373 := eq_true p373; replace q373 := eq_true q373
                     go_wp2_with (first | ((with_reducible refine gate_builtin (b := .append) (xs := #[.tmp 73, .tmp 78]) rfl ?_); at_builtin; refine Kd.R_append (Kd.int .i64) (w0 := w) w.heap.size rfl (.tmp 73) (.tmp 78) 23 3 (.int .i64 0) 8 rfl Try.underlying23 info3 rfl (by decide) (by omega) u5 x5_3 (rd l0 x6_3) [.int .i64 (rd l0 x6_3)] (fun _ => True) (fun _ => False) rfl rfl ?aP (fun _ hk => hk.elim) ?aF ?aO ?aB ?aS ?aL ?_; (case aP => exact rfl); (case aB => exact (bU0 HB.out)); (case aF => exact (fun _ _ => trivial)); (case aO => exact (rU HO_5.out)); (case aS => exact (below_size (bU0 HB.out))); (case aL => have := LMc35.out; omega); intro v375 w36 ho hb hg hat; rw [← Ny374.out] at ho; have n0 := Az (hb); have n1 := Az (ho); clear HB HO_5; have HB := n0; have HO376 := n1; clear n0 n1; clear ho hb hg hat))
                     repeat (go_quiet (first | ((with_reducible refine gate_builtin (b := .append) (xs := #[.tmp 73, .tmp 78]) rfl ?_); at_builtin; refine Kd.R_append (Kd.int .i64) (w0 := w) w.heap.size rfl (.tmp 73) (.tmp 78) 23 3 (.int .i64 0) 8 rfl Try.underlying23 info3 rfl (by decide) (by omega) u5 x5_3 (rd l0 x6_3) [.int .i64 (rd l0 x6_3)] (fun _ => True) (fun _ => False) rfl rfl ?aP (fun _ hk => hk.elim) ?aF ?aO ?aB ?aS ?aL ?_; (case aP => exact rfl); (case aB => exact (bU0 HB.out)); (case aF => exact (fun _ _ => trivial)); (case aO => exact (rU HO_5.out)); (case aS => exact (below_size (bU0 HB.out))); (case aL => have := LMc35.out; omega); intro v375 w36 ho hb hg hat; rw [← Ny374.out] at ho; have n0 := Az (hb); have n1 := Az (ho); clear HB HO_5; have HB := n0; have HO376 := n1; clear n0 n1; clear ho hb hg hat)); try go_wp2_with (first | ((with_reducible refine gate_builtin (b := .append) (xs := #[.tmp 73, .tmp 78]) rfl ?_); at_builtin; refine Kd.R_append (Kd.int .i64) (w0 := w) w.heap.size rfl (.tmp 73) (.tmp 78) 23 3 (.int .i64 0) 8 rfl Try.underlying23 info3 rfl (by decide) (by omega) u5 x5_3 (rd l0 x6_3) [.int .i64 (rd l0 x6_3)] (fun _ => True) (fun _ => False) rfl rfl ?aP (fun _ hk => hk.elim) ?aF ?aO ?aB ?aS ?aL ?_; (case aP => exact rfl); (case aB => exact (bU0 HB.out)); (case aF => exact (fun _ _ => trivial)); (case aO => exact (rU HO_5.out)); (case aS => exact (below_size (bU0 HB.out))); (case aL => have := LMc35.out; omega); intro v375 w36 ho hb hg hat; rw [← Ny374.out] at ho; have n0 := Az (hb); have n1 := Az (ho); clear HB HO_5; have HB := n0; have HO376 := n1; clear n0 n1; clear ho hb hg hat)))
                     (first | go_roundg k3 | (refine Handed.intro k3 ?measure ?_; rotate_left; go_step; (try simp only [add_plain]); (repeat apply Exists.intro); refine ⟨?rel, rfl⟩))
                     case measure => have := HJ1.out; have := HK2.out; have := HK3.out; omega
                     case rel => exact ⟨(y374), (wrap64 (x6_3 - 1)), rS, H', ⟨by have := HJ1.out; have := HK2.out; have := HK3.out; omega⟩, ⟨rU HO376.out⟩, ⟨bU0 HB.out⟩⟩
                    ·
                     rw [if_neg c35] at H
                     exact absurd H (by simp)
                   ·
                    rw [if_neg c34] at H
                    exact absurd H (by simp)
                  ·
                   rw [if_neg c33] at H
                   exact absurd H (by simp)
                ·
                 rw [if_neg c27] at H; have c27b0 := decide_eq_false c27; clear c27; obtain rfl := Option.some.inj H
                 go_wp2
                 repeat (go_quiet (fail); try go_wp2)
                 go_ret
                 exact ⟨_, rE, rU HO_5.out, bU0 HB.out⟩
             ·
              rw [if_neg c21] at H
              exact absurd H (by simp)
            ·
             rw [if_neg c20] at H
             exact absurd H (by simp)
           ·
            rw [if_neg c19] at H
            exact absurd H (by simp)
         ·
          rw [if_neg c16] at H
          exact absurd H (by simp)
        ·
         rw [if_neg c15] at H
         exact absurd H (by simp)
       ·
        rw [if_neg c14] at H
        exact absurd H (by simp)
      ·
       rw [if_neg c13] at H
       exact absurd H (by simp)
def spec_l5Class.l0 : Nat → List Int → List (List Int) → List Int → Option ((List (List Int)))
 | 0, _, _, _ => none
 | k + 1, x0, x3, x4 => if (x4.length : Int) > 0 then ((spec_l1Type.f k x4).bind fun t384 => (if (t384.length : Int) = (x0.length : Int) then ((spec_l1Type.f k x4).bind fun t387 => ((spec_l2Order.f k t387 x0).bind fun t390 => (if t390 = 0 then (if x3.length < 5864062014805 then ((spec_l3Next.f k x4).bind fun t394 => (spec_l5Class.l0 k x0 (x3 ++ [x4]) t394)) else (none)) else ((spec_l3Next.f k x4).bind fun t397 => (spec_l5Class.l0 k x0 x3 t397))))) else ((spec_l3Next.f k x4).bind fun t400 => (spec_l5Class.l0 k x0 x3 t400)))) else (some x3)
def spec_l5Class.f (k : Nat) (l0 : List Int) : Option ((List (List Int))) := (spec_l5Sum.f k l0).bind fun t380 => ((spec_l1Same.f k t380).bind fun t381 => (spec_l5Class.l0 k l0 (([] : List (List Int))) t381))
set_option maxHeartbeats 8000000 in
set_option maxRecDepth 100000 in
theorem spec_l5Class.calls (k : Nat) (A0 : Option Addr) (c0 : Nat) (l0 : List Int) (r : List (List Int)) (w : World) (hr0 : Kd.C (Kd.int .i64) w A0 l0.length l0) (hc0 : l0.length ≤ c0) (h : spec_l5Class.f k l0 = some r) :
  Calls Try.prog 136 #[.slice A0 l0.length c0] w fun e w' => ∃ v0_ : Value, e = .returned (v0_) ∧ Kd.S (Kd.slice 3 (Kd.int .i64)) 23 w' w.heap.size (fun _ => True) v0_ r ∧ Below w.heap.size w w' := by
 have HR0 := Az hr0; have HC0 := Az hc0; clear hr0 hc0; have HB := Az (Below.refl w.heap.size w); have H : ((spec_l5Sum.f k l0).bind fun t380 => ((spec_l1Same.f k t380).bind fun t381 => (spec_l5Class.l0 k l0 (([] : List (List Int))) t381))) = some r := h; clear h; obtain ⟨y377, hy377⟩ : ∃ y_ : List (List Int), y_ = (([] : List (List Int))) := ⟨_, rfl⟩; replace H : ((spec_l5Sum.f k l0).bind fun t380 => ((spec_l1Same.f k t380).bind fun t381 => (spec_l5Class.l0 k l0 y377 t381))) = some r := hR hy377 H; have Ny377 := Az hy377; clear hy377; replace H := Option.bind_eq_some_iff.mp H; obtain ⟨t380, A20, H⟩ := H; replace H : ((spec_l1Same.f k t380).bind fun t381 => (spec_l5Class.l0 k l0 y377 t381)) = some r := H; have A2 := Az A20; clear A20; replace H := Option.bind_eq_some_iff.mp H; obtain ⟨t381, A30, H⟩ := H; replace H : (spec_l5Class.l0 k l0 y377 t381) = some r := H; have A3 := Az A30; clear A30; have H' := Az H; clear H
 go_enter Try.func136, Try.ntmps136
 go_wp2_with (first | ((with_reducible refine gate_dst (N := 5) rfl ?_); refine Kd.S_lit (Kd.slice 3 (Kd.int .i64)) _ 23 ?hg (N := 5) ?hd (xs := ([] : List (List Int))) (inner := []) (ok := fun _ => True) (okp := fun _ => True) ?hr ?hp (fun _ hk => hk) trivial (Below.refl _ _) (Nat.le_refl _) (by simp) ?_; (case hd => rfl); (case hg => rfl); (case hr => first | (go_simp; done) | (go_simp; rfl)); (case hp => exact (Reps.none _ _)); intro v378 w4 ho5 hb hg_ hnew_; clear hg_ hnew_; (first | rw [← Ny377.out] at ho5 | (simp only [Int.reduceToNat] at ho5; rw [← Ny377.out] at ho5)); have n0 := Az (Kd.S_lower ho5 (below_size (bU0 HB.out))); have n1 := Az (below_step (bU0 HB.out) hb); clear HB; have HO379 := n0; have HB := n1; clear n0 n1; clear hb ho5) | ((with_reducible refine gate_callee (f := 92) rfl ?_); refine goesL_ (some 7) rfl rfl Try.func92 (by kernel_rfl) rfl #[.slice A0 l0.length c0] rfl (by (try simp only [List.map_toArray, List.map_cons, List.map_nil]); first | done | rfl | (simp only [List.length_drop, List.length_take]; rfl)) ?_; (with_reducible refine (spec_l5Sum.calls k _ _ l0 t380 _ ?side1 ?side2 A2.out).mono ?_); (case side1 => exact cU (Kd.C_below HR0.out HB.out)); (case side2 => exact HC0.out); rintro e w' ⟨rfl, ⟨nd, rfl⟩⟩; refine ⟨_, rfl, ?_⟩) | ((with_reducible refine gate_callee (f := 91) rfl ?_); refine goesL_ (some 8) rfl rfl Try.func91 (by kernel_rfl) rfl #[.int .i64 t380] rfl (by (try simp only [List.map_toArray, List.map_cons, List.map_nil]); first | done | rfl | (simp only [List.length_drop, List.length_take]; rfl)) ?_; (with_reducible refine (spec_l1Same.calls k t380 t381 _ A3.out).mono ?_); rintro e w6 ⟨v382, rfl, ho0, hb⟩; refine ⟨_, rfl, ?_⟩; have n0 := Az (Kd.S_elder' (sU HO379.out) (Kd.R_base ho0) hb); have n1 := Az (Kd.R_lower ho0 (below_size (bU0 HB.out))); have n2 := Az (below_step (bU0 HB.out) hb); clear HO379 HB; have HO379 := n0; have HO383 := n1; have HB := n2; clear n0 n1 n2; (try clear hb); (try clear hb2); (try clear hk); (try clear hi); (try clear ho0)))
 go_loopg [3, 4] k (fun kq v3 v4 w' => ∃ (x3_1 : List (List Int)) (x4_1 : List Int), Aside0 (spec_l5Class.l0 kq l0 x3_1 x4_1 = some r) ∧ Aside0 (kq ≤ k) ∧ Aside0 (Kd.S (Kd.slice 3 (Kd.int .i64)) 23 w' w.heap.size (fun k_ => some k_ ≠ (v4 : Value).ownBlock) v3 x3_1) ∧ Aside0 (Kd.R (Kd.int .i64) 3 w' w.heap.size (fun _ => True) v4 x4_1) ∧ Aside0 (Below w.heap.size w w'))
 case atStart => exact ⟨(y377), (t381), H', ⟨Nat.le_refl _⟩, ⟨by (with_reducible repeat (first | apply Kd.S_alloc | apply Kd.S_drewN | apply Kd.S_drew)); exact Kd.S_mono HO379.out (fun _ hk => hk.2)⟩, ⟨rU HO383.out⟩, ⟨bU0 HB.out⟩⟩
 case round =>
  clear H'; (try clear c1); (try clear p2); obtain ⟨x3_1, x4_1, HA, HK1, HO_3, HO_4, HB⟩ := hrel
  cases gk with
  | zero => exact absurd HA.out (by simp [spec_l5Class.l0])
  | succ k1 =>
   have H := HA.out; clear HA; simp only [spec_l5Class.l0] at H
   by_cases c7 : (x4_1.length : Int) > 0
   ·
    rw [if_pos c7] at H; have c7b0 := decide_eq_true c7; have c7b1 : decide (0 < x4_1.length) = true := decide_eq_true (by omega); clear c7; replace H := Option.bind_eq_some_iff.mp H; obtain ⟨t384, A80, H⟩ := H; replace H : (if (t384.length : Int) = (l0.length : Int) then ((spec_l1Type.f k1 x4_1).bind fun t387 => ((spec_l2Order.f k1 t387 l0).bind fun t390 => (if t390 = 0 then (if x3_1.length < 5864062014805 then ((spec_l3Next.f k1 x4_1).bind fun t394 => (spec_l5Class.l0 k1 l0 (x3_1 ++ [x4_1]) t394)) else (none)) else ((spec_l3Next.f k1 x4_1).bind fun t397 => (spec_l5Class.l0 k1 l0 x3_1 t397))))) else ((spec_l3Next.f k1 x4_1).bind fun t400 => (spec_l5Class.l0 k1 l0 x3_1 t400))) = some r := H; have A8 := Az A80; clear A80
    by_cases c9 : (t384.length : Int) = (l0.length : Int)
    ·
     rw [if_pos c9] at H; have c9b0 := beq_iff_eq.mpr c9; have c9b1 := bne_eq_false_iff_eq.mpr c9
     have c9b2 : (t384.length == l0.length) = true := by first | simpa using c9 | (simp at c9 ⊢; omega)
     clear c9; replace H := Option.bind_eq_some_iff.mp H; obtain ⟨t387, A100, H⟩ := H; replace H : ((spec_l2Order.f k1 t387 l0).bind fun t390 => (if t390 = 0 then (if x3_1.length < 5864062014805 then ((spec_l3Next.f k1 x4_1).bind fun t394 => (spec_l5Class.l0 k1 l0 (x3_1 ++ [x4_1]) t394)) else (none)) else ((spec_l3Next.f k1 x4_1).bind fun t397 => (spec_l5Class.l0 k1 l0 x3_1 t397)))) = some r := H; have A10 := Az A100; clear A100; replace H := Option.bind_eq_some_iff.mp H; obtain ⟨t390, A110, H⟩ := H; replace H : (if t390 = 0 then (if x3_1.length < 5864062014805 then ((spec_l3Next.f k1 x4_1).bind fun t394 => (spec_l5Class.l0 k1 l0 (x3_1 ++ [x4_1]) t394)) else (none)) else ((spec_l3Next.f k1 x4_1).bind fun t397 => (spec_l5Class.l0 k1 l0 x3_1 t397))) = some r := H; have A11 := Az A110; clear A110
     by_cases c12 : t390 = 0
     ·
      rw [if_pos c12] at H; have c12b0 := beq_iff_eq.mpr c12; have c12b1 := bne_eq_false_iff_eq.mpr c12; clear c12
      by_cases c13 : x3_1.length < 5864062014805
      ·
       rw [if_pos c13] at H; have LMc13 := Az c13; clear c13; obtain ⟨y391, hy391⟩ : ∃ y_ : List (List Int), y_ = (x3_1 ++ [x4_1]) := ⟨_, rfl⟩; replace H : ((spec_l3Next.f k1 x4_1).bind fun t394 => (spec_l5Class.l0 k1 l0 y391 t394)) = some r := hR hy391 H; have Ny391 := Az hy391; clear hy391; replace H := Option.bind_eq_some_iff.mp H; obtain ⟨t394, A140, H⟩ := H; replace H : (spec_l5Class.l0 k1 l0 y391 t394) = some r := H; have A14 := Az A140; clear A140; have H' := Az H; clear H; obtain ⟨Ao15, co15, eo15⟩ := Kd.R_slice HO_4.out; subst eo15
       go_wp2_with (first | ((with_reducible refine gate_callee (f := 89) rfl ?_); refine goesL_ (some 15) rfl rfl Try.func89 (by kernel_rfl) rfl #[.slice Ao15 x4_1.length co15] rfl (by (try simp only [List.map_toArray, List.map_cons, List.map_nil]); first | done | rfl | (simp only [List.length_drop, List.length_take]; rfl)) ?_; (with_reducible refine (spec_l1Type.calls k1 _ _ x4_1 t384 _ ?side1 ?side2 A8.out).mono ?_); (case side1 => exact cU ((Kd.R_reads' HO_4.out).2.2)); (case side2 => exact (Kd.R_reads' HO_4.out).2.1); rintro e w16 ⟨v385, rfl, ho0, hb⟩; refine ⟨_, rfl, ?_⟩; have n0 := Az (Kd.S_elder' (sU HO_3.out) (Kd.R_base ho0) hb); have n1 := Az (Kd.R_elder' (rU HO_4.out) (Kd.R_base ho0) hb); have n2 := Az (Kd.R_lower (Kd.R_new' ho0 (Kd.R_lt (rU HO_4.out))) (below_size (bU0 HB.out))); have n3 := Az (below_step (bU0 HB.out) hb); clear HO_3 HO_4 HB; have HO_3 := n0; have HO_4 := n1; have HO386 := n2; have HB := n3; clear n0 n1 n2 n3; (try clear hb); (try clear hb2); (try clear hk); (try clear hi); (try clear ho0); obtain ⟨Ao17, co17, eo17⟩ := Kd.R_slice HO386.out; subst eo17) | (go_at_call 89; (with_reducible refine (spec_l1Type.calls k1 _ _ x4_1 t387 _ ?side1 ?side2 A10.out).mono ?_); (case side1 => exact cU ((Kd.R_reads' HO_4.out).2.2)); (case side2 => exact (Kd.R_reads' HO_4.out).2.1); rintro e w18 ⟨v388, rfl, ho0, hb⟩; have n0 := Az (Kd.S_elder' (sU HO_3.out) (Kd.R_base ho0) hb); have n1 := Az (Kd.R_elder' (rU HO_4.out) (Kd.R_base ho0) hb); have n2 := Az (Kd.R_elder' (rU HO386.out) (Kd.R_base ho0) hb); have n3 := Az (Kd.R_lower (Kd.R_new' (Kd.R_new' ho0 (Kd.R_lt (rU HO_4.out))) (Kd.R_lt (rU HO386.out))) (below_size (bU0 HB.out))); have n4 := Az (below_step (bU0 HB.out) hb); clear HO_3 HO_4 HO386 HB; have HO_3 := n0; have HO_4 := n1; have HO386 := n2; have HO389 := n3; have HB := n4; clear n0 n1 n2 n3 n4; (try clear hb); (try clear hb2); (try clear hk); (try clear hi); (try clear ho0); obtain ⟨Ao19, co19, eo19⟩ := Kd.R_slice HO389.out; subst eo19) | (go_at_call 108; (with_reducible refine (spec_l2Order.calls k1 _ _ t387 _ _ l0 t390 _ ?side1 ?side2 ?side3 ?side4 A11.out).mono ?_); (case side1 => exact cU ((Kd.R_reads' HO389.out).2.2)); (case side2 => exact (Kd.R_reads' HO389.out).2.1); (case side3 => exact cU (Kd.C_below HR0.out HB.out)); (case side4 => exact HC0.out); rintro e w' ⟨rfl, ⟨nd, rfl⟩⟩) | ((with_reducible refine gate_builtin (b := .append) (xs := #[.tmp 27, .tmp 29]) rfl ?_); at_builtin; refine Kd.S_append (Kd.slice 3 (Kd.int .i64)) (w0 := w) w.heap.size rfl (.tmp 27) (.tmp 29) 45 23 (.slice none 0 0) 24 rfl Try.underlying45 info23 rfl (by decide) (by omega) u3 x3_1 x4_1 [.slice Ao15 x4_1.length co15] (fun k_ => some k_ ≠ (.slice Ao17 t384.length co17 : Value).ownBlock ∧ some k_ ≠ (.slice Ao19 t387.length co19 : Value).ownBlock) (fun k_ => some k_ = (.slice Ao15 x4_1.length co15 : Value).ownBlock) rfl rfl ?aP (fun k_ hk_ => ((Kd.R_mono (ok' := fun k_ => ((fun k_ => some k_ ≠ (.slice Ao17 t384.length co17 : Value).ownBlock ∧ some k_ ≠ (.slice Ao19 t387.length co19 : Value).ownBlock)) k_ ∧ some k_ ≠ (u3 : Value).ownBlock) (Kd.R_apart' (HO_4.out) (Kd.S_typed HO_3.out) (by decide)) (fun k_ hk => ⟨⟨hk.1.1.2, hk.1.2⟩, hk.2⟩))).1 k_ hk_.symm) ?aF ?aO ?aB ?aS ?aL ?_; (case aP => exact Kd.M_row (Kd.R_mono (Kd.R_tight rfl (Kd.R_mono (ok' := fun k_ => ((fun k_ => some k_ ≠ (.slice Ao17 t384.length co17 : Value).ownBlock ∧ some k_ ≠ (.slice Ao19 t387.length co19 : Value).ownBlock)) k_ ∧ some k_ ≠ (u3 : Value).ownBlock) (Kd.R_apart' (HO_4.out) (Kd.S_typed HO_3.out) (by decide)) (fun k_ hk => ⟨⟨hk.1.1.2, hk.1.2⟩, hk.2⟩))) (fun _ h_ => h_))); (case aB => exact (bU0 HB.out)); (case aF => exact (fun k_ hk => ⟨Kd.fresh' (Kd.R_lt (rU HO386.out)) k_ hk, Kd.fresh' (Kd.R_lt (rU HO389.out)) k_ hk⟩)); (case aO => exact (by (with_reducible repeat (first | apply Kd.S_alloc | apply Kd.S_drewN | apply Kd.S_drew)); exact Kd.S_mono HO_3.out (fun k_ hk => ⟨⟨hk.1.2, hk.2⟩, fun e_ => hk.1.1 e_⟩))); (case aS => exact (below_size (bU0 HB.out))); (case aL => have := LMc13.out; omega); intro v392 w20 ho hb hg hat; rw [← Ny391.out] at ho; have n9 := Az (Kd.R_over' (rU HO_4.out) (Kd.S_typed (sU HO_3.out)) (by decide) hg); have n0 := Az (Kd.R_over' (rU HO386.out) (Kd.S_typed (sU HO_3.out)) (by decide) hg); have n1 := Az (Kd.R_over' (rU HO389.out) (Kd.S_typed (sU HO_3.out)) (by decide) hg); have n2 := Az (hb); have n3 := Az (ho); clear HO386 HO389 HB HO_3 HO_4; have HO_4 := n9; clear n9; have HO386 := n0; have HO389 := n1; have HB := n2; have HO393 := n3; clear n0 n1 n2 n3; clear ho hb hg hat) | ((with_reducible refine gate_callee (f := 156) rfl ?_); refine goesL_ (some 13) rfl rfl Try.func156 (by kernel_rfl) rfl #[.slice Ao15 x4_1.length co15] rfl (by (try simp only [List.map_toArray, List.map_cons, List.map_nil]); first | done | rfl | (simp only [List.length_drop, List.length_take]; rfl)) ?_; (with_reducible refine (spec_l3Next.calls k1 _ _ x4_1 t394 _ ?side1 ?side2 A14.out).mono ?_); (case side1 => exact cU ((Kd.R_reads' HO_4.out).2.2)); (case side2 => exact (Kd.R_reads' HO_4.out).2.1); rintro e w21 ⟨v395, rfl, ho0, hb⟩; refine ⟨_, rfl, ?_⟩; have n0 := Az (Kd.R_elder' (rU HO386.out) (Kd.R_base ho0) hb); have n1 := Az (Kd.R_elder' (rU HO389.out) (Kd.R_base ho0) hb); have n2 := Az (Kd.S_elder' (sU HO393.out) (Kd.R_base ho0) hb); have n3 := Az (Kd.R_lower (Kd.R_new' (Kd.R_new' ho0 (Kd.R_lt (rU HO386.out))) (Kd.R_lt (rU HO389.out))) (below_size (bU0 HB.out))); have n4 := Az (below_step (bU0 HB.out) hb); clear HO386 HO389 HO393 HB; have HO386 := n0; have HO389 := n1; have HO393 := n2; have HO396 := n3; have HB := n4; clear n0 n1 n2 n3 n4; (try clear hb); (try clear hb2); (try clear hk); (try clear hi); (try clear ho0)))
       (first | go_roundg k1 | (refine Handed.intro k1 ?measure ?_; rotate_left; go_step; (try simp only [add_plain]); (repeat apply Exists.intro); refine ⟨?rel, rfl⟩))
       case measure => have := HK1.out; omega
       case rel => exact ⟨(y391), (t394), H', ⟨by have := HK1.out; omega⟩, ⟨by (with_reducible repeat (first | apply Kd.S_alloc | apply Kd.S_drewN | apply Kd.S_drew)); exact Kd.S_mono HO393.out (fun _ hk => hk.2)⟩, ⟨by (with_reducible repeat (first | apply Kd.R_alloc | apply Kd.R_drewN | apply Kd.R_drew)); exact Kd.R_mono HO396.out (fun _ hk => trivial)⟩, ⟨bU0 HB.out⟩⟩
      ·
       rw [if_neg c13] at H
       exact absurd H (by simp)
     ·
      rw [if_neg c12] at H; have c12b0 := beq_eq_false_iff_ne.mpr c12; have c12b1 := bne_iff_ne.mpr c12; replace H := Option.bind_eq_some_iff.mp H; obtain ⟨t397, A220, H⟩ := H; replace H : (spec_l5Class.l0 k1 l0 x3_1 t397) = some r := H; have A22 := Az A220; clear A220; have H' := Az H; clear H; obtain ⟨Ao23, co23, eo23⟩ := Kd.R_slice HO_4.out; subst eo23
      go_wp2_with (first | ((with_reducible refine gate_callee (f := 89) rfl ?_); refine goesL_ (some 15) rfl rfl Try.func89 (by kernel_rfl) rfl #[.slice Ao23 x4_1.length co23] rfl (by (try simp only [List.map_toArray, List.map_cons, List.map_nil]); first | done | rfl | (simp only [List.length_drop, List.length_take]; rfl)) ?_; (with_reducible refine (spec_l1Type.calls k1 _ _ x4_1 t384 _ ?side1 ?side2 A8.out).mono ?_); (case side1 => exact cU ((Kd.R_reads' HO_4.out).2.2)); (case side2 => exact (Kd.R_reads' HO_4.out).2.1); rintro e w24 ⟨v385, rfl, ho0, hb⟩; refine ⟨_, rfl, ?_⟩; have n0 := Az (Kd.S_elder' (sU HO_3.out) (Kd.R_base ho0) hb); have n1 := Az (Kd.R_elder' (rU HO_4.out) (Kd.R_base ho0) hb); have n2 := Az (Kd.R_lower (Kd.R_new' ho0 (Kd.R_lt (rU HO_4.out))) (below_size (bU0 HB.out))); have n3 := Az (below_step (bU0 HB.out) hb); clear HO_3 HO_4 HB; have HO_3 := n0; have HO_4 := n1; have HO386 := n2; have HB := n3; clear n0 n1 n2 n3; (try clear hb); (try clear hb2); (try clear hk); (try clear hi); (try clear ho0); obtain ⟨Ao25, co25, eo25⟩ := Kd.R_slice HO386.out; subst eo25) | (go_at_call 89; (with_reducible refine (spec_l1Type.calls k1 _ _ x4_1 t387 _ ?side1 ?side2 A10.out).mono ?_); (case side1 => exact cU ((Kd.R_reads' HO_4.out).2.2)); (case side2 => exact (Kd.R_reads' HO_4.out).2.1); rintro e w26 ⟨v388, rfl, ho0, hb⟩; have n0 := Az (Kd.S_elder' (sU HO_3.out) (Kd.R_base ho0) hb); have n1 := Az (Kd.R_elder' (rU HO_4.out) (Kd.R_base ho0) hb); have n2 := Az (Kd.R_elder' (rU HO386.out) (Kd.R_base ho0) hb); have n3 := Az (Kd.R_lower (Kd.R_new' (Kd.R_new' ho0 (Kd.R_lt (rU HO_4.out))) (Kd.R_lt (rU HO386.out))) (below_size (bU0 HB.out))); have n4 := Az (below_step (bU0 HB.out) hb); clear HO_3 HO_4 HO386 HB; have HO_3 := n0; have HO_4 := n1; have HO386 := n2; have HO389 := n3; have HB := n4; clear n0 n1 n2 n3 n4; (try clear hb); (try clear hb2); (try clear hk); (try clear hi); (try clear ho0); obtain ⟨Ao27, co27, eo27⟩ := Kd.R_slice HO389.out; subst eo27) | (go_at_call 108; (with_reducible refine (spec_l2Order.calls k1 _ _ t387 _ _ l0 t390 _ ?side1 ?side2 ?side3 ?side4 A11.out).mono ?_); (case side1 => exact cU ((Kd.R_reads' HO389.out).2.2)); (case side2 => exact (Kd.R_reads' HO389.out).2.1); (case side3 => exact cU (Kd.C_below HR0.out HB.out)); (case side4 => exact HC0.out); rintro e w' ⟨rfl, ⟨nd, rfl⟩⟩) | ((with_reducible refine gate_callee (f := 156) rfl ?_); refine goesL_ (some 13) rfl rfl Try.func156 (by kernel_rfl) rfl #[.slice Ao23 x4_1.length co23] rfl (by (try simp only [List.map_toArray, List.map_cons, List.map_nil]); first | done | rfl | (simp only [List.length_drop, List.length_take]; rfl)) ?_; (with_reducible refine (spec_l3Next.calls k1 _ _ x4_1 t397 _ ?side1 ?side2 A22.out).mono ?_); (case side1 => exact cU ((Kd.R_reads' HO_4.out).2.2)); (case side2 => exact (Kd.R_reads' HO_4.out).2.1); rintro e w28 ⟨v398, rfl, ho0, hb⟩; refine ⟨_, rfl, ?_⟩; have n0 := Az (Kd.S_elder' (sU HO_3.out) (Kd.R_base ho0) hb); have n1 := Az (Kd.R_elder' (rU HO_4.out) (Kd.R_base ho0) hb); have n2 := Az (Kd.R_elder' (rU HO386.out) (Kd.R_base ho0) hb); have n3 := Az (Kd.R_elder' (rU HO389.out) (Kd.R_base ho0) hb); have n4 := Az (Kd.R_lower (Kd.R_new' (Kd.R_new' (Kd.R_new' ho0 (Kd.R_lt (rU HO_4.out))) (Kd.R_lt (rU HO386.out))) (Kd.R_lt (rU HO389.out))) (below_size (bU0 HB.out))); have n5 := Az (below_step (bU0 HB.out) hb); clear HO_3 HO_4 HO386 HO389 HB; have HO_3 := n0; have HO_4 := n1; have HO386 := n2; have HO389 := n3; have HO399 := n4; have HB := n5; clear n0 n1 n2 n3 n4 n5; (try clear hb); (try clear hb2); (try clear hk); (try clear hi); (try clear ho0)))
      (first | go_roundg k1 | (refine Handed.intro k1 ?measure ?_; rotate_left; go_step; (try simp only [add_plain]); (repeat apply Exists.intro); refine ⟨?rel, rfl⟩))
      case measure => have := HK1.out; omega
      case rel => exact ⟨(x3_1), (t397), H', ⟨by have := HK1.out; omega⟩, ⟨by (with_reducible repeat (first | apply Kd.S_alloc | apply Kd.S_drewN | apply Kd.S_drew)); exact Kd.S_mono HO_3.out (fun _ hk => hk.2)⟩, ⟨by (with_reducible repeat (first | apply Kd.R_alloc | apply Kd.R_drewN | apply Kd.R_drew)); exact Kd.R_mono HO399.out (fun _ hk => trivial)⟩, ⟨bU0 HB.out⟩⟩
    ·
     rw [if_neg c9] at H; have c9b0 := beq_eq_false_iff_ne.mpr c9; have c9b1 := bne_iff_ne.mpr c9
     have c9b2 : (t384.length == l0.length) = false := by first | simpa using c9 | (simp at c9 ⊢; omega)
     replace H := Option.bind_eq_some_iff.mp H; obtain ⟨t400, A290, H⟩ := H; replace H : (spec_l5Class.l0 k1 l0 x3_1 t400) = some r := H; have A29 := Az A290; clear A290; have H' := Az H; clear H; obtain ⟨Ao30, co30, eo30⟩ := Kd.R_slice HO_4.out; subst eo30
     go_wp2_with (first | ((with_reducible refine gate_callee (f := 89) rfl ?_); refine goesL_ (some 15) rfl rfl Try.func89 (by kernel_rfl) rfl #[.slice Ao30 x4_1.length co30] rfl (by (try simp only [List.map_toArray, List.map_cons, List.map_nil]); first | done | rfl | (simp only [List.length_drop, List.length_take]; rfl)) ?_; (with_reducible refine (spec_l1Type.calls k1 _ _ x4_1 t384 _ ?side1 ?side2 A8.out).mono ?_); (case side1 => exact cU ((Kd.R_reads' HO_4.out).2.2)); (case side2 => exact (Kd.R_reads' HO_4.out).2.1); rintro e w31 ⟨v385, rfl, ho0, hb⟩; refine ⟨_, rfl, ?_⟩; have n0 := Az (Kd.S_elder' (sU HO_3.out) (Kd.R_base ho0) hb); have n1 := Az (Kd.R_elder' (rU HO_4.out) (Kd.R_base ho0) hb); have n2 := Az (Kd.R_lower (Kd.R_new' ho0 (Kd.R_lt (rU HO_4.out))) (below_size (bU0 HB.out))); have n3 := Az (below_step (bU0 HB.out) hb); clear HO_3 HO_4 HB; have HO_3 := n0; have HO_4 := n1; have HO386 := n2; have HB := n3; clear n0 n1 n2 n3; (try clear hb); (try clear hb2); (try clear hk); (try clear hi); (try clear ho0); obtain ⟨Ao32, co32, eo32⟩ := Kd.R_slice HO386.out; subst eo32) | ((with_reducible refine gate_callee (f := 156) rfl ?_); refine goesL_ (some 13) rfl rfl Try.func156 (by kernel_rfl) rfl #[.slice Ao30 x4_1.length co30] rfl (by (try simp only [List.map_toArray, List.map_cons, List.map_nil]); first | done | rfl | (simp only [List.length_drop, List.length_take]; rfl)) ?_; (with_reducible refine (spec_l3Next.calls k1 _ _ x4_1 t400 _ ?side1 ?side2 A29.out).mono ?_); (case side1 => exact cU ((Kd.R_reads' HO_4.out).2.2)); (case side2 => exact (Kd.R_reads' HO_4.out).2.1); rintro e w33 ⟨v401, rfl, ho0, hb⟩; refine ⟨_, rfl, ?_⟩; have n0 := Az (Kd.S_elder' (sU HO_3.out) (Kd.R_base ho0) hb); have n1 := Az (Kd.R_elder' (rU HO_4.out) (Kd.R_base ho0) hb); have n2 := Az (Kd.R_elder' (rU HO386.out) (Kd.R_base ho0) hb); have n3 := Az (Kd.R_lower (Kd.R_new' (Kd.R_new' ho0 (Kd.R_lt (rU HO_4.out))) (Kd.R_lt (rU HO386.out))) (below_size (bU0 HB.out))); have n4 := Az (below_step (bU0 HB.out) hb); clear HO_3 HO_4 HO386 HB; have HO_3 := n0; have HO_4 := n1; have HO386 := n2; have HO402 := n3; have HB := n4; clear n0 n1 n2 n3 n4; (try clear hb); (try clear hb2); (try clear hk); (try clear hi); (try clear ho0)))
     (first | go_roundg k1 | (refine Handed.intro k1 ?measure ?_; rotate_left; go_step; (try simp only [add_plain]); (repeat apply Exists.intro); refine ⟨?rel, rfl⟩))
     case measure => have := HK1.out; omega
     case rel => exact ⟨(x3_1), (t400), H', ⟨by have := HK1.out; omega⟩, ⟨by (with_reducible repeat (first | apply Kd.S_alloc | apply Kd.S_drewN | apply Kd.S_drew)); exact Kd.S_mono HO_3.out (fun _ hk => hk.2)⟩, ⟨by (with_reducible repeat (first | apply Kd.R_alloc | apply Kd.R_drewN | apply Kd.R_drew)); exact Kd.R_mono HO402.out (fun _ hk => trivial)⟩, ⟨bU0 HB.out⟩⟩
   ·
    rw [if_neg c7] at H; have c7b0 := decide_eq_false c7; have c7b1 : decide (0 < x4_1.length) = false := decide_eq_false (by omega); clear c7; obtain rfl := Option.some.inj H; obtain ⟨Ao34, co34, eo34⟩ := Kd.R_slice HO_4.out; subst eo34
    go_wp2
    go_ret
    exact ⟨_, rE, by (with_reducible repeat (first | apply Kd.S_alloc | apply Kd.S_drewN | apply Kd.S_drew)); exact Kd.S_mono HO_3.out (fun _ hk => trivial), bU0 HB.out⟩
def spec_l2Copy.f (l0 : List Int) : Option (List Int) := (some (([] : List Int) : List Int)).bind fun y403 => (if y403.length + l0.length < 17592186044416 then (some (y403 ++ l0)) else (none))
set_option maxHeartbeats 8000000 in
set_option maxRecDepth 100000 in
theorem spec_l2Copy.calls (A0 : Option Addr) (c0 : Nat) (l0 : List Int) (r : List Int) (w : World) (hr0 : Kd.C (Kd.int .i64) w A0 l0.length l0) (hc0 : l0.length ≤ c0) (h : spec_l2Copy.f l0 = some r) :
  Calls Try.prog 62 #[.slice A0 l0.length c0] w fun e w' => ∃ v0_ : Value, e = .returned (v0_) ∧ Kd.R (Kd.int .i64) 3 w' w.heap.size (fun _ => True) v0_ r ∧ Below w.heap.size w w' := by
 have HR0 := Az hr0; have HC0 := Az hc0; clear hr0 hc0; have HB := Az (Below.refl w.heap.size w); have H : ((some (([] : List Int) : List Int)).bind fun y403 => (if y403.length + l0.length < 17592186044416 then (some (y403 ++ l0)) else (none))) = some r := h; clear h; obtain ⟨y403, hy403⟩ : ∃ y_ : List Int, y_ = (([] : List Int)) := ⟨_, rfl⟩; replace H : (if y403.length + l0.length < 17592186044416 then (some (y403 ++ l0)) else (none)) = some r := hR hy403 H; have Ny403 := Az hy403; clear hy403
 by_cases c2 : y403.length + l0.length < 17592186044416
 ·
  rw [if_pos c2] at H; have LMc2 := Az c2; clear c2; obtain ⟨y406, hy406⟩ : ∃ y_ : List Int, y_ = (y403 ++ l0) := ⟨_, rfl⟩; replace H : (some y406) = some r := hR hy406 H; have Ny406 := Az hy406; clear hy406; obtain rfl := Option.some.inj H
  go_enter Try.func62, Try.ntmps62
  go_wp2_with (first | ((with_reducible refine gate_dst (N := 3) rfl ?_); refine Kd.R_lit (Kd.int .i64) _ 3 ?hg (N := 3) ?hd (xs := ([] : List Int)) (inner := []) (ok := fun _ => True) (okp := fun _ => True) ?hr ?hp (fun _ hk => hk) trivial (Below.refl _ _) (Nat.le_refl _) (by simp) ?_; (case hd => rfl); (case hg => rfl); (case hr => first | (go_simp; done) | (go_simp; rfl)); (case hp => exact (Reps.none _ _)); intro v404 w3 ho4 hb hg_ hnew_; clear hg_ hnew_; (first | rw [← Ny403.out] at ho4 | (simp only [Int.reduceToNat] at ho4; rw [← Ny403.out] at ho4)); have n0 := Az (Kd.R_lower ho4 (below_size (bU0 HB.out))); have n1 := Az (below_step (bU0 HB.out) hb); clear HB; have HO405 := n0; have HB := n1; clear n0 n1; clear hb ho4) | ((with_reducible refine gate_builtin (b := .append) (xs := #[.tmp 3, .tmp 4]) rfl ?_); at_builtin; refine Kd.R_append_rows (Kd.int .i64) (w0 := w) w.heap.size rfl (.tmp 3) (.tmp 4) 23 3 (.int .i64 0) 8 rfl Try.underlying23 info3 rfl (by decide) (by omega) v404 y403 l0 _ _ _ (fun _ => True) (fun _ => False) rfl rfl ?aO ?aR (fun _ _ h => h) (fun _ h => h.elim) ?aF ?aB ?aS ?aL ?_; (case aR => exact cU (Kd.C_below HR0.out HB.out)); (case aB => exact (bU0 HB.out)); (case aF => exact (fun _ _ => trivial)); (case aO => exact (rU HO405.out)); (case aS => exact (below_size (bU0 HB.out))); (case aL => have := LMc2.out; omega); intro v407 w5 ho hb hg hat; rw [← Ny406.out] at ho; have n0 := Az (hb); have n1 := Az (ho); clear HB HO405; have HB := n0; have HO408 := n1; clear n0 n1; clear ho hb hg hat))
  go_ret
  exact ⟨_, rE, rU HO408.out, bU0 HB.out⟩
 ·
  rw [if_neg c2] at H
  exact absurd H (by simp)
mutual
def spec_l5Join.l0 : Nat → List Int → List Int → List Int → Int → Option (List Int)
 | 0, _, _, _, _ => none
 | k + 1, x0, x1, x5, x6 => if x6 < (x1.length : Int) then (spec_l5Join.l1 k x0 x1 x5 x6 0) else (some x5)
def spec_l5Join.l1 : Nat → List Int → List Int → List Int → Int → Int → Option (List Int)
 | 0, _, _, _, _, _ => none
 | k + 1, x0, x1, x5, x6, x7 => if x7 < (x1.length : Int) then (if 0 ≤ x7 then (if x7 < (x5.length : Int) then (if 0 ≤ (rd x1 x7) then (if (rd x1 x7) < (x5.length : Int) then (if x7 < (x0.length : Int) then (if 0 ≤ (rd x0 x7) then (if (rd x0 x7) < (x5.length : Int) then (spec_l5Join.l1 k x0 x1 (((x5.set (x7 : Int).toNat (mn (rd x5 x7) (mn (rd x5 (rd x1 x7)) (rd x5 (rd x0 x7))))).set ((rd x1 x7) : Int).toNat (mn (rd x5 x7) (mn (rd x5 (rd x1 x7)) (rd x5 (rd x0 x7))))).set ((rd x0 x7) : Int).toNat (mn (rd x5 x7) (mn (rd x5 (rd x1 x7)) (rd x5 (rd x0 x7))))) x6 (wrap64 (x7 + 1))) else (none)) else (none)) else (none)) else (none)) else (none)) else (none)) else (none)) else (spec_l5Join.l0 k x0 x1 x5 (wrap64 (x6 + 1)))
end
def spec_l5Join.f (k : Nat) (l0 : List Int) (l1 : List Int) : Option (List Int) := (spec_l2Copy.f l0).bind fun t409 => (spec_l5Join.l0 k l0 l1 t409 0)
set_option maxHeartbeats 8000000 in
set_option maxRecDepth 100000 in
theorem spec_l5Join.calls (k : Nat) (A0 : Option Addr) (c0 : Nat) (l0 : List Int) (A1 : Option Addr) (c1 : Nat) (l1 : List Int) (r : List Int) (w : World) (hr0 : Kd.C (Kd.int .i64) w A0 l0.length l0) (hc0 : l0.length ≤ c0) (hr1 : Kd.C (Kd.int .i64) w A1 l1.length l1) (hc1 : l1.length ≤ c1) (h : spec_l5Join.f k l0 l1 = some r) :
  Calls Try.prog 137 #[.slice A0 l0.length c0, .slice A1 l1.length c1] w fun e w' => ∃ v0_ : Value, e = .returned (v0_) ∧ Kd.R (Kd.int .i64) 3 w' w.heap.size (fun _ => True) v0_ r ∧ Below w.heap.size w w' := by
 have HR0 := Az hr0; have HC0 := Az hc0; clear hr0 hc0; have HR1 := Az hr1; have HC1 := Az hc1; clear hr1 hc1; have HB := Az (Below.refl w.heap.size w); have H : ((spec_l2Copy.f l0).bind fun t409 => (spec_l5Join.l0 k l0 l1 t409 0)) = some r := h; clear h; replace H := Option.bind_eq_some_iff.mp H; obtain ⟨t409, A30, H⟩ := H; replace H : (spec_l5Join.l0 k l0 l1 t409 0) = some r := H; have A3 := Az A30; clear A30; have H' := Az H; clear H
 go_enter Try.func137, Try.ntmps137
 go_wp2_with (first | (go_at_call 62; (with_reducible refine (spec_l2Copy.calls _ _ l0 t409 _ ?side1 ?side2 A3.out).mono ?_); (case side1 => exact cU (HR0.out)); (case side2 => exact HC0.out); rintro e w4 ⟨v410, rfl, ho0, hb⟩; have n0 := Az (Kd.R_lower ho0 (below_size (bU0 HB.out))); have n1 := Az (below_step (bU0 HB.out) hb); clear HB; have HO411 := n0; have HB := n1; clear n0 n1; (try clear hb); (try clear hb2); (try clear hk); (try clear hi); (try clear ho0)))
 repeat (go_quiet (first | (go_at_call 62; (try simp only [Go.IntWalk.i64_left]); (with_reducible refine (spec_l2Copy.calls _ _ l0 t409 _ ?side1 ?side2 A3.out).mono ?_); (case side1 => exact cU (HR0.out)); (case side2 => exact HC0.out); rintro e w4 ⟨v410, rfl, ho0, hb⟩; have n0 := Az (Kd.R_lower ho0 (below_size (bU0 HB.out))); have n1 := Az (below_step (bU0 HB.out) hb); clear HB; have HO411 := n0; have HB := n1; clear n0 n1; (try clear hb); (try clear hb2); (try clear hk); (try clear hi); (try clear ho0))); try go_wp2_with (first | (go_at_call 62; (try simp only [Go.IntWalk.i64_left]); (with_reducible refine (spec_l2Copy.calls _ _ l0 t409 _ ?side1 ?side2 A3.out).mono ?_); (case side1 => exact cU (HR0.out)); (case side2 => exact HC0.out); rintro e w4 ⟨v410, rfl, ho0, hb⟩; have n0 := Az (Kd.R_lower ho0 (below_size (bU0 HB.out))); have n1 := Az (below_step (bU0 HB.out) hb); clear HB; have HO411 := n0; have HB := n1; clear n0 n1; (try clear hb); (try clear hb2); (try clear hk); (try clear hi); (try clear ho0))))
 go_loopg [6] k (fun kq v6 w' => ∃ (x5_1 : List Int) (x6_1 : Int), v6 = .int .i64 x6_1 ∧ Aside0 (spec_l5Join.l0 kq l0 l1 x5_1 x6_1 = some r) ∧ Aside0 (kq ≤ k) ∧ Aside0 (Kd.R (Kd.int .i64) 3 w' w.heap.size (fun _ => True) v410 x5_1) ∧ Aside0 (Below w.heap.size w w'))
 case atStart => exact ⟨(t409), (0), rS, H', ⟨Nat.le_refl _⟩, ⟨rU HO411.out⟩, ⟨bU0 HB.out⟩⟩
 case round =>
  clear H'; (try clear c1); (try clear p2); obtain ⟨x5_1, x6_1, rfl, HA, HK1, HO_5, HB⟩ := hrel
  cases gk with
  | zero => exact absurd HA.out (by simp [spec_l5Join.l0])
  | succ k1 =>
   have H := HA.out; clear HA; simp only [spec_l5Join.l0] at H
   by_cases c5 : x6_1 < (l1.length : Int)
   ·
    rw [if_pos c5] at H; have c5b0 := decide_eq_true c5; clear c5; have H' := Az H; clear H
    go_wp2
    repeat (go_quiet (fail); try go_wp2)
    go_loopg [7] k1 (fun kq v7 w' => ∃ (x5_2 : List Int) (x7_2 : Int), v7 = .int .i64 x7_2 ∧ Aside0 (spec_l5Join.l1 kq l0 l1 x5_2 x6_1 x7_2 = some r) ∧ Aside0 (kq ≤ k1) ∧ Aside0 (Kd.R (Kd.int .i64) 3 w' w.heap.size (fun _ => True) v410 x5_2) ∧ Aside0 (Below w.heap.size w w'))
    case atStart => exact ⟨(x5_1), (0), rS, H', ⟨Nat.le_refl _⟩, ⟨rU HO_5.out⟩, ⟨bU0 HB.out⟩⟩
    case round =>
     clear H'; (try clear c1); (try clear p2); (try clear c5); (try clear c5b0); (try clear p2); obtain ⟨x5_2, x7_2, rfl, HA, HK2, HO_5, HB⟩ := hrel
     cases gk with
     | zero => exact absurd HA.out (by simp [spec_l5Join.l1])
     | succ k2 =>
      have H := HA.out; clear HA; simp only [spec_l5Join.l1] at H
      by_cases c6 : x7_2 < (l1.length : Int)
      ·
       rw [if_pos c6] at H; have c6b0 := decide_eq_true c6; clear c6
       by_cases c7 : 0 ≤ x7_2
       ·
        rw [if_pos c7] at H; have c7b0 := decide_eq_true c7; clear c7
        by_cases c8 : x7_2 < (x5_2.length : Int)
        ·
         rw [if_pos c8] at H; have c8b0 := decide_eq_true c8; clear c8
         by_cases c9 : 0 ≤ (rd l1 x7_2)
         ·
          rw [if_pos c9] at H; have c9b0 := decide_eq_true c9; clear c9
          by_cases c10 : (rd l1 x7_2) < (x5_2.length : Int)
          ·
           rw [if_pos c10] at H; have c10b0 := decide_eq_true c10; clear c10
           by_cases c11 : x7_2 < (l0.length : Int)
           ·
            rw [if_pos c11] at H; have c11b0 := decide_eq_true c11; clear c11
            by_cases c12 : 0 ≤ (rd l0 x7_2)
            ·
             rw [if_pos c12] at H; have c12b0 := decide_eq_true c12; clear c12
             by_cases c13 : (rd l0 x7_2) < (x5_2.length : Int)
             ·
              rw [if_pos c13] at H; have c13b0 := decide_eq_true c13; clear c13; obtain ⟨ji14, hji14⟩ : ∃ j_ : Int, (mn (rd x5_2 (rd l1 x7_2)) (rd x5_2 (rd l0 x7_2))) = j_ := ⟨_, rfl⟩
              replace H : (spec_l5Join.l1 k2 l0 l1 (((x5_2.set (x7_2 : Int).toNat (mn (rd x5_2 x7_2) (ji14))).set ((rd l1 x7_2) : Int).toNat (mn (rd x5_2 x7_2) (ji14))).set ((rd l0 x7_2) : Int).toNat (mn (rd x5_2 x7_2) (ji14))) x6_1 (wrap64 (x7_2 + 1))) = some r := by first | (rw [hji14] at H; exact H) | (simp only [hji14] at H ⊢; exact H)
              have hji14_ : (if (rd x5_2 (rd l0 x7_2)) < (rd x5_2 (rd l1 x7_2)) then (rd x5_2 (rd l0 x7_2)) else (rd x5_2 (rd l1 x7_2))) = ji14 := hji14; obtain ⟨ji15, hji15⟩ : ∃ j_ : Int, (mn (rd x5_2 x7_2) (ji14)) = j_ := ⟨_, rfl⟩
              replace H : (spec_l5Join.l1 k2 l0 l1 (((x5_2.set (x7_2 : Int).toNat (ji15)).set ((rd l1 x7_2) : Int).toNat (ji15)).set ((rd l0 x7_2) : Int).toNat (ji15)) x6_1 (wrap64 (x7_2 + 1))) = some r := by first | (rw [hji15] at H; exact H) | (simp only [hji15] at H ⊢; exact H)
              have hji15_ : (if (ji14) < (rd x5_2 x7_2) then (ji14) else (rd x5_2 x7_2)) = ji15 := hji15; obtain ⟨y417, hy417⟩ : ∃ y_ : List Int, y_ = (x5_2.set (x7_2 : Int).toNat (ji15)) := ⟨_, rfl⟩; replace H : (spec_l5Join.l1 k2 l0 l1 ((y417.set ((rd l1 x7_2) : Int).toNat (ji15)).set ((rd l0 x7_2) : Int).toNat (ji15)) x6_1 (wrap64 (x7_2 + 1))) = some r := hR hy417 H; have Ny417 := Az hy417; clear hy417; obtain ⟨y419, hy419⟩ : ∃ y_ : List Int, y_ = (y417.set ((rd l1 x7_2) : Int).toNat (ji15)) := ⟨_, rfl⟩; replace H : (spec_l5Join.l1 k2 l0 l1 (y419.set ((rd l0 x7_2) : Int).toNat (ji15)) x6_1 (wrap64 (x7_2 + 1))) = some r := hR hy419 H; have Ny419 := Az hy419; clear hy419; obtain ⟨y421, hy421⟩ : ∃ y_ : List Int, y_ = (y419.set ((rd l0 x7_2) : Int).toNat (ji15)) := ⟨_, rfl⟩; replace H : (spec_l5Join.l1 k2 l0 l1 y421 x6_1 (wrap64 (x7_2 + 1))) = some r := hR hy421 H; have Ny421 := Az hy421; clear hy421; have H' := Az H; clear H; obtain ⟨Ao19, co19, eo19⟩ := Kd.R_slice HO_5.out; subst eo19; have p412 : 0 ≤ (x7_2 : Int) := oA; have q412 : x7_2 < (x5_2.length : Int) := oA; obtain ⟨ad412, e412, hx412_0⟩ := Kd.at_int (Kd.R_reads' HO_5.out).2.2 x7_2 p412 q412
              cases e412
              replace p412 := eq_true p412; replace q412 := eq_true q412; have p413 : 0 ≤ (x7_2 : Int) := oA; have q413 : x7_2 < (l1.length : Int) := oA; obtain ⟨ad413, e413, hx413_0⟩ := Kd.at_int HR1.out x7_2 p413 q413
              cases e413
              (try replace hx413_0 := (HB.out.cell (World.block_lt_of_cell? w _ hx413_0)).trans hx413_0); replace p413 := eq_true p413; replace q413 := eq_true q413; have p414 : 0 ≤ ((rd l1 x7_2) : Int) := oA; have q414 : (rd l1 x7_2) < (x5_2.length : Int) := oA; obtain ⟨ad414, e414, hx414_0⟩ := Kd.at_int (Kd.R_reads' HO_5.out).2.2 (rd l1 x7_2) p414 q414; obtain rfl : ad412 = ad414 := (by injection e414); replace p414 := eq_true p414; replace q414 := eq_true q414; have p415 : 0 ≤ (x7_2 : Int) := oA; have q415 : x7_2 < (l0.length : Int) := oA; obtain ⟨ad415, e415, hx415_0⟩ := Kd.at_int HR0.out x7_2 p415 q415
              cases e415
              (try replace hx415_0 := (HB.out.cell (World.block_lt_of_cell? w _ hx415_0)).trans hx415_0); replace p415 := eq_true p415; replace q415 := eq_true q415; have p416 : 0 ≤ ((rd l0 x7_2) : Int) := oA; have q416 : (rd l0 x7_2) < (x5_2.length : Int) := oA; obtain ⟨ad416, e416, hx416_0⟩ := Kd.at_int (Kd.R_reads' HO_5.out).2.2 (rd l0 x7_2) p416 q416; obtain rfl : ad412 = ad416 := (by injection e416); replace p416 := eq_true p416; replace q416 := eq_true q416; have p16 : 0 ≤ (x7_2 : Int) := oA; have q16 : (x7_2 : Int) < ((x5_2.length : Int) : Int) := oA; obtain ⟨go16, co16, eo16, gb16, gl16, cl16, HG16⟩ := Kd.R_form HO_5.out (by omega); (first | cases eo16 | (injection eo16 with ea_ en_ ec_; (first | subst ea_ | (injection ea_ with ea_; subst ea_)); subst ec_; clear en_)); have GB16 := Az gb16; have GG16 := Az HG16; clear gb16 gl16 HG16; (first | simp only [add_plain] at hx412_0 | skip); (first | simp only [add_plain] at hx414_0 | skip); (first | simp only [add_plain] at hx416_0 | skip); obtain ⟨hx16_0, hf16_0⟩ := Kd.R_celln 0 HO_5.out (x7_2 : Int) p16 q16; replace p16 := eq_true p16; replace q16 := eq_true q16; obtain ⟨hy20_, hz20_⟩ := Kd.R_celln 0 HO_5.out (x7_2 : Int) (oA) (oA); have HP20 := Kd.R_putg HO_5.out (x7_2 : Int) ji15
              go_wp2_with (first | ((with_reducible refine gate_store (t := 3) (p := 46) rfl ?_); (try (rw [drewN_self wr]; generalize hq_ : World.drewN wr _ = wr; have n0 := Az (Kd.R_at hq_ HO_5.out); have n1 := Az (below_at hq_ HB.out); clear hq_ HO_5 HB; have HO_5 := n0; have HB := n1; clear n0 n1; (try (obtain ⟨hy20_, hz20_⟩ := Kd.R_celln 0 HO_5.out (x7_2 : Int) (oA) (oA))); (try (have HP20 := Kd.R_putg HO_5.out (x7_2 : Int) ji15)))); refine store_event (t := 3) (p := 46) (v := ?vo_w21) (w1 := (wr.setCell ⟨go16, (x7_2 : Int).toNat, none⟩ (.int .i64 ji15))) ?hg ?ho ?hn ?hr ?_; (case ho => rfl); (case hg => rfl); (case hn => rfl); (case hr => first | (go_simp; done) | (go_simp; rfl)); intro w21 hw; have hg : wr.grownBy w21 (some go16) := (by rw [hw]; exact HP20.2); have hp_ : Kd.R (Kd.int .i64) 3 w21 w.heap.size (fun _ => True) (.slice (some ⟨go16, 0, none⟩) x5_2.length co19) y417 := (by rw [hw, Ny417.out]; exact HP20.1); clear HP20; have n0 := Az (hp_); have n1 := Az ((by rw [hw]; exact below_set (HB.out) GB16.out : Below w.heap.size w w21)); clear HO_5 HB; have HO_5 := n0; have HB := n1; clear n0 n1 hg hw hp_; have p418 : 0 ≤ (x7_2 : Int) := oA; have q418 : x7_2 < (l1.length : Int) := oA; obtain ⟨ad418, e418, hx418_0⟩ := Kd.at_int HR1.out x7_2 p418 q418; obtain rfl : ad413 = ad418 := (by injection e418); replace hx418_0 := (HB.out.cell (World.block_lt_of_cell? w _ hx418_0)).trans hx418_0; replace p418 := eq_true p418; replace q418 := eq_true q418; have p17 : 0 ≤ ((rd l1 x7_2) : Int) := oA; have q17 : ((rd l1 x7_2) : Int) < ((x5_2.length : Int) : Int) := oA; obtain ⟨hx17_0, hf17_0⟩ := Kd.R_celln 0 HO_5.out ((rd l1 x7_2) : Int) p17 q17; replace p17 := eq_true p17; replace q17 := eq_true q17; obtain ⟨hy22_, hz22_⟩ := Kd.R_celln 0 HO_5.out ((rd l1 x7_2) : Int) (oA) (oA); have HP22 := Kd.R_putg HO_5.out ((rd l1 x7_2) : Int) ji15) | ((with_reducible refine gate_store (t := 3) (p := 53) rfl ?_); (try (rw [drewN_self w21]; generalize hq_ : World.drewN w21 _ = w21; have n0 := Az (Kd.R_at hq_ HO_5.out); have n1 := Az (below_at hq_ HB.out); clear hq_ HO_5 HB; have HO_5 := n0; have HB := n1; clear n0 n1; (try (obtain ⟨hy22_, hz22_⟩ := Kd.R_celln 0 HO_5.out ((rd l1 x7_2) : Int) (oA) (oA))); (try (have HP22 := Kd.R_putg HO_5.out ((rd l1 x7_2) : Int) ji15)))); refine store_event (t := 3) (p := 53) (v := ?vo_w23) (w1 := (w21.setCell ⟨go16, ((rd l1 x7_2) : Int).toNat, none⟩ (.int .i64 ji15))) ?hg ?ho ?hn ?hr ?_; (case ho => rfl); (case hg => rfl); (case hn => rfl); (case hr => first | (go_simp; done) | (go_simp; rfl)); intro w23 hw; have hg : w21.grownBy w23 (some go16) := (by rw [hw]; exact HP22.2); have hp_ : Kd.R (Kd.int .i64) 3 w23 w.heap.size (fun _ => True) (.slice (some ⟨go16, 0, none⟩) x5_2.length co19) y419 := (by rw [hw, Ny419.out]; exact HP22.1); clear HP22; have n0 := Az (hp_); have n1 := Az ((by rw [hw]; exact below_set (HB.out) GB16.out : Below w.heap.size w w23)); clear HO_5 HB; have HO_5 := n0; have HB := n1; clear n0 n1 hg hw hp_; have p420 : 0 ≤ (x7_2 : Int) := oA; have q420 : x7_2 < (l0.length : Int) := oA; obtain ⟨ad420, e420, hx420_0⟩ := Kd.at_int HR0.out x7_2 p420 q420; obtain rfl : ad415 = ad420 := (by injection e420); replace hx420_0 := (HB.out.cell (World.block_lt_of_cell? w _ hx420_0)).trans hx420_0; replace p420 := eq_true p420; replace q420 := eq_true q420; have p18 : 0 ≤ ((rd l0 x7_2) : Int) := oA; have q18 : ((rd l0 x7_2) : Int) < ((x5_2.length : Int) : Int) := oA; obtain ⟨hx18_0, hf18_0⟩ := Kd.R_celln 0 HO_5.out ((rd l0 x7_2) : Int) p18 q18; replace p18 := eq_true p18; replace q18 := eq_true q18; obtain ⟨hy24_, hz24_⟩ := Kd.R_celln 0 HO_5.out ((rd l0 x7_2) : Int) (oA) (oA); have HP24 := Kd.R_putg HO_5.out ((rd l0 x7_2) : Int) ji15) | ((with_reducible refine gate_store (t := 3) (p := 60) rfl ?_); (try (rw [drewN_self w23]; generalize hq_ : World.drewN w23 _ = w23; have n0 := Az (Kd.R_at hq_ HO_5.out); have n1 := Az (below_at hq_ HB.out); clear hq_ HO_5 HB; have HO_5 := n0; have HB := n1; clear n0 n1; (try (obtain ⟨hy24_, hz24_⟩ := Kd.R_celln 0 HO_5.out ((rd l0 x7_2) : Int) (oA) (oA))); (try (have HP24 := Kd.R_putg HO_5.out ((rd l0 x7_2) : Int) ji15)))); refine store_event (t := 3) (p := 60) (v := ?vo_w25) (w1 := (w23.setCell ⟨go16, ((rd l0 x7_2) : Int).toNat, none⟩ (.int .i64 ji15))) ?hg ?ho ?hn ?hr ?_; (case ho => rfl); (case hg => rfl); (case hn => rfl); (case hr => first | (go_simp; done) | (go_simp; rfl)); intro w25 hw; have hg : w23.grownBy w25 (some go16) := (by rw [hw]; exact HP24.2); have hp_ : Kd.R (Kd.int .i64) 3 w25 w.heap.size (fun _ => True) (.slice (some ⟨go16, 0, none⟩) x5_2.length co19) y421 := (by rw [hw, Ny421.out]; exact HP24.1); clear HP24; have n0 := Az (hp_); have n1 := Az ((by rw [hw]; exact below_set (HB.out) GB16.out : Below w.heap.size w w25)); clear HO_5 HB; have HO_5 := n0; have HB := n1; clear n0 n1; clear hg hw hp_))
              repeat (go_quiet (first | ((with_reducible refine gate_store (t := 3) (p := 46) rfl ?_); (try (rw [drewN_self wr]; generalize hq_ : World.drewN wr _ = wr; have n0 := Az (Kd.R_at hq_ HO_5.out); have n1 := Az (below_at hq_ HB.out); clear hq_ HO_5 HB; have HO_5 := n0; have HB := n1; clear n0 n1; (try (obtain ⟨hy20_, hz20_⟩ := Kd.R_celln 0 HO_5.out (x7_2 : Int) (oA) (oA))); (try (have HP20 := Kd.R_putg HO_5.out (x7_2 : Int) ji15)))); refine store_event (t := 3) (p := 46) (v := ?vo_w21) (w1 := (wr.setCell ⟨go16, (x7_2 : Int).toNat, none⟩ (.int .i64 ji15))) ?hg ?ho ?hn ?hr ?_; (case ho => rfl); (case hg => rfl); (case hn => rfl); (case hr => first | (go_simp; done) | (go_simp; rfl)); intro w21 hw; have hg : wr.grownBy w21 (some go16) := (by rw [hw]; exact HP20.2); have hp_ : Kd.R (Kd.int .i64) 3 w21 w.heap.size (fun _ => True) (.slice (some ⟨go16, 0, none⟩) x5_2.length co19) y417 := (by rw [hw, Ny417.out]; exact HP20.1); clear HP20; have n0 := Az (hp_); have n1 := Az ((by rw [hw]; exact below_set (HB.out) GB16.out : Below w.heap.size w w21)); clear HO_5 HB; have HO_5 := n0; have HB := n1; clear n0 n1 hg hw hp_; have p418 : 0 ≤ (x7_2 : Int) := oA; have q418 : x7_2 < (l1.length : Int) := oA; obtain ⟨ad418, e418, hx418_0⟩ := Kd.at_int HR1.out x7_2 p418 q418; obtain rfl : ad413 = ad418 := (by injection e418); replace hx418_0 := (HB.out.cell (World.block_lt_of_cell? w _ hx418_0)).trans hx418_0; replace p418 := eq_true p418; replace q418 := eq_true q418; have p17 : 0 ≤ ((rd l1 x7_2) : Int) := oA; have q17 : ((rd l1 x7_2) : Int) < ((x5_2.length : Int) : Int) := oA; obtain ⟨hx17_0, hf17_0⟩ := Kd.R_celln 0 HO_5.out ((rd l1 x7_2) : Int) p17 q17; replace p17 := eq_true p17; replace q17 := eq_true q17; obtain ⟨hy22_, hz22_⟩ := Kd.R_celln 0 HO_5.out ((rd l1 x7_2) : Int) (oA) (oA); have HP22 := Kd.R_putg HO_5.out ((rd l1 x7_2) : Int) ji15) | ((with_reducible refine gate_store (t := 3) (p := 53) rfl ?_); (try (rw [drewN_self w21]; generalize hq_ : World.drewN w21 _ = w21; have n0 := Az (Kd.R_at hq_ HO_5.out); have n1 := Az (below_at hq_ HB.out); clear hq_ HO_5 HB; have HO_5 := n0; have HB := n1; clear n0 n1; (try (obtain ⟨hy22_, hz22_⟩ := Kd.R_celln 0 HO_5.out ((rd l1 x7_2) : Int) (oA) (oA))); (try (have HP22 := Kd.R_putg HO_5.out ((rd l1 x7_2) : Int) ji15)))); refine store_event (t := 3) (p := 53) (v := ?vo_w23) (w1 := (w21.setCell ⟨go16, ((rd l1 x7_2) : Int).toNat, none⟩ (.int .i64 ji15))) ?hg ?ho ?hn ?hr ?_; (case ho => rfl); (case hg => rfl); (case hn => rfl); (case hr => first | (go_simp; done) | (go_simp; rfl)); intro w23 hw; have hg : w21.grownBy w23 (some go16) := (by rw [hw]; exact HP22.2); have hp_ : Kd.R (Kd.int .i64) 3 w23 w.heap.size (fun _ => True) (.slice (some ⟨go16, 0, none⟩) x5_2.length co19) y419 := (by rw [hw, Ny419.out]; exact HP22.1); clear HP22; have n0 := Az (hp_); have n1 := Az ((by rw [hw]; exact below_set (HB.out) GB16.out : Below w.heap.size w w23)); clear HO_5 HB; have HO_5 := n0; have HB := n1; clear n0 n1 hg hw hp_; have p420 : 0 ≤ (x7_2 : Int) := oA; have q420 : x7_2 < (l0.length : Int) := oA; obtain ⟨ad420, e420, hx420_0⟩ := Kd.at_int HR0.out x7_2 p420 q420; obtain rfl : ad415 = ad420 := (by injection e420); replace hx420_0 := (HB.out.cell (World.block_lt_of_cell? w _ hx420_0)).trans hx420_0; replace p420 := eq_true p420; replace q420 := eq_true q420; have p18 : 0 ≤ ((rd l0 x7_2) : Int) := oA; have q18 : ((rd l0 x7_2) : Int) < ((x5_2.length : Int) : Int) := oA; obtain ⟨hx18_0, hf18_0⟩ := Kd.R_celln 0 HO_5.out ((rd l0 x7_2) : Int) p18 q18; replace p18 := eq_true p18; replace q18 := eq_true q18; obtain ⟨hy24_, hz24_⟩ := Kd.R_celln 0 HO_5.out ((rd l0 x7_2) : Int) (oA) (oA); have HP24 := Kd.R_putg HO_5.out ((rd l0 x7_2) : Int) ji15) | ((with_reducible refine gate_store (t := 3) (p := 60) rfl ?_); (try (rw [drewN_self w23]; generalize hq_ : World.drewN w23 _ = w23; have n0 := Az (Kd.R_at hq_ HO_5.out); have n1 := Az (below_at hq_ HB.out); clear hq_ HO_5 HB; have HO_5 := n0; have HB := n1; clear n0 n1; (try (obtain ⟨hy24_, hz24_⟩ := Kd.R_celln 0 HO_5.out ((rd l0 x7_2) : Int) (oA) (oA))); (try (have HP24 := Kd.R_putg HO_5.out ((rd l0 x7_2) : Int) ji15)))); refine store_event (t := 3) (p := 60) (v := ?vo_w25) (w1 := (w23.setCell ⟨go16, ((rd l0 x7_2) : Int).toNat, none⟩ (.int .i64 ji15))) ?hg ?ho ?hn ?hr ?_; (case ho => rfl); (case hg => rfl); (case hn => rfl); (case hr => first | (go_simp; done) | (go_simp; rfl)); intro w25 hw; have hg : w23.grownBy w25 (some go16) := (by rw [hw]; exact HP24.2); have hp_ : Kd.R (Kd.int .i64) 3 w25 w.heap.size (fun _ => True) (.slice (some ⟨go16, 0, none⟩) x5_2.length co19) y421 := (by rw [hw, Ny421.out]; exact HP24.1); clear HP24; have n0 := Az (hp_); have n1 := Az ((by rw [hw]; exact below_set (HB.out) GB16.out : Below w.heap.size w w25)); clear HO_5 HB; have HO_5 := n0; have HB := n1; clear n0 n1; clear hg hw hp_)); try go_wp2_with (first | ((with_reducible refine gate_store (t := 3) (p := 46) rfl ?_); (try (rw [drewN_self wr]; generalize hq_ : World.drewN wr _ = wr; have n0 := Az (Kd.R_at hq_ HO_5.out); have n1 := Az (below_at hq_ HB.out); clear hq_ HO_5 HB; have HO_5 := n0; have HB := n1; clear n0 n1; (try (obtain ⟨hy20_, hz20_⟩ := Kd.R_celln 0 HO_5.out (x7_2 : Int) (oA) (oA))); (try (have HP20 := Kd.R_putg HO_5.out (x7_2 : Int) ji15)))); refine store_event (t := 3) (p := 46) (v := ?vo_w21) (w1 := (wr.setCell ⟨go16, (x7_2 : Int).toNat, none⟩ (.int .i64 ji15))) ?hg ?ho ?hn ?hr ?_; (case ho => rfl); (case hg => rfl); (case hn => rfl); (case hr => first | (go_simp; done) | (go_simp; rfl)); intro w21 hw; have hg : wr.grownBy w21 (some go16) := (by rw [hw]; exact HP20.2); have hp_ : Kd.R (Kd.int .i64) 3 w21 w.heap.size (fun _ => True) (.slice (some ⟨go16, 0, none⟩) x5_2.length co19) y417 := (by rw [hw, Ny417.out]; exact HP20.1); clear HP20; have n0 := Az (hp_); have n1 := Az ((by rw [hw]; exact below_set (HB.out) GB16.out : Below w.heap.size w w21)); clear HO_5 HB; have HO_5 := n0; have HB := n1; clear n0 n1 hg hw hp_; have p418 : 0 ≤ (x7_2 : Int) := oA; have q418 : x7_2 < (l1.length : Int) := oA; obtain ⟨ad418, e418, hx418_0⟩ := Kd.at_int HR1.out x7_2 p418 q418; obtain rfl : ad413 = ad418 := (by injection e418); replace hx418_0 := (HB.out.cell (World.block_lt_of_cell? w _ hx418_0)).trans hx418_0; replace p418 := eq_true p418; replace q418 := eq_true q418; have p17 : 0 ≤ ((rd l1 x7_2) : Int) := oA; have q17 : ((rd l1 x7_2) : Int) < ((x5_2.length : Int) : Int) := oA; obtain ⟨hx17_0, hf17_0⟩ := Kd.R_celln 0 HO_5.out ((rd l1 x7_2) : Int) p17 q17; replace p17 := eq_true p17; replace q17 := eq_true q17; obtain ⟨hy22_, hz22_⟩ := Kd.R_celln 0 HO_5.out ((rd l1 x7_2) : Int) (oA) (oA); have HP22 := Kd.R_putg HO_5.out ((rd l1 x7_2) : Int) ji15) | ((with_reducible refine gate_store (t := 3) (p := 53) rfl ?_); (try (rw [drewN_self w21]; generalize hq_ : World.drewN w21 _ = w21; have n0 := Az (Kd.R_at hq_ HO_5.out); have n1 := Az (below_at hq_ HB.out); clear hq_ HO_5 HB; have HO_5 := n0; have HB := n1; clear n0 n1; (try (obtain ⟨hy22_, hz22_⟩ := Kd.R_celln 0 HO_5.out ((rd l1 x7_2) : Int) (oA) (oA))); (try (have HP22 := Kd.R_putg HO_5.out ((rd l1 x7_2) : Int) ji15)))); refine store_event (t := 3) (p := 53) (v := ?vo_w23) (w1 := (w21.setCell ⟨go16, ((rd l1 x7_2) : Int).toNat, none⟩ (.int .i64 ji15))) ?hg ?ho ?hn ?hr ?_; (case ho => rfl); (case hg => rfl); (case hn => rfl); (case hr => first | (go_simp; done) | (go_simp; rfl)); intro w23 hw; have hg : w21.grownBy w23 (some go16) := (by rw [hw]; exact HP22.2); have hp_ : Kd.R (Kd.int .i64) 3 w23 w.heap.size (fun _ => True) (.slice (some ⟨go16, 0, none⟩) x5_2.length co19) y419 := (by rw [hw, Ny419.out]; exact HP22.1); clear HP22; have n0 := Az (hp_); have n1 := Az ((by rw [hw]; exact below_set (HB.out) GB16.out : Below w.heap.size w w23)); clear HO_5 HB; have HO_5 := n0; have HB := n1; clear n0 n1 hg hw hp_; have p420 : 0 ≤ (x7_2 : Int) := oA; have q420 : x7_2 < (l0.length : Int) := oA; obtain ⟨ad420, e420, hx420_0⟩ := Kd.at_int HR0.out x7_2 p420 q420; obtain rfl : ad415 = ad420 := (by injection e420); replace hx420_0 := (HB.out.cell (World.block_lt_of_cell? w _ hx420_0)).trans hx420_0; replace p420 := eq_true p420; replace q420 := eq_true q420; have p18 : 0 ≤ ((rd l0 x7_2) : Int) := oA; have q18 : ((rd l0 x7_2) : Int) < ((x5_2.length : Int) : Int) := oA; obtain ⟨hx18_0, hf18_0⟩ := Kd.R_celln 0 HO_5.out ((rd l0 x7_2) : Int) p18 q18; replace p18 := eq_true p18; replace q18 := eq_true q18; obtain ⟨hy24_, hz24_⟩ := Kd.R_celln 0 HO_5.out ((rd l0 x7_2) : Int) (oA) (oA); have HP24 := Kd.R_putg HO_5.out ((rd l0 x7_2) : Int) ji15) | ((with_reducible refine gate_store (t := 3) (p := 60) rfl ?_); (try (rw [drewN_self w23]; generalize hq_ : World.drewN w23 _ = w23; have n0 := Az (Kd.R_at hq_ HO_5.out); have n1 := Az (below_at hq_ HB.out); clear hq_ HO_5 HB; have HO_5 := n0; have HB := n1; clear n0 n1; (try (obtain ⟨hy24_, hz24_⟩ := Kd.R_celln 0 HO_5.out ((rd l0 x7_2) : Int) (oA) (oA))); (try (have HP24 := Kd.R_putg HO_5.out ((rd l0 x7_2) : Int) ji15)))); refine store_event (t := 3) (p := 60) (v := ?vo_w25) (w1 := (w23.setCell ⟨go16, ((rd l0 x7_2) : Int).toNat, none⟩ (.int .i64 ji15))) ?hg ?ho ?hn ?hr ?_; (case ho => rfl); (case hg => rfl); (case hn => rfl); (case hr => first | (go_simp; done) | (go_simp; rfl)); intro w25 hw; have hg : w23.grownBy w25 (some go16) := (by rw [hw]; exact HP24.2); have hp_ : Kd.R (Kd.int .i64) 3 w25 w.heap.size (fun _ => True) (.slice (some ⟨go16, 0, none⟩) x5_2.length co19) y421 := (by rw [hw, Ny421.out]; exact HP24.1); clear HP24; have n0 := Az (hp_); have n1 := Az ((by rw [hw]; exact below_set (HB.out) GB16.out : Below w.heap.size w w25)); clear HO_5 HB; have HO_5 := n0; have HB := n1; clear n0 n1; clear hg hw hp_)))
              (first | go_roundg k2 | (refine Handed.intro k2 ?measure ?_; rotate_left; go_step; (try simp only [add_plain]); (repeat apply Exists.intro); refine ⟨?rel, rfl⟩))
              case measure => have := HK1.out; have := HK2.out; omega
              case rel => exact ⟨(y421), (wrap64 (x7_2 + 1)), rS, H', ⟨by have := HK1.out; have := HK2.out; omega⟩, ⟨rU HO_5.out⟩, ⟨bU0 HB.out⟩⟩
             ·
              rw [if_neg c13] at H
              exact absurd H (by simp)
            ·
             rw [if_neg c12] at H
             exact absurd H (by simp)
           ·
            rw [if_neg c11] at H
            exact absurd H (by simp)
          ·
           rw [if_neg c10] at H
           exact absurd H (by simp)
         ·
          rw [if_neg c9] at H
          exact absurd H (by simp)
        ·
         rw [if_neg c8] at H
         exact absurd H (by simp)
       ·
        rw [if_neg c7] at H
        exact absurd H (by simp)
      ·
       rw [if_neg c6] at H; have c6b0 := decide_eq_false c6; clear c6; have H' := Az H; clear H
       go_wp2
       repeat (go_quiet (fail); try go_wp2)
       (first | go_roundg k2 | (refine Handed.intro k2 ?measure ?_; rotate_left; go_step; (try simp only [add_plain]); (repeat apply Exists.intro); refine ⟨?rel, rfl⟩))
       case measure => have := HK1.out; have := HK2.out; omega
       case rel => exact ⟨(x5_2), (wrap64 (x6_1 + 1)), rS, H', ⟨by have := HK1.out; have := HK2.out; omega⟩, ⟨rU HO_5.out⟩, ⟨bU0 HB.out⟩⟩
   ·
    rw [if_neg c5] at H; have c5b0 := decide_eq_false c5; clear c5; obtain rfl := Option.some.inj H
    go_wp2
    repeat (go_quiet (fail); try go_wp2)
    go_ret
    exact ⟨_, rE, rU HO_5.out, bU0 HB.out⟩
mutual
def spec_l5Count.l0 : Nat → List (List Int) → Int → List Int → List Int → Bool → Int → List (List Int) → Int → Option (Int)
 | 0, _, _, _, _, _, _, _, _ => none
 | k + 1, x0, x1, x2, x3, x4, x11, x12, x13 => if x13 < (x12.length : Int) then (if 0 ≤ x13 then ((spec_l1Mul.f k x2 (rd_L1 x12 x13)).bind fun t429 => ((spec_l5Join.f k x3 (rd_L1 x12 x13)).bind fun t433 => ((spec_l5Count.f k x0 (wrap64 (x1 + 1)) t429 t433 x4).bind fun t436 => (spec_l5Count.l0 k x0 x1 x2 x3 x4 (wrap64 (x11 + t436)) x12 (wrap64 (x13 + 1)))))) else (none)) else (some x11)
def spec_l5Count.f : Nat → List (List Int) → Int → List Int → List Int → Bool → Option (Int)
 | 0, _, _, _, _, _ => none
 | k + 1, l0, a1, l2, l3, a4 => if a1 = (l0.length : Int) then ((spec_l1Moves.f k l2).bind fun t422 => (if t422 = true then (some 0) else (if a4 = true then ((spec_l5Sum.f k l3).bind fun t423 => (if t423 > 0 then (some 0) else (some 1))) else (some 1)))) else (if 0 ≤ a1 then (if a1 < (l0.length : Int) then ((spec_l5Class.f k (rd_L1 l0 a1)).bind fun t425 => (spec_l5Count.l0 k l0 a1 l2 l3 a4 0 t425 0)) else (none)) else (none))
end
def spec_l5Count.T10 : Bool × List (List Nat × List Nat) := (true, [([], []), ([], []), ([], []), ([2], [2]), ([], []), ([], []), ([], []), ([5, 6], [5, 6]), ([7], [7]), ([4, 8], [4, 8]), ([], []), ([], []), ([], []), ([11, 12], [11, 12]), ([13], [13]), ([10, 14, 9], [10, 14]), ([], []), ([1, 3, 9, 15, 16, 15], [1, 3, 9, 15, 16]), ([0, 17], [0, 17]), ([18, 17, 0, 1, 2, 3, 4, 5, 6, 7, 8, 9, 10, 11, 12, 13, 14, 15, 16, 17, 18], [0, 18])])
def spec_l5Count.B10 : List Nat := [0, 0, 0, 4, 0, 0, 0, 96, 224, 496, 0, 0, 0, 6144, 14336, 32752, 0, 131070, 262143, 524287]
theorem spec_l5Count.tab10 : rtab .any (opsOf Try.f93 10) = spec_l5Count.T10 := by kernel_rfl
theorem spec_l5Count.bits10 : waitsOk spec_l5Count.T10.2 spec_l5Count.B10 = true := by kernel_rfl
set_option maxHeartbeats 8000000 in
set_option maxRecDepth 100000 in
theorem spec_l5Count.calls (k : Nat) : ∀ (A0 : Option Addr) (c0 : Nat) (l0 : List (List Int)) (a1 : Int) (A2 : Option Addr) (c2 : Nat) (l2 : List Int) (A3 : Option Addr) (c3 : Nat) (l3 : List Int) (a4 : Bool) (r : Int) (w : World) (hr0 : Kd.C (Kd.slice 3 (Kd.int .i64)) w A0 l0.length l0) (hc0 : l0.length ≤ c0) (hr2 : Kd.C (Kd.int .i64) w A2 l2.length l2) (hc2 : l2.length ≤ c2) (hr3 : Kd.C (Kd.int .i64) w A3 l3.length l3) (hc3 : l3.length ≤ c3) (h : spec_l5Count.f k l0 a1 l2 l3 a4 = some r),
  Calls Try.prog 93 #[.slice A0 l0.length c0, .int .i64 a1, .slice A2 l2.length c2, .slice A3 l3.length c3, .bool a4] w fun e w' => e = .returned (.int .i64 r) ∧ Below w.heap.size w w' := by
 induction k using Nat.strongRecOn with
 | _ k ih =>
 intro A0 c0 l0 a1 A2 c2 l2 A3 c3 l3 a4 r w hr0 hc0 hr2 hc2 hr3 hc3 h
 cases k with
 | zero => exact absurd h (by simp [spec_l5Count.f])
 | succ k =>
 simp only [spec_l5Count.f] at h; have HR0 := Az hr0; have HC0 := Az hc0; clear hr0 hc0; have HR2 := Az hr2; have HC2 := Az hc2; clear hr2 hc2; have HR3 := Az hr3; have HC3 := Az hc3; clear hr3 hc3; have HB := Az (Below.refl w.heap.size w); have H : (if a1 = (l0.length : Int) then ((spec_l1Moves.f k l2).bind fun t422 => (if t422 = true then (some 0) else (if a4 = true then ((spec_l5Sum.f k l3).bind fun t423 => (if t423 > 0 then (some 0) else (some 1))) else (some 1)))) else (if 0 ≤ a1 then (if a1 < (l0.length : Int) then ((spec_l5Class.f k (rd_L1 l0 a1)).bind fun t425 => (spec_l5Count.l0 k l0 a1 l2 l3 a4 0 t425 0)) else (none)) else (none))) = some r := h; clear h
 by_cases c6 : a1 = (l0.length : Int)
 ·
  rw [if_pos c6] at H; have c6b0 := beq_iff_eq.mpr c6; have c6b1 := bne_eq_false_iff_eq.mpr c6; clear c6; replace H := Option.bind_eq_some_iff.mp H; obtain ⟨t422, A70, H⟩ := H; replace H : (if t422 = true then (some 0) else (if a4 = true then ((spec_l5Sum.f k l3).bind fun t423 => (if t423 > 0 then (some 0) else (some 1))) else (some 1))) = some r := H; have A7 := Az A70; clear A70
  by_cases c8 : t422 = true
  ·
   subst c8
   have H1 : (some 0) = some r := by rw [if_pos rfl] at H; exact H
   clear H; have H := H1; clear H1; obtain rfl := Option.some.inj H
   go_enter Try.func93, Try.ntmps93
   go_wp2_with (first | ((with_reducible refine gate_callee (f := 135) rfl ?_); refine goesL_ (some 19) rfl rfl Try.func135 (by kernel_rfl) rfl #[.slice A2 l2.length c2] rfl (by (try simp only [List.map_toArray, List.map_cons, List.map_nil]); first | done | rfl | (simp only [List.length_drop, List.length_take]; rfl)) ?_; (with_reducible refine (spec_l1Moves.calls k _ _ l2 true _ ?side1 ?side2 A7.out).mono ?_); (case side1 => exact cU (HR2.out)); (case side2 => exact HC2.out); rintro e w' ⟨rfl, ⟨nd, rfl⟩⟩; refine ⟨_, rfl, ?_⟩))
   go_ret
   exact ⟨rE, bU0 HB.out⟩
  ·
   replace c8 := Bool.eq_false_iff.mpr c8; subst c8
   have H1 : (if a4 = true then ((spec_l5Sum.f k l3).bind fun t423 => (if t423 > 0 then (some 0) else (some 1))) else (some 1)) = some r := by rw [if_neg (show ¬ (false = true) by decide)] at H; exact H
   clear H; have H := H1; clear H1
   by_cases c9 : a4 = true
   ·
    subst c9
    have H1 : ((spec_l5Sum.f k l3).bind fun t423 => (if t423 > 0 then (some 0) else (some 1))) = some r := by rw [if_pos rfl] at H; exact H
    clear H; have H := H1; clear H1; replace H := Option.bind_eq_some_iff.mp H; obtain ⟨t423, A100, H⟩ := H; replace H : (if t423 > 0 then (some 0) else (some 1)) = some r := H; have A10 := Az A100; clear A100
    by_cases c11 : t423 > 0
    ·
     rw [if_pos c11] at H; have c11b0 := decide_eq_true c11; clear c11; obtain rfl := Option.some.inj H
     go_enter Try.func93, Try.ntmps93
     go_wp2_with (first | ((with_reducible refine gate_callee (f := 135) rfl ?_); refine goesL_ (some 19) rfl rfl Try.func135 (by kernel_rfl) rfl #[.slice A2 l2.length c2] rfl (by (try simp only [List.map_toArray, List.map_cons, List.map_nil]); first | done | rfl | (simp only [List.length_drop, List.length_take]; rfl)) ?_; (with_reducible refine (spec_l1Moves.calls k _ _ l2 false _ ?side1 ?side2 A7.out).mono ?_); (case side1 => exact cU (HR2.out)); (case side2 => exact HC2.out); rintro e w' ⟨rfl, ⟨nd, rfl⟩⟩; refine ⟨_, rfl, ?_⟩) | (go_at_call 92; (with_reducible refine (spec_l5Sum.calls k _ _ l3 t423 _ ?side1 ?side2 A10.out).mono ?_); (case side1 => exact cU (HR3.out)); (case side2 => exact HC3.out); rintro e w' ⟨rfl, ⟨nd, rfl⟩⟩))
     go_ret
     exact ⟨rE, bU0 HB.out⟩
    ·
     rw [if_neg c11] at H; have c11b0 := decide_eq_false c11; clear c11; obtain rfl := Option.some.inj H
     go_enter Try.func93, Try.ntmps93
     go_wp2_with (first | ((with_reducible refine gate_callee (f := 135) rfl ?_); refine goesL_ (some 19) rfl rfl Try.func135 (by kernel_rfl) rfl #[.slice A2 l2.length c2] rfl (by (try simp only [List.map_toArray, List.map_cons, List.map_nil]); first | done | rfl | (simp only [List.length_drop, List.length_take]; rfl)) ?_; (with_reducible refine (spec_l1Moves.calls k _ _ l2 false _ ?side1 ?side2 A7.out).mono ?_); (case side1 => exact cU (HR2.out)); (case side2 => exact HC2.out); rintro e w' ⟨rfl, ⟨nd, rfl⟩⟩; refine ⟨_, rfl, ?_⟩) | (go_at_call 92; (with_reducible refine (spec_l5Sum.calls k _ _ l3 t423 _ ?side1 ?side2 A10.out).mono ?_); (case side1 => exact cU (HR3.out)); (case side2 => exact HC3.out); rintro e w' ⟨rfl, ⟨nd, rfl⟩⟩))
     go_ret
     exact ⟨rE, bU0 HB.out⟩
   ·
    replace c9 := Bool.eq_false_iff.mpr c9; subst c9
    have H1 : (some 1) = some r := by rw [if_neg (show ¬ (false = true) by decide)] at H; exact H
    clear H; have H := H1; clear H1; obtain rfl := Option.some.inj H
    go_enter Try.func93, Try.ntmps93
    go_wp2_with (first | ((with_reducible refine gate_callee (f := 135) rfl ?_); refine goesL_ (some 19) rfl rfl Try.func135 (by kernel_rfl) rfl #[.slice A2 l2.length c2] rfl (by (try simp only [List.map_toArray, List.map_cons, List.map_nil]); first | done | rfl | (simp only [List.length_drop, List.length_take]; rfl)) ?_; (with_reducible refine (spec_l1Moves.calls k _ _ l2 false _ ?side1 ?side2 A7.out).mono ?_); (case side1 => exact cU (HR2.out)); (case side2 => exact HC2.out); rintro e w' ⟨rfl, ⟨nd, rfl⟩⟩; refine ⟨_, rfl, ?_⟩))
    go_ret
    exact ⟨rE, bU0 HB.out⟩
 ·
  rw [if_neg c6] at H; have c6b0 := beq_eq_false_iff_ne.mpr c6; have c6b1 := bne_iff_ne.mpr c6
  by_cases c12 : 0 ≤ a1
  ·
   rw [if_pos c12] at H; have c12b0 := decide_eq_true c12; clear c12
   by_cases c13 : a1 < (l0.length : Int)
   ·
    rw [if_pos c13] at H; have c13b0 := decide_eq_true c13; clear c13; replace H := Option.bind_eq_some_iff.mp H; obtain ⟨t425, A140, H⟩ := H; replace H : (spec_l5Count.l0 k l0 a1 l2 l3 a4 0 t425 0) = some r := H; have A14 := Az A140; clear A140; have H' := Az H; clear H; have p424 : 0 ≤ (a1 : Int) := oA; have q424 : a1 < (l0.length : Int) := oA; obtain ⟨ad424, A424_0, c424_0, e424, hx424_0, hl424_0, hi424_0⟩ := at_L1 HR0.out a1 p424 q424
    cases e424
    have HR424_0 := Az hi424_0; have HC424_0 := Az hl424_0; clear hi424_0 hl424_0; replace p424 := eq_true p424; replace q424 := eq_true q424
    go_enter Try.func93, Try.ntmps93
    go_wp2_with (first | ((with_reducible refine gate_callee (f := 136) rfl ?_); refine goesL_ (some 32) rfl rfl Try.func136 (by kernel_rfl) rfl #[.slice A424_0 (rd_L1 l0 a1).length c424_0] rfl (by (try simp only [List.map_toArray, List.map_cons, List.map_nil]); first | done | rfl | (simp only [List.length_drop, List.length_take]; rfl)) ?_; (with_reducible refine (spec_l5Class.calls k _ _ (rd_L1 l0 a1) t425 _ ?side1 ?side2 A14.out).mono ?_); (case side1 => exact cU (HR424_0.out)); (case side2 => exact HC424_0.out); rintro e w15 ⟨v426, rfl, ho0, hb⟩; refine ⟨_, rfl, ?_⟩; have n0 := Az (Kd.S_lower ho0 (below_size (bU0 HB.out))); have n1 := Az (below_step (bU0 HB.out) hb); clear HB; have HO427 := n0; have HB := n1; clear n0 n1; (try clear hb); (try clear hb2); (try clear hk); (try clear hi); (try clear ho0)))
    go_loopg [11, 13] k (fun kq v11 v13 w' => ∃ (x11_1 : Int) (x13_1 : Int), v11 = .int .i64 x11_1 ∧ v13 = .int .i64 x13_1 ∧ Aside0 (spec_l5Count.l0 kq l0 a1 l2 l3 a4 x11_1 t425 x13_1 = some r) ∧ Aside0 (kq ≤ k) ∧ Aside0 (Kd.S (Kd.slice 3 (Kd.int .i64)) 23 w' w.heap.size (fun _ => True) v426 t425) ∧ Aside0 (Below w.heap.size w w'))
    case atStart => exact ⟨(0), (0), rS, rS, H', ⟨Nat.le_refl _⟩, ⟨sU HO427.out⟩, ⟨bU0 HB.out⟩⟩
    case round =>
     clear H'; (try clear c1); (try clear c2); (try clear p2); (try clear c3); (try clear c4); (try clear p4); (try clear q4); (try clear hx4); (try clear c6); (try clear c6b0); (try clear c6b1); (try clear c8); (try clear c9); (try clear c11); (try clear c11b0); (try clear c12); (try clear c12b0); (try clear c13); (try clear c13b0); (try clear hx424_0); (try clear p424); (try clear q424); obtain ⟨x11_1, x13_1, rfl, rfl, HA, HK1, HO_12, HB⟩ := hrel
     cases gk with
     | zero => exact absurd HA.out (by simp [spec_l5Count.l0])
     | succ k1 =>
      have H := HA.out; clear HA; simp only [spec_l5Count.l0] at H
      by_cases c16 : x13_1 < (t425.length : Int)
      ·
       rw [if_pos c16] at H; have c16b0 := decide_eq_true c16; clear c16
       by_cases c17 : 0 ≤ x13_1
       ·
        rw [if_pos c17] at H; have c17b0 := decide_eq_true c17; clear c17; replace H := Option.bind_eq_some_iff.mp H; obtain ⟨t429, A180, H⟩ := H; replace H : ((spec_l5Join.f k1 l3 (rd_L1 t425 x13_1)).bind fun t433 => ((spec_l5Count.f k1 l0 (wrap64 (a1 + 1)) t429 t433 a4).bind fun t436 => (spec_l5Count.l0 k1 l0 a1 l2 l3 a4 (wrap64 (x11_1 + t436)) t425 (wrap64 (x13_1 + 1))))) = some r := H; have A18 := Az A180; clear A180; replace H := Option.bind_eq_some_iff.mp H; obtain ⟨t433, A190, H⟩ := H; replace H : ((spec_l5Count.f k1 l0 (wrap64 (a1 + 1)) t429 t433 a4).bind fun t436 => (spec_l5Count.l0 k1 l0 a1 l2 l3 a4 (wrap64 (x11_1 + t436)) t425 (wrap64 (x13_1 + 1)))) = some r := H; have A19 := Az A190; clear A190; replace H := Option.bind_eq_some_iff.mp H; obtain ⟨t436, A200, H⟩ := H; replace H : (spec_l5Count.l0 k1 l0 a1 l2 l3 a4 (wrap64 (x11_1 + t436)) t425 (wrap64 (x13_1 + 1))) = some r := H; have A20 := Az A200; clear A200; have H' := Az H; clear H; obtain ⟨Ao21, co21, eo21⟩ := Kd.S_slice HO_12.out; subst eo21
        try go_wp2
        have n0 := Az (Kd.S_drew HO_12.out); have n1 := Az (below_drew1 HB.out); clear HO_12 HB; have HO_12 := n0; have HB := n1; clear n0 n1; have p428 : 0 ≤ (x13_1 : Int) := oA; have q428 : x13_1 < (t425.length : Int) := oA; obtain ⟨ad428, A428_0, c428_0, e428, hx428_0, hl428_0, hi428_0⟩ := at_L1 (Kd.S_reads' HO_12.out).2.2 x13_1 p428 q428
        cases e428
        obtain ⟨ce428, hce428, hMe428, hcc428⟩ := Kd.S_get HO_12.out [] x13_1 p428 (by first | exact q428 | exact oA | (have e_ := (Kd.S_reads' HO_12.out).1; omega)); obtain ⟨ve428_0, rfl, ge428_0⟩ := hMe428; have hv428_0 := hcc428 0 _ rfl; rw [Nat.add_zero, show ((Kd.slice 3 (Kd.int .i64))).sz = 1 from rfl, Nat.mul_one] at hv428_0; replace hv428_0 := Option.some.inj (hv428_0.symm.trans hx428_0); rw [hv428_0] at ge428_0; have HL428_0 := Az (show Kd.R (Kd.int .i64) 3 _ _ _ _ (rd_L1 t425 x13_1) from ge428_0); clear hv428_0 ge428_0 hcc428 hce428; have HR428_0 := Az hi428_0; have HC428_0 := Az hl428_0; clear hi428_0 hl428_0; replace p428 := eq_true p428; replace q428 := eq_true q428; have p432 : 0 ≤ (x13_1 : Int) := oA; have q432 : x13_1 < (t425.length : Int) := oA; obtain ⟨ad432, A432_0, c432_0, e432, hx432_0, hl432_0, hi432_0⟩ := at_L1 (Kd.S_reads' HO_12.out).2.2 x13_1 p432 q432; obtain rfl : ad428 = ad432 := (by injection e432); obtain ⟨ce432, hce432, hMe432, hcc432⟩ := Kd.S_get HO_12.out [] x13_1 p432 (by first | exact q432 | exact oA | (have e_ := (Kd.S_reads' HO_12.out).1; omega)); obtain ⟨ve432_0, rfl, ge432_0⟩ := hMe432; have hv432_0 := hcc432 0 _ rfl; rw [Nat.add_zero, show ((Kd.slice 3 (Kd.int .i64))).sz = 1 from rfl, Nat.mul_one] at hv432_0; replace hv432_0 := Option.some.inj (hv432_0.symm.trans hx432_0); rw [hv432_0] at ge432_0; have HL432_0 := Az (show Kd.R (Kd.int .i64) 3 _ _ _ _ (rd_L1 t425 x13_1) from ge432_0); clear hv432_0 ge432_0 hcc432 hce432; have HR432_0 := Az hi432_0; have HC432_0 := Az hl432_0; clear hi432_0 hl432_0; replace p432 := eq_true p432; replace q432 := eq_true q432; have ea_ := Option.some.inj (hx428_0.symm.trans hx432_0); injection ea_ with ea_ en_ ec_; subst ea_; subst ec_; clear en_
        refine start_ (n := 20) (S := fun w' => w'.cell? (ad428.add (x13_1).toNat) = some (.slice A428_0 (rd_L1 t425 x13_1).length c428_0) ∧ w'.cell? (ad428.add (x13_1).toNat) = some (.slice A428_0 (rd_L1 t425 x13_1).length c428_0)) (ds := []) #[false, false, false, false, false, false, false, false, false, false, false, false, false, false, false, false, false, false, false, false] (by kernel_rfl) rfl rfl ⟨hx428_0, hx432_0⟩ (fun hHeld => ?_); refine with_tabW spec_l5Count.tab10 spec_l5Count.bits10 (fun HT_ HW_ => ?_)
        generalize wr.drew = w22 at HO_12 HB HL428_0 HL432_0 HR428_0 HR432_0 hx428_0 hx432_0 hHeld ⊢
        refine pure_ (i := 0) (N := some 39) (v := ?_) (a' := ?_) #[true, false, false, false, false, false, false, false, false, false, false, false, false, false, false, false, false, false, false, false] rfl rfl (any_of HT_.out (by kernel_rfl)) (fun _ _ _ h => h) (Or.inl ⟨by rfl, ?_⟩) ?_ ?_
        rotate_left
        ·
         intro w'
         go_simp
         with_reducible rfl
        rotate_left
        ·
         simp only [Act.put, List.setIfInBounds_toArray, List.set_cons_zero, List.set_cons_succ, i64_w, i32_w]
         rfl
        refine pure_ (i := 1) (N := some 40) (v := ?_) (a' := ?_) #[true, true, false, false, false, false, false, false, false, false, false, false, false, false, false, false, false, false, false, false] rfl rfl (any_of HT_.out (by kernel_rfl)) (fun _ _ _ h => h) (Or.inl ⟨by rfl, ?_⟩) ?_ ?_
        rotate_left
        ·
         intro w'
         go_simp
         with_reducible rfl
        rotate_left
        ·
         simp only [Act.put, List.setIfInBounds_toArray, List.set_cons_zero, List.set_cons_succ, i64_w, i32_w]
         rfl
        refine pure_ (i := 2) (N := some 41) (v := ?_) (a' := ?_) #[true, true, true, false, false, false, false, false, false, false, false, false, false, false, false, false, false, false, false, false] rfl rfl (any_of HT_.out (by kernel_rfl)) (fun _ _ _ h => h) (Or.inl ⟨by rfl, ?_⟩) ?_ ?_
        rotate_left
        ·
         intro w'
         go_simp
         with_reducible rfl
        rotate_left
        ·
         simp only [Act.put, List.setIfInBounds_toArray, List.set_cons_zero, List.set_cons_succ, i64_w, i32_w]
         rfl
        refine pure_ (i := 3) (N := some 42) (v := ?_) (a' := ?_) #[true, true, true, true, false, false, false, false, false, false, false, false, false, false, false, false, false, false, false, false] rfl rfl (any_of HT_.out (by kernel_rfl)) (fun _ _ _ h => h) (Or.inl ⟨by rfl, ?_⟩) ?_ ?_
        rotate_left
        ·
         intro w'
         go_simp
         with_reducible rfl
        rotate_left
        ·
         simp only [Act.put, List.setIfInBounds_toArray, List.set_cons_zero, List.set_cons_succ, i64_w, i32_w]
         rfl
        refine pure_ (i := 4) (N := some 43) (v := ?_) (a' := ?_) #[true, true, true, true, true, false, false, false, false, false, false, false, false, false, false, false, false, false, false, false] rfl rfl (any_of HT_.out (by kernel_rfl)) (fun _ _ _ h => h) (Or.inl ⟨by rfl, ?_⟩) ?_ ?_
        rotate_left
        ·
         intro w'
         go_simp
         with_reducible rfl
        rotate_left
        ·
         simp only [Act.put, List.setIfInBounds_toArray, List.set_cons_zero, List.set_cons_succ, i64_w, i32_w]
         rfl
        refine pure_ (i := 5) (N := some 44) (v := ?_) (a' := ?_) #[true, true, true, true, true, true, false, false, false, false, false, false, false, false, false, false, false, false, false, false] rfl rfl (any_of HT_.out (by kernel_rfl)) (fun _ _ _ h => h) (Or.inl ⟨by rfl, ?_⟩) ?_ ?_
        rotate_left
        ·
         intro w'
         go_simp
         with_reducible rfl
        rotate_left
        ·
         simp only [Act.put, List.setIfInBounds_toArray, List.set_cons_zero, List.set_cons_succ, i64_w, i32_w]
         rfl
        refine pure_ (i := 6) (N := some 45) (v := ?_) (a' := ?_) #[true, true, true, true, true, true, true, false, false, false, false, false, false, false, false, false, false, false, false, false] rfl rfl (any_of HT_.out (by kernel_rfl)) (fun _ _ _ h => h) (Or.inl ⟨by rfl, ?_⟩) ?_ ?_
        rotate_left
        ·
         intro w'
         go_simp
         with_reducible rfl
        rotate_left
        ·
         simp only [Act.put, List.setIfInBounds_toArray, List.set_cons_zero, List.set_cons_succ, i64_w, i32_w]
         rfl
        refine pure_ (i := 7) (N := some 46) (v := ?_) (a' := ?_) #[true, true, true, true, true, true, true, true, false, false, false, false, false, false, false, false, false, false, false, false] rfl rfl (any_of HT_.out (by kernel_rfl)) (fun _ _ _ h => h) (Or.inl ⟨by rfl, ?_⟩) ?_ ?_
        rotate_left
        ·
         intro w'
         go_simp
         with_reducible rfl
        rotate_left
        ·
         simp only [Act.put, List.setIfInBounds_toArray, List.set_cons_zero, List.set_cons_succ, i64_w, i32_w]
         rfl
        refine pure_ (i := 10) (N := some 49) (v := ?_) (a' := ?_) #[true, true, true, true, true, true, true, true, false, false, true, false, false, false, false, false, false, false, false, false] rfl rfl (any_of HT_.out (by kernel_rfl)) (fun _ _ _ h => h) (Or.inl ⟨by rfl, ?_⟩) ?_ ?_
        rotate_left
        ·
         intro w'
         go_simp
         with_reducible rfl
        rotate_left
        ·
         simp only [Act.put, List.setIfInBounds_toArray, List.set_cons_zero, List.set_cons_succ, i64_w, i32_w]
         rfl
        refine pure_ (i := 11) (N := some 50) (v := ?_) (a' := ?_) #[true, true, true, true, true, true, true, true, false, false, true, true, false, false, false, false, false, false, false, false] rfl rfl (any_of HT_.out (by kernel_rfl)) (fun _ _ _ h => h) (Or.inl ⟨by rfl, ?_⟩) ?_ ?_
        rotate_left
        ·
         intro w'
         go_simp
         with_reducible rfl
        rotate_left
        ·
         simp only [Act.put, List.setIfInBounds_toArray, List.set_cons_zero, List.set_cons_succ, i64_w, i32_w]
         rfl
        refine pure_ (i := 12) (N := some 51) (v := ?_) (a' := ?_) #[true, true, true, true, true, true, true, true, false, false, true, true, true, false, false, false, false, false, false, false] rfl rfl (any_of HT_.out (by kernel_rfl)) (fun _ _ _ h => h) (Or.inl ⟨by rfl, ?_⟩) ?_ ?_
        rotate_left
        ·
         intro w'
         go_simp
         with_reducible rfl
        rotate_left
        ·
         simp only [Act.put, List.setIfInBounds_toArray, List.set_cons_zero, List.set_cons_succ, i64_w, i32_w]
         rfl
        refine pure_ (i := 13) (N := some 52) (v := ?_) (a' := ?_) #[true, true, true, true, true, true, true, true, false, false, true, true, true, true, false, false, false, false, false, false] rfl rfl (any_of HT_.out (by kernel_rfl)) (fun _ _ _ h => h) (Or.inl ⟨by rfl, ?_⟩) ?_ ?_
        rotate_left
        ·
         intro w'
         go_simp
         with_reducible rfl
        rotate_left
        ·
         simp only [Act.put, List.setIfInBounds_toArray, List.set_cons_zero, List.set_cons_succ, i64_w, i32_w]
         rfl
        refine pure_ (i := 16) (N := some 55) (v := ?_) (a' := ?_) #[true, true, true, true, true, true, true, true, false, false, true, true, true, true, false, false, true, false, false, false] rfl rfl (any_of HT_.out (by kernel_rfl)) (fun _ _ _ h => h) (Or.inl ⟨by rfl, ?_⟩) ?_ ?_
        rotate_left
        ·
         intro w'
         go_simp
         with_reducible rfl
        rotate_left
        ·
         simp only [Act.put, List.setIfInBounds_toArray, List.set_cons_zero, List.set_cons_succ, i64_w, i32_w]
         rfl
        refine take_ (i := 8) (N := some 47) (v := ?_) (a' := ?_) #[true, true, true, true, true, true, true, true, true, false, true, true, true, true, false, false, true, false, false, false] rfl rfl (take_ofW HT_.out HW_.out (by kernel_rfl)) (fun _ _ _ h => h) (Or.inl ⟨by rfl, ?_⟩) hHeld ?_ ?_
        rotate_left
        ·
         rintro w' ⟨s0, s1⟩
         go_simp
         with_reducible rfl
        rotate_left
        ·
         simp only [Act.put, List.setIfInBounds_toArray, List.set_cons_zero, List.set_cons_succ, i64_w, i32_w]
         rfl
        refine take_ (i := 14) (N := some 53) (v := ?_) (a' := ?_) #[true, true, true, true, true, true, true, true, true, false, true, true, true, true, true, false, true, false, false, false] rfl rfl (take_ofW HT_.out HW_.out (by kernel_rfl)) (fun _ _ _ h => h) (Or.inl ⟨by rfl, ?_⟩) hHeld ?_ ?_
        rotate_left
        ·
         rintro w' ⟨s0, s1⟩
         go_simp
         with_reducible rfl
        rotate_left
        ·
         simp only [Act.put, List.setIfInBounds_toArray, List.set_cons_zero, List.set_cons_succ, i64_w, i32_w]
         rfl
        refine one_ (i := 9) (N := some 48) #[true, true, true, true, true, true, true, true, true, true, true, true, true, true, true, false, true, false, false, false] rfl rfl (one_of HT_.out (by kernel_rfl)) (by decide) (fun K hK => ?_)
        refine goes_ Try.func126 (by kernel_rfl) rfl #[.slice A2 l2.length c2, .slice A428_0 (rd_L1 t425 x13_1).length c428_0] (by rfl) rfl rfl (by (try simp only [List.map_toArray, List.map_cons, List.map_nil]); first | done | rfl | (simp only [List.length_drop, List.length_take]; rfl)) ?_
        with_reducible refine (spec_l1Mul.calls k1 _ _ l2 _ _ (rd_L1 t425 x13_1) t429 _ ?side1 ?side2 ?side3 ?side4 A18.out).mono ?_
        (case side1 => exact cU (Kd.C_below HR2.out HB.out))
        (case side2 => exact HC2.out)
        (case side3 => exact cU (by repeat (first | (with_reducible exact HR428_0.out) | (with_reducible refine Kd.C_alloc ?_ _) | (with_reducible refine Kd.C_drewN ?_ _) | (with_reducible refine Kd.C_drew ?_) | exact HR428_0.out)))
        (case side4 => exact HC428_0.out)
        rintro e w23 ⟨v430, rfl, ho0, hb⟩
        have HS0_ := (hb.cell (World.block_lt_of_cell? _ _ (hHeld.1))).trans (hHeld.1); have HS1_ := (hb.cell (World.block_lt_of_cell? _ _ (hHeld.2))).trans (hHeld.2)
        refine ⟨_, rfl, ?_⟩
        have n0 := Az (Kd.S_elder' (sU HO_12.out) (Kd.R_base ho0) hb); have n1 := Az (Kd.R_elder' (rU HL428_0.out) (Kd.R_base ho0) hb); have n2 := Az (Kd.R_elder' (rU HL432_0.out) (Kd.R_base ho0) hb); have n3 := Az (Kd.R_lower (Kd.R_new' (Kd.R_new' ho0 (Kd.R_lt (rU HL428_0.out))) (Kd.R_lt (rU HL432_0.out))) (below_size (bU0 HB.out))); have n4 := Az (Kd.C_below (by repeat (first | (with_reducible exact HR428_0.out) | (with_reducible refine Kd.C_alloc ?_ _) | (with_reducible refine Kd.C_drewN ?_ _) | (with_reducible refine Kd.C_drew ?_) | exact HR428_0.out)) hb); have n5 := Az (Kd.C_below (by repeat (first | (with_reducible exact HR432_0.out) | (with_reducible refine Kd.C_alloc ?_ _) | (with_reducible refine Kd.C_drewN ?_ _) | (with_reducible refine Kd.C_drew ?_) | exact HR432_0.out)) hb); have n6 := Az (below_step (bU0 HB.out) hb); clear HO_12 HL428_0 HL432_0 HR428_0 HR432_0 HB; have HO_12 := n0; have HL428_0 := n1; have HL432_0 := n2; have HO431 := n3; have HR428_0 := n4; have HR432_0 := n5; have HB := n6; clear n0 n1 n2 n3 n4 n5 n6; (try clear hb); (try clear hb2); (try clear hk); (try clear hi); (try clear ho0)
        refine hK.out _ _ ⟨HS0_, HS1_⟩ (fun hHeld => ?_)
        clear hK K
        refine norm_ (a' := ?_) ?_ ?_
        rotate_left
        ·
         show Act.put _ (some 48) _ = _
         simp only [Act.put, List.setIfInBounds_toArray, List.set_cons_zero, List.set_cons_succ, i64_w, i32_w]
         rfl
        refine one_ (i := 15) (N := some 54) #[true, true, true, true, true, true, true, true, true, true, true, true, true, true, true, true, true, false, false, false] rfl rfl (one_of HT_.out (by kernel_rfl)) (by decide) (fun K hK => ?_)
        refine goes_ Try.func137 (by kernel_rfl) rfl #[.slice A3 l3.length c3, .slice A428_0 (rd_L1 t425 x13_1).length c428_0] (by rfl) rfl rfl (by (try simp only [List.map_toArray, List.map_cons, List.map_nil]); first | done | rfl | (simp only [List.length_drop, List.length_take]; rfl)) ?_
        with_reducible refine (spec_l5Join.calls k1 _ _ l3 _ _ (rd_L1 t425 x13_1) t433 _ ?side1 ?side2 ?side3 ?side4 A19.out).mono ?_
        (case side1 => exact cU (Kd.C_below HR3.out HB.out))
        (case side2 => exact HC3.out)
        (case side3 => exact cU (by repeat (first | (with_reducible exact HR432_0.out) | (with_reducible refine Kd.C_alloc ?_ _) | (with_reducible refine Kd.C_drewN ?_ _) | (with_reducible refine Kd.C_drew ?_) | exact HR432_0.out)))
        (case side4 => exact HC432_0.out)
        rintro e w24 ⟨v434, rfl, ho0, hb⟩
        have HS0_ := (hb.cell (World.block_lt_of_cell? _ _ (hHeld.1))).trans (hHeld.1); have HS1_ := (hb.cell (World.block_lt_of_cell? _ _ (hHeld.2))).trans (hHeld.2)
        refine ⟨_, rfl, ?_⟩
        have n0 := Az (Kd.S_elder' (sU HO_12.out) (Kd.R_base ho0) hb); have n1 := Az (Kd.R_elder' (rU HL428_0.out) (Kd.R_base ho0) hb); have n2 := Az (Kd.R_elder' (rU HL432_0.out) (Kd.R_base ho0) hb); have n3 := Az (Kd.R_elder' (rU HO431.out) (Kd.R_base ho0) hb); have n4 := Az (Kd.R_lower (Kd.R_new' (Kd.R_new' (Kd.R_new' ho0 (Kd.R_lt (rU HL428_0.out))) (Kd.R_lt (rU HL432_0.out))) (Kd.R_lt (rU HO431.out))) (below_size (bU0 HB.out))); have n5 := Az (Kd.C_below (by repeat (first | (with_reducible exact HR428_0.out) | (with_reducible refine Kd.C_alloc ?_ _) | (with_reducible refine Kd.C_drewN ?_ _) | (with_reducible refine Kd.C_drew ?_) | exact HR428_0.out)) hb); have n6 := Az (Kd.C_below (by repeat (first | (with_reducible exact HR432_0.out) | (with_reducible refine Kd.C_alloc ?_ _) | (with_reducible refine Kd.C_drewN ?_ _) | (with_reducible refine Kd.C_drew ?_) | exact HR432_0.out)) hb); have n7 := Az (below_step (bU0 HB.out) hb); clear HO_12 HL428_0 HL432_0 HO431 HR428_0 HR432_0 HB; have HO_12 := n0; have HL428_0 := n1; have HL432_0 := n2; have HO431 := n3; have HO435 := n4; have HR428_0 := n5; have HR432_0 := n6; have HB := n7; clear n0 n1 n2 n3 n4 n5 n6 n7; (try clear hb); (try clear hb2); (try clear hk); (try clear hi); (try clear ho0); obtain ⟨Ao25, co25, eo25⟩ := Kd.R_slice HO431.out; (first | subst eo25 | (injection eo25 with f1_ f2_ f3_; have f4_ := f1_.symm; have f5_ := f3_.symm; clear f1_ f2_ f3_; subst f4_; subst f5_)); obtain ⟨Ao26, co26, eo26⟩ := Kd.R_slice HO435.out; (first | subst eo26 | (injection eo26 with f1_ f2_ f3_; have f4_ := f1_.symm; have f5_ := f3_.symm; clear f1_ f2_ f3_; subst f4_; subst f5_))
        refine hK.out _ _ ⟨HS0_, HS1_⟩ (fun hHeld => ?_)
        clear hK K
        refine norm_ (a' := ?_) ?_ ?_
        rotate_left
        ·
         show Act.put _ (some 54) _ = _
         simp only [Act.put, List.setIfInBounds_toArray, List.set_cons_zero, List.set_cons_succ, i64_w, i32_w]
         rfl
        refine one_ (i := 17) (N := some 56) #[true, true, true, true, true, true, true, true, true, true, true, true, true, true, true, true, true, true, false, false] rfl rfl (one_of HT_.out (by kernel_rfl)) (by decide) (fun K hK => ?_)
        refine goes_ Try.func93 (by kernel_rfl) rfl #[.slice (some ad424) l0.length c0, .int .i64 (wrap64 (a1 + 1)), .slice Ao25 t429.length co25, .slice Ao26 t433.length co26, .bool a4] (by rfl) rfl rfl (by (try simp only [List.map_toArray, List.map_cons, List.map_nil]); first | done | rfl | (simp only [List.length_drop, List.length_take]; rfl)) ?_
        with_reducible refine (ih k1 (by have := HK1.out; omega) _ _ l0 (wrap64 (a1 + 1)) _ _ t429 _ _ t433 a4 t436 _ ?side1 ?side2 ?side3 ?side4 ?side5 ?side6 A20.out).mono ?_
        (case side1 => exact cU (Kd.C_below HR0.out HB.out))
        (case side2 => exact HC0.out)
        (case side3 => exact cU ((Kd.R_reads' HO431.out).2.2))
        (case side4 => exact (Kd.R_reads' HO431.out).2.1)
        (case side5 => exact cU ((Kd.R_reads' HO435.out).2.2))
        (case side6 => exact (Kd.R_reads' HO435.out).2.1)
        rintro e w27 ⟨rfl, hb⟩
        have HS0_ := (hb.cell (World.block_lt_of_cell? _ _ (hHeld.1))).trans (hHeld.1); have HS1_ := (hb.cell (World.block_lt_of_cell? _ _ (hHeld.2))).trans (hHeld.2)
        refine ⟨_, rfl, ?_⟩
        have n0 := Az (Kd.S_below (sU HO_12.out) hb); have n1 := Az (Kd.R_below (rU HL428_0.out) hb); have n2 := Az (Kd.R_below (rU HL432_0.out) hb); have n3 := Az (Kd.R_below (rU HO431.out) hb); have n4 := Az (Kd.R_below (rU HO435.out) hb); have n5 := Az (Kd.C_below (by repeat (first | (with_reducible exact HR428_0.out) | (with_reducible refine Kd.C_alloc ?_ _) | (with_reducible refine Kd.C_drewN ?_ _) | (with_reducible refine Kd.C_drew ?_) | exact HR428_0.out)) hb); have n6 := Az (Kd.C_below (by repeat (first | (with_reducible exact HR432_0.out) | (with_reducible refine Kd.C_alloc ?_ _) | (with_reducible refine Kd.C_drewN ?_ _) | (with_reducible refine Kd.C_drew ?_) | exact HR432_0.out)) hb); have n7 := Az (below_step (bU0 HB.out) hb); clear HO_12 HL428_0 HL432_0 HO431 HO435 HR428_0 HR432_0 HB; have HO_12 := n0; have HL428_0 := n1; have HL432_0 := n2; have HO431 := n3; have HO435 := n4; have HR428_0 := n5; have HR432_0 := n6; have HB := n7; clear n0 n1 n2 n3 n4 n5 n6 n7; (try clear hb); (try clear hb2); (try clear hk); (try clear hi)
        refine hK.out _ _ ⟨HS0_, HS1_⟩ (fun hHeld => ?_)
        clear hK K
        refine norm_ (a' := ?_) ?_ ?_
        rotate_left
        ·
         show Act.put _ (some 56) _ = _
         simp only [Act.put, List.setIfInBounds_toArray, List.set_cons_zero, List.set_cons_succ, i64_w, i32_w]
         rfl
        refine pure_ (i := 18) (N := some 57) (v := ?_) (a' := ?_) #[true, true, true, true, true, true, true, true, true, true, true, true, true, true, true, true, true, true, true, false] rfl rfl (any_of HT_.out (by kernel_rfl)) (fun _ _ _ h => h) (Or.inl ⟨by rfl, ?_⟩) ?_ ?_
        rotate_left
        ·
         intro w'
         go_simp
         with_reducible rfl
        rotate_left
        ·
         simp only [Act.put, List.setIfInBounds_toArray, List.set_cons_zero, List.set_cons_succ, i64_w, i32_w]
         rfl
        refine pure_ (i := 19) (N := some 11) (v := ?_) (a' := ?_) #[true, true, true, true, true, true, true, true, true, true, true, true, true, true, true, true, true, true, true, true] rfl rfl (any_of HT_.out (by kernel_rfl)) (fun _ _ _ h => h) (Or.inl ⟨by rfl, ?_⟩) ?_ ?_
        rotate_left
        ·
         intro w'
         go_simp
         with_reducible rfl
        rotate_left
        ·
         simp only [Act.put, List.setIfInBounds_toArray, List.set_cons_zero, List.set_cons_succ, i64_w, i32_w]
         rfl
        refine done_ (done_of HT_.out (by kernel_rfl)) ?_
        try go_wp2
        (first | go_roundg k1 | (refine Handed.intro k1 ?measure ?_; rotate_left; go_step; (try simp only [add_plain]); (repeat apply Exists.intro); refine ⟨?rel, rfl⟩))
        case measure => have := HK1.out; omega
        case rel => exact ⟨(wrap64 (x11_1 + t436)), (wrap64 (x13_1 + 1)), rS, rS, H', ⟨by have := HK1.out; omega⟩, ⟨by (with_reducible repeat (first | apply Kd.S_alloc | apply Kd.S_drewN | apply Kd.S_drew)); exact Kd.S_mono HO_12.out (fun _ hk => trivial)⟩, ⟨bU0 HB.out⟩⟩
       ·
        rw [if_neg c17] at H
        exact absurd H (by simp)
      ·
       rw [if_neg c16] at H; have c16b0 := decide_eq_false c16; clear c16; obtain rfl := Option.some.inj H; obtain ⟨Ao28, co28, eo28⟩ := Kd.S_slice HO_12.out; subst eo28
       go_wp2
       go_ret
       exact ⟨rE, bU0 HB.out⟩
   ·
    rw [if_neg c13] at H
    exact absurd H (by simp)
  ·
   rw [if_neg c12] at H
   exact absurd H (by simp)
def spec_FactorEach.f (k : Nat) (l0 : List (List Int)) : Option (Int) := (spec_l5Small.f k l0).bind fun t437 => (if t437 = true then (if 0 < (l0.length : Int) then ((spec_l5Sum.f k (rd_L1 l0 0)).bind fun t439 => ((spec_l1Same.f k t439).bind fun t440 => ((spec_l5Count.f k l0 0 t440 t440 false).bind fun t443 => (some t443)))) else (none)) else (some (-1)))
set_option maxHeartbeats 8000000 in
set_option maxRecDepth 100000 in
theorem spec_FactorEach.calls (k : Nat) (A0 : Option Addr) (c0 : Nat) (l0 : List (List Int)) (r : Int) (w : World) (hr0 : Kd.C (Kd.slice 3 (Kd.int .i64)) w A0 l0.length l0) (hc0 : l0.length ≤ c0) (h : spec_FactorEach.f k l0 = some r) :
  Calls Try.prog 39 #[.slice A0 l0.length c0] w fun e w' => e = .returned (.int .i64 r) ∧ Below w.heap.size w w' := by
 have HR0 := Az hr0; have HC0 := Az hc0; clear hr0 hc0; have HB := Az (Below.refl w.heap.size w); have H : ((spec_l5Small.f k l0).bind fun t437 => (if t437 = true then (if 0 < (l0.length : Int) then ((spec_l5Sum.f k (rd_L1 l0 0)).bind fun t439 => ((spec_l1Same.f k t439).bind fun t440 => ((spec_l5Count.f k l0 0 t440 t440 false).bind fun t443 => (some t443)))) else (none)) else (some (-1)))) = some r := h; clear h; replace H := Option.bind_eq_some_iff.mp H; obtain ⟨t437, A20, H⟩ := H; replace H : (if t437 = true then (if 0 < (l0.length : Int) then ((spec_l5Sum.f k (rd_L1 l0 0)).bind fun t439 => ((spec_l1Same.f k t439).bind fun t440 => ((spec_l5Count.f k l0 0 t440 t440 false).bind fun t443 => (some t443)))) else (none)) else (some (-1))) = some r := H; have A2 := Az A20; clear A20
 by_cases c3 : t437 = true
 ·
  subst c3
  have H1 : (if 0 < (l0.length : Int) then ((spec_l5Sum.f k (rd_L1 l0 0)).bind fun t439 => ((spec_l1Same.f k t439).bind fun t440 => ((spec_l5Count.f k l0 0 t440 t440 false).bind fun t443 => (some t443)))) else (none)) = some r := by rw [if_pos rfl] at H; exact H
  clear H; have H := H1; clear H1
  by_cases c4 : 0 < (l0.length : Int)
  ·
   rw [if_pos c4] at H; have c4b0 := decide_eq_true c4; have c4b1 : decide (0 < l0.length) = true := decide_eq_true (by omega); clear c4; replace H := Option.bind_eq_some_iff.mp H; obtain ⟨t439, A50, H⟩ := H; replace H : ((spec_l1Same.f k t439).bind fun t440 => ((spec_l5Count.f k l0 0 t440 t440 false).bind fun t443 => (some t443))) = some r := H; have A5 := Az A50; clear A50; replace H := Option.bind_eq_some_iff.mp H; obtain ⟨t440, A60, H⟩ := H; replace H : ((spec_l5Count.f k l0 0 t440 t440 false).bind fun t443 => (some t443)) = some r := H; have A6 := Az A60; clear A60; replace H := Option.bind_eq_some_iff.mp H; obtain ⟨t443, A70, H⟩ := H; replace H : (some t443) = some r := H; have A7 := Az A70; clear A70; obtain rfl := Option.some.inj H
   go_enter Try.func39, Try.ntmps39
   go_wp2_with (first | ((with_reducible refine gate_callee (f := 90) rfl ?_); refine goesL_ (some 5) rfl rfl Try.func90 (by kernel_rfl) rfl #[.slice A0 l0.length c0] rfl (by (try simp only [List.map_toArray, List.map_cons, List.map_nil]); first | done | rfl | (simp only [List.length_drop, List.length_take]; rfl)) ?_; (with_reducible refine (spec_l5Small.calls k _ _ l0 true _ ?side1 ?side2 A2.out).mono ?_); (case side1 => exact cU (HR0.out)); (case side2 => exact HC0.out); rintro e w' ⟨rfl, ⟨nd, rfl⟩⟩; refine ⟨_, rfl, ?_⟩; have p438 : 0 ≤ (0 : Int) := (by omega); have q438 : 0 < (l0.length : Int) := oA; obtain ⟨ad438, A438_0, c438_0, e438, hx438_0, hl438_0, hi438_0⟩ := at_L1 HR0.out 0 p438 q438; cases e438; have qi438 : (0 < l0.length) = True := eq_true (by omega); (try rw [show ((0 : Int)).toNat = 0 from rfl] at hx438_0); (try rw [Addr.add_zero'] at hx438_0); have HR438_0 := Az hi438_0; have HC438_0 := Az hl438_0; clear hi438_0 hl438_0; replace p438 := eq_true p438; replace q438 := eq_true q438) | ((with_reducible refine gate_callee (f := 92) rfl ?_); refine goesL_ (some 10) rfl rfl Try.func92 (by kernel_rfl) rfl #[.slice A438_0 (rd_L1 l0 0).length c438_0] rfl (by (try simp only [List.map_toArray, List.map_cons, List.map_nil]); first | done | rfl | (simp only [List.length_drop, List.length_take]; rfl)) ?_; (with_reducible refine (spec_l5Sum.calls k _ _ (rd_L1 l0 0) t439 _ ?side1 ?side2 A5.out).mono ?_); (case side1 => exact cU (HR438_0.out)); (case side2 => exact HC438_0.out); rintro e w' ⟨rfl, ⟨nd, rfl⟩⟩; refine ⟨_, rfl, ?_⟩) | ((with_reducible refine gate_callee (f := 91) rfl ?_); refine goesL_ (some 11) rfl rfl Try.func91 (by kernel_rfl) rfl #[.int .i64 t439] rfl (by (try simp only [List.map_toArray, List.map_cons, List.map_nil]); first | done | rfl | (simp only [List.length_drop, List.length_take]; rfl)) ?_; (with_reducible refine (spec_l1Same.calls k t439 t440 _ A6.out).mono ?_); rintro e w8 ⟨v441, rfl, ho0, hb⟩; refine ⟨_, rfl, ?_⟩; have n0 := Az (Kd.R_lower ho0 (below_size (bU0 HB.out))); have n1 := Az (below_step (bU0 HB.out) hb); clear HB; have HO442 := n0; have HB := n1; clear n0 n1; (try clear hb); (try clear hb2); (try clear hk); (try clear hi); (try clear ho0); obtain ⟨Ao9, co9, eo9⟩ := Kd.R_slice HO442.out; subst eo9) | ((with_reducible refine gate_callee (f := 93) rfl ?_); refine goesL_ (some 15) rfl rfl Try.func93 (by kernel_rfl) rfl #[.slice (some ad438) l0.length c0, .int .i64 0, .slice Ao9 t440.length co9, .slice Ao9 t440.length co9, .bool false] rfl (by (try simp only [List.map_toArray, List.map_cons, List.map_nil]); first | done | rfl | (simp only [List.length_drop, List.length_take]; rfl)) ?_; (with_reducible refine (spec_l5Count.calls k _ _ l0 0 _ _ t440 _ _ t440 false t443 _ ?side1 ?side2 ?side3 ?side4 ?side5 ?side6 A7.out).mono ?_); (case side1 => exact cU (Kd.C_below HR0.out HB.out)); (case side2 => exact HC0.out); (case side3 => exact cU ((Kd.R_reads' HO442.out).2.2)); (case side4 => exact (Kd.R_reads' HO442.out).2.1); (case side5 => exact cU ((Kd.R_reads' HO442.out).2.2)); (case side6 => exact (Kd.R_reads' HO442.out).2.1); rintro e w10 ⟨rfl, hb⟩; refine ⟨_, rfl, ?_⟩; have n0 := Az (Kd.R_below (rU HO442.out) hb); have n1 := Az (below_step (bU0 HB.out) hb); clear HO442 HB; have HO442 := n0; have HB := n1; clear n0 n1; (try clear hb); (try clear hb2); (try clear hk); (try clear hi)))
   go_ret
   exact ⟨rE, bU0 HB.out⟩
  ·
   rw [if_neg c4] at H
   exact absurd H (by simp)
 ·
  replace c3 := Bool.eq_false_iff.mpr c3; subst c3
  have H1 : (some (-1)) = some r := by rw [if_neg (show ¬ (false = true) by decide)] at H; exact H
  clear H; have H := H1; clear H1; obtain rfl := Option.some.inj H
  go_enter Try.func39, Try.ntmps39
  go_wp2_with (first | ((with_reducible refine gate_callee (f := 90) rfl ?_); refine goesL_ (some 5) rfl rfl Try.func90 (by kernel_rfl) rfl #[.slice A0 l0.length c0] rfl (by (try simp only [List.map_toArray, List.map_cons, List.map_nil]); first | done | rfl | (simp only [List.length_drop, List.length_take]; rfl)) ?_; (with_reducible refine (spec_l5Small.calls k _ _ l0 false _ ?side1 ?side2 A2.out).mono ?_); (case side1 => exact cU (HR0.out)); (case side2 => exact HC0.out); rintro e w' ⟨rfl, ⟨nd, rfl⟩⟩; refine ⟨_, rfl, ?_⟩))
  go_ret
  exact ⟨rE, bU0 HB.out⟩
def impl_PartsValid.l0 : Nat → List Int → Int → List Int → Int → Int → Option (Bool)
 | 0, _, _, _, _, _ => none
 | k + 1, x0, x3, x6, x7, x8 => if x8 < x7 then (if 0 ≤ x8 then (if x8 < (x6.length : Int) then (if (rd x6 x8) < 1 then (some false) else (if (rd x6 x8) > 6 then (some false) else (if x8 > 0 then (if 0 ≤ (wrap64 (x8 - 1)) then (if (wrap64 (x8 - 1)) < (x0.length : Int) then (if (rd x6 x8) > (rd x0 (wrap64 (x8 - 1))) then (some false) else (impl_PartsValid.l0 k x0 (wrap64 (x3 + (rd x6 x8))) x6 x7 (wrap64 (x8 + 1)))) else (none)) else (none)) else (impl_PartsValid.l0 k x0 (wrap64 (x3 + (rd x6 x8))) x6 x7 (wrap64 (x8 + 1)))))) else (none)) else (none)) else (if x3 ≥ 1 then (some (decide (x3 ≤ 6))) else (some false))
def impl_PartsValid.f (k : Nat) (l0 : List Int) : Option (Bool) := impl_PartsValid.l0 k l0 0 l0 (l0.length : Int) 0
theorem impl_PartsValid.mono_l : ∀ k, (∀ y0 y1 y2 y3 y4, LeO (impl_PartsValid.l0 k y0 y1 y2 y3 y4) (impl_PartsValid.l0 (k + 1) y0 y1 y2 y3 y4))
 | 0 => fun _ _ _ _ _ r h => by simp [impl_PartsValid.l0] at h
 | k + 1 => by
  have ih0 := impl_PartsValid.mono_l k
  ·
   intro y0 y1 y2 y3 y4
   unfold impl_PartsValid.l0
   repeat' first
   | (with_reducible exact ih0 _ _ _ _ _)
   | (with_reducible exact LeO.refl _)
   | (with_reducible exact LeO.none _)
   | (with_reducible refine LeO.ite ?_ ?_)
   | (with_reducible refine LeO.bind ?_ (fun _ => ?_))
   | exact ih0 _ _ _ _ _
   | exact LeO.none _
   | refine LeO.ite ?_ ?_
   | refine LeO.bind ?_ (fun _ => ?_)
theorem impl_PartsValid.mono : ∀ a0 k, LeO (impl_PartsValid.f k a0) (impl_PartsValid.f (k + 1) a0) := by
 intro a0 k
 have ih0 := impl_PartsValid.mono_l k
 unfold impl_PartsValid.f
 repeat' first
   | (with_reducible exact ih0 _ _ _ _ _)
   | (with_reducible exact LeO.refl _)
   | (with_reducible exact LeO.none _)
   | (with_reducible refine LeO.ite ?_ ?_)
   | (with_reducible refine LeO.bind ?_ (fun _ => ?_))
   | exact ih0 _ _ _ _ _
   | exact LeO.none _
   | refine LeO.ite ?_ ?_
   | refine LeO.bind ?_ (fun _ => ?_)
set_option maxHeartbeats 8000000 in
set_option maxRecDepth 100000 in
theorem impl_PartsValid.calls (k : Nat) (A0 : Option Addr) (c0 : Nat) (l0 : List Int) (r : Bool) (w : World) (hr0 : Kd.C (Kd.int .i64) w A0 l0.length l0) (hc0 : l0.length ≤ c0) (h : impl_PartsValid.f k l0 = some r) :
  Calls Try.prog 102 #[.slice A0 l0.length c0] w fun e w' => e = .returned (.bool r) ∧ Drawn0 w w' := by
 have HR0 := Az hr0; have HC0 := Az hc0; clear hr0 hc0; have H : (impl_PartsValid.l0 k l0 0 l0 (l0.length : Int) 0) = some r := h; clear h; have H' := Az H; clear H
 go_enter Try.func102, Try.ntmps102
 go_wp2
 go_loopg [3, 8] k (fun kq v3 v8 w' => ∃ (x3_1 : Int) (x8_1 : Int), v3 = .int .i64 x3_1 ∧ v8 = .int .i64 x8_1 ∧ Aside0 (impl_PartsValid.l0 kq l0 x3_1 l0 (l0.length : Int) x8_1 = some r) ∧ Aside0 (kq ≤ k) ∧ Drawn0 w w')
 case atStart => exact ⟨(0), (0), rS, rS, H', ⟨Nat.le_refl _⟩, by repeat (first | exact Drawn0.refl _ | apply Drawn0.step)⟩
 case round =>
  clear H'; (try clear c1); obtain ⟨x3_1, x8_1, rfl, rfl, HA, HK1, ⟨m1, rfl⟩⟩ := hrel
  cases gk with
  | zero => exact absurd HA.out (by simp [impl_PartsValid.l0])
  | succ k1 =>
   have H := HA.out; clear HA; simp only [impl_PartsValid.l0] at H
   by_cases c2 : x8_1 < (l0.length : Int)
   ·
    rw [if_pos c2] at H; have c2b0 := decide_eq_true c2; clear c2
    by_cases c3 : 0 ≤ x8_1
    ·
     rw [if_pos c3] at H; have c3b0 := decide_eq_true c3; clear c3
     by_cases c4 : x8_1 < (l0.length : Int)
     ·
      rw [if_pos c4] at H; have c4b0 := decide_eq_true c4; clear c4
      by_cases c5 : (rd l0 x8_1) < 1
      ·
       rw [if_pos c5] at H; have c5b0 := decide_eq_true c5; clear c5; obtain rfl := Option.some.inj H; have p444 : 0 ≤ (x8_1 : Int) := oA; have q444 : x8_1 < (l0.length : Int) := oA; obtain ⟨ad444, e444, hx444_0⟩ := Kd.at_int HR0.out x8_1 p444 q444
       cases e444
       replace p444 := eq_true p444; replace q444 := eq_true q444
       go_wp2
       go_ret
       exact ⟨by first | rfl | (simp; done) | (simp [*]; done), by repeat (first | exact Drawn0.refl _ | apply Drawn0.step)⟩
      ·
       rw [if_neg c5] at H; have c5b0 := decide_eq_false c5; clear c5
       by_cases c6 : (rd l0 x8_1) > 6
       ·
        rw [if_pos c6] at H; have c6b0 := decide_eq_true c6; clear c6; obtain rfl := Option.some.inj H; have p444 : 0 ≤ (x8_1 : Int) := oA; have q444 : x8_1 < (l0.length : Int) := oA; obtain ⟨ad444, e444, hx444_0⟩ := Kd.at_int HR0.out x8_1 p444 q444
        cases e444
        replace p444 := eq_true p444; replace q444 := eq_true q444
        go_wp2
        go_ret
        exact ⟨by first | rfl | (simp; done) | (simp [*]; done), by repeat (first | exact Drawn0.refl _ | apply Drawn0.step)⟩
       ·
        rw [if_neg c6] at H; have c6b0 := decide_eq_false c6; clear c6
        by_cases c7 : x8_1 > 0
        ·
         rw [if_pos c7] at H; have c7b0 := decide_eq_true c7; clear c7; obtain ⟨ji8, hji8⟩ : ∃ j_ : Int, (wrap64 (x8_1 - 1)) = j_ := ⟨_, rfl⟩
         replace H : (if 0 ≤ (ji8) then (if (ji8) < (l0.length : Int) then (if (rd l0 x8_1) > (rd l0 (ji8)) then (some false) else (impl_PartsValid.l0 k1 l0 (wrap64 (x3_1 + (rd l0 x8_1))) l0 (l0.length : Int) (wrap64 (x8_1 + 1)))) else (none)) else (none)) = some r := by first | (rw [hji8] at H; exact H) | (simp only [hji8] at H ⊢; exact H)
         have hji8w : (IntKind.i64.wrap (x8_1 - 1)) = ji8 := (i64_w _).trans hji8
         by_cases c9 : 0 ≤ (ji8)
         ·
          rw [if_pos c9] at H; have c9b0 := decide_eq_true c9; clear c9
          by_cases c10 : (ji8) < (l0.length : Int)
          ·
           rw [if_pos c10] at H; have c10b0 := decide_eq_true c10; clear c10
           by_cases c11 : (rd l0 x8_1) > (rd l0 (ji8))
           ·
            rw [if_pos c11] at H; have c11b0 := decide_eq_true c11; clear c11; obtain rfl := Option.some.inj H; have p444 : 0 ≤ (x8_1 : Int) := oA; have q444 : x8_1 < (l0.length : Int) := oA; obtain ⟨ad444, e444, hx444_0⟩ := Kd.at_int HR0.out x8_1 p444 q444
            cases e444
            replace p444 := eq_true p444; replace q444 := eq_true q444; have p445 : 0 ≤ ((ji8) : Int) := oA; have q445 : (ji8) < (l0.length : Int) := oA; obtain ⟨ad445, e445, hx445_0⟩ := Kd.at_int HR0.out (ji8) p445 q445; obtain rfl : ad444 = ad445 := (by injection e445); replace p445 := eq_true p445; replace q445 := eq_true q445
            go_wp2
            go_ret
            exact ⟨by first | rfl | (simp; done) | (simp only [← hji8] <;> (first | rfl | simp)) | (simp [*]; done), by repeat (first | exact Drawn0.refl _ | apply Drawn0.step)⟩
           ·
            rw [if_neg c11] at H; have c11b0 := decide_eq_false c11; clear c11; have H' := Az H; clear H; have p444 : 0 ≤ (x8_1 : Int) := oA; have q444 : x8_1 < (l0.length : Int) := oA; obtain ⟨ad444, e444, hx444_0⟩ := Kd.at_int HR0.out x8_1 p444 q444
            cases e444
            replace p444 := eq_true p444; replace q444 := eq_true q444; have p445 : 0 ≤ ((ji8) : Int) := oA; have q445 : (ji8) < (l0.length : Int) := oA; obtain ⟨ad445, e445, hx445_0⟩ := Kd.at_int HR0.out (ji8) p445 q445; obtain rfl : ad444 = ad445 := (by injection e445); replace p445 := eq_true p445; replace q445 := eq_true q445
            go_wp2
            (first | go_roundg k1 | (refine Handed.intro k1 ?measure ?_; rotate_left; go_step; (try simp only [add_plain]); (repeat apply Exists.intro); refine ⟨?rel, rfl⟩))
            case measure => have := HK1.out; omega
            case rel => exact ⟨(wrap64 (x3_1 + (rd l0 x8_1))), (wrap64 (x8_1 + 1)), rS, rS, H', ⟨by have := HK1.out; omega⟩, by repeat (first | exact Drawn0.refl _ | apply Drawn0.step)⟩
          ·
           rw [if_neg c10] at H
           exact absurd H (by simp)
         ·
          rw [if_neg c9] at H
          exact absurd H (by simp)
        ·
         rw [if_neg c7] at H; have c7b0 := decide_eq_false c7; clear c7; have H' := Az H; clear H; have p444 : 0 ≤ (x8_1 : Int) := oA; have q444 : x8_1 < (l0.length : Int) := oA; obtain ⟨ad444, e444, hx444_0⟩ := Kd.at_int HR0.out x8_1 p444 q444
         cases e444
         replace p444 := eq_true p444; replace q444 := eq_true q444
         go_wp2
         (first | go_roundg k1 | (refine Handed.intro k1 ?measure ?_; rotate_left; go_step; (try simp only [add_plain]); (repeat apply Exists.intro); refine ⟨?rel, rfl⟩))
         case measure => have := HK1.out; omega
         case rel => exact ⟨(wrap64 (x3_1 + (rd l0 x8_1))), (wrap64 (x8_1 + 1)), rS, rS, H', ⟨by have := HK1.out; omega⟩, by repeat (first | exact Drawn0.refl _ | apply Drawn0.step)⟩
     ·
      rw [if_neg c4] at H
      exact absurd H (by simp)
    ·
     rw [if_neg c3] at H
     exact absurd H (by simp)
   ·
    rw [if_neg c2] at H; have c2b0 := decide_eq_false c2; clear c2
    by_cases c12 : x3_1 ≥ 1
    ·
     rw [if_pos c12] at H; have c12b0 := decide_eq_true c12; clear c12; obtain rfl := Option.some.inj H
     go_wp2
     go_ret
     exact ⟨by first | rfl | (simp; done) | (simp [*]; done), by repeat (first | exact Drawn0.refl _ | apply Drawn0.step)⟩
    ·
     rw [if_neg c12] at H; have c12b0 := decide_eq_false c12; clear c12; obtain rfl := Option.some.inj H
     go_wp2
     go_ret
     exact ⟨by first | rfl | (simp; done) | (simp [*]; done), by repeat (first | exact Drawn0.refl _ | apply Drawn0.step)⟩
def impl_sumOf.l0 : Nat → Int → List Int → Int → Int → Option (Int)
 | 0, _, _, _, _ => none
 | k + 1, x3, x6, x7, x8 => if x8 < x7 then (if 0 ≤ x8 then (if x8 < (x6.length : Int) then (impl_sumOf.l0 k (wrap64 (x3 + (rd x6 x8))) x6 x7 (wrap64 (x8 + 1))) else (none)) else (none)) else (some x3)
def impl_sumOf.f (k : Nat) (l0 : List Int) : Option (Int) := impl_sumOf.l0 k 0 l0 (l0.length : Int) 0
theorem impl_sumOf.mono_l : ∀ k, (∀ y0 y1 y2 y3, LeO (impl_sumOf.l0 k y0 y1 y2 y3) (impl_sumOf.l0 (k + 1) y0 y1 y2 y3))
 | 0 => fun _ _ _ _ r h => by simp [impl_sumOf.l0] at h
 | k + 1 => by
  have ih0 := impl_sumOf.mono_l k
  ·
   intro y0 y1 y2 y3
   unfold impl_sumOf.l0
   repeat' first
   | (with_reducible exact ih0 _ _ _ _)
   | (with_reducible exact LeO.refl _)
   | (with_reducible exact LeO.none _)
   | (with_reducible refine LeO.ite ?_ ?_)
   | (with_reducible refine LeO.bind ?_ (fun _ => ?_))
   | exact ih0 _ _ _ _
   | exact LeO.none _
   | refine LeO.ite ?_ ?_
   | refine LeO.bind ?_ (fun _ => ?_)
theorem impl_sumOf.mono : ∀ a0 k, LeO (impl_sumOf.f k a0) (impl_sumOf.f (k + 1) a0) := by
 intro a0 k
 have ih0 := impl_sumOf.mono_l k
 unfold impl_sumOf.f
 repeat' first
   | (with_reducible exact ih0 _ _ _ _)
   | (with_reducible exact LeO.refl _)
   | (with_reducible exact LeO.none _)
   | (with_reducible refine LeO.ite ?_ ?_)
   | (with_reducible refine LeO.bind ?_ (fun _ => ?_))
   | exact ih0 _ _ _ _
   | exact LeO.none _
   | refine LeO.ite ?_ ?_
   | refine LeO.bind ?_ (fun _ => ?_)
set_option maxHeartbeats 8000000 in
set_option maxRecDepth 100000 in
theorem impl_sumOf.calls (k : Nat) (A0 : Option Addr) (c0 : Nat) (l0 : List Int) (r : Int) (w : World) (hr0 : Kd.C (Kd.int .i64) w A0 l0.length l0) (hc0 : l0.length ≤ c0) (h : impl_sumOf.f k l0 = some r) :
  Calls Try.prog 103 #[.slice A0 l0.length c0] w fun e w' => e = .returned (.int .i64 r) ∧ Drawn0 w w' := by
 have HR0 := Az hr0; have HC0 := Az hc0; clear hr0 hc0; have H : (impl_sumOf.l0 k 0 l0 (l0.length : Int) 0) = some r := h; clear h; have H' := Az H; clear H
 go_enter Try.func103, Try.ntmps103
 go_wp2
 go_loopg [3, 8] k (fun kq v3 v8 w' => ∃ (x3_1 : Int) (x8_1 : Int), v3 = .int .i64 x3_1 ∧ v8 = .int .i64 x8_1 ∧ Aside0 (impl_sumOf.l0 kq x3_1 l0 (l0.length : Int) x8_1 = some r) ∧ Aside0 (kq ≤ k) ∧ Drawn0 w w')
 case atStart => exact ⟨(0), (0), rS, rS, H', ⟨Nat.le_refl _⟩, by repeat (first | exact Drawn0.refl _ | apply Drawn0.step)⟩
 case round =>
  clear H'; (try clear c1); obtain ⟨x3_1, x8_1, rfl, rfl, HA, HK1, ⟨m1, rfl⟩⟩ := hrel
  cases gk with
  | zero => exact absurd HA.out (by simp [impl_sumOf.l0])
  | succ k1 =>
   have H := HA.out; clear HA; simp only [impl_sumOf.l0] at H
   by_cases c2 : x8_1 < (l0.length : Int)
   ·
    rw [if_pos c2] at H; have c2b0 := decide_eq_true c2; clear c2
    by_cases c3 : 0 ≤ x8_1
    ·
     rw [if_pos c3] at H; have c3b0 := decide_eq_true c3; clear c3
     by_cases c4 : x8_1 < (l0.length : Int)
     ·
      rw [if_pos c4] at H; have c4b0 := decide_eq_true c4; clear c4; have H' := Az H; clear H; have p446 : 0 ≤ (x8_1 : Int) := oA; have q446 : x8_1 < (l0.length : Int) := oA; obtain ⟨ad446, e446, hx446_0⟩ := Kd.at_int HR0.out x8_1 p446 q446
      cases e446
      replace p446 := eq_true p446; replace q446 := eq_true q446
      go_wp2
      (first | go_roundg k1 | (refine Handed.intro k1 ?measure ?_; rotate_left; go_step; (try simp only [add_plain]); (repeat apply Exists.intro); refine ⟨?rel, rfl⟩))
      case measure => have := HK1.out; omega
      case rel => exact ⟨(wrap64 (x3_1 + (rd l0 x8_1))), (wrap64 (x8_1 + 1)), rS, rS, H', ⟨by have := HK1.out; omega⟩, by repeat (first | exact Drawn0.refl _ | apply Drawn0.step)⟩
     ·
      rw [if_neg c4] at H
      exact absurd H (by simp)
    ·
     rw [if_neg c3] at H
     exact absurd H (by simp)
   ·
    rw [if_neg c2] at H; have c2b0 := decide_eq_false c2; clear c2; obtain rfl := Option.some.inj H
    go_wp2
    go_ret
    exact ⟨by first | rfl | (simp; done) | (simp [*]; done), by repeat (first | exact Drawn0.refl _ | apply Drawn0.step)⟩
mutual
def impl_typesSum.j0 : Nat → List (List Int) → Bool → Option (Int)
 | 0, _, _ => none
 | k + 1, x0, x12 => if x12 = true then (some (-1)) else (impl_typesSum.l0 k x0 x0 (x0.length : Int) 0)
def impl_typesSum.l0 : Nat → List (List Int) → List (List Int) → Int → Int → Option (Int)
 | 0, _, _, _, _ => none
 | k + 1, x0, x13, x14, x15 => if x15 < x14 then (if 0 ≤ x15 then (if x15 < (x13.length : Int) then ((impl_PartsValid.f k (rd_L1 x13 x15)).bind fun t450 => (if t450 = true then ((impl_sumOf.f k (rd_L1 x13 x15)).bind fun t451 => (if 0 < (x0.length : Int) then ((impl_sumOf.f k (rd_L1 x0 0)).bind fun t453 => (if t451 = t453 then (impl_typesSum.l0 k x0 x13 x14 (wrap64 (x15 + 1))) else (some (-1)))) else (none))) else (some (-1)))) else (none)) else (none)) else (if 0 < (x0.length : Int) then ((impl_sumOf.f k (rd_L1 x0 0)).bind fun t448 => (some t448)) else (none))
end
def impl_typesSum.f (k : Nat) (l0 : List (List Int)) : Option (Int) := if (l0.length : Int) < 1 then (impl_typesSum.j0 k l0 true) else (impl_typesSum.j0 k l0 (decide ((l0.length : Int) > 6)))
set_option maxHeartbeats 8000000 in
set_option maxRecDepth 100000 in
theorem impl_typesSum.calls (k : Nat) (A0 : Option Addr) (c0 : Nat) (l0 : List (List Int)) (r : Int) (w : World) (hr0 : Kd.C (Kd.slice 3 (Kd.int .i64)) w A0 l0.length l0) (hc0 : l0.length ≤ c0) (h : impl_typesSum.f k l0 = some r) :
  Calls Try.prog 94 #[.slice A0 l0.length c0] w fun e w' => e = .returned (.int .i64 r) ∧ Drawn0 w w' := by
 have HR0 := Az hr0; have HC0 := Az hc0; clear hr0 hc0; have H : (if (l0.length : Int) < 1 then (impl_typesSum.j0 k l0 true) else (impl_typesSum.j0 k l0 (decide ((l0.length : Int) > 6)))) = some r := h; clear h; have HC2 := Az H; clear H
 go_enter Try.func94, Try.ntmps94
 go_upto_region 1 with (fail)
 repeat (go_quiet (fail); go_upto_region 1 with (fail))
 go_cut [12] (fun v12 wc => ∃ (kq : Nat) (x12_1 : Bool), v12 = .bool x12_1 ∧ Aside0 (impl_typesSum.j0 kq l0 x12_1 = some r) ∧ Aside0 (kq ≤ k) ∧ Drawn0 w wc)
 case first =>
  have H := HC2.out; clear HC2
  by_cases c3 : (l0.length : Int) < 1
  ·
   rw [if_pos c3] at H; have c3b0 := decide_eq_true c3; have c3b1 : decide (l0.length < 1) = true := decide_eq_true (by omega); clear c3; (first | rw [c3b0] | (simp only [i64_w, i32_w]; rw [c3b0]) | skip); have H' := Az H; clear H
   go_wp2
   repeat (go_quiet (fail); try go_wp2)
   go_meet
   case rel => exact ⟨_, (true), rS, H', ⟨by first | omega | exact Nat.le_refl _⟩, by repeat (first | exact Drawn0.refl _ | apply Drawn0.step)⟩
  ·
   rw [if_neg c3] at H; have c3b0 := decide_eq_false c3; have c3b1 : decide (l0.length < 1) = false := decide_eq_false (by omega); clear c3; (first | rw [c3b0] | (simp only [i64_w, i32_w]; rw [c3b0]) | skip); have H' := Az H; clear H
   go_wp2
   repeat (go_quiet (fail); try go_wp2)
   go_meet
   case rel => exact ⟨_, (decide ((l0.length : Int) > 6)), rS, H', ⟨by first | omega | exact Nat.le_refl _⟩, by repeat (first | exact Drawn0.refl _ | apply Drawn0.step)⟩
 case rest =>
  clear HC2; (try clear p2); (try clear c3); (try clear c3b0); (try clear c3b1); obtain ⟨kq, x12_1, rfl, HA, HJ1, ⟨mc1, rfl⟩⟩ := hcut
  cases kq with
  | zero => exact absurd HA.out (by simp [impl_typesSum.j0])
  | succ kj1 =>
   have H := HA.out; clear HA; simp only [impl_typesSum.j0] at H
   by_cases c4 : x12_1 = true
   ·
    subst c4
    have H1 : (some (-1)) = some r := by rw [if_pos rfl] at H; exact H
    clear H; have H := H1; clear H1; obtain rfl := Option.some.inj H
    go_wp2
    repeat (go_quiet (fail); try go_wp2)
    go_ret
    exact ⟨by first | rfl | (simp; done) | (simp [*]; done), by repeat (first | exact Drawn0.refl _ | apply Drawn0.step)⟩
   ·
    replace c4 := Bool.eq_false_iff.mpr c4; subst c4
    have H1 : (impl_typesSum.l0 kj1 l0 l0 (l0.length : Int) 0) = some r := by rw [if_neg (show ¬ (false = true) by decide)] at H; exact H
    clear H; have H := H1; clear H1; have H' := Az H; clear H
    go_wp2
    repeat (go_quiet (fail); try go_wp2)
    go_loopg [15] kj1 (fun kq v15 w' => ∃ (x15_2 : Int), v15 = .int .i64 x15_2 ∧ Aside0 (impl_typesSum.l0 kq l0 l0 (l0.length : Int) x15_2 = some r) ∧ Aside0 (kq ≤ kj1) ∧ Drawn0 w w')
    case atStart => exact ⟨(0), rS, H', ⟨Nat.le_refl _⟩, by repeat (first | exact Drawn0.refl _ | apply Drawn0.step)⟩
    case round =>
     clear H'; (try clear c1); (try clear p2); (try clear c3); (try clear c3b0); (try clear c3b1); (try clear c4); (try clear p2); obtain ⟨x15_2, rfl, HA, HK2, ⟨m2, rfl⟩⟩ := hrel
     cases gk with
     | zero => exact absurd HA.out (by simp [impl_typesSum.l0])
     | succ k2 =>
      have H := HA.out; clear HA; simp only [impl_typesSum.l0] at H
      by_cases c5 : x15_2 < (l0.length : Int)
      ·
       rw [if_pos c5] at H; have c5b0 := decide_eq_true c5; clear c5
       by_cases c6 : 0 ≤ x15_2
       ·
        rw [if_pos c6] at H; have c6b0 := decide_eq_true c6; clear c6
        by_cases c7 : x15_2 < (l0.length : Int)
        ·
         rw [if_pos c7] at H; have c7b0 := decide_eq_true c7; clear c7; replace H := Option.bind_eq_some_iff.mp H; obtain ⟨t450, A80, H⟩ := H; replace H : (if t450 = true then ((impl_sumOf.f k2 (rd_L1 l0 x15_2)).bind fun t451 => (if 0 < (l0.length : Int) then ((impl_sumOf.f k2 (rd_L1 l0 0)).bind fun t453 => (if t451 = t453 then (impl_typesSum.l0 k2 l0 l0 (l0.length : Int) (wrap64 (x15_2 + 1))) else (some (-1)))) else (none))) else (some (-1))) = some r := H; have A8 := Az A80; clear A80
         by_cases c9 : t450 = true
         ·
          subst c9
          have H1 : ((impl_sumOf.f k2 (rd_L1 l0 x15_2)).bind fun t451 => (if 0 < (l0.length : Int) then ((impl_sumOf.f k2 (rd_L1 l0 0)).bind fun t453 => (if t451 = t453 then (impl_typesSum.l0 k2 l0 l0 (l0.length : Int) (wrap64 (x15_2 + 1))) else (some (-1)))) else (none))) = some r := by rw [if_pos rfl] at H; exact H
          clear H; have H := H1; clear H1; replace H := Option.bind_eq_some_iff.mp H; obtain ⟨t451, A100, H⟩ := H; replace H : (if 0 < (l0.length : Int) then ((impl_sumOf.f k2 (rd_L1 l0 0)).bind fun t453 => (if t451 = t453 then (impl_typesSum.l0 k2 l0 l0 (l0.length : Int) (wrap64 (x15_2 + 1))) else (some (-1)))) else (none)) = some r := H; have A10 := Az A100; clear A100
          by_cases c11 : 0 < (l0.length : Int)
          ·
           rw [if_pos c11] at H; have c11b0 := decide_eq_true c11; have c11b1 : decide (0 < l0.length) = true := decide_eq_true (by omega); clear c11; replace H := Option.bind_eq_some_iff.mp H; obtain ⟨t453, A120, H⟩ := H; replace H : (if t451 = t453 then (impl_typesSum.l0 k2 l0 l0 (l0.length : Int) (wrap64 (x15_2 + 1))) else (some (-1))) = some r := H; have A12 := Az A120; clear A120
           by_cases c13 : t451 = t453
           ·
            rw [if_pos c13] at H; have c13b0 := beq_iff_eq.mpr c13; have c13b1 := bne_eq_false_iff_eq.mpr c13; clear c13; have H' := Az H; clear H; have p449 : 0 ≤ (x15_2 : Int) := oA; have q449 : x15_2 < (l0.length : Int) := oA; obtain ⟨ad449, A449_0, c449_0, e449, hx449_0, hl449_0, hi449_0⟩ := at_L1 HR0.out x15_2 p449 q449
            cases e449
            have HR449_0 := Az hi449_0; have HC449_0 := Az hl449_0; clear hi449_0 hl449_0; replace p449 := eq_true p449; replace q449 := eq_true q449
            go_wp2_with (first | (go_at_call 102; (with_reducible refine (impl_PartsValid.calls k2 _ _ (rd_L1 l0 x15_2) true _ ?side1 ?side2 A8.out).mono ?_); (case side1 => exact cU (HR449_0.out)); (case side2 => exact HC449_0.out); rintro e w' ⟨rfl, ⟨nd, rfl⟩⟩; (try first | exact ⟨rfl, _, World.drewN_drewN _ _ _⟩ | exact ⟨rfl, _, Eq.trans (World.drewN_drewN _ _ _) (congrArg (World.drewN _) (Nat.add_assoc _ _ _))⟩)) | (go_at_call 103; (with_reducible refine (impl_sumOf.calls k2 _ _ (rd_L1 l0 x15_2) t451 _ ?side1 ?side2 A10.out).mono ?_); (case side1 => exact cU (HR449_0.out)); (case side2 => exact HC449_0.out); rintro e w' ⟨rfl, ⟨nd, rfl⟩⟩; (try first | exact ⟨rfl, _, World.drewN_drewN _ _ _⟩ | exact ⟨rfl, _, Eq.trans (World.drewN_drewN _ _ _) (congrArg (World.drewN _) (Nat.add_assoc _ _ _))⟩); have p452 : 0 ≤ (0 : Int) := (by omega); have q452 : 0 < (l0.length : Int) := oA; obtain ⟨ad452, A452_0, c452_0, e452, hx452_0, hl452_0, hi452_0⟩ := at_L1 HR0.out 0 p452 q452; obtain rfl : ad449 = ad452 := (by injection e452); have qi452 : (0 < l0.length) = True := eq_true (by omega); (try rw [show ((0 : Int)).toNat = 0 from rfl] at hx452_0); (try rw [Addr.add_zero'] at hx452_0); have HR452_0 := Az hi452_0; have HC452_0 := Az hl452_0; clear hi452_0 hl452_0; replace p452 := eq_true p452; replace q452 := eq_true q452) | (go_at_call 103; (with_reducible refine (impl_sumOf.calls k2 _ _ (rd_L1 l0 0) t453 _ ?side1 ?side2 A12.out).mono ?_); (case side1 => exact cU (HR452_0.out)); (case side2 => exact HC452_0.out); rintro e w' ⟨rfl, ⟨nd, rfl⟩⟩; (try first | exact ⟨rfl, _, World.drewN_drewN _ _ _⟩ | exact ⟨rfl, _, Eq.trans (World.drewN_drewN _ _ _) (congrArg (World.drewN _) (Nat.add_assoc _ _ _))⟩)))
            repeat (go_quiet (first | (go_at_call 102; (try simp only [Go.IntWalk.i64_left]); (with_reducible refine (impl_PartsValid.calls k2 _ _ (rd_L1 l0 x15_2) true _ ?side1 ?side2 A8.out).mono ?_); (case side1 => exact cU (HR449_0.out)); (case side2 => exact HC449_0.out); rintro e w' ⟨rfl, ⟨nd, rfl⟩⟩; (try first | exact ⟨rfl, _, World.drewN_drewN _ _ _⟩ | exact ⟨rfl, _, Eq.trans (World.drewN_drewN _ _ _) (congrArg (World.drewN _) (Nat.add_assoc _ _ _))⟩)) | (go_at_call 103; (try simp only [Go.IntWalk.i64_left]); (with_reducible refine (impl_sumOf.calls k2 _ _ (rd_L1 l0 x15_2) t451 _ ?side1 ?side2 A10.out).mono ?_); (case side1 => exact cU (HR449_0.out)); (case side2 => exact HC449_0.out); rintro e w' ⟨rfl, ⟨nd, rfl⟩⟩; (try first | exact ⟨rfl, _, World.drewN_drewN _ _ _⟩ | exact ⟨rfl, _, Eq.trans (World.drewN_drewN _ _ _) (congrArg (World.drewN _) (Nat.add_assoc _ _ _))⟩); have p452 : 0 ≤ (0 : Int) := (by omega); have q452 : 0 < (l0.length : Int) := oA; obtain ⟨ad452, A452_0, c452_0, e452, hx452_0, hl452_0, hi452_0⟩ := at_L1 HR0.out 0 p452 q452; obtain rfl : ad449 = ad452 := (by injection e452); have qi452 : (0 < l0.length) = True := eq_true (by omega); (try rw [show ((0 : Int)).toNat = 0 from rfl] at hx452_0); (try rw [Addr.add_zero'] at hx452_0); have HR452_0 := Az hi452_0; have HC452_0 := Az hl452_0; clear hi452_0 hl452_0; replace p452 := eq_true p452; replace q452 := eq_true q452) | (go_at_call 103; (try simp only [Go.IntWalk.i64_left]); (with_reducible refine (impl_sumOf.calls k2 _ _ (rd_L1 l0 0) t453 _ ?side1 ?side2 A12.out).mono ?_); (case side1 => exact cU (HR452_0.out)); (case side2 => exact HC452_0.out); rintro e w' ⟨rfl, ⟨nd, rfl⟩⟩; (try first | exact ⟨rfl, _, World.drewN_drewN _ _ _⟩ | exact ⟨rfl, _, Eq.trans (World.drewN_drewN _ _ _) (congrArg (World.drewN _) (Nat.add_assoc _ _ _))⟩))); try go_wp2_with (first | (go_at_call 102; (try simp only [Go.IntWalk.i64_left]); (with_reducible refine (impl_PartsValid.calls k2 _ _ (rd_L1 l0 x15_2) true _ ?side1 ?side2 A8.out).mono ?_); (case side1 => exact cU (HR449_0.out)); (case side2 => exact HC449_0.out); rintro e w' ⟨rfl, ⟨nd, rfl⟩⟩; (try first | exact ⟨rfl, _, World.drewN_drewN _ _ _⟩ | exact ⟨rfl, _, Eq.trans (World.drewN_drewN _ _ _) (congrArg (World.drewN _) (Nat.add_assoc _ _ _))⟩)) | (go_at_call 103; (try simp only [Go.IntWalk.i64_left]); (with_reducible refine (impl_sumOf.calls k2 _ _ (rd_L1 l0 x15_2) t451 _ ?side1 ?side2 A10.out).mono ?_); (case side1 => exact cU (HR449_0.out)); (case side2 => exact HC449_0.out); rintro e w' ⟨rfl, ⟨nd, rfl⟩⟩; (try first | exact ⟨rfl, _, World.drewN_drewN _ _ _⟩ | exact ⟨rfl, _, Eq.trans (World.drewN_drewN _ _ _) (congrArg (World.drewN _) (Nat.add_assoc _ _ _))⟩); have p452 : 0 ≤ (0 : Int) := (by omega); have q452 : 0 < (l0.length : Int) := oA; obtain ⟨ad452, A452_0, c452_0, e452, hx452_0, hl452_0, hi452_0⟩ := at_L1 HR0.out 0 p452 q452; obtain rfl : ad449 = ad452 := (by injection e452); have qi452 : (0 < l0.length) = True := eq_true (by omega); (try rw [show ((0 : Int)).toNat = 0 from rfl] at hx452_0); (try rw [Addr.add_zero'] at hx452_0); have HR452_0 := Az hi452_0; have HC452_0 := Az hl452_0; clear hi452_0 hl452_0; replace p452 := eq_true p452; replace q452 := eq_true q452) | (go_at_call 103; (try simp only [Go.IntWalk.i64_left]); (with_reducible refine (impl_sumOf.calls k2 _ _ (rd_L1 l0 0) t453 _ ?side1 ?side2 A12.out).mono ?_); (case side1 => exact cU (HR452_0.out)); (case side2 => exact HC452_0.out); rintro e w' ⟨rfl, ⟨nd, rfl⟩⟩; (try first | exact ⟨rfl, _, World.drewN_drewN _ _ _⟩ | exact ⟨rfl, _, Eq.trans (World.drewN_drewN _ _ _) (congrArg (World.drewN _) (Nat.add_assoc _ _ _))⟩))))
            (first | go_roundg k2 | (refine Handed.intro k2 ?measure ?_; rotate_left; go_step; (try simp only [add_plain]); (repeat apply Exists.intro); refine ⟨?rel, rfl⟩))
            case measure => have := HJ1.out; have := HK2.out; omega
            case rel => exact ⟨(wrap64 (x15_2 + 1)), rS, H', ⟨by have := HJ1.out; have := HK2.out; omega⟩, by repeat (first | exact Drawn0.refl _ | apply Drawn0.step)⟩
           ·
            rw [if_neg c13] at H; have c13b0 := beq_eq_false_iff_ne.mpr c13; have c13b1 := bne_iff_ne.mpr c13; obtain rfl := Option.some.inj H; have p449 : 0 ≤ (x15_2 : Int) := oA; have q449 : x15_2 < (l0.length : Int) := oA; obtain ⟨ad449, A449_0, c449_0, e449, hx449_0, hl449_0, hi449_0⟩ := at_L1 HR0.out x15_2 p449 q449
            cases e449
            have HR449_0 := Az hi449_0; have HC449_0 := Az hl449_0; clear hi449_0 hl449_0; replace p449 := eq_true p449; replace q449 := eq_true q449
            go_wp2_with (first | (go_at_call 102; (with_reducible refine (impl_PartsValid.calls k2 _ _ (rd_L1 l0 x15_2) true _ ?side1 ?side2 A8.out).mono ?_); (case side1 => exact cU (HR449_0.out)); (case side2 => exact HC449_0.out); rintro e w' ⟨rfl, ⟨nd, rfl⟩⟩; (try first | exact ⟨rfl, _, World.drewN_drewN _ _ _⟩ | exact ⟨rfl, _, Eq.trans (World.drewN_drewN _ _ _) (congrArg (World.drewN _) (Nat.add_assoc _ _ _))⟩)) | (go_at_call 103; (with_reducible refine (impl_sumOf.calls k2 _ _ (rd_L1 l0 x15_2) t451 _ ?side1 ?side2 A10.out).mono ?_); (case side1 => exact cU (HR449_0.out)); (case side2 => exact HC449_0.out); rintro e w' ⟨rfl, ⟨nd, rfl⟩⟩; (try first | exact ⟨rfl, _, World.drewN_drewN _ _ _⟩ | exact ⟨rfl, _, Eq.trans (World.drewN_drewN _ _ _) (congrArg (World.drewN _) (Nat.add_assoc _ _ _))⟩); have p452 : 0 ≤ (0 : Int) := (by omega); have q452 : 0 < (l0.length : Int) := oA; obtain ⟨ad452, A452_0, c452_0, e452, hx452_0, hl452_0, hi452_0⟩ := at_L1 HR0.out 0 p452 q452; obtain rfl : ad449 = ad452 := (by injection e452); have qi452 : (0 < l0.length) = True := eq_true (by omega); (try rw [show ((0 : Int)).toNat = 0 from rfl] at hx452_0); (try rw [Addr.add_zero'] at hx452_0); have HR452_0 := Az hi452_0; have HC452_0 := Az hl452_0; clear hi452_0 hl452_0; replace p452 := eq_true p452; replace q452 := eq_true q452) | (go_at_call 103; (with_reducible refine (impl_sumOf.calls k2 _ _ (rd_L1 l0 0) t453 _ ?side1 ?side2 A12.out).mono ?_); (case side1 => exact cU (HR452_0.out)); (case side2 => exact HC452_0.out); rintro e w' ⟨rfl, ⟨nd, rfl⟩⟩; (try first | exact ⟨rfl, _, World.drewN_drewN _ _ _⟩ | exact ⟨rfl, _, Eq.trans (World.drewN_drewN _ _ _) (congrArg (World.drewN _) (Nat.add_assoc _ _ _))⟩)))
            repeat (go_quiet (first | (go_at_call 102; (try simp only [Go.IntWalk.i64_left]); (with_reducible refine (impl_PartsValid.calls k2 _ _ (rd_L1 l0 x15_2) true _ ?side1 ?side2 A8.out).mono ?_); (case side1 => exact cU (HR449_0.out)); (case side2 => exact HC449_0.out); rintro e w' ⟨rfl, ⟨nd, rfl⟩⟩; (try first | exact ⟨rfl, _, World.drewN_drewN _ _ _⟩ | exact ⟨rfl, _, Eq.trans (World.drewN_drewN _ _ _) (congrArg (World.drewN _) (Nat.add_assoc _ _ _))⟩)) | (go_at_call 103; (try simp only [Go.IntWalk.i64_left]); (with_reducible refine (impl_sumOf.calls k2 _ _ (rd_L1 l0 x15_2) t451 _ ?side1 ?side2 A10.out).mono ?_); (case side1 => exact cU (HR449_0.out)); (case side2 => exact HC449_0.out); rintro e w' ⟨rfl, ⟨nd, rfl⟩⟩; (try first | exact ⟨rfl, _, World.drewN_drewN _ _ _⟩ | exact ⟨rfl, _, Eq.trans (World.drewN_drewN _ _ _) (congrArg (World.drewN _) (Nat.add_assoc _ _ _))⟩); have p452 : 0 ≤ (0 : Int) := (by omega); have q452 : 0 < (l0.length : Int) := oA; obtain ⟨ad452, A452_0, c452_0, e452, hx452_0, hl452_0, hi452_0⟩ := at_L1 HR0.out 0 p452 q452; obtain rfl : ad449 = ad452 := (by injection e452); have qi452 : (0 < l0.length) = True := eq_true (by omega); (try rw [show ((0 : Int)).toNat = 0 from rfl] at hx452_0); (try rw [Addr.add_zero'] at hx452_0); have HR452_0 := Az hi452_0; have HC452_0 := Az hl452_0; clear hi452_0 hl452_0; replace p452 := eq_true p452; replace q452 := eq_true q452) | (go_at_call 103; (try simp only [Go.IntWalk.i64_left]); (with_reducible refine (impl_sumOf.calls k2 _ _ (rd_L1 l0 0) t453 _ ?side1 ?side2 A12.out).mono ?_); (case side1 => exact cU (HR452_0.out)); (case side2 => exact HC452_0.out); rintro e w' ⟨rfl, ⟨nd, rfl⟩⟩; (try first | exact ⟨rfl, _, World.drewN_drewN _ _ _⟩ | exact ⟨rfl, _, Eq.trans (World.drewN_drewN _ _ _) (congrArg (World.drewN _) (Nat.add_assoc _ _ _))⟩))); try go_wp2_with (first | (go_at_call 102; (try simp only [Go.IntWalk.i64_left]); (with_reducible refine (impl_PartsValid.calls k2 _ _ (rd_L1 l0 x15_2) true _ ?side1 ?side2 A8.out).mono ?_); (case side1 => exact cU (HR449_0.out)); (case side2 => exact HC449_0.out); rintro e w' ⟨rfl, ⟨nd, rfl⟩⟩; (try first | exact ⟨rfl, _, World.drewN_drewN _ _ _⟩ | exact ⟨rfl, _, Eq.trans (World.drewN_drewN _ _ _) (congrArg (World.drewN _) (Nat.add_assoc _ _ _))⟩)) | (go_at_call 103; (try simp only [Go.IntWalk.i64_left]); (with_reducible refine (impl_sumOf.calls k2 _ _ (rd_L1 l0 x15_2) t451 _ ?side1 ?side2 A10.out).mono ?_); (case side1 => exact cU (HR449_0.out)); (case side2 => exact HC449_0.out); rintro e w' ⟨rfl, ⟨nd, rfl⟩⟩; (try first | exact ⟨rfl, _, World.drewN_drewN _ _ _⟩ | exact ⟨rfl, _, Eq.trans (World.drewN_drewN _ _ _) (congrArg (World.drewN _) (Nat.add_assoc _ _ _))⟩); have p452 : 0 ≤ (0 : Int) := (by omega); have q452 : 0 < (l0.length : Int) := oA; obtain ⟨ad452, A452_0, c452_0, e452, hx452_0, hl452_0, hi452_0⟩ := at_L1 HR0.out 0 p452 q452; obtain rfl : ad449 = ad452 := (by injection e452); have qi452 : (0 < l0.length) = True := eq_true (by omega); (try rw [show ((0 : Int)).toNat = 0 from rfl] at hx452_0); (try rw [Addr.add_zero'] at hx452_0); have HR452_0 := Az hi452_0; have HC452_0 := Az hl452_0; clear hi452_0 hl452_0; replace p452 := eq_true p452; replace q452 := eq_true q452) | (go_at_call 103; (try simp only [Go.IntWalk.i64_left]); (with_reducible refine (impl_sumOf.calls k2 _ _ (rd_L1 l0 0) t453 _ ?side1 ?side2 A12.out).mono ?_); (case side1 => exact cU (HR452_0.out)); (case side2 => exact HC452_0.out); rintro e w' ⟨rfl, ⟨nd, rfl⟩⟩; (try first | exact ⟨rfl, _, World.drewN_drewN _ _ _⟩ | exact ⟨rfl, _, Eq.trans (World.drewN_drewN _ _ _) (congrArg (World.drewN _) (Nat.add_assoc _ _ _))⟩))))
            go_ret
            exact ⟨by first | rfl | (simp; done) | (simp [*]; done), by repeat (first | exact Drawn0.refl _ | apply Drawn0.step)⟩
          ·
           rw [if_neg c11] at H
           exact absurd H (by simp)
         ·
          replace c9 := Bool.eq_false_iff.mpr c9; subst c9
          have H1 : (some (-1)) = some r := by rw [if_neg (show ¬ (false = true) by decide)] at H; exact H
          clear H; have H := H1; clear H1; obtain rfl := Option.some.inj H; have p449 : 0 ≤ (x15_2 : Int) := oA; have q449 : x15_2 < (l0.length : Int) := oA; obtain ⟨ad449, A449_0, c449_0, e449, hx449_0, hl449_0, hi449_0⟩ := at_L1 HR0.out x15_2 p449 q449
          cases e449
          have HR449_0 := Az hi449_0; have HC449_0 := Az hl449_0; clear hi449_0 hl449_0; replace p449 := eq_true p449; replace q449 := eq_true q449
          go_wp2_with (first | (go_at_call 102; (with_reducible refine (impl_PartsValid.calls k2 _ _ (rd_L1 l0 x15_2) false _ ?side1 ?side2 A8.out).mono ?_); (case side1 => exact cU (HR449_0.out)); (case side2 => exact HC449_0.out); rintro e w' ⟨rfl, ⟨nd, rfl⟩⟩; (try first | exact ⟨rfl, _, World.drewN_drewN _ _ _⟩ | exact ⟨rfl, _, Eq.trans (World.drewN_drewN _ _ _) (congrArg (World.drewN _) (Nat.add_assoc _ _ _))⟩)))
          repeat (go_quiet (first | (go_at_call 102; (try simp only [Go.IntWalk.i64_left]); (with_reducible refine (impl_PartsValid.calls k2 _ _ (rd_L1 l0 x15_2) false _ ?side1 ?side2 A8.out).mono ?_); (case side1 => exact cU (HR449_0.out)); (case side2 => exact HC449_0.out); rintro e w' ⟨rfl, ⟨nd, rfl⟩⟩; (try first | exact ⟨rfl, _, World.drewN_drewN _ _ _⟩ | exact ⟨rfl, _, Eq.trans (World.drewN_drewN _ _ _) (congrArg (World.drewN _) (Nat.add_assoc _ _ _))⟩))); try go_wp2_with (first | (go_at_call 102; (try simp only [Go.IntWalk.i64_left]); (with_reducible refine (impl_PartsValid.calls k2 _ _ (rd_L1 l0 x15_2) false _ ?side1 ?side2 A8.out).mono ?_); (case side1 => exact cU (HR449_0.out)); (case side2 => exact HC449_0.out); rintro e w' ⟨rfl, ⟨nd, rfl⟩⟩; (try first | exact ⟨rfl, _, World.drewN_drewN _ _ _⟩ | exact ⟨rfl, _, Eq.trans (World.drewN_drewN _ _ _) (congrArg (World.drewN _) (Nat.add_assoc _ _ _))⟩))))
          go_ret
          exact ⟨by first | rfl | (simp; done) | (simp [*]; done), by repeat (first | exact Drawn0.refl _ | apply Drawn0.step)⟩
        ·
         rw [if_neg c7] at H
         exact absurd H (by simp)
       ·
        rw [if_neg c6] at H
        exact absurd H (by simp)
      ·
       rw [if_neg c5] at H; have c5b0 := decide_eq_false c5; clear c5
       by_cases c14 : 0 < (l0.length : Int)
       ·
        rw [if_pos c14] at H; have c14b0 := decide_eq_true c14; have c14b1 : decide (0 < l0.length) = true := decide_eq_true (by omega); clear c14; replace H := Option.bind_eq_some_iff.mp H; obtain ⟨t448, A150, H⟩ := H; replace H : (some t448) = some r := H; have A15 := Az A150; clear A150; obtain rfl := Option.some.inj H; have p447 : 0 ≤ (0 : Int) := (by omega); have q447 : 0 < (l0.length : Int) := oA; obtain ⟨ad447, A447_0, c447_0, e447, hx447_0, hl447_0, hi447_0⟩ := at_L1 HR0.out 0 p447 q447
        cases e447
        have qi447 : (0 < l0.length) = True := eq_true (by omega); (try rw [show ((0 : Int)).toNat = 0 from rfl] at hx447_0); (try rw [Addr.add_zero'] at hx447_0); have HR447_0 := Az hi447_0; have HC447_0 := Az hl447_0; clear hi447_0 hl447_0; replace p447 := eq_true p447; replace q447 := eq_true q447
        go_wp2_with (first | (go_at_call 103; (with_reducible refine (impl_sumOf.calls k2 _ _ (rd_L1 l0 0) t448 _ ?side1 ?side2 A15.out).mono ?_); (case side1 => exact cU (HR447_0.out)); (case side2 => exact HC447_0.out); rintro e w' ⟨rfl, ⟨nd, rfl⟩⟩; (try first | exact ⟨rfl, _, World.drewN_drewN _ _ _⟩ | exact ⟨rfl, _, Eq.trans (World.drewN_drewN _ _ _) (congrArg (World.drewN _) (Nat.add_assoc _ _ _))⟩)))
        repeat (go_quiet (first | (go_at_call 103; (try simp only [Go.IntWalk.i64_left]); (with_reducible refine (impl_sumOf.calls k2 _ _ (rd_L1 l0 0) t448 _ ?side1 ?side2 A15.out).mono ?_); (case side1 => exact cU (HR447_0.out)); (case side2 => exact HC447_0.out); rintro e w' ⟨rfl, ⟨nd, rfl⟩⟩; (try first | exact ⟨rfl, _, World.drewN_drewN _ _ _⟩ | exact ⟨rfl, _, Eq.trans (World.drewN_drewN _ _ _) (congrArg (World.drewN _) (Nat.add_assoc _ _ _))⟩))); try go_wp2_with (first | (go_at_call 103; (try simp only [Go.IntWalk.i64_left]); (with_reducible refine (impl_sumOf.calls k2 _ _ (rd_L1 l0 0) t448 _ ?side1 ?side2 A15.out).mono ?_); (case side1 => exact cU (HR447_0.out)); (case side2 => exact HC447_0.out); rintro e w' ⟨rfl, ⟨nd, rfl⟩⟩; (try first | exact ⟨rfl, _, World.drewN_drewN _ _ _⟩ | exact ⟨rfl, _, Eq.trans (World.drewN_drewN _ _ _) (congrArg (World.drewN _) (Nat.add_assoc _ _ _))⟩))))
        go_ret
        exact ⟨by first | rfl | (simp; done) | (simp [*]; done), by repeat (first | exact Drawn0.refl _ | apply Drawn0.step)⟩
       ·
        rw [if_neg c14] at H
        exact absurd H (by simp)
theorem infoF3 : (Try.prog.info? 3).map (fun i => (i.zero, i.size, i.bytes)) = some (some (.int .i64 0), 1, 8) := by kernel_rfl
theorem infoF23 : (Try.prog.info? 23).map (fun i => (i.zero, i.size, i.bytes)) = some (some (.slice none 0 0), 1, 24) := by kernel_rfl
theorem infoF45 : (Try.prog.info? 45).map (fun i => (i.zero, i.size, i.bytes)) = some (some (.slice none 0 0), 1, 24) := by kernel_rfl
def rdS (xs : List (List Int)) (i : Int) : List Int := xs.getD i.toNat []
theorem at_S {w : World} {A : Option Addr} {n : Nat} {xs : List (List Int)} (h : Kd.C (Kd.slice 3 (Kd.int .i64)) w A n xs) (i : Int) (h0 : 0 ≤ i) (h1 : i < n) : ∃ ad A0 c0, A = some ad ∧ w.cell? (ad.add i.toNat) = some (.slice A0 (rdS xs i).length c0) ∧ (rdS xs i).length ≤ c0 ∧ (Kd.int .i64).C w A0 (rdS xs i).length (rdS xs i) := by
  obtain ⟨ad, c, e, _, hK, hc0⟩ := Kd.C_get h ([] : List Int) i h0 h1; have hc : ∀ j u, c[j]? = some u → w.cell? (ad.add (i.toNat * 1 + j)) = some u := hc0; obtain ⟨A0, c0, rfl, l0, g0⟩ := hK
  exact ⟨ad, A0, c0, e, by have hq := hc 0 _ rfl; rwa [Nat.mul_one, Nat.add_zero] at hq, l0, g0⟩
mutual
def permG {σ : Type} (step : Nat → σ → List Int → Option σ) : Nat → Int → σ → List Int → Option σ
  | 0, _, _, _ => none
  | k + 1, n, s, p => if (p.length : Int) = n then step k s p else permL step k n s p 0
def permL {σ : Type} (step : Nat → σ → List Int → Option σ) : Nat → Int → σ → List Int → Int → Option σ
  | 0, _, _, _, _ => none
  | k + 1, n, s, p, i => if i < n then ((slices_Contains_int_int.f k p i).bind fun b => (if b = true then (permL step k n s p (wrap64 (i + 1))) else ((slices_Clone_int_int.f p).bind fun c => ((some (([i] : List Int) : List Int)).bind fun y => (if c.length + y.length < 17592186044416 then ((permG step k n s (c ++ y)).bind fun s' => (permL step k n s' p (wrap64 (i + 1)))) else none))))) else some s
end
theorem goesV_ {P : Program} {ops : Array Oper} {Q : Exit → Act → World → Prop} {oi : Oper} {N : Option Tmp} {a : Act} {w : World} {K : Act → World → Prop} {f : FuncId} {fn : Func} {xs : Array Operand} {ts : Array TypeId} {cp : Array Value} {op : Operand} (hf : P.funcs[f]? = some fn) (hname : (fn.name == "runtime.NumGoroutine") = false) (hb : fn.body.isSome = true) (args : Array Value)
    (hw : Region.wanted oi (yielded ops a.tmps) = true) (hN : oi.dst = N) (hop : oi.op = .call { callee := .value op, args := xs, argTypes := ts }) (hv : a.eval op = .func (.func f) #[] cp) (hargs : xs.map a.eval ++ cp = args)
    (h : Calls P f args w fun e w' => ∃ v, e = .returned v ∧ K (a.put N v) w') : if Region.wanted oi (yielded ops a.tmps) = true then Oper.wp P oi a w K Q else K (a.put N undef) w := by
  refine call_ f args hw hN ?_ h
  have he := enters_ hf hname hb args w
  unfold execOp
  simp [hop, resolve, Deferred.ofValue, invoke, hv, hargs, he]
set_option maxHeartbeats 8000000 in
set_option maxRecDepth 100000 in
theorem perm1.calls {σ : Type} (step : Nat → σ → List Int → Option σ) (Inv : σ → World → (Nat → Prop) → Prop) (g1 g2 : Nat)
  (hI : ∀ s W W' ok, Inv s W ok → Below W.heap.size W W' → Inv s W' ok) (hL : ∀ s W ok q, Inv s W ok → ok q → q < W.heap.size)
  (hT : ∀ (k : Nat) (s s' : σ) (p : List Int) (A : Option Addr) (c : Nat) (W : World) (ok : Nat → Prop), Inv s W ok → (∀ W', Kept W W' ok → Kd.C (Kd.int .i64) W' A p.length p) → p.length ≤ c → step k s p = some s' → Calls Try.prog 139 #[.slice A p.length c, .pointer (some ⟨g1, 0, none⟩), .pointer (some ⟨g2, 0, none⟩)] W fun e w' => e = .returned (.tuple #[]) ∧ ∃ ok', Inv s' w' ok' ∧ (∀ q, ok' q → ok q ∨ W.heap.size ≤ q) ∧ Kept W w' ok)
  (gn gt gy : Nat) : ∀ (k : Nat) (a1 : Int) (s s' : σ) (A0 : Option Addr) (c0 : Nat) (l0 : List Int) (w : World) (ok : Nat → Prop), Inv s w ok → ¬ ok gn → ¬ ok gt → ¬ ok gy → w.heap[gn]? = some (.cells #[.int .i64 a1] 3 (0, 0)) → w.heap[gt]? = some (.cells #[.func (.func 139) #[] #[.pointer (some ⟨g1, 0, none⟩), .pointer (some ⟨g2, 0, none⟩)]] 96 (0, 0)) → w.heap[gy]? = some (.cells #[.func (.func 157) #[] #[.pointer (some ⟨gn, 0, none⟩), .pointer (some ⟨gt, 0, none⟩), .pointer (some ⟨gy, 0, none⟩)]] 96 (0, 0)) → (∀ W', Kept w W' ok → Kd.C (Kd.int .i64) W' A0 l0.length l0) → l0.length ≤ c0 → permG step k a1 s l0 = some s' →
  Calls Try.prog 157 #[.slice A0 l0.length c0, .pointer (some ⟨gn, 0, none⟩), .pointer (some ⟨gt, 0, none⟩), .pointer (some ⟨gy, 0, none⟩)] w fun e w' => e = .returned (.tuple #[]) ∧ ∃ ok', Inv s' w' ok' ∧ (∀ q, ok' q → ok q ∨ w.heap.size ≤ q) ∧ Kept w w' ok := by
  intro k
  induction k using Nat.strongRecOn with
  | ind k ih =>
  intro a1 s s' A0 c0 l0 w ok hInv hnn hnt hny hbn hbt hby hp hc0 h
  cases k with
  | zero => simp [permG] at h
  | succ k =>
  simp only [permG] at h; have IH := Az ih; have HIV := Az hInv; have NN := Az hnn; have NT := Az hnt; have NY := Az hny; have BN0 := Az hbn; have BT0 := Az hbt; have BY0 := Az hby; have HP := Az hp; have HC0 := Az hc0; have HT := Az hT; have HI := Az hI; have HL := Az hL; clear ih hInv hnn hnt hny hbn hbt hby hp hc0 hT hI hL; have hcz0 : w.cell? ⟨gn, 0, none⟩ = some (.int .i64 a1) := (blk_cell BN0.out 0).trans rfl; have hcz1 : w.cell? ⟨gt, 0, none⟩ = some (.func (.func 139) #[] #[.pointer (some ⟨g1, 0, none⟩), .pointer (some ⟨g2, 0, none⟩)]) := (blk_cell BT0.out 0).trans rfl
  by_cases c5 : (l0.length : Int) = a1
  ·
    rw [if_pos c5] at h; have c5b0 := beq_iff_eq.mpr c5; clear c5; have H' := Az h; clear h
    go_enter Try.func157, Try.ntmps157
    go_wp2_with (first | (go_at_call 139; refine (HT.out k s s' l0 A0 c0 _ ok HIV.out HP.out HC0.out H'.out).mono ?_; rintro e w1 ⟨rfl, ok', i1, i2, i3⟩; have R1 := Az i1; have R2 := Az i2; have R3 := Az i3; clear i1 i2 i3))
    first | go_end0 | ((try simp only [Exit.inBlock, Exit.then]); refine bodyPost_ret (results_none rfl _ _ _) rfl ?_)
    exact ⟨rfl, ok', R1.out, R2.out, R3.out⟩
  ·
    rw [if_neg c5] at h; have c5b0 := beq_eq_false_iff_ne.mpr c5; clear c5; have H' := Az h; clear h
    go_enter Try.func157, Try.ntmps157
    go_wp2
    go_loopg [14] k (fun kq v14 w' => ∃ (x14_1 : Int) (s1 : σ) (ok1 : Nat → Prop), v14 = .int .i64 x14_1 ∧ Aside0 (permL step kq a1 s1 l0 x14_1 = some s') ∧ Aside0 (kq ≤ k) ∧ Aside0 (Inv s1 w' ok1) ∧ Aside0 (∀ q, ok1 q → ok q ∨ w.heap.size ≤ q) ∧ Aside0 (Kept w w' ok))
    case atStart => exact ⟨(0), s, ok, rfl, H', ⟨Nat.le_refl _⟩, HIV, ⟨fun q h => Or.inl h⟩, ⟨Kept.refl w ok⟩⟩
    case round =>
      clear H' HIV hcz0 hcz1; obtain ⟨x14_1, s1, ok1, rfl, HA, HK1, HIV, HOK, HKP⟩ := hrel
      cases gk with
      | zero => exact absurd HA.out (by simp [permL])
      | succ k1 =>
        have H := HA.out; clear HA; simp only [permL] at H; obtain ⟨wB, hwB⟩ : ∃ W_ : World, W_ = wr := ⟨wr, rfl⟩; have HB : Aside0 (Below wB.heap.size wB wr) := ⟨by rw [hwB]; exact Below.refl _ _⟩; have BK666 : Aside0 (wr.heap[gn]? = some (.cells #[.int .i64 a1] 3 (0, 0))) := ⟨blk_kept BN0.out HKP.out NN.out⟩; have BK667 : Aside0 (wr.heap[gt]? = some (.cells #[.func (.func 139) #[] #[.pointer (some ⟨g1, 0, none⟩), .pointer (some ⟨g2, 0, none⟩)]] 96 (0, 0))) := ⟨blk_kept BT0.out HKP.out NT.out⟩; have BK668 : Aside0 (wr.heap[gy]? = some (.cells #[.func (.func 157) #[] #[.pointer (some ⟨gn, 0, none⟩), .pointer (some ⟨gt, 0, none⟩), .pointer (some ⟨gy, 0, none⟩)]] 96 (0, 0))) := ⟨blk_kept BY0.out HKP.out NY.out⟩; have HR0 : Aside0 (Kd.C (Kd.int .i64) wB A0 l0.length l0) := ⟨by rw [hwB]; exact HP.out wr HKP.out⟩; replace HIV : Aside0 (Inv s1 wB ok1) := ⟨by rw [hwB]; exact HIV.out⟩; replace HKP : Aside0 (Kept w wB ok) := ⟨by rw [hwB]; exact HKP.out⟩; have hgnB : gn < wB.heap.size := Nat.lt_of_lt_of_le (blk_lt BN0.out) HKP.out.1; clear hwB
        by_cases c21 : x14_1 < a1
        ·
          rw [if_pos c21] at H; have c21b0 := decide_eq_true c21; clear c21; obtain ⟨t670, A220, H⟩ := Option.bind_eq_some_iff.mp H; have A22 := Az A220; clear A220
          by_cases c23 : t670 = true
          ·
            subst c23; rw [if_pos rfl] at H; have H' := Az H; clear H
            go_wp2_with (first | ((with_reducible refine gate_callee (f := 147) rfl ?_); refine goesL_ (some 19) rfl rfl Try.func147 (by kernel_rfl) rfl #[.slice A0 l0.length c0, .int .i64 x14_1] rfl (by (try simp only [List.map_toArray, List.map_cons, List.map_nil]); first | done | rfl | (simp only [List.length_drop, List.length_take]; rfl)) ?_; (with_reducible refine (slices_Contains_int_int.calls k1 _ _ l0 x14_1 true _ ?side1 ?side2 A22.out).mono ?_); (case side1 => exact cU (Kd.C_below HR0.out HB.out)); (case side2 => exact HC0.out); rintro e w' ⟨rfl, ⟨nd, rfl⟩⟩; refine ⟨_, rfl, ?_⟩))
            (first | go_roundg k1 | (refine Handed.intro k1 ?measure ?_; rotate_left; go_step; (try simp only [add_plain]); (repeat apply Exists.intro); refine ⟨?rel, rfl⟩))
            case measure => have := HK1.out; omega
            case rel => exact ⟨(wrap64 (x14_1 + 1)), s1, ok1, rfl, H', ⟨by have := HK1.out; omega⟩, ⟨HI.out _ _ _ _ HIV.out (bU0 HB.out)⟩, HOK, ⟨Kept.below HKP.out (bU0 HB.out)⟩⟩
          ·
            replace c23 := Bool.eq_false_iff.mpr c23; subst c23; rw [if_neg (show ¬ (false = true) by decide)] at H; obtain ⟨t671, A240, H⟩ := Option.bind_eq_some_iff.mp H; have A24 := Az A240; clear A240; obtain ⟨y674, hy674, H⟩ := Option.bind_eq_some_iff.mp H; have Ny674 : Aside0 (y674 = ([x14_1] : List Int)) := ⟨(Option.some.inj hy674).symm⟩; clear hy674
            by_cases c25 : t671.length + y674.length < 17592186044416
            ·
              rw [if_pos c25] at H; have LMc25 := Az c25; clear c25; obtain ⟨y677, hy677⟩ : ∃ y_ : List Int, y_ = (t671 ++ y674) := ⟨_, rfl⟩; rw [← hy677] at H; have Ny677 := Az hy677; clear hy677; obtain ⟨s2, A260, H⟩ := Option.bind_eq_some_iff.mp H; have A26 := Az A260; clear A260; have H' := Az H; clear H
              try go_wp2_with (first | ((with_reducible refine gate_callee (f := 147) rfl ?_); refine goesL_ (some 19) rfl rfl Try.func147 (by kernel_rfl) rfl #[.slice A0 l0.length c0, .int .i64 x14_1] rfl (by (try simp only [List.map_toArray, List.map_cons, List.map_nil]); first | done | rfl | (simp only [List.length_drop, List.length_take]; rfl)) ?_; (with_reducible refine (slices_Contains_int_int.calls k1 _ _ l0 x14_1 false _ ?side1 ?side2 A22.out).mono ?_); (case side1 => exact cU (Kd.C_below HR0.out HB.out)); (case side2 => exact HC0.out); rintro e w' ⟨rfl, ⟨nd, rfl⟩⟩; refine ⟨_, rfl, ?_⟩))
              (try (rw [drewN_self wr]; generalize hq_ : World.drewN wr _ = wr; have n0_ : Aside0 (wr.heap[gn]? = some (.cells #[.int .i64 a1] 3 (0, 0))) := ⟨by rw [← hq_]; exact (kU BK666.out)⟩; have n1_ : Aside0 (wr.heap[gt]? = some (.cells #[.func (.func 139) #[] #[.pointer (some ⟨g1, 0, none⟩), .pointer (some ⟨g2, 0, none⟩)]] 96 (0, 0))) := ⟨by rw [← hq_]; exact (kU BK667.out)⟩; have n2_ : Aside0 (wr.heap[gy]? = some (.cells #[.func (.func 157) #[] #[.pointer (some ⟨gn, 0, none⟩), .pointer (some ⟨gt, 0, none⟩), .pointer (some ⟨gy, 0, none⟩)]] 96 (0, 0))) := ⟨by rw [← hq_]; exact (kU BK668.out)⟩; have n3_ : Aside0 (Below wB.heap.size wB wr) := ⟨by rw [← hq_]; exact (bU0 HB.out)⟩; clear BK666 BK667 BK668 HB hq_; have BK666 := n0_; have BK667 := n1_; have BK668 := n2_; have HB := n3_; clear n0_ n1_ n2_ n3_)); have n0_ := Az (blk_drew BK666.out); have n1_ := Az (blk_drew BK667.out); have n2_ := Az (blk_drew BK668.out); have n3_ := Az (below_drew1 HB.out); clear BK666 BK667 BK668 HB; have BK666 := n0_; have BK667 := n1_; have BK668 := n2_; have HB := n3_; clear n0_ n1_ n2_ n3_
              refine start_ (n := 7) (S := fun w' => w'.cell? ⟨gy, 0, none⟩ = some (.func (.func 157) #[] #[.pointer (some ⟨gn, 0, none⟩), .pointer (some ⟨gt, 0, none⟩), .pointer (some ⟨gy, 0, none⟩)])) (ds := []) #[false, false, false, false, false, false, false] (by kernel_rfl) rfl rfl ((blk_cell BK668.out 0).trans rfl) (fun hHeld => ?_)
              generalize wr.drew = w27 at BK666 BK667 BK668 HB hHeld ⊢
              refine pure_ (i := 1) (N := some 22) (v := ?_) (a' := ?_) #[false, true, false, false, false, false, false] rfl rfl (by kernel_rfl) (fun _ _ _ h => h) (Or.inl ⟨by rfl, ?_⟩) ?_ ?_
              rotate_left
              ·
               intro w'
               go_simp
               with_reducible rfl
              rotate_left
              ·
               simp only [Act.put, List.setIfInBounds_toArray, List.set_cons_zero, List.set_cons_succ, i64_w, i32_w]
               rfl
              refine pure_ (i := 3) (N := some 24) (v := ?_) (a' := ?_) #[false, true, false, true, false, false, false] rfl rfl (by kernel_rfl) (fun _ _ _ h => h) (Or.inl ⟨by rfl, ?_⟩) ?_ ?_
              rotate_left
              ·
               intro w'
               go_simp
               with_reducible rfl
              rotate_left
              ·
               simp only [Act.put, List.setIfInBounds_toArray, List.set_cons_zero, List.set_cons_succ, i64_w, i32_w]
               rfl
              refine take_ (i := 0) (N := some 21) (v := ?_) (a' := ?_) #[true, true, false, true, false, false, false] rfl rfl (by kernel_rfl) (fun _ _ _ h => h) (Or.inl ⟨by rfl, ?_⟩) hHeld ?_ ?_
              rotate_left
              ·
               intro w' s0
               go_simp
               with_reducible rfl
              rotate_left
              ·
               simp only [Act.put, List.setIfInBounds_toArray, List.set_cons_zero, List.set_cons_succ, i64_w, i32_w]
               rfl
              refine join_ (σ := Value × Value) 2 #[true, true, true, true, true, false, false] (fun s_ => [(23, s_.1), (25, s_.2)]) (fun s_ w' => (w'.cell? ⟨gy, 0, none⟩ = some (.func (.func 157) #[] #[.pointer (some ⟨gn, 0, none⟩), .pointer (some ⟨gt, 0, none⟩), .pointer (some ⟨gy, 0, none⟩)])) ∧ (Kd.R (Kd.int .i64) 3 w' wB.heap.size (fun k_ => some k_ ≠ (s_.2 : Value).ownBlock) s_.1 t671) ∧ (Kd.R (Kd.int .i64) 3 w' wB.heap.size (fun k_ => some k_ ≠ (s_.1 : Value).ownBlock) s_.2 y674) ∧ (w'.heap[gn]? = some (.cells #[.int .i64 a1] 3 (0, 0))) ∧ (w'.heap[gt]? = some (.cells #[.func (.func 139) #[] #[.pointer (some ⟨g1, 0, none⟩), .pointer (some ⟨g2, 0, none⟩)]] 96 (0, 0))) ∧ (w'.heap[gy]? = some (.cells #[.func (.func 157) #[] #[.pointer (some ⟨gn, 0, none⟩), .pointer (some ⟨gt, 0, none⟩), .pointer (some ⟨gy, 0, none⟩)]] 96 (0, 0))) ∧ (Below wB.heap.size wB w')) ?_ ?_
              rotate_left
              ·
               intro hCont
               refine two_ (i := 2) (j := 4) (Ni := some 23) (Nj := some 25) #[true, true, true, true, false, false, false] #[true, true, false, true, true, false, false] rfl rfl rfl rfl (by kernel_rfl) (by decide) (by decide) (fun K hK => ?_) (fun K hK => ?_)
               ·
                skip
                refine goes_ Try.func68 (by kernel_rfl) rfl #[.slice A0 l0.length c0] (by rfl) rfl rfl (by (try simp only [List.map_toArray, List.map_cons, List.map_nil]); first | done | rfl | (simp only [List.length_drop, List.length_take]; rfl)) ?_
                with_reducible refine (slices_Clone_int_int.calls _ _ l0 t671 _ ?side1 ?side2 A24.out).mono ?_
                (case side1 => exact cU (Kd.C_below HR0.out HB.out))
                (case side2 => exact HC0.out)
                rintro e w28 ⟨v672, rfl, ho0, hb⟩
                refine ⟨_, rfl, ?_⟩
                have n0_ := Az (Kd.R_lower ho0 (below_size (bU0 HB.out))); have n1_ := Az (blk_below (g := gn) (o := .cells #[.int .i64 a1] 3 (0, 0)) (kU BK666.out) hb); have n2_ := Az (blk_below (g := gt) (o := .cells #[.func (.func 139) #[] #[.pointer (some ⟨g1, 0, none⟩), .pointer (some ⟨g2, 0, none⟩)]] 96 (0, 0)) (kU BK667.out) hb); have n3_ := Az (blk_below (g := gy) (o := .cells #[.func (.func 157) #[] #[.pointer (some ⟨gn, 0, none⟩), .pointer (some ⟨gt, 0, none⟩), .pointer (some ⟨gy, 0, none⟩)]] 96 (0, 0)) (kU BK668.out) hb); have n4_ := Az (below_step (bU0 HB.out) hb); clear BK666 BK667 BK668 HB; have HO673 := n0_; have BK666 := n1_; have BK667 := n2_; have BK668 := n3_; have HB := n4_; clear n0_ n1_ n2_ n3_ n4_; (try clear hb); (try clear hb2); (try clear hk); (try clear hi); (try clear ho0)
                refine hK.out _ _ ((blk_cell BK668.out 0).trans rfl) (fun hHeld => ?_)
                clear hK K
                refine norm_ (a' := ?_) ?_ ?_
                rotate_left
                ·
                 show Act.put _ (some 23) _ = _
                 simp only [Act.put, List.setIfInBounds_toArray, List.set_cons_zero, List.set_cons_succ, i64_w, i32_w]
                 rfl
                refine one_ (i := 4) (N := some 25) #[true, true, true, true, true, false, false] rfl rfl (by kernel_rfl) (by decide) (fun K hK => ?_)
                refine Kd.R_lit_step (Kd.int .i64) _ 3 ?hg (N := 25) ?hd (xs := ([x14_1] : List Int)) (inner := [.int .i64 x14_1]) (ok := fun _ => True) (okp := fun _ => True) ?hr ?hp (fun _ hk => hk) trivial (Below.refl _ _) (Nat.le_refl _) (by simp) ?_; (case hd => rfl); (case hg => rfl); (case hr => first | (go_simp; done) | (go_simp; rfl)); (case hp => exact (Reps.one (show Kd.M (Kd.int .i64) _ _ _ x14_1 [.int .i64 x14_1] from rfl) (Reps.none _ _)))
                intro v675 w29 ho30 hb hg_ hnew_
                clear hg_ hnew_; (first | rw [← Ny674.out] at ho30 | (simp only [Int.reduceToNat] at ho30; rw [← Ny674.out] at ho30)); have n0_ := Az (Kd.R_elder' (rU HO673.out) (Kd.R_base ho30) hb); have n1_ := Az (Kd.R_lower (Kd.R_new' ho30 (Kd.R_lt (rU HO673.out))) (below_size (bU0 HB.out))); have n2_ := Az (blk_below (g := gn) (o := .cells #[.int .i64 a1] 3 (0, 0)) (kU BK666.out) hb); have n3_ := Az (blk_below (g := gt) (o := .cells #[.func (.func 139) #[] #[.pointer (some ⟨g1, 0, none⟩), .pointer (some ⟨g2, 0, none⟩)]] 96 (0, 0)) (kU BK667.out) hb); have n4_ := Az (blk_below (g := gy) (o := .cells #[.func (.func 157) #[] #[.pointer (some ⟨gn, 0, none⟩), .pointer (some ⟨gt, 0, none⟩), .pointer (some ⟨gy, 0, none⟩)]] 96 (0, 0)) (kU BK668.out) hb); have n5_ := Az (below_step (bU0 HB.out) hb); clear HO673 BK666 BK667 BK668 HB; have HO673 := n0_; have HO676 := n1_; have BK666 := n2_; have BK667 := n3_; have BK668 := n4_; have HB := n5_; clear n0_ n1_ n2_ n3_ n4_ n5_ hb ho30
                refine hK.out _ _ ((blk_cell BK668.out 0).trans rfl) (fun hHeld => ?_)
                clear hK K
                refine norm_ (a' := ?_) ?_ ?_
                rotate_left
                ·
                 show Act.put _ (some 25) _ = _
                 simp only [Act.put, List.setIfInBounds_toArray, List.set_cons_zero, List.set_cons_succ, i64_w, i32_w]
                 rfl
                exact norm_ (by simp only [putAll, Act.put, List.setIfInBounds_toArray, List.set_cons_zero, List.set_cons_succ]) (hCont (v672, v675) _ ⟨hHeld, (by (with_reducible repeat (first | apply Kd.R_alloc | apply Kd.R_drewN | apply Kd.R_drew)); exact Kd.R_mono HO673.out (fun _ hk => hk.2)), (by (with_reducible repeat (first | apply Kd.R_alloc | apply Kd.R_drewN | apply Kd.R_drew)); exact Kd.R_mono HO676.out (fun _ hk => hk.2)), (kU BK666.out), (kU BK667.out), (kU BK668.out), (bU0 HB.out)⟩)
               ·
                skip
                refine Kd.R_lit_step (Kd.int .i64) _ 3 ?hg (N := 25) ?hd (xs := ([x14_1] : List Int)) (inner := [.int .i64 x14_1]) (ok := fun _ => True) (okp := fun _ => True) ?hr ?hp (fun _ hk => hk) trivial (Below.refl _ _) (Nat.le_refl _) (by simp) ?_; (case hd => rfl); (case hg => rfl); (case hr => first | (go_simp; done) | (go_simp; rfl)); (case hp => exact (Reps.one (show Kd.M (Kd.int .i64) _ _ _ x14_1 [.int .i64 x14_1] from rfl) (Reps.none _ _)))
                intro v675 w28 ho29 hb hg_ hnew_
                clear hg_ hnew_; (first | rw [← Ny674.out] at ho29 | (simp only [Int.reduceToNat] at ho29; rw [← Ny674.out] at ho29)); have n0_ := Az (Kd.R_lower ho29 (below_size (bU0 HB.out))); have n1_ := Az (blk_below (g := gn) (o := .cells #[.int .i64 a1] 3 (0, 0)) (kU BK666.out) hb); have n2_ := Az (blk_below (g := gt) (o := .cells #[.func (.func 139) #[] #[.pointer (some ⟨g1, 0, none⟩), .pointer (some ⟨g2, 0, none⟩)]] 96 (0, 0)) (kU BK667.out) hb); have n3_ := Az (blk_below (g := gy) (o := .cells #[.func (.func 157) #[] #[.pointer (some ⟨gn, 0, none⟩), .pointer (some ⟨gt, 0, none⟩), .pointer (some ⟨gy, 0, none⟩)]] 96 (0, 0)) (kU BK668.out) hb); have n4_ := Az (below_step (bU0 HB.out) hb); clear BK666 BK667 BK668 HB; have HO676 := n0_; have BK666 := n1_; have BK667 := n2_; have BK668 := n3_; have HB := n4_; clear n0_ n1_ n2_ n3_ n4_ hb ho29
                refine hK.out _ _ ((blk_cell BK668.out 0).trans rfl) (fun hHeld => ?_)
                clear hK K
                refine norm_ (a' := ?_) ?_ ?_
                rotate_left
                ·
                 show Act.put _ (some 25) _ = _
                 simp only [Act.put, List.setIfInBounds_toArray, List.set_cons_zero, List.set_cons_succ, i64_w, i32_w]
                 rfl
                refine one_ (i := 2) (N := some 23) #[true, true, true, true, true, false, false] rfl rfl (by kernel_rfl) (by decide) (fun K hK => ?_)
                refine goes_ Try.func68 (by kernel_rfl) rfl #[.slice A0 l0.length c0] (by rfl) rfl rfl (by (try simp only [List.map_toArray, List.map_cons, List.map_nil]); first | done | rfl | (simp only [List.length_drop, List.length_take]; rfl)) ?_
                with_reducible refine (slices_Clone_int_int.calls _ _ l0 t671 _ ?side1 ?side2 A24.out).mono ?_
                (case side1 => exact cU (Kd.C_below HR0.out HB.out))
                (case side2 => exact HC0.out)
                rintro e w30 ⟨v672, rfl, ho0, hb⟩
                refine ⟨_, rfl, ?_⟩
                have n0_ := Az (Kd.R_elder' (rU HO676.out) (Kd.R_base ho0) hb); have n1_ := Az (Kd.R_lower (Kd.R_new' ho0 (Kd.R_lt (rU HO676.out))) (below_size (bU0 HB.out))); have n2_ := Az (blk_below (g := gn) (o := .cells #[.int .i64 a1] 3 (0, 0)) (kU BK666.out) hb); have n3_ := Az (blk_below (g := gt) (o := .cells #[.func (.func 139) #[] #[.pointer (some ⟨g1, 0, none⟩), .pointer (some ⟨g2, 0, none⟩)]] 96 (0, 0)) (kU BK667.out) hb); have n4_ := Az (blk_below (g := gy) (o := .cells #[.func (.func 157) #[] #[.pointer (some ⟨gn, 0, none⟩), .pointer (some ⟨gt, 0, none⟩), .pointer (some ⟨gy, 0, none⟩)]] 96 (0, 0)) (kU BK668.out) hb); have n5_ := Az (below_step (bU0 HB.out) hb); clear HO676 BK666 BK667 BK668 HB; have HO676 := n0_; have HO673 := n1_; have BK666 := n2_; have BK667 := n3_; have BK668 := n4_; have HB := n5_; clear n0_ n1_ n2_ n3_ n4_ n5_; (try clear hb); (try clear hb2); (try clear hk); (try clear hi); (try clear ho0)
                refine hK.out _ _ ((blk_cell BK668.out 0).trans rfl) (fun hHeld => ?_)
                clear hK K
                refine norm_ (a' := ?_) ?_ ?_
                rotate_left
                ·
                 show Act.put _ (some 23) _ = _
                 simp only [Act.put, List.setIfInBounds_toArray, List.set_cons_zero, List.set_cons_succ, i64_w, i32_w]
                 rfl
                exact norm_ (by simp only [putAll, Act.put, List.setIfInBounds_toArray, List.set_cons_zero, List.set_cons_succ]) (hCont (v672, v675) _ ⟨hHeld, (by (with_reducible repeat (first | apply Kd.R_alloc | apply Kd.R_drewN | apply Kd.R_drew)); exact Kd.R_mono HO673.out (fun _ hk => hk.2)), (by (with_reducible repeat (first | apply Kd.R_alloc | apply Kd.R_drewN | apply Kd.R_drew)); exact Kd.R_mono HO676.out (fun _ hk => hk.2)), (kU BK666.out), (kU BK667.out), (kU BK668.out), (bU0 HB.out)⟩)
              rintro ⟨v672, v675⟩ w31 ⟨hS_, h0_, h1_, h2_, h3_, h4_, h5_⟩
              have n0_ : Aside0 (Kd.R (Kd.int .i64) 3 w31 wB.heap.size (fun k_ => some k_ ≠ (v675 : Value).ownBlock) v672 t671) := ⟨h0_⟩; have n1_ : Aside0 (Kd.R (Kd.int .i64) 3 w31 wB.heap.size (fun k_ => some k_ ≠ (v672 : Value).ownBlock) v675 y674) := ⟨h1_⟩; have n2_ : Aside0 (w31.heap[gn]? = some (.cells #[.int .i64 a1] 3 (0, 0))) := ⟨h2_⟩; have n3_ : Aside0 (w31.heap[gt]? = some (.cells #[.func (.func 139) #[] #[.pointer (some ⟨g1, 0, none⟩), .pointer (some ⟨g2, 0, none⟩)]] 96 (0, 0))) := ⟨h3_⟩; have n4_ : Aside0 (w31.heap[gy]? = some (.cells #[.func (.func 157) #[] #[.pointer (some ⟨gn, 0, none⟩), .pointer (some ⟨gt, 0, none⟩), .pointer (some ⟨gy, 0, none⟩)]] 96 (0, 0))) := ⟨h4_⟩; have n5_ : Aside0 (Below wB.heap.size wB w31) := ⟨h5_⟩; clear BK666 BK667 BK668 HB h0_ h1_ h2_ h3_ h4_ h5_; have HO673 := n0_; have HO676 := n1_; have BK666 := n2_; have BK667 := n3_; have BK668 := n4_; have HB := n5_; clear n0_ n1_ n2_ n3_ n4_ n5_; have hHeld : w31.cell? ⟨gy, 0, none⟩ = some (.func (.func 157) #[] #[.pointer (some ⟨gn, 0, none⟩), .pointer (some ⟨gt, 0, none⟩), .pointer (some ⟨gy, 0, none⟩)]) := hS_; obtain ⟨Ao33, co33, eo33⟩ := Kd.R_slice HO676.out; (first | subst eo33 | (injection eo33 with f1_ f2_ f3_; have f4_ := f1_.symm; have f5_ := f3_.symm; clear f1_ f2_ f3_; subst f4_; subst f5_))
              refine norm_ (a' := ?_) ?_ ?_
              rotate_left
              ·
               simp only [putAll, Act.put, List.setIfInBounds_toArray, List.set_cons_zero, List.set_cons_succ]
               rfl
              refine one_ (i := 5) (N := some 26) #[true, true, true, true, true, true, false] rfl rfl (by kernel_rfl) (by decide) (fun K hK => ?_)
              refine Kd.R_append_rows_step (Kd.int .i64) (w0 := wB) wB.heap.size (by rfl) (.tmp 23) (.tmp 25) 23 3 (.int .i64 0) 8 rfl Try.underlying23 infoF3 rfl (by decide) (by omega) v672 t671 y674 _ _ _ (fun k_ => some k_ ≠ (.slice Ao33 y674.length co33 : Value).ownBlock) (fun _ => False) rfl rfl ?aO ?aR (fun _ _ h => h) (fun _ h => h.elim) ?aF ?aB ?aS ?aL ?_
              (case aR => exact cU ((Kd.R_reads' HO676.out).2.2))
              (case aB => exact (bU0 HB.out))
              (case aF => exact (fun k_ hk => Kd.fresh' (Kd.R_lt (rU HO676.out)) k_ hk))
              (case aO => exact (rU HO673.out))
              (case aS => exact (below_size (bU0 HB.out)))
              (case aL => have := LMc25.out; omega)
              intro v678 w32 ho hb hg hat
              rw [← Ny677.out] at ho; have n0_ := Az (blk_grown (g := gn) (o := .cells #[.int .i64 a1] 3 (0, 0)) (kU BK666.out) hg (fun e_ => absurd (Kd.R_base HO673.out gn e_.symm) (Nat.not_le_of_lt hgnB))); have n1_ := Az (blk_grown (g := gt) (o := .cells #[.func (.func 139) #[] #[.pointer (some ⟨g1, 0, none⟩), .pointer (some ⟨g2, 0, none⟩)]] 96 (0, 0)) (kU BK667.out) hg (Kd.R_ne HO673.out BK667.out (by decide))); have n2_ := Az (blk_grown (g := gy) (o := .cells #[.func (.func 157) #[] #[.pointer (some ⟨gn, 0, none⟩), .pointer (some ⟨gt, 0, none⟩), .pointer (some ⟨gy, 0, none⟩)]] 96 (0, 0)) (kU BK668.out) hg (Kd.R_ne HO673.out BK668.out (by decide))); have n3_ := Az (Kd.R_after (ok := (fun _ => True)) (by (with_reducible repeat (first | apply Kd.R_alloc | apply Kd.R_drewN | apply Kd.R_drew)); exact Kd.R_mono HO676.out (fun _ hk => ⟨trivial, hk⟩)) hg hat); have n4_ := Az (hb); have n5_ := Az (ho); clear BK666 BK667 BK668 HO676 HB HO673; have BK666 := n0_; have BK667 := n1_; have BK668 := n2_; have HO676 := n3_; have HB := n4_; have HO679 := n5_; clear n0_ n1_ n2_ n3_ n4_ n5_ ho hb hg hat; obtain ⟨Ao34, co34, eo34⟩ := Kd.R_slice HO679.out; (first | subst eo34 | (injection eo34 with f1_ f2_ f3_; have f4_ := f1_.symm; have f5_ := f3_.symm; clear f1_ f2_ f3_; subst f4_; subst f5_))
              refine hK.out _ _ ((blk_cell BK668.out 0).trans rfl) (fun hHeld => ?_)
              clear hK K
              refine norm_ (a' := ?_) ?_ ?_
              rotate_left
              ·
               show Act.put _ (some 26) _ = _
               simp only [Act.put, List.setIfInBounds_toArray, List.set_cons_zero, List.set_cons_succ, i64_w, i32_w]
               rfl
              refine one_ (i := 6) (N := some 27) #[true, true, true, true, true, true, true] rfl rfl (by kernel_rfl) (by decide) (fun K hK => ?_)
              refine goesV_ (f := 157) Try.func157 (by kernel_rfl) rfl #[.slice Ao34 y677.length co34, .pointer (some ⟨gn, 0, none⟩), .pointer (some ⟨gt, 0, none⟩), .pointer (some ⟨gy, 0, none⟩)] (by rfl) rfl rfl (by rfl) (by first | rfl | (simp; done) | (simp; rfl)) ?_
              have hge : ∀ q, ok1 q → q < wB.heap.size := fun q hq => HL.out _ _ _ _ HIV.out hq
              have hnew : ∀ g, g < w.heap.size → ¬ ok g → ¬ ok1 g := fun g hg hn hq => (HOK.out g hq).elim hn (fun h_ => by omega)
              have on := hnew gn (blk_lt BN0.out) NN.out; have ot := hnew gt (blk_lt BT0.out) NT.out; have oy := hnew gy (blk_lt BY0.out) NY.out
              refine (IH.out k1 (by have := HK1.out; omega) a1 s1 s2 Ao34 co34 y677 _ ok1 (HI.out _ _ _ _ HIV.out (bU0 HB.out)) on ot oy BK666.out BK667.out BK668.out (Kd.C_kept_own (Kd.R_bound HO679.out) (fun q hq h1 => by have h2 := hge q h1; have h3 := hq.2.1; omega)) (Kd.R_reads' HO679.out).2.1 A26.out).mono ?_
              rintro e w' ⟨rfl, ok2, i1, i2, i3⟩
              refine ⟨_, rfl, ?_⟩
              have R1 := Az i1; have R2 := Az i2; have R3 := Az i3; have hcy := blk_kept BK668.out i3 oy; clear i1 i2 i3
              refine hK.out _ _ ((blk_cell hcy 0).trans rfl) (fun hHeld => ?_)
              clear hK K
              refine norm_ (a' := ?_) ?_ ?_
              rotate_left
              ·
                show Act.put _ (some 27) _ = _
                simp only [Act.put, List.setIfInBounds_toArray, List.set_cons_zero, List.set_cons_succ, i64_w, i32_w]
                rfl
              refine done_ (by kernel_rfl) ?_
              try go_wp2
              (first | go_roundg k1 | (refine Handed.intro k1 ?measure ?_; rotate_left; go_step; (try simp only [add_plain]); (repeat apply Exists.intro); refine ⟨?rel, rfl⟩))
              case measure => have := HK1.out; omega
              case rel => exact ⟨(wrap64 (x14_1 + 1)), s2, ok2, rfl, H', ⟨by have := HK1.out; omega⟩, R1, ⟨fun q hq => (R2.out q hq).elim (HOK.out q) (fun h_ => Or.inr (Nat.le_trans (Nat.le_trans HKP.out.1 HB.out.size) h_))⟩, ⟨Kept.then_ (Kept.below HKP.out HB.out) R3.out (fun q hq => HOK.out q hq)⟩⟩
            ·
              rw [if_neg c25] at H
              exact absurd H (by simp)
        ·
          rw [if_neg c21] at H; have c21b0 := decide_eq_false c21; clear c21; obtain rfl := Option.some.inj H
          go_wp2
          first | go_end0 | ((try simp only [Exit.inBlock, Exit.then]); refine bodyPost_ret (results_none rfl _ _ _) rfl ?_)
          exact ⟨rfl, ok1, HI.out _ _ _ _ HIV.out (bU0 HB.out), HOK.out, Kept.below HKP.out (bU0 HB.out)⟩
theorem setCell_new (w : World) (u v : Value) (t : TypeId) : (w.alloc (.cells #[u] t (0, 0))).setCell ⟨w.heap.size, 0, none⟩ v = w.alloc (.cells #[v] t (0, 0)) := (World.setCell_alloc_new _ _ _ _).trans rfl
set_option maxHeartbeats 8000000 in
set_option maxRecDepth 100000 in
theorem perm0.calls {σ : Type} (step : Nat → σ → List Int → Option σ) (Inv : σ → World → (Nat → Prop) → Prop) (g1 g2 : Nat)
  (hI : ∀ s W W' ok, Inv s W ok → Below W.heap.size W W' → Inv s W' ok) (hL : ∀ s W ok q, Inv s W ok → ok q → q < W.heap.size)
  (hT : ∀ (k : Nat) (s s' : σ) (p : List Int) (A : Option Addr) (c : Nat) (W : World) (ok : Nat → Prop), Inv s W ok → (∀ W', Kept W W' ok → Kd.C (Kd.int .i64) W' A p.length p) → p.length ≤ c → step k s p = some s' → Calls Try.prog 139 #[.slice A p.length c, .pointer (some ⟨g1, 0, none⟩), .pointer (some ⟨g2, 0, none⟩)] W fun e w' => e = .returned (.tuple #[]) ∧ ∃ ok', Inv s' w' ok' ∧ (∀ q, ok' q → ok q ∨ W.heap.size ≤ q) ∧ Kept W w' ok)
  (k : Nat) (a1 : Int) (s s' : σ) (w : World) (ok : Nat → Prop) (hInv : Inv s w ok) (h : permG step k a1 s [] = some s') :
  Calls Try.prog 138 #[.int .i64 a1, .func (.func 139) #[] #[.pointer (some ⟨g1, 0, none⟩), .pointer (some ⟨g2, 0, none⟩)]] w fun e w' => e = .returned (.tuple #[]) ∧ ∃ ok', Inv s' w' ok' ∧ (∀ q, ok' q → ok q ∨ w.heap.size ≤ q) ∧ Kept w w' ok := by
  have HB := Az (Below.refl w.heap.size w); have HIV := Az hInv; have HH := Az h; have HT := Az hT; have HI := Az hI; have HL := Az hL; clear hInv h hT hI hL
  go_enter Try.func138, Try.ntmps138
  go_wp2_with (first | ((with_reducible refine gate_dst (N := 2) rfl ?_); refine box_event ?hg (N := 2) ?hd (cs := #[.int .i64 a1]) (t := 3) ?hr ?_; (case hd => rfl); (case hg => rfl); (case hr => first | (go_simp; done) | (go_simp; rfl)); intro gn hg_ w2 hbox hb; have n1 := Az (below_step HB.out hb); have B_gn := Az hbox; have G_gn := Az ((by rw [hg_]; exact below_size HB.out) : w.heap.size ≤ gn); clear HB hb hbox hg_; have HB := n1; clear n1) | ((with_reducible refine gate_dst (N := 3) rfl ?_); refine box_event ?hg (N := 3) ?hd (cs := #[.func (.func 139) #[] #[.pointer (some ⟨g1, 0, none⟩), .pointer (some ⟨g2, 0, none⟩)]]) (t := 96) ?hr ?_; (case hd => rfl); (case hg => rfl); (case hr => first | (go_simp; done) | (go_simp; rfl)); intro gt hg_ w3 hbox hb; have n1 := Az (below_step HB.out hb); have m0 := Az (blk_below B_gn.out hb); have B_gt := Az hbox; have G_gt := Az ((by rw [hg_]; exact below_size HB.out) : w.heap.size ≤ gt); clear HB hb hbox hg_ B_gn; have HB := n1; clear n1; have B_gn := m0; clear m0) | ((with_reducible refine gate_store (p := 4) (t := 96) rfl ?_); refine store_event (w1 := w3.alloc (.cells #[.func (.func 157) #[] #[.pointer (some ⟨gn, 0, none⟩), .pointer (some ⟨gt, 0, none⟩), .pointer (some ⟨w3.heap.size, 0, none⟩)]] 96 (0, 0))) rfl rfl rfl ?hr ?_; (case hr => (go_simp; rw [run_store _ _ _ _ _ rfl]; simp [stored]; exact setCell_new _ _ _ _)); rintro w4 rfl) | (go_at_call 157; refine (perm1.calls step Inv g1 g2 HI.out HL.out HT.out gn gt w3.heap.size k a1 s s' none 0 [] _ ok (HI.out _ _ _ _ HIV.out (by repeat (first | exact HB.out | apply below_alloc))) (fun h_ => Nat.lt_irrefl _ (Nat.lt_of_lt_of_le (HL.out _ _ _ _ HIV.out h_) G_gn.out)) (fun h_ => Nat.lt_irrefl _ (Nat.lt_of_lt_of_le (HL.out _ _ _ _ HIV.out h_) G_gt.out)) (fun h_ => Nat.lt_irrefl _ (Nat.lt_of_lt_of_le (HL.out _ _ _ _ HIV.out h_) (below_size HB.out))) (blk_alloc B_gn.out _) (blk_alloc B_gt.out _) (blk_new w3 _) (fun W' _ => Kd.C_nil _ _) (Nat.le_refl 0) HH.out).mono ?_; rintro e w5 ⟨rfl, ok', i1, i2, i3⟩; have R1 := Az i1; have R2 := Az i2; have R3 := Az i3; clear i1 i2 i3))
  first | go_end0 | ((try simp only [Exit.inBlock, Exit.then]); refine bodyPost_ret (results_none rfl _ _ _) rfl ?_)
  have hb4 : Below w.heap.size w (w3.alloc (.cells #[.func (.func 157) #[] #[.pointer (some ⟨gn, 0, none⟩), .pointer (some ⟨gt, 0, none⟩), .pointer (some ⟨w3.heap.size, 0, none⟩)]] 96 (0, 0))) := (by repeat (first | exact HB.out | apply below_alloc))
  exact ⟨rfl, ok', R1.out, fun q hq => (R2.out q hq).imp id (fun h_ => Nat.le_trans (below_size hb4) h_), Kept.then_ (Kept.below (Kept.refl w ok) hb4) R3.out (fun q hq => Or.inl hq)⟩
def fac1L : Nat → List (List Int) → List Int → List (List (List Int)) → Int → Option (List (List (List Int)))
  | 0, _, _, _, _ => none
  | k + 1, ts, p, cs, i => if i < (ts.length : Int) then (if 0 ≤ i then ((impl_typeOf.f k p).bind fun t => ((slices_Equal_int_int.f k t (rdS ts i)).bind fun b => (if b = true then ((slices_Clone_int_int.f p).bind fun c => (if (cs.getD i.toNat []).length < 5864062014805 then fac1L k ts p (cs.set i.toNat (cs.getD i.toNat [] ++ [c])) (wrap64 (i + 1)) else none)) else fac1L k ts p cs (wrap64 (i + 1))))) else none) else some cs
def fac1I (w0 : World) (At : Option Addr) (ct : Nat) (ts : List (List Int)) (g1 g2 : Nat) (v : Value) (s : List (List (List Int))) (W : World) (ok : Nat → Prop) : Prop :=
  Below w0.heap.size w0 W ∧ W.heap[g1]? = some (.cells #[.slice At ts.length ct] 45 (0, 0)) ∧ W.heap[g2]? = some (.cells #[v] 98 (0, 0)) ∧ Kd.S (Kd.slice 23 (Kd.slice 3 (Kd.int .i64))) 45 W w0.heap.size ok v s ∧ (∀ q, ok q → q ≠ g1 ∧ q ≠ g2 ∧ q < W.heap.size) ∧ s.length = ts.length
theorem fac1I.below {w0 W W1 : World} {At : Option Addr} {ct : Nat} {ts : List (List Int)} {g1 g2 : Nat} {v : Value} {s : List (List (List Int))} {ok : Nat → Prop} (h : fac1I w0 At ct ts g1 g2 v s W ok) (hb : Below W.heap.size W W1) : fac1I w0 At ct ts g1 g2 v s W1 ok := by
  obtain ⟨h1, h2, h3, h4, h5, h6⟩ := h
  exact ⟨below_step h1 hb, blk_below h2 hb, blk_below h3 hb, Kd.S_below h4 hb, fun q hq => ⟨(h5 q hq).1, (h5 q hq).2.1, Nat.lt_of_lt_of_le (h5 q hq).2.2 hb.size⟩, h6⟩
set_option maxHeartbeats 8000000 in
set_option maxRecDepth 100000 in
theorem fac1.calls (w0 : World) (At : Option Addr) (ct : Nat) (ts : List (List Int)) (g1 g2 : Nat) (v : Value) (hts : Kd.C (Kd.slice 3 (Kd.int .i64)) w0 At ts.length ts) (hct : ts.length ≤ ct)
    (k : Nat) (s s' : List (List (List Int))) (p : List Int) (A : Option Addr) (c : Nat) (w : World) (ok : Nat → Prop) (hI : fac1I w0 At ct ts g1 g2 v s w ok) (hp : ∀ W', Kept w W' ok → Kd.C (Kd.int .i64) W' A p.length p) (hc : p.length ≤ c) (h : fac1L k ts p s 0 = some s') :
    Calls Try.prog 139 #[.slice A p.length c, .pointer (some ⟨g1, 0, none⟩), .pointer (some ⟨g2, 0, none⟩)] w fun e w' => e = .returned (.tuple #[]) ∧ ∃ ok', fac1I w0 At ct ts g1 g2 v s' w' ok' ∧ (∀ q, ok' q → ok q ∨ w.heap.size ≤ q) ∧ Kept w w' ok := by
  have HTS := Az hts; have HCT := Az hct; have HIV := Az hI; have HP := Az hp; have HC0 := Az hc; have H' := Az h; have hcz0 : w.cell? ⟨g1, 0, none⟩ = some (.slice At ts.length ct) := (blk_cell hI.2.1 0).trans rfl; clear hts hct hI hp hc h
  go_enter Try.func139, Try.ntmps139
  go_wp2
  clear hcz0
  go_loopg [8] k (fun kq v8 w' => ∃ (i : Int) (cs : List (List (List Int))) (ok1 : Nat → Prop), v8 = .int .i64 i ∧ Aside0 (fac1L kq ts p cs i = some s') ∧ Aside0 (kq ≤ k) ∧ Aside0 (fac1I w0 At ct ts g1 g2 v cs w' ok1) ∧ Aside0 (∀ q, ok1 q → ok q ∨ w.heap.size ≤ q) ∧ Aside0 (Kept w w' ok))
  case atStart => exact ⟨(0), s, ok, rfl, H', ⟨Nat.le_refl _⟩, HIV, ⟨fun q h => Or.inl h⟩, ⟨Kept.refl w ok⟩⟩
  case round =>
    clear H' HIV; obtain ⟨i, cs, ok1, rfl, HA, HK1, HIV, HOK, HKP⟩ := hrel
    cases gk with
    | zero => exact absurd HA.out (by simp [fac1L])
    | succ k1 =>
      have H := HA.out; clear HA; simp only [fac1L] at H; obtain ⟨wB, hwB⟩ : ∃ W_ : World, W_ = wr := ⟨wr, rfl⟩; have HB : Aside0 (Below wB.heap.size wB wr) := ⟨by rw [hwB]; exact Below.refl _ _⟩; have HR0 : Aside0 (Kd.C (Kd.int .i64) wB A p.length p) := ⟨by rw [hwB]; exact HP.out wr HKP.out⟩; replace HIV : Aside0 (fac1I w0 At ct ts g1 g2 v cs wB ok1) := ⟨by rw [hwB]; exact HIV.out⟩; replace HKP : Aside0 (Kept w wB ok) := ⟨by rw [hwB]; exact HKP.out⟩
      by_cases c1 : i < (ts.length : Int)
      ·
        rw [if_pos c1] at H; have c1b0 := decide_eq_true c1
        by_cases c2 : 0 ≤ i
        ·
          rw [if_pos c2] at H; obtain ⟨t, A30, H⟩ := Option.bind_eq_some_iff.mp H; have A3 := Az A30; clear A30; obtain ⟨b, A40, H⟩ := Option.bind_eq_some_iff.mp H; have A4 := Az A40; clear A40; obtain ⟨ad, A5, c5, e5, hx5, hl5, hi5⟩ := at_S (Kd.C_below HTS.out HIV.out.1) i c2 c1
          cases e5
          have HR5 := Az hi5; have HC5 := Az hl5; clear hi5 hl5
          have hx5' : wr.cell? (ad.add i.toNat) = some (.slice A5 (rdS ts i).length c5) := by rw [← hwB]; exact hx5
          clear hx5 hwB; have p5 := eq_true c2; have q5 := eq_true c1
          cases b with
          | false =>
            rw [if_neg (by decide)] at H; have H' := Az H; clear H c1 c2
            go_wp2_with (first | (go_at_call 86; (with_reducible refine (impl_typeOf.calls k1 _ _ p t _ ?side1 ?side2 A3.out).mono ?_); (case side1 => exact Kd.C_below HR0.out (bU0 HB.out)); (case side2 => exact HC0.out); rintro e w1 ⟨v1, rfl, ho, hb⟩; obtain ⟨A1, d1, ev1⟩ := Kd.R_slice ho; subst ev1; have HO1 := Az ho; have n0_ := Az (below_step (bU0 HB.out) hb); clear HB; have HB := n0_; clear n0_ ho hb) | (go_at_call 105; (with_reducible refine (slices_Equal_int_int.calls k1 _ _ t _ _ (rdS ts i) false _ ?side1 ?side2 ?side3 ?side4 A4.out).mono ?_); (case side1 => exact (Kd.R_reads' HO1.out).2.2); (case side2 => exact (Kd.R_reads' HO1.out).2.1); (case side3 => exact Kd.C_below HR5.out (bU0 HB.out)); (case side4 => exact HC5.out); rintro e w' ⟨rfl, ⟨nd, rfl⟩⟩))
            (first | go_roundg k1 | (refine Handed.intro k1 ?measure ?_; rotate_left; go_step; (try simp only [add_plain]); (repeat apply Exists.intro); refine ⟨?rel, rfl⟩))
            case measure => have := HK1.out; omega
            case rel => exact ⟨(wrap64 (i + 1)), cs, ok1, rfl, H', ⟨by have := HK1.out; omega⟩, ⟨fac1I.below HIV.out (bU0 HB.out)⟩, HOK, ⟨Kept.below HKP.out (bU0 HB.out)⟩⟩
          | true =>
            rw [if_pos rfl] at H; obtain ⟨c6, A60, H⟩ := Option.bind_eq_some_iff.mp H; have A6 := Az A60; clear A60
            by_cases c7 : (cs.getD i.toNat []).length < 5864062014805
            ·
              rw [if_pos c7] at H; obtain ⟨hB1, hb1, hb2, hS1, hok1, hl1⟩ := HIV.out; obtain ⟨go, cap, ev, gb, glt, cells, hcells⟩ := Kd.S_form hS1 (by omega); subst ev; obtain ⟨oki, ce, hcl, hM, hcc, hoki, hH⟩ := Kd.S_lend (Kd.S_mono (ok' := fun q => ok1 q ∨ wB.heap.size ≤ q) hS1 (fun q hq => Or.inl hq)) ([] : List (List Int)) i c2 (by omega); obtain ⟨row, hrow⟩ : ∃ r_ : List (List Int), r_ = cs.getD i.toNat [] := ⟨_, rfl⟩; rw [← hrow] at hM c7 H; obtain ⟨vr, rfl, hR⟩ := hM; obtain ⟨Ar, cr, er⟩ := Kd.R_slice hR; subst er; have HCE : Aside0 (wB.cell? ⟨go, i.toNat, none⟩ = some (.slice Ar row.length cr)) := ⟨by have h_ := hcc 0 _ rfl; simpa [Kd.slice] using h_⟩; have HG2 : Aside0 (wB.cell? ⟨g2, 0, none⟩ = some (.slice (some ⟨go, 0, none⟩) cs.length cap)) := ⟨(blk_cell hb2 0).trans rfl⟩; have LG2 : Aside0 (g2 < wB.heap.size) := ⟨blk_lt hb2⟩; have LG1 : Aside0 (g1 < wB.heap.size) := ⟨blk_lt hb1⟩; have GB := Az gb; have GO1 : Aside0 (ok1 go) := ⟨(Kd.S_R hS1).1 go (by simp [Value.ownBlock])⟩; have HG1 := Az hb1; have HGB2 := Az hb2; have HOKI := Az hoki; have UU := Az hR; have HH := Az (Kd.H_widen hH); have HL1 := Az hl1; have OK1 := Az hok1; have HB0 := Az hB1
              have hq5 : i < (cs.length : Int) := by omega
              have q6 := eq_true hq5; clear hrow hcl hcc hH hR hoki hcells gb glt hS1 hok1 hl1 hb1 hb2 hB1; have H' := Az H; have LM7 := Az c7; clear H c1 c2 c7
              go_wp2_with (first | (go_at_call 86; (with_reducible refine (impl_typeOf.calls k1 _ _ p t _ ?side1 ?side2 A3.out).mono ?_); (case side1 => exact Kd.C_below HR0.out (bU0 HB.out)); (case side2 => exact HC0.out); rintro e w1 ⟨v1, rfl, ho, hb⟩; obtain ⟨A1, d1, ev1⟩ := Kd.R_slice ho; subst ev1; have HO1 := Az ho; have n0_ := Az (below_step (bU0 HB.out) hb); clear HB; have HB := n0_; clear n0_ ho hb) | (go_at_call 105; (with_reducible refine (slices_Equal_int_int.calls k1 _ _ t _ _ (rdS ts i) true _ ?side1 ?side2 ?side3 ?side4 A4.out).mono ?_); (case side1 => exact (Kd.R_reads' HO1.out).2.2); (case side2 => exact (Kd.R_reads' HO1.out).2.1); (case side3 => exact Kd.C_below HR5.out (bU0 HB.out)); (case side4 => exact HC5.out); rintro e w' ⟨rfl, ⟨nd, rfl⟩⟩))
              refine start_ (n := 12) (S := fun w' => w'.cell? ⟨g2, 0, none⟩ = some (.slice (some ⟨go, 0, none⟩) cs.length cap) ∧ w'.cell? ⟨go, i.toNat, none⟩ = some (.slice Ar row.length cr)) (ds := [11]) #[false, false, false, false, false, false, false, false, false, false, false, false] (by kernel_rfl) rfl rfl ⟨pw_cell_below (bU0 HB.out) HG2.out, pw_cell_below (bU0 HB.out) HCE.out⟩ (fun hHeld => ?_)
              refine pure_ (i := 1) (N := some 18) (v := ?_) (a' := ?_) #[false, true, false, false, false, false, false, false, false, false, false, false] rfl rfl (by kernel_rfl) (fun _ _ _ h => h) (Or.inl ⟨by rfl, ?_⟩) ?_ ?_
              rotate_left
              ·
               intro w'
               go_simp
               with_reducible rfl
              rotate_left
              ·
               simp only [Act.put, List.setIfInBounds_toArray, List.set_cons_zero, List.set_cons_succ, i64_w, i32_w]
               rfl
              refine pure_ (i := 3) (N := some 20) (v := ?_) (a' := ?_) #[false, true, false, true, false, false, false, false, false, false, false, false] rfl rfl (by kernel_rfl) (fun _ _ _ h => h) (Or.inl ⟨by rfl, ?_⟩) ?_ ?_
              rotate_left
              ·
               intro w'
               go_simp
               with_reducible rfl
              rotate_left
              ·
               simp only [Act.put, List.setIfInBounds_toArray, List.set_cons_zero, List.set_cons_succ, i64_w, i32_w]
               rfl
              refine pure_ (i := 6) (N := some 23) (v := ?_) (a' := ?_) #[false, true, false, true, false, false, true, false, false, false, false, false] rfl rfl (by kernel_rfl) (fun _ _ _ h => h) (Or.inl ⟨by rfl, ?_⟩) ?_ ?_
              rotate_left
              ·
               intro w'
               go_simp
               with_reducible rfl
              rotate_left
              ·
               simp only [Act.put, List.setIfInBounds_toArray, List.set_cons_zero, List.set_cons_succ, i64_w, i32_w]
               rfl
              refine take_ (i := 0) (N := some 17) (v := ?_) (a' := ?_) #[true, true, false, true, false, false, true, false, false, false, false, false] rfl rfl (by kernel_rfl) (fun _ _ _ h => h) (Or.inl ⟨by rfl, ?_⟩) hHeld ?_ ?_
              rotate_left
              ·
               intro w' s0
               obtain ⟨s0, s1⟩ := s0
               go_simp
               with_reducible rfl
              rotate_left
              ·
               simp only [Act.put, List.setIfInBounds_toArray, List.set_cons_zero, List.set_cons_succ, i64_w, i32_w]
               rfl
              refine take_ (i := 2) (N := some 19) (v := ?_) (a' := ?_) #[true, true, true, true, false, false, true, false, false, false, false, false] rfl rfl (by kernel_rfl) (fun _ _ _ h => h) (Or.inl ⟨by rfl, ?_⟩) hHeld ?_ ?_
              rotate_left
              ·
               intro w' s0
               obtain ⟨s0, s1⟩ := s0
               go_simp
               with_reducible rfl
              rotate_left
              ·
               simp only [Act.put, List.setIfInBounds_toArray, List.set_cons_zero, List.set_cons_succ, i64_w, i32_w]
               rfl
              refine pure_ (i := 4) (N := some 21) (v := ?_) (a' := ?_) #[true, true, true, true, true, false, true, false, false, false, false, false] rfl rfl (by kernel_rfl) (fun _ _ _ h => h) (Or.inl ⟨by rfl, ?_⟩) ?_ ?_
              rotate_left
              ·
               intro w'
               go_simp
               with_reducible rfl
              rotate_left
              ·
               simp only [Act.put, List.setIfInBounds_toArray, List.set_cons_zero, List.set_cons_succ, i64_w, i32_w]
               rfl
              refine take_ (i := 5) (N := some 22) (v := ?_) (a' := ?_) #[true, true, true, true, true, true, true, false, false, false, false, false] rfl rfl (by kernel_rfl) (fun _ _ _ h => h) (Or.inl ⟨by rfl, ?_⟩) hHeld ?_ ?_
              rotate_left
              ·
               intro w' s0
               obtain ⟨s0, s1⟩ := s0
               go_simp
               with_reducible rfl
              rotate_left
              ·
               simp only [Act.put, List.setIfInBounds_toArray, List.set_cons_zero, List.set_cons_succ, i64_w, i32_w]
               rfl
              refine one_ (i := 7) (N := some 24) #[true, true, true, true, true, true, true, true, false, false, false, false] rfl rfl (by kernel_rfl) (by decide) (fun K hK => ?_)
              refine goes_ Try.func68 (by kernel_rfl) rfl #[.slice A p.length c] (by rfl) rfl rfl (by (try simp only [List.map_toArray, List.map_cons, List.map_nil]); first | done | rfl | (simp only [List.length_drop, List.length_take]; rfl)) ?_
              with_reducible refine (slices_Clone_int_int.calls _ _ p c6 _ ?side1 ?side2 A6.out).mono ?_
              (case side1 => exact Kd.C_below HR0.out (bU0 HB.out))
              (case side2 => exact HC0.out)
              rintro e w3 ⟨v3, rfl, ho, hb⟩
              refine ⟨_, rfl, ?_⟩
              obtain ⟨A8, c8, ev3⟩ := Kd.R_slice ho; subst ev3; have HO3 := Az (Kd.R_lower ho (below_size (bU0 HB.out))); have n0_ := Az (below_step (bU0 HB.out) hb); clear HB; have HB := n0_; clear n0_ ho hb
              refine hK.out _ _ ⟨pw_cell_below (bU0 HB.out) HG2.out, pw_cell_below (bU0 HB.out) HCE.out⟩ (fun hHeld => ?_)
              clear hK K
              refine norm_ (a' := ?_) ?_ ?_
              rotate_left
              ·
               show Act.put _ (some 24) _ = _
               simp only [Act.put, List.setIfInBounds_toArray, List.set_cons_zero, List.set_cons_succ, i64_w, i32_w]
               rfl
              refine one_ (i := 8) (N := some 25) #[true, true, true, true, true, true, true, true, true, false, false, false] rfl rfl (by kernel_rfl) (by decide) (fun K hK => ?_)
              refine value_ (v := .slice (some ⟨w3.heap.size, 0, none⟩) 1 1) (w1 := w3.alloc (.cells #[.slice A8 c6.length c8] 23 (0, 0))) (by rfl) rfl (by first | (go_simp; done) | (go_simp; rfl)) ?_
              refine hK.out _ _ ⟨pw_cell_below (bU0 HB.out) HG2.out, pw_cell_below (bU0 HB.out) HCE.out⟩ (fun hHeld => ?_)
              clear hK K
              refine norm_ (a' := ?_) ?_ ?_
              rotate_left
              ·
               show Act.put _ (some 25) _ = _
               simp only [Act.put, List.setIfInBounds_toArray, List.set_cons_zero, List.set_cons_succ, i64_w, i32_w]
               rfl
              obtain ⟨y9, hy9⟩ : ∃ y_ : List (List Int), y_ = row ++ [c6] := ⟨_, rfl⟩; rw [← hy9] at H'; have Ny9 := Az hy9; clear hy9
              refine one_ (i := 9) (N := some 26) #[true, true, true, true, true, true, true, true, true, true, false, false] rfl rfl (by kernel_rfl) (by decide) (fun K hK => ?_)
              refine Kd.R_append_step (Kd.slice 3 (Kd.int .i64)) (w0 := w0) w0.heap.size (by rfl) (.tmp 22) (.tmp 25) 45 23 (.slice none 0 0) 24 rfl Try.underlying45 infoF23 rfl (by decide) (by omega) (.slice Ar row.length cr) row c6 [.slice A8 c6.length c8] (fun q => oki q ∨ (ok1 q ∨ wB.heap.size ≤ q) ∧ wB.heap.size ≤ q) (fun q => wB.heap.size ≤ q ∧ some q ≠ (.slice Ar row.length cr : Value).ownBlock) rfl rfl ?aP ?aQ ?aF ?aO ?aB ?aS ?aL ?_
              (case aP => exact Kd.M_row (Kd.R_lower (Kd.R_mono (Kd.R_bound HO3.out) (fun q hq => ⟨hq.2.1, fun e_ => by have := Kd.R_lt UU.out q e_.symm; have := hq.2.1; omega⟩)) HB0.out.size))
              (case aQ => exact fun q hq => ⟨Or.inr ⟨Or.inr hq.1, hq.1⟩, hq.2⟩)
              (case aF => exact fun q hq => Or.inr ⟨Or.inr (Nat.le_trans HB.out.size hq), Nat.le_trans HB.out.size hq⟩)
              (case aO => exact Kd.R_mono (Kd.R_below UU.out HB.out) (fun _ h_ => Or.inl h_))
              (case aB => exact below_step HB0.out HB.out)
              (case aS => exact (below_step HB0.out HB.out).size)
              (case aL => have := LM7.out; omega)
              intro v4 w4 ho hb hg hat
              rw [← Ny9.out] at ho; obtain ⟨A9, c9, ev4⟩ := Kd.R_slice ho; subst ev4; have HH4 := Az (Kd.H_grown (Kd.H_below HH.out HB.out) hg (fun q e_ => Or.inl (UU.out.1 q e_))); have HK4 : Aside0 (Kept wB w4 oki) := ⟨Kept.of_grown hg (Kept.of_below HB.out _) (fun q e_ => Or.inl (UU.out.1 q e_))⟩; have HO4 := Az ho; have HB4 := Az hb; clear ho hb hg hat HB HH HO1 HO3; have NG2 : Aside0 (¬ oki g2) := ⟨fun h_ => ((HOKI.out _ h_).1).elim (fun h2 => (OK1.out _ h2).2.1 rfl) (fun h2 => by have := LG2.out; omega)⟩; have NG1 : Aside0 (¬ oki g1) := ⟨fun h_ => ((HOKI.out _ h_).1).elim (fun h2 => (OK1.out _ h2).1 rfl) (fun h2 => by have := LG1.out; omega)⟩; have NGO : Aside0 (¬ oki go) := ⟨fun h_ => (HOKI.out _ h_).2 rfl⟩
              refine hK.out _ _ ⟨cell_kept HG2.out HK4.out NG2.out, cell_kept HCE.out HK4.out NGO.out⟩ (fun hHeld => ?_)
              clear hK K
              refine norm_ (a' := ?_) ?_ ?_
              rotate_left
              ·
               show Act.put _ (some 26) _ = _
               simp only [Act.put, List.setIfInBounds_toArray, List.set_cons_zero, List.set_cons_succ, i64_w, i32_w]
               rfl
              refine pure_ (i := 10) (N := some 27) (v := ?_) (a' := ?_) #[true, true, true, true, true, true, true, true, true, true, true, false] rfl rfl (by kernel_rfl) (fun _ _ _ h => h) (Or.inl ⟨by rfl, ?_⟩) ?_ ?_
              rotate_left
              ·
               intro w'
               go_simp
               with_reducible rfl
              rotate_left
              ·
               simp only [Act.put, List.setIfInBounds_toArray, List.set_cons_zero, List.set_cons_succ, i64_w, i32_w]
               rfl
              obtain ⟨hx5, hf5⟩ := Kd.H_at HH4.out (of_eq_true p5) (of_eq_true q6); have hx6 := hx5 0 _ rfl; have hf6 := hf5 0; rw [show (Kd.slice 23 (Kd.slice 3 (Kd.int .i64))).sz = 1 from rfl, Nat.mul_one, Nat.add_zero] at hx6 hf6; clear hx5 hf5; have HP5 := Az (Kd.S_seg0 HH4.out (of_eq_true p5) (of_eq_true q6) (seg := [.slice A9 y9.length c9]) (j := 0) (show 1 ≤ 1 from by decide) (x' := y9) (Kd.M_row HO4.out) (fun _ hk => hk))
              refine last_ (i := 11) (N := none) #[true, true, true, true, true, true, true, true, true, true, true, true] rfl rfl (by kernel_rfl) (by decide) (fun K hK => ?_)
              refine skip_ (w1 := w4.setCell ⟨go, i.toNat, none⟩ (.slice A9 y9.length c9)) (by rfl) rfl ?_ ?_
              ·
               first | (go_simp; done) | (go_simp; rfl)
              refine hK.out _ _ ?_
              clear hK K
              refine done_ (by kernel_rfl) ?_
              have HS5 : Aside0 (Kd.S (Kd.slice 23 (Kd.slice 3 (Kd.int .i64))) 45 (w4.setCell ⟨go, i.toNat, none⟩ (.slice A9 y9.length c9)) w0.heap.size (fun q => ok1 q ∨ wB.heap.size ≤ q) (.slice (some ⟨go, 0, none⟩) cs.length cap) (cs.set i.toNat y9)) := ⟨by have h_ := HP5.out.1; rw [show (Kd.slice 23 (Kd.slice 3 (Kd.int .i64))).sz = 1 from rfl, Nat.mul_one, Nat.add_zero] at h_; exact h_⟩; have HK5 : Aside0 (Kept wB (w4.setCell ⟨go, i.toNat, none⟩ (.slice A9 y9.length c9)) (fun q => oki q ∨ q = go)) := ⟨Kept.setCell (S := fun q => oki q ∨ q = go) (p := ⟨go, i.toNat, none⟩) (Kept.mono HK4.out (fun q hq => Or.inl hq)) (Or.inl (Or.inr rfl)) _⟩; have HB5 : Aside0 (Below w0.heap.size w0 (w4.setCell ⟨go, i.toNat, none⟩ (.slice A9 y9.length c9))) := ⟨below_set HB4.out GB.out⟩; clear HP5 HH4 HO4 hx6 hf6 hHeld
              generalize w4.setCell ⟨go, i.toNat, none⟩ (.slice A9 y9.length c9) = w5 at HS5 HK5 HB5 ⊢
              try go_wp2
              (first | go_roundg k1 | (refine Handed.intro k1 ?measure ?_; rotate_left; go_step; (try simp only [add_plain]); (repeat apply Exists.intro); refine ⟨?rel, rfl⟩))
              case measure => have := HK1.out; omega
              case rel =>
               refine ⟨(wrap64 (i + 1)), cs.set i.toNat y9, (fun q => (ok1 q ∨ wB.heap.size ≤ q) ∧ q < w5.heap.size), rfl, H', ⟨by have := HK1.out; omega⟩, ⟨HB5.out, blk_kept HG1.out HK5.out ?_, blk_kept HGB2.out HK5.out ?_, Kd.S_mono (Kd.S_bound HS5.out) (fun q hq => ⟨hq.1, hq.2.2.1⟩), fun q hq => ⟨?_, ?_, hq.2⟩, by rw [List.length_set]; exact HL1.out⟩, ⟨fun q hq => hq.1.elim (HOK.out q) (fun h2 => Or.inr (Nat.le_trans HKP.out.1 h2))⟩, ⟨Kept.then_ HKP.out HK5.out (fun q hq => hq.elim (fun h2 => (HOKI.out q h2).1.elim (HOK.out q) (fun h3 => Or.inr (Nat.le_trans HKP.out.1 h3))) (fun h2 => by rw [h2]; exact HOK.out _ GO1.out))⟩⟩
               ·
                 exact fun h2 => h2.elim NG1.out (fun h3 => (OK1.out _ GO1.out).1 h3.symm)
               ·
                 exact fun h2 => h2.elim NG2.out (fun h3 => (OK1.out _ GO1.out).2.1 h3.symm)
               ·
                 exact hq.1.elim (fun h2 => (OK1.out _ h2).1) (fun h2 h3 => by have := LG1.out; omega)
               ·
                 exact hq.1.elim (fun h2 => (OK1.out _ h2).2.1) (fun h2 h3 => by have := LG2.out; omega)
            ·
              rw [if_neg c7] at H
              exact absurd H (by simp)
        ·
          rw [if_neg c2] at H
          exact absurd H (by simp)
      ·
        rw [if_neg c1] at H; have c1b0 := decide_eq_false c1; clear c1; obtain rfl := Option.some.inj H
        go_wp2
        first | go_end0 | ((try simp only [Exit.inBlock, Exit.then]); refine bodyPost_ret (results_none rfl _ _ _) rfl ?_)
        exact ⟨rfl, ok1, fac1I.below HIV.out (bU0 HB.out), HOK.out, Kept.below HKP.out (bU0 HB.out)⟩
set_option maxHeartbeats 8000000 in
set_option maxRecDepth 100000 in
theorem clone2.calls (A0 : Option Addr) (c0 : Nat) (l0 : List (List Int)) (w : World) (foot : Nat → Prop) (hr0 : Kd.F (Kd.slice 3 (Kd.int .i64)) w foot A0 l0.length l0) (hc0 : l0.length ≤ c0) (h : l0.length < 5864062014805) :
    Calls Try.prog 141 #[.slice A0 l0.length c0] w fun e w' => ∃ v0_ : Value, e = .returned (v0_) ∧ Kd.N (Kd.slice 3 (Kd.int .i64)) 23 w' w.heap.size (fun q => (foot q ∧ q < w.heap.size) ∨ w.heap.size ≤ q) v0_ l0 ∧ Below w.heap.size w w' := by
  have HR0 := Az (Kd.F_bound hr0); have HC0 := Az hc0; have LM0 := Az h
  have hnil : A0 = none → l0 = [] := by
    intro e
    have h' := (Kd.F_now hr0).2.2
    by_cases hn : 0 < l0.length
    ·
      obtain ⟨ad, e2, _⟩ := h' hn; rw [e] at e2
      cases e2
    ·
      exact List.eq_nil_of_length_eq_zero (by omega)
  clear hr0 hc0 h; have HB := Az (Below.refl w.heap.size w)
  cases A0 with
  | none =>
    obtain rfl := hnil rfl
    have he : ∀ w : World, (binOp .eql 45 (.slice none 0 c0) (.slice none 0 0)).run Try.prog w = .ok (.bool true) w := fun _ => rfl
    go_enter Try.func141, Try.ntmps141
    go_wp2
    go_ret
    exact ⟨_, rfl, Kd.N_nil _ _ _ _ _, HB.out⟩
  | some ad =>
    clear hnil
    have he : ∀ w : World, (binOp .eql 45 (.slice (some ad) l0.length c0) (.slice none 0 0)).run Try.prog w = .ok (.bool false) w := fun _ => rfl
    go_enter Try.func141, Try.ntmps141
    go_wp2_with (first | ((with_reducible refine gate_dst (N := 5) rfl ?_); refine Kd.N_lit (Kd.slice 3 (Kd.int .i64)) (w0 := w) w.heap.size 23 ?hg (N' := 5) ?hd (xs := ([] : List (List Int))) (inner := []) (ok := fun q => (foot q ∧ q < w.heap.size) ∨ w.heap.size ≤ q) (okp := fun _ => False) ?hr ?hp (fun _ hk => hk.elim) (Or.inr (below_size (bU0 HB.out))) (bU0 HB.out) (below_size (bU0 HB.out)) (by simp) ?_; (case hd => rfl); (case hg => rfl); (case hr => first | (go_simp; done) | (go_simp; rfl)); (case hp => exact (Reps.none _ _)); intro v189 w3 ho hb hg_ hnew_; have n0_ := Az hb; have n1_ := Az ho; have n2_ := Az (Kd.N_base ho); clear HB hg_ hnew_ ho hb; have HB := n0_; have HO := n1_; have HN := n2_; clear n0_ n1_ n2_) | ((with_reducible refine gate_builtin (b := .append) (xs := #[.tmp 5, .tmp 6]) rfl ?_); at_builtin; refine Kd.N_append_rows (Kd.slice 3 (Kd.int .i64)) (w0 := w) w.heap.size rfl (.tmp 5) (.tmp 6) 45 23 (.slice none 0 0) 24 rfl Try.underlying45 infoF23 rfl (by decide) (by omega) v189 [] l0 _ _ _ (fun q => (foot q ∧ q < w.heap.size) ∨ w.heap.size ≤ q) (fun q => foot q ∧ q < w.heap.size) rfl rfl ?aO ?aR ?aP ?aF ?aB ?aS ?aL ?_; (case aR => exact Kd.F_below HR0.out (bU0 HB.out)); (case aO => exact HO.out); (case aP => exact fun q hq => ⟨Or.inl hq, fun e_ => by have := HN.out q e_.symm; have := hq.2; omega⟩); (case aF => exact fun q hq => Or.inr (Nat.le_trans (below_size (bU0 HB.out)) hq)); (case aB => exact (bU0 HB.out)); (case aS => exact below_size (bU0 HB.out)); (case aL => have := LM0.out; simp only [List.length_nil]; omega); intro v192 w5 ho hb hg hat; have n0_ := Az (hb); have n1_ := Az (ho); clear HB HO ho hb hg hat; have HB := n0_; have HO := n1_; clear n0_ n1_))
    go_ret
    exact ⟨_, rfl, by simpa using HO.out, HB.out⟩
theorem F_at1 {α : Type} {d : Kd α} {e : Nat} {W : World} {ok : Nat → Prop} {A : Option Addr} {n : Nat} {xs : List (List α)} (h : Kd.F (Kd.slice e d) W ok A n xs) (i : Int) (h0 : 0 ≤ i) (h1 : i < n) : ∃ ad A1 c1, A = some ad ∧ W.cell? (ad.add i.toNat) = some (.slice A1 (xs.getD i.toNat []).length c1) ∧ (xs.getD i.toNat []).length ≤ c1 ∧ Kd.F d W ok A1 (xs.getD i.toNat []).length (xs.getD i.toNat []) := by
  obtain ⟨ad, c, e, hcl, hK, hc, _⟩ := Kd.F_get h ([] : List α) i h0 h1; obtain ⟨A1, c1, rfl, hl, hF⟩ := Kd.FK_slice_open hK
  exact ⟨ad, A1, c1, e, by have hq := hc 0 _ rfl; simpa [Kd.slice] using hq, hl, hF⟩
theorem F_keep1 {α : Type} {d : Kd α} {W W1 : World} {ok ok1 : Nat → Prop} {A : Option Addr} {n : Nat} {xs : List α} (h : Kd.F d W (fun q => ¬ ok q) A n xs) (hk : Kept W W1 ok) (hn : ∀ q, ok1 q → ok q ∨ W.heap.size ≤ q) : Kd.F d W1 (fun q => ¬ ok1 q) A n xs :=
  Kd.F_mono (Kd.F_kept (Kd.F_bound h) hk (fun q hq => hq.1)) (fun q hq h1 => (hn q h1).elim hq.1 (fun h2 => by have := hq.2; omega))
theorem goesVL_ {P : Program} {ops : Array Oper} {Q : Exit → Act → World → Prop} {rest : List Oper} {oi : Oper} {a : Act} {w : World} (N : Option Tmp) (hd : oi.dst = N) (hg : oi.guard = none) {f : FuncId} {fn : Func} {xs : Array Operand} {ts : Array TypeId} {cp : Array Value} {op : Operand} (hf : P.funcs[f]? = some fn) (hname : (fn.name == "runtime.NumGoroutine") = false) (hb : fn.body.isSome = true) (args : Array Value)
    (hop : oi.op = .call { callee := .value op, args := xs, argTypes := ts }) (hv : a.eval op = .func (.func f) #[] cp) (hargs : xs.map a.eval ++ cp = args)
    (h : Calls P f args w fun e w' => ∃ v, e = .returned v ∧ wpList P ops Q rest (a.put N v) w') : wpList P ops Q (oi :: rest) a w := by
  refine wpList_plain hg fun K hK => ?_
  have he := enters_ hf hname hb args w
  have hrun : (execOp a.eval oi).run P w = .ok (.enter f args) w := by
    unfold execOp
    simp [hop, resolve, Deferred.ofValue, invoke, hv, hargs, he]
  unfold Oper.wp
  rw [hrun, Oper.upon_enter]
  refine h.mono fun e w'' hh => ?_
  obtain ⟨v, rfl, hk⟩ := hh; subst hd
  exact hK _ _ hk
mutual
def facG {σ : Type} (step : Nat → σ → List (List Int) → Option σ) (ts : List (List Int)) (n : Int) (cs : List (List (List Int))) : Nat → σ → List (List Int) → List Int → Option σ
  | 0, _, _, _ => none
  | k + 1, s, l, p => if (l.length : Int) = (ts.length : Int) then ((impl_still.f k n).bind fun t => ((slices_Equal_int_int.f k p t).bind fun b => (if b = true then step k s l else some s))) else (if (l.length : Int) < (cs.length : Int) then facL step ts n cs k s l p (cs.getD l.length []) 0 else none)
def facL {σ : Type} (step : Nat → σ → List (List Int) → Option σ) (ts : List (List Int)) (n : Int) (cs : List (List (List Int))) : Nat → σ → List (List Int) → List Int → List (List Int) → Int → Option σ
  | 0, _, _, _, _, _ => none
  | k + 1, s, l, p, row, i => if i < (row.length : Int) then (if 0 ≤ i then (if l.length < 5864062014805 then ((impl_mul.f k p (rdS row i)).bind fun q => ((facG step ts n cs k s (l ++ [rdS row i]) q).bind fun s' => facL step ts n cs k s' l p row (wrap64 (i + 1)))) else none) else none) else some s
end
set_option maxHeartbeats 8000000 in
set_option maxRecDepth 100000 in
theorem fac2.calls {σ : Type} (step : Nat → σ → List (List Int) → Option σ) (Inv : σ → World → (Nat → Prop) → Prop) (TF : Nat) (fnT : Func) (hfT : Try.prog.funcs[TF]? = some fnT) (hnT : (fnT.name == "runtime.NumGoroutine") = false) (hbT : fnT.body.isSome = true) (gm : Nat)
  (hI : ∀ s W W' ok, Inv s W ok → Below W.heap.size W W' → Inv s W' ok) (hL : ∀ s W ok q, Inv s W ok → ok q → q < W.heap.size)
  (hT : ∀ (k : Nat) (s s' : σ) (l : List (List Int)) (A : Option Addr) (c : Nat) (W : World) (ok : Nat → Prop), Inv s W ok → Kd.F (Kd.slice 3 (Kd.int .i64)) W (fun q => ¬ ok q) A l.length l → l.length ≤ c → step k s l = some s' → Calls Try.prog TF #[.slice A l.length c, .pointer (some ⟨gm, 0, none⟩)] W fun e w' => e = .returned (.tuple #[]) ∧ ∃ ok', Inv s' w' ok' ∧ (∀ q, ok' q → ok q ∨ W.heap.size ≤ q) ∧ Kept W w' ok)
  (gt gn gl gc gy : Nat) (At : Option Addr) (ct : Nat) (ts : List (List Int)) (n : Int) (Ac : Option Addr) (cc : Nat) (cs : List (List (List Int))) :
  ∀ (k : Nat) (s s' : σ) (A0 : Option Addr) (c0 : Nat) (l : List (List Int)) (A1 : Option Addr) (c1 : Nat) (p : List Int) (w : World) (ok : Nat → Prop), Inv s w ok → ¬ ok gt → ¬ ok gn → ¬ ok gl → ¬ ok gc → ¬ ok gy → w.heap[gt]? = some (.cells #[.slice At ts.length ct] 45 (0, 0)) → w.heap[gn]? = some (.cells #[.int .i64 n] 3 (0, 0)) → w.heap[gl]? = some (.cells #[.func (.func TF) #[] #[.pointer (some ⟨gm, 0, none⟩)]] 76 (0, 0)) → w.heap[gc]? = some (.cells #[.slice Ac cs.length cc] 98 (0, 0)) → w.heap[gy]? = some (.cells #[.func (.func 140) #[] #[.pointer (some ⟨gt, 0, none⟩), .pointer (some ⟨gn, 0, none⟩), .pointer (some ⟨gl, 0, none⟩), .pointer (some ⟨gc, 0, none⟩), .pointer (some ⟨gy, 0, none⟩)]] 100 (0, 0)) → Kd.F (Kd.slice 3 (Kd.int .i64)) w (fun q => ¬ ok q) A0 l.length l → l.length ≤ c0 → Kd.F (Kd.int .i64) w (fun q => ¬ ok q) A1 p.length p → p.length ≤ c1 → Kd.F (Kd.slice 23 (Kd.slice 3 (Kd.int .i64))) w (fun q => ¬ ok q) Ac cs.length cs → facG step ts n cs k s l p = some s' →
  Calls Try.prog 140 #[.slice A0 l.length c0, .slice A1 p.length c1, .pointer (some ⟨gt, 0, none⟩), .pointer (some ⟨gn, 0, none⟩), .pointer (some ⟨gl, 0, none⟩), .pointer (some ⟨gc, 0, none⟩), .pointer (some ⟨gy, 0, none⟩)] w fun e w' => e = .returned (.tuple #[]) ∧ ∃ ok', Inv s' w' ok' ∧ (∀ q, ok' q → ok q ∨ w.heap.size ≤ q) ∧ Kept w w' ok := by
  intro k
  induction k using Nat.strongRecOn with
  | ind k ih =>
  intro s s' A0 c0 l A1 c1 p w ok hInv ht_ hn_ hl_ hc_ hy_ bt_ bn_ bl_ bc_ by_ hF0 hc0 hF1 hc1 hFC h
  cases k with
  | zero => simp [facG] at h
  | succ k =>
  simp only [facG] at h; have IH := Az ih; have HIV := Az hInv; have NT := Az ht_; have BT0 := Az bt_; have NN := Az hn_; have BN0 := Az bn_; have NL := Az hl_; have BL0 := Az bl_; have NC := Az hc_; have BC0 := Az bc_; have NY := Az hy_; have BY0 := Az by_; have HF0 := Az hF0; have HC0 := Az hc0; have HF1 := Az hF1; have HC1 := Az hc1; have HFC := Az hFC; have HT := Az hT; have HI := Az hI; have HL := Az hL; have FTF := Az hfT; have HB := Az (Below.refl w.heap.size w); clear ih hInv ht_ hn_ hl_ hc_ hy_ bt_ bn_ bl_ bc_ by_ hF0 hc0 hF1 hc1 hFC hT hI hL hfT; have hcz0 : w.cell? ⟨gt, 0, none⟩ = some (.slice At ts.length ct) := (blk_cell BT0.out 0).trans rfl
  by_cases c5 : (l.length : Int) = (ts.length : Int)
  ·
    rw [if_pos c5] at h; have c5b0 := beq_iff_eq.mpr c5; clear c5; obtain ⟨t, A30, h⟩ := Option.bind_eq_some_iff.mp h; have A3 := Az A30; obtain ⟨b, A40, h⟩ := Option.bind_eq_some_iff.mp h; have A4 := Az A40; clear A30 A40; have hcz1 : w.cell? ⟨gn, 0, none⟩ = some (.int .i64 n) := (blk_cell BN0.out 0).trans rfl
    cases b with
    | true =>
      rw [if_pos rfl] at h; have H' := Az h; clear h
      go_enter Try.func140, Try.ntmps140
      go_wp2_with (first | (go_at_call 104; (with_reducible refine (impl_still.calls k _ t _ A3.out).mono ?_); rintro e w1 ⟨v1, rfl, ho, hb⟩; obtain ⟨A3_, d3_, ev1⟩ := Kd.R_slice ho; subst ev1; have HO1 := Az ho; have n0_ := Az (below_step (bU0 HB.out) hb); clear HB; have HB := n0_; clear n0_ ho hb hcz0 hcz1; have hcz2 : w1.cell? ⟨gl, 0, none⟩ = some (.func (.func TF) #[] #[.pointer (some ⟨gm, 0, none⟩)]) := (blk_cell (blk_below BL0.out HB.out) 0).trans rfl) | (go_at_call 105; (with_reducible refine (slices_Equal_int_int.calls k _ _ p _ _ t true _ ?side1 ?side2 ?side3 ?side4 A4.out).mono ?_); (case side1 => exact Kd.C_below (Kd.F_now HF1.out) (bU0 HB.out)); (case side2 => exact HC1.out); (case side3 => exact (Kd.R_reads' HO1.out).2.2); (case side4 => exact (Kd.R_reads' HO1.out).2.1); rintro e w' ⟨rfl, ⟨nd, rfl⟩⟩) | ((with_reducible refine gate_dst (N := 22) rfl ?_); refine goesVL_ (some 22) rfl rfl FTF.out hnT hbT #[.slice A0 l.length c0, .pointer (some ⟨gm, 0, none⟩)] rfl rfl (by first | rfl | (simp; done) | (simp; rfl)) ?_; refine (HT.out k s s' l A0 c0 _ ok (HI.out _ _ _ _ HIV.out (bU0 HB.out)) (Kd.F_below HF0.out (bU0 HB.out)) HC0.out H'.out).mono ?_; rintro e w2 ⟨rfl, ok', i1, i2, i3⟩; refine ⟨_, rfl, ?_⟩; have R1 := Az i1; have R2 := Az i2; have R3 := Az i3; clear i1 i2 i3))
      first | go_end0 | ((try simp only [Exit.inBlock, Exit.then]); refine bodyPost_ret (results_none rfl _ _ _) rfl ?_)
      exact ⟨rfl, ok', R1.out, fun q hq => (R2.out q hq).imp id (fun h2 => Nat.le_trans (below_size (bU0 HB.out)) h2), Kept.then_ (Kept.of_below (bU0 HB.out) ok) R3.out (fun q hq => Or.inl hq)⟩
    | false =>
      rw [if_neg (by decide)] at h; obtain rfl := Option.some.inj h; clear h
      go_enter Try.func140, Try.ntmps140
      go_wp2_with (first | (go_at_call 104; (with_reducible refine (impl_still.calls k _ t _ A3.out).mono ?_); rintro e w1 ⟨v1, rfl, ho, hb⟩; obtain ⟨A3_, d3_, ev1⟩ := Kd.R_slice ho; subst ev1; have HO1 := Az ho; have n0_ := Az (below_step (bU0 HB.out) hb); clear HB; have HB := n0_; clear n0_ ho hb hcz0 hcz1; have hcz2 : w1.cell? ⟨gl, 0, none⟩ = some (.func (.func TF) #[] #[.pointer (some ⟨gm, 0, none⟩)]) := (blk_cell (blk_below BL0.out HB.out) 0).trans rfl) | (go_at_call 105; (with_reducible refine (slices_Equal_int_int.calls k _ _ p _ _ t false _ ?side1 ?side2 ?side3 ?side4 A4.out).mono ?_); (case side1 => exact Kd.C_below (Kd.F_now HF1.out) (bU0 HB.out)); (case side2 => exact HC1.out); (case side3 => exact (Kd.R_reads' HO1.out).2.2); (case side4 => exact (Kd.R_reads' HO1.out).2.1); rintro e w' ⟨rfl, ⟨nd, rfl⟩⟩))
      first | go_end0 | ((try simp only [Exit.inBlock, Exit.then]); refine bodyPost_ret (results_none rfl _ _ _) rfl ?_)
      exact ⟨rfl, ok, HI.out _ _ _ _ HIV.out (bU0 HB.out), fun q hq => Or.inl hq, Kept.of_below (bU0 HB.out) ok⟩
  ·
    rw [if_neg c5] at h; have c5b0 := beq_eq_false_iff_ne.mpr c5; clear c5
    by_cases c6 : (l.length : Int) < (cs.length : Int)
    ·
      rw [if_pos c6] at h; have H' := Az h; clear h; obtain ⟨ad, Ar, cr, eA, hx6, hl6, hF6⟩ := F_at1 HFC.out (l.length : Int) (by omega) c6; subst eA; simp only [Int.toNat_natCast] at hx6 hl6 hF6; obtain ⟨row, hrow⟩ : ∃ r_ : List (List Int), r_ = cs.getD l.length [] := ⟨_, rfl⟩; rw [← hrow] at hx6 hl6 hF6 H'; clear hrow; have HR6 := Az hF6; have HC6 := Az hl6; have hcz3 : w.cell? ⟨gc, 0, none⟩ = some (.slice (some ad) cs.length cc) := (blk_cell BC0.out 0).trans rfl; have q6 := eq_true c6; have q7 : (l.length < cs.length) = True := eq_true (by omega); clear hF6 hl6 c6
      go_enter Try.func140, Try.ntmps140
      go_wp2
      go_loopg [29] k (fun kq v29 w' => ∃ (i : Int) (s1 : σ) (ok1 : Nat → Prop), v29 = .int .i64 i ∧ Aside0 (facL step ts n cs kq s1 l p row i = some s') ∧ Aside0 (kq ≤ k) ∧ Aside0 (Inv s1 w' ok1) ∧ Aside0 (∀ q, ok1 q → ok q ∨ w.heap.size ≤ q) ∧ Aside0 (Kept w w' ok))
      case atStart => exact ⟨(0), s, ok, rfl, H', ⟨Nat.le_refl _⟩, HIV, ⟨fun q h => Or.inl h⟩, ⟨Kept.refl w ok⟩⟩
      case round =>
        clear H' HIV hcz0 hcz3 hx6 HB; obtain ⟨i, s1, ok1, rfl, HA, HK1, HIV, HOK, HKP⟩ := hrel
        cases gk with
        | zero => exact absurd HA.out (by simp [facL])
        | succ k1 =>
          have H := HA.out; clear HA; simp only [facL] at H; obtain ⟨wB, hwB⟩ : ∃ W_ : World, W_ = wr := ⟨wr, rfl⟩; have HB : Aside0 (Below wB.heap.size wB wr) := ⟨by rw [hwB]; exact Below.refl _ _⟩; have BT : Aside0 (wB.heap[gt]? = some (.cells #[.slice At ts.length ct] 45 (0, 0))) := ⟨blk_kept BT0.out (by rw [hwB]; exact HKP.out) NT.out⟩; have BN : Aside0 (wB.heap[gn]? = some (.cells #[.int .i64 n] 3 (0, 0))) := ⟨blk_kept BN0.out (by rw [hwB]; exact HKP.out) NN.out⟩; have BL : Aside0 (wB.heap[gl]? = some (.cells #[.func (.func TF) #[] #[.pointer (some ⟨gm, 0, none⟩)]] 76 (0, 0))) := ⟨blk_kept BL0.out (by rw [hwB]; exact HKP.out) NL.out⟩; have BC : Aside0 (wB.heap[gc]? = some (.cells #[.slice (some ad) cs.length cc] 98 (0, 0))) := ⟨blk_kept BC0.out (by rw [hwB]; exact HKP.out) NC.out⟩; have BY : Aside0 (wB.heap[gy]? = some (.cells #[.func (.func 140) #[] #[.pointer (some ⟨gt, 0, none⟩), .pointer (some ⟨gn, 0, none⟩), .pointer (some ⟨gl, 0, none⟩), .pointer (some ⟨gc, 0, none⟩), .pointer (some ⟨gy, 0, none⟩)]] 100 (0, 0))) := ⟨blk_kept BY0.out (by rw [hwB]; exact HKP.out) NY.out⟩; have HF0' : Aside0 (Kd.F (Kd.slice 3 (Kd.int .i64)) wB (fun q => ¬ ok1 q) A0 l.length l) := ⟨by rw [hwB]; exact F_keep1 HF0.out HKP.out HOK.out⟩; have HF1' : Aside0 (Kd.F (Kd.int .i64) wB (fun q => ¬ ok1 q) A1 p.length p) := ⟨by rw [hwB]; exact F_keep1 HF1.out HKP.out HOK.out⟩; have HFC' : Aside0 (Kd.F (Kd.slice 23 (Kd.slice 3 (Kd.int .i64))) wB (fun q => ¬ ok1 q) (some ad) cs.length cs) := ⟨by rw [hwB]; exact F_keep1 HFC.out HKP.out HOK.out⟩; have HR6' : Aside0 (Kd.F (Kd.slice 3 (Kd.int .i64)) wB (fun q => ¬ ok1 q) Ar row.length row) := ⟨by rw [hwB]; exact F_keep1 HR6.out HKP.out HOK.out⟩; replace HIV : Aside0 (Inv s1 wB ok1) := ⟨by rw [hwB]; exact HIV.out⟩; replace HKP : Aside0 (Kept w wB ok) := ⟨by rw [hwB]; exact HKP.out⟩
          have hnew : ∀ g, g < w.heap.size → ¬ ok g → ¬ ok1 g := fun g hg hn hq => (HOK.out g hq).elim hn (fun h_ => by omega)
          have NT1 := Az (hnew gt (blk_lt BT0.out) NT.out); have NN1 := Az (hnew gn (blk_lt BN0.out) NN.out); have NL1 := Az (hnew gl (blk_lt BL0.out) NL.out); have NC1 := Az (hnew gc (blk_lt BC0.out) NC.out); have NY1 := Az (hnew gy (blk_lt BY0.out) NY.out); clear hnew
          by_cases c7 : i < (row.length : Int)
          ·
            rw [if_pos c7] at H; have c7b0 := decide_eq_true c7
            by_cases c8 : 0 ≤ i
            ·
              rw [if_pos c8] at H
              by_cases c9 : l.length < 5864062014805
              ·
                rw [if_pos c9] at H; obtain ⟨q_, A100, H⟩ := Option.bind_eq_some_iff.mp H; have A10 := Az A100; clear A100; obtain ⟨s2, A110, H⟩ := Option.bind_eq_some_iff.mp H; have A11 := Az A110; clear A110; have H' := Az H; have LM9 := Az c9; obtain ⟨adr, A5, c5, e5, hx5, hl5, hi5⟩ := F_at1 HR6'.out i c8 c7; subst e5; rw [show row.getD i.toNat [] = rdS row i from rfl] at hx5 hl5 hi5; obtain ⟨x5, hx5_⟩ : ∃ x_ : List Int, x_ = rdS row i := ⟨_, rfl⟩; rw [← hx5_] at hx5 hl5 hi5 A10 A11; have HR5 := Az hi5; have HC5 := Az hl5
                have hx5' : wr.cell? (adr.add i.toNat) = some (.slice A5 x5.length c5) := by rw [← hwB]; exact hx5
                have p5 := eq_true c8; have q5 := eq_true c7; clear H c7 c8 c9 hx5 hl5 hi5 hwB hx5_
                go_wp2
                refine start_ (n := 10) (S := fun w' => w'.cell? ⟨gy, 0, none⟩ = some (.func (.func 140) #[] #[.pointer (some ⟨gt, 0, none⟩), .pointer (some ⟨gn, 0, none⟩), .pointer (some ⟨gl, 0, none⟩), .pointer (some ⟨gc, 0, none⟩), .pointer (some ⟨gy, 0, none⟩)])) (ds := []) #[false, false, false, false, false, false, false, false, false, false] (by kernel_rfl) rfl rfl (pw_cell_below (bU0 HB.out) ((blk_cell BY.out 0).trans rfl)) (fun hHeld => ?_)
                refine pure_ (i := 1) (N := some 34) (v := ?_) (a' := ?_) #[false, true, false, false, false, false, false, false, false, false] rfl rfl (by kernel_rfl) (fun _ _ _ h => h) (Or.inl ⟨by rfl, ?_⟩) ?_ ?_
                rotate_left
                ·
                 intro w'
                 go_simp
                 with_reducible rfl
                rotate_left
                ·
                 simp only [Act.put, List.setIfInBounds_toArray, List.set_cons_zero, List.set_cons_succ, i64_w, i32_w]
                 rfl
                refine pure_ (i := 3) (N := some 36) (v := ?_) (a' := ?_) #[false, true, false, true, false, false, false, false, false, false] rfl rfl (by kernel_rfl) (fun _ _ _ h => h) (Or.inl ⟨by rfl, ?_⟩) ?_ ?_
                rotate_left
                ·
                 intro w'
                 go_simp
                 with_reducible rfl
                rotate_left
                ·
                 simp only [Act.put, List.setIfInBounds_toArray, List.set_cons_zero, List.set_cons_succ, i64_w, i32_w]
                 rfl
                refine pure_ (i := 6) (N := some 39) (v := ?_) (a' := ?_) #[false, true, false, true, false, false, true, false, false, false] rfl rfl (by kernel_rfl) (fun _ _ _ h => h) (Or.inl ⟨by rfl, ?_⟩) ?_ ?_
                rotate_left
                ·
                 intro w'
                 go_simp
                 with_reducible rfl
                rotate_left
                ·
                 simp only [Act.put, List.setIfInBounds_toArray, List.set_cons_zero, List.set_cons_succ, i64_w, i32_w]
                 rfl
                refine pure_ (i := 7) (N := some 40) (v := ?_) (a' := ?_) #[false, true, false, true, false, false, true, true, false, false] rfl rfl (by kernel_rfl) (fun _ _ _ h => h) (Or.inl ⟨by rfl, ?_⟩) ?_ ?_
                rotate_left
                ·
                 intro w'
                 go_simp
                 with_reducible rfl
                rotate_left
                ·
                 simp only [Act.put, List.setIfInBounds_toArray, List.set_cons_zero, List.set_cons_succ, i64_w, i32_w]
                 rfl
                refine take_ (i := 0) (N := some 33) (v := ?_) (a' := ?_) #[true, true, false, true, false, false, true, true, false, false] rfl rfl (by kernel_rfl) (fun _ _ _ h => h) (Or.inl ⟨by rfl, ?_⟩) hHeld ?_ ?_
                rotate_left
                ·
                 intro w' s0
                 go_simp
                 with_reducible rfl
                rotate_left
                ·
                 simp only [Act.put, List.setIfInBounds_toArray, List.set_cons_zero, List.set_cons_succ, i64_w, i32_w]
                 rfl
                refine join_ (σ := Value × Value) 3 #[true, true, true, true, true, false, true, true, false, false] (fun s_ => [(35, s_.1), (37, s_.2)]) (fun s_ w' => (w'.cell? ⟨gy, 0, none⟩ = some (.func (.func 140) #[] #[.pointer (some ⟨gt, 0, none⟩), .pointer (some ⟨gn, 0, none⟩), .pointer (some ⟨gl, 0, none⟩), .pointer (some ⟨gc, 0, none⟩), .pointer (some ⟨gy, 0, none⟩)])) ∧ (Kd.N (Kd.slice 3 (Kd.int .i64)) 23 w' wB.heap.size (fun q => (¬ ok1 q ∧ q < wB.heap.size) ∨ wB.heap.size ≤ q) s_.1 l) ∧ (Kd.N (Kd.slice 3 (Kd.int .i64)) 23 w' wB.heap.size (fun q => (fun q => (¬ ok1 q ∧ q < wB.heap.size) ∨ wB.heap.size ≤ q) q ∧ some q ≠ (s_.1 : Value).ownBlock) s_.2 [x5]) ∧ (Below wB.heap.size wB w')) ?_ ?_
                rotate_left
                ·
                 intro hCont
                 refine two_ (i := 2) (j := 4) (Ni := some 35) (Nj := some 37) #[true, true, true, true, false, false, true, true, false, false] #[true, true, false, true, true, false, true, true, false, false] rfl rfl rfl rfl (by kernel_rfl) (by decide) (by decide) (fun K hK => ?_) (fun K hK => ?_)
                 ·
                  refine goes_ Try.func141 (by kernel_rfl) rfl #[.slice A0 l.length c0] (by rfl) rfl rfl (by (try simp only [List.map_toArray, List.map_cons, List.map_nil]); first | done | rfl) ?_
                  refine (clone2.calls A0 c0 l _ (fun q => ¬ ok1 q ∧ q < wB.heap.size) (Kd.F_below (Kd.F_bound HF0'.out) (bU0 HB.out)) HC0.out LM9.out).mono ?_
                  rintro e w3 ⟨v2, rfl, ho, hb⟩
                  refine ⟨_, rfl, ?_⟩
                  have HO2 : Aside0 (Kd.N (Kd.slice 3 (Kd.int .i64)) 23 w3 wB.heap.size (fun q => (¬ ok1 q ∧ q < wB.heap.size) ∨ wB.heap.size ≤ q) v2 l) := ⟨Kd.N_lower (Kd.N_mono ho (fun q hq => hq.elim (fun h2 => Or.inl h2.1) (fun h2 => Or.inr (Nat.le_trans (below_size (bU0 HB.out)) h2)))) (below_size (bU0 HB.out))⟩; have n0_ := Az (below_step (bU0 HB.out) hb); clear HB; have HB := n0_; clear n0_ ho hb
                  refine hK.out _ _ (pw_cell_below (bU0 HB.out) ((blk_cell BY.out 0).trans rfl)) (fun hHeld => ?_)
                  clear hK K
                  refine norm_ (a' := ?_) ?_ ?_
                  rotate_left
                  ·
                   show Act.put _ (some 35) _ = _
                   simp only [Act.put, List.setIfInBounds_toArray, List.set_cons_zero, List.set_cons_succ, i64_w, i32_w]
                   rfl
                  refine one_ (i := 4) (N := some 37) #[true, true, true, true, true, false, true, true, false, false] rfl rfl (by kernel_rfl) (by decide) (fun K hK => ?_)
                  refine Kd.N_lit_step (Kd.slice 3 (Kd.int .i64)) (w0 := wB) wB.heap.size 23 (by rfl) (N' := 37) rfl (xs := [x5]) (inner := [.slice A5 x5.length c5]) (ok := (fun q => (fun q => (¬ ok1 q ∧ q < wB.heap.size) ∨ wB.heap.size ≤ q) q ∧ some q ≠ (v2 : Value).ownBlock)) (okp := (fun q => ¬ ok1 q ∧ q < wB.heap.size)) ?hr ?hp ?hk ?hf (bU0 HB.out) (below_size (bU0 HB.out)) (by simp) ?_
                  (case hr => first | (go_simp; done) | (go_simp; rfl))
                  (case hp => exact Reps.one (Kd.FK_slice_mk HC5.out (Kd.F_below (Kd.F_bound HR5.out) (bU0 HB.out))) (Reps.none _ _))
                  (case hk => exact fun q hq => ⟨Or.inl hq, fun e_ => by have := Kd.N_base HO2.out q e_.symm; have := hq.2; omega⟩)
                  (case hf => exact ⟨Or.inr (below_size (bU0 HB.out)), fun e_ => by have := Kd.N_lt HO2.out _ e_.symm; omega⟩)
                  intro v4 w4 ho hb hg_ hnew_
                  refine hK.out _ _ (pw_cell_below hb ((blk_cell BY.out 0).trans rfl)) (fun hHeld => ?_)
                  clear hK K
                  refine norm_ (a' := ?_) ?_ ?_
                  rotate_left
                  ·
                   show Act.put _ (some 37) _ = _
                   simp only [Act.put, List.setIfInBounds_toArray, List.set_cons_zero, List.set_cons_succ, i64_w, i32_w]
                   rfl
                  exact norm_ (by simp only [putAll, Act.put, List.setIfInBounds_toArray, List.set_cons_zero, List.set_cons_succ]) (hCont (v2, v4) _ ⟨hHeld, Kd.N_grown HO2.out hg_ (fun _ _ h2 => by cases h2), ho, hb⟩)
                 ·
                  refine Kd.N_lit_step (Kd.slice 3 (Kd.int .i64)) (w0 := wB) wB.heap.size 23 (by rfl) (N' := 37) rfl (xs := [x5]) (inner := [.slice A5 x5.length c5]) (ok := (fun q => (¬ ok1 q ∧ q < wB.heap.size) ∨ wB.heap.size ≤ q)) (okp := (fun q => ¬ ok1 q ∧ q < wB.heap.size)) ?hr ?hp ?hk ?hf (bU0 HB.out) (below_size (bU0 HB.out)) (by simp) ?_
                  (case hr => first | (go_simp; done) | (go_simp; rfl))
                  (case hp => exact Reps.one (Kd.FK_slice_mk HC5.out (Kd.F_below (Kd.F_bound HR5.out) (bU0 HB.out))) (Reps.none _ _))
                  (case hk => exact fun q hq => Or.inl hq)
                  (case hf => exact Or.inr (below_size (bU0 HB.out)))
                  intro v4 w3 ho hb hg_ hnew_
                  have HO4 := Az ho; clear HB; have HB := Az hb; clear ho hb hg_ hnew_
                  refine hK.out _ _ (pw_cell_below (bU0 HB.out) ((blk_cell BY.out 0).trans rfl)) (fun hHeld => ?_)
                  clear hK K
                  refine norm_ (a' := ?_) ?_ ?_
                  rotate_left
                  ·
                   show Act.put _ (some 37) _ = _
                   simp only [Act.put, List.setIfInBounds_toArray, List.set_cons_zero, List.set_cons_succ, i64_w, i32_w]
                   rfl
                  refine one_ (i := 2) (N := some 35) #[true, true, true, true, true, false, true, true, false, false] rfl rfl (by kernel_rfl) (by decide) (fun K hK => ?_)
                  refine goes_ Try.func141 (by kernel_rfl) rfl #[.slice A0 l.length c0] (by rfl) rfl rfl (by (try simp only [List.map_toArray, List.map_cons, List.map_nil]); first | done | rfl) ?_
                  refine (clone2.calls A0 c0 l _ (fun q => ¬ ok1 q ∧ q < wB.heap.size) (Kd.F_below (Kd.F_bound HF0'.out) (bU0 HB.out)) HC0.out LM9.out).mono ?_
                  rintro e w4 ⟨v2, rfl, ho, hb⟩
                  refine ⟨_, rfl, ?_⟩
                  have HO2 : Aside0 (Kd.N (Kd.slice 3 (Kd.int .i64)) 23 w4 wB.heap.size (fun q => (¬ ok1 q ∧ q < wB.heap.size) ∨ wB.heap.size ≤ q) v2 l) := ⟨Kd.N_lower (Kd.N_mono ho (fun q hq => hq.elim (fun h2 => Or.inl h2.1) (fun h2 => Or.inr (Nat.le_trans (below_size (bU0 HB.out)) h2)))) (below_size (bU0 HB.out))⟩; have HO5 := Az (Kd.N_elder' HO4.out (Kd.N_base ho) hb); have n0_ := Az (below_step (bU0 HB.out) hb); clear HB; have HB := n0_; clear n0_ ho hb
                  refine hK.out _ _ (pw_cell_below (bU0 HB.out) ((blk_cell BY.out 0).trans rfl)) (fun hHeld => ?_)
                  clear hK K
                  refine norm_ (a' := ?_) ?_ ?_
                  rotate_left
                  ·
                   show Act.put _ (some 35) _ = _
                   simp only [Act.put, List.setIfInBounds_toArray, List.set_cons_zero, List.set_cons_succ, i64_w, i32_w]
                   rfl
                  exact norm_ (by simp only [putAll, Act.put, List.setIfInBounds_toArray, List.set_cons_zero, List.set_cons_succ]) (hCont (v2, v4) _ ⟨hHeld, HO2.out, HO5.out, HB.out⟩)
                rintro ⟨v2, v4⟩ w5 ⟨hS_, h0_, h1_, hB_⟩
                obtain ⟨A7, c7, e7⟩ := Kd.N_slice h1_; simp only at e7 h0_ h1_ hB_ hS_; subst e7; have HO2 := Az h0_; have HO4 := Az h1_; clear HB; have HB := Az hB_; clear h0_ h1_ hB_
                refine norm_ (a' := ?_) ?_ ?_
                rotate_left
                ·
                 simp only [putAll, Act.put, List.setIfInBounds_toArray, List.set_cons_zero, List.set_cons_succ]
                 rfl
                obtain ⟨y8, hy8⟩ : ∃ y_ : List (List Int), y_ = l ++ [x5] := ⟨_, rfl⟩; rw [← hy8] at A11; have Ny8 := Az hy8; clear hy8
                refine one_ (i := 5) (N := some 38) #[true, true, true, true, true, true, true, true, false, false] rfl rfl (by kernel_rfl) (by decide) (fun K hK => ?_)
                refine Kd.N_append_rows_step (Kd.slice 3 (Kd.int .i64)) (w0 := wB) wB.heap.size (by rfl) (.tmp 35) (.tmp 37) 45 23 (.slice none 0 0) 24 rfl Try.underlying45 infoF23 rfl (by decide) (by omega) v2 l [x5] A7 [x5].length c7 (fun q => (¬ ok1 q ∧ q < wB.heap.size) ∨ wB.heap.size ≤ q) (fun q => (fun q => (¬ ok1 q ∧ q < wB.heap.size) ∨ wB.heap.size ≤ q) q ∧ some q ≠ (v2 : Value).ownBlock) rfl rfl HO2.out (Kd.N_F HO4.out) (fun _ h2 => h2) (fun q hq => Or.inr (Nat.le_trans (below_size (bU0 HB.out)) hq)) (bU0 HB.out) (below_size (bU0 HB.out)) (by have := LM9.out; simp only [List.length_cons, List.length_nil]; omega) ?_
                intro v8 w6 ho hb hg hat
                rw [← Ny8.out] at ho; obtain ⟨A8, c8, e8⟩ := Kd.N_slice ho; subst e8; have HO8 := Az ho; clear HB HO2 HO4; have HB := Az hb; clear ho hb hg hat
                refine hK.out _ _ (pw_cell_below (bU0 HB.out) ((blk_cell BY.out 0).trans rfl)) (fun hHeld => ?_)
                clear hK K
                refine norm_ (a' := ?_) ?_ ?_
                rotate_left
                ·
                 show Act.put _ (some 38) _ = _
                 simp only [Act.put, List.setIfInBounds_toArray, List.set_cons_zero, List.set_cons_succ, i64_w, i32_w]
                 rfl
                refine one_ (i := 8) (N := some 41) #[true, true, true, true, true, true, true, true, true, false] rfl rfl (by kernel_rfl) (by decide) (fun K hK => ?_)
                refine goes_ Try.func67 (by kernel_rfl) rfl #[.slice A1 p.length c1, .slice A5 x5.length c5] (by rfl) rfl rfl (by (try simp only [List.map_toArray, List.map_cons, List.map_nil]); first | done | rfl) ?_
                refine (impl_mul.calls k1 _ _ p _ _ x5 q_ _ (Kd.C_below (Kd.F_now HF1'.out) (bU0 HB.out)) HC1.out (Kd.C_below (Kd.F_now HR5.out) (bU0 HB.out)) HC5.out A10.out).mono ?_
                rintro e w7 ⟨v9, rfl, ho, hb⟩
                refine ⟨_, rfl, ?_⟩
                obtain ⟨A9, c9, e9⟩ := Kd.R_slice ho; subst e9; have HO9 := Az (Kd.R_lower ho (below_size (bU0 HB.out))); have n1_ := Az (Kd.N_below HO8.out hb); clear HO8; have HO8 := n1_; clear n1_; have n0_ := Az (below_step (bU0 HB.out) hb); clear HB; have HB := n0_; clear n0_ ho hb
                refine hK.out _ _ (pw_cell_below (bU0 HB.out) ((blk_cell BY.out 0).trans rfl)) (fun hHeld => ?_)
                clear hK K
                refine norm_ (a' := ?_) ?_ ?_
                rotate_left
                ·
                 show Act.put _ (some 41) _ = _
                 simp only [Act.put, List.setIfInBounds_toArray, List.set_cons_zero, List.set_cons_succ, i64_w, i32_w]
                 rfl
                refine one_ (i := 9) (N := some 42) #[true, true, true, true, true, true, true, true, true, true] rfl rfl (by kernel_rfl) (by decide) (fun K hK => ?_)
                refine goesV_ (f := 140) Try.func140 (by kernel_rfl) rfl #[.slice A8 y8.length c8, .slice A9 q_.length c9, .pointer (some ⟨gt, 0, none⟩), .pointer (some ⟨gn, 0, none⟩), .pointer (some ⟨gl, 0, none⟩), .pointer (some ⟨gc, 0, none⟩), .pointer (some ⟨gy, 0, none⟩)] (by rfl) rfl rfl (by rfl) (by first | rfl | (simp; done) | (simp; exact ⟨rfl, rfl⟩)) ?_
                refine (IH.out k1 (by have := HK1.out; omega) s1 s2 A8 c8 y8 A9 c9 q_ _ ok1 (HI.out _ _ _ _ HIV.out (bU0 HB.out)) NT1.out NN1.out NL1.out NC1.out NY1.out (blk_below BT.out (bU0 HB.out)) (blk_below BN.out (bU0 HB.out)) (blk_below BL.out (bU0 HB.out)) (blk_below BC.out (bU0 HB.out)) (blk_below BY.out (bU0 HB.out)) (Kd.F_mono (Kd.N_F HO8.out) (fun q hq h1 => hq.elim (fun h2 => h2.1 h1) (fun h2 => by have := HL.out _ _ _ _ HIV.out h1; omega))) (Kd.N_reads' HO8.out).2.1 (Kd.F_mono (Kd.R_F (Kd.R_bound HO9.out)) (fun q hq h1 => by have := HL.out _ _ _ _ HIV.out h1; have := hq.2.1; omega)) (Kd.R_reads' HO9.out).2.1 (Kd.F_below HFC'.out (bU0 HB.out)) A11.out).mono ?_
                rintro e w' ⟨rfl, ok2, i1, i2, i3⟩
                refine ⟨_, rfl, ?_⟩
                have R1 := Az i1; have R2 := Az i2; have R3 := Az i3; have hcy := blk_kept (blk_below BY.out (bU0 HB.out)) i3 NY1.out; clear i1 i2 i3
                refine hK.out _ _ ((blk_cell hcy 0).trans rfl) (fun hHeld => ?_)
                clear hK K
                refine norm_ (a' := ?_) ?_ ?_
                rotate_left
                ·
                 show Act.put _ (some 42) _ = _
                 simp only [Act.put, List.setIfInBounds_toArray, List.set_cons_zero, List.set_cons_succ, i64_w, i32_w]
                 rfl
                refine done_ (by kernel_rfl) ?_
                clear hHeld hcy
                try go_wp2
                (first | go_roundg k1 | (refine Handed.intro k1 ?measure ?_; rotate_left; go_step; (try simp only [add_plain]); (repeat apply Exists.intro); refine ⟨?rel, rfl⟩))
                case measure => have := HK1.out; omega
                case rel => exact ⟨(wrap64 (i + 1)), s2, ok2, rfl, H', ⟨by have := HK1.out; omega⟩, R1, ⟨fun q hq => (R2.out q hq).elim (HOK.out q) (fun h_ => Or.inr (Nat.le_trans (Nat.le_trans HKP.out.1 HB.out.size) h_))⟩, ⟨Kept.then_ (Kept.below HKP.out HB.out) R3.out (fun q hq => HOK.out q hq)⟩⟩
              ·
                rw [if_neg c9] at H
                exact absurd H (by simp)
            ·
              rw [if_neg c8] at H
              exact absurd H (by simp)
          ·
            rw [if_neg c7] at H; have c7b0 := decide_eq_false c7; clear c7; obtain rfl := Option.some.inj H
            go_wp2
            first | go_end0 | ((try simp only [Exit.inBlock, Exit.then]); refine bodyPost_ret (results_none rfl _ _ _) rfl ?_)
            exact ⟨rfl, ok1, HI.out _ _ _ _ HIV.out (bU0 HB.out), HOK.out, Kept.below HKP.out (bU0 HB.out)⟩
    ·
      rw [if_neg c6] at h
      exact absurd h (by simp)
def facsG {σ : Type} (step : Nat → σ → List (List Int) → Option σ) (k : Nat) (ts : List (List Int)) (n : Int) (s : σ) : Option σ :=
  if ts.length ≤ 11728124029610 then ((permG (fun k cs p => fac1L k ts p cs 0) k n (List.replicate ts.length []) []).bind fun cs => ((impl_still.f k n).bind fun t => facG step ts n cs k s [] t)) else none
set_option maxHeartbeats 8000000 in
set_option maxRecDepth 100000 in
theorem facs.calls {σ : Type} (step : Nat → σ → List (List Int) → Option σ) (Inv : σ → World → (Nat → Prop) → Prop) (TF : Nat) (fnT : Func) (hfT : Try.prog.funcs[TF]? = some fnT) (hnT : (fnT.name == "runtime.NumGoroutine") = false) (hbT : fnT.body.isSome = true) (gm : Nat)
  (hI : ∀ s W W' ok, Inv s W ok → Below W.heap.size W W' → Inv s W' ok) (hL : ∀ s W ok q, Inv s W ok → ok q → q < W.heap.size)
  (hT : ∀ (k : Nat) (s s' : σ) (l : List (List Int)) (A : Option Addr) (c : Nat) (W : World) (ok : Nat → Prop), Inv s W ok → Kd.F (Kd.slice 3 (Kd.int .i64)) W (fun q => ¬ ok q) A l.length l → l.length ≤ c → step k s l = some s' → Calls Try.prog TF #[.slice A l.length c, .pointer (some ⟨gm, 0, none⟩)] W fun e w' => e = .returned (.tuple #[]) ∧ ∃ ok', Inv s' w' ok' ∧ (∀ q, ok' q → ok q ∨ W.heap.size ≤ q) ∧ Kept W w' ok)
  (k : Nat) (At : Option Addr) (ct : Nat) (ts : List (List Int)) (n : Int) (s s' : σ) (w : World) (ok : Nat → Prop) (hInv : Inv s w ok) (hr0 : Kd.C (Kd.slice 3 (Kd.int .i64)) w At ts.length ts) (hc0 : ts.length ≤ ct) (h : facsG step k ts n s = some s') :
  Calls Try.prog 95 #[.slice At ts.length ct, .int .i64 n, .func (.func TF) #[] #[.pointer (some ⟨gm, 0, none⟩)]] w fun e w' => e = .returned (.tuple #[]) ∧ ∃ ok', Inv s' w' ok' ∧ (∀ q, ok' q → ok q ∨ w.heap.size ≤ q) ∧ Kept w w' ok := by
  have HTS := Az hr0; have HCT := Az hc0; have HIV := Az hInv; have HB := Az (Below.refl w.heap.size w); clear hr0 hc0 hInv
  unfold facsG at h
  by_cases c1 : ts.length ≤ 11728124029610
  ·
    rw [if_pos c1] at h; have LM := Az c1; obtain ⟨cs, A10, h⟩ := Option.bind_eq_some_iff.mp h; obtain ⟨t, A20, h⟩ := Option.bind_eq_some_iff.mp h; have A1 := Az A10; have A2 := Az A20; have A3 := Az h; clear A10 A20 h c1
    go_enter Try.func95, Try.ntmps95
    go_wp2_with (first  | ((with_reducible refine gate_dst (N := 3) rfl ?_); refine box_event ?hg (N := 3) ?hd (cs := #[.slice At ts.length ct]) (t := 45) ?hr ?_; (case hd => rfl); (case hg => rfl); (case hr => first | (go_simp; done) | (go_simp; rfl)); intro gt hg_ w2 hbox hb; have n1 := Az (below_step HB.out hb); have B_gt := Az hbox; have G_gt := Az ((by rw [hg_]; exact below_size HB.out) : w.heap.size ≤ gt); clear HB hb hbox hg_; have HB := n1; clear n1) | ((with_reducible refine gate_dst (N := 4) rfl ?_); refine box_event ?hg (N := 4) ?hd (cs := #[.int .i64 n]) (t := 3) ?hr ?_; (case hd => rfl); (case hg => rfl); (case hr => first | (go_simp; done) | (go_simp; rfl)); intro gn hg_ w3 hbox hb; have n1 := Az (below_step HB.out hb); have m0 := Az (blk_below B_gt.out hb); have B_gn := Az hbox; have G_gn := Az ((by rw [hg_]; exact below_size HB.out) : w.heap.size ≤ gn); clear HB hb hbox hg_ B_gt; have HB := n1; clear n1; have B_gt := m0; clear m0) | ((with_reducible refine gate_dst (N := 5) rfl ?_); refine box_event ?hg (N := 5) ?hd (cs := #[.func (.func TF) #[] #[.pointer (some ⟨gm, 0, none⟩)]]) (t := 76) ?hr ?_; (case hd => rfl); (case hg => rfl); (case hr => first | (go_simp; done) | (go_simp; rfl)); intro gl hg_ w4 hbox hb; have n1 := Az (below_step HB.out hb); have m0 := Az (blk_below B_gt.out hb); have m1 := Az (blk_below B_gn.out hb); have B_gl := Az hbox; have G_gl := Az ((by rw [hg_]; exact below_size HB.out) : w.heap.size ≤ gl); clear HB hb hbox hg_ B_gt B_gn; have HB := n1; clear n1; have B_gt := m0; clear m0; have B_gn := m1; clear m1; have hcz0 : w4.cell? ⟨gt, 0, none⟩ = some (.slice At ts.length ct) := (blk_cell B_gt.out 0).trans rfl) | ((with_reducible refine gate_dst (N := 10) rfl ?_); refine Kd.S_make (Kd.slice 23 (Kd.slice 3 (Kd.int .i64))) _ 45 rfl (N := 10) rfl 98 _ _ rfl (ts.length : Int) rfl rfl Try.underlying98 (.slice none 0 0) 24 infoF45 rfl (by decide) (by omega) ([] : List (List Int)) (ok := fun _ => True) (okp := fun _ => True) (Kd.M_row (Kd.R_nil _ _ _ _ _)) (fun _ hk => hk) trivial (by omega) (by have := LM.out; simp only [Int.toNat_natCast]; omega) (Below.refl _ _) (Nat.le_refl _) ?_; intro v1 w5 ho hb hg_ hnew_; rw [Int.toNat_natCast] at ho; have HSZ := Az hb.size; have LT := Az (blk_lt B_gt.out); have LN := Az (blk_lt B_gn.out); have LL := Az (blk_lt B_gl.out); have HO := Az (Kd.S_mono (Kd.S_bound ho) (ok' := fun q => w4.heap.size ≤ q ∧ q < w5.heap.size) (fun q hq => ⟨hq.2.1, hq.2.2.1⟩)); have m0 := Az (blk_below B_gt.out hb); have m1 := Az (blk_below B_gn.out hb); have m2 := Az (blk_below B_gl.out hb); have m3 := Az (below_step HB.out hb); have HS4 := Az (below_size HB.out); clear B_gt B_gn B_gl HB ho hb hg_ hnew_ hcz0; have B_gt := m0; have B_gn := m1; have B_gl := m2; have HB := m3; clear m0 m1 m2 m3) | ((with_reducible refine gate_store (p := 6) (t := 98) rfl ?_); refine store_event (w1 := w5.alloc (.cells #[v1] 98 (0, 0))) rfl rfl rfl ?hr ?_; (case hr => (obtain ⟨Av, cv, ev⟩ := Kd.S_slice HO.out; subst ev; go_simp; first | exact setCell_new _ _ _ _ | (rw [run_store _ _ _ _ _ rfl]; simp [stored]; exact setCell_new _ _ _ _) | trace_state)); intro w6 hw6; have hb6 : Below w5.heap.size w5 w6 := (by rw [hw6]; exact below_alloc (Below.refl _ _) _); have B_gc := Az ((by rw [hw6]; exact blk_new w5 _) : w6.heap[w5.heap.size]? = some (.cells #[v1] 98 (0, 0))); have m0 := Az (blk_below B_gt.out hb6); have m1 := Az (blk_below B_gn.out hb6); have m2 := Az (blk_below B_gl.out hb6); have m3 := Az (below_step HB.out hb6); have m4 := Az (Kd.S_below HO.out hb6); have HS5 := Az hb6.size; clear B_gt B_gn B_gl HB HO hb6 hw6; have B_gt := m0; have B_gn := m1; have B_gl := m2; have HB := m3; have HO := m4; clear m0 m1 m2 m3 m4; obtain ⟨gc, hgc⟩ : ∃ g_ : Nat, g_ = w5.heap.size := ⟨_, rfl⟩; rw [← hgc] at B_gc ⊢; have HGC := Az hgc; clear hgc; have hcz1 : w6.cell? ⟨gn, 0, none⟩ = some (.int .i64 n) := (blk_cell B_gn.out 0).trans rfl) | (go_at_call 138; refine (perm0.calls (σ := List (List (List Int))) (fun k cs p => fac1L k ts p cs 0) (fac1I w At ct ts gt gc v1) gt gc (fun s W W' ok h hb => fac1I.below h hb) (fun s W ok q h hq => (h.2.2.2.2.1 q hq).2.2) (fun k s s' p A c W ok hI hp hc h => fac1.calls w At ct ts gt gc v1 HTS.out HCT.out k s s' p A c W ok hI hp hc h) k n (List.replicate ts.length []) cs w6 (fun q => w4.heap.size ≤ q ∧ q < w5.heap.size) ⟨HB.out, B_gt.out, B_gc.out, Kd.S_lower HO.out HS4.out, fun q hq => ⟨fun e_ => by have := LT.out; omega, fun e_ => by have := HGC.out; omega, Nat.lt_of_lt_of_le hq.2 HS5.out⟩, List.length_replicate⟩ A1.out).mono ?_; rintro e w7 ⟨rfl, ok', i1, i2, i3⟩; have FI := Az i1; have R3 := Az i3; clear i1 i2 i3 hcz1) | ((with_reducible refine gate_store (p := 7) (t := 100) rfl ?_); refine store_event (w1 := w7.alloc (.cells #[.func (.func 140) #[] #[.pointer (some ⟨gt, 0, none⟩), .pointer (some ⟨gn, 0, none⟩), .pointer (some ⟨gl, 0, none⟩), .pointer (some ⟨gc, 0, none⟩), .pointer (some ⟨w7.heap.size, 0, none⟩)]] 100 (0, 0))) rfl rfl rfl ?hr ?_; (case hr => (go_simp; rw [run_store _ _ _ _ _ rfl]; simp [stored]; exact setCell_new _ _ _ _)); intro w8 hw8; have hb8 : Below w7.heap.size w7 w8 := (by rw [hw8]; exact below_alloc (Below.refl _ _) _); have B_gy0 : w8.heap[w7.heap.size]? = some (.cells #[.func (.func 140) #[] #[.pointer (some ⟨gt, 0, none⟩), .pointer (some ⟨gn, 0, none⟩), .pointer (some ⟨gl, 0, none⟩), .pointer (some ⟨gc, 0, none⟩), .pointer (some ⟨w7.heap.size, 0, none⟩)]] 100 (0, 0)) := (by rw [hw8]; exact blk_new w7 _); clear hw8; obtain ⟨gy, hgy⟩ : ∃ g_ : Nat, g_ = w7.heap.size := ⟨_, rfl⟩; rw [← hgy] at B_gy0 ⊢; have B_gy := Az B_gy0; have HGY := Az hgy; have HB8 := Az hb8; clear B_gy0 hgy hb8))
    obtain ⟨f1, f2, f3, f4, f5, f6⟩ := FI.out; obtain ⟨Ac, cc, ev⟩ := Kd.S_slice f4; subst ev; have FS := Az f4; have FB7 := Az f1; have FT7 := Az f2; have FC7 := Az f3; have FN7 := Az (blk_kept B_gn.out R3.out (fun h2 => by have := LN.out; omega)); have FL7 := Az (blk_kept B_gl.out R3.out (fun h2 => by have := LL.out; omega)); have GC := Az ((by have := HGC.out; have := HS4.out; have := HSZ.out; omega) : w.heap.size ≤ gc); have GY := Az ((by rw [HGY.out]; exact below_size FB7.out) : w.heap.size ≤ gy); clear f1 f2 f3 f4 f5 f6 FI B_gt B_gn B_gl B_gc HB HO R3; have HB : Aside0 (Below w.heap.size w w8) := ⟨below_step FB7.out HB8.out⟩; have B_gn := Az (blk_below FN7.out HB8.out); have B_gt := Az (blk_below FT7.out HB8.out); have B_gl := Az (blk_below FL7.out HB8.out); have B_gc := Az (blk_below FC7.out HB8.out); have FS8 := Az (Kd.S_below FS.out HB8.out); clear FN7 FT7 FL7 FC7 FS HB8 FB7; have HB8 : Aside0 (Below w8.heap.size w8 w8) := ⟨Below.refl _ _⟩
    refine start_ (n := 4) (S := fun w' => w'.cell? ⟨gy, 0, none⟩ = some (.func (.func 140) #[] #[.pointer (some ⟨gt, 0, none⟩), .pointer (some ⟨gn, 0, none⟩), .pointer (some ⟨gl, 0, none⟩), .pointer (some ⟨gc, 0, none⟩), .pointer (some ⟨gy, 0, none⟩)]) ∧ w'.cell? ⟨gn, 0, none⟩ = some (.int .i64 n)) (ds := []) #[false, false, false, false] (by kernel_rfl) rfl rfl ⟨pw_cell_below (by repeat (first | (with_reducible first | exact HB8.out | apply below_alloc | apply pw_below_drewN | apply below_drew1) | exact HB8.out)) ((blk_cell B_gy.out 0).trans rfl), pw_cell_below (by repeat (first | (with_reducible first | exact HB8.out | apply below_alloc | apply pw_below_drewN | apply below_drew1) | exact HB8.out)) ((blk_cell B_gn.out 0).trans rfl)⟩ (fun hHeld => ?_)
    refine take_ (i := 0) (N := some 15) (v := ?_) (a' := ?_) #[true, false, false, false] rfl rfl (by kernel_rfl) (fun _ _ _ h => h) (Or.inl ⟨by rfl, ?_⟩) hHeld ?_ ?_
    rotate_left
    ·
     intro w' s0
     obtain ⟨s0, s1⟩ := s0
     go_simp
     with_reducible rfl
    rotate_left
    ·
     simp only [Act.put, List.setIfInBounds_toArray, List.set_cons_zero, List.set_cons_succ, i64_w, i32_w]
     rfl
    refine take_ (i := 1) (N := some 16) (v := ?_) (a' := ?_) #[true, true, false, false] rfl rfl (by kernel_rfl) (fun _ _ _ h => h) (Or.inl ⟨by rfl, ?_⟩) hHeld ?_ ?_
    rotate_left
    ·
     intro w' s0
     obtain ⟨s0, s1⟩ := s0
     go_simp
     with_reducible rfl
    rotate_left
    ·
     simp only [Act.put, List.setIfInBounds_toArray, List.set_cons_zero, List.set_cons_succ, i64_w, i32_w]
     rfl
    refine one_ (i := 2) (N := some 17) #[true, true, true, false] rfl rfl (by kernel_rfl) (by decide) (fun K hK => ?_)
    refine goes_ Try.func104 (by kernel_rfl) rfl #[.int .i64 n] (by rfl) rfl rfl (by (try simp only [List.map_toArray, List.map_cons, List.map_nil]); first | done | rfl) ?_
    refine (impl_still.calls k n t _ A2.out).mono ?_
    rintro e w9 ⟨v9, rfl, ho, hb⟩
    refine ⟨_, rfl, ?_⟩
    obtain ⟨A9, c9, e9⟩ := Kd.R_slice ho; subst e9; have HO9 := Az (Kd.R_lower ho (below_size (by repeat (first | (with_reducible first | exact HB8.out | apply below_alloc | apply pw_below_drewN | apply below_drew1) | exact HB8.out)))); have n0_ := Az (below_step (by repeat (first | (with_reducible first | exact HB8.out | apply below_alloc | apply pw_below_drewN | apply below_drew1) | exact HB8.out)) hb); clear HB8 ho hb; have HB8 := n0_; clear n0_
    refine hK.out _ _ ⟨pw_cell_below (by repeat (first | (with_reducible first | exact HB8.out | apply below_alloc | apply pw_below_drewN | apply below_drew1) | exact HB8.out)) ((blk_cell B_gy.out 0).trans rfl), pw_cell_below (by repeat (first | (with_reducible first | exact HB8.out | apply below_alloc | apply pw_below_drewN | apply below_drew1) | exact HB8.out)) ((blk_cell B_gn.out 0).trans rfl)⟩ (fun hHeld => ?_)
    clear hK K
    refine norm_ (a' := ?_) ?_ ?_
    rotate_left
    ·
     show Act.put _ (some 17) _ = _
     simp only [Act.put, List.setIfInBounds_toArray, List.set_cons_zero, List.set_cons_succ, i64_w, i32_w]
     rfl
    refine one_ (i := 3) (N := some 18) #[true, true, true, true] rfl rfl (by kernel_rfl) (by decide) (fun K hK => ?_)
    refine goesV_ (f := 140) Try.func140 (by kernel_rfl) rfl #[.slice none 0 0, .slice A9 t.length c9, .pointer (some ⟨gt, 0, none⟩), .pointer (some ⟨gn, 0, none⟩), .pointer (some ⟨gl, 0, none⟩), .pointer (some ⟨gc, 0, none⟩), .pointer (some ⟨gy, 0, none⟩)] (by rfl) rfl rfl (by rfl) (by first | rfl | (simp; done) | (simp; exact ⟨rfl, rfl⟩) | (simp; rfl)) ?_
    refine (fac2.calls step Inv TF fnT hfT hnT hbT gm hI hL hT gt gn gl gc gy At ct ts n Ac cc cs k s s' none 0 [] A9 c9 t _ ok (hI _ _ _ _ HIV.out (below_step HB.out HB8.out)) (fun h2 => Nat.lt_irrefl _ (Nat.lt_of_lt_of_le (hL _ _ _ _ HIV.out h2) G_gt.out)) (fun h2 => Nat.lt_irrefl _ (Nat.lt_of_lt_of_le (hL _ _ _ _ HIV.out h2) G_gn.out)) (fun h2 => Nat.lt_irrefl _ (Nat.lt_of_lt_of_le (hL _ _ _ _ HIV.out h2) G_gl.out)) (fun h2 => Nat.lt_irrefl _ (Nat.lt_of_lt_of_le (hL _ _ _ _ HIV.out h2) GC.out)) (fun h2 => Nat.lt_irrefl _ (Nat.lt_of_lt_of_le (hL _ _ _ _ HIV.out h2) GY.out)) (blk_below B_gt.out HB8.out) (blk_below B_gn.out HB8.out) (blk_below B_gl.out HB8.out) (blk_below B_gc.out HB8.out) (blk_below B_gy.out HB8.out) (Kd.F_nil _ _ _) (Nat.le_refl 0) (Kd.F_mono (Kd.R_F (Kd.R_bound HO9.out)) (fun q hq h1 => by have := hL _ _ _ _ HIV.out h1; have := hq.2.1; have := below_size HB.out; omega)) (Kd.R_reads' HO9.out).2.1 (Kd.F_below (Kd.F_mono (Kd.S_F (Kd.S_bound FS8.out)) (fun q hq h1 => by have := hL _ _ _ _ HIV.out h1; have := hq.2.1; omega)) HB8.out) A3.out).mono ?_
    rintro e w' ⟨rfl, ok2, i1, i2, i3⟩
    refine ⟨_, rfl, ?_⟩
    have R1 := Az i1; have R2 := Az i2; have R3 := Az i3
    have N1 : ∀ g, w.heap.size ≤ g → ¬ ok g := fun g hg h2 => Nat.lt_irrefl _ (Nat.lt_of_lt_of_le (hL _ _ _ _ HIV.out h2) hg)
    have hcy := blk_kept (blk_below B_gy.out HB8.out) i3 (N1 _ GY.out); have hcn := blk_kept (blk_below B_gn.out HB8.out) i3 (N1 _ G_gn.out); clear i1 i2 i3
    refine hK.out _ _ ⟨(blk_cell hcy 0).trans rfl, (blk_cell hcn 0).trans rfl⟩ (fun hHeld => ?_)
    clear hK K
    refine norm_ (a' := ?_) ?_ ?_
    rotate_left
    ·
     show Act.put _ (some 18) _ = _
     simp only [Act.put, List.setIfInBounds_toArray, List.set_cons_zero, List.set_cons_succ, i64_w, i32_w]
     rfl
    refine done_ (by kernel_rfl) ?_
    clear hHeld hcy hcn
    try go_wp2
    first | go_end0 | ((try simp only [Exit.inBlock, Exit.then]); refine bodyPost_ret (results_none rfl _ _ _) rfl ?_)
    have hb9 := below_step HB.out HB8.out
    exact ⟨rfl, ok2, R1.out, fun q hq => (R2.out q hq).imp id (fun h2 => Nat.le_trans (below_size hb9) h2), Kept.then_ (Kept.of_below hb9 ok) R3.out (fun q hq => Or.inl hq)⟩
  ·
    rw [if_neg c1] at h
    cases h
def oneI (w0 : World) (g : Nat) (m : Int) (W : World) (ok : Nat → Prop) : Prop := Below w0.heap.size w0 W ∧ W.heap[g]? = some (.cells #[.int .i64 m] 3 (0, 0)) ∧ ok = fun q => q = g
theorem oneI.below {w0 W W1 : World} {g : Nat} {m : Int} {ok : Nat → Prop} (h : oneI w0 g m W ok) (hb : Below W.heap.size W W1) : oneI w0 g m W1 ok := ⟨below_step h.1 hb, blk_below h.2.1 hb, h.2.2⟩
theorem oneI.put {w0 W : World} {g : Nat} {m : Int} {ok : Nat → Prop} (h : oneI w0 g m W ok) (hg : w0.heap.size ≤ g) (m' : Int) : oneI w0 g m' (W.setCell ⟨g, 0, none⟩ (.int .i64 m')) ok ∧ Kept W (W.setCell ⟨g, 0, none⟩ (.int .i64 m')) ok := by
  obtain ⟨h1, h2, rfl⟩ := h
  exact ⟨⟨below_set h1 hg, one_setCell h2, rfl⟩, Kept.setCell (S := fun q => q = g) (p := ⟨g, 0, none⟩) (Kept.refl _ _) (Or.inl rfl) _⟩
end Go.Proofs.Ytggghijamfmenaa.PN
