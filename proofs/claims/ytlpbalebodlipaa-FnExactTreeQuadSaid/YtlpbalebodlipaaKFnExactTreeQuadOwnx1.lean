/- For every tree, TreeQuad of the program answers what TreeQuad of the reference answers, leaves the tree as it was, and hands back memory of its own. There are no conditions. -/
import Derived.Test.YtlpbalebodlipaaKFnExactTreeQuadCx1
import Derived.Deep.OwnRows
import Derived.Laws.Rows
import Derived.Test.YtlpbalebodlipaaRows
namespace Go.Proofs.Ytlpbalebodlipaa.PG
open Go.RowKit Go.Proofs.YtlpbalebodlipaaW.PrintWords Go.Proofs.YtlpbalebodlipaaW.PrintLast Go.Proofs.YtlpbalebodlipaaW.PrintMore
attribute [local go_sem] max2_int min2_int max_two min_two max_three min_three max_four min_four   -- for this text's walks alone
set_option linter.unusedVariables false
set_option linter.unusedSimpArgs false
def errW : Option Int → Value
 | none => .nilIface
 | some c => .iface 0 (.int .i64 c)
theorem errW_none : errW none = .nilIface := rfl
theorem errW_some (c : Int) : errW (some c) = .iface 0 (.int .i64 c) := rfl
theorem info3 : (Try.prog.info? 3).map (fun i => (i.zero, i.size, i.bytes)) = some (some (.int .i64 0), 1, 8) := by kernel_rfl
theorem info23 : (Try.prog.info? 23).map (fun i => (i.zero, i.size, i.bytes)) = some (some (.slice none 0 0), 1, 24) := by kernel_rfl
def rd_L3 (xs : List (List Int)) (i : Int) : (List Int) := xs.getD i.toNat ([] : List Int)
theorem at_L3 {w : World} {A : Option Addr} {n : Nat} {xs : List (List Int)} (h : Kd.C (Kd.slice 3 (Kd.int .i64)) w A n xs) (i : Int) (h0 : 0 ≤ i) (h1 : i < n) : ∃ ad A0 c0, A = some ad ∧ w.cell? (ad.add i.toNat) = some (.slice A0 (rd_L3 xs i).length c0) ∧ (rd_L3 xs i).length ≤ c0 ∧ (Kd.int .i64).C w A0 (rd_L3 xs i).length (rd_L3 xs i) := by
 obtain ⟨ad, c, e, _, hK, hc0⟩ := Kd.C_get h ([] : List Int) i h0 h1; have hc : ∀ j u, c[j]? = some u → w.cell? (ad.add (i.toNat * 1 + j)) = some u := hc0; obtain ⟨A0, c0, rfl, l0, g0⟩ := hK
 exact ⟨ad, A0, c0, e, by have hq := hc 0 _ rfl; rwa [Nat.mul_one, Nat.add_zero] at hq, l0, g0⟩
def laws_szIntS.f (l0 : List Int) (a1 : Int) : Option (Int) := if (wrap64 (a1 - (l0.length : Int))) < 0 then (some (-1)) else (some (wrap64 (a1 - (l0.length : Int))))
set_option maxHeartbeats 8000000 in
set_option maxRecDepth 100000 in
theorem laws_szIntS.calls (A0 : Option Addr) (c0 : Nat) (l0 : List Int) (a1 : Int) (r : Int) (w : World) (hr0 : Kd.C (Kd.int .i64) w A0 l0.length l0) (hc0 : l0.length ≤ c0) (h : laws_szIntS.f l0 a1 = some r) :
  Calls Try.prog 69 #[.slice A0 l0.length c0, .int .i64 a1] w fun e w' => e = .returned (.int .i64 r) ∧ Drawn0 w w' := by
 have HR0 := Az hr0; have HC0 := Az hc0; clear hr0 hc0; have H : (if (wrap64 (a1 - (l0.length : Int))) < 0 then (some (-1)) else (some (wrap64 (a1 - (l0.length : Int))))) = some r := h; clear h
 by_cases c3 : (wrap64 (a1 - (l0.length : Int))) < 0
 ·
  rw [if_pos c3] at H; have c3b0 := decide_eq_true c3; clear c3; obtain rfl := Option.some.inj H
  go_enter Try.func69, Try.ntmps69
  go_wp2
  go_ret
  exact ⟨by first | rfl | (simp; done) | (simp [*]; done), by repeat (first | exact Drawn0.refl _ | apply Drawn0.step)⟩
 ·
  rw [if_neg c3] at H; have c3b0 := decide_eq_false c3; clear c3; obtain rfl := Option.some.inj H
  go_enter Try.func69, Try.ntmps69
  go_wp2
  go_ret
  exact ⟨by first | rfl | (simp; done) | (simp [*]; done), by repeat (first | exact Drawn0.refl _ | apply Drawn0.step)⟩
def laws_szTree.f (a0_0 : ByteArray) (l0_1 : List Int) (a1 : Int) : Option (Int) := if (wrap64 (a1 - (a0_0.size : Int))) < 0 then (some (-1)) else ((laws_szIntS.f l0_1 (wrap64 (a1 - (a0_0.size : Int)))).bind fun t458 => (if t458 < 0 then (some (-1)) else (some t458)))
set_option maxHeartbeats 8000000 in
set_option maxRecDepth 100000 in
theorem laws_szTree.calls (a0_0 : ByteArray) (A0_1 : Option Addr) (c0_1 : Nat) (l0_1 : List Int) (a1 : Int) (r : Int) (w : World) (hr0_1 : Kd.C (Kd.int .i64) w A0_1 l0_1.length l0_1) (hc0_1 : l0_1.length ≤ c0_1) (h : laws_szTree.f a0_0 l0_1 a1 = some r) :
  Calls Try.prog 20 #[.agg #[.string a0_0, .slice A0_1 l0_1.length c0_1], .int .i64 a1] w fun e w' => e = .returned (.int .i64 r) ∧ Below w.heap.size w w' := by
 have hu35 := Try.underlying35; have HR0_1 := Az hr0_1; have HC0_1 := Az hc0_1; clear hr0_1 hc0_1; have HB := Az (Below.refl w.heap.size w); have H : (if (wrap64 (a1 - (a0_0.size : Int))) < 0 then (some (-1)) else ((laws_szIntS.f l0_1 (wrap64 (a1 - (a0_0.size : Int)))).bind fun t458 => (if t458 < 0 then (some (-1)) else (some t458)))) = some r := h; clear h
 by_cases c3 : (wrap64 (a1 - (a0_0.size : Int))) < 0
 ·
  rw [if_pos c3] at H; have c3b0 := decide_eq_true c3; clear c3; obtain rfl := Option.some.inj H
  go_enter Try.func20, Try.ntmps20
  go_wp2_with (first | ((with_reducible refine gate_dst (N := 2) rfl ?_); refine box_event ?hg (N := 2) ?hd (cs := #[.string a0_0, .slice A0_1 l0_1.length c0_1]) (t := 35) ?hr ?_; (case hd => rfl); (case hg => rfl); (case hr => first | (go_simp; done) | (go_simp; rfl)); intro gb457 hg w4 hbox hb; have n0 := Az (below_step (bU0 HB.out) hb); have n1 := Az (hbox); have n2 := Az ((by rw [hg]; exact (below_size (bU0 HB.out)) : w.heap.size ≤ gb457)); have n3 := n2; clear HB; have HB := n0; have BK457 := n1; have GW457 := n2; have GE457 := n3; clear n0 n1 n2 n3 hb hbox hg; have hcz5_0 : w4.cell? ⟨gb457, 0, none⟩ = some (.string a0_0) := (blk_cell BK457.out 0).trans rfl; have hcz5_1 : w4.cell? ⟨gb457, 1, none⟩ = some (.slice A0_1 l0_1.length c0_1) := (blk_cell BK457.out 1).trans rfl; have hfz5_0 := blk_frozen BK457.out 0; have hfz5_1 := blk_frozen BK457.out 1))
  go_ret
  exact ⟨rE, bU1 HB.out GE457.out⟩
 ·
  rw [if_neg c3] at H; have c3b0 := decide_eq_false c3; clear c3; replace H := Option.bind_eq_some_iff.mp H; obtain ⟨t458, A60, H⟩ := H; replace H : (if t458 < 0 then (some (-1)) else (some t458)) = some r := H; have A6 := Az A60; clear A60
  by_cases c7 : t458 < 0
  ·
   rw [if_pos c7] at H; have c7b0 := decide_eq_true c7; clear c7; obtain rfl := Option.some.inj H
   go_enter Try.func20, Try.ntmps20
   go_wp2_with (first | ((with_reducible refine gate_dst (N := 2) rfl ?_); refine box_event ?hg (N := 2) ?hd (cs := #[.string a0_0, .slice A0_1 l0_1.length c0_1]) (t := 35) ?hr ?_; (case hd => rfl); (case hg => rfl); (case hr => first | (go_simp; done) | (go_simp; rfl)); intro gb457 hg w8 hbox hb; have n0 := Az (below_step (bU0 HB.out) hb); have n1 := Az (hbox); have n2 := Az ((by rw [hg]; exact (below_size (bU0 HB.out)) : w.heap.size ≤ gb457)); have n3 := n2; clear HB; have HB := n0; have BK457 := n1; have GW457 := n2; have GE457 := n3; clear n0 n1 n2 n3 hb hbox hg; have hcz9_0 : w8.cell? ⟨gb457, 0, none⟩ = some (.string a0_0) := (blk_cell BK457.out 0).trans rfl; have hcz9_1 : w8.cell? ⟨gb457, 1, none⟩ = some (.slice A0_1 l0_1.length c0_1) := (blk_cell BK457.out 1).trans rfl; have hfz9_0 := blk_frozen BK457.out 0; have hfz9_1 := blk_frozen BK457.out 1) | ((with_reducible refine gate_callee (f := 69) rfl ?_); refine goesL_ (some 15) rfl rfl Try.func69 (by kernel_rfl) rfl #[.slice A0_1 l0_1.length c0_1, .int .i64 (wrap64 (a1 - (a0_0.size : Int)))] rfl (by (try simp only [List.map_toArray, List.map_cons, List.map_nil]); first | done | rfl | (simp only [List.length_drop, List.length_take]; rfl)) ?_; (with_reducible refine (laws_szIntS.calls _ _ l0_1 (wrap64 (a1 - (a0_0.size : Int))) t458 _ ?side1 ?side2 A6.out).mono ?_); (case side1 => exact cU (Kd.C_below HR0_1.out HB.out)); (case side2 => exact HC0_1.out); rintro e w' ⟨rfl, ⟨nd, rfl⟩⟩; refine ⟨_, rfl, ?_⟩))
   go_ret
   exact ⟨rE, bU1 HB.out GE457.out⟩
  ·
   rw [if_neg c7] at H; have c7b0 := decide_eq_false c7; clear c7; obtain rfl := Option.some.inj H
   go_enter Try.func20, Try.ntmps20
   go_wp2_with (first | ((with_reducible refine gate_dst (N := 2) rfl ?_); refine box_event ?hg (N := 2) ?hd (cs := #[.string a0_0, .slice A0_1 l0_1.length c0_1]) (t := 35) ?hr ?_; (case hd => rfl); (case hg => rfl); (case hr => first | (go_simp; done) | (go_simp; rfl)); intro gb457 hg w10 hbox hb; have n0 := Az (below_step (bU0 HB.out) hb); have n1 := Az (hbox); have n2 := Az ((by rw [hg]; exact (below_size (bU0 HB.out)) : w.heap.size ≤ gb457)); have n3 := n2; clear HB; have HB := n0; have BK457 := n1; have GW457 := n2; have GE457 := n3; clear n0 n1 n2 n3 hb hbox hg; have hcz11_0 : w10.cell? ⟨gb457, 0, none⟩ = some (.string a0_0) := (blk_cell BK457.out 0).trans rfl; have hcz11_1 : w10.cell? ⟨gb457, 1, none⟩ = some (.slice A0_1 l0_1.length c0_1) := (blk_cell BK457.out 1).trans rfl; have hfz11_0 := blk_frozen BK457.out 0; have hfz11_1 := blk_frozen BK457.out 1) | ((with_reducible refine gate_callee (f := 69) rfl ?_); refine goesL_ (some 15) rfl rfl Try.func69 (by kernel_rfl) rfl #[.slice A0_1 l0_1.length c0_1, .int .i64 (wrap64 (a1 - (a0_0.size : Int)))] rfl (by (try simp only [List.map_toArray, List.map_cons, List.map_nil]); first | done | rfl | (simp only [List.length_drop, List.length_take]; rfl)) ?_; (with_reducible refine (laws_szIntS.calls _ _ l0_1 (wrap64 (a1 - (a0_0.size : Int))) t458 _ ?side1 ?side2 A6.out).mono ?_); (case side1 => exact cU (Kd.C_below HR0_1.out HB.out)); (case side2 => exact HC0_1.out); rintro e w' ⟨rfl, ⟨nd, rfl⟩⟩; refine ⟨_, rfl, ?_⟩))
   go_ret
   exact ⟨rE, bU1 HB.out GE457.out⟩
mutual
def spec_l6qNext.l0 : Nat → List Int → List Int → Int → Option (List Int)
 | 0, _, _, _ => none
 | k + 1, x0, x3, x4 => if x4 < (x0.length : Int) then (spec_l6qNext.l1 k x0 x3 x4 (-1) 1) else (some x3)
def spec_l6qNext.l1 : Nat → List Int → List Int → Int → Int → Int → Option (List Int)
 | 0, _, _, _, _, _ => none
 | k + 1, x0, x3, x4, x5, x6 => if x6 < (x0.length : Int) then (spec_l6qNext.j2 k x0 x3 x4 x5 x6 (decide (x5 < 0))) else (spec_l6qNext.j2 k x0 x3 x4 x5 x6 false)
def spec_l6qNext.j2 : Nat → List Int → List Int → Int → Int → Int → Bool → Option (List Int)
 | 0, _, _, _, _, _, _ => none
 | k + 1, x0, x3, x4, x5, x6, x22 => if x22 = true then (if (x0.length : Int) = 0 then (none) else (if 0 ≤ (Int.tmod (wrap64 (x4 + x6)) (x0.length : Int)) then (if (Int.tmod (wrap64 (x4 + x6)) (x0.length : Int)) < (x0.length : Int) then (if 0 ≤ x4 then (if x4 < (x0.length : Int) then (if (rd x0 (Int.tmod (wrap64 (x4 + x6)) (x0.length : Int))) = (wrap64 ((rd x0 x4) - 1)) then (spec_l6qNext.l1 k x0 x3 x4 (Int.tmod (wrap64 (x4 + x6)) (x0.length : Int)) (wrap64 (x6 + 1))) else (spec_l6qNext.l1 k x0 x3 x4 x5 (wrap64 (x6 + 1)))) else (none)) else (none)) else (none)) else (none))) else (if x3.length < 17592186044416 then (spec_l6qNext.l0 k x0 (x3 ++ [x5]) (wrap64 (x4 + 1))) else (none))
end
def spec_l6qNext.f (k : Nat) (l0 : List Int) : Option (List Int) := spec_l6qNext.l0 k l0 (([] : List Int)) 0
theorem spec_l6qNext.mono_l : ∀ k, (∀ y0 y1 y2, LeO (spec_l6qNext.l0 k y0 y1 y2) (spec_l6qNext.l0 (k + 1) y0 y1 y2)) ∧ (∀ y0 y1 y2 y3 y4, LeO (spec_l6qNext.l1 k y0 y1 y2 y3 y4) (spec_l6qNext.l1 (k + 1) y0 y1 y2 y3 y4)) ∧ (∀ y0 y1 y2 y3 y4 y5, LeO (spec_l6qNext.j2 k y0 y1 y2 y3 y4 y5) (spec_l6qNext.j2 (k + 1) y0 y1 y2 y3 y4 y5))
 | 0 => ⟨fun _ _ _ r h => by simp [spec_l6qNext.l0] at h, fun _ _ _ _ _ r h => by simp [spec_l6qNext.l1] at h, fun _ _ _ _ _ _ r h => by simp [spec_l6qNext.j2] at h⟩
 | k + 1 => by
  obtain ⟨ih0, ih1, ih2⟩ := spec_l6qNext.mono_l k
  refine ⟨?_, ?_, ?_⟩
  ·
   intro y0 y1 y2
   unfold spec_l6qNext.l0
   repeat' first
   | (with_reducible exact ih0 _ _ _)
   | (with_reducible exact ih1 _ _ _ _ _)
   | (with_reducible exact ih2 _ _ _ _ _ _)
   | (with_reducible exact LeO.refl _)
   | (with_reducible exact LeO.none _)
   | (with_reducible refine LeO.ite ?_ ?_)
   | (with_reducible refine LeO.bind ?_ (fun _ => ?_))
   | exact ih0 _ _ _
   | exact ih1 _ _ _ _ _
   | exact ih2 _ _ _ _ _ _
   | exact LeO.none _
   | refine LeO.ite ?_ ?_
   | refine LeO.bind ?_ (fun _ => ?_)
  ·
   intro y0 y1 y2 y3 y4
   unfold spec_l6qNext.l1
   repeat' first
   | (with_reducible exact ih0 _ _ _)
   | (with_reducible exact ih1 _ _ _ _ _)
   | (with_reducible exact ih2 _ _ _ _ _ _)
   | (with_reducible exact LeO.refl _)
   | (with_reducible exact LeO.none _)
   | (with_reducible refine LeO.ite ?_ ?_)
   | (with_reducible refine LeO.bind ?_ (fun _ => ?_))
   | exact ih0 _ _ _
   | exact ih1 _ _ _ _ _
   | exact ih2 _ _ _ _ _ _
   | exact LeO.none _
   | refine LeO.ite ?_ ?_
   | refine LeO.bind ?_ (fun _ => ?_)
  ·
   intro y0 y1 y2 y3 y4 y5
   unfold spec_l6qNext.j2
   repeat' first
   | (with_reducible exact ih0 _ _ _)
   | (with_reducible exact ih1 _ _ _ _ _)
   | (with_reducible exact ih2 _ _ _ _ _ _)
   | (with_reducible exact LeO.refl _)
   | (with_reducible exact LeO.none _)
   | (with_reducible refine LeO.ite ?_ ?_)
   | (with_reducible refine LeO.bind ?_ (fun _ => ?_))
   | exact ih0 _ _ _
   | exact ih1 _ _ _ _ _
   | exact ih2 _ _ _ _ _ _
   | exact LeO.none _
   | refine LeO.ite ?_ ?_
   | refine LeO.bind ?_ (fun _ => ?_)
theorem spec_l6qNext.mono : ∀ a0 k, LeO (spec_l6qNext.f k a0) (spec_l6qNext.f (k + 1) a0) := by
 intro a0 k
 obtain ⟨ih0, ih1, ih2⟩ := spec_l6qNext.mono_l k
 unfold spec_l6qNext.f
 repeat' first
   | (with_reducible exact ih0 _ _ _)
   | (with_reducible exact ih1 _ _ _ _ _)
   | (with_reducible exact ih2 _ _ _ _ _ _)
   | (with_reducible exact LeO.refl _)
   | (with_reducible exact LeO.none _)
   | (with_reducible refine LeO.ite ?_ ?_)
   | (with_reducible refine LeO.bind ?_ (fun _ => ?_))
   | exact ih0 _ _ _
   | exact ih1 _ _ _ _ _
   | exact ih2 _ _ _ _ _ _
   | exact LeO.none _
   | refine LeO.ite ?_ ?_
   | refine LeO.bind ?_ (fun _ => ?_)
set_option maxHeartbeats 8000000 in
set_option maxRecDepth 100000 in
theorem spec_l6qNext.calls (k : Nat) (A0 : Option Addr) (c0 : Nat) (l0 : List Int) (r : List Int) (w : World) (hr0 : Kd.C (Kd.int .i64) w A0 l0.length l0) (hc0 : l0.length ≤ c0) (h : spec_l6qNext.f k l0 = some r) :
  Calls Try.prog 71 #[.slice A0 l0.length c0] w fun e w' => ∃ v0_ : Value, e = .returned (v0_) ∧ Kd.R (Kd.int .i64) 3 w' w.heap.size (fun _ => True) v0_ r ∧ Below w.heap.size w w' := by
 have HR0 := Az hr0; have HC0 := Az hc0; clear hr0 hc0; have HB := Az (Below.refl w.heap.size w); have H : (spec_l6qNext.l0 k l0 (([] : List Int)) 0) = some r := h; clear h; obtain ⟨y459, hy459⟩ : ∃ y_ : List Int, y_ = (([] : List Int)) := ⟨_, rfl⟩; replace H : (spec_l6qNext.l0 k l0 y459 0) = some r := hR hy459 H; have Ny459 := Az hy459; clear hy459; have H' := Az H; clear H
 go_enter Try.func71, Try.ntmps71
 go_wp2_with (first | ((with_reducible refine gate_dst (N := 8) rfl ?_); refine Kd.R_lit (Kd.int .i64) _ 3 ?hg (N := 8) ?hd (xs := ([] : List Int)) (inner := []) (ok := fun _ => True) (okp := fun _ => True) ?hr ?hp (fun _ hk => hk) trivial (Below.refl _ _) (Nat.le_refl _) (by simp) ?_; (case hd => rfl); (case hg => rfl); (case hr => first | (go_simp; done) | (go_simp; rfl)); (case hp => exact (Reps.none _ _)); intro v460 w2 ho3 hb hg_ hnew_; clear hg_ hnew_; (first | rw [← Ny459.out] at ho3 | (simp only [Int.reduceToNat] at ho3; rw [← Ny459.out] at ho3)); have n0 := Az (Kd.R_lower ho3 (below_size (bU0 HB.out))); have n1 := Az (below_step (bU0 HB.out) hb); clear HB; have HO461 := n0; have HB := n1; clear n0 n1; clear hb ho3))
 repeat (go_quiet (fail); try go_wp2_with (fail))
 go_loopg [3, 4] k (fun kq v3 v4 w' => ∃ (x3_1 : List Int) (x4_1 : Int), v4 = .int .i64 x4_1 ∧ Aside0 (spec_l6qNext.l0 kq l0 x3_1 x4_1 = some r) ∧ Aside0 (kq ≤ k) ∧ Aside0 (Kd.R (Kd.int .i64) 3 w' w.heap.size (fun _ => True) v3 x3_1) ∧ Aside0 (Below w.heap.size w w'))
 case atStart => exact ⟨(y459), (0), rS, H', ⟨Nat.le_refl _⟩, ⟨rU HO461.out⟩, ⟨bU0 HB.out⟩⟩
 case round =>
  clear H'; (try clear p2); obtain ⟨x3_1, x4_1, rfl, HA, HK1, HO_3, HB⟩ := hrel
  cases gk with
  | zero => exact absurd HA.out (by simp [spec_l6qNext.l0])
  | succ k1 =>
   have H := HA.out; clear HA; simp only [spec_l6qNext.l0] at H
   by_cases c4 : x4_1 < (l0.length : Int)
   ·
    rw [if_pos c4] at H; have c4b0 := decide_eq_true c4; clear c4; have H' := Az H; clear H
    go_wp2
    repeat (go_quiet (fail); try go_wp2)
    go_loopg [5, 6] k1 (fun kq v5 v6 w' => ∃ (x5_2 : Int) (x6_2 : Int), v5 = .int .i64 x5_2 ∧ v6 = .int .i64 x6_2 ∧ Aside0 (spec_l6qNext.l1 kq l0 x3_1 x4_1 x5_2 x6_2 = some r) ∧ Aside0 (kq ≤ k1) ∧ Aside0 (Kd.R (Kd.int .i64) 3 w' w.heap.size (fun _ => True) u3 x3_1) ∧ Aside0 (Below w.heap.size w w'))
    case atStart => exact ⟨((-1)), (1), rS, rS, H', ⟨Nat.le_refl _⟩, ⟨rU HO_3.out⟩, ⟨bU0 HB.out⟩⟩
    case round =>
     clear H'; (try clear p2); (try clear c4); (try clear c4b0); (try clear p2); obtain ⟨x5_2, x6_2, rfl, rfl, HA, HK2, HO_3, HB⟩ := hrel
     cases gk with
     | zero => exact absurd HA.out (by simp [spec_l6qNext.l1])
     | succ k2 =>
      have H := HA.out; clear HA; simp only [spec_l6qNext.l1] at H; have HC5 := Az H; clear H
      go_upto_region 7 with (fail)
      repeat (go_quiet (fail); go_upto_region 7 with (fail))
      go_cut [22] (fun v22 wc => ∃ (kq : Nat) (x22_4 : Bool), v22 = .bool x22_4 ∧ Aside0 (spec_l6qNext.j2 kq l0 x3_1 x4_1 x5_2 x6_2 x22_4 = some r) ∧ Aside0 (kq ≤ k2) ∧ Aside0 (Kd.R (Kd.int .i64) 3 wc w.heap.size (fun _ => True) u3 x3_1) ∧ Aside0 (Below w.heap.size w wc))
      case first =>
       have H := HC5.out; clear HC5
       by_cases c6 : x6_2 < (l0.length : Int)
       ·
        rw [if_pos c6] at H; have c6b0 := decide_eq_true c6; clear c6; (first | rw [c6b0] | (simp only [i64_w, i32_w]; rw [c6b0]) | skip); have H' := Az H; clear H
        go_wp2
        repeat (go_quiet (fail); try go_wp2)
        go_meet
        case rel => exact ⟨_, (decide (x5_2 < 0)), rS, H', ⟨by have := HK1.out; have := HK2.out; first | omega | exact Nat.le_refl _⟩, ⟨rU HO_3.out⟩, ⟨bU0 HB.out⟩⟩
       ·
        rw [if_neg c6] at H; have c6b0 := decide_eq_false c6; clear c6; (first | rw [c6b0] | (simp only [i64_w, i32_w]; rw [c6b0]) | skip); have H' := Az H; clear H
        go_wp2
        repeat (go_quiet (fail); try go_wp2)
        go_meet
        case rel => exact ⟨_, (false), rS, H', ⟨by have := HK1.out; have := HK2.out; first | omega | exact Nat.le_refl _⟩, ⟨rU HO_3.out⟩, ⟨bU0 HB.out⟩⟩
      case rest =>
       clear HC5; (try clear p2); (try clear c4); (try clear c4b0); (try clear c6); (try clear c6b0); (try clear p2); obtain ⟨kq, x22_4, rfl, HA, HJ4, HO_3, HB⟩ := hcut
       cases kq with
       | zero => exact absurd HA.out (by simp [spec_l6qNext.j2])
       | succ kj4 =>
        have H := HA.out; clear HA; simp only [spec_l6qNext.j2] at H
        by_cases c7 : x22_4 = true
        ·
         subst c7
         have H1 : (if (l0.length : Int) = 0 then (none) else (if 0 ≤ (Int.tmod (wrap64 (x4_1 + x6_2)) (l0.length : Int)) then (if (Int.tmod (wrap64 (x4_1 + x6_2)) (l0.length : Int)) < (l0.length : Int) then (if 0 ≤ x4_1 then (if x4_1 < (l0.length : Int) then (if (rd l0 (Int.tmod (wrap64 (x4_1 + x6_2)) (l0.length : Int))) = (wrap64 ((rd l0 x4_1) - 1)) then (spec_l6qNext.l1 kj4 l0 x3_1 x4_1 (Int.tmod (wrap64 (x4_1 + x6_2)) (l0.length : Int)) (wrap64 (x6_2 + 1))) else (spec_l6qNext.l1 kj4 l0 x3_1 x4_1 x5_2 (wrap64 (x6_2 + 1)))) else (none)) else (none)) else (none)) else (none))) = some r := by rw [if_pos rfl] at H; exact H
         clear H; have H := H1; clear H1
         by_cases c8 : (l0.length : Int) = 0
         ·
          rw [if_pos c8] at H
          exact absurd H (by simp)
         ·
          rw [if_neg c8] at H; have c8b0 := beq_eq_false_iff_ne.mpr c8; have c8b1 := bne_iff_ne.mpr c8
          have c8b2 : ¬ (l0 = []) := fun h_ => c8 (by rw [h_]; rfl)
          obtain ⟨ji9, hji9⟩ : ∃ j_ : Int, (Int.tmod (wrap64 (x4_1 + x6_2)) (l0.length : Int)) = j_ := ⟨_, rfl⟩
          replace H : (if 0 ≤ (ji9) then (if (ji9) < (l0.length : Int) then (if 0 ≤ x4_1 then (if x4_1 < (l0.length : Int) then (if (rd l0 (ji9)) = (wrap64 ((rd l0 x4_1) - 1)) then (spec_l6qNext.l1 kj4 l0 x3_1 x4_1 ji9 (wrap64 (x6_2 + 1))) else (spec_l6qNext.l1 kj4 l0 x3_1 x4_1 x5_2 (wrap64 (x6_2 + 1)))) else (none)) else (none)) else (none)) else (none)) = some r := by first | (rw [hji9] at H; exact H) | (simp only [hji9] at H ⊢; exact H)
          by_cases c10 : 0 ≤ (ji9)
          ·
           rw [if_pos c10] at H; have c10b0 := decide_eq_true c10; clear c10
           by_cases c11 : (ji9) < (l0.length : Int)
           ·
            rw [if_pos c11] at H; have c11b0 := decide_eq_true c11; clear c11
            by_cases c12 : 0 ≤ x4_1
            ·
             rw [if_pos c12] at H; have c12b0 := decide_eq_true c12; clear c12
             by_cases c13 : x4_1 < (l0.length : Int)
             ·
              rw [if_pos c13] at H; have c13b0 := decide_eq_true c13; clear c13
              by_cases c14 : (rd l0 (ji9)) = (wrap64 ((rd l0 x4_1) - 1))
              ·
               rw [if_pos c14] at H; have c14b0 := beq_iff_eq.mpr c14; have c14b1 := bne_eq_false_iff_eq.mpr c14; clear c14; have H' := Az H; clear H; have p462 : 0 ≤ ((ji9) : Int) := oA; have q462 : (ji9) < (l0.length : Int) := oA; obtain ⟨ad462, e462, hx462_0⟩ := Kd.at_int HR0.out (ji9) p462 q462
               cases e462
               (try replace hx462_0 := (HB.out.cell (World.block_lt_of_cell? w _ hx462_0)).trans hx462_0); replace p462 := eq_true p462; replace q462 := eq_true q462; have p463 : 0 ≤ (x4_1 : Int) := oA; have q463 : x4_1 < (l0.length : Int) := oA; obtain ⟨ad463, e463, hx463_0⟩ := Kd.at_int HR0.out x4_1 p463 q463; obtain rfl : ad462 = ad463 := (by injection e463); (try replace hx463_0 := (HB.out.cell (World.block_lt_of_cell? w _ hx463_0)).trans hx463_0); replace p463 := eq_true p463; replace q463 := eq_true q463
               go_wp2
               repeat (go_quiet (fail); try go_wp2)
               (first | go_roundg kj4 | (refine Handed.intro kj4 ?measure ?_; rotate_left; go_step; (try simp only [add_plain]); (repeat apply Exists.intro); refine ⟨?rel, rfl⟩))
               case measure => have := HK1.out; have := HK2.out; have := HJ4.out; omega
               case rel => exact ⟨(ji9), (wrap64 (x6_2 + 1)), (by first | rfl | (simp; done) | (simp only [← hji9] <;> (first | rfl | simp)) | (simp [*]; done)), rS, H', ⟨by have := HK1.out; have := HK2.out; have := HJ4.out; omega⟩, ⟨rU HO_3.out⟩, ⟨bU0 HB.out⟩⟩
              ·
               rw [if_neg c14] at H; have c14b0 := beq_eq_false_iff_ne.mpr c14; have c14b1 := bne_iff_ne.mpr c14; clear c14; have H' := Az H; clear H; have p462 : 0 ≤ ((ji9) : Int) := oA; have q462 : (ji9) < (l0.length : Int) := oA; obtain ⟨ad462, e462, hx462_0⟩ := Kd.at_int HR0.out (ji9) p462 q462
               cases e462
               (try replace hx462_0 := (HB.out.cell (World.block_lt_of_cell? w _ hx462_0)).trans hx462_0); replace p462 := eq_true p462; replace q462 := eq_true q462; have p463 : 0 ≤ (x4_1 : Int) := oA; have q463 : x4_1 < (l0.length : Int) := oA; obtain ⟨ad463, e463, hx463_0⟩ := Kd.at_int HR0.out x4_1 p463 q463; obtain rfl : ad462 = ad463 := (by injection e463); (try replace hx463_0 := (HB.out.cell (World.block_lt_of_cell? w _ hx463_0)).trans hx463_0); replace p463 := eq_true p463; replace q463 := eq_true q463
               go_wp2
               repeat (go_quiet (fail); try go_wp2)
               (first | go_roundg kj4 | (refine Handed.intro kj4 ?measure ?_; rotate_left; go_step; (try simp only [add_plain]); (repeat apply Exists.intro); refine ⟨?rel, rfl⟩))
               case measure => have := HK1.out; have := HK2.out; have := HJ4.out; omega
               case rel => exact ⟨(x5_2), (wrap64 (x6_2 + 1)), rS, rS, H', ⟨by have := HK1.out; have := HK2.out; have := HJ4.out; omega⟩, ⟨rU HO_3.out⟩, ⟨bU0 HB.out⟩⟩
             ·
              rw [if_neg c13] at H
              exact absurd H (by simp)
            ·
             rw [if_neg c12] at H
             exact absurd H (by simp)
           ·
            rw [if_neg c11] at H
            exact absurd H (by simp)
          ·
           rw [if_neg c10] at H
           exact absurd H (by simp)
        ·
         replace c7 := Bool.eq_false_iff.mpr c7; subst c7
         have H1 : (if x3_1.length < 17592186044416 then (spec_l6qNext.l0 kj4 l0 (x3_1 ++ [x5_2]) (wrap64 (x4_1 + 1))) else (none)) = some r := by rw [if_neg (show ¬ (false = true) by decide)] at H; exact H
         clear H; have H := H1; clear H1
         by_cases c15 : x3_1.length < 17592186044416
         ·
          rw [if_pos c15] at H; have LMc15 := Az c15; clear c15; obtain ⟨y464, hy464⟩ : ∃ y_ : List Int, y_ = (x3_1 ++ [x5_2]) := ⟨_, rfl⟩; replace H : (spec_l6qNext.l0 kj4 l0 y464 (wrap64 (x4_1 + 1))) = some r := hR hy464 H; have Ny464 := Az hy464; clear hy464; have H' := Az H; clear H
          go_wp2_with (first | ((with_reducible refine gate_builtin (b := .append) (xs := #[.tmp 42, .tmp 44]) rfl ?_); at_builtin; refine Kd.R_append (Kd.int .i64) (w0 := w) w.heap.size rfl (.tmp 42) (.tmp 44) 23 3 (.int .i64 0) 8 rfl Try.underlying23 info3 rfl (by decide) (by omega) u3 x3_1 x5_2 [.int .i64 x5_2] (fun _ => True) (fun _ => False) rfl rfl ?aP (fun _ hk => hk.elim) ?aF ?aO ?aB ?aS ?aL ?_; (case aP => exact rfl); (case aB => exact (bU0 HB.out)); (case aF => exact (fun _ _ => trivial)); (case aO => exact (rU HO_3.out)); (case aS => exact (below_size (bU0 HB.out))); (case aL => have := LMc15.out; omega); intro v465 w16 ho hb hg hat; rw [← Ny464.out] at ho; have n0 := Az (hb); have n1 := Az (ho); clear HB HO_3; have HB := n0; have HO466 := n1; clear n0 n1; clear ho hb hg hat))
          repeat (go_quiet (fail); try go_wp2_with (fail))
          (first | go_roundg kj4 | (refine Handed.intro kj4 ?measure ?_; rotate_left; go_step; (try simp only [add_plain]); (repeat apply Exists.intro); refine ⟨?rel, rfl⟩))
          case measure => have := HK1.out; have := HK2.out; have := HJ4.out; omega
          case rel => exact ⟨(y464), (wrap64 (x4_1 + 1)), rS, H', ⟨by have := HK1.out; have := HK2.out; have := HJ4.out; omega⟩, ⟨rU HO466.out⟩, ⟨bU0 HB.out⟩⟩
         ·
          rw [if_neg c15] at H
          exact absurd H (by simp)
   ·
    rw [if_neg c4] at H; have c4b0 := decide_eq_false c4; clear c4; obtain rfl := Option.some.inj H
    go_wp2
    repeat (go_quiet (fail); try go_wp2)
    go_ret
    exact ⟨_, rE, rU HO_3.out, bU0 HB.out⟩
def spec_l3Flip.l0 : Nat → Int → List Int → Int → Option (List Int)
 | 0, _, _, _ => none
 | k + 1, x0, x3, x4 => if x4 < x0 then ((some (([wrap64 ((wrap64 (2 * x4)) + 1), wrap64 (2 * x4)] : List Int) : List Int)).bind fun y470 => (if x3.length + y470.length < 17592186044416 then (spec_l3Flip.l0 k x0 (x3 ++ y470) (wrap64 (x4 + 1))) else (none))) else (some x3)
def spec_l3Flip.f (k : Nat) (a0 : Int) : Option (List Int) := spec_l3Flip.l0 k a0 (([] : List Int)) 0
theorem spec_l3Flip.mono_l : ∀ k, (∀ y0 y1 y2, LeO (spec_l3Flip.l0 k y0 y1 y2) (spec_l3Flip.l0 (k + 1) y0 y1 y2))
 | 0 => fun _ _ _ r h => by simp [spec_l3Flip.l0] at h
 | k + 1 => by
  have ih0 := spec_l3Flip.mono_l k
  ·
   intro y0 y1 y2
   unfold spec_l3Flip.l0
   repeat' first
   | (with_reducible exact ih0 _ _ _)
   | (with_reducible exact LeO.refl _)
   | (with_reducible exact LeO.none _)
   | (with_reducible refine LeO.ite ?_ ?_)
   | (with_reducible refine LeO.bind ?_ (fun _ => ?_))
   | exact ih0 _ _ _
   | exact LeO.none _
   | refine LeO.ite ?_ ?_
   | refine LeO.bind ?_ (fun _ => ?_)
theorem spec_l3Flip.mono : ∀ a0 k, LeO (spec_l3Flip.f k a0) (spec_l3Flip.f (k + 1) a0) := by
 intro a0 k
 have ih0 := spec_l3Flip.mono_l k
 unfold spec_l3Flip.f
 repeat' first
   | (with_reducible exact ih0 _ _ _)
   | (with_reducible exact LeO.refl _)
   | (with_reducible exact LeO.none _)
   | (with_reducible refine LeO.ite ?_ ?_)
   | (with_reducible refine LeO.bind ?_ (fun _ => ?_))
   | exact ih0 _ _ _
   | exact LeO.none _
   | refine LeO.ite ?_ ?_
   | refine LeO.bind ?_ (fun _ => ?_)
set_option maxHeartbeats 8000000 in
set_option maxRecDepth 100000 in
theorem spec_l3Flip.calls (k : Nat) (a0 : Int) (r : List Int) (w : World) (h : spec_l3Flip.f k a0 = some r) :
  Calls Try.prog 72 #[.int .i64 a0] w fun e w' => ∃ v0_ : Value, e = .returned (v0_) ∧ Kd.R (Kd.int .i64) 3 w' w.heap.size (fun _ => True) v0_ r ∧ Below w.heap.size w w' := by
 have HB := Az (Below.refl w.heap.size w); have H : (spec_l3Flip.l0 k a0 (([] : List Int)) 0) = some r := h; clear h; obtain ⟨y467, hy467⟩ : ∃ y_ : List Int, y_ = (([] : List Int)) := ⟨_, rfl⟩; replace H : (spec_l3Flip.l0 k a0 y467 0) = some r := hR hy467 H; have Ny467 := Az hy467; clear hy467; have H' := Az H; clear H
 go_enter Try.func72, Try.ntmps72
 go_wp2_with (first | ((with_reducible refine gate_dst (N := 5) rfl ?_); refine Kd.R_lit (Kd.int .i64) _ 3 ?hg (N := 5) ?hd (xs := ([] : List Int)) (inner := []) (ok := fun _ => True) (okp := fun _ => True) ?hr ?hp (fun _ hk => hk) trivial (Below.refl _ _) (Nat.le_refl _) (by simp) ?_; (case hd => rfl); (case hg => rfl); (case hr => first | (go_simp; done) | (go_simp; rfl)); (case hp => exact (Reps.none _ _)); intro v468 w2 ho3 hb hg_ hnew_; clear hg_ hnew_; (first | rw [← Ny467.out] at ho3 | (simp only [Int.reduceToNat] at ho3; rw [← Ny467.out] at ho3)); have n0 := Az (Kd.R_lower ho3 (below_size (bU0 HB.out))); have n1 := Az (below_step (bU0 HB.out) hb); clear HB; have HO469 := n0; have HB := n1; clear n0 n1; clear hb ho3))
 go_loopg [3, 4] k (fun kq v3 v4 w' => ∃ (x3_1 : List Int) (x4_1 : Int), v4 = .int .i64 x4_1 ∧ Aside0 (spec_l3Flip.l0 kq a0 x3_1 x4_1 = some r) ∧ Aside0 (kq ≤ k) ∧ Aside0 (Kd.R (Kd.int .i64) 3 w' w.heap.size (fun _ => True) v3 x3_1) ∧ Aside0 (Below w.heap.size w w'))
 case atStart => exact ⟨(y467), (0), rS, H', ⟨Nat.le_refl _⟩, ⟨rU HO469.out⟩, ⟨bU0 HB.out⟩⟩
 case round =>
  clear H'; (try clear p2); obtain ⟨x3_1, x4_1, rfl, HA, HK1, HO_3, HB⟩ := hrel
  cases gk with
  | zero => exact absurd HA.out (by simp [spec_l3Flip.l0])
  | succ k1 =>
   have H := HA.out; clear HA; simp only [spec_l3Flip.l0] at H
   by_cases c4 : x4_1 < a0
   ·
    rw [if_pos c4] at H; have c4b0 := decide_eq_true c4; clear c4; obtain ⟨y470, hy470⟩ : ∃ y_ : List Int, y_ = (([wrap64 ((wrap64 (2 * x4_1)) + 1), wrap64 (2 * x4_1)] : List Int)) := ⟨_, rfl⟩; replace H : (if x3_1.length + y470.length < 17592186044416 then (spec_l3Flip.l0 k1 a0 (x3_1 ++ y470) (wrap64 (x4_1 + 1))) else (none)) = some r := hR hy470 H; have Ny470 := Az hy470; clear hy470
    by_cases c5 : x3_1.length + y470.length < 17592186044416
    ·
     rw [if_pos c5] at H; have LMc5 := Az c5; clear c5; obtain ⟨y473, hy473⟩ : ∃ y_ : List Int, y_ = (x3_1 ++ y470) := ⟨_, rfl⟩; replace H : (spec_l3Flip.l0 k1 a0 y473 (wrap64 (x4_1 + 1))) = some r := hR hy473 H; have Ny473 := Az hy473; clear hy473; have H' := Az H; clear H
     go_wp2_with (first | ((with_reducible refine gate_dst (N := 17) rfl ?_); refine Kd.R_lit (Kd.int .i64) _ 3 ?hg (N := 17) ?hd (xs := ([wrap64 ((wrap64 (2 * x4_1)) + 1), wrap64 (2 * x4_1)] : List Int)) (inner := [.int .i64 (wrap64 ((wrap64 (2 * x4_1)) + 1)), .int .i64 (wrap64 (2 * x4_1))]) (ok := fun _ => True) (okp := fun _ => True) ?hr ?hp (fun _ hk => hk) trivial (Below.refl _ _) (Nat.le_refl _) (by simp) ?_; (case hd => rfl); (case hg => rfl); (case hr => first | (go_simp; done) | (go_simp; rfl)); (case hp => exact (Reps.one (show Kd.M (Kd.int .i64) _ _ _ (wrap64 ((wrap64 (2 * x4_1)) + 1)) [.int .i64 (wrap64 ((wrap64 (2 * x4_1)) + 1))] from rfl) (Reps.one (show Kd.M (Kd.int .i64) _ _ _ (wrap64 (2 * x4_1)) [.int .i64 (wrap64 (2 * x4_1))] from rfl) (Reps.none _ _)))); intro v471 w6 ho7 hb hg_ hnew_; clear hg_ hnew_; (first | rw [← Ny470.out] at ho7 | (simp only [Int.reduceToNat] at ho7; rw [← Ny470.out] at ho7)); have n0 := Az (Kd.R_elder' (rU HO_3.out) (Kd.R_base ho7) hb); have n1 := Az (Kd.R_lower (Kd.R_new' ho7 (Kd.R_lt (rU HO_3.out))) (below_size (bU0 HB.out))); have n2 := Az (below_step (bU0 HB.out) hb); clear HO_3 HB; have HO_3 := n0; have HO472 := n1; have HB := n2; clear n0 n1 n2 hb ho7; obtain ⟨Ao9, co9, eo9⟩ := Kd.R_slice HO472.out; subst eo9) | ((with_reducible refine gate_builtin (b := .append) (xs := #[.tmp 11, .tmp 17]) rfl ?_); at_builtin; refine Kd.R_append_rows (Kd.int .i64) (w0 := w) w.heap.size rfl (.tmp 11) (.tmp 17) 23 3 (.int .i64 0) 8 rfl Try.underlying23 info3 rfl (by decide) (by omega) u3 x3_1 y470 _ _ _ (fun k_ => some k_ ≠ (.slice Ao9 y470.length co9 : Value).ownBlock) (fun _ => False) rfl rfl ?aO ?aR (fun _ _ h => h) (fun _ h => h.elim) ?aF ?aB ?aS ?aL ?_; (case aR => exact cU ((Kd.R_reads' HO472.out).2.2)); (case aB => exact (bU0 HB.out)); (case aF => exact (fun k_ hk => Kd.fresh' (Kd.R_lt (rU HO472.out)) k_ hk)); (case aO => exact (by (with_reducible repeat (first | apply Kd.R_alloc | apply Kd.R_drewN | apply Kd.R_drew)); exact Kd.R_mono HO_3.out (fun _ hk => hk.2))); (case aS => exact (below_size (bU0 HB.out))); (case aL => have := LMc5.out; omega); intro v474 w8 ho hb hg hat; rw [← Ny473.out] at ho; have n0 := Az (Kd.R_after (ok := (fun _ => True)) (rU HO472.out) hg hat); have n1 := Az (hb); have n2 := Az (ho); clear HO472 HB HO_3; have HO472 := n0; have HB := n1; have HO475 := n2; clear n0 n1 n2; clear ho hb hg hat))
     (first | go_roundg k1 | (refine Handed.intro k1 ?measure ?_; rotate_left; go_step; (try simp only [add_plain]); (repeat apply Exists.intro); refine ⟨?rel, rfl⟩))
     case measure => have := HK1.out; omega
     case rel => exact ⟨(y473), (wrap64 (x4_1 + 1)), rS, H', ⟨by have := HK1.out; omega⟩, ⟨by (with_reducible repeat (first | apply Kd.R_alloc | apply Kd.R_drewN | apply Kd.R_drew)); exact Kd.R_mono HO475.out (fun _ hk => trivial)⟩, ⟨bU0 HB.out⟩⟩
    ·
     rw [if_neg c5] at H
     exact absurd H (by simp)
   ·
    rw [if_neg c4] at H; have c4b0 := decide_eq_false c4; clear c4; obtain rfl := Option.some.inj H
    go_wp2
    go_ret
    exact ⟨_, rE, rU HO_3.out, bU0 HB.out⟩
def spec_l6qRing.l0 : Nat → List Int → List Int → Int → Option (List Int)
 | 0, _, _, _ => none
 | k + 1, x0, x1, x4 => if x4 < (x1.length : Int) then (if 0 ≤ x4 then (if (x1.length : Int) = 0 then (none) else (if 0 ≤ (Int.tmod (wrap64 (x4 + 1)) (x1.length : Int)) then (if (Int.tmod (wrap64 (x4 + 1)) (x1.length : Int)) < (x1.length : Int) then (if 0 ≤ (rd x1 x4) then (if (rd x1 x4) < (x0.length : Int) then (spec_l6qRing.l0 k (x0.set ((rd x1 x4) : Int).toNat (rd x1 (Int.tmod (wrap64 (x4 + 1)) (x1.length : Int)))) x1 (wrap64 (x4 + 1))) else (none)) else (none)) else (none)) else (none))) else (none)) else (some x0)
def spec_l6qRing.f (k : Nat) (l0 : List Int) (l1 : List Int) : Option (List Int) := spec_l6qRing.l0 k l0 l1 0
theorem spec_l6qRing.mono_l : ∀ k, (∀ y0 y1 y2, LeO (spec_l6qRing.l0 k y0 y1 y2) (spec_l6qRing.l0 (k + 1) y0 y1 y2))
 | 0 => fun _ _ _ r h => by simp [spec_l6qRing.l0] at h
 | k + 1 => by
  have ih0 := spec_l6qRing.mono_l k
  ·
   intro y0 y1 y2
   unfold spec_l6qRing.l0
   repeat' first
   | (with_reducible exact ih0 _ _ _)
   | (with_reducible exact LeO.refl _)
   | (with_reducible exact LeO.none _)
   | (with_reducible refine LeO.ite ?_ ?_)
   | (with_reducible refine LeO.bind ?_ (fun _ => ?_))
   | exact ih0 _ _ _
   | exact LeO.none _
   | refine LeO.ite ?_ ?_
   | refine LeO.bind ?_ (fun _ => ?_)
theorem spec_l6qRing.mono : ∀ a0 a1 k, LeO (spec_l6qRing.f k a0 a1) (spec_l6qRing.f (k + 1) a0 a1) := by
 intro a0 a1 k
 have ih0 := spec_l6qRing.mono_l k
 unfold spec_l6qRing.f
 repeat' first
   | (with_reducible exact ih0 _ _ _)
   | (with_reducible exact LeO.refl _)
   | (with_reducible exact LeO.none _)
   | (with_reducible refine LeO.ite ?_ ?_)
   | (with_reducible refine LeO.bind ?_ (fun _ => ?_))
   | exact ih0 _ _ _
   | exact LeO.none _
   | refine LeO.ite ?_ ?_
   | refine LeO.bind ?_ (fun _ => ?_)
def spec_l6qRing.T3 : Bool × List (List Nat × List Nat) := (true, [([], []), ([], []), ([], []), ([1, 2], [1, 2]), ([3], [3]), ([], []), ([], []), ([6], [6]), ([], []), ([8], [8]), ([7, 9], [7, 9]), ([5, 10], [5, 10]), ([11], [11]), ([0, 4, 0, 1, 2, 3, 4, 5, 6, 7, 8, 9, 10, 11, 12], [0, 4]), ([13, 12, 0, 1, 2, 3, 4, 5, 6, 7, 8, 9, 10, 11, 12], [12, 13])])
def spec_l6qRing.B3 : List Nat := [0, 0, 0, 6, 14, 0, 0, 64, 0, 256, 960, 2016, 4064, 8191, 16383]
theorem spec_l6qRing.tab3 : rtab .any (opsOf Try.f73 3) = spec_l6qRing.T3 := by kernel_rfl
theorem spec_l6qRing.bits3 : waitsOk spec_l6qRing.T3.2 spec_l6qRing.B3 = true := by kernel_rfl
set_option maxHeartbeats 8000000 in
set_option maxRecDepth 100000 in
theorem spec_l6qRing.calls (k : Nat) (P0_ : Nat → Prop) (u9000_ : Value) (l0 : List Int) (A1 : Option Addr) (c1 : Nat) (l1 : List Int) (r : List Int) (w0 w : World) (hB : Below w0.heap.size w0 w) (ho0 : Kd.R (Kd.int .i64) 3 w w0.heap.size P0_ u9000_ l0) (hr1 : ∀ W_, Kept w W_ (fun k_ => P0_ k_) → Kd.C (Kd.int .i64) W_ A1 l1.length l1) (hc1 : l1.length ≤ c1) (h : spec_l6qRing.f k l0 l1 = some r) :
  Calls Try.prog 73 #[u9000_, .slice A1 l1.length c1] w fun e w' => e = .returned (.tuple #[]) ∧ Kd.R (Kd.int .i64) 3 w' w0.heap.size (fun k_ => (P0_ k_ ∨ w.heap.size ≤ k_)) u9000_ r ∧ Below w0.heap.size w0 w' ∧ Kept w w' (fun k_ => P0_ k_) := by
 have HO0 := Az (show Kd.R (Kd.int .i64) 3 w w0.heap.size (fun k_ => (P0_ k_ ∨ w.heap.size ≤ k_)) u9000_ l0 from Kd.R_mono ho0 (fun k_ hk => (.inl hk))); have HR1 := Az hr1; have HC1 := Az hc1; clear hr1 hc1; have HK := Az (Kept.refl w (fun k_ => P0_ k_)); have HW0 := Az hB.size; have HB := Az hB; clear hB; have H : (spec_l6qRing.l0 k l0 l1 0) = some r := h; clear h; have H' := Az H; clear H
 go_enter Try.func73, Try.ntmps73
 go_wp2
 go_loopg [4] k (fun kq v4 w' => ∃ (x0_1 : List Int) (x4_1 : Int), v4 = .int .i64 x4_1 ∧ Aside0 (spec_l6qRing.l0 kq x0_1 l1 x4_1 = some r) ∧ Aside0 (kq ≤ k) ∧ Aside0 (Kd.R (Kd.int .i64) 3 w' w0.heap.size (fun k_ => (P0_ k_ ∨ w.heap.size ≤ k_)) u9000_ x0_1) ∧ Aside0 (Kept w w' (fun k_ => P0_ k_)) ∧ Aside0 (Below w0.heap.size w0 w'))
 case atStart => exact ⟨(l0), (0), rS, H', ⟨Nat.le_refl _⟩, ⟨rU HO0.out⟩, ⟨by repeat (first | (with_reducible first | exact HK.out | apply Kept.alloc | apply Kept.drewN | apply Kept.drew) | exact HK.out)⟩, ⟨bU0 HB.out⟩⟩
 case round =>
  clear H'; (try clear c1); (try clear p2); obtain ⟨x0_1, x4_1, rfl, HA, HK1, HO_0, HK, HB⟩ := hrel
  cases gk with
  | zero => exact absurd HA.out (by simp [spec_l6qRing.l0])
  | succ k1 =>
   have H := HA.out; clear HA; simp only [spec_l6qRing.l0] at H
   by_cases c3 : x4_1 < (l1.length : Int)
   ·
    rw [if_pos c3] at H; have c3b0 := decide_eq_true c3; clear c3
    by_cases c4 : 0 ≤ x4_1
    ·
     rw [if_pos c4] at H; have c4b0 := decide_eq_true c4; clear c4
     by_cases c5 : (l1.length : Int) = 0
     ·
      rw [if_pos c5] at H
      exact absurd H (by simp)
     ·
      rw [if_neg c5] at H; have c5b0 := beq_eq_false_iff_ne.mpr c5; have c5b1 := bne_iff_ne.mpr c5
      have c5b2 : ¬ (l1 = []) := fun h_ => c5 (by rw [h_]; rfl)
      obtain ⟨ji6, hji6⟩ : ∃ j_ : Int, (Int.tmod (wrap64 (x4_1 + 1)) (l1.length : Int)) = j_ := ⟨_, rfl⟩
      replace H : (if 0 ≤ (ji6) then (if (ji6) < (l1.length : Int) then (if 0 ≤ (rd l1 x4_1) then (if (rd l1 x4_1) < (x0_1.length : Int) then (spec_l6qRing.l0 k1 (x0_1.set ((rd l1 x4_1) : Int).toNat (rd l1 (ji6))) l1 (wrap64 (x4_1 + 1))) else (none)) else (none)) else (none)) else (none)) = some r := by first | (rw [hji6] at H; exact H) | (simp only [hji6] at H ⊢; exact H)
      by_cases c7 : 0 ≤ (ji6)
      ·
       rw [if_pos c7] at H; have c7b0 := decide_eq_true c7; clear c7
       by_cases c8 : (ji6) < (l1.length : Int)
       ·
        rw [if_pos c8] at H; have c8b0 := decide_eq_true c8; clear c8
        by_cases c9 : 0 ≤ (rd l1 x4_1)
        ·
         rw [if_pos c9] at H; have c9b0 := decide_eq_true c9; clear c9
         by_cases c10 : (rd l1 x4_1) < (x0_1.length : Int)
         ·
          rw [if_pos c10] at H; have c10b0 := decide_eq_true c10; clear c10; obtain ⟨y478, hy478⟩ : ∃ y_ : List Int, y_ = (x0_1.set ((rd l1 x4_1) : Int).toNat (rd l1 (ji6))) := ⟨_, rfl⟩; replace H : (spec_l6qRing.l0 k1 y478 l1 (wrap64 (x4_1 + 1))) = some r := hR hy478 H; have Ny478 := Az hy478; clear hy478; have H' := Az H; clear H
          try go_wp2
          have n0 := Az (Kd.R_drew HO_0.out); have n1 := Az (Kept.drew HK.out); have n2 := Az (below_drew1 HB.out); clear HO_0 HK HB; have HO_0 := n0; have HK := n1; have HB := n2; clear n0 n1 n2; have p476 : 0 ≤ (x4_1 : Int) := oA; have q476 : x4_1 < (l1.length : Int) := oA; obtain ⟨ad476, e476, hx476_0⟩ := Kd.at_int (Kd.C_kept_now HR1.out HK.out) x4_1 p476 q476; have hw476_0 := hx476_0
          cases e476
          replace p476 := eq_true p476; replace q476 := eq_true q476; have p477 : 0 ≤ ((ji6) : Int) := oA; have q477 : (ji6) < (l1.length : Int) := oA; obtain ⟨ad477, e477, hx477_0⟩ := Kd.at_int (Kd.C_kept_now HR1.out HK.out) (ji6) p477 q477; have hw477_0 := hx477_0; obtain rfl : ad476 = ad477 := (by injection e477); replace p477 := eq_true p477; replace q477 := eq_true q477; have p11 : 0 ≤ ((rd l1 x4_1) : Int) := oA; have q11 : ((rd l1 x4_1) : Int) < ((x0_1.length : Int) : Int) := oA; obtain ⟨go11, co11, eo11, gb11, gl11, cl11, HG11⟩ := Kd.R_form HO_0.out (by omega); (first | cases eo11 | (injection eo11 with ea_ en_ ec_; (first | subst ea_ | (injection ea_ with ea_; subst ea_)); subst ec_; clear en_)); have GB11 := Az gb11; have GG11 := Az HG11; clear gb11 gl11 HG11; have HMgo11 := Az (show (P0_ go11 ∨ w.heap.size ≤ go11) from (HO_0.out.1 _ rfl)); obtain ⟨hx11_0, hf11_0⟩ := Kd.R_celln 0 HO_0.out ((rd l1 x4_1) : Int) p11 q11; replace p11 := eq_true p11; replace q11 := eq_true q11; have HP13 := Kd.R_putn HO_0.out ((rd l1 x4_1) : Int) (rd l1 (ji6)); rw [← Ny478.out] at HP13; have HQ13 := Az HP13; clear HP13
          refine start_ (n := 15) (S := fun w' => w'.cell? (ad476.add (x4_1).toNat) = some (.int .i64 (rd l1 x4_1)) ∧ w'.cell? (ad476.add ((ji6)).toNat) = some (.int .i64 (rd l1 (ji6)))) (ds := [14]) #[false, false, false, false, false, false, false, false, false, false, false, false, false, false, false] (by kernel_rfl) rfl rfl ⟨(Kd.foot_int (HR1.out _ (by repeat (first | exact HK.out | apply Kept.alloc | apply Kept.drewN | apply Kept.drew | refine Kept.setCell ?_ HMgo11.out _))) x4_1 (of_eq_true p476) (of_eq_true q476)), (Kd.foot_int (HR1.out _ (by repeat (first | exact HK.out | apply Kept.alloc | apply Kept.drewN | apply Kept.drew | refine Kept.setCell ?_ HMgo11.out _))) (ji6) (of_eq_true p477) (of_eq_true q477))⟩ (fun hHeld => ?_); refine with_tabW spec_l6qRing.tab3 spec_l6qRing.bits3 (fun HT_ HW_ => ?_)
          generalize wr.drew = w12 at HO_0 HK HB GG11 HQ13 hf11_0 hx11_0 hx476_0 hx477_0 hHeld ⊢
          refine pure_ (i := 0) (N := some 11) (v := ?_) (a' := ?_) #[true, false, false, false, false, false, false, false, false, false, false, false, false, false, false] rfl rfl (any_of HT_.out (by kernel_rfl)) (fun _ _ _ h => h) (Or.inl ⟨by rfl, ?_⟩) ?_ ?_
          rotate_left
          ·
           intro w'
           go_simp
           with_reducible rfl
          rotate_left
          ·
           simp only [Act.put, List.setIfInBounds_toArray, List.set_cons_zero, List.set_cons_succ, i64_w, i32_w]
           rfl
          refine pure_ (i := 1) (N := some 12) (v := ?_) (a' := ?_) #[true, true, false, false, false, false, false, false, false, false, false, false, false, false, false] rfl rfl (any_of HT_.out (by kernel_rfl)) (fun _ _ _ h => h) (Or.inl ⟨by rfl, ?_⟩) ?_ ?_
          rotate_left
          ·
           intro w'
           go_simp
           with_reducible rfl
          rotate_left
          ·
           simp only [Act.put, List.setIfInBounds_toArray, List.set_cons_zero, List.set_cons_succ, i64_w, i32_w]
           rfl
          refine pure_ (i := 2) (N := some 13) (v := ?_) (a' := ?_) #[true, true, true, false, false, false, false, false, false, false, false, false, false, false, false] rfl rfl (any_of HT_.out (by kernel_rfl)) (fun _ _ _ h => h) (Or.inl ⟨by rfl, ?_⟩) ?_ ?_
          rotate_left
          ·
           intro w'
           go_simp
           with_reducible rfl
          rotate_left
          ·
           simp only [Act.put, List.setIfInBounds_toArray, List.set_cons_zero, List.set_cons_succ, i64_w, i32_w]
           rfl
          refine pure_ (i := 3) (N := some 14) (v := ?_) (a' := ?_) #[true, true, true, true, false, false, false, false, false, false, false, false, false, false, false] rfl rfl (any_of HT_.out (by kernel_rfl)) (fun _ _ _ h => h) (Or.inl ⟨by rfl, ?_⟩) ?_ ?_
          rotate_left
          ·
           intro w'
           go_simp
           with_reducible rfl
          rotate_left
          ·
           simp only [Act.put, List.setIfInBounds_toArray, List.set_cons_zero, List.set_cons_succ, i64_w, i32_w]
           rfl
          refine pure_ (i := 5) (N := some 16) (v := ?_) (a' := ?_) #[true, true, true, true, false, true, false, false, false, false, false, false, false, false, false] rfl rfl (any_of HT_.out (by kernel_rfl)) (fun _ _ _ h => h) (Or.inl ⟨by rfl, ?_⟩) ?_ ?_
          rotate_left
          ·
           intro w'
           go_simp
           with_reducible rfl
          rotate_left
          ·
           simp only [Act.put, List.setIfInBounds_toArray, List.set_cons_zero, List.set_cons_succ, i64_w, i32_w]
           rfl
          refine pure_ (i := 6) (N := some 17) (v := ?_) (a' := ?_) #[true, true, true, true, false, true, true, false, false, false, false, false, false, false, false] rfl rfl (any_of HT_.out (by kernel_rfl)) (fun _ _ _ h => h) (Or.inl ⟨by rfl, ?_⟩) ?_ ?_
          rotate_left
          ·
           intro w'
           go_simp
           with_reducible rfl
          rotate_left
          ·
           simp only [Act.put, List.setIfInBounds_toArray, List.set_cons_zero, List.set_cons_succ, i64_w, i32_w]
           rfl
          refine pure_ (i := 7) (N := some 18) (v := ?_) (a' := ?_) #[true, true, true, true, false, true, true, true, false, false, false, false, false, false, false] rfl rfl (any_of HT_.out (by kernel_rfl)) (fun _ _ _ h => h) (Or.inl ⟨by rfl, ?_⟩) ?_ ?_
          rotate_left
          ·
           intro w'
           go_simp
           with_reducible rfl
          rotate_left
          ·
           simp only [Act.put, List.setIfInBounds_toArray, List.set_cons_zero, List.set_cons_succ, i64_w, i32_w]
           rfl
          refine pure_ (i := 8) (N := some 19) (v := ?_) (a' := ?_) #[true, true, true, true, false, true, true, true, true, false, false, false, false, false, false] rfl rfl (any_of HT_.out (by kernel_rfl)) (fun _ _ _ h => h) (Or.inl ⟨by rfl, ?_⟩) ?_ ?_
          rotate_left
          ·
           intro w'
           go_simp
           with_reducible rfl
          rotate_left
          ·
           simp only [Act.put, List.setIfInBounds_toArray, List.set_cons_zero, List.set_cons_succ, i64_w, i32_w]
           rfl
          refine pure_ (i := 9) (N := some 20) (v := ?_) (a' := ?_) #[true, true, true, true, false, true, true, true, true, true, false, false, false, false, false] rfl rfl (any_of HT_.out (by kernel_rfl)) (fun _ _ _ h => h) (Or.inl ⟨by rfl, ?_⟩) ?_ ?_
          rotate_left
          ·
           intro w'
           go_simp
           with_reducible rfl
          rotate_left
          ·
           simp only [Act.put, List.setIfInBounds_toArray, List.set_cons_zero, List.set_cons_succ, i64_w, i32_w]
           rfl
          refine pure_ (i := 10) (N := some 21) (v := ?_) (a' := ?_) #[true, true, true, true, false, true, true, true, true, true, true, false, false, false, false] rfl rfl (any_of HT_.out (by kernel_rfl)) (fun _ _ _ h => h) (Or.inl ⟨by rfl, ?_⟩) ?_ ?_
          rotate_left
          ·
           intro w'
           go_simp
           with_reducible rfl
          rotate_left
          ·
           simp only [Act.put, List.setIfInBounds_toArray, List.set_cons_zero, List.set_cons_succ, i64_w, i32_w]
           rfl
          refine pure_ (i := 11) (N := some 22) (v := ?_) (a' := ?_) #[true, true, true, true, false, true, true, true, true, true, true, true, false, false, false] rfl rfl (any_of HT_.out (by kernel_rfl)) (fun _ _ _ h => h) (Or.inl ⟨by rfl, ?_⟩) ?_ ?_
          rotate_left
          ·
           intro w'
           go_simp
           with_reducible rfl
          rotate_left
          ·
           simp only [Act.put, List.setIfInBounds_toArray, List.set_cons_zero, List.set_cons_succ, i64_w, i32_w]
           rfl
          refine take_ (i := 4) (N := some 15) (v := ?_) (a' := ?_) #[true, true, true, true, true, true, true, true, true, true, true, true, false, false, false] rfl rfl (take_ofW HT_.out HW_.out (by kernel_rfl)) (fun _ _ _ h => h) (Or.inl ⟨by rfl, ?_⟩) hHeld ?_ ?_
          rotate_left
          ·
           rintro w' ⟨s0, s1⟩
           go_simp
           with_reducible rfl
          rotate_left
          ·
           simp only [Act.put, List.setIfInBounds_toArray, List.set_cons_zero, List.set_cons_succ, i64_w, i32_w]
           rfl
          refine take_ (i := 12) (N := some 23) (v := ?_) (a' := ?_) #[true, true, true, true, true, true, true, true, true, true, true, true, true, false, false] rfl rfl (take_ofW HT_.out HW_.out (by kernel_rfl)) (fun _ _ _ h => h) (Or.inl ⟨by rfl, ?_⟩) hHeld ?_ ?_
          rotate_left
          ·
           rintro w' ⟨s0, s1⟩
           go_simp
           with_reducible rfl
          rotate_left
          ·
           simp only [Act.put, List.setIfInBounds_toArray, List.set_cons_zero, List.set_cons_succ, i64_w, i32_w]
           rfl
          refine pure_ (i := 13) (N := some 24) (v := ?_) (a' := ?_) #[true, true, true, true, true, true, true, true, true, true, true, true, true, true, false] rfl rfl (any_of HT_.out (by kernel_rfl)) (fun _ _ _ h => h) (Or.inl ⟨by rfl, ?_⟩) ?_ ?_
          rotate_left
          ·
           intro w'
           go_simp
           with_reducible rfl
          rotate_left
          ·
           simp only [Act.put, List.setIfInBounds_toArray, List.set_cons_zero, List.set_cons_succ, i64_w, i32_w]
           rfl
          refine last_ (i := 14) (N := none) #[true, true, true, true, true, true, true, true, true, true, true, true, true, true, true] rfl rfl (one_of HT_.out (by kernel_rfl)) (by decide) (fun K hK => ?_)
          refine skip_ (w1 := ?_) (by rfl) rfl ?_ ?_
          rotate_left
          ·
           go_simp
           rfl
          refine hK.out _ _ ?_
          clear hK K
          refine done_ (done_of HT_.out (by kernel_rfl)) ?_
          try go_wp2
          (first | go_roundg k1 | (refine Handed.intro k1 ?measure ?_; rotate_left; go_step; (try simp only [add_plain]); (repeat apply Exists.intro); refine ⟨?rel, rfl⟩))
          case measure => have := HK1.out; omega
          case rel => exact ⟨(y478), (wrap64 (x4_1 + 1)), rS, H', ⟨by have := HK1.out; omega⟩, ⟨rU HQ13.out⟩, ⟨by repeat (first | (with_reducible first | exact HK.out | apply Kept.alloc | apply Kept.drewN | apply Kept.drew | refine Kept.setCell ?_ HMgo11.out _) | exact HK.out)⟩, ⟨bU1 HB.out GB11.out⟩⟩
         ·
          rw [if_neg c10] at H
          exact absurd H (by simp)
        ·
         rw [if_neg c9] at H
         exact absurd H (by simp)
       ·
        rw [if_neg c8] at H
        exact absurd H (by simp)
      ·
       rw [if_neg c7] at H
       exact absurd H (by simp)
    ·
     rw [if_neg c4] at H
     exact absurd H (by simp)
   ·
    rw [if_neg c3] at H; have c3b0 := decide_eq_false c3; clear c3; obtain rfl := Option.some.inj H
    go_wp2
    first | go_end0 | ((try simp only [Exit.inBlock, Exit.then]); refine bodyPost_ret (results_none rfl _ _ _) rfl ?_)
    exact ⟨rE, rU HO_0.out, bU0 HB.out, by repeat (first | (with_reducible first | exact HK.out | apply Kept.alloc | apply Kept.drewN | apply Kept.drew) | exact HK.out)⟩
theorem seen_far {α : Type} {enc : α → Value} {d : α} {h1 : ∀ x, (enc x).oneCell' = true} {w : World} {p : Addr} {A : Option Addr} {n : Nat} {xs : List α} (h : (Kd.scalar enc h1).C w A n xs) (hne : ∀ ad, A = some ad → 0 < n → ad.block ≠ p.block) (u : Value) : (Kd.scalar enc h1).C (w.setCell p u) A n xs := by
 have h' := Kd.reads_of_C (d := d) h
 refine Kd.C_of_reads (d := d) ⟨h'.1, h'.2.1, fun hn => ?_⟩
 obtain ⟨ad, e, hc⟩ := h'.2.2 hn
 exact ⟨ad, e, fun j hj => (cell_far (by rw [add_block]; exact hne ad e hn) u).trans (hc j hj)⟩
mutual
def impl_TreeValid.l0 : Nat → ByteArray → List Int → Int → Option Bool
 | 0, _, _, _ => none
 | k + 1, s, l, i => if i < (l.length : Int) then (if 0 ≤ i then (if rd l i < -1 then (some false) else (if rd l i > 1 then (some false) else (impl_TreeValid.l0 k s l (wrap64 (i + 1))))) else none) else (impl_TreeValid.l1 k s 0 0)
def impl_TreeValid.l1 : Nat → ByteArray → Nat → Int → Option Bool
 | 0, _, _, _ => none
 | k + 1, s, p, g => if p < s.size then (if bt s p = 40 then (if wrap64 (g + 1) < 0 then (some false) else (impl_TreeValid.l1 k s (p + 1) (wrap64 (g + 1)))) else (if bt s p = 41 then (if wrap64 (g - 1) < 0 then (some false) else (impl_TreeValid.l1 k s (p + 1) (wrap64 (g - 1)))) else (some false))) else (some (g == 0))
end
def impl_TreeValid.f (k : Nat) (a0_0 : ByteArray) (l0_1 : List Int) : Option Bool := if (l0_1.length : Int) < 1 then (some false) else (if (l0_1.length : Int) > 3 then (some false) else (if (a0_0.size : Int) = wrap64 (2 * (l0_1.length : Int)) then (impl_TreeValid.l0 k a0_0 l0_1 0) else (some false)))
theorem impl_TreeValid.mono_l : ∀ k, (∀ y0 y1 y2, LeO (impl_TreeValid.l0 k y0 y1 y2) (impl_TreeValid.l0 (k + 1) y0 y1 y2)) ∧ (∀ y0 y1 y2, LeO (impl_TreeValid.l1 k y0 y1 y2) (impl_TreeValid.l1 (k + 1) y0 y1 y2))
 | 0 => ⟨fun _ _ _ r h => by simp [impl_TreeValid.l0] at h, fun _ _ _ r h => by simp [impl_TreeValid.l1] at h⟩
 | k + 1 => by
  obtain ⟨ih0, ih1⟩ := impl_TreeValid.mono_l k
  refine ⟨?_, ?_⟩
  ·
   intro y0 y1 y2
   unfold impl_TreeValid.l0
   repeat' first
    | (with_reducible exact ih0 _ _ _)
    | (with_reducible exact ih1 _ _ _)
    | (with_reducible exact LeO.refl _)
    | (with_reducible refine LeO.ite ?_ ?_)
  ·
   intro y0 y1 y2
   unfold impl_TreeValid.l1
   repeat' first
    | (with_reducible exact ih0 _ _ _)
    | (with_reducible exact ih1 _ _ _)
    | (with_reducible exact LeO.refl _)
    | (with_reducible refine LeO.ite ?_ ?_)
theorem impl_TreeValid.mono : ∀ a0 a1 k, LeO (impl_TreeValid.f k a0 a1) (impl_TreeValid.f (k + 1) a0 a1) := by
 intro a0 a1 k
 unfold impl_TreeValid.f
 exact LeO.ite (LeO.refl _) (LeO.ite (LeO.refl _) (LeO.ite ((impl_TreeValid.mono_l k).1 _ _ _) (LeO.refl _)))
theorem impl_TreeValid.wide (s : ByteArray) (p : Nat) (h : p < s.size) : (Utf8.decode s p).2 = 1 ∨ ¬ bt s p = 40 ∧ ¬ bt s p = 41 := by
 by_cases ha : (s[p]'h).toNat < 128
 ·
  left; rw [decode_ascii s p h ha]
 ·
  right
  have hb : bt s p = ((s[p]'h).toNat : Int) := by unfold bt; rw [dif_pos (by simpa using h)]; rfl
  rw [hb]; omega
set_option maxHeartbeats 8000000 in
set_option maxRecDepth 100000 in
theorem impl_TreeValid.calls (k : Nat) (a0_0 : ByteArray) (A0_1 : Option Addr) (c0_1 : Nat) (l0_1 : List Int) (r : Bool) (w : World) (hr0_1 : Kd.C (Kd.int .i64) w A0_1 l0_1.length l0_1) (hc0_1 : l0_1.length ≤ c0_1) (h : impl_TreeValid.f k a0_0 l0_1 = some r) :
  Calls Try.prog 16 #[.agg #[.string a0_0, .slice A0_1 l0_1.length c0_1]] w fun e w' => e = .returned (.bool r) ∧ Below w.heap.size w w' := by
 have hu25 := Try.underlying25; have hus := Try.underlying9; have HR := Az hr0_1; have HC := Az hc0_1; clear hr0_1 hc0_1; have HB := Az (Below.refl w.heap.size w); have H : (if (l0_1.length : Int) < 1 then (some false) else (if (l0_1.length : Int) > 3 then (some false) else (if (a0_0.size : Int) = wrap64 (2 * (l0_1.length : Int)) then (impl_TreeValid.l0 k a0_0 l0_1 0) else (some false)))) = some r := h; clear h
 by_cases c3 : (l0_1.length : Int) < 1
 ·
  rw [if_pos c3] at H; have c3b0 := decide_eq_true c3; clear c3; obtain rfl := Option.some.inj H
  go_enter Try.func16, Try.ntmps16
  go_wp2
  go_ret
  exact ⟨rfl, below_alloc HB.out _⟩
 ·
  rw [if_neg c3] at H; have c3b0 := decide_eq_false c3; clear c3
  by_cases c4 : (l0_1.length : Int) > 3
  ·
   rw [if_pos c4] at H; have c4b0 := decide_eq_true c4; clear c4; obtain rfl := Option.some.inj H
   go_enter Try.func16, Try.ntmps16
   go_wp2
   go_ret
   exact ⟨rfl, below_alloc HB.out _⟩
  ·
   rw [if_neg c4] at H; have c4b0 := decide_eq_false c4
   have c4p : (l0_1.length : Int) ≤ 3 := by omega
   clear c4
   have hw2 : wrap64 (2 * (l0_1.length : Int)) = 2 * (l0_1.length : Int) := by unfold wrap64; omega
   rw [hw2] at H; clear hw2
   by_cases c5 : (a0_0.size : Int) = 2 * (l0_1.length : Int)
   ·
    rw [if_pos c5] at H; have c5b0 := bne_eq_false_iff_eq.mpr c5; clear c5; have H' := Az H; clear H
    go_enter Try.func16, Try.ntmps16
    go_wp2
    go_loopg [28] k (fun kq v28 w' => ∃ (i : Int), v28 = .int .i64 i ∧ Aside0 (impl_TreeValid.l0 kq a0_0 l0_1 i = some r) ∧ Aside0 (kq ≤ k) ∧ Aside0 (w'.heap[w.heap.size]? = some (.cells #[.string a0_0, .slice A0_1 l0_1.length c0_1] 25 (0, 0))) ∧ Aside0 (Below w.heap.size w w'))
    case atStart => exact ⟨0, rfl, H', ⟨Nat.le_refl _⟩, ⟨by simpa using heap_alloc_new w _⟩, ⟨below_alloc HB.out _⟩⟩
    case round =>
     clear H'; obtain ⟨i, rfl, HA, HK1, BK, HB⟩ := hrel; have hcz0 : wr.cell? ⟨w.heap.size, 0, none⟩ = some (.string a0_0) := (blk_cell BK.out 0).trans rfl; have hcz1 : wr.cell? ⟨w.heap.size, 1, none⟩ = some (.slice A0_1 l0_1.length c0_1) := (blk_cell BK.out 1).trans rfl; have hfz0 := blk_frozen BK.out 0; have hfz1 := blk_frozen BK.out 1
     cases gk with
     | zero => exact absurd HA.out (by simp [impl_TreeValid.l0])
     | succ k1 =>
      have H := HA.out; clear HA; simp only [impl_TreeValid.l0] at H
      by_cases c6 : i < (l0_1.length : Int)
      ·
       rw [if_pos c6] at H; have c6b0 := decide_eq_true c6
       by_cases c7 : 0 ≤ i
       ·
        rw [if_pos c7] at H; have c7b0 := decide_eq_true c7; obtain ⟨ad, e, hx⟩ := Kd.at_int HR.out i c7 c6
        cases e
        replace hx := (HB.out.cell (World.block_lt_of_cell? w _ hx)).trans hx; replace c6 := eq_true c6; replace c7 := eq_true c7
        by_cases c8 : rd l0_1 i < -1
        ·
         rw [if_pos c8] at H; have c8b0 := decide_eq_true c8; clear c8; obtain rfl := Option.some.inj H
         go_wp2
         go_ret
         exact ⟨rfl, HB.out⟩
        ·
         rw [if_neg c8] at H; have c8b0 := decide_eq_false c8; clear c8
         by_cases c9 : rd l0_1 i > 1
         ·
          rw [if_pos c9] at H; have c9b0 := decide_eq_true c9; clear c9; obtain rfl := Option.some.inj H
          go_wp2
          go_ret
          exact ⟨rfl, HB.out⟩
         ·
          rw [if_neg c9] at H; have c9b0 := decide_eq_false c9; clear c9; have H' := Az H; clear H
          go_wp2
          (first | go_roundg k1 | (refine Handed.intro k1 ?measure ?_; rotate_left; go_step; (try simp only [add_plain]); (repeat apply Exists.intro); refine ⟨?rel, rfl⟩))
          case measure => have := HK1.out; omega
          case rel => exact ⟨wrap64 (i + 1), rS, H', ⟨by have := HK1.out; omega⟩, ⟨BK.out⟩, ⟨HB.out⟩⟩
       ·
        rw [if_neg c7] at H
        exact absurd H (by simp)
      ·
       rw [if_neg c6] at H; have c6b0 := decide_eq_false c6; clear c6; have H' := Az H; clear H
       go_wp2
       go_loopg [6] k1 (fun kq v6 w' => ∃ (p : Nat) (g : Int), v6 = .int .i64 g ∧ w' = wr.iter a0_0 p ∧ Aside0 (impl_TreeValid.l1 kq a0_0 p g = some r) ∧ Aside0 (kq ≤ k1))
       case atStart => exact ⟨0, 0, rfl, rfl, H', ⟨Nat.le_refl _⟩⟩
       case round =>
        clear H'; obtain ⟨p, g, rfl, rfl, HA, HK2⟩ := hrel
        have hcy0 : ∀ q, (wr.iter a0_0 q).cell? ⟨w.heap.size, 0, none⟩ = some (.string a0_0) := fun q => (blk_cell (blk_alloc BK.out _) 0).trans rfl
        have hfy0 : ∀ q, (wr.iter a0_0 q).frozen? ⟨w.heap.size, 0, none⟩ = false := fun q => blk_frozen (blk_alloc BK.out _) 0
        have HB' : Aside0 (∀ q, Below w.heap.size w (wr.iter a0_0 q)) := ⟨fun q => below_alloc HB.out _⟩
        cases gk with
        | zero => exact absurd HA.out (by simp [impl_TreeValid.l1])
        | succ k2 =>
         have H := HA.out; clear HA; simp only [impl_TreeValid.l1] at H
         by_cases c10 : p < a0_0.size
         ·
          rw [if_pos c10] at H
          have hnx : ∀ ty, (Instr.next (.pointer (some ⟨wr.heap.size, 0, none⟩)) true ty).run Try.prog (wr.iter a0_0 p) = _ := fun ty => run_next_any wr a0_0 p ty c10
          have hwd := Az (impl_TreeValid.wide a0_0 p c10)
          have hx5 : ((a0_0[p]'c10).toNat : Int) = bt a0_0 p := by have := bt_at a0_0 p (by simpa using c10); simpa using this
          have p5 : (0 : Int) ≤ p := by omega
          have q5 : (p : Int) < (a0_0.size : Int) := by omega
          replace p5 := eq_true p5; replace q5 := eq_true q5
          by_cases c11 : bt a0_0 p = 40
          ·
           rw [if_pos c11] at H; have c11b0 := beq_iff_eq.mpr c11
           have hw1 : (Utf8.decode a0_0 p).2 = 1 := by rcases hwd.out with z | z; exact z; exact absurd c11 z.1
           rw [hw1] at hnx; clear c11 hw1 hwd
           by_cases c12 : wrap64 (g + 1) < 0
           ·
            rw [if_pos c12] at H; have c12b0 := decide_eq_true c12; clear c12; obtain rfl := Option.some.inj H
            go_wp2
            go_ret
            exact ⟨rfl, HB'.out _⟩
           ·
            rw [if_neg c12] at H; have c12b0 := decide_eq_false c12; clear c12; have H' := Az H; clear H
            go_wp2
            (first | go_roundg k2 | (refine Handed.intro k2 ?measure ?_; rotate_left; go_step; (try simp only [add_plain]); (repeat apply Exists.intro); refine ⟨?rel, rfl⟩))
            case measure => have := HK2.out; omega
            case rel => exact ⟨p + 1, wrap64 (g + 1), rS, rfl, H', ⟨by have := HK2.out; omega⟩⟩
          ·
           rw [if_neg c11] at H; have c11b0 := beq_eq_false_iff_ne.mpr c11
           by_cases c13 : bt a0_0 p = 41
           ·
            rw [if_pos c13] at H; have c13b0 := beq_iff_eq.mpr c13
            have hw1 : (Utf8.decode a0_0 p).2 = 1 := by rcases hwd.out with z | z; exact z; exact absurd c13 z.2
            rw [hw1] at hnx; clear c11 c13 hw1 hwd
            by_cases c12 : wrap64 (g - 1) < 0
            ·
             rw [if_pos c12] at H; have c12b0 := decide_eq_true c12; clear c12; obtain rfl := Option.some.inj H
             go_wp2
             go_ret
             exact ⟨rfl, HB'.out _⟩
            ·
             rw [if_neg c12] at H; have c12b0 := decide_eq_false c12; clear c12; have H' := Az H; clear H
             go_wp2
             (first | go_roundg k2 | (refine Handed.intro k2 ?measure ?_; rotate_left; go_step; (try simp only [add_plain]); (repeat apply Exists.intro); refine ⟨?rel, rfl⟩))
             case measure => have := HK2.out; omega
             case rel => exact ⟨p + 1, wrap64 (g - 1), rS, rfl, H', ⟨by have := HK2.out; omega⟩⟩
           ·
            rw [if_neg c13] at H; have c13b0 := beq_eq_false_iff_ne.mpr c13; clear c11 c13 hwd; obtain rfl := Option.some.inj H
            go_wp2
            go_ret
            exact ⟨rfl, HB'.out _⟩
         ·
          rw [if_neg c10] at H
          have hnx : ∀ ty, (Instr.next (.pointer (some ⟨wr.heap.size, 0, none⟩)) true ty).run Try.prog (wr.iter a0_0 p) = _ := fun ty => run_next_end wr a0_0 p ty c10
          obtain rfl := Option.some.inj H
          go_wp2
          go_ret
          exact ⟨by first | rfl | (simp; done), HB'.out _⟩
   ·
    rw [if_neg c5] at H; have c5b0 := bne_iff_ne.mpr c5; clear c5; obtain rfl := Option.some.inj H
    go_enter Try.func16, Try.ntmps16
    go_wp2
    go_ret
    exact ⟨rfl, below_alloc HB.out _⟩
def impl_walked.l0 : Nat → List Int → List Int → List Int → List Int → List Int → List Int → Int → Int → Int → ByteArray → List Int → Option (List Int × List Int × List Int)
 | 0, _, _, _, _, _, _, _, _, _, _, _ => none
 | k + 1, x6, x7, x8, x9, x10, x11, x12, x26, x27, xZ0, xZ1 => if x27 < x26 then (if 0 ≤ (wrap64 ((x9.length : Int) - 1)) then (if (wrap64 ((x9.length : Int) - 1)) < (x9.length : Int) then (if x6.length < 17592186044416 then ((some (x6 ++ [rd x9 (wrap64 ((x9.length : Int) - 1))] : List Int)).bind fun y121 => (if (wrap64 ((x9.length : Int) - 1)) < (x10.length : Int) then (if x7.length < 17592186044416 then ((some (x7 ++ [rd x10 (wrap64 ((x9.length : Int) - 1))] : List Int)).bind fun y125 => (if 0 ≤ x27 then (if x27 < (xZ0.size : Int) then (if (bt xZ0 x27) = 40 then (if x9.length < 17592186044416 then (if 0 ≤ x12 then (if x12 < (xZ1.length : Int) then (if x10.length < 17592186044416 then (if x11.length < 17592186044416 then (impl_walked.l0 k y121 y125 x8 (x9 ++ [wrap64 (x12 + 1)]) (x10 ++ [wrap64 ((rd x10 (wrap64 ((x9.length : Int) - 1))) + (rd xZ1 x12))]) (x11 ++ [x27]) (wrap64 (x12 + 1)) x26 (wrap64 (x27 + 1)) xZ0 xZ1) else (none)) else (none)) else (none)) else (none)) else (none)) else (if (wrap64 ((x9.length : Int) - 1)) ≤ (x9.length : Int) then (if (wrap64 ((x9.length : Int) - 1)) ≤ (x10.length : Int) then (if 0 ≤ (wrap64 ((x11.length : Int) - 1)) then (if (wrap64 ((x11.length : Int) - 1)) < (x11.length : Int) then (if (wrap64 ((x11.length : Int) - 1)) ≤ (x11.length : Int) then (if x27 < (x8.length : Int) then (if 0 ≤ (rd x11 (wrap64 ((x11.length : Int) - 1))) then (if (rd x11 (wrap64 ((x11.length : Int) - 1))) < (x8.length : Int) then (impl_walked.l0 k y121 y125 ((x8.set (x27 : Int).toNat (rd x11 (wrap64 ((x11.length : Int) - 1)))).set ((rd x11 (wrap64 ((x11.length : Int) - 1))) : Int).toNat x27) (x9.take ((wrap64 ((x9.length : Int) - 1)) : Int).toNat) (x10.take ((wrap64 ((x9.length : Int) - 1)) : Int).toNat) (x11.take ((wrap64 ((x11.length : Int) - 1)) : Int).toNat) x12 x26 (wrap64 (x27 + 1)) xZ0 xZ1) else (none)) else (none)) else (none)) else (none)) else (none)) else (none)) else (none)) else (none))) else (none)) else (none))) else (none)) else (none))) else (none)) else (none)) else (none)) else (some (x6, x7, x8))
def impl_walked.f (k : Nat) (a0_0 : ByteArray) (l0_1 : List Int) : Option (List Int × List Int × List Int) := if 0 ≤ (a0_0.size : Int) then (if ((a0_0.size : Int) : Int).toNat ≤ 35184372088832 then (impl_walked.l0 k (([] : List Int)) (([] : List Int)) (List.replicate ((a0_0.size : Int) : Int).toNat 0) (([0] : List Int)) (([0] : List Int)) (([] : List Int)) 0 (a0_0.size : Int) 0 a0_0 l0_1) else (none)) else (none)
theorem impl_walked.mono_l : ∀ k, (∀ y0 y1 y2 y3 y4 y5 y6 y7 y8 y9 y10, LeO (impl_walked.l0 k y0 y1 y2 y3 y4 y5 y6 y7 y8 y9 y10) (impl_walked.l0 (k + 1) y0 y1 y2 y3 y4 y5 y6 y7 y8 y9 y10))
 | 0 => fun _ _ _ _ _ _ _ _ _ _ _ r h => by simp [impl_walked.l0] at h
 | k + 1 => by
  have ih0 := impl_walked.mono_l k
  ·
   intro y0 y1 y2 y3 y4 y5 y6 y7 y8 y9 y10
   unfold impl_walked.l0
   repeat' first
   | (with_reducible exact ih0 _ _ _ _ _ _ _ _ _ _ _)
   | (with_reducible exact LeO.refl _)
   | (with_reducible exact LeO.none _)
   | (with_reducible refine LeO.ite ?_ ?_)
   | (with_reducible refine LeO.bind ?_ (fun _ => ?_))
   | exact ih0 _ _ _ _ _ _ _ _ _ _ _
   | exact LeO.none _
   | refine LeO.ite ?_ ?_
   | refine LeO.bind ?_ (fun _ => ?_)
theorem impl_walked.mono : ∀ a0 a1 k, LeO (impl_walked.f k a0 a1) (impl_walked.f (k + 1) a0 a1) := by
 intro a0 a1 k
 have ih0 := impl_walked.mono_l k
 unfold impl_walked.f
 repeat' first
   | (with_reducible exact ih0 _ _ _ _ _ _ _ _ _ _ _)
   | (with_reducible exact LeO.refl _)
   | (with_reducible exact LeO.none _)
   | (with_reducible refine LeO.ite ?_ ?_)
   | (with_reducible refine LeO.bind ?_ (fun _ => ?_))
   | exact ih0 _ _ _ _ _ _ _ _ _ _ _
   | exact LeO.none _
   | refine LeO.ite ?_ ?_
   | refine LeO.bind ?_ (fun _ => ?_)
def impl_walked.T13 : Bool × List (List Nat × List Nat) := (true, [([], []), ([], []), ([], []), ([1, 2], [1, 2]), ([3], [3]), ([], []), ([5], [5]), ([], []), ([6, 7], [6, 7]), ([8], [8]), ([4, 9], [4, 9]), ([10], [10]), ([0, 11], [0, 11]), ([12, 12, 0, 1, 2, 3, 4, 5, 6, 7, 8, 9, 10, 11, 12], [0, 1, 12])])
def impl_walked.B13 : List Nat := [0, 0, 0, 6, 14, 0, 32, 0, 224, 480, 1022, 2046, 4095, 8191]
theorem impl_walked.tab13 : rtab .any (opsOf Try.f64 13) = impl_walked.T13 := by kernel_rfl
theorem impl_walked.bits13 : waitsOk impl_walked.T13.2 impl_walked.B13 = true := by kernel_rfl
def impl_walked.T16 : Bool × List (List Nat × List Nat) := (true, [([], []), ([], []), ([0, 1], [0, 1]), ([], []), ([], []), ([3, 4], [3, 4]), ([2, 0, 1, 2], [0, 2]), ([5, 6, 0, 1, 2, 3, 4, 5, 6], [3, 5])])
def impl_walked.B16 : List Nat := [0, 0, 3, 0, 0, 24, 7, 127]
theorem impl_walked.tab16 : rtab .any (opsOf Try.f64 16) = impl_walked.T16 := by kernel_rfl
theorem impl_walked.bits16 : waitsOk impl_walked.T16.2 impl_walked.B16 = true := by kernel_rfl
set_option maxHeartbeats 8000000 in
set_option maxRecDepth 100000 in
theorem impl_walked.calls (k : Nat) (a0_0 : ByteArray) (A0_1 : Option Addr) (c0_1 : Nat) (l0_1 : List Int) (r1 : List Int) (r2 : List Int) (r3 : List Int) (w : World) (hr0_1 : Kd.C (Kd.int .i64) w A0_1 l0_1.length l0_1) (hc0_1 : l0_1.length ≤ c0_1) (h : impl_walked.f k a0_0 l0_1 = some (r1, r2, r3)) :
  Calls Try.prog 64 #[.agg #[.string a0_0, .slice A0_1 l0_1.length c0_1]] w fun e w' => ∃ v0_ v1_ v2_ : Value, e = .returned (.tuple #[v0_, v1_, v2_]) ∧ Kd.R (Kd.int .i64) 3 w' w.heap.size (fun k_ => some k_ ≠ (v1_ : Value).ownBlock ∧ some k_ ≠ (v2_ : Value).ownBlock) v0_ r1 ∧ Kd.R (Kd.int .i64) 3 w' w.heap.size (fun k_ => some k_ ≠ (v0_ : Value).ownBlock ∧ some k_ ≠ (v2_ : Value).ownBlock) v1_ r2 ∧ Kd.R (Kd.int .i64) 3 w' w.heap.size (fun k_ => some k_ ≠ (v0_ : Value).ownBlock ∧ some k_ ≠ (v1_ : Value).ownBlock) v2_ r3 ∧ Below w.heap.size w w' := by
 have hu25 := Try.underlying25; have HR0_1 := Az hr0_1; have HC0_1 := Az hc0_1; clear hr0_1 hc0_1; have HB := Az (Below.refl w.heap.size w); have H : (if 0 ≤ (a0_0.size : Int) then (if ((a0_0.size : Int) : Int).toNat ≤ 35184372088832 then (impl_walked.l0 k (([] : List Int)) (([] : List Int)) (List.replicate ((a0_0.size : Int) : Int).toNat 0) (([0] : List Int)) (([0] : List Int)) (([] : List Int)) 0 (a0_0.size : Int) 0 a0_0 l0_1) else (none)) else (none)) = some (r1, r2, r3) := h; clear h; obtain ⟨y102, hy102⟩ : ∃ y_ : List Int, y_ = (([] : List Int)) := ⟨_, rfl⟩; replace H : (if 0 ≤ (a0_0.size : Int) then (if ((a0_0.size : Int) : Int).toNat ≤ 35184372088832 then (impl_walked.l0 k y102 (([] : List Int)) (List.replicate ((a0_0.size : Int) : Int).toNat 0) (([0] : List Int)) (([0] : List Int)) (([] : List Int)) 0 (a0_0.size : Int) 0 a0_0 l0_1) else (none)) else (none)) = some (r1, r2, r3) := hR hy102 H; have Ny102 := Az hy102; clear hy102; obtain ⟨y105, hy105⟩ : ∃ y_ : List Int, y_ = (([] : List Int)) := ⟨_, rfl⟩; replace H : (if 0 ≤ (a0_0.size : Int) then (if ((a0_0.size : Int) : Int).toNat ≤ 35184372088832 then (impl_walked.l0 k y102 y105 (List.replicate ((a0_0.size : Int) : Int).toNat 0) (([0] : List Int)) (([0] : List Int)) (([] : List Int)) 0 (a0_0.size : Int) 0 a0_0 l0_1) else (none)) else (none)) = some (r1, r2, r3) := hR hy105 H; have Ny105 := Az hy105; clear hy105
 by_cases c2 : 0 ≤ (a0_0.size : Int)
 ·
  rw [if_pos c2] at H; have c2b0 := eq_true c2; have c2b1 := decide_eq_true c2; clear c2
  by_cases c3 : ((a0_0.size : Int) : Int).toNat ≤ 35184372088832
  ·
   rw [if_pos c3] at H; have c3b0 := eq_true c3; have c3b1 := decide_eq_true c3; clear c3; obtain ⟨y108, hy108⟩ : ∃ y_ : List Int, y_ = (List.replicate ((a0_0.size : Int) : Int).toNat 0) := ⟨_, rfl⟩; replace H : (impl_walked.l0 k y102 y105 y108 (([0] : List Int)) (([0] : List Int)) (([] : List Int)) 0 (a0_0.size : Int) 0 a0_0 l0_1) = some (r1, r2, r3) := hR hy108 H; have Ny108 := Az hy108; clear hy108; obtain ⟨y111, hy111⟩ : ∃ y_ : List Int, y_ = (([0] : List Int)) := ⟨_, rfl⟩; replace H : (impl_walked.l0 k y102 y105 y108 y111 (([0] : List Int)) (([] : List Int)) 0 (a0_0.size : Int) 0 a0_0 l0_1) = some (r1, r2, r3) := hR hy111 H; have Ny111 := Az hy111; clear hy111; obtain ⟨y114, hy114⟩ : ∃ y_ : List Int, y_ = (([0] : List Int)) := ⟨_, rfl⟩; replace H : (impl_walked.l0 k y102 y105 y108 y111 y114 (([] : List Int)) 0 (a0_0.size : Int) 0 a0_0 l0_1) = some (r1, r2, r3) := hR hy114 H; have Ny114 := Az hy114; clear hy114; obtain ⟨y117, hy117⟩ : ∃ y_ : List Int, y_ = (([] : List Int)) := ⟨_, rfl⟩; replace H : (impl_walked.l0 k y102 y105 y108 y111 y114 y117 0 (a0_0.size : Int) 0 a0_0 l0_1) = some (r1, r2, r3) := hR hy117 H; have Ny117 := Az hy117; clear hy117; have H' := Az H; clear H
   go_enter Try.func64, Try.ntmps64
   try go_wp2_with (first | ((with_reducible refine gate_dst (N := 1) rfl ?_); refine box_event ?hg (N := 1) ?hd (cs := #[.string a0_0, .slice A0_1 l0_1.length c0_1]) (t := 25) ?hr ?_; (case hd => rfl); (case hg => rfl); (case hr => first | (go_simp; done) | (go_simp; rfl)); intro gb101 hg w4 hbox hb; have n0 := Az (below_step (bU0 HB.out) hb); have n1 := Az (hbox); have n2 := Az ((by rw [hg]; exact (below_size (bU0 HB.out)) : w.heap.size ≤ gb101)); have n3 := n2; clear HB; have HB := n0; have BK101 := n1; have GW101 := n2; have GE101 := n3; clear n0 n1 n2 n3 hb hbox hg; have hcz5_0 : w4.cell? ⟨gb101, 0, none⟩ = some (.string a0_0) := (blk_cell BK101.out 0).trans rfl; have hcz5_1 : w4.cell? ⟨gb101, 1, none⟩ = some (.slice A0_1 l0_1.length c0_1) := (blk_cell BK101.out 1).trans rfl; have hfz5_0 := blk_frozen BK101.out 0; have hfz5_1 := blk_frozen BK101.out 1))
   have n0 := Az (blk_drew BK101.out); have n1 := Az (below_drew1 HB.out); clear BK101 HB; have BK101 := n0; have HB := n1; clear n0 n1
   refine start_ (n := 7) (S := fun w' => True) (ds := []) #[false, false, false, false, false, false, false] (by kernel_rfl) rfl rfl trivial (fun hHeld => ?_)
   generalize w4.drew = w6 at BK101 HB hHeld ⊢
   refine pure_ (i := 2) (N := some 21) (v := ?_) (a' := ?_) #[false, false, true, false, false, false, false] rfl rfl (by kernel_rfl) (fun _ _ _ h => h) (Or.inl ⟨by rfl, ?_⟩) ?_ ?_
   rotate_left
   ·
    intro w'
    go_simp
    with_reducible rfl
   rotate_left
   ·
    simp only [Act.put, List.setIfInBounds_toArray, List.set_cons_zero, List.set_cons_succ, i64_w, i32_w]
    rfl
   refine join_ (σ := Value × Value × Value) 1 #[true, true, true, true, true, true, false] (fun s_ => [(19, s_.1), (20, s_.2.1), (22, s_.2.2), (6, s_.1), (7, s_.2.1)]) (fun s_ w' => (Kd.R (Kd.int .i64) 3 w' w.heap.size (fun k_ => some k_ ≠ (s_.2.1 : Value).ownBlock ∧ some k_ ≠ (s_.2.2 : Value).ownBlock) s_.1 y102) ∧ (Kd.R (Kd.int .i64) 3 w' w.heap.size (fun k_ => some k_ ≠ (s_.1 : Value).ownBlock ∧ some k_ ≠ (s_.2.2 : Value).ownBlock) s_.2.1 y105) ∧ (Kd.R (Kd.int .i64) 3 w' w.heap.size (fun k_ => some k_ ≠ (s_.1 : Value).ownBlock ∧ some k_ ≠ (s_.2.1 : Value).ownBlock) s_.2.2 y108) ∧ (w'.heap[gb101]? = some (.cells #[.string a0_0, .slice A0_1 l0_1.length c0_1] 25 (0, 0))) ∧ (Below w.heap.size w w')) ?_ ?_
   rotate_left
   ·
    intro hJ0_1_3
    refine join_ (σ := Value × Value) 2 #[true, true, true, false, true, true, false] (fun s_ => [(19, s_.1), (20, s_.2), (6, s_.1), (7, s_.2)]) (fun s_ w' => (Kd.R (Kd.int .i64) 3 w' w.heap.size (fun k_ => some k_ ≠ (s_.2 : Value).ownBlock) s_.1 y102) ∧ (Kd.R (Kd.int .i64) 3 w' w.heap.size (fun k_ => some k_ ≠ (s_.1 : Value).ownBlock) s_.2 y105) ∧ (w'.heap[gb101]? = some (.cells #[.string a0_0, .slice A0_1 l0_1.length c0_1] 25 (0, 0))) ∧ (Below w.heap.size w w')) ?_ ?_
    rotate_left
    ·
     intro hJ0_1
     refine join_ (σ := Value × Value) 3 #[true, false, true, true, true, false, false] (fun s_ => [(19, s_.1), (22, s_.2), (6, s_.1)]) (fun s_ w' => (Kd.R (Kd.int .i64) 3 w' w.heap.size (fun k_ => some k_ ≠ (s_.2 : Value).ownBlock) s_.1 y102) ∧ (Kd.R (Kd.int .i64) 3 w' w.heap.size (fun k_ => some k_ ≠ (s_.1 : Value).ownBlock) s_.2 y108) ∧ (w'.heap[gb101]? = some (.cells #[.string a0_0, .slice A0_1 l0_1.length c0_1] 25 (0, 0))) ∧ (Below w.heap.size w w')) ?_ ?_
     rotate_left
     ·
      intro hJ0_3
      refine join_ (σ := Value × Value) 4 #[false, true, true, true, false, false, false] (fun s_ => [(20, s_.1), (22, s_.2)]) (fun s_ w' => (Kd.R (Kd.int .i64) 3 w' w.heap.size (fun k_ => some k_ ≠ (s_.2 : Value).ownBlock) s_.1 y105) ∧ (Kd.R (Kd.int .i64) 3 w' w.heap.size (fun k_ => some k_ ≠ (s_.1 : Value).ownBlock) s_.2 y108) ∧ (w'.heap[gb101]? = some (.cells #[.string a0_0, .slice A0_1 l0_1.length c0_1] 25 (0, 0))) ∧ (Below w.heap.size w w')) ?_ ?_
      rotate_left
      ·
       intro hJ1_3
       refine join_ (σ := Value) 4 #[true, false, true, false, true, false, false] (fun s_ => [(19, s_), (6, s_)]) (fun s_ w' => (Kd.R (Kd.int .i64) 3 w' w.heap.size (fun _ => True) s_ y102) ∧ (w'.heap[gb101]? = some (.cells #[.string a0_0, .slice A0_1 l0_1.length c0_1] 25 (0, 0))) ∧ (Below w.heap.size w w')) ?_ ?_
       rotate_left
       ·
        intro hJ0
        refine join_ (σ := Value) 5 #[false, true, true, false, false, false, false] (fun s_ => [(20, s_)]) (fun s_ w' => (Kd.R (Kd.int .i64) 3 w' w.heap.size (fun _ => True) s_ y105) ∧ (w'.heap[gb101]? = some (.cells #[.string a0_0, .slice A0_1 l0_1.length c0_1] 25 (0, 0))) ∧ (Below w.heap.size w w')) ?_ ?_
        rotate_left
        ·
         intro hJ1
         refine join_ (σ := Value) 5 #[false, false, true, true, false, false, false] (fun s_ => [(22, s_)]) (fun s_ w' => (Kd.R (Kd.int .i64) 3 w' w.heap.size (fun _ => True) s_ y108) ∧ (w'.heap[gb101]? = some (.cells #[.string a0_0, .slice A0_1 l0_1.length c0_1] 25 (0, 0))) ∧ (Below w.heap.size w w')) ?_ ?_
         rotate_left
         ·
          intro hJ3
          refine three_ (i := 0) (j := 1) (k := 3) (Ni := some 19) (Nj := some 20) (Nk := some 22) #[true, false, true, false, false, false, false] #[false, true, true, false, false, false, false] #[false, false, true, true, false, false, false] rfl rfl rfl rfl rfl rfl (by kernel_rfl) (by decide) (by decide) (by decide) (fun K hK => ?_) (fun K hK => ?_) (fun K hK => ?_)
          ·
           skip
           refine Kd.R_lit_step (Kd.int .i64) _ 3 ?hg (N := 19) ?hd (xs := ([] : List Int)) (inner := []) (ok := fun _ => True) (okp := fun _ => True) ?hr ?hp (fun _ hk => hk) trivial (Below.refl _ _) (Nat.le_refl _) (by simp) ?_; (case hd => rfl); (case hg => rfl); (case hr => first | (go_simp; done) | (go_simp; rfl)); (case hp => exact (Reps.none _ _))
           intro v103 w7 ho8 hb hg_ hnew_
           clear hg_ hnew_; (first | rw [← Ny102.out] at ho8 | (simp only [Int.reduceToNat] at ho8; rw [← Ny102.out] at ho8)); have n0 := Az (Kd.R_lower ho8 (below_size (bU1 HB.out GE101.out))); have n1 := Az (blk_below (g := gb101) (o := .cells #[.string a0_0, .slice A0_1 l0_1.length c0_1] 25 (0, 0)) (kU BK101.out) hb); have n2 := Az (below_step (bU1 HB.out GE101.out) hb); clear BK101 HB; have HO104 := n0; have BK101 := n1; have HB := n2; clear n0 n1 n2 hb ho8
           refine hK.out _ _ trivial (fun hHeld => ?_)
           clear hK K
           refine norm_ (a' := ?_) ?_ ?_
           rotate_left
           ·
            show Act.put _ (some 19) _ = _
            simp only [Act.put, List.setIfInBounds_toArray, List.set_cons_zero, List.set_cons_succ, i64_w, i32_w]
            rfl
           refine pure_ (i := 4) (N := some 6) (v := ?_) (a' := ?_) #[true, false, true, false, true, false, false] rfl rfl (by kernel_rfl) (fun _ _ _ h => h) (Or.inl ⟨by rfl, ?_⟩) ?_ ?_
           rotate_left
           ·
            intro w'
            go_simp
            with_reducible rfl
           rotate_left
           ·
            simp only [Act.put, List.setIfInBounds_toArray, List.set_cons_zero, List.set_cons_succ, i64_w, i32_w]
            rfl
           exact norm_ (by first | (simp only [putAll, Act.put, List.setIfInBounds_toArray, List.set_cons_zero, List.set_cons_succ]; done) | (simp only [putAll, Act.put, List.setIfInBounds_toArray, List.set_cons_zero, List.set_cons_succ]; rfl)) (hJ0 (v103) _ ⟨(rU HO104.out), (kU BK101.out), (bU1 HB.out GE101.out)⟩)
          ·
           skip
           refine Kd.R_lit_step (Kd.int .i64) _ 3 ?hg (N := 20) ?hd (xs := ([] : List Int)) (inner := []) (ok := fun _ => True) (okp := fun _ => True) ?hr ?hp (fun _ hk => hk) trivial (Below.refl _ _) (Nat.le_refl _) (by simp) ?_; (case hd => rfl); (case hg => rfl); (case hr => first | (go_simp; done) | (go_simp; rfl)); (case hp => exact (Reps.none _ _))
           intro v106 w7 ho8 hb hg_ hnew_
           clear hg_ hnew_; (first | rw [← Ny105.out] at ho8 | (simp only [Int.reduceToNat] at ho8; rw [← Ny105.out] at ho8)); have n0 := Az (Kd.R_lower ho8 (below_size (bU1 HB.out GE101.out))); have n1 := Az (blk_below (g := gb101) (o := .cells #[.string a0_0, .slice A0_1 l0_1.length c0_1] 25 (0, 0)) (kU BK101.out) hb); have n2 := Az (below_step (bU1 HB.out GE101.out) hb); clear BK101 HB; have HO107 := n0; have BK101 := n1; have HB := n2; clear n0 n1 n2 hb ho8
           refine hK.out _ _ trivial (fun hHeld => ?_)
           clear hK K
           refine norm_ (a' := ?_) ?_ ?_
           rotate_left
           ·
            show Act.put _ (some 20) _ = _
            simp only [Act.put, List.setIfInBounds_toArray, List.set_cons_zero, List.set_cons_succ, i64_w, i32_w]
            rfl
           exact norm_ (by first | (simp only [putAll, Act.put, List.setIfInBounds_toArray, List.set_cons_zero, List.set_cons_succ]; done) | (simp only [putAll, Act.put, List.setIfInBounds_toArray, List.set_cons_zero, List.set_cons_succ]; rfl)) (hJ1 (v106) _ ⟨(rU HO107.out), (kU BK101.out), (bU1 HB.out GE101.out)⟩)
          ·
           skip
           refine Kd.R_make_step (Kd.int .i64) _ 3 (by rfl) (N := 22) rfl 23 _ _ rfl (a0_0.size : Int) rfl rfl Try.underlying23 (.int .i64 0) 8 info3 rfl (by decide) (by omega) 0 (ok := fun _ => True) (okp := fun _ => True) rfl (fun _ hk => hk) trivial (oA) (Nat.le_trans (Nat.mul_le_mul_right _ (oA : (a0_0.size : Int).toNat ≤ 35184372088832)) (by omega)) (Below.refl _ _) (Nat.le_refl _) ?_
           intro v109 w7 ho8 hb hg_ hnew_
           clear hg_ hnew_; (first | rw [← Ny108.out] at ho8 | (simp only [Int.reduceToNat] at ho8; rw [← Ny108.out] at ho8)); have n0 := Az (Kd.R_lower ho8 (below_size (bU1 HB.out GE101.out))); have n1 := Az (blk_below (g := gb101) (o := .cells #[.string a0_0, .slice A0_1 l0_1.length c0_1] 25 (0, 0)) (kU BK101.out) hb); have n2 := Az (below_step (bU1 HB.out GE101.out) hb); clear BK101 HB; have HO110 := n0; have BK101 := n1; have HB := n2; clear n0 n1 n2 hb ho8
           refine hK.out _ _ trivial (fun hHeld => ?_)
           clear hK K
           refine norm_ (a' := ?_) ?_ ?_
           rotate_left
           ·
            show Act.put _ (some 22) _ = _
            simp only [Act.put, List.setIfInBounds_toArray, List.set_cons_zero, List.set_cons_succ, i64_w, i32_w]
            rfl
           exact norm_ (by first | (simp only [putAll, Act.put, List.setIfInBounds_toArray, List.set_cons_zero, List.set_cons_succ]; done) | (simp only [putAll, Act.put, List.setIfInBounds_toArray, List.set_cons_zero, List.set_cons_succ]; rfl)) (hJ3 (v109) _ ⟨(rU HO110.out), (kU BK101.out), (bU1 HB.out GE101.out)⟩)
         ·
          skip
          rintro v109 w9 ⟨h0_, h1_, h2_⟩
          have n0 : Aside0 (Kd.R (Kd.int .i64) 3 w9 w.heap.size (fun _ => True) v109 y108) := ⟨h0_⟩; have n1 : Aside0 (w9.heap[gb101]? = some (.cells #[.string a0_0, .slice A0_1 l0_1.length c0_1] 25 (0, 0))) := ⟨h1_⟩; have n2 : Aside0 (Below w.heap.size w w9) := ⟨h2_⟩; clear BK101 HB h0_ h1_ h2_; have HO110 := n0; have BK101 := n1; have HB := n2; clear n0 n1 n2; have hHeld := trivial
          refine norm_ (a' := ?_) ?_ ?_
          rotate_left
          ·
           simp only [putAll, Act.put, List.setIfInBounds_toArray, List.set_cons_zero, List.set_cons_succ]
           rfl
          refine two_ (i := 0) (j := 1) (Ni := some 19) (Nj := some 20) #[true, false, true, true, false, false, false] #[false, true, true, true, false, false, false] rfl rfl rfl rfl (by kernel_rfl) (by decide) (by decide) (fun K hK => ?_) (fun K hK => ?_)
          ·
           skip
           refine Kd.R_lit_step (Kd.int .i64) _ 3 ?hg (N := 19) ?hd (xs := ([] : List Int)) (inner := []) (ok := fun _ => True) (okp := fun _ => True) ?hr ?hp (fun _ hk => hk) trivial (Below.refl _ _) (Nat.le_refl _) (by simp) ?_; (case hd => rfl); (case hg => rfl); (case hr => first | (go_simp; done) | (go_simp; rfl)); (case hp => exact (Reps.none _ _))
           intro v103 w10 ho11 hb hg_ hnew_
           clear hg_ hnew_; (first | rw [← Ny102.out] at ho11 | (simp only [Int.reduceToNat] at ho11; rw [← Ny102.out] at ho11)); have n0 := Az (Kd.R_elder' (rU HO110.out) (Kd.R_base ho11) hb); have n1 := Az (Kd.R_lower (Kd.R_new' ho11 (Kd.R_lt (rU HO110.out))) (below_size (bU1 HB.out GE101.out))); have n2 := Az (blk_below (g := gb101) (o := .cells #[.string a0_0, .slice A0_1 l0_1.length c0_1] 25 (0, 0)) (kU BK101.out) hb); have n3 := Az (below_step (bU1 HB.out GE101.out) hb); clear HO110 BK101 HB; have HO110 := n0; have HO104 := n1; have BK101 := n2; have HB := n3; clear n0 n1 n2 n3 hb ho11
           refine hK.out _ _ trivial (fun hHeld => ?_)
           clear hK K
           refine norm_ (a' := ?_) ?_ ?_
           rotate_left
           ·
            show Act.put _ (some 19) _ = _
            simp only [Act.put, List.setIfInBounds_toArray, List.set_cons_zero, List.set_cons_succ, i64_w, i32_w]
            rfl
           refine pure_ (i := 4) (N := some 6) (v := ?_) (a' := ?_) #[true, false, true, true, true, false, false] rfl rfl (by kernel_rfl) (fun _ _ _ h => h) (Or.inl ⟨by rfl, ?_⟩) ?_ ?_
           rotate_left
           ·
            intro w'
            go_simp
            with_reducible rfl
           rotate_left
           ·
            simp only [Act.put, List.setIfInBounds_toArray, List.set_cons_zero, List.set_cons_succ, i64_w, i32_w]
            rfl
           exact norm_ (by first | (simp only [putAll, Act.put, List.setIfInBounds_toArray, List.set_cons_zero, List.set_cons_succ]; done) | (simp only [putAll, Act.put, List.setIfInBounds_toArray, List.set_cons_zero, List.set_cons_succ]; rfl)) (hJ0_3 (v103, v109) _ ⟨(by (with_reducible repeat (first | apply Kd.R_alloc | apply Kd.R_drewN | apply Kd.R_drew)); exact Kd.R_mono HO104.out (fun _ hk => hk.2)), (by (with_reducible repeat (first | apply Kd.R_alloc | apply Kd.R_drewN | apply Kd.R_drew)); exact Kd.R_mono HO110.out (fun _ hk => hk.2)), (kU BK101.out), (bU1 HB.out GE101.out)⟩)
          ·
           skip
           refine Kd.R_lit_step (Kd.int .i64) _ 3 ?hg (N := 20) ?hd (xs := ([] : List Int)) (inner := []) (ok := fun _ => True) (okp := fun _ => True) ?hr ?hp (fun _ hk => hk) trivial (Below.refl _ _) (Nat.le_refl _) (by simp) ?_; (case hd => rfl); (case hg => rfl); (case hr => first | (go_simp; done) | (go_simp; rfl)); (case hp => exact (Reps.none _ _))
           intro v106 w10 ho11 hb hg_ hnew_
           clear hg_ hnew_; (first | rw [← Ny105.out] at ho11 | (simp only [Int.reduceToNat] at ho11; rw [← Ny105.out] at ho11)); have n0 := Az (Kd.R_elder' (rU HO110.out) (Kd.R_base ho11) hb); have n1 := Az (Kd.R_lower (Kd.R_new' ho11 (Kd.R_lt (rU HO110.out))) (below_size (bU1 HB.out GE101.out))); have n2 := Az (blk_below (g := gb101) (o := .cells #[.string a0_0, .slice A0_1 l0_1.length c0_1] 25 (0, 0)) (kU BK101.out) hb); have n3 := Az (below_step (bU1 HB.out GE101.out) hb); clear HO110 BK101 HB; have HO110 := n0; have HO107 := n1; have BK101 := n2; have HB := n3; clear n0 n1 n2 n3 hb ho11
           refine hK.out _ _ trivial (fun hHeld => ?_)
           clear hK K
           refine norm_ (a' := ?_) ?_ ?_
           rotate_left
           ·
            show Act.put _ (some 20) _ = _
            simp only [Act.put, List.setIfInBounds_toArray, List.set_cons_zero, List.set_cons_succ, i64_w, i32_w]
            rfl
           exact norm_ (by first | (simp only [putAll, Act.put, List.setIfInBounds_toArray, List.set_cons_zero, List.set_cons_succ]; done) | (simp only [putAll, Act.put, List.setIfInBounds_toArray, List.set_cons_zero, List.set_cons_succ]; rfl)) (hJ1_3 (v106, v109) _ ⟨(by (with_reducible repeat (first | apply Kd.R_alloc | apply Kd.R_drewN | apply Kd.R_drew)); exact Kd.R_mono HO107.out (fun _ hk => hk.2)), (by (with_reducible repeat (first | apply Kd.R_alloc | apply Kd.R_drewN | apply Kd.R_drew)); exact Kd.R_mono HO110.out (fun _ hk => hk.2)), (kU BK101.out), (bU1 HB.out GE101.out)⟩)
        ·
         skip
         rintro v106 w9 ⟨h0_, h1_, h2_⟩
         have n0 : Aside0 (Kd.R (Kd.int .i64) 3 w9 w.heap.size (fun _ => True) v106 y105) := ⟨h0_⟩; have n1 : Aside0 (w9.heap[gb101]? = some (.cells #[.string a0_0, .slice A0_1 l0_1.length c0_1] 25 (0, 0))) := ⟨h1_⟩; have n2 : Aside0 (Below w.heap.size w w9) := ⟨h2_⟩; clear BK101 HB h0_ h1_ h2_; have HO107 := n0; have BK101 := n1; have HB := n2; clear n0 n1 n2; have hHeld := trivial
         refine norm_ (a' := ?_) ?_ ?_
         rotate_left
         ·
          simp only [putAll, Act.put, List.setIfInBounds_toArray, List.set_cons_zero, List.set_cons_succ]
          rfl
         refine two_ (i := 0) (j := 3) (Ni := some 19) (Nj := some 22) #[true, true, true, false, false, false, false] #[false, true, true, true, false, false, false] rfl rfl rfl rfl (by kernel_rfl) (by decide) (by decide) (fun K hK => ?_) (fun K hK => ?_)
         ·
          skip
          refine Kd.R_lit_step (Kd.int .i64) _ 3 ?hg (N := 19) ?hd (xs := ([] : List Int)) (inner := []) (ok := fun _ => True) (okp := fun _ => True) ?hr ?hp (fun _ hk => hk) trivial (Below.refl _ _) (Nat.le_refl _) (by simp) ?_; (case hd => rfl); (case hg => rfl); (case hr => first | (go_simp; done) | (go_simp; rfl)); (case hp => exact (Reps.none _ _))
          intro v103 w10 ho11 hb hg_ hnew_
          clear hg_ hnew_; (first | rw [← Ny102.out] at ho11 | (simp only [Int.reduceToNat] at ho11; rw [← Ny102.out] at ho11)); have n0 := Az (Kd.R_elder' (rU HO107.out) (Kd.R_base ho11) hb); have n1 := Az (Kd.R_lower (Kd.R_new' ho11 (Kd.R_lt (rU HO107.out))) (below_size (bU1 HB.out GE101.out))); have n2 := Az (blk_below (g := gb101) (o := .cells #[.string a0_0, .slice A0_1 l0_1.length c0_1] 25 (0, 0)) (kU BK101.out) hb); have n3 := Az (below_step (bU1 HB.out GE101.out) hb); clear HO107 BK101 HB; have HO107 := n0; have HO104 := n1; have BK101 := n2; have HB := n3; clear n0 n1 n2 n3 hb ho11
          refine hK.out _ _ trivial (fun hHeld => ?_)
          clear hK K
          refine norm_ (a' := ?_) ?_ ?_
          rotate_left
          ·
           show Act.put _ (some 19) _ = _
           simp only [Act.put, List.setIfInBounds_toArray, List.set_cons_zero, List.set_cons_succ, i64_w, i32_w]
           rfl
          refine pure_ (i := 4) (N := some 6) (v := ?_) (a' := ?_) #[true, true, true, false, true, false, false] rfl rfl (by kernel_rfl) (fun _ _ _ h => h) (Or.inl ⟨by rfl, ?_⟩) ?_ ?_
          rotate_left
          ·
           intro w'
           go_simp
           with_reducible rfl
          rotate_left
          ·
           simp only [Act.put, List.setIfInBounds_toArray, List.set_cons_zero, List.set_cons_succ, i64_w, i32_w]
           rfl
          refine pure_ (i := 5) (N := some 7) (v := ?_) (a' := ?_) #[true, true, true, false, true, true, false] rfl rfl (by kernel_rfl) (fun _ _ _ h => h) (Or.inl ⟨by rfl, ?_⟩) ?_ ?_
          rotate_left
          ·
           intro w'
           go_simp
           with_reducible rfl
          rotate_left
          ·
           simp only [Act.put, List.setIfInBounds_toArray, List.set_cons_zero, List.set_cons_succ, i64_w, i32_w]
           rfl
          exact norm_ (by first | (simp only [putAll, Act.put, List.setIfInBounds_toArray, List.set_cons_zero, List.set_cons_succ]; done) | (simp only [putAll, Act.put, List.setIfInBounds_toArray, List.set_cons_zero, List.set_cons_succ]; rfl)) (hJ0_1 (v103, v106) _ ⟨(by (with_reducible repeat (first | apply Kd.R_alloc | apply Kd.R_drewN | apply Kd.R_drew)); exact Kd.R_mono HO104.out (fun _ hk => hk.2)), (by (with_reducible repeat (first | apply Kd.R_alloc | apply Kd.R_drewN | apply Kd.R_drew)); exact Kd.R_mono HO107.out (fun _ hk => hk.2)), (kU BK101.out), (bU1 HB.out GE101.out)⟩)
         ·
          skip
          refine Kd.R_make_step (Kd.int .i64) _ 3 (by rfl) (N := 22) rfl 23 _ _ rfl (a0_0.size : Int) rfl rfl Try.underlying23 (.int .i64 0) 8 info3 rfl (by decide) (by omega) 0 (ok := fun _ => True) (okp := fun _ => True) rfl (fun _ hk => hk) trivial (oA) (Nat.le_trans (Nat.mul_le_mul_right _ (oA : (a0_0.size : Int).toNat ≤ 35184372088832)) (by omega)) (Below.refl _ _) (Nat.le_refl _) ?_
          intro v109 w10 ho11 hb hg_ hnew_
          clear hg_ hnew_; (first | rw [← Ny108.out] at ho11 | (simp only [Int.reduceToNat] at ho11; rw [← Ny108.out] at ho11)); have n0 := Az (Kd.R_elder' (rU HO107.out) (Kd.R_base ho11) hb); have n1 := Az (Kd.R_lower (Kd.R_new' ho11 (Kd.R_lt (rU HO107.out))) (below_size (bU1 HB.out GE101.out))); have n2 := Az (blk_below (g := gb101) (o := .cells #[.string a0_0, .slice A0_1 l0_1.length c0_1] 25 (0, 0)) (kU BK101.out) hb); have n3 := Az (below_step (bU1 HB.out GE101.out) hb); clear HO107 BK101 HB; have HO107 := n0; have HO110 := n1; have BK101 := n2; have HB := n3; clear n0 n1 n2 n3 hb ho11
          refine hK.out _ _ trivial (fun hHeld => ?_)
          clear hK K
          refine norm_ (a' := ?_) ?_ ?_
          rotate_left
          ·
           show Act.put _ (some 22) _ = _
           simp only [Act.put, List.setIfInBounds_toArray, List.set_cons_zero, List.set_cons_succ, i64_w, i32_w]
           rfl
          exact norm_ (by first | (simp only [putAll, Act.put, List.setIfInBounds_toArray, List.set_cons_zero, List.set_cons_succ]; done) | (simp only [putAll, Act.put, List.setIfInBounds_toArray, List.set_cons_zero, List.set_cons_succ]; rfl)) (hJ1_3 (v106, v109) _ ⟨(by (with_reducible repeat (first | apply Kd.R_alloc | apply Kd.R_drewN | apply Kd.R_drew)); exact Kd.R_mono HO107.out (fun _ hk => hk.2)), (by (with_reducible repeat (first | apply Kd.R_alloc | apply Kd.R_drewN | apply Kd.R_drew)); exact Kd.R_mono HO110.out (fun _ hk => hk.2)), (kU BK101.out), (bU1 HB.out GE101.out)⟩)
       ·
        skip
        rintro v103 w9 ⟨h0_, h1_, h2_⟩
        have n0 : Aside0 (Kd.R (Kd.int .i64) 3 w9 w.heap.size (fun _ => True) v103 y102) := ⟨h0_⟩; have n1 : Aside0 (w9.heap[gb101]? = some (.cells #[.string a0_0, .slice A0_1 l0_1.length c0_1] 25 (0, 0))) := ⟨h1_⟩; have n2 : Aside0 (Below w.heap.size w w9) := ⟨h2_⟩; clear BK101 HB h0_ h1_ h2_; have HO104 := n0; have BK101 := n1; have HB := n2; clear n0 n1 n2; have hHeld := trivial
        refine norm_ (a' := ?_) ?_ ?_
        rotate_left
        ·
         simp only [putAll, Act.put, List.setIfInBounds_toArray, List.set_cons_zero, List.set_cons_succ]
         rfl
        refine two_ (i := 1) (j := 3) (Ni := some 20) (Nj := some 22) #[true, true, true, false, true, false, false] #[true, false, true, true, true, false, false] rfl rfl rfl rfl (by kernel_rfl) (by decide) (by decide) (fun K hK => ?_) (fun K hK => ?_)
        ·
         skip
         refine Kd.R_lit_step (Kd.int .i64) _ 3 ?hg (N := 20) ?hd (xs := ([] : List Int)) (inner := []) (ok := fun _ => True) (okp := fun _ => True) ?hr ?hp (fun _ hk => hk) trivial (Below.refl _ _) (Nat.le_refl _) (by simp) ?_; (case hd => rfl); (case hg => rfl); (case hr => first | (go_simp; done) | (go_simp; rfl)); (case hp => exact (Reps.none _ _))
         intro v106 w10 ho11 hb hg_ hnew_
         clear hg_ hnew_; (first | rw [← Ny105.out] at ho11 | (simp only [Int.reduceToNat] at ho11; rw [← Ny105.out] at ho11)); have n0 := Az (Kd.R_elder' (rU HO104.out) (Kd.R_base ho11) hb); have n1 := Az (Kd.R_lower (Kd.R_new' ho11 (Kd.R_lt (rU HO104.out))) (below_size (bU1 HB.out GE101.out))); have n2 := Az (blk_below (g := gb101) (o := .cells #[.string a0_0, .slice A0_1 l0_1.length c0_1] 25 (0, 0)) (kU BK101.out) hb); have n3 := Az (below_step (bU1 HB.out GE101.out) hb); clear HO104 BK101 HB; have HO104 := n0; have HO107 := n1; have BK101 := n2; have HB := n3; clear n0 n1 n2 n3 hb ho11
         refine hK.out _ _ trivial (fun hHeld => ?_)
         clear hK K
         refine norm_ (a' := ?_) ?_ ?_
         rotate_left
         ·
          show Act.put _ (some 20) _ = _
          simp only [Act.put, List.setIfInBounds_toArray, List.set_cons_zero, List.set_cons_succ, i64_w, i32_w]
          rfl
         refine pure_ (i := 5) (N := some 7) (v := ?_) (a' := ?_) #[true, true, true, false, true, true, false] rfl rfl (by kernel_rfl) (fun _ _ _ h => h) (Or.inl ⟨by rfl, ?_⟩) ?_ ?_
         rotate_left
         ·
          intro w'
          go_simp
          with_reducible rfl
         rotate_left
         ·
          simp only [Act.put, List.setIfInBounds_toArray, List.set_cons_zero, List.set_cons_succ, i64_w, i32_w]
          rfl
         exact norm_ (by first | (simp only [putAll, Act.put, List.setIfInBounds_toArray, List.set_cons_zero, List.set_cons_succ]; done) | (simp only [putAll, Act.put, List.setIfInBounds_toArray, List.set_cons_zero, List.set_cons_succ]; rfl)) (hJ0_1 (v103, v106) _ ⟨(by (with_reducible repeat (first | apply Kd.R_alloc | apply Kd.R_drewN | apply Kd.R_drew)); exact Kd.R_mono HO104.out (fun _ hk => hk.2)), (by (with_reducible repeat (first | apply Kd.R_alloc | apply Kd.R_drewN | apply Kd.R_drew)); exact Kd.R_mono HO107.out (fun _ hk => hk.2)), (kU BK101.out), (bU1 HB.out GE101.out)⟩)
        ·
         skip
         refine Kd.R_make_step (Kd.int .i64) _ 3 (by rfl) (N := 22) rfl 23 _ _ rfl (a0_0.size : Int) rfl rfl Try.underlying23 (.int .i64 0) 8 info3 rfl (by decide) (by omega) 0 (ok := fun _ => True) (okp := fun _ => True) rfl (fun _ hk => hk) trivial (oA) (Nat.le_trans (Nat.mul_le_mul_right _ (oA : (a0_0.size : Int).toNat ≤ 35184372088832)) (by omega)) (Below.refl _ _) (Nat.le_refl _) ?_
         intro v109 w10 ho11 hb hg_ hnew_
         clear hg_ hnew_; (first | rw [← Ny108.out] at ho11 | (simp only [Int.reduceToNat] at ho11; rw [← Ny108.out] at ho11)); have n0 := Az (Kd.R_elder' (rU HO104.out) (Kd.R_base ho11) hb); have n1 := Az (Kd.R_lower (Kd.R_new' ho11 (Kd.R_lt (rU HO104.out))) (below_size (bU1 HB.out GE101.out))); have n2 := Az (blk_below (g := gb101) (o := .cells #[.string a0_0, .slice A0_1 l0_1.length c0_1] 25 (0, 0)) (kU BK101.out) hb); have n3 := Az (below_step (bU1 HB.out GE101.out) hb); clear HO104 BK101 HB; have HO104 := n0; have HO110 := n1; have BK101 := n2; have HB := n3; clear n0 n1 n2 n3 hb ho11
         refine hK.out _ _ trivial (fun hHeld => ?_)
         clear hK K
         refine norm_ (a' := ?_) ?_ ?_
         rotate_left
         ·
          show Act.put _ (some 22) _ = _
          simp only [Act.put, List.setIfInBounds_toArray, List.set_cons_zero, List.set_cons_succ, i64_w, i32_w]
          rfl
         exact norm_ (by first | (simp only [putAll, Act.put, List.setIfInBounds_toArray, List.set_cons_zero, List.set_cons_succ]; done) | (simp only [putAll, Act.put, List.setIfInBounds_toArray, List.set_cons_zero, List.set_cons_succ]; rfl)) (hJ0_3 (v103, v109) _ ⟨(by (with_reducible repeat (first | apply Kd.R_alloc | apply Kd.R_drewN | apply Kd.R_drew)); exact Kd.R_mono HO104.out (fun _ hk => hk.2)), (by (with_reducible repeat (first | apply Kd.R_alloc | apply Kd.R_drewN | apply Kd.R_drew)); exact Kd.R_mono HO110.out (fun _ hk => hk.2)), (kU BK101.out), (bU1 HB.out GE101.out)⟩)
      ·
       skip
       rintro ⟨v106, v109⟩ w11 ⟨h0_, h1_, h2_, h3_⟩
       have n0 : Aside0 (Kd.R (Kd.int .i64) 3 w11 w.heap.size (fun k_ => some k_ ≠ (v109 : Value).ownBlock) v106 y105) := ⟨h0_⟩; have n1 : Aside0 (Kd.R (Kd.int .i64) 3 w11 w.heap.size (fun k_ => some k_ ≠ (v106 : Value).ownBlock) v109 y108) := ⟨h1_⟩; have n2 : Aside0 (w11.heap[gb101]? = some (.cells #[.string a0_0, .slice A0_1 l0_1.length c0_1] 25 (0, 0))) := ⟨h2_⟩; have n3 : Aside0 (Below w.heap.size w w11) := ⟨h3_⟩; clear BK101 HB h0_ h1_ h2_ h3_; have HO107 := n0; have HO110 := n1; have BK101 := n2; have HB := n3; clear n0 n1 n2 n3; have hHeld := trivial
       refine norm_ (a' := ?_) ?_ ?_
       rotate_left
       ·
        simp only [putAll, Act.put, List.setIfInBounds_toArray, List.set_cons_zero, List.set_cons_succ]
        rfl
       refine one_ (i := 0) (N := some 19) #[true, true, true, true, false, false, false] rfl rfl (by kernel_rfl) (by decide) (fun K hK => ?_)
       refine Kd.R_lit_step (Kd.int .i64) _ 3 ?hg (N := 19) ?hd (xs := ([] : List Int)) (inner := []) (ok := fun _ => True) (okp := fun _ => True) ?hr ?hp (fun _ hk => hk) trivial (Below.refl _ _) (Nat.le_refl _) (by simp) ?_; (case hd => rfl); (case hg => rfl); (case hr => first | (go_simp; done) | (go_simp; rfl)); (case hp => exact (Reps.none _ _))
       intro v103 w12 ho13 hb hg_ hnew_
       clear hg_ hnew_; (first | rw [← Ny102.out] at ho13 | (simp only [Int.reduceToNat] at ho13; rw [← Ny102.out] at ho13)); have n0 := Az (Kd.R_elder' (rU HO107.out) (Kd.R_base ho13) hb); have n1 := Az (Kd.R_elder' (rU HO110.out) (Kd.R_base ho13) hb); have n2 := Az (Kd.R_lower (Kd.R_new' (Kd.R_new' ho13 (Kd.R_lt (rU HO107.out))) (Kd.R_lt (rU HO110.out))) (below_size (bU1 HB.out GE101.out))); have n3 := Az (blk_below (g := gb101) (o := .cells #[.string a0_0, .slice A0_1 l0_1.length c0_1] 25 (0, 0)) (kU BK101.out) hb); have n4 := Az (below_step (bU1 HB.out GE101.out) hb); clear HO107 HO110 BK101 HB; have HO107 := n0; have HO110 := n1; have HO104 := n2; have BK101 := n3; have HB := n4; clear n0 n1 n2 n3 n4 hb ho13
       refine hK.out _ _ trivial (fun hHeld => ?_)
       clear hK K
       refine norm_ (a' := ?_) ?_ ?_
       rotate_left
       ·
        show Act.put _ (some 19) _ = _
        simp only [Act.put, List.setIfInBounds_toArray, List.set_cons_zero, List.set_cons_succ, i64_w, i32_w]
        rfl
       refine pure_ (i := 4) (N := some 6) (v := ?_) (a' := ?_) #[true, true, true, true, true, false, false] rfl rfl (by kernel_rfl) (fun _ _ _ h => h) (Or.inl ⟨by rfl, ?_⟩) ?_ ?_
       rotate_left
       ·
        intro w'
        go_simp
        with_reducible rfl
       rotate_left
       ·
        simp only [Act.put, List.setIfInBounds_toArray, List.set_cons_zero, List.set_cons_succ, i64_w, i32_w]
        rfl
       refine pure_ (i := 5) (N := some 7) (v := ?_) (a' := ?_) #[true, true, true, true, true, true, false] rfl rfl (by kernel_rfl) (fun _ _ _ h => h) (Or.inl ⟨by rfl, ?_⟩) ?_ ?_
       rotate_left
       ·
        intro w'
        go_simp
        with_reducible rfl
       rotate_left
       ·
        simp only [Act.put, List.setIfInBounds_toArray, List.set_cons_zero, List.set_cons_succ, i64_w, i32_w]
        rfl
       exact norm_ (by first | (simp only [putAll, Act.put, List.setIfInBounds_toArray, List.set_cons_zero, List.set_cons_succ]; done) | (simp only [putAll, Act.put, List.setIfInBounds_toArray, List.set_cons_zero, List.set_cons_succ]; rfl)) (hJ0_1_3 (v103, v106, v109) _ ⟨(by (with_reducible repeat (first | apply Kd.R_alloc | apply Kd.R_drewN | apply Kd.R_drew)); exact Kd.R_mono HO104.out (fun _ hk => ⟨hk.1.2, hk.2⟩)), (by (with_reducible repeat (first | apply Kd.R_alloc | apply Kd.R_drewN | apply Kd.R_drew)); exact Kd.R_mono HO107.out (fun _ hk => ⟨hk.2, hk.1⟩)), (by (with_reducible repeat (first | apply Kd.R_alloc | apply Kd.R_drewN | apply Kd.R_drew)); exact Kd.R_mono HO110.out (fun _ hk => ⟨hk.2, hk.1⟩)), (kU BK101.out), (bU1 HB.out GE101.out)⟩)
     ·
      skip
      rintro ⟨v103, v109⟩ w11 ⟨h0_, h1_, h2_, h3_⟩
      have n0 : Aside0 (Kd.R (Kd.int .i64) 3 w11 w.heap.size (fun k_ => some k_ ≠ (v109 : Value).ownBlock) v103 y102) := ⟨h0_⟩; have n1 : Aside0 (Kd.R (Kd.int .i64) 3 w11 w.heap.size (fun k_ => some k_ ≠ (v103 : Value).ownBlock) v109 y108) := ⟨h1_⟩; have n2 : Aside0 (w11.heap[gb101]? = some (.cells #[.string a0_0, .slice A0_1 l0_1.length c0_1] 25 (0, 0))) := ⟨h2_⟩; have n3 : Aside0 (Below w.heap.size w w11) := ⟨h3_⟩; clear BK101 HB h0_ h1_ h2_ h3_; have HO104 := n0; have HO110 := n1; have BK101 := n2; have HB := n3; clear n0 n1 n2 n3; have hHeld := trivial
      refine norm_ (a' := ?_) ?_ ?_
      rotate_left
      ·
       simp only [putAll, Act.put, List.setIfInBounds_toArray, List.set_cons_zero, List.set_cons_succ]
       rfl
      refine one_ (i := 1) (N := some 20) #[true, true, true, true, true, false, false] rfl rfl (by kernel_rfl) (by decide) (fun K hK => ?_)
      refine Kd.R_lit_step (Kd.int .i64) _ 3 ?hg (N := 20) ?hd (xs := ([] : List Int)) (inner := []) (ok := fun _ => True) (okp := fun _ => True) ?hr ?hp (fun _ hk => hk) trivial (Below.refl _ _) (Nat.le_refl _) (by simp) ?_; (case hd => rfl); (case hg => rfl); (case hr => first | (go_simp; done) | (go_simp; rfl)); (case hp => exact (Reps.none _ _))
      intro v106 w12 ho13 hb hg_ hnew_
      clear hg_ hnew_; (first | rw [← Ny105.out] at ho13 | (simp only [Int.reduceToNat] at ho13; rw [← Ny105.out] at ho13)); have n0 := Az (Kd.R_elder' (rU HO104.out) (Kd.R_base ho13) hb); have n1 := Az (Kd.R_elder' (rU HO110.out) (Kd.R_base ho13) hb); have n2 := Az (Kd.R_lower (Kd.R_new' (Kd.R_new' ho13 (Kd.R_lt (rU HO104.out))) (Kd.R_lt (rU HO110.out))) (below_size (bU1 HB.out GE101.out))); have n3 := Az (blk_below (g := gb101) (o := .cells #[.string a0_0, .slice A0_1 l0_1.length c0_1] 25 (0, 0)) (kU BK101.out) hb); have n4 := Az (below_step (bU1 HB.out GE101.out) hb); clear HO104 HO110 BK101 HB; have HO104 := n0; have HO110 := n1; have HO107 := n2; have BK101 := n3; have HB := n4; clear n0 n1 n2 n3 n4 hb ho13
      refine hK.out _ _ trivial (fun hHeld => ?_)
      clear hK K
      refine norm_ (a' := ?_) ?_ ?_
      rotate_left
      ·
       show Act.put _ (some 20) _ = _
       simp only [Act.put, List.setIfInBounds_toArray, List.set_cons_zero, List.set_cons_succ, i64_w, i32_w]
       rfl
      refine pure_ (i := 5) (N := some 7) (v := ?_) (a' := ?_) #[true, true, true, true, true, true, false] rfl rfl (by kernel_rfl) (fun _ _ _ h => h) (Or.inl ⟨by rfl, ?_⟩) ?_ ?_
      rotate_left
      ·
       intro w'
       go_simp
       with_reducible rfl
      rotate_left
      ·
       simp only [Act.put, List.setIfInBounds_toArray, List.set_cons_zero, List.set_cons_succ, i64_w, i32_w]
       rfl
      exact norm_ (by first | (simp only [putAll, Act.put, List.setIfInBounds_toArray, List.set_cons_zero, List.set_cons_succ]; done) | (simp only [putAll, Act.put, List.setIfInBounds_toArray, List.set_cons_zero, List.set_cons_succ]; rfl)) (hJ0_1_3 (v103, v106, v109) _ ⟨(by (with_reducible repeat (first | apply Kd.R_alloc | apply Kd.R_drewN | apply Kd.R_drew)); exact Kd.R_mono HO104.out (fun _ hk => ⟨hk.2, hk.1⟩)), (by (with_reducible repeat (first | apply Kd.R_alloc | apply Kd.R_drewN | apply Kd.R_drew)); exact Kd.R_mono HO107.out (fun _ hk => ⟨hk.1.2, hk.2⟩)), (rU HO110.out), (kU BK101.out), (bU1 HB.out GE101.out)⟩)
    ·
     skip
     rintro ⟨v103, v106⟩ w11 ⟨h0_, h1_, h2_, h3_⟩
     have n0 : Aside0 (Kd.R (Kd.int .i64) 3 w11 w.heap.size (fun k_ => some k_ ≠ (v106 : Value).ownBlock) v103 y102) := ⟨h0_⟩; have n1 : Aside0 (Kd.R (Kd.int .i64) 3 w11 w.heap.size (fun k_ => some k_ ≠ (v103 : Value).ownBlock) v106 y105) := ⟨h1_⟩; have n2 : Aside0 (w11.heap[gb101]? = some (.cells #[.string a0_0, .slice A0_1 l0_1.length c0_1] 25 (0, 0))) := ⟨h2_⟩; have n3 : Aside0 (Below w.heap.size w w11) := ⟨h3_⟩; clear BK101 HB h0_ h1_ h2_ h3_; have HO104 := n0; have HO107 := n1; have BK101 := n2; have HB := n3; clear n0 n1 n2 n3; have hHeld := trivial
     refine norm_ (a' := ?_) ?_ ?_
     rotate_left
     ·
      simp only [putAll, Act.put, List.setIfInBounds_toArray, List.set_cons_zero, List.set_cons_succ]
      rfl
     refine one_ (i := 3) (N := some 22) #[true, true, true, true, true, true, false] rfl rfl (by kernel_rfl) (by decide) (fun K hK => ?_)
     refine Kd.R_make_step (Kd.int .i64) _ 3 (by rfl) (N := 22) rfl 23 _ _ rfl (a0_0.size : Int) rfl rfl Try.underlying23 (.int .i64 0) 8 info3 rfl (by decide) (by omega) 0 (ok := fun _ => True) (okp := fun _ => True) rfl (fun _ hk => hk) trivial (oA) (Nat.le_trans (Nat.mul_le_mul_right _ (oA : (a0_0.size : Int).toNat ≤ 35184372088832)) (by omega)) (Below.refl _ _) (Nat.le_refl _) ?_
     intro v109 w12 ho13 hb hg_ hnew_
     clear hg_ hnew_; (first | rw [← Ny108.out] at ho13 | (simp only [Int.reduceToNat] at ho13; rw [← Ny108.out] at ho13)); have n0 := Az (Kd.R_elder' (rU HO104.out) (Kd.R_base ho13) hb); have n1 := Az (Kd.R_elder' (rU HO107.out) (Kd.R_base ho13) hb); have n2 := Az (Kd.R_lower (Kd.R_new' (Kd.R_new' ho13 (Kd.R_lt (rU HO104.out))) (Kd.R_lt (rU HO107.out))) (below_size (bU1 HB.out GE101.out))); have n3 := Az (blk_below (g := gb101) (o := .cells #[.string a0_0, .slice A0_1 l0_1.length c0_1] 25 (0, 0)) (kU BK101.out) hb); have n4 := Az (below_step (bU1 HB.out GE101.out) hb); clear HO104 HO107 BK101 HB; have HO104 := n0; have HO107 := n1; have HO110 := n2; have BK101 := n3; have HB := n4; clear n0 n1 n2 n3 n4 hb ho13
     refine hK.out _ _ trivial (fun hHeld => ?_)
     clear hK K
     refine norm_ (a' := ?_) ?_ ?_
     rotate_left
     ·
      show Act.put _ (some 22) _ = _
      simp only [Act.put, List.setIfInBounds_toArray, List.set_cons_zero, List.set_cons_succ, i64_w, i32_w]
      rfl
     exact norm_ (by first | (simp only [putAll, Act.put, List.setIfInBounds_toArray, List.set_cons_zero, List.set_cons_succ]; done) | (simp only [putAll, Act.put, List.setIfInBounds_toArray, List.set_cons_zero, List.set_cons_succ]; rfl)) (hJ0_1_3 (v103, v106, v109) _ ⟨(rU HO104.out), (rU HO107.out), (by (with_reducible repeat (first | apply Kd.R_alloc | apply Kd.R_drewN | apply Kd.R_drew)); exact Kd.R_mono HO110.out (fun _ hk => ⟨hk.1.2, hk.2⟩)), (kU BK101.out), (bU1 HB.out GE101.out)⟩)
   rintro ⟨v103, v106, v109⟩ w13 ⟨h0_, h1_, h2_, h3_, h4_⟩
   have n0 : Aside0 (Kd.R (Kd.int .i64) 3 w13 w.heap.size (fun k_ => some k_ ≠ (v106 : Value).ownBlock ∧ some k_ ≠ (v109 : Value).ownBlock) v103 y102) := ⟨h0_⟩; have n1 : Aside0 (Kd.R (Kd.int .i64) 3 w13 w.heap.size (fun k_ => some k_ ≠ (v103 : Value).ownBlock ∧ some k_ ≠ (v109 : Value).ownBlock) v106 y105) := ⟨h1_⟩; have n2 : Aside0 (Kd.R (Kd.int .i64) 3 w13 w.heap.size (fun k_ => some k_ ≠ (v103 : Value).ownBlock ∧ some k_ ≠ (v106 : Value).ownBlock) v109 y108) := ⟨h2_⟩; have n3 : Aside0 (w13.heap[gb101]? = some (.cells #[.string a0_0, .slice A0_1 l0_1.length c0_1] 25 (0, 0))) := ⟨h3_⟩; have n4 : Aside0 (Below w.heap.size w w13) := ⟨h4_⟩; clear BK101 HB h0_ h1_ h2_ h3_ h4_; have HO104 := n0; have HO107 := n1; have HO110 := n2; have BK101 := n3; have HB := n4; clear n0 n1 n2 n3 n4; have hHeld := trivial
   refine norm_ (a' := ?_) ?_ ?_
   rotate_left
   ·
    simp only [putAll, Act.put, List.setIfInBounds_toArray, List.set_cons_zero, List.set_cons_succ]
    rfl
   refine pure_ (i := 6) (N := some 8) (v := ?_) (a' := ?_) #[true, true, true, true, true, true, true] rfl rfl (by kernel_rfl) (fun _ _ _ h => h) (Or.inl ⟨by rfl, ?_⟩) ?_ ?_
   rotate_left
   ·
    intro w'
    go_simp
    with_reducible rfl
   rotate_left
   ·
    simp only [Act.put, List.setIfInBounds_toArray, List.set_cons_zero, List.set_cons_succ, i64_w, i32_w]
    rfl
   refine done_ (by kernel_rfl) ?_
   try go_wp2_with (first | ((with_reducible refine gate_dst (N := 23) rfl ?_); refine Kd.R_lit (Kd.int .i64) _ 3 ?hg (N := 23) ?hd (xs := ([0] : List Int)) (inner := [.int .i64 0]) (ok := fun _ => True) (okp := fun _ => True) ?hr ?hp (fun _ hk => hk) trivial (Below.refl _ _) (Nat.le_refl _) (by simp) ?_; (case hd => rfl); (case hg => rfl); (case hr => first | (go_simp; done) | (go_simp; rfl)); (case hp => exact (Reps.one (show Kd.M (Kd.int .i64) _ _ _ 0 [.int .i64 0] from rfl) (Reps.none _ _))); intro v112 w14 ho15 hb hg_ hnew_; clear hg_ hnew_; (first | rw [← Ny111.out] at ho15 | (simp only [Int.reduceToNat] at ho15; rw [← Ny111.out] at ho15)); have n0 := Az (Kd.R_elder' (rU HO104.out) (Kd.R_base ho15) hb); have n1 := Az (Kd.R_elder' (rU HO107.out) (Kd.R_base ho15) hb); have n2 := Az (Kd.R_elder' (rU HO110.out) (Kd.R_base ho15) hb); have n3 := Az (Kd.R_lower (Kd.R_new' (Kd.R_new' (Kd.R_new' ho15 (Kd.R_lt (rU HO104.out))) (Kd.R_lt (rU HO107.out))) (Kd.R_lt (rU HO110.out))) (below_size (bU1 HB.out GE101.out))); have n4 := Az (blk_below (g := gb101) (o := .cells #[.string a0_0, .slice A0_1 l0_1.length c0_1] 25 (0, 0)) (kU BK101.out) hb); have n5 := Az (below_step (bU1 HB.out GE101.out) hb); clear HO104 HO107 HO110 BK101 HB; have HO104 := n0; have HO107 := n1; have HO110 := n2; have HO113 := n3; have BK101 := n4; have HB := n5; clear n0 n1 n2 n3 n4 n5; clear hb ho15) | ((with_reducible refine gate_dst (N := 24) rfl ?_); refine Kd.R_lit (Kd.int .i64) _ 3 ?hg (N := 24) ?hd (xs := ([0] : List Int)) (inner := [.int .i64 0]) (ok := fun _ => True) (okp := fun _ => True) ?hr ?hp (fun _ hk => hk) trivial (Below.refl _ _) (Nat.le_refl _) (by simp) ?_; (case hd => rfl); (case hg => rfl); (case hr => first | (go_simp; done) | (go_simp; rfl)); (case hp => exact (Reps.one (show Kd.M (Kd.int .i64) _ _ _ 0 [.int .i64 0] from rfl) (Reps.none _ _))); intro v115 w16 ho17 hb hg_ hnew_; clear hg_ hnew_; (first | rw [← Ny114.out] at ho17 | (simp only [Int.reduceToNat] at ho17; rw [← Ny114.out] at ho17)); have n0 := Az (Kd.R_elder' (rU HO104.out) (Kd.R_base ho17) hb); have n1 := Az (Kd.R_elder' (rU HO107.out) (Kd.R_base ho17) hb); have n2 := Az (Kd.R_elder' (rU HO110.out) (Kd.R_base ho17) hb); have n3 := Az (Kd.R_elder' (rU HO113.out) (Kd.R_base ho17) hb); have n4 := Az (Kd.R_lower (Kd.R_new' (Kd.R_new' (Kd.R_new' (Kd.R_new' ho17 (Kd.R_lt (rU HO104.out))) (Kd.R_lt (rU HO107.out))) (Kd.R_lt (rU HO110.out))) (Kd.R_lt (rU HO113.out))) (below_size (bU1 HB.out GE101.out))); have n5 := Az (blk_below (g := gb101) (o := .cells #[.string a0_0, .slice A0_1 l0_1.length c0_1] 25 (0, 0)) (kU BK101.out) hb); have n6 := Az (below_step (bU1 HB.out GE101.out) hb); clear HO104 HO107 HO110 HO113 BK101 HB; have HO104 := n0; have HO107 := n1; have HO110 := n2; have HO113 := n3; have HO116 := n4; have BK101 := n5; have HB := n6; clear n0 n1 n2 n3 n4 n5 n6; clear hb ho17) | ((with_reducible refine gate_dst (N := 25) rfl ?_); refine Kd.R_lit (Kd.int .i64) _ 3 ?hg (N := 25) ?hd (xs := ([] : List Int)) (inner := []) (ok := fun _ => True) (okp := fun _ => True) ?hr ?hp (fun _ hk => hk) trivial (Below.refl _ _) (Nat.le_refl _) (by simp) ?_; (case hd => rfl); (case hg => rfl); (case hr => first | (go_simp; done) | (go_simp; rfl)); (case hp => exact (Reps.none _ _)); intro v118 w18 ho19 hb hg_ hnew_; clear hg_ hnew_; (first | rw [← Ny117.out] at ho19 | (simp only [Int.reduceToNat] at ho19; rw [← Ny117.out] at ho19)); have n0 := Az (Kd.R_elder' (rU HO104.out) (Kd.R_base ho19) hb); have n1 := Az (Kd.R_elder' (rU HO107.out) (Kd.R_base ho19) hb); have n2 := Az (Kd.R_elder' (rU HO110.out) (Kd.R_base ho19) hb); have n3 := Az (Kd.R_elder' (rU HO113.out) (Kd.R_base ho19) hb); have n4 := Az (Kd.R_elder' (rU HO116.out) (Kd.R_base ho19) hb); have n5 := Az (Kd.R_lower (Kd.R_new' (Kd.R_new' (Kd.R_new' (Kd.R_new' (Kd.R_new' ho19 (Kd.R_lt (rU HO104.out))) (Kd.R_lt (rU HO107.out))) (Kd.R_lt (rU HO110.out))) (Kd.R_lt (rU HO113.out))) (Kd.R_lt (rU HO116.out))) (below_size (bU1 HB.out GE101.out))); have n6 := Az (blk_below (g := gb101) (o := .cells #[.string a0_0, .slice A0_1 l0_1.length c0_1] 25 (0, 0)) (kU BK101.out) hb); have n7 := Az (below_step (bU1 HB.out GE101.out) hb); clear HO104 HO107 HO110 HO113 HO116 BK101 HB; have HO104 := n0; have HO107 := n1; have HO110 := n2; have HO113 := n3; have HO116 := n4; have HO119 := n5; have BK101 := n6; have HB := n7; clear n0 n1 n2 n3 n4 n5 n6 n7; clear hb ho19))
   go_loopg [6, 7, 9, 10, 11, 12, 27] k (fun kq v6 v7 v9 v10 v11 v12 v27 w' => ∃ (x6_1 : List Int) (x7_1 : List Int) (x8_1 : List Int) (x9_1 : List Int) (x10_1 : List Int) (x11_1 : List Int) (x12_1 : Int) (x27_1 : Int), v12 = .int .i64 x12_1 ∧ v27 = .int .i64 x27_1 ∧ Aside0 (impl_walked.l0 kq x6_1 x7_1 x8_1 x9_1 x10_1 x11_1 x12_1 (a0_0.size : Int) x27_1 a0_0 l0_1 = some (r1, r2, r3)) ∧ Aside0 (kq ≤ k) ∧ Aside0 (Kd.R (Kd.int .i64) 3 w' w.heap.size (fun k_ => some k_ ≠ (v7 : Value).ownBlock ∧ some k_ ≠ (v109 : Value).ownBlock ∧ some k_ ≠ (v9 : Value).ownBlock ∧ some k_ ≠ (v10 : Value).ownBlock ∧ some k_ ≠ (v11 : Value).ownBlock) v6 x6_1) ∧ Aside0 (Kd.R (Kd.int .i64) 3 w' w.heap.size (fun k_ => some k_ ≠ (v6 : Value).ownBlock ∧ some k_ ≠ (v109 : Value).ownBlock ∧ some k_ ≠ (v9 : Value).ownBlock ∧ some k_ ≠ (v10 : Value).ownBlock ∧ some k_ ≠ (v11 : Value).ownBlock) v7 x7_1) ∧ Aside0 (Kd.R (Kd.int .i64) 3 w' w.heap.size (fun k_ => some k_ ≠ (v6 : Value).ownBlock ∧ some k_ ≠ (v7 : Value).ownBlock ∧ some k_ ≠ (v9 : Value).ownBlock ∧ some k_ ≠ (v10 : Value).ownBlock ∧ some k_ ≠ (v11 : Value).ownBlock) v109 x8_1) ∧ Aside0 (Kd.R (Kd.int .i64) 3 w' w.heap.size (fun k_ => some k_ ≠ (v6 : Value).ownBlock ∧ some k_ ≠ (v7 : Value).ownBlock ∧ some k_ ≠ (v109 : Value).ownBlock ∧ some k_ ≠ (v10 : Value).ownBlock ∧ some k_ ≠ (v11 : Value).ownBlock) v9 x9_1) ∧ Aside0 (Kd.R (Kd.int .i64) 3 w' w.heap.size (fun k_ => some k_ ≠ (v6 : Value).ownBlock ∧ some k_ ≠ (v7 : Value).ownBlock ∧ some k_ ≠ (v109 : Value).ownBlock ∧ some k_ ≠ (v9 : Value).ownBlock ∧ some k_ ≠ (v11 : Value).ownBlock) v10 x10_1) ∧ Aside0 (Kd.R (Kd.int .i64) 3 w' w.heap.size (fun k_ => some k_ ≠ (v6 : Value).ownBlock ∧ some k_ ≠ (v7 : Value).ownBlock ∧ some k_ ≠ (v109 : Value).ownBlock ∧ some k_ ≠ (v9 : Value).ownBlock ∧ some k_ ≠ (v10 : Value).ownBlock) v11 x11_1) ∧ Aside0 (w'.heap[gb101]? = some (.cells #[.string a0_0, (.slice A0_1 l0_1.length c0_1)] 25 (0, 0))) ∧ Aside0 (Below w.heap.size w w'))
   case atStart => exact ⟨(y102), (y105), (y108), (y111), (y114), (y117), (0), (0), rS, rS, H', ⟨Nat.le_refl _⟩, ⟨by (with_reducible repeat (first | apply Kd.R_alloc | apply Kd.R_drewN | apply Kd.R_drew)); exact Kd.R_mono HO104.out (fun _ hk => ⟨hk.1.1.1.1, ⟨hk.1.1.1.2, ⟨hk.1.1.2, ⟨hk.1.2, hk.2⟩⟩⟩⟩)⟩, ⟨by (with_reducible repeat (first | apply Kd.R_alloc | apply Kd.R_drewN | apply Kd.R_drew)); exact Kd.R_mono HO107.out (fun _ hk => ⟨hk.1.1.1.1, ⟨hk.1.1.1.2, ⟨hk.1.1.2, ⟨hk.1.2, hk.2⟩⟩⟩⟩)⟩, ⟨by (with_reducible repeat (first | apply Kd.R_alloc | apply Kd.R_drewN | apply Kd.R_drew)); exact Kd.R_mono HO110.out (fun _ hk => ⟨hk.1.1.1.1, ⟨hk.1.1.1.2, ⟨hk.1.1.2, ⟨hk.1.2, hk.2⟩⟩⟩⟩)⟩, ⟨by (with_reducible repeat (first | apply Kd.R_alloc | apply Kd.R_drewN | apply Kd.R_drew)); exact Kd.R_mono HO113.out (fun _ hk => ⟨hk.1.1.1.1.2, ⟨hk.1.1.1.2, ⟨hk.1.1.2, ⟨hk.1.2, hk.2⟩⟩⟩⟩)⟩, ⟨by (with_reducible repeat (first | apply Kd.R_alloc | apply Kd.R_drewN | apply Kd.R_drew)); exact Kd.R_mono HO116.out (fun _ hk => ⟨hk.1.1.1.1.2, ⟨hk.1.1.1.2, ⟨hk.1.1.2, ⟨hk.1.2, hk.2⟩⟩⟩⟩)⟩, ⟨by (with_reducible repeat (first | apply Kd.R_alloc | apply Kd.R_drewN | apply Kd.R_drew)); exact Kd.R_mono HO119.out (fun _ hk => ⟨hk.1.1.1.1.2, ⟨hk.1.1.1.2, ⟨hk.1.1.2, ⟨hk.1.2, hk.2⟩⟩⟩⟩)⟩, ⟨kU BK101.out⟩, ⟨bU1 HB.out GE101.out⟩⟩
   case round =>
    clear H'; (try clear c2); (try clear c2b0); (try clear c2b1); (try clear p2); (try clear c3); (try clear c3b0); (try clear c3b1); (try clear c6); (try clear hcz5_0); (try clear hcz5_1); (try clear hfz5_0); (try clear hfz5_1); obtain ⟨x6_1, x7_1, x8_1, x9_1, x10_1, x11_1, x12_1, x27_1, rfl, rfl, HA, HK1, HO_6, HO_7, HO_8, HO_9, HO_10, HO_11, BK101, HB⟩ := hrel
    cases gk with
    | zero => exact absurd HA.out (by simp [impl_walked.l0])
    | succ k1 =>
     have H := HA.out; clear HA; simp only [impl_walked.l0] at H
     by_cases c20 : x27_1 < (a0_0.size : Int)
     ·
      rw [if_pos c20] at H; have c20b0 := decide_eq_true c20; clear c20; obtain ⟨ji21, hji21⟩ : ∃ j_ : Int, (wrap64 ((x9_1.length : Int) - 1)) = j_ := ⟨_, rfl⟩
      replace H : (if 0 ≤ (ji21) then (if (ji21) < (x9_1.length : Int) then (if x6_1.length < 17592186044416 then ((some (x6_1 ++ [rd x9_1 (ji21)] : List Int)).bind fun y121 => (if (ji21) < (x10_1.length : Int) then (if x7_1.length < 17592186044416 then ((some (x7_1 ++ [rd x10_1 (ji21)] : List Int)).bind fun y125 => (if 0 ≤ x27_1 then (if x27_1 < (a0_0.size : Int) then (if (bt a0_0 x27_1) = 40 then (if x9_1.length < 17592186044416 then (if 0 ≤ x12_1 then (if x12_1 < (l0_1.length : Int) then (if x10_1.length < 17592186044416 then (if x11_1.length < 17592186044416 then (impl_walked.l0 k1 y121 y125 x8_1 (x9_1 ++ [wrap64 (x12_1 + 1)]) (x10_1 ++ [wrap64 ((rd x10_1 (ji21)) + (rd l0_1 x12_1))]) (x11_1 ++ [x27_1]) (wrap64 (x12_1 + 1)) (a0_0.size : Int) (wrap64 (x27_1 + 1)) a0_0 l0_1) else (none)) else (none)) else (none)) else (none)) else (none)) else (if (ji21) ≤ (x9_1.length : Int) then (if (ji21) ≤ (x10_1.length : Int) then (if 0 ≤ (wrap64 ((x11_1.length : Int) - 1)) then (if (wrap64 ((x11_1.length : Int) - 1)) < (x11_1.length : Int) then (if (wrap64 ((x11_1.length : Int) - 1)) ≤ (x11_1.length : Int) then (if x27_1 < (x8_1.length : Int) then (if 0 ≤ (rd x11_1 (wrap64 ((x11_1.length : Int) - 1))) then (if (rd x11_1 (wrap64 ((x11_1.length : Int) - 1))) < (x8_1.length : Int) then (impl_walked.l0 k1 y121 y125 ((x8_1.set (x27_1 : Int).toNat (rd x11_1 (wrap64 ((x11_1.length : Int) - 1)))).set ((rd x11_1 (wrap64 ((x11_1.length : Int) - 1))) : Int).toNat x27_1) (x9_1.take ((ji21) : Int).toNat) (x10_1.take ((ji21) : Int).toNat) (x11_1.take ((wrap64 ((x11_1.length : Int) - 1)) : Int).toNat) x12_1 (a0_0.size : Int) (wrap64 (x27_1 + 1)) a0_0 l0_1) else (none)) else (none)) else (none)) else (none)) else (none)) else (none)) else (none)) else (none))) else (none)) else (none))) else (none)) else (none))) else (none)) else (none)) else (none)) = some (r1, r2, r3) := by first | (rw [hji21] at H; exact H) | (simp only [hji21] at H ⊢; exact H)
      have hji21w : (IntKind.i64.wrap ((x9_1.length : Int) - 1)) = ji21 := (i64_w _).trans hji21
      by_cases c22 : 0 ≤ (ji21)
      ·
       rw [if_pos c22] at H; have c22b0 := decide_eq_true c22; clear c22
       by_cases c23 : (ji21) < (x9_1.length : Int)
       ·
        rw [if_pos c23] at H; have c23b0 := decide_eq_true c23; clear c23
        by_cases c24 : x6_1.length < 17592186044416
        ·
         rw [if_pos c24] at H; have LMc24 := Az c24; clear c24; obtain ⟨y121, hy121⟩ : ∃ y_ : List Int, y_ = (x6_1 ++ [rd x9_1 (ji21)]) := ⟨_, rfl⟩; replace H : (if (ji21) < (x10_1.length : Int) then (if x7_1.length < 17592186044416 then ((some (x7_1 ++ [rd x10_1 (ji21)] : List Int)).bind fun y125 => (if 0 ≤ x27_1 then (if x27_1 < (a0_0.size : Int) then (if (bt a0_0 x27_1) = 40 then (if x9_1.length < 17592186044416 then (if 0 ≤ x12_1 then (if x12_1 < (l0_1.length : Int) then (if x10_1.length < 17592186044416 then (if x11_1.length < 17592186044416 then (impl_walked.l0 k1 y121 y125 x8_1 (x9_1 ++ [wrap64 (x12_1 + 1)]) (x10_1 ++ [wrap64 ((rd x10_1 (ji21)) + (rd l0_1 x12_1))]) (x11_1 ++ [x27_1]) (wrap64 (x12_1 + 1)) (a0_0.size : Int) (wrap64 (x27_1 + 1)) a0_0 l0_1) else (none)) else (none)) else (none)) else (none)) else (none)) else (if (ji21) ≤ (x9_1.length : Int) then (if (ji21) ≤ (x10_1.length : Int) then (if 0 ≤ (wrap64 ((x11_1.length : Int) - 1)) then (if (wrap64 ((x11_1.length : Int) - 1)) < (x11_1.length : Int) then (if (wrap64 ((x11_1.length : Int) - 1)) ≤ (x11_1.length : Int) then (if x27_1 < (x8_1.length : Int) then (if 0 ≤ (rd x11_1 (wrap64 ((x11_1.length : Int) - 1))) then (if (rd x11_1 (wrap64 ((x11_1.length : Int) - 1))) < (x8_1.length : Int) then (impl_walked.l0 k1 y121 y125 ((x8_1.set (x27_1 : Int).toNat (rd x11_1 (wrap64 ((x11_1.length : Int) - 1)))).set ((rd x11_1 (wrap64 ((x11_1.length : Int) - 1))) : Int).toNat x27_1) (x9_1.take ((ji21) : Int).toNat) (x10_1.take ((ji21) : Int).toNat) (x11_1.take ((wrap64 ((x11_1.length : Int) - 1)) : Int).toNat) x12_1 (a0_0.size : Int) (wrap64 (x27_1 + 1)) a0_0 l0_1) else (none)) else (none)) else (none)) else (none)) else (none)) else (none)) else (none)) else (none))) else (none)) else (none))) else (none)) else (none)) = some (r1, r2, r3) := hR hy121 H; have Ny121 := Az hy121; clear hy121
         by_cases c25 : (ji21) < (x10_1.length : Int)
         ·
          rw [if_pos c25] at H; have c25b0 := decide_eq_true c25; clear c25
          by_cases c26 : x7_1.length < 17592186044416
          ·
           rw [if_pos c26] at H; have LMc26 := Az c26; clear c26; obtain ⟨y125, hy125⟩ : ∃ y_ : List Int, y_ = (x7_1 ++ [rd x10_1 (ji21)]) := ⟨_, rfl⟩; replace H : (if 0 ≤ x27_1 then (if x27_1 < (a0_0.size : Int) then (if (bt a0_0 x27_1) = 40 then (if x9_1.length < 17592186044416 then (if 0 ≤ x12_1 then (if x12_1 < (l0_1.length : Int) then (if x10_1.length < 17592186044416 then (if x11_1.length < 17592186044416 then (impl_walked.l0 k1 y121 y125 x8_1 (x9_1 ++ [wrap64 (x12_1 + 1)]) (x10_1 ++ [wrap64 ((rd x10_1 (ji21)) + (rd l0_1 x12_1))]) (x11_1 ++ [x27_1]) (wrap64 (x12_1 + 1)) (a0_0.size : Int) (wrap64 (x27_1 + 1)) a0_0 l0_1) else (none)) else (none)) else (none)) else (none)) else (none)) else (if (ji21) ≤ (x9_1.length : Int) then (if (ji21) ≤ (x10_1.length : Int) then (if 0 ≤ (wrap64 ((x11_1.length : Int) - 1)) then (if (wrap64 ((x11_1.length : Int) - 1)) < (x11_1.length : Int) then (if (wrap64 ((x11_1.length : Int) - 1)) ≤ (x11_1.length : Int) then (if x27_1 < (x8_1.length : Int) then (if 0 ≤ (rd x11_1 (wrap64 ((x11_1.length : Int) - 1))) then (if (rd x11_1 (wrap64 ((x11_1.length : Int) - 1))) < (x8_1.length : Int) then (impl_walked.l0 k1 y121 y125 ((x8_1.set (x27_1 : Int).toNat (rd x11_1 (wrap64 ((x11_1.length : Int) - 1)))).set ((rd x11_1 (wrap64 ((x11_1.length : Int) - 1))) : Int).toNat x27_1) (x9_1.take ((ji21) : Int).toNat) (x10_1.take ((ji21) : Int).toNat) (x11_1.take ((wrap64 ((x11_1.length : Int) - 1)) : Int).toNat) x12_1 (a0_0.size : Int) (wrap64 (x27_1 + 1)) a0_0 l0_1) else (none)) else (none)) else (none)) else (none)) else (none)) else (none)) else (none)) else (none))) else (none)) else (none)) = some (r1, r2, r3) := hR hy125 H; have Ny125 := Az hy125; clear hy125
           by_cases c27 : 0 ≤ x27_1
           ·
            rw [if_pos c27] at H; have c27b0 := decide_eq_true c27; clear c27
            by_cases c28 : x27_1 < (a0_0.size : Int)
            ·
             rw [if_pos c28] at H; have c28b0 := decide_eq_true c28; clear c28
             by_cases c30 : (bt a0_0 x27_1) = 40
             ·
              rw [if_pos c30] at H; have c30b0 := beq_iff_eq.mpr c30; have c30b1 := bne_eq_false_iff_eq.mpr c30; clear c30
              by_cases c31 : x9_1.length < 17592186044416
              ·
               rw [if_pos c31] at H; have LMc31 := Az c31; clear c31; obtain ⟨y128, hy128⟩ : ∃ y_ : List Int, y_ = (x9_1 ++ [wrap64 (x12_1 + 1)]) := ⟨_, rfl⟩; replace H : (if 0 ≤ x12_1 then (if x12_1 < (l0_1.length : Int) then (if x10_1.length < 17592186044416 then (if x11_1.length < 17592186044416 then (impl_walked.l0 k1 y121 y125 x8_1 y128 (x10_1 ++ [wrap64 ((rd x10_1 (ji21)) + (rd l0_1 x12_1))]) (x11_1 ++ [x27_1]) (wrap64 (x12_1 + 1)) (a0_0.size : Int) (wrap64 (x27_1 + 1)) a0_0 l0_1) else (none)) else (none)) else (none)) else (none)) = some (r1, r2, r3) := hR hy128 H; have Ny128 := Az hy128; clear hy128
               by_cases c32 : 0 ≤ x12_1
               ·
                rw [if_pos c32] at H; have c32b0 := decide_eq_true c32; clear c32
                by_cases c33 : x12_1 < (l0_1.length : Int)
                ·
                 rw [if_pos c33] at H; have c33b0 := decide_eq_true c33; clear c33
                 by_cases c34 : x10_1.length < 17592186044416
                 ·
                  rw [if_pos c34] at H; have LMc34 := Az c34; clear c34; obtain ⟨y133, hy133⟩ : ∃ y_ : List Int, y_ = (x10_1 ++ [wrap64 ((rd x10_1 (ji21)) + (rd l0_1 x12_1))]) := ⟨_, rfl⟩; replace H : (if x11_1.length < 17592186044416 then (impl_walked.l0 k1 y121 y125 x8_1 y128 y133 (x11_1 ++ [x27_1]) (wrap64 (x12_1 + 1)) (a0_0.size : Int) (wrap64 (x27_1 + 1)) a0_0 l0_1) else (none)) = some (r1, r2, r3) := hR hy133 H; have Ny133 := Az hy133; clear hy133
                  by_cases c35 : x11_1.length < 17592186044416
                  ·
                   rw [if_pos c35] at H; have LMc35 := Az c35; clear c35; obtain ⟨y136, hy136⟩ : ∃ y_ : List Int, y_ = (x11_1 ++ [x27_1]) := ⟨_, rfl⟩; replace H : (impl_walked.l0 k1 y121 y125 x8_1 y128 y133 y136 (wrap64 (x12_1 + 1)) (a0_0.size : Int) (wrap64 (x27_1 + 1)) a0_0 l0_1) = some (r1, r2, r3) := hR hy136 H; have Ny136 := Az hy136; clear hy136; have H' := Az H; clear H; obtain ⟨Ao36, co36, eo36⟩ := Kd.R_slice HO_9.out; subst eo36; have p120 : 0 ≤ ((ji21) : Int) := oA; have q120 : (ji21) < (x9_1.length : Int) := oA; obtain ⟨ad120, e120, hx120_0⟩ := Kd.at_int (Kd.R_reads' HO_9.out).2.2 (ji21) p120 q120
                   cases e120
                   replace p120 := eq_true p120; replace q120 := eq_true q120
                   try go_wp2_with (first | ((with_reducible refine gate_builtin (b := .append) (xs := #[.tmp 33, .tmp 38]) rfl ?_); at_builtin; refine Kd.R_append (Kd.int .i64) (w0 := w) w.heap.size rfl (.tmp 33) (.tmp 38) 23 3 (.int .i64 0) 8 rfl Try.underlying23 info3 rfl (by decide) (by omega) u6 x6_1 (rd x9_1 (ji21)) [.int .i64 (rd x9_1 (ji21))] (fun k_ => some k_ ≠ (u7 : Value).ownBlock ∧ some k_ ≠ (v109 : Value).ownBlock ∧ some k_ ≠ (.slice (some ad120) x9_1.length co36 : Value).ownBlock ∧ some k_ ≠ (u10 : Value).ownBlock ∧ some k_ ≠ (u11 : Value).ownBlock) (fun _ => False) rfl rfl ?aP (fun _ hk => hk.elim) ?aF ?aO ?aB ?aS ?aL ?_; (case aP => exact rfl); (case aB => exact (bU1 HB.out GE101.out)); (case aF => exact (fun k_ hk => ⟨Kd.fresh' (Kd.R_lt (rU HO_7.out)) k_ hk, Kd.fresh' (Kd.R_lt (rU HO_8.out)) k_ hk, Kd.fresh' (Kd.R_lt (rU HO_9.out)) k_ hk, Kd.fresh' (Kd.R_lt (rU HO_10.out)) k_ hk, Kd.fresh' (Kd.R_lt (rU HO_11.out)) k_ hk⟩)); (case aO => exact (rU HO_6.out)); (case aS => exact (below_size (bU1 HB.out GE101.out))); (case aL => have := LMc24.out; omega); intro v122 w37 ho hb hg hat; rw [← Ny121.out] at ho; have n0 := Az (Kd.R_after (ok := (fun k_ => some k_ ≠ (v109 : Value).ownBlock ∧ some k_ ≠ (.slice (some ad120) x9_1.length co36 : Value).ownBlock ∧ some k_ ≠ (u10 : Value).ownBlock ∧ some k_ ≠ (u11 : Value).ownBlock)) (by (with_reducible repeat (first | apply Kd.R_alloc | apply Kd.R_drewN | apply Kd.R_drew)); exact Kd.R_mono HO_7.out (fun _ hk => ⟨⟨hk.2.1, ⟨hk.2.2.1, ⟨hk.2.2.2.1, hk.2.2.2.2⟩⟩⟩, hk.1⟩)) hg hat); have n1 := Az (Kd.R_after (ok := (fun k_ => some k_ ≠ (u7 : Value).ownBlock ∧ some k_ ≠ (.slice (some ad120) x9_1.length co36 : Value).ownBlock ∧ some k_ ≠ (u10 : Value).ownBlock ∧ some k_ ≠ (u11 : Value).ownBlock)) (by (with_reducible repeat (first | apply Kd.R_alloc | apply Kd.R_drewN | apply Kd.R_drew)); exact Kd.R_mono HO_8.out (fun _ hk => ⟨⟨hk.2.1, ⟨hk.2.2.1, ⟨hk.2.2.2.1, hk.2.2.2.2⟩⟩⟩, hk.1⟩)) hg hat); have n2 := Az (Kd.R_after (ok := (fun k_ => some k_ ≠ (u7 : Value).ownBlock ∧ some k_ ≠ (v109 : Value).ownBlock ∧ some k_ ≠ (u10 : Value).ownBlock ∧ some k_ ≠ (u11 : Value).ownBlock)) (by (with_reducible repeat (first | apply Kd.R_alloc | apply Kd.R_drewN | apply Kd.R_drew)); exact Kd.R_mono HO_9.out (fun _ hk => ⟨⟨hk.2.1, ⟨hk.2.2.1, ⟨hk.2.2.2.1, hk.2.2.2.2⟩⟩⟩, hk.1⟩)) hg hat); have n3 := Az (Kd.R_after (ok := (fun k_ => some k_ ≠ (u7 : Value).ownBlock ∧ some k_ ≠ (v109 : Value).ownBlock ∧ some k_ ≠ (.slice (some ad120) x9_1.length co36 : Value).ownBlock ∧ some k_ ≠ (u11 : Value).ownBlock)) (by (with_reducible repeat (first | apply Kd.R_alloc | apply Kd.R_drewN | apply Kd.R_drew)); exact Kd.R_mono HO_10.out (fun _ hk => ⟨⟨hk.2.1, ⟨hk.2.2.1, ⟨hk.2.2.2.1, hk.2.2.2.2⟩⟩⟩, hk.1⟩)) hg hat); have n4 := Az (Kd.R_after (ok := (fun k_ => some k_ ≠ (u7 : Value).ownBlock ∧ some k_ ≠ (v109 : Value).ownBlock ∧ some k_ ≠ (.slice (some ad120) x9_1.length co36 : Value).ownBlock ∧ some k_ ≠ (u10 : Value).ownBlock)) (by (with_reducible repeat (first | apply Kd.R_alloc | apply Kd.R_drewN | apply Kd.R_drew)); exact Kd.R_mono HO_11.out (fun _ hk => ⟨⟨hk.2.1, ⟨hk.2.2.1, ⟨hk.2.2.2.1, hk.2.2.2.2⟩⟩⟩, hk.1⟩)) hg hat); have n5 := Az (blk_grown (g := gb101) (o := .cells #[.string a0_0, .slice A0_1 l0_1.length c0_1] 25 (0, 0)) (kU BK101.out) hg (Kd.R_ne HO_6.out BK101.out (by decide))); have n6 := Az (hb); have n7 := Az (ho); clear HO_7 HO_8 HO_9 HO_10 HO_11 BK101 HB HO_6; have HO_7 := n0; have HO_8 := n1; have HO_9 := n2; have HO_10 := n3; have HO_11 := n4; have BK101 := n5; have HB := n6; have HO123 := n7; clear n0 n1 n2 n3 n4 n5 n6 n7 ho hb hg hat; obtain ⟨Ao38, co38, eo38⟩ := Kd.R_slice HO_10.out; subst eo38; have p124 : 0 ≤ ((ji21) : Int) := oA; have q124 : (ji21) < (x10_1.length : Int) := oA; obtain ⟨ad124, e124, hx124_0⟩ := Kd.at_int (Kd.R_reads' HO_10.out).2.2 (ji21) p124 q124; cases e124; replace p124 := eq_true p124; replace q124 := eq_true q124) | ((with_reducible refine gate_builtin (b := .append) (xs := #[.tmp 40, .tmp 45]) rfl ?_); at_builtin; refine Kd.R_append (Kd.int .i64) (w0 := w) w.heap.size rfl (.tmp 40) (.tmp 45) 23 3 (.int .i64 0) 8 rfl Try.underlying23 info3 rfl (by decide) (by omega) u7 x7_1 (rd x10_1 (ji21)) [.int .i64 (rd x10_1 (ji21))] (fun k_ => some k_ ≠ (v109 : Value).ownBlock ∧ some k_ ≠ (.slice (some ad120) x9_1.length co36 : Value).ownBlock ∧ some k_ ≠ (.slice (some ad124) x10_1.length co38 : Value).ownBlock ∧ some k_ ≠ (u11 : Value).ownBlock ∧ some k_ ≠ (v122 : Value).ownBlock) (fun _ => False) rfl rfl ?aP (fun _ hk => hk.elim) ?aF ?aO ?aB ?aS ?aL ?_; (case aP => exact rfl); (case aB => exact (bU1 HB.out GE101.out)); (case aF => exact (fun k_ hk => ⟨Kd.fresh' (Kd.R_lt (rU HO_8.out)) k_ hk, Kd.fresh' (Kd.R_lt (rU HO_9.out)) k_ hk, Kd.fresh' (Kd.R_lt (rU HO_10.out)) k_ hk, Kd.fresh' (Kd.R_lt (rU HO_11.out)) k_ hk, Kd.fresh' (Kd.R_lt (rU HO123.out)) k_ hk⟩)); (case aO => exact (by (with_reducible repeat (first | apply Kd.R_alloc | apply Kd.R_drewN | apply Kd.R_drew)); exact Kd.R_mono HO_7.out (fun _ hk => ⟨hk.1.1, ⟨hk.1.2.1, ⟨hk.1.2.2.1, ⟨hk.1.2.2.2, hk.2⟩⟩⟩⟩))); (case aS => exact (below_size (bU1 HB.out GE101.out))); (case aL => have := LMc26.out; omega); intro v126 w39 ho hb hg hat; rw [← Ny125.out] at ho; have n0 := Az (Kd.R_after (ok := (fun k_ => some k_ ≠ (.slice (some ad120) x9_1.length co36 : Value).ownBlock ∧ some k_ ≠ (.slice (some ad124) x10_1.length co38 : Value).ownBlock ∧ some k_ ≠ (u11 : Value).ownBlock ∧ some k_ ≠ (v122 : Value).ownBlock)) (by (with_reducible repeat (first | apply Kd.R_alloc | apply Kd.R_drewN | apply Kd.R_drew)); exact Kd.R_mono HO_8.out (fun _ hk => ⟨⟨hk.1.2.1, ⟨hk.1.2.2.1, ⟨hk.1.2.2.2, hk.2⟩⟩⟩, hk.1.1⟩)) hg hat); have n1 := Az (Kd.R_after (ok := (fun k_ => some k_ ≠ (v109 : Value).ownBlock ∧ some k_ ≠ (.slice (some ad124) x10_1.length co38 : Value).ownBlock ∧ some k_ ≠ (u11 : Value).ownBlock ∧ some k_ ≠ (v122 : Value).ownBlock)) (by (with_reducible repeat (first | apply Kd.R_alloc | apply Kd.R_drewN | apply Kd.R_drew)); exact Kd.R_mono HO_9.out (fun _ hk => ⟨⟨hk.1.2.1, ⟨hk.1.2.2.1, ⟨hk.1.2.2.2, hk.2⟩⟩⟩, hk.1.1⟩)) hg hat); have n2 := Az (Kd.R_after (ok := (fun k_ => some k_ ≠ (v109 : Value).ownBlock ∧ some k_ ≠ (.slice (some ad120) x9_1.length co36 : Value).ownBlock ∧ some k_ ≠ (u11 : Value).ownBlock ∧ some k_ ≠ (v122 : Value).ownBlock)) (by (with_reducible repeat (first | apply Kd.R_alloc | apply Kd.R_drewN | apply Kd.R_drew)); exact Kd.R_mono HO_10.out (fun _ hk => ⟨⟨hk.1.2.1, ⟨hk.1.2.2.1, ⟨hk.1.2.2.2, hk.2⟩⟩⟩, hk.1.1⟩)) hg hat); have n3 := Az (Kd.R_after (ok := (fun k_ => some k_ ≠ (v109 : Value).ownBlock ∧ some k_ ≠ (.slice (some ad120) x9_1.length co36 : Value).ownBlock ∧ some k_ ≠ (.slice (some ad124) x10_1.length co38 : Value).ownBlock ∧ some k_ ≠ (v122 : Value).ownBlock)) (by (with_reducible repeat (first | apply Kd.R_alloc | apply Kd.R_drewN | apply Kd.R_drew)); exact Kd.R_mono HO_11.out (fun _ hk => ⟨⟨hk.1.2.1, ⟨hk.1.2.2.1, ⟨hk.1.2.2.2, hk.2⟩⟩⟩, hk.1.1⟩)) hg hat); have n4 := Az (blk_grown (g := gb101) (o := .cells #[.string a0_0, .slice A0_1 l0_1.length c0_1] 25 (0, 0)) (kU BK101.out) hg (Kd.R_ne HO_7.out BK101.out (by decide))); have n5 := Az (Kd.R_after (ok := (fun k_ => some k_ ≠ (v109 : Value).ownBlock ∧ some k_ ≠ (.slice (some ad120) x9_1.length co36 : Value).ownBlock ∧ some k_ ≠ (.slice (some ad124) x10_1.length co38 : Value).ownBlock ∧ some k_ ≠ (u11 : Value).ownBlock)) (by (with_reducible repeat (first | apply Kd.R_alloc | apply Kd.R_drewN | apply Kd.R_drew)); exact Kd.R_mono HO123.out (fun _ hk => ⟨⟨hk.2.1, ⟨hk.2.2.1, ⟨hk.2.2.2.1, hk.2.2.2.2⟩⟩⟩, hk.1⟩)) hg hat); have n6 := Az (hb); have n7 := Az (ho); clear HO_8 HO_9 HO_10 HO_11 BK101 HO123 HB HO_7; have HO_8 := n0; have HO_9 := n1; have HO_10 := n2; have HO_11 := n3; have BK101 := n4; have HO123 := n5; have HB := n6; have HO127 := n7; clear n0 n1 n2 n3 n4 n5 n6 n7 ho hb hg hat; have hcz40_0 : w39.cell? ⟨gb101, 0, none⟩ = some (.string a0_0) := (blk_cell BK101.out 0).trans rfl; have hcz40_1 : w39.cell? ⟨gb101, 1, none⟩ = some (.slice A0_1 l0_1.length c0_1) := (blk_cell BK101.out 1).trans rfl; have hfz40_0 := blk_frozen BK101.out 0; have hfz40_1 := blk_frozen BK101.out 1; have p29 : 0 ≤ (x27_1 : Int) := oA; have q29 : x27_1 < (a0_0.size : Int) := oA; have hx29 := bt_at a0_0 x27_1; replace p29 := eq_true p29; replace q29 := eq_true q29) | ((with_reducible refine gate_builtin (b := .append) (xs := #[.tmp 52, .tmp 55]) rfl ?_); at_builtin; refine Kd.R_append (Kd.int .i64) (w0 := w) w.heap.size rfl (.tmp 52) (.tmp 55) 23 3 (.int .i64 0) 8 rfl Try.underlying23 info3 rfl (by decide) (by omega) (.slice (some ad120) x9_1.length co36) x9_1 (wrap64 (x12_1 + 1)) [.int .i64 (wrap64 (x12_1 + 1))] (fun k_ => some k_ ≠ (v109 : Value).ownBlock ∧ some k_ ≠ (.slice (some ad124) x10_1.length co38 : Value).ownBlock ∧ some k_ ≠ (u11 : Value).ownBlock ∧ some k_ ≠ (v122 : Value).ownBlock ∧ some k_ ≠ (v126 : Value).ownBlock) (fun _ => False) rfl rfl ?aP (fun _ hk => hk.elim) ?aF ?aO ?aB ?aS ?aL ?_; (case aP => exact rfl); (case aB => exact (bU1 HB.out GE101.out)); (case aF => exact (fun k_ hk => ⟨Kd.fresh' (Kd.R_lt (rU HO_8.out)) k_ hk, Kd.fresh' (Kd.R_lt (rU HO_10.out)) k_ hk, Kd.fresh' (Kd.R_lt (rU HO_11.out)) k_ hk, Kd.fresh' (Kd.R_lt (rU HO123.out)) k_ hk, Kd.fresh' (Kd.R_lt (rU HO127.out)) k_ hk⟩)); (case aO => exact (by (with_reducible repeat (first | apply Kd.R_alloc | apply Kd.R_drewN | apply Kd.R_drew)); exact Kd.R_mono HO_9.out (fun _ hk => ⟨hk.1.1, ⟨hk.1.2.1, ⟨hk.1.2.2.1, ⟨hk.1.2.2.2, hk.2⟩⟩⟩⟩))); (case aS => exact (below_size (bU1 HB.out GE101.out))); (case aL => have := LMc31.out; omega); intro v129 w41 ho hb hg hat; rw [← Ny128.out] at ho; have n0 := Az (Kd.R_after (ok := (fun k_ => some k_ ≠ (.slice (some ad124) x10_1.length co38 : Value).ownBlock ∧ some k_ ≠ (u11 : Value).ownBlock ∧ some k_ ≠ (v122 : Value).ownBlock ∧ some k_ ≠ (v126 : Value).ownBlock)) (by (with_reducible repeat (first | apply Kd.R_alloc | apply Kd.R_drewN | apply Kd.R_drew)); exact Kd.R_mono HO_8.out (fun _ hk => ⟨⟨hk.1.2.1, ⟨hk.1.2.2.1, ⟨hk.1.2.2.2, hk.2⟩⟩⟩, hk.1.1⟩)) hg hat); have n1 := Az (Kd.R_after (ok := (fun k_ => some k_ ≠ (v109 : Value).ownBlock ∧ some k_ ≠ (u11 : Value).ownBlock ∧ some k_ ≠ (v122 : Value).ownBlock ∧ some k_ ≠ (v126 : Value).ownBlock)) (by (with_reducible repeat (first | apply Kd.R_alloc | apply Kd.R_drewN | apply Kd.R_drew)); exact Kd.R_mono HO_10.out (fun _ hk => ⟨⟨hk.1.1, ⟨hk.1.2.2.1, ⟨hk.1.2.2.2, hk.2⟩⟩⟩, hk.1.2.1⟩)) hg hat); have n2 := Az (Kd.R_after (ok := (fun k_ => some k_ ≠ (v109 : Value).ownBlock ∧ some k_ ≠ (.slice (some ad124) x10_1.length co38 : Value).ownBlock ∧ some k_ ≠ (v122 : Value).ownBlock ∧ some k_ ≠ (v126 : Value).ownBlock)) (by (with_reducible repeat (first | apply Kd.R_alloc | apply Kd.R_drewN | apply Kd.R_drew)); exact Kd.R_mono HO_11.out (fun _ hk => ⟨⟨hk.1.1, ⟨hk.1.2.2.1, ⟨hk.1.2.2.2, hk.2⟩⟩⟩, hk.1.2.1⟩)) hg hat); have n3 := Az (blk_grown (g := gb101) (o := .cells #[.string a0_0, .slice A0_1 l0_1.length c0_1] 25 (0, 0)) (kU BK101.out) hg (Kd.R_ne HO_9.out BK101.out (by decide))); have n4 := Az (Kd.R_after (ok := (fun k_ => some k_ ≠ (v109 : Value).ownBlock ∧ some k_ ≠ (.slice (some ad124) x10_1.length co38 : Value).ownBlock ∧ some k_ ≠ (u11 : Value).ownBlock ∧ some k_ ≠ (v126 : Value).ownBlock)) (by (with_reducible repeat (first | apply Kd.R_alloc | apply Kd.R_drewN | apply Kd.R_drew)); exact Kd.R_mono HO123.out (fun _ hk => ⟨⟨hk.1.1, ⟨hk.1.2.2.1, ⟨hk.1.2.2.2, hk.2⟩⟩⟩, hk.1.2.1⟩)) hg hat); have n5 := Az (Kd.R_after (ok := (fun k_ => some k_ ≠ (v109 : Value).ownBlock ∧ some k_ ≠ (.slice (some ad124) x10_1.length co38 : Value).ownBlock ∧ some k_ ≠ (u11 : Value).ownBlock ∧ some k_ ≠ (v122 : Value).ownBlock)) (by (with_reducible repeat (first | apply Kd.R_alloc | apply Kd.R_drewN | apply Kd.R_drew)); exact Kd.R_mono HO127.out (fun _ hk => ⟨⟨hk.1, ⟨hk.2.2.1, ⟨hk.2.2.2.1, hk.2.2.2.2⟩⟩⟩, hk.2.1⟩)) hg hat); have n6 := Az (hb); have n7 := Az (ho); clear HO_8 HO_10 HO_11 BK101 HO123 HO127 HB HO_9; have HO_8 := n0; have HO_10 := n1; have HO_11 := n2; have BK101 := n3; have HO123 := n4; have HO127 := n5; have HB := n6; have HO130 := n7; clear n0 n1 n2 n3 n4 n5 n6 n7; clear ho hb hg hat))
                   have n0 := Az (Kd.R_drew HO_8.out); have n1 := Az (Kd.R_drew HO_10.out); have n2 := Az (Kd.R_drew HO_11.out); have n3 := Az (Kd.R_drew HO123.out); have n4 := Az (Kd.R_drew HO127.out); have n5 := Az (Kd.R_drew HO130.out); have n6 := Az (blk_drew BK101.out); have n7 := Az (below_drew1 HB.out); clear HO_8 HO_10 HO_11 HO123 HO127 HO130 BK101 HB; have HO_8 := n0; have HO_10 := n1; have HO_11 := n2; have HO123 := n3; have HO127 := n4; have HO130 := n5; have BK101 := n6; have HB := n7; clear n0 n1 n2 n3 n4 n5 n6 n7; have p131 : 0 ≤ ((ji21) : Int) := oA; have q131 : (ji21) < (x10_1.length : Int) := oA; obtain ⟨ad131, e131, hx131_0⟩ := Kd.at_int (Kd.R_reads' HO_10.out).2.2 (ji21) p131 q131; obtain rfl : ad124 = ad131 := (by injection e131); replace p131 := eq_true p131; replace q131 := eq_true q131; have p132 : 0 ≤ (x12_1 : Int) := oA; have q132 : x12_1 < (l0_1.length : Int) := oA; obtain ⟨ad132, e132, hx132_0⟩ := Kd.at_int HR0_1.out x12_1 p132 q132; have hw132_0 := hx132_0
                   cases e132
                   (try replace hx132_0 := (HB.out.cell (World.block_lt_of_cell? w _ hx132_0)).trans hx132_0); replace p132 := eq_true p132; replace q132 := eq_true q132
                   refine start_ (n := 14) (S := fun w' => w'.cell? ⟨gb101, 0, none⟩ = some (.string a0_0) ∧ w'.cell? ⟨gb101, 1, none⟩ = some (.slice (some ad132) l0_1.length c0_1) ∧ w'.cell? (ad124.add ((ji21)).toNat) = some (.int .i64 (rd x10_1 (ji21))) ∧ w'.cell? (ad132.add (x12_1).toNat) = some (.int .i64 (rd l0_1 x12_1))) (ds := [11, 12]) #[false, false, false, false, false, false, false, false, false, false, false, false, false, false] (by kernel_rfl) rfl rfl ⟨(blk_cell BK101.out 0).trans rfl, (blk_cell BK101.out 1).trans rfl, hx131_0, ((HB.out.cell (World.block_lt_of_cell? w _ hw132_0)).trans hw132_0)⟩ (fun hHeld => ?_); refine with_tabW impl_walked.tab13 impl_walked.bits13 (fun HT_ HW_ => ?_)
                   generalize w41.drew = w42 at HO_8 HO_10 HO_11 HO123 HO127 HO130 BK101 HB hx131_0 hx132_0 hHeld ⊢
                   refine pure_ (i := 0) (N := some 57) (v := ?_) (a' := ?_) #[true, false, false, false, false, false, false, false, false, false, false, false, false, false] rfl rfl (any_of HT_.out (by kernel_rfl)) (fun _ _ _ h => h) (Or.inl ⟨by rfl, ?_⟩) ?_ ?_
                   rotate_left
                   ·
                    intro w'
                    go_simp
                    with_reducible rfl
                   rotate_left
                   ·
                    simp only [Act.put, List.setIfInBounds_toArray, List.set_cons_zero, List.set_cons_succ, i64_w, i32_w]
                    rfl
                   refine pure_ (i := 1) (N := some 58) (v := ?_) (a' := ?_) #[true, true, false, false, false, false, false, false, false, false, false, false, false, false] rfl rfl (any_of HT_.out (by kernel_rfl)) (fun _ _ _ h => h) (Or.inl ⟨by rfl, ?_⟩) ?_ ?_
                   rotate_left
                   ·
                    intro w'
                    go_simp
                    with_reducible rfl
                   rotate_left
                   ·
                    simp only [Act.put, List.setIfInBounds_toArray, List.set_cons_zero, List.set_cons_succ, i64_w, i32_w]
                    rfl
                   refine pure_ (i := 2) (N := some 59) (v := ?_) (a' := ?_) #[true, true, true, false, false, false, false, false, false, false, false, false, false, false] rfl rfl (any_of HT_.out (by kernel_rfl)) (fun _ _ _ h => h) (Or.inl ⟨by rfl, ?_⟩) ?_ ?_
                   rotate_left
                   ·
                    intro w'
                    go_simp
                    with_reducible rfl
                   rotate_left
                   ·
                    simp only [Act.put, List.setIfInBounds_toArray, List.set_cons_zero, List.set_cons_succ, i64_w, i32_w]
                    rfl
                   refine pure_ (i := 3) (N := some 60) (v := ?_) (a' := ?_) #[true, true, true, true, false, false, false, false, false, false, false, false, false, false] rfl rfl (any_of HT_.out (by kernel_rfl)) (fun _ _ _ h => h) (Or.inl ⟨by rfl, ?_⟩) ?_ ?_
                   rotate_left
                   ·
                    intro w'
                    go_simp
                    with_reducible rfl
                   rotate_left
                   ·
                    simp only [Act.put, List.setIfInBounds_toArray, List.set_cons_zero, List.set_cons_succ, i64_w, i32_w]
                    rfl
                   refine pure_ (i := 5) (N := some 62) (v := ?_) (a' := ?_) #[true, true, true, true, false, true, false, false, false, false, false, false, false, false] rfl rfl (any_of HT_.out (by kernel_rfl)) (fun _ _ _ h => h) (Or.inl ⟨by rfl, ?_⟩) ?_ ?_
                   rotate_left
                   ·
                    intro w'
                    go_simp
                    with_reducible rfl
                   rotate_left
                   ·
                    simp only [Act.put, List.setIfInBounds_toArray, List.set_cons_zero, List.set_cons_succ, i64_w, i32_w]
                    rfl
                   refine pure_ (i := 7) (N := some 64) (v := ?_) (a' := ?_) #[true, true, true, true, false, true, false, true, false, false, false, false, false, false] rfl rfl (any_of HT_.out (by kernel_rfl)) (fun _ _ _ h => h) (Or.inl ⟨by rfl, ?_⟩) ?_ ?_
                   rotate_left
                   ·
                    intro w'
                    go_simp
                    with_reducible rfl
                   rotate_left
                   ·
                    simp only [Act.put, List.setIfInBounds_toArray, List.set_cons_zero, List.set_cons_succ, i64_w, i32_w]
                    rfl
                   refine take_ (i := 4) (N := some 61) (v := ?_) (a' := ?_) #[true, true, true, true, true, true, false, true, false, false, false, false, false, false] rfl rfl (take_ofW HT_.out HW_.out (by kernel_rfl)) (fun _ _ _ h => h) (Or.inl ⟨by rfl, ?_⟩) hHeld ?_ ?_
                   rotate_left
                   ·
                    rintro w' ⟨s0, s1, s2, s3⟩
                    go_simp
                    with_reducible rfl
                   rotate_left
                   ·
                    simp only [Act.put, List.setIfInBounds_toArray, List.set_cons_zero, List.set_cons_succ, i64_w, i32_w]
                    rfl
                   refine take_ (i := 6) (N := some 63) (v := ?_) (a' := ?_) #[true, true, true, true, true, true, true, true, false, false, false, false, false, false] rfl rfl (take_ofW HT_.out HW_.out (by kernel_rfl)) (fun _ _ _ h => h) (Or.inl ⟨by rfl, ?_⟩) hHeld ?_ ?_
                   rotate_left
                   ·
                    rintro w' ⟨s0, s1, s2, s3⟩
                    go_simp
                    with_reducible rfl
                   rotate_left
                   ·
                    simp only [Act.put, List.setIfInBounds_toArray, List.set_cons_zero, List.set_cons_succ, i64_w, i32_w]
                    rfl
                   refine pure_ (i := 8) (N := some 65) (v := ?_) (a' := ?_) #[true, true, true, true, true, true, true, true, true, false, false, false, false, false] rfl rfl (any_of HT_.out (by kernel_rfl)) (fun _ _ _ h => h) (Or.inl ⟨by rfl, ?_⟩) ?_ ?_
                   rotate_left
                   ·
                    intro w'
                    go_simp
                    with_reducible rfl
                   rotate_left
                   ·
                    simp only [Act.put, List.setIfInBounds_toArray, List.set_cons_zero, List.set_cons_succ, i64_w, i32_w]
                    rfl
                   refine take_ (i := 9) (N := some 66) (v := ?_) (a' := ?_) #[true, true, true, true, true, true, true, true, true, true, false, false, false, false] rfl rfl (take_ofW HT_.out HW_.out (by kernel_rfl)) (fun _ _ _ h => h) (Or.inl ⟨by rfl, ?_⟩) hHeld ?_ ?_
                   rotate_left
                   ·
                    rintro w' ⟨s0, s1, s2, s3⟩
                    go_simp
                    with_reducible rfl
                   rotate_left
                   ·
                    simp only [Act.put, List.setIfInBounds_toArray, List.set_cons_zero, List.set_cons_succ, i64_w, i32_w]
                    rfl
                   refine pure_ (i := 10) (N := some 67) (v := ?_) (a' := ?_) #[true, true, true, true, true, true, true, true, true, true, true, false, false, false] rfl rfl (any_of HT_.out (by kernel_rfl)) (fun _ _ _ h => h) (Or.inl ⟨by rfl, ?_⟩) ?_ ?_
                   rotate_left
                   ·
                    intro w'
                    go_simp
                    with_reducible rfl
                   rotate_left
                   ·
                    simp only [Act.put, List.setIfInBounds_toArray, List.set_cons_zero, List.set_cons_succ, i64_w, i32_w]
                    rfl
                   refine last_ (i := 11) (N := some 68) #[true, true, true, true, true, true, true, true, true, true, true, true, false, false] rfl rfl (one_of HT_.out (by kernel_rfl)) (by decide) (fun K hK => ?_)
                   refine value_ (w1 := ?_) (v := ?_) (by rfl) rfl ?_ ?_
                   rotate_left 2
                   ·
                    go_simp
                    constructor
                    ·
                     rfl
                    ·
                     rfl
                   refine hK.out _ _ ?_
                   clear hK K
                   refine norm_ (a' := ?_) ?_ ?_
                   rotate_left
                   ·
                    show Act.put _ (some 68) _ = _
                    simp only [Act.put, List.setIfInBounds_toArray, List.set_cons_zero, List.set_cons_succ, i64_w, i32_w]
                    rfl
                   refine last_ (i := 12) (N := some 69) #[true, true, true, true, true, true, true, true, true, true, true, true, true, false] rfl rfl (one_of HT_.out (by kernel_rfl)) (by decide) (fun K hK => ?_)
                   refine Kd.R_append_step (Kd.int .i64) (w0 := w) w.heap.size (by rfl) (.tmp 57) (.tmp 68) 23 3 (.int .i64 0) 8 rfl Try.underlying23 info3 rfl (by decide) (by omega) (.slice (some ad124) x10_1.length co38) x10_1 (wrap64 ((rd x10_1 (ji21)) + (rd l0_1 x12_1))) [.int .i64 (wrap64 ((rd x10_1 (ji21)) + (rd l0_1 x12_1)))] (fun k_ => some k_ ≠ (v109 : Value).ownBlock ∧ some k_ ≠ (u11 : Value).ownBlock ∧ some k_ ≠ (v122 : Value).ownBlock ∧ some k_ ≠ (v126 : Value).ownBlock ∧ some k_ ≠ (v129 : Value).ownBlock) (fun _ => False) rfl rfl ?aP (fun _ hk => hk.elim) ?aF ?aO ?aB ?aS ?aL ?_
                   (case aP => exact rfl)
                   (case aB => exact (bU1 HB.out GE101.out))
                   (case aF => exact (fun k_ hk => ⟨Kd.fresh' (Kd.R_lt (rU HO_8.out)) k_ hk, Kd.fresh' (Kd.R_lt (rU HO_11.out)) k_ hk, Kd.fresh' (Kd.R_lt (rU HO123.out)) k_ hk, Kd.fresh' (Kd.R_lt (rU HO127.out)) k_ hk, Kd.fresh' (Kd.R_lt (rU HO130.out)) k_ hk⟩))
                   (case aO => exact (by (with_reducible repeat (first | apply Kd.R_alloc | apply Kd.R_drewN | apply Kd.R_drew)); exact Kd.R_mono HO_10.out (fun _ hk => ⟨hk.1.1, ⟨hk.1.2.1, ⟨hk.1.2.2.1, ⟨hk.1.2.2.2, hk.2⟩⟩⟩⟩)))
                   (case aS => exact (below_size (bU1 HB.out GE101.out)))
                   (case aL => have := LMc34.out; omega)
                   intro v134 w43 ho hb hg hat
                   rw [← Ny133.out] at ho; have n0 := Az (Kd.R_after (ok := (fun k_ => some k_ ≠ (u11 : Value).ownBlock ∧ some k_ ≠ (v122 : Value).ownBlock ∧ some k_ ≠ (v126 : Value).ownBlock ∧ some k_ ≠ (v129 : Value).ownBlock)) (by (with_reducible repeat (first | apply Kd.R_alloc | apply Kd.R_drewN | apply Kd.R_drew)); exact Kd.R_mono HO_8.out (fun _ hk => ⟨⟨hk.1.2.1, ⟨hk.1.2.2.1, ⟨hk.1.2.2.2, hk.2⟩⟩⟩, hk.1.1⟩)) hg hat); have n1 := Az (Kd.R_after (ok := (fun k_ => some k_ ≠ (v109 : Value).ownBlock ∧ some k_ ≠ (v122 : Value).ownBlock ∧ some k_ ≠ (v126 : Value).ownBlock ∧ some k_ ≠ (v129 : Value).ownBlock)) (by (with_reducible repeat (first | apply Kd.R_alloc | apply Kd.R_drewN | apply Kd.R_drew)); exact Kd.R_mono HO_11.out (fun _ hk => ⟨⟨hk.1.1, ⟨hk.1.2.2.1, ⟨hk.1.2.2.2, hk.2⟩⟩⟩, hk.1.2.1⟩)) hg hat); have n2 := Az (blk_grown (g := gb101) (o := .cells #[.string a0_0, .slice (some ad132) l0_1.length c0_1] 25 (0, 0)) (kU BK101.out) hg (Kd.R_ne HO_10.out BK101.out (by decide))); have n3 := Az (Kd.R_after (ok := (fun k_ => some k_ ≠ (v109 : Value).ownBlock ∧ some k_ ≠ (u11 : Value).ownBlock ∧ some k_ ≠ (v126 : Value).ownBlock ∧ some k_ ≠ (v129 : Value).ownBlock)) (by (with_reducible repeat (first | apply Kd.R_alloc | apply Kd.R_drewN | apply Kd.R_drew)); exact Kd.R_mono HO123.out (fun _ hk => ⟨⟨hk.1.1, ⟨hk.1.2.2.1, ⟨hk.1.2.2.2, hk.2⟩⟩⟩, hk.1.2.1⟩)) hg hat); have n4 := Az (Kd.R_after (ok := (fun k_ => some k_ ≠ (v109 : Value).ownBlock ∧ some k_ ≠ (u11 : Value).ownBlock ∧ some k_ ≠ (v122 : Value).ownBlock ∧ some k_ ≠ (v129 : Value).ownBlock)) (by (with_reducible repeat (first | apply Kd.R_alloc | apply Kd.R_drewN | apply Kd.R_drew)); exact Kd.R_mono HO127.out (fun _ hk => ⟨⟨hk.1.1, ⟨hk.1.2.2.1, ⟨hk.1.2.2.2, hk.2⟩⟩⟩, hk.1.2.1⟩)) hg hat); have n5 := Az (Kd.R_after (ok := (fun k_ => some k_ ≠ (v109 : Value).ownBlock ∧ some k_ ≠ (u11 : Value).ownBlock ∧ some k_ ≠ (v122 : Value).ownBlock ∧ some k_ ≠ (v126 : Value).ownBlock)) (by (with_reducible repeat (first | apply Kd.R_alloc | apply Kd.R_drewN | apply Kd.R_drew)); exact Kd.R_mono HO130.out (fun _ hk => ⟨⟨hk.1, ⟨hk.2.2.1, ⟨hk.2.2.2.1, hk.2.2.2.2⟩⟩⟩, hk.2.1⟩)) hg hat); have n6 := Az (hb); have n7 := Az (ho); clear HO_8 HO_11 BK101 HO123 HO127 HO130 HB HO_10; have HO_8 := n0; have HO_11 := n1; have BK101 := n2; have HO123 := n3; have HO127 := n4; have HO130 := n5; have HB := n6; have HO135 := n7; clear n0 n1 n2 n3 n4 n5 n6 n7 ho hb hg hat
                   refine hK.out _ _ ?_
                   clear hK K
                   refine norm_ (a' := ?_) ?_ ?_
                   rotate_left
                   ·
                    show Act.put _ (some 69) _ = _
                    simp only [Act.put, List.setIfInBounds_toArray, List.set_cons_zero, List.set_cons_succ, i64_w, i32_w]
                    rfl
                   refine pure_ (i := 13) (N := some 10) (v := ?_) (a' := ?_) #[true, true, true, true, true, true, true, true, true, true, true, true, true, true] rfl rfl (any_of HT_.out (by kernel_rfl)) (fun _ _ _ h => h) (Or.inl ⟨by rfl, ?_⟩) ?_ ?_
                   rotate_left
                   ·
                    intro w'
                    go_simp
                    with_reducible rfl
                   rotate_left
                   ·
                    simp only [Act.put, List.setIfInBounds_toArray, List.set_cons_zero, List.set_cons_succ, i64_w, i32_w]
                    rfl
                   refine done_ (done_of HT_.out (by kernel_rfl)) ?_
                   try go_wp2_with (first | ((with_reducible refine gate_builtin (b := .append) (xs := #[.tmp 72, .tmp 74]) rfl ?_); at_builtin; refine Kd.R_append (Kd.int .i64) (w0 := w) w.heap.size rfl (.tmp 72) (.tmp 74) 23 3 (.int .i64 0) 8 rfl Try.underlying23 info3 rfl (by decide) (by omega) u11 x11_1 x27_1 [.int .i64 x27_1] (fun k_ => some k_ ≠ (v109 : Value).ownBlock ∧ some k_ ≠ (v122 : Value).ownBlock ∧ some k_ ≠ (v126 : Value).ownBlock ∧ some k_ ≠ (v129 : Value).ownBlock ∧ some k_ ≠ (v134 : Value).ownBlock) (fun _ => False) rfl rfl ?aP (fun _ hk => hk.elim) ?aF ?aO ?aB ?aS ?aL ?_; (case aP => exact rfl); (case aB => exact (bU1 HB.out GE101.out)); (case aF => exact (fun k_ hk => ⟨Kd.fresh' (Kd.R_lt (rU HO_8.out)) k_ hk, Kd.fresh' (Kd.R_lt (rU HO123.out)) k_ hk, Kd.fresh' (Kd.R_lt (rU HO127.out)) k_ hk, Kd.fresh' (Kd.R_lt (rU HO130.out)) k_ hk, Kd.fresh' (Kd.R_lt (rU HO135.out)) k_ hk⟩)); (case aO => exact (by (with_reducible repeat (first | apply Kd.R_alloc | apply Kd.R_drewN | apply Kd.R_drew)); exact Kd.R_mono HO_11.out (fun _ hk => ⟨hk.1.1, ⟨hk.1.2.1, ⟨hk.1.2.2.1, ⟨hk.1.2.2.2, hk.2⟩⟩⟩⟩))); (case aS => exact (below_size (bU1 HB.out GE101.out))); (case aL => have := LMc35.out; omega); intro v137 w44 ho hb hg hat; rw [← Ny136.out] at ho; have n0 := Az (Kd.R_after (ok := (fun k_ => some k_ ≠ (v122 : Value).ownBlock ∧ some k_ ≠ (v126 : Value).ownBlock ∧ some k_ ≠ (v129 : Value).ownBlock ∧ some k_ ≠ (v134 : Value).ownBlock)) (by (with_reducible repeat (first | apply Kd.R_alloc | apply Kd.R_drewN | apply Kd.R_drew)); exact Kd.R_mono HO_8.out (fun _ hk => ⟨⟨hk.1.2.1, ⟨hk.1.2.2.1, ⟨hk.1.2.2.2, hk.2⟩⟩⟩, hk.1.1⟩)) hg hat); have n1 := Az (blk_grown (g := gb101) (o := .cells #[.string a0_0, .slice (some ad132) l0_1.length c0_1] 25 (0, 0)) (kU BK101.out) hg (Kd.R_ne HO_11.out BK101.out (by decide))); have n2 := Az (Kd.R_after (ok := (fun k_ => some k_ ≠ (v109 : Value).ownBlock ∧ some k_ ≠ (v126 : Value).ownBlock ∧ some k_ ≠ (v129 : Value).ownBlock ∧ some k_ ≠ (v134 : Value).ownBlock)) (by (with_reducible repeat (first | apply Kd.R_alloc | apply Kd.R_drewN | apply Kd.R_drew)); exact Kd.R_mono HO123.out (fun _ hk => ⟨⟨hk.1.1, ⟨hk.1.2.2.1, ⟨hk.1.2.2.2, hk.2⟩⟩⟩, hk.1.2.1⟩)) hg hat); have n3 := Az (Kd.R_after (ok := (fun k_ => some k_ ≠ (v109 : Value).ownBlock ∧ some k_ ≠ (v122 : Value).ownBlock ∧ some k_ ≠ (v129 : Value).ownBlock ∧ some k_ ≠ (v134 : Value).ownBlock)) (by (with_reducible repeat (first | apply Kd.R_alloc | apply Kd.R_drewN | apply Kd.R_drew)); exact Kd.R_mono HO127.out (fun _ hk => ⟨⟨hk.1.1, ⟨hk.1.2.2.1, ⟨hk.1.2.2.2, hk.2⟩⟩⟩, hk.1.2.1⟩)) hg hat); have n4 := Az (Kd.R_after (ok := (fun k_ => some k_ ≠ (v109 : Value).ownBlock ∧ some k_ ≠ (v122 : Value).ownBlock ∧ some k_ ≠ (v126 : Value).ownBlock ∧ some k_ ≠ (v134 : Value).ownBlock)) (by (with_reducible repeat (first | apply Kd.R_alloc | apply Kd.R_drewN | apply Kd.R_drew)); exact Kd.R_mono HO130.out (fun _ hk => ⟨⟨hk.1.1, ⟨hk.1.2.2.1, ⟨hk.1.2.2.2, hk.2⟩⟩⟩, hk.1.2.1⟩)) hg hat); have n5 := Az (Kd.R_after (ok := (fun k_ => some k_ ≠ (v109 : Value).ownBlock ∧ some k_ ≠ (v122 : Value).ownBlock ∧ some k_ ≠ (v126 : Value).ownBlock ∧ some k_ ≠ (v129 : Value).ownBlock)) (by (with_reducible repeat (first | apply Kd.R_alloc | apply Kd.R_drewN | apply Kd.R_drew)); exact Kd.R_mono HO135.out (fun _ hk => ⟨⟨hk.1, ⟨hk.2.2.1, ⟨hk.2.2.2.1, hk.2.2.2.2⟩⟩⟩, hk.2.1⟩)) hg hat); have n6 := Az (hb); have n7 := Az (ho); clear HO_8 BK101 HO123 HO127 HO130 HO135 HB HO_11; have HO_8 := n0; have BK101 := n1; have HO123 := n2; have HO127 := n3; have HO130 := n4; have HO135 := n5; have HB := n6; have HO138 := n7; clear n0 n1 n2 n3 n4 n5 n6 n7; clear ho hb hg hat))
                   (first | go_roundg k1 | (refine Handed.intro k1 ?measure ?_; rotate_left; go_step; (try simp only [add_plain]); (repeat apply Exists.intro); refine ⟨?rel, rfl⟩))
                   case measure => have := HK1.out; omega
                   case rel => exact ⟨(y121), (y125), (x8_1), (y128), (y133), (y136), (wrap64 (x12_1 + 1)), (wrap64 (x27_1 + 1)), rS, rS, H', ⟨by have := HK1.out; omega⟩, ⟨by (with_reducible repeat (first | apply Kd.R_alloc | apply Kd.R_drewN | apply Kd.R_drew)); exact Kd.R_mono HO123.out (fun _ hk => ⟨hk.1.2.1, ⟨hk.1.1, ⟨hk.1.2.2.1, ⟨hk.1.2.2.2, hk.2⟩⟩⟩⟩)⟩, ⟨by (with_reducible repeat (first | apply Kd.R_alloc | apply Kd.R_drewN | apply Kd.R_drew)); exact Kd.R_mono HO127.out (fun _ hk => ⟨hk.1.2.1, ⟨hk.1.1, ⟨hk.1.2.2.1, ⟨hk.1.2.2.2, hk.2⟩⟩⟩⟩)⟩, ⟨by (with_reducible repeat (first | apply Kd.R_alloc | apply Kd.R_drewN | apply Kd.R_drew)); exact Kd.R_mono HO_8.out (fun _ hk => ⟨hk.1.1, ⟨hk.1.2.1, ⟨hk.1.2.2.1, ⟨hk.1.2.2.2, hk.2⟩⟩⟩⟩)⟩, ⟨by (with_reducible repeat (first | apply Kd.R_alloc | apply Kd.R_drewN | apply Kd.R_drew)); exact Kd.R_mono HO130.out (fun _ hk => ⟨hk.1.2.1, ⟨hk.1.2.2.1, ⟨hk.1.1, ⟨hk.1.2.2.2, hk.2⟩⟩⟩⟩)⟩, ⟨by (with_reducible repeat (first | apply Kd.R_alloc | apply Kd.R_drewN | apply Kd.R_drew)); exact Kd.R_mono HO135.out (fun _ hk => ⟨hk.1.2.1, ⟨hk.1.2.2.1, ⟨hk.1.1, ⟨hk.1.2.2.2, hk.2⟩⟩⟩⟩)⟩, ⟨by (with_reducible repeat (first | apply Kd.R_alloc | apply Kd.R_drewN | apply Kd.R_drew)); exact Kd.R_mono HO138.out (fun _ hk => ⟨hk.2.1, ⟨hk.2.2.1, ⟨hk.1, ⟨hk.2.2.2.1, hk.2.2.2.2⟩⟩⟩⟩)⟩, ⟨kU BK101.out⟩, ⟨bU1 HB.out GE101.out⟩⟩
                  ·
                   rw [if_neg c35] at H
                   exact absurd H (by simp)
                 ·
                  rw [if_neg c34] at H
                  exact absurd H (by simp)
                ·
                 rw [if_neg c33] at H
                 exact absurd H (by simp)
               ·
                rw [if_neg c32] at H
                exact absurd H (by simp)
              ·
               rw [if_neg c31] at H
               exact absurd H (by simp)
             ·
              rw [if_neg c30] at H; have c30b0 := beq_eq_false_iff_ne.mpr c30; have c30b1 := bne_iff_ne.mpr c30
              by_cases c45 : (ji21) ≤ (x9_1.length : Int)
              ·
               rw [if_pos c45] at H; have c45b0 := eq_true c45; have c45b1 := decide_eq_true c45; clear c45; obtain ⟨y139, hy139⟩ : ∃ y_ : List Int, y_ = (x9_1.take ((ji21) : Int).toNat) := ⟨_, rfl⟩; replace H : (if (ji21) ≤ (x10_1.length : Int) then (if 0 ≤ (wrap64 ((x11_1.length : Int) - 1)) then (if (wrap64 ((x11_1.length : Int) - 1)) < (x11_1.length : Int) then (if (wrap64 ((x11_1.length : Int) - 1)) ≤ (x11_1.length : Int) then (if x27_1 < (x8_1.length : Int) then (if 0 ≤ (rd x11_1 (wrap64 ((x11_1.length : Int) - 1))) then (if (rd x11_1 (wrap64 ((x11_1.length : Int) - 1))) < (x8_1.length : Int) then (impl_walked.l0 k1 y121 y125 ((x8_1.set (x27_1 : Int).toNat (rd x11_1 (wrap64 ((x11_1.length : Int) - 1)))).set ((rd x11_1 (wrap64 ((x11_1.length : Int) - 1))) : Int).toNat x27_1) y139 (x10_1.take ((ji21) : Int).toNat) (x11_1.take ((wrap64 ((x11_1.length : Int) - 1)) : Int).toNat) x12_1 (a0_0.size : Int) (wrap64 (x27_1 + 1)) a0_0 l0_1) else (none)) else (none)) else (none)) else (none)) else (none)) else (none)) else (none)) = some (r1, r2, r3) := hR hy139 H; have Ny139 := Az hy139; clear hy139
               by_cases c46 : (ji21) ≤ (x10_1.length : Int)
               ·
                rw [if_pos c46] at H; have c46b0 := eq_true c46; have c46b1 := decide_eq_true c46; clear c46; obtain ⟨y142, hy142⟩ : ∃ y_ : List Int, y_ = (x10_1.take ((ji21) : Int).toNat) := ⟨_, rfl⟩; replace H : (if 0 ≤ (wrap64 ((x11_1.length : Int) - 1)) then (if (wrap64 ((x11_1.length : Int) - 1)) < (x11_1.length : Int) then (if (wrap64 ((x11_1.length : Int) - 1)) ≤ (x11_1.length : Int) then (if x27_1 < (x8_1.length : Int) then (if 0 ≤ (rd x11_1 (wrap64 ((x11_1.length : Int) - 1))) then (if (rd x11_1 (wrap64 ((x11_1.length : Int) - 1))) < (x8_1.length : Int) then (impl_walked.l0 k1 y121 y125 ((x8_1.set (x27_1 : Int).toNat (rd x11_1 (wrap64 ((x11_1.length : Int) - 1)))).set ((rd x11_1 (wrap64 ((x11_1.length : Int) - 1))) : Int).toNat x27_1) y139 y142 (x11_1.take ((wrap64 ((x11_1.length : Int) - 1)) : Int).toNat) x12_1 (a0_0.size : Int) (wrap64 (x27_1 + 1)) a0_0 l0_1) else (none)) else (none)) else (none)) else (none)) else (none)) else (none)) = some (r1, r2, r3) := hR hy142 H; have Ny142 := Az hy142; clear hy142; obtain ⟨ji47, hji47⟩ : ∃ j_ : Int, (wrap64 ((x11_1.length : Int) - 1)) = j_ := ⟨_, rfl⟩
                replace H : (if 0 ≤ (ji47) then (if (ji47) < (x11_1.length : Int) then (if (ji47) ≤ (x11_1.length : Int) then (if x27_1 < (x8_1.length : Int) then (if 0 ≤ (rd x11_1 (ji47)) then (if (rd x11_1 (ji47)) < (x8_1.length : Int) then (impl_walked.l0 k1 y121 y125 ((x8_1.set (x27_1 : Int).toNat (rd x11_1 (ji47))).set ((rd x11_1 (ji47)) : Int).toNat x27_1) y139 y142 (x11_1.take ((ji47) : Int).toNat) x12_1 (a0_0.size : Int) (wrap64 (x27_1 + 1)) a0_0 l0_1) else (none)) else (none)) else (none)) else (none)) else (none)) else (none)) = some (r1, r2, r3) := by first | (rw [hji47] at H; exact H) | (simp only [hji47] at H ⊢; exact H)
                have hji47w : (IntKind.i64.wrap ((x11_1.length : Int) - 1)) = ji47 := (i64_w _).trans hji47
                by_cases c48 : 0 ≤ (ji47)
                ·
                 rw [if_pos c48] at H; have c48b0 := decide_eq_true c48; clear c48
                 by_cases c49 : (ji47) < (x11_1.length : Int)
                 ·
                  rw [if_pos c49] at H; have c49b0 := decide_eq_true c49; clear c49
                  by_cases c50 : (ji47) ≤ (x11_1.length : Int)
                  ·
                   rw [if_pos c50] at H; have c50b0 := eq_true c50; have c50b1 := decide_eq_true c50; clear c50; obtain ⟨y146, hy146⟩ : ∃ y_ : List Int, y_ = (x11_1.take ((ji47) : Int).toNat) := ⟨_, rfl⟩; replace H : (if x27_1 < (x8_1.length : Int) then (if 0 ≤ (rd x11_1 (ji47)) then (if (rd x11_1 (ji47)) < (x8_1.length : Int) then (impl_walked.l0 k1 y121 y125 ((x8_1.set (x27_1 : Int).toNat (rd x11_1 (ji47))).set ((rd x11_1 (ji47)) : Int).toNat x27_1) y139 y142 y146 x12_1 (a0_0.size : Int) (wrap64 (x27_1 + 1)) a0_0 l0_1) else (none)) else (none)) else (none)) = some (r1, r2, r3) := hR hy146 H; have Ny146 := Az hy146; clear hy146
                   by_cases c51 : x27_1 < (x8_1.length : Int)
                   ·
                    rw [if_pos c51] at H; have c51b0 := decide_eq_true c51; clear c51; obtain ⟨y149, hy149⟩ : ∃ y_ : List Int, y_ = (x8_1.set (x27_1 : Int).toNat (rd x11_1 (ji47))) := ⟨_, rfl⟩; replace H : (if 0 ≤ (rd x11_1 (ji47)) then (if (rd x11_1 (ji47)) < (x8_1.length : Int) then (impl_walked.l0 k1 y121 y125 (y149.set ((rd x11_1 (ji47)) : Int).toNat x27_1) y139 y142 y146 x12_1 (a0_0.size : Int) (wrap64 (x27_1 + 1)) a0_0 l0_1) else (none)) else (none)) = some (r1, r2, r3) := hR hy149 H; have Ny149 := Az hy149; clear hy149
                    by_cases c53 : 0 ≤ (rd x11_1 (ji47))
                    ·
                     rw [if_pos c53] at H; have c53b0 := decide_eq_true c53; clear c53
                     by_cases c54 : (rd x11_1 (ji47)) < (x8_1.length : Int)
                     ·
                      rw [if_pos c54] at H; have c54b0 := decide_eq_true c54; clear c54; obtain ⟨y150, hy150⟩ : ∃ y_ : List Int, y_ = (y149.set ((rd x11_1 (ji47)) : Int).toNat x27_1) := ⟨_, rfl⟩; replace H : (impl_walked.l0 k1 y121 y125 y150 y139 y142 y146 x12_1 (a0_0.size : Int) (wrap64 (x27_1 + 1)) a0_0 l0_1) = some (r1, r2, r3) := hR hy150 H; have Ny150 := Az hy150; clear hy150; have H' := Az H; clear H; obtain ⟨Ao56, co56, eo56⟩ := Kd.R_slice HO_9.out; subst eo56; have p120 : 0 ≤ ((ji21) : Int) := oA; have q120 : (ji21) < (x9_1.length : Int) := oA; obtain ⟨ad120, e120, hx120_0⟩ := Kd.at_int (Kd.R_reads' HO_9.out).2.2 (ji21) p120 q120
                      cases e120
                      replace p120 := eq_true p120; replace q120 := eq_true q120
                      try go_wp2_with (first | ((with_reducible refine gate_builtin (b := .append) (xs := #[.tmp 33, .tmp 38]) rfl ?_); at_builtin; refine Kd.R_append (Kd.int .i64) (w0 := w) w.heap.size rfl (.tmp 33) (.tmp 38) 23 3 (.int .i64 0) 8 rfl Try.underlying23 info3 rfl (by decide) (by omega) u6 x6_1 (rd x9_1 (ji21)) [.int .i64 (rd x9_1 (ji21))] (fun k_ => some k_ ≠ (u7 : Value).ownBlock ∧ some k_ ≠ (v109 : Value).ownBlock ∧ some k_ ≠ (.slice (some ad120) x9_1.length co56 : Value).ownBlock ∧ some k_ ≠ (u10 : Value).ownBlock ∧ some k_ ≠ (u11 : Value).ownBlock) (fun _ => False) rfl rfl ?aP (fun _ hk => hk.elim) ?aF ?aO ?aB ?aS ?aL ?_; (case aP => exact rfl); (case aB => exact (bU1 HB.out GE101.out)); (case aF => exact (fun k_ hk => ⟨Kd.fresh' (Kd.R_lt (rU HO_7.out)) k_ hk, Kd.fresh' (Kd.R_lt (rU HO_8.out)) k_ hk, Kd.fresh' (Kd.R_lt (rU HO_9.out)) k_ hk, Kd.fresh' (Kd.R_lt (rU HO_10.out)) k_ hk, Kd.fresh' (Kd.R_lt (rU HO_11.out)) k_ hk⟩)); (case aO => exact (rU HO_6.out)); (case aS => exact (below_size (bU1 HB.out GE101.out))); (case aL => have := LMc24.out; omega); intro v122 w57 ho hb hg hat; rw [← Ny121.out] at ho; have n0 := Az (Kd.R_after (ok := (fun k_ => some k_ ≠ (v109 : Value).ownBlock ∧ some k_ ≠ (.slice (some ad120) x9_1.length co56 : Value).ownBlock ∧ some k_ ≠ (u10 : Value).ownBlock ∧ some k_ ≠ (u11 : Value).ownBlock)) (by (with_reducible repeat (first | apply Kd.R_alloc | apply Kd.R_drewN | apply Kd.R_drew)); exact Kd.R_mono HO_7.out (fun _ hk => ⟨⟨hk.2.1, ⟨hk.2.2.1, ⟨hk.2.2.2.1, hk.2.2.2.2⟩⟩⟩, hk.1⟩)) hg hat); have n1 := Az (Kd.R_after (ok := (fun k_ => some k_ ≠ (u7 : Value).ownBlock ∧ some k_ ≠ (.slice (some ad120) x9_1.length co56 : Value).ownBlock ∧ some k_ ≠ (u10 : Value).ownBlock ∧ some k_ ≠ (u11 : Value).ownBlock)) (by (with_reducible repeat (first | apply Kd.R_alloc | apply Kd.R_drewN | apply Kd.R_drew)); exact Kd.R_mono HO_8.out (fun _ hk => ⟨⟨hk.2.1, ⟨hk.2.2.1, ⟨hk.2.2.2.1, hk.2.2.2.2⟩⟩⟩, hk.1⟩)) hg hat); have n2 := Az (Kd.R_after (ok := (fun k_ => some k_ ≠ (u7 : Value).ownBlock ∧ some k_ ≠ (v109 : Value).ownBlock ∧ some k_ ≠ (u10 : Value).ownBlock ∧ some k_ ≠ (u11 : Value).ownBlock)) (by (with_reducible repeat (first | apply Kd.R_alloc | apply Kd.R_drewN | apply Kd.R_drew)); exact Kd.R_mono HO_9.out (fun _ hk => ⟨⟨hk.2.1, ⟨hk.2.2.1, ⟨hk.2.2.2.1, hk.2.2.2.2⟩⟩⟩, hk.1⟩)) hg hat); have n3 := Az (Kd.R_after (ok := (fun k_ => some k_ ≠ (u7 : Value).ownBlock ∧ some k_ ≠ (v109 : Value).ownBlock ∧ some k_ ≠ (.slice (some ad120) x9_1.length co56 : Value).ownBlock ∧ some k_ ≠ (u11 : Value).ownBlock)) (by (with_reducible repeat (first | apply Kd.R_alloc | apply Kd.R_drewN | apply Kd.R_drew)); exact Kd.R_mono HO_10.out (fun _ hk => ⟨⟨hk.2.1, ⟨hk.2.2.1, ⟨hk.2.2.2.1, hk.2.2.2.2⟩⟩⟩, hk.1⟩)) hg hat); have n4 := Az (Kd.R_after (ok := (fun k_ => some k_ ≠ (u7 : Value).ownBlock ∧ some k_ ≠ (v109 : Value).ownBlock ∧ some k_ ≠ (.slice (some ad120) x9_1.length co56 : Value).ownBlock ∧ some k_ ≠ (u10 : Value).ownBlock)) (by (with_reducible repeat (first | apply Kd.R_alloc | apply Kd.R_drewN | apply Kd.R_drew)); exact Kd.R_mono HO_11.out (fun _ hk => ⟨⟨hk.2.1, ⟨hk.2.2.1, ⟨hk.2.2.2.1, hk.2.2.2.2⟩⟩⟩, hk.1⟩)) hg hat); have n5 := Az (blk_grown (g := gb101) (o := .cells #[.string a0_0, .slice A0_1 l0_1.length c0_1] 25 (0, 0)) (kU BK101.out) hg (Kd.R_ne HO_6.out BK101.out (by decide))); have n6 := Az (hb); have n7 := Az (ho); clear HO_7 HO_8 HO_9 HO_10 HO_11 BK101 HB HO_6; have HO_7 := n0; have HO_8 := n1; have HO_9 := n2; have HO_10 := n3; have HO_11 := n4; have BK101 := n5; have HB := n6; have HO123 := n7; clear n0 n1 n2 n3 n4 n5 n6 n7 ho hb hg hat; obtain ⟨Ao58, co58, eo58⟩ := Kd.R_slice HO_10.out; subst eo58; have p124 : 0 ≤ ((ji21) : Int) := oA; have q124 : (ji21) < (x10_1.length : Int) := oA; obtain ⟨ad124, e124, hx124_0⟩ := Kd.at_int (Kd.R_reads' HO_10.out).2.2 (ji21) p124 q124; cases e124; replace p124 := eq_true p124; replace q124 := eq_true q124) | ((with_reducible refine gate_builtin (b := .append) (xs := #[.tmp 40, .tmp 45]) rfl ?_); at_builtin; refine Kd.R_append (Kd.int .i64) (w0 := w) w.heap.size rfl (.tmp 40) (.tmp 45) 23 3 (.int .i64 0) 8 rfl Try.underlying23 info3 rfl (by decide) (by omega) u7 x7_1 (rd x10_1 (ji21)) [.int .i64 (rd x10_1 (ji21))] (fun k_ => some k_ ≠ (v109 : Value).ownBlock ∧ some k_ ≠ (.slice (some ad120) x9_1.length co56 : Value).ownBlock ∧ some k_ ≠ (.slice (some ad124) x10_1.length co58 : Value).ownBlock ∧ some k_ ≠ (u11 : Value).ownBlock ∧ some k_ ≠ (v122 : Value).ownBlock) (fun _ => False) rfl rfl ?aP (fun _ hk => hk.elim) ?aF ?aO ?aB ?aS ?aL ?_; (case aP => exact rfl); (case aB => exact (bU1 HB.out GE101.out)); (case aF => exact (fun k_ hk => ⟨Kd.fresh' (Kd.R_lt (rU HO_8.out)) k_ hk, Kd.fresh' (Kd.R_lt (rU HO_9.out)) k_ hk, Kd.fresh' (Kd.R_lt (rU HO_10.out)) k_ hk, Kd.fresh' (Kd.R_lt (rU HO_11.out)) k_ hk, Kd.fresh' (Kd.R_lt (rU HO123.out)) k_ hk⟩)); (case aO => exact (by (with_reducible repeat (first | apply Kd.R_alloc | apply Kd.R_drewN | apply Kd.R_drew)); exact Kd.R_mono HO_7.out (fun _ hk => ⟨hk.1.1, ⟨hk.1.2.1, ⟨hk.1.2.2.1, ⟨hk.1.2.2.2, hk.2⟩⟩⟩⟩))); (case aS => exact (below_size (bU1 HB.out GE101.out))); (case aL => have := LMc26.out; omega); intro v126 w59 ho hb hg hat; rw [← Ny125.out] at ho; have n0 := Az (Kd.R_after (ok := (fun k_ => some k_ ≠ (.slice (some ad120) x9_1.length co56 : Value).ownBlock ∧ some k_ ≠ (.slice (some ad124) x10_1.length co58 : Value).ownBlock ∧ some k_ ≠ (u11 : Value).ownBlock ∧ some k_ ≠ (v122 : Value).ownBlock)) (by (with_reducible repeat (first | apply Kd.R_alloc | apply Kd.R_drewN | apply Kd.R_drew)); exact Kd.R_mono HO_8.out (fun _ hk => ⟨⟨hk.1.2.1, ⟨hk.1.2.2.1, ⟨hk.1.2.2.2, hk.2⟩⟩⟩, hk.1.1⟩)) hg hat); have n1 := Az (Kd.R_after (ok := (fun k_ => some k_ ≠ (v109 : Value).ownBlock ∧ some k_ ≠ (.slice (some ad124) x10_1.length co58 : Value).ownBlock ∧ some k_ ≠ (u11 : Value).ownBlock ∧ some k_ ≠ (v122 : Value).ownBlock)) (by (with_reducible repeat (first | apply Kd.R_alloc | apply Kd.R_drewN | apply Kd.R_drew)); exact Kd.R_mono HO_9.out (fun _ hk => ⟨⟨hk.1.2.1, ⟨hk.1.2.2.1, ⟨hk.1.2.2.2, hk.2⟩⟩⟩, hk.1.1⟩)) hg hat); have n2 := Az (Kd.R_after (ok := (fun k_ => some k_ ≠ (v109 : Value).ownBlock ∧ some k_ ≠ (.slice (some ad120) x9_1.length co56 : Value).ownBlock ∧ some k_ ≠ (u11 : Value).ownBlock ∧ some k_ ≠ (v122 : Value).ownBlock)) (by (with_reducible repeat (first | apply Kd.R_alloc | apply Kd.R_drewN | apply Kd.R_drew)); exact Kd.R_mono HO_10.out (fun _ hk => ⟨⟨hk.1.2.1, ⟨hk.1.2.2.1, ⟨hk.1.2.2.2, hk.2⟩⟩⟩, hk.1.1⟩)) hg hat); have n3 := Az (Kd.R_after (ok := (fun k_ => some k_ ≠ (v109 : Value).ownBlock ∧ some k_ ≠ (.slice (some ad120) x9_1.length co56 : Value).ownBlock ∧ some k_ ≠ (.slice (some ad124) x10_1.length co58 : Value).ownBlock ∧ some k_ ≠ (v122 : Value).ownBlock)) (by (with_reducible repeat (first | apply Kd.R_alloc | apply Kd.R_drewN | apply Kd.R_drew)); exact Kd.R_mono HO_11.out (fun _ hk => ⟨⟨hk.1.2.1, ⟨hk.1.2.2.1, ⟨hk.1.2.2.2, hk.2⟩⟩⟩, hk.1.1⟩)) hg hat); have n4 := Az (blk_grown (g := gb101) (o := .cells #[.string a0_0, .slice A0_1 l0_1.length c0_1] 25 (0, 0)) (kU BK101.out) hg (Kd.R_ne HO_7.out BK101.out (by decide))); have n5 := Az (Kd.R_after (ok := (fun k_ => some k_ ≠ (v109 : Value).ownBlock ∧ some k_ ≠ (.slice (some ad120) x9_1.length co56 : Value).ownBlock ∧ some k_ ≠ (.slice (some ad124) x10_1.length co58 : Value).ownBlock ∧ some k_ ≠ (u11 : Value).ownBlock)) (by (with_reducible repeat (first | apply Kd.R_alloc | apply Kd.R_drewN | apply Kd.R_drew)); exact Kd.R_mono HO123.out (fun _ hk => ⟨⟨hk.2.1, ⟨hk.2.2.1, ⟨hk.2.2.2.1, hk.2.2.2.2⟩⟩⟩, hk.1⟩)) hg hat); have n6 := Az (hb); have n7 := Az (ho); clear HO_8 HO_9 HO_10 HO_11 BK101 HO123 HB HO_7; have HO_8 := n0; have HO_9 := n1; have HO_10 := n2; have HO_11 := n3; have BK101 := n4; have HO123 := n5; have HB := n6; have HO127 := n7; clear n0 n1 n2 n3 n4 n5 n6 n7 ho hb hg hat; have hcz60_0 : w59.cell? ⟨gb101, 0, none⟩ = some (.string a0_0) := (blk_cell BK101.out 0).trans rfl; have hcz60_1 : w59.cell? ⟨gb101, 1, none⟩ = some (.slice A0_1 l0_1.length c0_1) := (blk_cell BK101.out 1).trans rfl; have hfz60_0 := blk_frozen BK101.out 0; have hfz60_1 := blk_frozen BK101.out 1; have p29 : 0 ≤ (x27_1 : Int) := oA; have q29 : x27_1 < (a0_0.size : Int) := oA; have hx29 := bt_at a0_0 x27_1; replace p29 := eq_true p29; replace q29 := eq_true q29))
                      have n0 := Az (Kd.R_drew HO_8.out); have n1 := Az (Kd.R_drew HO_9.out); have n2 := Az (Kd.R_drew HO_10.out); have n3 := Az (Kd.R_drew HO_11.out); have n4 := Az (Kd.R_drew HO123.out); have n5 := Az (Kd.R_drew HO127.out); have n6 := Az (blk_drew BK101.out); have n7 := Az (below_drew1 HB.out); clear HO_8 HO_9 HO_10 HO_11 HO123 HO127 BK101 HB; have HO_8 := n0; have HO_9 := n1; have HO_10 := n2; have HO_11 := n3; have HO123 := n4; have HO127 := n5; have BK101 := n6; have HB := n7; clear n0 n1 n2 n3 n4 n5 n6 n7; have q62 : ((ji21) : Int) ≤ ((x9_1.length : Int) : Int) := oA; obtain ⟨i062, hi062, _, hsz62, _⟩ := info_parts info3; have hcut62 := cut_to (P := Try.prog) 23 3 .i64 Try.underlying23 hi062 (some ad120) x9_1.length co56 (ji21) (oA) q62 (Kd.R_reads' HO_9.out).2.1; have hr62 := Kd.R_take (m := ((ji21) : Int).toNat) HO_9.out (by omega); have hy62 : y139.length = ((ji21) : Int).toNat := (by rw [Ny139.out, List.length_take]; omega); rw [← Ny139.out] at hr62; rw [← hy62] at hr62 hcut62; clear hy62 hi062 hsz62 HO_9; have HO141 := Az hr62; clear hr62; replace q62 := eq_true q62; have q63 : ((ji21) : Int) ≤ ((x10_1.length : Int) : Int) := oA; obtain ⟨i063, hi063, _, hsz63, _⟩ := info_parts info3; have hcut63 := cut_to (P := Try.prog) 23 3 .i64 Try.underlying23 hi063 (some ad124) x10_1.length co58 (ji21) (oA) q63 (Kd.R_reads' HO_10.out).2.1; have hr63 := Kd.R_take (m := ((ji21) : Int).toNat) HO_10.out (by omega); have hy63 : y142.length = ((ji21) : Int).toNat := (by rw [Ny142.out, List.length_take]; omega); rw [← Ny142.out] at hr63; rw [← hy63] at hr63 hcut63; clear hy63 hi063 hsz63 HO_10; have HO144 := Az hr63; clear hr63; replace q63 := eq_true q63
                      refine start_ (n := 8) (S := fun w' => True) (ds := []) #[false, false, false, false, false, false, false, false] (by kernel_rfl) rfl rfl trivial (fun hHeld => ?_); refine with_tabW impl_walked.tab16 impl_walked.bits16 (fun HT_ HW_ => ?_)
                      generalize w59.drew = w61 at HO_8 HO_11 HO123 HO127 BK101 HB HO141 HO144 hHeld ⊢
                      refine pure_ (i := 0) (N := some 76) (v := ?_) (a' := ?_) #[true, false, false, false, false, false, false, false] rfl rfl (any_of HT_.out (by kernel_rfl)) (fun _ _ _ h => h) (Or.inl ⟨by rfl, ?_⟩) ?_ ?_
                      rotate_left
                      ·
                       intro w'
                       go_simp
                       with_reducible rfl
                      rotate_left
                      ·
                       simp only [Act.put, List.setIfInBounds_toArray, List.set_cons_zero, List.set_cons_succ, i64_w, i32_w]
                       rfl
                      refine pure_ (i := 1) (N := some 77) (v := ?_) (a' := ?_) #[true, true, false, false, false, false, false, false] rfl rfl (any_of HT_.out (by kernel_rfl)) (fun _ _ _ h => h) (Or.inl ⟨by rfl, ?_⟩) ?_ ?_
                      rotate_left
                      ·
                       intro w'
                       go_simp
                       with_reducible rfl
                      rotate_left
                      ·
                       simp only [Act.put, List.setIfInBounds_toArray, List.set_cons_zero, List.set_cons_succ, i64_w, i32_w]
                       rfl
                      refine pure_ (i := 2) (N := some 78) (v := ?_) (a' := ?_) #[true, true, true, false, false, false, false, false] rfl rfl (any_of HT_.out (by kernel_rfl)) (fun _ _ _ h => h) (Or.inl ⟨by rfl, ?_⟩) ?_ ?_
                      rotate_left
                      ·
                       intro w'
                       go_simp
                       with_reducible rfl
                      rotate_left
                      ·
                       simp only [Act.put, List.setIfInBounds_toArray, List.set_cons_zero, List.set_cons_succ, i64_w, i32_w]
                       rfl
                      refine pure_ (i := 3) (N := some 79) (v := ?_) (a' := ?_) #[true, true, true, true, false, false, false, false] rfl rfl (any_of HT_.out (by kernel_rfl)) (fun _ _ _ h => h) (Or.inl ⟨by rfl, ?_⟩) ?_ ?_
                      rotate_left
                      ·
                       intro w'
                       go_simp
                       with_reducible rfl
                      rotate_left
                      ·
                       simp only [Act.put, List.setIfInBounds_toArray, List.set_cons_zero, List.set_cons_succ, i64_w, i32_w]
                       rfl
                      refine pure_ (i := 4) (N := some 80) (v := ?_) (a' := ?_) #[true, true, true, true, true, false, false, false] rfl rfl (any_of HT_.out (by kernel_rfl)) (fun _ _ _ h => h) (Or.inl ⟨by rfl, ?_⟩) ?_ ?_
                      rotate_left
                      ·
                       intro w'
                       go_simp
                       with_reducible rfl
                      rotate_left
                      ·
                       simp only [Act.put, List.setIfInBounds_toArray, List.set_cons_zero, List.set_cons_succ, i64_w, i32_w]
                       rfl
                      refine pure_ (i := 5) (N := some 81) (v := ?_) (a' := ?_) #[true, true, true, true, true, true, false, false] rfl rfl (any_of HT_.out (by kernel_rfl)) (fun _ _ _ h => h) (Or.inl ⟨by rfl, ?_⟩) ?_ ?_
                      rotate_left
                      ·
                       intro w'
                       go_simp
                       with_reducible rfl
                      rotate_left
                      ·
                       simp only [Act.put, List.setIfInBounds_toArray, List.set_cons_zero, List.set_cons_succ, i64_w, i32_w]
                       rfl
                      refine pure_ (i := 6) (N := some 9) (v := ?_) (a' := ?_) #[true, true, true, true, true, true, true, false] rfl rfl (any_of HT_.out (by kernel_rfl)) (fun _ _ _ h => h) (Or.inl ⟨by rfl, ?_⟩) ?_ ?_
                      rotate_left
                      ·
                       intro w'
                       go_simp
                       with_reducible rfl
                      rotate_left
                      ·
                       simp only [Act.put, List.setIfInBounds_toArray, List.set_cons_zero, List.set_cons_succ, i64_w, i32_w]
                       rfl
                      refine pure_ (i := 7) (N := some 10) (v := ?_) (a' := ?_) #[true, true, true, true, true, true, true, true] rfl rfl (any_of HT_.out (by kernel_rfl)) (fun _ _ _ h => h) (Or.inl ⟨by rfl, ?_⟩) ?_ ?_
                      rotate_left
                      ·
                       intro w'
                       go_simp
                       with_reducible rfl
                      rotate_left
                      ·
                       simp only [Act.put, List.setIfInBounds_toArray, List.set_cons_zero, List.set_cons_succ, i64_w, i32_w]
                       rfl
                      refine done_ (done_of HT_.out (by kernel_rfl)) ?_
                      obtain ⟨Ao64, co64, eo64⟩ := Kd.R_slice HO_11.out; subst eo64; have p145 : 0 ≤ ((ji47) : Int) := oA; have q145 : (ji47) < (x11_1.length : Int) := oA; obtain ⟨ad145, e145, hx145_0⟩ := Kd.at_int (Kd.R_reads' HO_11.out).2.2 (ji47) p145 q145
                      cases e145
                      replace p145 := eq_true p145; replace q145 := eq_true q145; have q65 : ((ji47) : Int) ≤ ((x11_1.length : Int) : Int) := oA; obtain ⟨i065, hi065, _, hsz65, _⟩ := info_parts info3; have hcut65 := cut_to (P := Try.prog) 23 3 .i64 Try.underlying23 hi065 (some ad145) x11_1.length co64 (ji47) (oA) q65 (Kd.R_reads' HO_11.out).2.1; have hr65 := Kd.R_take (m := ((ji47) : Int).toNat) HO_11.out (by omega); have hy65 : y146.length = ((ji47) : Int).toNat := (by rw [Ny146.out, List.length_take]; omega); rw [← Ny146.out] at hr65; rw [← hy65] at hr65 hcut65; clear hy65 hi065 hsz65 HO_11; have HO148 := Az hr65; clear hr65; replace q65 := eq_true q65; have p52 : 0 ≤ (x27_1 : Int) := oA; have q52 : (x27_1 : Int) < ((x8_1.length : Int) : Int) := oA; obtain ⟨go52, co52, eo52, gb52, gl52, cl52, HG52⟩ := Kd.R_form HO_8.out (by omega); (first | cases eo52 | (injection eo52 with ea_ en_ ec_; (first | subst ea_ | (injection ea_ with ea_; subst ea_)); subst ec_; clear en_)); have GB52 := Az gb52; have GG52 := Az HG52; clear gb52 gl52 HG52; obtain ⟨hx52_0, hf52_0⟩ := Kd.R_celln 0 HO_8.out (x27_1 : Int) p52 q52; replace p52 := eq_true p52; replace q52 := eq_true q52; have n_ := Az (Kd.R_mono (ok' := (fun k_ => some k_ ≠ (.slice (some ad120) y139.length co56 : Value).ownBlock ∧ some k_ ≠ (.slice (some ad124) y142.length co58 : Value).ownBlock ∧ some k_ ≠ (.slice (some ad145) y146.length co64 : Value).ownBlock ∧ some k_ ≠ (v122 : Value).ownBlock ∧ some k_ ≠ (v126 : Value).ownBlock)) HO_8.out (fun k_ hk => ⟨hk.1.1, ⟨hk.1.2.1, ⟨hk.1.2.2.1, ⟨hk.1.2.2.2, hk.2⟩⟩⟩⟩)); clear HO_8; have HO_8 := n_; clear n_; obtain ⟨hy66_, hz66_⟩ := Kd.R_celln 0 HO_8.out (x27_1 : Int) (oA) (oA); have HP66 := Kd.R_putg HO_8.out (x27_1 : Int) (rd x11_1 (ji47))
                      try go_wp2_with (first | ((with_reducible refine gate_store (t := 3) (p := 99) rfl ?_); refine store_event (t := 3) (p := 99) (v := ?vo_w67) (w1 := (w61.setCell ⟨go52, (x27_1 : Int).toNat, none⟩ (.int .i64 (rd x11_1 (ji47))))) ?hg ?ho ?hn ?hr ?_; (case ho => rfl); (case hg => rfl); (case hn => rfl); (case hr => first | (go_simp; done) | (go_simp; rfl)); intro w67 hw; have hg : w61.grownBy w67 (some go52) := (by rw [hw]; exact HP66.2); have hp_ : Kd.R (Kd.int .i64) 3 w67 w.heap.size (fun k_ => some k_ ≠ (.slice (some ad120) y139.length co56 : Value).ownBlock ∧ some k_ ≠ (.slice (some ad124) y142.length co58 : Value).ownBlock ∧ some k_ ≠ (.slice (some ad145) y146.length co64 : Value).ownBlock ∧ some k_ ≠ (v122 : Value).ownBlock ∧ some k_ ≠ (v126 : Value).ownBlock) (.slice (some ⟨go52, 0, none⟩) x8_1.length co52) y149 := (by rw [hw, Ny149.out]; exact HP66.1); clear HP66; have n0 := Az (hp_); have n1 := Az (Kd.R_after (v := (.slice (some ⟨go52, 0, none⟩) x8_1.length co52)) (v1 := (.slice (some ⟨go52, 0, none⟩) x8_1.length co52)) (ok := (fun k_ => some k_ ≠ (.slice (some ad124) y142.length co58 : Value).ownBlock ∧ some k_ ≠ (.slice (some ad145) y146.length co64 : Value).ownBlock ∧ some k_ ≠ (v122 : Value).ownBlock ∧ some k_ ≠ (v126 : Value).ownBlock)) (by (with_reducible repeat (first | apply Kd.R_alloc | apply Kd.R_drewN | apply Kd.R_drew)); exact Kd.R_mono HO141.out (fun _ hk => ⟨⟨hk.1.2.1, ⟨hk.1.2.2.1, ⟨hk.1.2.2.2, hk.2⟩⟩⟩, hk.1.1⟩)) hg (.inl rfl)); have n2 := Az (Kd.R_after (v := (.slice (some ⟨go52, 0, none⟩) x8_1.length co52)) (v1 := (.slice (some ⟨go52, 0, none⟩) x8_1.length co52)) (ok := (fun k_ => some k_ ≠ (.slice (some ad120) y139.length co56 : Value).ownBlock ∧ some k_ ≠ (.slice (some ad145) y146.length co64 : Value).ownBlock ∧ some k_ ≠ (v122 : Value).ownBlock ∧ some k_ ≠ (v126 : Value).ownBlock)) (by (with_reducible repeat (first | apply Kd.R_alloc | apply Kd.R_drewN | apply Kd.R_drew)); exact Kd.R_mono HO144.out (fun _ hk => ⟨⟨hk.1.2.1, ⟨hk.1.2.2.1, ⟨hk.1.2.2.2, hk.2⟩⟩⟩, hk.1.1⟩)) hg (.inl rfl)); have n3 := Az (Kd.R_after (v := (.slice (some ⟨go52, 0, none⟩) x8_1.length co52)) (v1 := (.slice (some ⟨go52, 0, none⟩) x8_1.length co52)) (ok := (fun k_ => some k_ ≠ (.slice (some ad120) y139.length co56 : Value).ownBlock ∧ some k_ ≠ (.slice (some ad124) y142.length co58 : Value).ownBlock ∧ some k_ ≠ (v122 : Value).ownBlock ∧ some k_ ≠ (v126 : Value).ownBlock)) (by (with_reducible repeat (first | apply Kd.R_alloc | apply Kd.R_drewN | apply Kd.R_drew)); exact Kd.R_mono HO148.out (fun _ hk => ⟨⟨hk.1.2.1, ⟨hk.1.2.2.1, ⟨hk.1.2.2.2, hk.2⟩⟩⟩, hk.1.1⟩)) hg (.inl rfl)); have n4 := Az (blk_grown (g := gb101) (o := .cells #[.string a0_0, .slice A0_1 l0_1.length c0_1] 25 (0, 0)) (kU BK101.out) hg (Kd.R_ne HO_8.out BK101.out (by decide))); have n5 := Az (Kd.R_after (v := (.slice (some ⟨go52, 0, none⟩) x8_1.length co52)) (v1 := (.slice (some ⟨go52, 0, none⟩) x8_1.length co52)) (ok := (fun k_ => some k_ ≠ (.slice (some ad120) y139.length co56 : Value).ownBlock ∧ some k_ ≠ (.slice (some ad124) y142.length co58 : Value).ownBlock ∧ some k_ ≠ (.slice (some ad145) y146.length co64 : Value).ownBlock ∧ some k_ ≠ (v126 : Value).ownBlock)) (by (with_reducible repeat (first | apply Kd.R_alloc | apply Kd.R_drewN | apply Kd.R_drew)); exact Kd.R_mono HO123.out (fun _ hk => ⟨⟨hk.1.2.1, ⟨hk.1.2.2.1, ⟨hk.1.2.2.2, hk.2⟩⟩⟩, hk.1.1⟩)) hg (.inl rfl)); have n6 := Az (Kd.R_after (v := (.slice (some ⟨go52, 0, none⟩) x8_1.length co52)) (v1 := (.slice (some ⟨go52, 0, none⟩) x8_1.length co52)) (ok := (fun k_ => some k_ ≠ (.slice (some ad120) y139.length co56 : Value).ownBlock ∧ some k_ ≠ (.slice (some ad124) y142.length co58 : Value).ownBlock ∧ some k_ ≠ (.slice (some ad145) y146.length co64 : Value).ownBlock ∧ some k_ ≠ (v122 : Value).ownBlock)) (by (with_reducible repeat (first | apply Kd.R_alloc | apply Kd.R_drewN | apply Kd.R_drew)); exact Kd.R_mono HO127.out (fun _ hk => ⟨⟨hk.2.1, ⟨hk.2.2.1, ⟨hk.2.2.2.1, hk.2.2.2.2⟩⟩⟩, hk.1⟩)) hg (.inl rfl)); have n7 := Az ((by rw [hw]; exact below_set (HB.out) GB52.out : Below w.heap.size w w67)); clear HO_8 HO141 HO144 HO148 BK101 HO123 HO127 HB; have HO_8 := n0; have HO141 := n1; have HO144 := n2; have HO148 := n3; have BK101 := n4; have HO123 := n5; have HO127 := n6; have HB := n7; clear n0 n1 n2 n3 n4 n5 n6 n7 hg hw hp_; have p55 : 0 ≤ ((rd x11_1 (ji47)) : Int) := oA; have q55 : ((rd x11_1 (ji47)) : Int) < ((x8_1.length : Int) : Int) := oA; obtain ⟨hx55_0, hf55_0⟩ := Kd.R_celln 0 HO_8.out ((rd x11_1 (ji47)) : Int) p55 q55; replace p55 := eq_true p55; replace q55 := eq_true q55; obtain ⟨hy68_, hz68_⟩ := Kd.R_celln 0 HO_8.out ((rd x11_1 (ji47)) : Int) (oA) (oA); have HP68 := Kd.R_putg HO_8.out ((rd x11_1 (ji47)) : Int) x27_1) | ((with_reducible refine gate_store (t := 3) (p := 100) rfl ?_); refine store_event (t := 3) (p := 100) (v := ?vo_w69) (w1 := (w67.setCell ⟨go52, ((rd x11_1 (ji47)) : Int).toNat, none⟩ (.int .i64 x27_1))) ?hg ?ho ?hn ?hr ?_; (case ho => rfl); (case hg => rfl); (case hn => rfl); (case hr => first | (go_simp; done) | (go_simp; rfl)); intro w69 hw; have hg : w67.grownBy w69 (some go52) := (by rw [hw]; exact HP68.2); have hp_ : Kd.R (Kd.int .i64) 3 w69 w.heap.size (fun k_ => some k_ ≠ (.slice (some ad120) y139.length co56 : Value).ownBlock ∧ some k_ ≠ (.slice (some ad124) y142.length co58 : Value).ownBlock ∧ some k_ ≠ (.slice (some ad145) y146.length co64 : Value).ownBlock ∧ some k_ ≠ (v122 : Value).ownBlock ∧ some k_ ≠ (v126 : Value).ownBlock) (.slice (some ⟨go52, 0, none⟩) x8_1.length co52) y150 := (by rw [hw, Ny150.out]; exact HP68.1); clear HP68; have n0 := Az (hp_); have n1 := Az (Kd.R_after (v := (.slice (some ⟨go52, 0, none⟩) x8_1.length co52)) (v1 := (.slice (some ⟨go52, 0, none⟩) x8_1.length co52)) (ok := (fun k_ => some k_ ≠ (.slice (some ad124) y142.length co58 : Value).ownBlock ∧ some k_ ≠ (.slice (some ad145) y146.length co64 : Value).ownBlock ∧ some k_ ≠ (v122 : Value).ownBlock ∧ some k_ ≠ (v126 : Value).ownBlock)) (rU HO141.out) hg (.inl rfl)); have n2 := Az (Kd.R_after (v := (.slice (some ⟨go52, 0, none⟩) x8_1.length co52)) (v1 := (.slice (some ⟨go52, 0, none⟩) x8_1.length co52)) (ok := (fun k_ => some k_ ≠ (.slice (some ad120) y139.length co56 : Value).ownBlock ∧ some k_ ≠ (.slice (some ad145) y146.length co64 : Value).ownBlock ∧ some k_ ≠ (v122 : Value).ownBlock ∧ some k_ ≠ (v126 : Value).ownBlock)) (rU HO144.out) hg (.inl rfl)); have n3 := Az (Kd.R_after (v := (.slice (some ⟨go52, 0, none⟩) x8_1.length co52)) (v1 := (.slice (some ⟨go52, 0, none⟩) x8_1.length co52)) (ok := (fun k_ => some k_ ≠ (.slice (some ad120) y139.length co56 : Value).ownBlock ∧ some k_ ≠ (.slice (some ad124) y142.length co58 : Value).ownBlock ∧ some k_ ≠ (v122 : Value).ownBlock ∧ some k_ ≠ (v126 : Value).ownBlock)) (rU HO148.out) hg (.inl rfl)); have n4 := Az (blk_grown (g := gb101) (o := .cells #[.string a0_0, .slice A0_1 l0_1.length c0_1] 25 (0, 0)) (kU BK101.out) hg (Kd.R_ne HO_8.out BK101.out (by decide))); have n5 := Az (Kd.R_after (v := (.slice (some ⟨go52, 0, none⟩) x8_1.length co52)) (v1 := (.slice (some ⟨go52, 0, none⟩) x8_1.length co52)) (ok := (fun k_ => some k_ ≠ (.slice (some ad120) y139.length co56 : Value).ownBlock ∧ some k_ ≠ (.slice (some ad124) y142.length co58 : Value).ownBlock ∧ some k_ ≠ (.slice (some ad145) y146.length co64 : Value).ownBlock ∧ some k_ ≠ (v126 : Value).ownBlock)) (rU HO123.out) hg (.inl rfl)); have n6 := Az (Kd.R_after (v := (.slice (some ⟨go52, 0, none⟩) x8_1.length co52)) (v1 := (.slice (some ⟨go52, 0, none⟩) x8_1.length co52)) (ok := (fun k_ => some k_ ≠ (.slice (some ad120) y139.length co56 : Value).ownBlock ∧ some k_ ≠ (.slice (some ad124) y142.length co58 : Value).ownBlock ∧ some k_ ≠ (.slice (some ad145) y146.length co64 : Value).ownBlock ∧ some k_ ≠ (v122 : Value).ownBlock)) (rU HO127.out) hg (.inl rfl)); have n7 := Az ((by rw [hw]; exact below_set (HB.out) GB52.out : Below w.heap.size w w69)); clear HO_8 HO141 HO144 HO148 BK101 HO123 HO127 HB; have HO_8 := n0; have HO141 := n1; have HO144 := n2; have HO148 := n3; have BK101 := n4; have HO123 := n5; have HO127 := n6; have HB := n7; clear n0 n1 n2 n3 n4 n5 n6 n7; clear hg hw hp_))
                      (first | go_roundg k1 | (refine Handed.intro k1 ?measure ?_; rotate_left; go_step; (try simp only [add_plain]); (repeat apply Exists.intro); refine ⟨?rel, rfl⟩))
                      case measure => have := HK1.out; omega
                      case rel => exact ⟨(y121), (y125), (y150), (y139), (y142), (y146), (x12_1), (wrap64 (x27_1 + 1)), rS, rS, H', ⟨by have := HK1.out; omega⟩, ⟨by (with_reducible repeat (first | apply Kd.R_alloc | apply Kd.R_drewN | apply Kd.R_drew)); exact Kd.R_mono HO123.out (fun _ hk => ⟨hk.1.2.2.2, ⟨hk.2, ⟨hk.1.1, ⟨hk.1.2.1, hk.1.2.2.1⟩⟩⟩⟩)⟩, ⟨by (with_reducible repeat (first | apply Kd.R_alloc | apply Kd.R_drewN | apply Kd.R_drew)); exact Kd.R_mono HO127.out (fun _ hk => ⟨hk.1.2.2.2, ⟨hk.2, ⟨hk.1.1, ⟨hk.1.2.1, hk.1.2.2.1⟩⟩⟩⟩)⟩, ⟨by (with_reducible repeat (first | apply Kd.R_alloc | apply Kd.R_drewN | apply Kd.R_drew)); exact Kd.R_mono HO_8.out (fun _ hk => ⟨hk.2.2.2.1, ⟨hk.2.2.2.2, ⟨hk.1, ⟨hk.2.1, hk.2.2.1⟩⟩⟩⟩)⟩, ⟨by (with_reducible repeat (first | apply Kd.R_alloc | apply Kd.R_drewN | apply Kd.R_drew)); exact Kd.R_mono HO141.out (fun _ hk => ⟨hk.1.2.2.1, ⟨hk.1.2.2.2, ⟨hk.2, ⟨hk.1.1, hk.1.2.1⟩⟩⟩⟩)⟩, ⟨by (with_reducible repeat (first | apply Kd.R_alloc | apply Kd.R_drewN | apply Kd.R_drew)); exact Kd.R_mono HO144.out (fun _ hk => ⟨hk.1.2.2.1, ⟨hk.1.2.2.2, ⟨hk.2, ⟨hk.1.1, hk.1.2.1⟩⟩⟩⟩)⟩, ⟨by (with_reducible repeat (first | apply Kd.R_alloc | apply Kd.R_drewN | apply Kd.R_drew)); exact Kd.R_mono HO148.out (fun _ hk => ⟨hk.1.2.2.1, ⟨hk.1.2.2.2, ⟨hk.2, ⟨hk.1.1, hk.1.2.1⟩⟩⟩⟩)⟩, ⟨kU BK101.out⟩, ⟨bU1 HB.out GE101.out⟩⟩
                     ·
                      rw [if_neg c54] at H
                      exact absurd H (by simp)
                    ·
                     rw [if_neg c53] at H
                     exact absurd H (by simp)
                   ·
                    rw [if_neg c51] at H
                    exact absurd H (by simp)
                  ·
                   rw [if_neg c50] at H
                   exact absurd H (by simp)
                 ·
                  rw [if_neg c49] at H
                  exact absurd H (by simp)
                ·
                 rw [if_neg c48] at H
                 exact absurd H (by simp)
               ·
                rw [if_neg c46] at H
                exact absurd H (by simp)
              ·
               rw [if_neg c45] at H
               exact absurd H (by simp)
            ·
             rw [if_neg c28] at H
             exact absurd H (by simp)
           ·
            rw [if_neg c27] at H
            exact absurd H (by simp)
          ·
           rw [if_neg c26] at H
           exact absurd H (by simp)
         ·
          rw [if_neg c25] at H
          exact absurd H (by simp)
        ·
         rw [if_neg c24] at H
         exact absurd H (by simp)
       ·
        rw [if_neg c23] at H
        exact absurd H (by simp)
      ·
       rw [if_neg c22] at H
       exact absurd H (by simp)
     ·
      rw [if_neg c20] at H; have c20b0 := decide_eq_false c20; clear c20; simp only [Option.some.injEq, Prod.mk.injEq] at H; obtain ⟨rfl, rfl, rfl⟩ := H
      go_wp2
      go_ret3
      exact ⟨_, _, _, rE, by (with_reducible repeat (first | apply Kd.R_alloc | apply Kd.R_drewN | apply Kd.R_drew)); exact Kd.R_mono HO_6.out (fun _ hk => ⟨hk.1, hk.2.1⟩), by (with_reducible repeat (first | apply Kd.R_alloc | apply Kd.R_drewN | apply Kd.R_drew)); exact Kd.R_mono HO_7.out (fun _ hk => ⟨hk.1, hk.2.1⟩), by (with_reducible repeat (first | apply Kd.R_alloc | apply Kd.R_drewN | apply Kd.R_drew)); exact Kd.R_mono HO_8.out (fun _ hk => ⟨hk.1, hk.2.1⟩), bU1 HB.out GE101.out⟩
  ·
   rw [if_neg c3] at H
   exact absurd H (by simp)
 ·
  rw [if_neg c2] at H
  exact absurd H (by simp)
def IsS104 (w0 W : World) (g : Nat) (f0 : List Int) (f1 : Int) : Prop := ∃ A0 c0, W.heap[g]? = some (.cells #[.slice A0 f0.length c0, .int .i64 f1] 104 (0, 0)) ∧ w0.heap.size ≤ g ∧ Kd.C (Kd.int .u8) w0 A0 f0.length f0
theorem IsS104.grown {w0 W : World} {g : Nat} {f0 : List Int} {f1 : Int} {W1 : World} {row : Option Nat} (h : IsS104 w0 W g f0 f1) (hw : W.grownBy W1 row) (hne : some g ≠ row) : IsS104 w0 W1 g f0 f1 := by
 obtain ⟨A0, c0, hb, hg, hr0⟩ := h
 exact ⟨A0, c0, blk_grown hb hw hne, hg, hr0⟩
theorem IsS104.kept {w0 W : World} {g : Nat} {f0 : List Int} {f1 : Int} {W1 : World} {S : Nat → Prop} (h : IsS104 w0 W g f0 f1) (hk : Kept W W1 S) (hne : ¬ S g) : IsS104 w0 W1 g f0 f1 := by
 obtain ⟨A0, c0, hb, hg, hr0⟩ := h
 exact ⟨A0, c0, blk_kept hb hk hne, hg, hr0⟩
theorem IsS104.below {w0 W : World} {g : Nat} {f0 : List Int} {f1 : Int} {W1 : World} (h : IsS104 w0 W g f0 f1) (hw : Below W.heap.size W W1) : IsS104 w0 W1 g f0 f1 := h.grown (grown_of_below hw none) (by simp)
theorem IsS104.alloc {w0 W : World} {g : Nat} {f0 : List Int} {f1 : Int} (h : IsS104 w0 W g f0 f1) (o : Obj) : IsS104 w0 (W.alloc o) g f0 f1 := h.below (below_alloc (Below.refl _ _) o)
theorem IsS104.drewN {w0 W : World} {g : Nat} {f0 : List Int} {f1 : Int} (h : IsS104 w0 W g f0 f1) (m : Nat) : IsS104 w0 (W.drewN m) g f0 f1 := h
theorem IsS104.drew {w0 W : World} {g : Nat} {f0 : List Int} {f1 : Int} (h : IsS104 w0 W g f0 f1) : IsS104 w0 W.drew g f0 f1 := h
theorem IsS104.at_ {w0 W : World} {g : Nat} {f0 : List Int} {f1 : Int} {w' : World} {m : Nat} (hq : W.drewN m = w') (h : IsS104 w0 W g f0 f1) : IsS104 w0 w' g f0 f1 := by subst hq; exact IsS104.drewN h m
theorem IsS104.apart {w0 W : World} {g : Nat} {f0 : List Int} {f1 : Int} {α : Type} {d : Kd α} {e : Nat} {base : Nat} {ok : Nat → Prop} {v : Value} {xs : List α} (h : IsS104 w0 W g f0 f1) (ho : d.R e W base ok v xs) (ht : ∀ q, q ∈ e :: d.E → q ≠ 104) : d.R e W base (fun k => ok k ∧ k ≠ g) v xs := by
 obtain ⟨A0, c0, hb, hg, hr0⟩ := h
 exact Kd.R_types ho hb ht
theorem IsS104.own_ne {w0 W : World} {g : Nat} {f0 : List Int} {f1 : Int} {α : Type} {d : Kd α} {e : Nat} {base : Nat} {ok : Nat → Prop} {v : Value} {xs : List α} (h : IsS104 w0 W g f0 f1) (ho : d.R e W base ok v xs) (ht : e ≠ 104) : some g ≠ v.ownBlock := by
 obtain ⟨A0, c0, hb, hg, hr0⟩ := h
 exact Kd.R_ne ho hb ht
def spec_l92Tree.T13 : Bool × List (List Nat × List Nat) := (true, [([], []), ([0], [0]), ([], []), ([], []), ([2, 3], [2, 3]), ([1, 4], [1, 4]), ([0, 1, 2, 3, 4, 5], []), ([6, 5, 4, 0, 1, 2, 3, 4, 5], [5, 6])])
def spec_l92Tree.B13 : List Nat := [0, 1, 0, 0, 12, 31, 63, 127]
def spec_l6In.f (a0 : Int) (a1 : Int) (a2 : Int) : Option (Bool) := if a0 ≥ a1 then (some (decide (a0 ≤ a2))) else (some false)
set_option maxHeartbeats 8000000 in
set_option maxRecDepth 100000 in
theorem spec_l6In.calls (a0 : Int) (a1 : Int) (a2 : Int) (r : Bool) (w : World) (h : spec_l6In.f a0 a1 a2 = some r) :
  Calls Try.prog 63 #[.int .i64 a0, .int .i64 a1, .int .i64 a2] w fun e w' => e = .returned (.bool r) ∧ Drawn0 w w' := by
 have H : (if a0 ≥ a1 then (some (decide (a0 ≤ a2))) else (some false)) = some r := h; clear h
 by_cases c4 : a0 ≥ a1
 ·
  rw [if_pos c4] at H; have c4b0 := decide_eq_true c4; clear c4; obtain rfl := Option.some.inj H
  go_enter Try.func63, Try.ntmps63
  go_wp2
  go_ret
  exact ⟨by first | rfl | (simp; done) | (simp [*]; done), by repeat (first | exact Drawn0.refl _ | apply Drawn0.step)⟩
 ·
  rw [if_neg c4] at H; have c4b0 := decide_eq_false c4; clear c4; obtain rfl := Option.some.inj H
  go_enter Try.func63, Try.ntmps63
  go_wp2
  go_ret
  exact ⟨by first | rfl | (simp; done) | (simp [*]; done), by repeat (first | exact Drawn0.refl _ | apply Drawn0.step)⟩
mutual
def spec_TreeValid.l0 : Nat → Int → Int → Int → ByteArray → List Int → Option (Bool)
 | 0, _, _, _, _, _ => none
 | k + 1, x3, x4, x5, xZ0, xZ1 => if x5 < (xZ0.size : Int) then (if 0 ≤ x5 then (if (bt xZ0 x5) = 40 then (if (wrap64 (x3 + 1)) < 0 then (some false) else (spec_TreeValid.l0 k (wrap64 (x3 + 1)) (wrap64 (x4 + 1)) (wrap64 (x5 + 1)) xZ0 xZ1)) else (if (bt xZ0 x5) = 41 then (if (wrap64 (x3 - 1)) < 0 then (some false) else (spec_TreeValid.l0 k (wrap64 (x3 - 1)) x4 (wrap64 (x5 + 1)) xZ0 xZ1)) else (some false))) else (none)) else (spec_TreeValid.l1 k x3 x4 0 xZ0 xZ1)
def spec_TreeValid.l1 : Nat → Int → Int → Int → ByteArray → List Int → Option (Bool)
 | 0, _, _, _, _, _ => none
 | k + 1, x3, x4, x6, xZ0, xZ1 => if x6 < (xZ1.length : Int) then (if 0 ≤ x6 then ((spec_l6In.f (rd xZ1 x6) (-1) 1).bind fun t233 => (if t233 = true then (spec_TreeValid.l1 k x3 x4 (wrap64 (x6 + 1)) xZ0 xZ1) else (some false))) else (none)) else (if x3 = 0 then ((spec_l6In.f x4 1 3).bind fun t234 => (if t234 = true then (some ((xZ1.length : Int) == x4)) else (some false))) else (some false))
end
def spec_TreeValid.f (k : Nat) (a0_0 : ByteArray) (l0_1 : List Int) : Option (Bool) := spec_TreeValid.l0 k 0 0 0 a0_0 l0_1
theorem spec_TreeValid.mono_l : ∀ k, (∀ y0 y1 y2 y3 y4, LeO (spec_TreeValid.l0 k y0 y1 y2 y3 y4) (spec_TreeValid.l0 (k + 1) y0 y1 y2 y3 y4)) ∧ (∀ y0 y1 y2 y3 y4, LeO (spec_TreeValid.l1 k y0 y1 y2 y3 y4) (spec_TreeValid.l1 (k + 1) y0 y1 y2 y3 y4))
 | 0 => ⟨fun _ _ _ _ _ r h => by simp [spec_TreeValid.l0] at h, fun _ _ _ _ _ r h => by simp [spec_TreeValid.l1] at h⟩
 | k + 1 => by
  obtain ⟨ih0, ih1⟩ := spec_TreeValid.mono_l k
  refine ⟨?_, ?_⟩
  ·
   intro y0 y1 y2 y3 y4
   unfold spec_TreeValid.l0
   repeat' first
   | (with_reducible exact ih0 _ _ _ _ _)
   | (with_reducible exact ih1 _ _ _ _ _)
   | (with_reducible exact LeO.refl _)
   | (with_reducible exact LeO.none _)
   | (with_reducible refine LeO.ite ?_ ?_)
   | (with_reducible refine LeO.bind ?_ (fun _ => ?_))
   | exact ih0 _ _ _ _ _
   | exact ih1 _ _ _ _ _
   | exact LeO.none _
   | refine LeO.ite ?_ ?_
   | refine LeO.bind ?_ (fun _ => ?_)
  ·
   intro y0 y1 y2 y3 y4
   unfold spec_TreeValid.l1
   repeat' first
   | (with_reducible exact ih0 _ _ _ _ _)
   | (with_reducible exact ih1 _ _ _ _ _)
   | (with_reducible exact LeO.refl _)
   | (with_reducible exact LeO.none _)
   | (with_reducible refine LeO.ite ?_ ?_)
   | (with_reducible refine LeO.bind ?_ (fun _ => ?_))
   | exact ih0 _ _ _ _ _
   | exact ih1 _ _ _ _ _
   | exact LeO.none _
   | refine LeO.ite ?_ ?_
   | refine LeO.bind ?_ (fun _ => ?_)
theorem spec_TreeValid.mono : ∀ a0 a1 k, LeO (spec_TreeValid.f k a0 a1) (spec_TreeValid.f (k + 1) a0 a1) := by
 intro a0 a1 k
 obtain ⟨ih0, ih1⟩ := spec_TreeValid.mono_l k
 unfold spec_TreeValid.f
 repeat' first
   | (with_reducible exact ih0 _ _ _ _ _)
   | (with_reducible exact ih1 _ _ _ _ _)
   | (with_reducible exact LeO.refl _)
   | (with_reducible exact LeO.none _)
   | (with_reducible refine LeO.ite ?_ ?_)
   | (with_reducible refine LeO.bind ?_ (fun _ => ?_))
   | exact ih0 _ _ _ _ _
   | exact ih1 _ _ _ _ _
   | exact LeO.none _
   | refine LeO.ite ?_ ?_
   | refine LeO.bind ?_ (fun _ => ?_)
set_option maxHeartbeats 8000000 in
set_option maxRecDepth 100000 in
theorem spec_TreeValid.calls (k : Nat) (a0_0 : ByteArray) (A0_1 : Option Addr) (c0_1 : Nat) (l0_1 : List Int) (r : Bool) (w : World) (hr0_1 : Kd.C (Kd.int .i64) w A0_1 l0_1.length l0_1) (hc0_1 : l0_1.length ≤ c0_1) (h : spec_TreeValid.f k a0_0 l0_1 = some r) :
  Calls Try.prog 17 #[.agg #[.string a0_0, .slice A0_1 l0_1.length c0_1]] w fun e w' => e = .returned (.bool r) ∧ Below w.heap.size w w' := by
 have hu25 := Try.underlying25; have HR0_1 := Az hr0_1; have HC0_1 := Az hc0_1; clear hr0_1 hc0_1; have HB := Az (Below.refl w.heap.size w); have H : (spec_TreeValid.l0 k 0 0 0 a0_0 l0_1) = some r := h; clear h; have H' := Az H; clear H
 go_enter Try.func17, Try.ntmps17
 go_wp2_with (first | ((with_reducible refine gate_dst (N := 1) rfl ?_); (try (refine gate_guard (by rfl) ?_; dsimp only)); refine box_event ?hg (N := 1) ?hd (cs := #[.string a0_0, .slice A0_1 l0_1.length c0_1]) (t := 25) ?hr ?_; (case hd => rfl); (case hg => rfl); (case hr => first | (go_simp; done) | (go_simp; rfl)); intro gb231 hg w2 hbox hb; have n0 := Az (below_step (bU0 HB.out) hb); have n1 := Az (hbox); have n2 := Az ((by rw [hg]; exact (below_size (bU0 HB.out)) : w.heap.size ≤ gb231)); have n3 := n2; clear HB; have HB := n0; have BK231 := n1; have GW231 := n2; have GE231 := n3; clear n0 n1 n2 n3; clear hb hbox hg))
 go_loopg [3, 4, 5] k (fun kq v3 v4 v5 w' => ∃ (x3_1 : Int) (x4_1 : Int) (x5_1 : Int), v3 = .int .i64 x3_1 ∧ v4 = .int .i64 x4_1 ∧ v5 = .int .i64 x5_1 ∧ Aside0 (spec_TreeValid.l0 kq x3_1 x4_1 x5_1 a0_0 l0_1 = some r) ∧ Aside0 (kq ≤ k) ∧ Aside0 (w'.heap[gb231]? = some (.cells #[.string a0_0, (.slice A0_1 l0_1.length c0_1)] 25 (0, 0))) ∧ Aside0 (Below w.heap.size w w'))
 case atStart => exact ⟨(0), (0), (0), rS, rS, rS, H', ⟨Nat.le_refl _⟩, ⟨kU BK231.out⟩, ⟨bU1 HB.out GE231.out⟩⟩
 case round =>
  clear H'; (try clear c1); (try clear p2); obtain ⟨x3_1, x4_1, x5_1, rfl, rfl, rfl, HA, HK1, BK231, HB⟩ := hrel
  cases gk with
  | zero => exact absurd HA.out (by simp [spec_TreeValid.l0])
  | succ k1 =>
   have H := HA.out; clear HA; simp only [spec_TreeValid.l0] at H
   by_cases c3 : x5_1 < (a0_0.size : Int)
   ·
    rw [if_pos c3] at H; have c3b0 := decide_eq_true c3; clear c3
    by_cases c4 : 0 ≤ x5_1
    ·
     rw [if_pos c4] at H; have c4b0 := decide_eq_true c4; clear c4
     by_cases c6 : (bt a0_0 x5_1) = 40
     ·
      rw [if_pos c6] at H; have c6b0 := beq_iff_eq.mpr c6; have c6b1 := bne_eq_false_iff_eq.mpr c6; clear c6
      by_cases c7 : (wrap64 (x3_1 + 1)) < 0
      ·
       rw [if_pos c7] at H; have c7b0 := decide_eq_true c7; clear c7; obtain rfl := Option.some.inj H; have hcz8_0 : wr.cell? ⟨gb231, 0, none⟩ = some (.string a0_0) := (blk_cell BK231.out 0).trans rfl; have hcz8_1 : wr.cell? ⟨gb231, 1, none⟩ = some (.slice A0_1 l0_1.length c0_1) := (blk_cell BK231.out 1).trans rfl; have hfz8_0 := blk_frozen BK231.out 0; have hfz8_1 := blk_frozen BK231.out 1; have p5 : 0 ≤ (x5_1 : Int) := oA; have q5 : x5_1 < (a0_0.size : Int) := oA; have hx5 := bt_at a0_0 x5_1; replace p5 := eq_true p5; replace q5 := eq_true q5
       go_wp2
       go_ret
       exact ⟨rE, bU1 HB.out GE231.out⟩
      ·
       rw [if_neg c7] at H; have c7b0 := decide_eq_false c7; clear c7; have H' := Az H; clear H; have hcz9_0 : wr.cell? ⟨gb231, 0, none⟩ = some (.string a0_0) := (blk_cell BK231.out 0).trans rfl; have hcz9_1 : wr.cell? ⟨gb231, 1, none⟩ = some (.slice A0_1 l0_1.length c0_1) := (blk_cell BK231.out 1).trans rfl; have hfz9_0 := blk_frozen BK231.out 0; have hfz9_1 := blk_frozen BK231.out 1; have p5 : 0 ≤ (x5_1 : Int) := oA; have q5 : x5_1 < (a0_0.size : Int) := oA; have hx5 := bt_at a0_0 x5_1; replace p5 := eq_true p5; replace q5 := eq_true q5
       go_wp2
       (first | go_roundg k1 | (refine Handed.intro k1 ?measure ?_; rotate_left; go_step; (try simp only [add_plain]); (repeat apply Exists.intro); refine ⟨?rel, rfl⟩))
       case measure => have := HK1.out; omega
       case rel => exact ⟨(wrap64 (x3_1 + 1)), (wrap64 (x4_1 + 1)), (wrap64 (x5_1 + 1)), rS, rS, rS, H', ⟨by have := HK1.out; omega⟩, ⟨kU BK231.out⟩, ⟨bU1 HB.out GE231.out⟩⟩
     ·
      rw [if_neg c6] at H; have c6b0 := beq_eq_false_iff_ne.mpr c6; have c6b1 := bne_iff_ne.mpr c6
      by_cases c10 : (bt a0_0 x5_1) = 41
      ·
       rw [if_pos c10] at H; have c10b0 := beq_iff_eq.mpr c10; have c10b1 := bne_eq_false_iff_eq.mpr c10; clear c10
       by_cases c11 : (wrap64 (x3_1 - 1)) < 0
       ·
        rw [if_pos c11] at H; have c11b0 := decide_eq_true c11; clear c11; obtain rfl := Option.some.inj H; have hcz12_0 : wr.cell? ⟨gb231, 0, none⟩ = some (.string a0_0) := (blk_cell BK231.out 0).trans rfl; have hcz12_1 : wr.cell? ⟨gb231, 1, none⟩ = some (.slice A0_1 l0_1.length c0_1) := (blk_cell BK231.out 1).trans rfl; have hfz12_0 := blk_frozen BK231.out 0; have hfz12_1 := blk_frozen BK231.out 1; have p5 : 0 ≤ (x5_1 : Int) := oA; have q5 : x5_1 < (a0_0.size : Int) := oA; have hx5 := bt_at a0_0 x5_1; replace p5 := eq_true p5; replace q5 := eq_true q5
        go_wp2
        go_ret
        exact ⟨rE, bU1 HB.out GE231.out⟩
       ·
        rw [if_neg c11] at H; have c11b0 := decide_eq_false c11; clear c11; have H' := Az H; clear H; have hcz13_0 : wr.cell? ⟨gb231, 0, none⟩ = some (.string a0_0) := (blk_cell BK231.out 0).trans rfl; have hcz13_1 : wr.cell? ⟨gb231, 1, none⟩ = some (.slice A0_1 l0_1.length c0_1) := (blk_cell BK231.out 1).trans rfl; have hfz13_0 := blk_frozen BK231.out 0; have hfz13_1 := blk_frozen BK231.out 1; have p5 : 0 ≤ (x5_1 : Int) := oA; have q5 : x5_1 < (a0_0.size : Int) := oA; have hx5 := bt_at a0_0 x5_1; replace p5 := eq_true p5; replace q5 := eq_true q5
        go_wp2
        (first | go_roundg k1 | (refine Handed.intro k1 ?measure ?_; rotate_left; go_step; (try simp only [add_plain]); (repeat apply Exists.intro); refine ⟨?rel, rfl⟩))
        case measure => have := HK1.out; omega
        case rel => exact ⟨(wrap64 (x3_1 - 1)), (x4_1), (wrap64 (x5_1 + 1)), rS, rS, rS, H', ⟨by have := HK1.out; omega⟩, ⟨kU BK231.out⟩, ⟨bU1 HB.out GE231.out⟩⟩
      ·
       rw [if_neg c10] at H; have c10b0 := beq_eq_false_iff_ne.mpr c10; have c10b1 := bne_iff_ne.mpr c10; obtain rfl := Option.some.inj H; have hcz14_0 : wr.cell? ⟨gb231, 0, none⟩ = some (.string a0_0) := (blk_cell BK231.out 0).trans rfl; have hcz14_1 : wr.cell? ⟨gb231, 1, none⟩ = some (.slice A0_1 l0_1.length c0_1) := (blk_cell BK231.out 1).trans rfl; have hfz14_0 := blk_frozen BK231.out 0; have hfz14_1 := blk_frozen BK231.out 1; have p5 : 0 ≤ (x5_1 : Int) := oA; have q5 : x5_1 < (a0_0.size : Int) := oA; have hx5 := bt_at a0_0 x5_1; replace p5 := eq_true p5; replace q5 := eq_true q5
       go_wp2
       go_ret
       exact ⟨rE, bU1 HB.out GE231.out⟩
    ·
     rw [if_neg c4] at H
     exact absurd H (by simp)
   ·
    rw [if_neg c3] at H; have c3b0 := decide_eq_false c3; clear c3; have H' := Az H; clear H; have hcz15_0 : wr.cell? ⟨gb231, 0, none⟩ = some (.string a0_0) := (blk_cell BK231.out 0).trans rfl; have hcz15_1 : wr.cell? ⟨gb231, 1, none⟩ = some (.slice A0_1 l0_1.length c0_1) := (blk_cell BK231.out 1).trans rfl; have hfz15_0 := blk_frozen BK231.out 0; have hfz15_1 := blk_frozen BK231.out 1
    go_wp2
    go_loopg [6] k1 (fun kq v6 w' => ∃ (x6_2 : Int), v6 = .int .i64 x6_2 ∧ Aside0 (spec_TreeValid.l1 kq x3_1 x4_1 x6_2 a0_0 l0_1 = some r) ∧ Aside0 (kq ≤ k1) ∧ Aside0 (w'.heap[gb231]? = some (.cells #[.string a0_0, (.slice A0_1 l0_1.length c0_1)] 25 (0, 0))) ∧ Aside0 (Below w.heap.size w w'))
    case atStart => exact ⟨(0), rS, H', ⟨Nat.le_refl _⟩, ⟨kU BK231.out⟩, ⟨bU1 HB.out GE231.out⟩⟩
    case round =>
     clear H'; (try clear c1); (try clear p2); (try clear c3); (try clear c3b0); (try clear c4); (try clear c4b0); (try clear p5); (try clear q5); (try clear hx5); (try clear c6); (try clear c6b0); (try clear c6b1); (try clear p6); (try clear c7); (try clear c7b0); (try clear c10); (try clear c10b0); (try clear c10b1); (try clear c11); (try clear c11b0); (try clear hcz12_0); (try clear hcz12_1); (try clear hcz13_0); (try clear hcz13_1); (try clear hcz14_0); (try clear hcz14_1); (try clear hcz15_0); (try clear hcz15_1); (try clear hcz8_0); (try clear hcz8_1); (try clear hcz9_0); (try clear hcz9_1); (try clear hfz12_0); (try clear hfz12_1); (try clear hfz13_0); (try clear hfz13_1); (try clear hfz14_0); (try clear hfz14_1); (try clear hfz15_0); (try clear hfz15_1); (try clear hfz8_0); (try clear hfz8_1); (try clear hfz9_0); (try clear hfz9_1); (try clear p2); (try clear p5); (try clear q5); obtain ⟨x6_2, rfl, HA, HK2, BK231, HB⟩ := hrel
     cases gk with
     | zero => exact absurd HA.out (by simp [spec_TreeValid.l1])
     | succ k2 =>
      have H := HA.out; clear HA; simp only [spec_TreeValid.l1] at H
      by_cases c16 : x6_2 < (l0_1.length : Int)
      ·
       rw [if_pos c16] at H; have c16b0 := decide_eq_true c16; clear c16
       by_cases c17 : 0 ≤ x6_2
       ·
        rw [if_pos c17] at H; have c17b0 := decide_eq_true c17; clear c17; replace H := Option.bind_eq_some_iff.mp H; obtain ⟨t233, A180, H⟩ := H; replace H : (if t233 = true then (spec_TreeValid.l1 k2 x3_1 x4_1 (wrap64 (x6_2 + 1)) a0_0 l0_1) else (some false)) = some r := H; have A18 := Az A180; clear A180
        by_cases c19 : t233 = true
        ·
         subst c19
         have H1 : (spec_TreeValid.l1 k2 x3_1 x4_1 (wrap64 (x6_2 + 1)) a0_0 l0_1) = some r := by rw [if_pos rfl] at H; exact H
         clear H; have H := H1; clear H1; have H' := Az H; clear H; have hcz20_0 : wr.cell? ⟨gb231, 0, none⟩ = some (.string a0_0) := (blk_cell BK231.out 0).trans rfl; have hcz20_1 : wr.cell? ⟨gb231, 1, none⟩ = some (.slice A0_1 l0_1.length c0_1) := (blk_cell BK231.out 1).trans rfl; have hfz20_0 := blk_frozen BK231.out 0; have hfz20_1 := blk_frozen BK231.out 1; have p232 : 0 ≤ (x6_2 : Int) := oA; have q232 : x6_2 < (l0_1.length : Int) := oA; obtain ⟨ad232, e232, hx232_0⟩ := Kd.at_int HR0_1.out x6_2 p232 q232
         cases e232
         (try replace hx232_0 := (HB.out.cell (World.block_lt_of_cell? w _ hx232_0)).trans hx232_0); replace p232 := eq_true p232; replace q232 := eq_true q232
         go_wp2_with (first | ((with_reducible refine gate_callee (f := 63) rfl ?_); refine goesL_ (some 42) rfl rfl Try.func63 (by kernel_rfl) rfl #[.int .i64 (rd l0_1 x6_2), .int .i64 (-1), .int .i64 1] rfl (by (try simp only [List.map_toArray, List.map_cons, List.map_nil]); first | done | rfl | (simp only [List.length_drop, List.length_take]; rfl)) ?_; (with_reducible refine (spec_l6In.calls (rd l0_1 x6_2) (-1) 1 true _ A18.out).mono ?_); rintro e w' ⟨rfl, ⟨nd, rfl⟩⟩; refine ⟨_, rfl, ?_⟩))
         (first | go_roundg k2 | (refine Handed.intro k2 ?measure ?_; rotate_left; go_step; (try simp only [add_plain]); (repeat apply Exists.intro); refine ⟨?rel, rfl⟩))
         case measure => have := HK1.out; have := HK2.out; omega
         case rel => exact ⟨(wrap64 (x6_2 + 1)), rS, H', ⟨by have := HK1.out; have := HK2.out; omega⟩, ⟨kU BK231.out⟩, ⟨bU1 HB.out GE231.out⟩⟩
        ·
         replace c19 := Bool.eq_false_iff.mpr c19; subst c19
         have H1 : (some false) = some r := by rw [if_neg (show ¬ (false = true) by decide)] at H; exact H
         clear H; have H := H1; clear H1; obtain rfl := Option.some.inj H; have hcz21_0 : wr.cell? ⟨gb231, 0, none⟩ = some (.string a0_0) := (blk_cell BK231.out 0).trans rfl; have hcz21_1 : wr.cell? ⟨gb231, 1, none⟩ = some (.slice A0_1 l0_1.length c0_1) := (blk_cell BK231.out 1).trans rfl; have hfz21_0 := blk_frozen BK231.out 0; have hfz21_1 := blk_frozen BK231.out 1; have p232 : 0 ≤ (x6_2 : Int) := oA; have q232 : x6_2 < (l0_1.length : Int) := oA; obtain ⟨ad232, e232, hx232_0⟩ := Kd.at_int HR0_1.out x6_2 p232 q232
         cases e232
         (try replace hx232_0 := (HB.out.cell (World.block_lt_of_cell? w _ hx232_0)).trans hx232_0); replace p232 := eq_true p232; replace q232 := eq_true q232
         go_wp2_with (first | ((with_reducible refine gate_callee (f := 63) rfl ?_); refine goesL_ (some 42) rfl rfl Try.func63 (by kernel_rfl) rfl #[.int .i64 (rd l0_1 x6_2), .int .i64 (-1), .int .i64 1] rfl (by (try simp only [List.map_toArray, List.map_cons, List.map_nil]); first | done | rfl | (simp only [List.length_drop, List.length_take]; rfl)) ?_; (with_reducible refine (spec_l6In.calls (rd l0_1 x6_2) (-1) 1 false _ A18.out).mono ?_); rintro e w' ⟨rfl, ⟨nd, rfl⟩⟩; refine ⟨_, rfl, ?_⟩))
         go_ret
         exact ⟨rE, bU1 HB.out GE231.out⟩
       ·
        rw [if_neg c17] at H
        exact absurd H (by simp)
      ·
       rw [if_neg c16] at H; have c16b0 := decide_eq_false c16; clear c16
       by_cases c22 : x3_1 = 0
       ·
        rw [if_pos c22] at H; have c22b0 := beq_iff_eq.mpr c22; have c22b1 := bne_eq_false_iff_eq.mpr c22; clear c22; replace H := Option.bind_eq_some_iff.mp H; obtain ⟨t234, A230, H⟩ := H; replace H : (if t234 = true then (some ((l0_1.length : Int) == x4_1)) else (some false)) = some r := H; have A23 := Az A230; clear A230
        by_cases c24 : t234 = true
        ·
         subst c24
         have H1 : (some ((l0_1.length : Int) == x4_1)) = some r := by rw [if_pos rfl] at H; exact H
         clear H; have H := H1; clear H1; obtain rfl := Option.some.inj H; have hcz25_0 : wr.cell? ⟨gb231, 0, none⟩ = some (.string a0_0) := (blk_cell BK231.out 0).trans rfl; have hcz25_1 : wr.cell? ⟨gb231, 1, none⟩ = some (.slice A0_1 l0_1.length c0_1) := (blk_cell BK231.out 1).trans rfl; have hfz25_0 := blk_frozen BK231.out 0; have hfz25_1 := blk_frozen BK231.out 1
         go_wp2_with (first | (go_at_call 63; (with_reducible refine (spec_l6In.calls x4_1 1 3 true _ A23.out).mono ?_); rintro e w' ⟨rfl, ⟨nd, rfl⟩⟩))
         go_ret
         exact ⟨rE, bU1 HB.out GE231.out⟩
        ·
         replace c24 := Bool.eq_false_iff.mpr c24; subst c24
         have H1 : (some false) = some r := by rw [if_neg (show ¬ (false = true) by decide)] at H; exact H
         clear H; have H := H1; clear H1; obtain rfl := Option.some.inj H; have hcz26_0 : wr.cell? ⟨gb231, 0, none⟩ = some (.string a0_0) := (blk_cell BK231.out 0).trans rfl; have hcz26_1 : wr.cell? ⟨gb231, 1, none⟩ = some (.slice A0_1 l0_1.length c0_1) := (blk_cell BK231.out 1).trans rfl; have hfz26_0 := blk_frozen BK231.out 0; have hfz26_1 := blk_frozen BK231.out 1
         go_wp2_with (first | (go_at_call 63; (with_reducible refine (spec_l6In.calls x4_1 1 3 false _ A23.out).mono ?_); rintro e w' ⟨rfl, ⟨nd, rfl⟩⟩))
         go_ret
         exact ⟨rE, bU1 HB.out GE231.out⟩
       ·
        rw [if_neg c22] at H; have c22b0 := beq_eq_false_iff_ne.mpr c22; have c22b1 := bne_iff_ne.mpr c22; obtain rfl := Option.some.inj H; have hcz27_0 : wr.cell? ⟨gb231, 0, none⟩ = some (.string a0_0) := (blk_cell BK231.out 0).trans rfl; have hcz27_1 : wr.cell? ⟨gb231, 1, none⟩ = some (.slice A0_1 l0_1.length c0_1) := (blk_cell BK231.out 1).trans rfl; have hfz27_0 := blk_frozen BK231.out 0; have hfz27_1 := blk_frozen BK231.out 1
        go_wp2
        go_ret
        exact ⟨rE, bU1 HB.out GE231.out⟩
end Go.Proofs.Ytlpbalebodlipaa.PG
