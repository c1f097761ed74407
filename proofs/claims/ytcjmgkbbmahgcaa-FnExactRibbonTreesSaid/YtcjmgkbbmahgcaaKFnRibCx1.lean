/- For every map, RibbonQuasis of the program answers what RibbonQuasis of the reference answers, and leaves the map as it was. There are no conditions. -/
import Derived.Test.YtcjmgkbbmahgcaaProg
import Derived.Below
import Derived.Deep.Draws
import Derived.Deep.AppendLies
import Derived.Maps.AppendAt
import Derived.OwnWalk
import Derived.Laws.BytesArg
import Derived.Laws.MakeOwn
import Derived.Laws.OwnMore
import Derived.Tactics
import Derived.Lib.ConvBytes
import Derived.Laws.Slices
import Derived.WalkKit
import Derived.KernelRfl
import Derived.RowKit3
import Derived.Deep.LoopGhost
import Derived.Deep.QuietTactic
import Derived.BigQuiet
import Derived.WideLaws
import Derived.Deep.DeepCutAuto
import Derived.Deep.CutBlock
import Derived.Deep.RegionHeld3
import Derived.Lib.AppendStr
import Derived.ArgAppend
import Derived.Laws.IdiomCopy
import Derived.OrdersHeld
import Derived.Laws.BitsLemmas
import Derived.RowKit
import Derived.Laws.RangeAny
import Derived.Laws.RangeString
import Derived.ProofKit
import Derived.OpenShut
import Derived.ShutString
import Derived.ChangeOld
import Derived.SizedLaws
import Derived.Lib.SmallJoins
import Derived.ChangeSlices
import Derived.ChangeArms
import Derived.Test.YtcjmgkbbmahgcaaKFnRibCWWords
import Derived.Test.YtcjmgkbbmahgcaaKFnRibCWLast
import Derived.Test.YtcjmgkbbmahgcaaKFnRibCWTab
import Derived.Test.YtcjmgkbbmahgcaaKFnRibCWApart
import Derived.Test.YtcjmgkbbmahgcaaKFnRibCWFoot
import Derived.Test.YtcjmgkbbmahgcaaKFnRibCWKept
import Derived.Test.YtcjmgkbbmahgcaaKFnRibCWShare
import Derived.Test.YtcjmgkbbmahgcaaKFnRibCWN
import Derived.Test.YtcjmgkbbmahgcaaKFnRibCWAt
import Derived.Test.YtcjmgkbbmahgcaaKFnRibCWRepsOne
import Derived.Test.YtcjmgkbbmahgcaaKFnRibCWGuard
import Derived.Test.YtcjmgkbbmahgcaaKFnRibCWNEv
import Derived.Test.YtcjmgkbbmahgcaaKFnRibCWMore
namespace Go.Proofs.Ytcjmgkbbmahgcaa.PU
open Go.RowKit Go.Proofs.YtcjmgkbbmahgcaaW.PrintWords Go.Proofs.YtcjmgkbbmahgcaaW.PrintLast Go.Proofs.YtcjmgkbbmahgcaaW.PrintMore
theorem oA {p : Prop} [Decidable p] (h : decide p = true := by first | (with_reducible assumption) | assumption) : p := of_decide_eq_true h
theorem rS {p : Prop} (h : p := by first | rfl | (simp; done) | (simp [*]; done)) : p := h
theorem rE {p : Prop} (h : p := by first | rfl | (simp [errW_none, errW_some] <;> rfl) | (simp [*, errW_none, errW_some] <;> rfl)) : p := h
theorem Az {p : Prop} (h : p) : Aside0 p := Aside0.mk h
theorem rU {p q : Prop} (h : q) (f : q → p := by intro h; (with_reducible repeat (first | apply Kd.R_alloc | apply Kd.R_drewN | apply Kd.R_drew)); exact h) : p := f h
theorem sU {p q : Prop} (h : q) (f : q → p := by intro h; (with_reducible repeat (first | apply Kd.S_alloc | apply Kd.S_drewN | apply Kd.S_drew)); exact h) : p := f h
theorem vU {p q : Prop} (h : q) (f : q → p := by intro h; (with_reducible repeat (first | apply Kd.V_alloc | apply Kd.V_drewN | apply Kd.V_drew)); exact h) : p := f h
theorem nU {p q : Prop} (h : q) (f : q → p := by intro h; (with_reducible repeat (first | apply Kd.N_alloc | apply Kd.N_drewN | apply Kd.N_drew)); exact h) : p := f h
theorem qU {p q : Prop} (h : q) (f : q → p := by intro h; (with_reducible repeat (first | apply Kd.Q_alloc | apply Kd.Q_drewN | apply Kd.Q_drew)); exact h) : p := f h
theorem kU {p q : Prop} (h : q) (f : q → p := by intro h; (with_reducible repeat (first | refine blk_drewN ?_ _ | refine blk_drew ?_ | refine blk_alloc ?_ _)); exact h) : p := f h
theorem cU {p q : Prop} (h : q) (f : q → p := by intro h; repeat (first | exact h | (with_reducible refine Kd.C_alloc ?_ _) | (with_reducible refine Kd.C_drewN ?_ _) | (with_reducible refine Kd.C_drew ?_))) : p := f h
theorem bU0 {p q : Prop} (h : q) (f : q → p := by intro h; repeat (first | (with_reducible first | exact h | apply below_alloc | apply pw_below_drewN | apply below_drew1) | exact h)) : p := f h
theorem bU1 {p q a0 : Prop} (h : q) (g0 : a0) (f : q → a0 → p := by intro h g0; repeat (first | (with_reducible first | exact h | apply below_alloc | apply pw_below_drewN | apply below_drew1 | refine below_set ?_ g0) | exact h)) : p := f h g0
theorem bU2 {p q a0 a1 : Prop} (h : q) (g0 : a0) (g1 : a1) (f : q → a0 → a1 → p := by intro h g0 g1; repeat (first | (with_reducible first | exact h | apply below_alloc | apply pw_below_drewN | apply below_drew1 | refine below_set ?_ g0 | refine below_set ?_ g1) | exact h)) : p := f h g0 g1
theorem bU3 {p q a0 a1 a2 : Prop} (h : q) (g0 : a0) (g1 : a1) (g2 : a2) (f : q → a0 → a1 → a2 → p := by intro h g0 g1 g2; repeat (first | (with_reducible first | exact h | apply below_alloc | apply pw_below_drewN | apply below_drew1 | refine below_set ?_ g0 | refine below_set ?_ g1 | refine below_set ?_ g2) | exact h)) : p := f h g0 g1 g2
theorem bU4 {p q a0 a1 a2 a3 : Prop} (h : q) (g0 : a0) (g1 : a1) (g2 : a2) (g3 : a3) (f : q → a0 → a1 → a2 → a3 → p := by intro h g0 g1 g2 g3; repeat (first | (with_reducible first | exact h | apply below_alloc | apply pw_below_drewN | apply below_drew1 | refine below_set ?_ g0 | refine below_set ?_ g1 | refine below_set ?_ g2 | refine below_set ?_ g3) | exact h)) : p := f h g0 g1 g2 g3
theorem bU5 {p q a0 a1 a2 a3 a4 : Prop} (h : q) (g0 : a0) (g1 : a1) (g2 : a2) (g3 : a3) (g4 : a4) (f : q → a0 → a1 → a2 → a3 → a4 → p := by intro h g0 g1 g2 g3 g4; repeat (first | (with_reducible first | exact h | apply below_alloc | apply pw_below_drewN | apply below_drew1 | refine below_set ?_ g0 | refine below_set ?_ g1 | refine below_set ?_ g2 | refine below_set ?_ g3 | refine below_set ?_ g4) | exact h)) : p := f h g0 g1 g2 g3 g4
theorem hR {α : Type} {a b : α} {p q : Prop} (e : a = b) (h : q) (f : a = b → q → p := by intro e H; first | (rw [e]; with_reducible exact H) | (have H2_ := (Option.bind_some _ _).symm.trans H; rw [e]; with_reducible exact H2_) | (have H2_ := (Option.bind_some _ _).symm.trans H; with_reducible exact H2_) | with_reducible exact H | (rw [e]; exact H) | exact H) : p := f e h
attribute [local go_sem] max2_int min2_int max_two min_two max_three min_three max_four min_four   -- for this text's walks alone
set_option linter.unusedVariables false
set_option linter.unusedSimpArgs false
def errW : Option Int → Value
 | none => .nilIface
 | some c => .iface 0 (.int .i64 c)
theorem errW_none : errW none = .nilIface := rfl
theorem errW_some (c : Int) : errW (some c) = .iface 0 (.int .i64 c) := rfl
theorem info3 : (Try.prog.info? 3).map (fun i => (i.zero, i.size, i.bytes)) = some (some (.int .i64 0), 1, 8) := by kernel_rfl
theorem info4 : (Try.prog.info? 4).map (fun i => (i.zero, i.size, i.bytes)) = some (some (.bool false), 1, 1) := by kernel_rfl
theorem info22 : (Try.prog.info? 22).map (fun i => (i.zero, i.size, i.bytes)) = some (some (.slice none 0 0), 1, 24) := by kernel_rfl
def rd_L1 (xs : List (List Int)) (i : Int) : (List Int) := xs.getD i.toNat ([] : List Int)
theorem at_L1 {w : World} {A : Option Addr} {n : Nat} {xs : List (List Int)} (h : Kd.C (Kd.slice 3 (Kd.int .i64)) w A n xs) (i : Int) (h0 : 0 ≤ i) (h1 : i < n) : ∃ ad A0 c0, A = some ad ∧ w.cell? (ad.add i.toNat) = some (.slice A0 (rd_L1 xs i).length c0) ∧ (rd_L1 xs i).length ≤ c0 ∧ (Kd.int .i64).C w A0 (rd_L1 xs i).length (rd_L1 xs i) := by
 obtain ⟨ad, c, e, _, hK, hc0⟩ := Kd.C_get h ([] : List Int) i h0 h1; have hc : ∀ j u, c[j]? = some u → w.cell? (ad.add (i.toNat * 1 + j)) = some u := hc0; obtain ⟨A0, c0, rfl, l0, g0⟩ := hK
 exact ⟨ad, A0, c0, e, by have hq := hc 0 _ rfl; rwa [Nat.mul_one, Nat.add_zero] at hq, l0, g0⟩
end Go.Proofs.Ytcjmgkbbmahgcaa.PU

namespace Go.Proofs.Ytcjmgkbbmahgcaa.PU
open Go.RowKit Go.Proofs.YtcjmgkbbmahgcaaW.PrintWords Go.Proofs.YtcjmgkbbmahgcaaW.PrintLast Go.Proofs.YtcjmgkbbmahgcaaW.PrintMore
attribute [local go_sem] max2_int min2_int max_two min_two max_three min_three max_four min_four   -- for this text's walks alone
set_option linter.unusedVariables false
set_option linter.unusedSimpArgs false
def laws_szIntS.f (l0 : List Int) (a1 : Int) : Option (Int) := if (wrap64 (a1 - (l0.length : Int))) < 0 then (some (-1)) else (some (wrap64 (a1 - (l0.length : Int))))
set_option maxHeartbeats 8000000 in
set_option maxRecDepth 100000 in
theorem laws_szIntS.calls (A0 : Option Addr) (c0 : Nat) (l0 : List Int) (a1 : Int) (r : Int) (w : World) (hr0 : Kd.C (Kd.int .i64) w A0 l0.length l0) (hc0 : l0.length ≤ c0) (h : laws_szIntS.f l0 a1 = some r) :
  Calls Try.prog 48 #[.slice A0 l0.length c0, .int .i64 a1] w fun e w' => e = .returned (.int .i64 r) ∧ Drawn0 w w' := by
 have HR0 := Az hr0; have HC0 := Az hc0; clear hr0 hc0; have H : (if (wrap64 (a1 - (l0.length : Int))) < 0 then (some (-1)) else (some (wrap64 (a1 - (l0.length : Int))))) = some r := h; clear h
 by_cases c3 : (wrap64 (a1 - (l0.length : Int))) < 0
 ·
  rw [if_pos c3] at H; have c3b0 := decide_eq_true c3; clear c3; obtain rfl := Option.some.inj H
  go_enter Try.func48, Try.ntmps48
  go_wp2
  go_ret
  exact ⟨by first | rfl | (simp; done) | (simp [*]; done), by repeat (first | exact Drawn0.refl _ | apply Drawn0.step)⟩
 ·
  rw [if_neg c3] at H; have c3b0 := decide_eq_false c3; clear c3; obtain rfl := Option.some.inj H
  go_enter Try.func48, Try.ntmps48
  go_wp2
  go_ret
  exact ⟨by first | rfl | (simp; done) | (simp [*]; done), by repeat (first | exact Drawn0.refl _ | apply Drawn0.step)⟩
def laws_szMap.f (l0_0 : List Int) (l0_1 : List Int) (a1 : Int) : Option (Int) := (laws_szIntS.f l0_0 a1).bind fun t102 => (if t102 < 0 then (some (-1)) else ((laws_szIntS.f l0_1 t102).bind fun t103 => (if t103 < 0 then (some (-1)) else (some t103))))
set_option maxHeartbeats 8000000 in
set_option maxRecDepth 100000 in
theorem laws_szMap.calls (A0_0 : Option Addr) (c0_0 : Nat) (l0_0 : List Int) (A0_1 : Option Addr) (c0_1 : Nat) (l0_1 : List Int) (a1 : Int) (r : Int) (w : World) (hr0_0 : Kd.C (Kd.int .i64) w A0_0 l0_0.length l0_0) (hc0_0 : l0_0.length ≤ c0_0) (hr0_1 : Kd.C (Kd.int .i64) w A0_1 l0_1.length l0_1) (hc0_1 : l0_1.length ≤ c0_1) (h : laws_szMap.f l0_0 l0_1 a1 = some r) :
  Calls Try.prog 15 #[.agg #[.slice A0_0 l0_0.length c0_0, .slice A0_1 l0_1.length c0_1], .int .i64 a1] w fun e w' => e = .returned (.int .i64 r) ∧ Below w.heap.size w w' := by
 have hu24 := Try.underlying24; have HR0_0 := Az hr0_0; have HC0_0 := Az hc0_0; clear hr0_0 hc0_0; have HR0_1 := Az hr0_1; have HC0_1 := Az hc0_1; clear hr0_1 hc0_1; have HB := Az (Below.refl w.heap.size w); have H : ((laws_szIntS.f l0_0 a1).bind fun t102 => (if t102 < 0 then (some (-1)) else ((laws_szIntS.f l0_1 t102).bind fun t103 => (if t103 < 0 then (some (-1)) else (some t103))))) = some r := h; clear h; replace H := Option.bind_eq_some_iff.mp H; obtain ⟨t102, A30, H⟩ := H; replace H : (if t102 < 0 then (some (-1)) else ((laws_szIntS.f l0_1 t102).bind fun t103 => (if t103 < 0 then (some (-1)) else (some t103)))) = some r := H; have A3 := Az A30; clear A30
 by_cases c4 : t102 < 0
 ·
  rw [if_pos c4] at H; have c4b0 := decide_eq_true c4; clear c4; obtain rfl := Option.some.inj H
  go_enter Try.func15, Try.ntmps15
  go_wp2_with (first | ((with_reducible refine gate_dst (N := 2) rfl ?_); refine box_event ?hg (N := 2) ?hd (cs := #[.slice A0_0 l0_0.length c0_0, .slice A0_1 l0_1.length c0_1]) (t := 24) ?hr ?_; (case hd => rfl); (case hg => rfl); (case hr => first | (go_simp; done) | (go_simp; rfl)); intro gb101 hg w5 hbox hb; have n0 := Az (below_step (bU0 HB.out) hb); have n1 := Az (hbox); have n2 := Az ((by rw [hg]; exact (below_size (bU0 HB.out)) : w.heap.size ≤ gb101)); have n3 := n2; clear HB; have HB := n0; have BK101 := n1; have GW101 := n2; have GE101 := n3; clear n0 n1 n2 n3 hb hbox hg; have hcz6_0 : w5.cell? ⟨gb101, 0, none⟩ = some (.slice A0_0 l0_0.length c0_0) := (blk_cell BK101.out 0).trans rfl; have hcz6_1 : w5.cell? ⟨gb101, 1, none⟩ = some (.slice A0_1 l0_1.length c0_1) := (blk_cell BK101.out 1).trans rfl; have hfz6_0 := blk_frozen BK101.out 0; have hfz6_1 := blk_frozen BK101.out 1) | ((with_reducible refine gate_callee (f := 48) rfl ?_); refine goesL_ (some 8) rfl rfl Try.func48 (by kernel_rfl) rfl #[.slice A0_0 l0_0.length c0_0, .int .i64 a1] rfl (by (try simp only [List.map_toArray, List.map_cons, List.map_nil]); first | done | rfl | (simp only [List.length_drop, List.length_take]; rfl)) ?_; (with_reducible refine (laws_szIntS.calls _ _ l0_0 a1 t102 _ ?side1 ?side2 A3.out).mono ?_); (case side1 => exact cU (Kd.C_below HR0_0.out HB.out)); (case side2 => exact HC0_0.out); rintro e w' ⟨rfl, ⟨nd, rfl⟩⟩; refine ⟨_, rfl, ?_⟩))
  go_ret
  exact ⟨rE, bU1 HB.out GE101.out⟩
 ·
  rw [if_neg c4] at H; have c4b0 := decide_eq_false c4; clear c4; replace H := Option.bind_eq_some_iff.mp H; obtain ⟨t103, A70, H⟩ := H; replace H : (if t103 < 0 then (some (-1)) else (some t103)) = some r := H; have A7 := Az A70; clear A70
  by_cases c8 : t103 < 0
  ·
   rw [if_pos c8] at H; have c8b0 := decide_eq_true c8; clear c8; obtain rfl := Option.some.inj H
   go_enter Try.func15, Try.ntmps15
   go_wp2_with (first | ((with_reducible refine gate_dst (N := 2) rfl ?_); refine box_event ?hg (N := 2) ?hd (cs := #[.slice A0_0 l0_0.length c0_0, .slice A0_1 l0_1.length c0_1]) (t := 24) ?hr ?_; (case hd => rfl); (case hg => rfl); (case hr => first | (go_simp; done) | (go_simp; rfl)); intro gb101 hg w9 hbox hb; have n0 := Az (below_step (bU0 HB.out) hb); have n1 := Az (hbox); have n2 := Az ((by rw [hg]; exact (below_size (bU0 HB.out)) : w.heap.size ≤ gb101)); have n3 := n2; clear HB; have HB := n0; have BK101 := n1; have GW101 := n2; have GE101 := n3; clear n0 n1 n2 n3 hb hbox hg; have hcz10_0 : w9.cell? ⟨gb101, 0, none⟩ = some (.slice A0_0 l0_0.length c0_0) := (blk_cell BK101.out 0).trans rfl; have hcz10_1 : w9.cell? ⟨gb101, 1, none⟩ = some (.slice A0_1 l0_1.length c0_1) := (blk_cell BK101.out 1).trans rfl; have hfz10_0 := blk_frozen BK101.out 0; have hfz10_1 := blk_frozen BK101.out 1) | ((with_reducible refine gate_callee (f := 48) rfl ?_); refine goesL_ (some 8) rfl rfl Try.func48 (by kernel_rfl) rfl #[.slice A0_0 l0_0.length c0_0, .int .i64 a1] rfl (by (try simp only [List.map_toArray, List.map_cons, List.map_nil]); first | done | rfl | (simp only [List.length_drop, List.length_take]; rfl)) ?_; (with_reducible refine (laws_szIntS.calls _ _ l0_0 a1 t102 _ ?side1 ?side2 A3.out).mono ?_); (case side1 => exact cU (Kd.C_below HR0_0.out HB.out)); (case side2 => exact HC0_0.out); rintro e w' ⟨rfl, ⟨nd, rfl⟩⟩; refine ⟨_, rfl, ?_⟩) | ((with_reducible refine gate_callee (f := 48) rfl ?_); refine goesL_ (some 14) rfl rfl Try.func48 (by kernel_rfl) rfl #[.slice A0_1 l0_1.length c0_1, .int .i64 t102] rfl (by (try simp only [List.map_toArray, List.map_cons, List.map_nil]); first | done | rfl | (simp only [List.length_drop, List.length_take]; rfl)) ?_; (with_reducible refine (laws_szIntS.calls _ _ l0_1 t102 t103 _ ?side1 ?side2 A7.out).mono ?_); (case side1 => exact cU (Kd.C_below HR0_1.out (bU1 HB.out GE101.out))); (case side2 => exact HC0_1.out); rintro e w' ⟨rfl, ⟨nd, rfl⟩⟩; refine ⟨_, rfl, ?_⟩))
   go_ret
   exact ⟨rE, bU1 HB.out GE101.out⟩
  ·
   rw [if_neg c8] at H; have c8b0 := decide_eq_false c8; clear c8; obtain rfl := Option.some.inj H
   go_enter Try.func15, Try.ntmps15
   go_wp2_with (first | ((with_reducible refine gate_dst (N := 2) rfl ?_); refine box_event ?hg (N := 2) ?hd (cs := #[.slice A0_0 l0_0.length c0_0, .slice A0_1 l0_1.length c0_1]) (t := 24) ?hr ?_; (case hd => rfl); (case hg => rfl); (case hr => first | (go_simp; done) | (go_simp; rfl)); intro gb101 hg w11 hbox hb; have n0 := Az (below_step (bU0 HB.out) hb); have n1 := Az (hbox); have n2 := Az ((by rw [hg]; exact (below_size (bU0 HB.out)) : w.heap.size ≤ gb101)); have n3 := n2; clear HB; have HB := n0; have BK101 := n1; have GW101 := n2; have GE101 := n3; clear n0 n1 n2 n3 hb hbox hg; have hcz12_0 : w11.cell? ⟨gb101, 0, none⟩ = some (.slice A0_0 l0_0.length c0_0) := (blk_cell BK101.out 0).trans rfl; have hcz12_1 : w11.cell? ⟨gb101, 1, none⟩ = some (.slice A0_1 l0_1.length c0_1) := (blk_cell BK101.out 1).trans rfl; have hfz12_0 := blk_frozen BK101.out 0; have hfz12_1 := blk_frozen BK101.out 1) | ((with_reducible refine gate_callee (f := 48) rfl ?_); refine goesL_ (some 8) rfl rfl Try.func48 (by kernel_rfl) rfl #[.slice A0_0 l0_0.length c0_0, .int .i64 a1] rfl (by (try simp only [List.map_toArray, List.map_cons, List.map_nil]); first | done | rfl | (simp only [List.length_drop, List.length_take]; rfl)) ?_; (with_reducible refine (laws_szIntS.calls _ _ l0_0 a1 t102 _ ?side1 ?side2 A3.out).mono ?_); (case side1 => exact cU (Kd.C_below HR0_0.out HB.out)); (case side2 => exact HC0_0.out); rintro e w' ⟨rfl, ⟨nd, rfl⟩⟩; refine ⟨_, rfl, ?_⟩) | ((with_reducible refine gate_callee (f := 48) rfl ?_); refine goesL_ (some 14) rfl rfl Try.func48 (by kernel_rfl) rfl #[.slice A0_1 l0_1.length c0_1, .int .i64 t102] rfl (by (try simp only [List.map_toArray, List.map_cons, List.map_nil]); first | done | rfl | (simp only [List.length_drop, List.length_take]; rfl)) ?_; (with_reducible refine (laws_szIntS.calls _ _ l0_1 t102 t103 _ ?side1 ?side2 A7.out).mono ?_); (case side1 => exact cU (Kd.C_below HR0_1.out (bU1 HB.out GE101.out))); (case side2 => exact HC0_1.out); rintro e w' ⟨rfl, ⟨nd, rfl⟩⟩; refine ⟨_, rfl, ?_⟩))
   go_ret
   exact ⟨rE, bU1 HB.out GE101.out⟩
def laws_toIntS.l0 : Nat → List Int → List Int → Int → Option (List Int)
 | 0, _, _, _ => none
 | k + 1, x0, x3, x4 => if x4 < (x0.length : Int) then (if 0 ≤ x4 then (if x4 < (x3.length : Int) then (laws_toIntS.l0 k x0 (x3.set (x4 : Int).toNat (rd x0 x4)) (wrap64 (x4 + 1))) else (none)) else (none)) else (some x3)
def laws_toIntS.f (k : Nat) (l0 : List Int) : Option (List Int) := if 0 ≤ (l0.length : Int) then (if ((l0.length : Int) : Int).toNat ≤ 35184372088832 then (laws_toIntS.l0 k l0 (List.replicate ((l0.length : Int) : Int).toNat 0) 0) else (none)) else (none)
set_option maxHeartbeats 8000000 in
set_option maxRecDepth 100000 in
theorem laws_toIntS.calls (k : Nat) (A0 : Option Addr) (c0 : Nat) (l0 : List Int) (r : List Int) (w : World) (hr0 : Kd.C (Kd.int .i64) w A0 l0.length l0) (hc0 : l0.length ≤ c0) (h : laws_toIntS.f k l0 = some r) :
  Calls Try.prog 18 #[.slice A0 l0.length c0] w fun e w' => ∃ v0_ : Value, e = .returned (v0_) ∧ Kd.R (Kd.int .i64) 3 w' w.heap.size (fun _ => True) v0_ r ∧ Below w.heap.size w w' := by
 have HR0 := Az hr0; have HC0 := Az hc0; clear hr0 hc0; have HB := Az (Below.refl w.heap.size w); have H : (if 0 ≤ (l0.length : Int) then (if ((l0.length : Int) : Int).toNat ≤ 35184372088832 then (laws_toIntS.l0 k l0 (List.replicate ((l0.length : Int) : Int).toNat 0) 0) else (none)) else (none)) = some r := h; clear h
 by_cases c2 : 0 ≤ (l0.length : Int)
 ·
  rw [if_pos c2] at H; have c2b0 := eq_true c2; have c2b1 := decide_eq_true c2; clear c2
  by_cases c3 : ((l0.length : Int) : Int).toNat ≤ 35184372088832
  ·
   rw [if_pos c3] at H; have c3b0 := eq_true c3; have c3b1 := decide_eq_true c3; clear c3; obtain ⟨y104, hy104⟩ : ∃ y_ : List Int, y_ = (List.replicate ((l0.length : Int) : Int).toNat 0) := ⟨_, rfl⟩; replace H : (laws_toIntS.l0 k l0 y104 0) = some r := hR hy104 H; have Ny104 := Az hy104; clear hy104; have H' := Az H; clear H
   go_enter Try.func18, Try.ntmps18
   go_wp2_with (first | ((with_reducible refine gate_dst (N := 7) rfl ?_); refine Kd.R_make (Kd.int .i64) _ 3 rfl (N := 7) rfl 22 _ _ rfl (l0.length : Int) rfl rfl Try.underlying22 (.int .i64 0) 8 info3 rfl (by decide) (by omega) 0 (ok := fun _ => True) (okp := fun _ => True) rfl (fun _ hk => hk) trivial (oA) (Nat.le_trans (Nat.mul_le_mul_right _ (oA : (l0.length : Int).toNat ≤ 35184372088832)) (by omega)) (Below.refl _ _) (Nat.le_refl _) ?_; intro v105 w4 ho5 hb hg_ hnew_; clear hg_ hnew_; (first | rw [← Ny104.out] at ho5 | (simp only [Int.reduceToNat] at ho5; rw [← Ny104.out] at ho5)); have n0 := Az (Kd.R_lower ho5 (below_size (bU0 HB.out))); have n1 := Az (below_step (bU0 HB.out) hb); clear HB; have HO106 := n0; have HB := n1; clear n0 n1; clear hb ho5))
   go_loopg [4] k (fun kq v4 w' => ∃ (x3_1 : List Int) (x4_1 : Int), v4 = .int .i64 x4_1 ∧ Aside0 (laws_toIntS.l0 kq l0 x3_1 x4_1 = some r) ∧ Aside0 (kq ≤ k) ∧ Aside0 (Kd.R (Kd.int .i64) 3 w' w.heap.size (fun _ => True) v105 x3_1) ∧ Aside0 (Below w.heap.size w w'))
   case atStart => exact ⟨(y104), (0), rS, H', ⟨Nat.le_refl _⟩, ⟨rU HO106.out⟩, ⟨bU0 HB.out⟩⟩
   case round =>
    clear H'; (try clear c1); (try clear c2); (try clear c2b0); (try clear c2b1); (try clear p2); (try clear c3); (try clear c3b0); (try clear c3b1); obtain ⟨x3_1, x4_1, rfl, HA, HK1, HO_3, HB⟩ := hrel
    cases gk with
    | zero => exact absurd HA.out (by simp [laws_toIntS.l0])
    | succ k1 =>
     have H := HA.out; clear HA; simp only [laws_toIntS.l0] at H
     by_cases c6 : x4_1 < (l0.length : Int)
     ·
      rw [if_pos c6] at H; have c6b0 := decide_eq_true c6; clear c6
      by_cases c7 : 0 ≤ x4_1
      ·
       rw [if_pos c7] at H; have c7b0 := decide_eq_true c7; clear c7
       by_cases c8 : x4_1 < (x3_1.length : Int)
       ·
        rw [if_pos c8] at H; have c8b0 := decide_eq_true c8; clear c8; obtain ⟨y108, hy108⟩ : ∃ y_ : List Int, y_ = (x3_1.set (x4_1 : Int).toNat (rd l0 x4_1)) := ⟨_, rfl⟩; replace H : (laws_toIntS.l0 k1 l0 y108 (wrap64 (x4_1 + 1))) = some r := hR hy108 H; have Ny108 := Az hy108; clear hy108; have H' := Az H; clear H; have p107 : 0 ≤ (x4_1 : Int) := oA; have q107 : x4_1 < (l0.length : Int) := oA; obtain ⟨ad107, e107, hx107_0⟩ := Kd.at_int HR0.out x4_1 p107 q107
        cases e107
        (try replace hx107_0 := (HB.out.cell (World.block_lt_of_cell? w _ hx107_0)).trans hx107_0); replace p107 := eq_true p107; replace q107 := eq_true q107; have p9 : 0 ≤ (x4_1 : Int) := oA; have q9 : (x4_1 : Int) < ((x3_1.length : Int) : Int) := oA; obtain ⟨go9, co9, eo9, gb9, gl9, cl9, HG9⟩ := Kd.R_form HO_3.out (by omega); (first | cases eo9 | (injection eo9 with ea_ en_ ec_; (first | subst ea_ | (injection ea_ with ea_; subst ea_)); subst ec_; clear en_)); have GB9 := Az gb9; have GG9 := Az HG9; clear gb9 gl9 HG9; obtain ⟨hx9_0, hf9_0⟩ := Kd.R_celln 0 HO_3.out (x4_1 : Int) p9 q9; replace p9 := eq_true p9; replace q9 := eq_true q9; obtain ⟨hy10_, hz10_⟩ := Kd.R_celln 0 HO_3.out (x4_1 : Int) (oA) (oA); have HP10 := Kd.R_putg HO_3.out (x4_1 : Int) (rd l0 x4_1)
        go_wp2_with (first | ((with_reducible refine gate_store (t := 3) (p := 20) rfl ?_); refine store_event (t := 3) (p := 20) (v := ?vo_w11) (w1 := (wr.setCell ⟨go9, (x4_1 : Int).toNat, none⟩ (.int .i64 (rd l0 x4_1)))) ?hg ?ho ?hn ?hr ?_; (case ho => rfl); (case hg => rfl); (case hn => rfl); (case hr => first | (go_simp; done) | (go_simp; rfl)); intro w11 hw; have hg : wr.grownBy w11 (some go9) := (by rw [hw]; exact HP10.2); have hp_ : Kd.R (Kd.int .i64) 3 w11 w.heap.size (fun _ => True) (.slice (some ⟨go9, 0, none⟩) x3_1.length co9) y108 := (by rw [hw, Ny108.out]; exact HP10.1); clear HP10; have n0 := Az (hp_); have n1 := Az ((by rw [hw]; exact below_set (HB.out) GB9.out : Below w.heap.size w w11)); clear HO_3 HB; have HO_3 := n0; have HB := n1; clear n0 n1; clear hg hw hp_))
        (first | go_roundg k1 | (refine Handed.intro k1 ?measure ?_; rotate_left; go_step; (try simp only [add_plain]); (repeat apply Exists.intro); refine ⟨?rel, rfl⟩))
        case measure => have := HK1.out; omega
        case rel => exact ⟨(y108), (wrap64 (x4_1 + 1)), rS, H', ⟨by have := HK1.out; omega⟩, ⟨rU HO_3.out⟩, ⟨bU0 HB.out⟩⟩
       ·
        rw [if_neg c8] at H
        exact absurd H (by simp)
      ·
       rw [if_neg c7] at H
       exact absurd H (by simp)
     ·
      rw [if_neg c6] at H; have c6b0 := decide_eq_false c6; clear c6; obtain rfl := Option.some.inj H
      go_wp2
      go_ret
      exact ⟨_, rE, rU HO_3.out, bU0 HB.out⟩
  ·
   rw [if_neg c3] at H
   exact absurd H (by simp)
 ·
  rw [if_neg c2] at H
  exact absurd H (by simp)
def laws_toMap.f (k : Nat) (l0_0 : List Int) (l0_1 : List Int) : Option (List Int × List Int) := (laws_toIntS.f k l0_0).bind fun t112 => ((laws_toIntS.f k l0_1).bind fun t115 => (some (t112, t115)))
set_option maxHeartbeats 8000000 in
set_option maxRecDepth 100000 in
theorem laws_toMap.calls (k : Nat) (A0_0 : Option Addr) (c0_0 : Nat) (l0_0 : List Int) (A0_1 : Option Addr) (c0_1 : Nat) (l0_1 : List Int) (r1 : List Int) (r2 : List Int) (w : World) (hr0_0 : Kd.C (Kd.int .i64) w A0_0 l0_0.length l0_0) (hc0_0 : l0_0.length ≤ c0_0) (hr0_1 : Kd.C (Kd.int .i64) w A0_1 l0_1.length l0_1) (hc0_1 : l0_1.length ≤ c0_1) (h : laws_toMap.f k l0_0 l0_1 = some (r1, r2)) :
  Calls Try.prog 17 #[.agg #[.slice A0_0 l0_0.length c0_0, .slice A0_1 l0_1.length c0_1]] w fun e w' => ∃ v0_ v1_ : Value, e = .returned (.agg #[v0_, v1_]) ∧ Kd.R (Kd.int .i64) 3 w' w.heap.size (fun k_ => some k_ ≠ (v1_ : Value).ownBlock) v0_ r1 ∧ Kd.R (Kd.int .i64) 3 w' w.heap.size (fun k_ => some k_ ≠ (v0_ : Value).ownBlock) v1_ r2 ∧ Below w.heap.size w w' := by
 have hu24 := Try.underlying24; have hu27 := Try.underlying27; have HR0_0 := Az hr0_0; have HC0_0 := Az hc0_0; clear hr0_0 hc0_0; have HR0_1 := Az hr0_1; have HC0_1 := Az hc0_1; clear hr0_1 hc0_1; have HB := Az (Below.refl w.heap.size w); have H : ((laws_toIntS.f k l0_0).bind fun t112 => ((laws_toIntS.f k l0_1).bind fun t115 => (some (t112, t115)))) = some (r1, r2) := h; clear h; replace H := Option.bind_eq_some_iff.mp H; obtain ⟨t112, A20, H⟩ := H; replace H : ((laws_toIntS.f k l0_1).bind fun t115 => (some (t112, t115))) = some (r1, r2) := H; have A2 := Az A20; clear A20; replace H := Option.bind_eq_some_iff.mp H; obtain ⟨t115, A30, H⟩ := H; replace H : (some (t112, t115)) = some (r1, r2) := H; have A3 := Az A30; clear A30; simp only [Option.some.injEq, Prod.mk.injEq] at H; obtain ⟨rfl, rfl⟩ := H
 go_enter Try.func17, Try.ntmps17
 go_wp2_with (first | ((with_reducible refine gate_dst (N := 1) rfl ?_); refine box_event ?hg (N := 1) ?hd (cs := #[.slice A0_0 l0_0.length c0_0, .slice A0_1 l0_1.length c0_1]) (t := 24) ?hr ?_; (case hd => rfl); (case hg => rfl); (case hr => first | (go_simp; done) | (go_simp; rfl)); intro gb109 hg w4 hbox hb; have n0 := Az (below_step (bU0 HB.out) hb); have n1 := Az (hbox); have n2 := Az ((by rw [hg]; exact (below_size (bU0 HB.out)) : w.heap.size ≤ gb109)); have n3 := n2; clear HB; have HB := n0; have BK109 := n1; have GW109 := n2; have GE109 := n3; clear n0 n1 n2 n3; clear hb hbox hg) | ((with_reducible refine gate_dst (N := 2) rfl ?_); refine box_event ?hg (N := 2) ?hd (cs := #[.slice none 0 0, .slice none 0 0]) (t := 27) ?hr ?_; (case hd => rfl); (case hg => rfl); (case hr => first | (go_simp; done) | (go_simp; rfl)); intro gb110 hg w5 hbox hb; have n0 := Az (blk_below (g := gb109) (o := .cells #[.slice A0_0 l0_0.length c0_0, .slice A0_1 l0_1.length c0_1] 24 (0, 0)) (kU BK109.out) hb); have n1 := Az (below_step (bU1 HB.out GE109.out) hb); have n2 := Az (hbox); have n3 := Az ((by rw [hg]; exact (below_size (bU1 HB.out GE109.out)) : w.heap.size ≤ gb110)); have n4 := n3; have n5 := Az ((by rw [hg]; exact Nat.ne_of_lt (blk_lt (g := gb109) (o := .cells #[.slice A0_0 l0_0.length c0_0, .slice A0_1 l0_1.length c0_1] 24 (0, 0)) (kU BK109.out)) : gb109 ≠ gb110)); have n6 := Az ((by rw [hg]; exact Nat.ne_of_gt (blk_lt (g := gb109) (o := .cells #[.slice A0_0 l0_0.length c0_0, .slice A0_1 l0_1.length c0_1] 24 (0, 0)) (kU BK109.out)) : gb110 ≠ gb109)); clear BK109 HB; have BK109 := n0; have HB := n1; have BK110 := n2; have GW110 := n3; have GE110 := n4; have NB109_110 := n5; have NB110_109 := n6; clear n0 n1 n2 n3 n4 n5 n6; clear hb hbox hg) | ((with_reducible refine gate_dst (N := 3) rfl ?_); refine box_event ?hg (N := 3) ?hd (cs := #[.slice none 0 0, .slice none 0 0]) (t := 27) ?hr ?_; (case hd => rfl); (case hg => rfl); (case hr => first | (go_simp; done) | (go_simp; rfl)); intro gb111 hg w6 hbox hb; have n0 := Az (blk_below (g := gb109) (o := .cells #[.slice A0_0 l0_0.length c0_0, .slice A0_1 l0_1.length c0_1] 24 (0, 0)) (kU BK109.out) hb); have n1 := Az (blk_below (g := gb110) (o := .cells #[.slice none 0 0, .slice none 0 0] 27 (0, 0)) (kU BK110.out) hb); have n2 := Az (below_step (bU2 HB.out GE109.out GE110.out) hb); have n3 := Az (hbox); have n4 := Az ((by rw [hg]; exact (below_size (bU2 HB.out GE109.out GE110.out)) : w.heap.size ≤ gb111)); have n5 := n4; have n6 := Az ((by rw [hg]; exact Nat.ne_of_lt (blk_lt (g := gb109) (o := .cells #[.slice A0_0 l0_0.length c0_0, .slice A0_1 l0_1.length c0_1] 24 (0, 0)) (kU BK109.out)) : gb109 ≠ gb111)); have n7 := Az ((by rw [hg]; exact Nat.ne_of_gt (blk_lt (g := gb109) (o := .cells #[.slice A0_0 l0_0.length c0_0, .slice A0_1 l0_1.length c0_1] 24 (0, 0)) (kU BK109.out)) : gb111 ≠ gb109)); have n8 := Az ((by rw [hg]; exact Nat.ne_of_lt (blk_lt (g := gb110) (o := .cells #[.slice none 0 0, .slice none 0 0] 27 (0, 0)) (kU BK110.out)) : gb110 ≠ gb111)); have n9 := Az ((by rw [hg]; exact Nat.ne_of_gt (blk_lt (g := gb110) (o := .cells #[.slice none 0 0, .slice none 0 0] 27 (0, 0)) (kU BK110.out)) : gb111 ≠ gb110)); clear BK109 BK110 HB; have BK109 := n0; have BK110 := n1; have HB := n2; have BK111 := n3; have GW111 := n4; have GE111 := n5; have NB109_111 := n6; have NB111_109 := n7; have NB110_111 := n8; have NB111_110 := n9; clear n0 n1 n2 n3 n4 n5 n6 n7 n8 n9 hb hbox hg; have hnb7 := NB109_110.out; have hnc7 := NB110_109.out; have hnb8 := NB109_111.out; have hnc8 := NB111_109.out; have hcz9_0 : w6.cell? ⟨gb109, 0, none⟩ = some (.slice A0_0 l0_0.length c0_0) := (blk_cell BK109.out 0).trans rfl; have hcz9_1 : w6.cell? ⟨gb109, 1, none⟩ = some (.slice A0_1 l0_1.length c0_1) := (blk_cell BK109.out 1).trans rfl; have hfz9_0 := blk_frozen BK109.out 0; have hfz9_1 := blk_frozen BK109.out 1) | ((with_reducible refine gate_callee (f := 18) rfl ?_); refine goesL_ (some 6) rfl rfl Try.func18 (by kernel_rfl) rfl #[.slice A0_0 l0_0.length c0_0] rfl (by (try simp only [List.map_toArray, List.map_cons, List.map_nil]); first | done | rfl | (simp only [List.length_drop, List.length_take]; rfl)) ?_; (with_reducible refine (laws_toIntS.calls k _ _ l0_0 t112 _ ?side1 ?side2 A2.out).mono ?_); (case side1 => exact cU (Kd.C_below HR0_0.out HB.out)); (case side2 => exact HC0_0.out); rintro e w10 ⟨v113, rfl, ho0, hb⟩; refine ⟨_, rfl, ?_⟩; have n0 := Az (Kd.R_lower ho0 (below_size (bU3 HB.out GE109.out GE110.out GE111.out))); have n1 := Az (blk_below (g := gb109) (o := .cells #[.slice A0_0 l0_0.length c0_0, .slice A0_1 l0_1.length c0_1] 24 (0, 0)) (kU BK109.out) hb); have n2 := Az (blk_below (g := gb110) (o := .cells #[.slice none 0 0, .slice none 0 0] 27 (0, 0)) (kU BK110.out) hb); have n3 := Az (blk_below (g := gb111) (o := .cells #[.slice none 0 0, .slice none 0 0] 27 (0, 0)) (kU BK111.out) hb); have n4 := Az (below_step (bU3 HB.out GE109.out GE110.out GE111.out) hb); clear BK109 BK110 BK111 HB; have HO114 := n0; have BK109 := n1; have BK110 := n2; have BK111 := n3; have HB := n4; clear n0 n1 n2 n3 n4; (try clear hb); (try clear hb2); (try clear hk); (try clear hi); (try clear ho0); obtain ⟨Ao11, co11, eo11⟩ := Kd.R_slice HO114.out; subst eo11; have hnb12 := NB111_110.out; have hnc12 := NB110_111.out; have hcz13_0 : w10.cell? ⟨gb111, 0, none⟩ = some (.slice none 0 0) := (blk_cell BK111.out 0).trans rfl; have hcz13_1 : w10.cell? ⟨gb111, 1, none⟩ = some (.slice none 0 0) := (blk_cell BK111.out 1).trans rfl; have hfz13_0 := blk_frozen BK111.out 0; have hfz13_1 := blk_frozen BK111.out 1; have hcz14_0 : w10.cell? ⟨gb109, 0, none⟩ = some (.slice A0_0 l0_0.length c0_0) := (blk_cell BK109.out 0).trans rfl; have hcz14_1 : w10.cell? ⟨gb109, 1, none⟩ = some (.slice A0_1 l0_1.length c0_1) := (blk_cell BK109.out 1).trans rfl; have hfz14_0 := blk_frozen BK109.out 0; have hfz14_1 := blk_frozen BK109.out 1) | ((with_reducible refine gate_callee (f := 18) rfl ?_); refine goesL_ (some 10) rfl rfl Try.func18 (by kernel_rfl) rfl #[.slice A0_1 l0_1.length c0_1] rfl (by (try simp only [List.map_toArray, List.map_cons, List.map_nil]); first | done | rfl | (simp only [List.length_drop, List.length_take]; rfl)) ?_; (with_reducible refine (laws_toIntS.calls k _ _ l0_1 t115 _ ?side1 ?side2 A3.out).mono ?_); (case side1 => exact Kd.C_below HR0_1.out (bU3 HB.out GE109.out GE110.out GE111.out)); (case side2 => exact HC0_1.out); rintro e w15 ⟨v116, rfl, ho0, hb⟩; refine ⟨_, rfl, ?_⟩; have n0 := Az (Kd.R_elder' (by (with_reducible repeat (first | apply Kd.R_alloc | apply Kd.R_drewN | apply Kd.R_drew)); exact (Kd.R_mono (Kd.R_far (p := ⟨gb111, 0, none⟩) (Kd.R_types HO114.out BK111.out (by decide)) (fun _ hk => hk.2) (.slice Ao11 t112.length co11)) (fun _ h_ => h_.1))) (Kd.R_base ho0) hb); have n1 := Az (Kd.R_lower (Kd.R_new' ho0 (Kd.R_lt (by (with_reducible repeat (first | apply Kd.R_alloc | apply Kd.R_drewN | apply Kd.R_drew)); exact (Kd.R_mono (Kd.R_far (p := ⟨gb111, 0, none⟩) (Kd.R_types HO114.out BK111.out (by decide)) (fun _ hk => hk.2) (.slice Ao11 t112.length co11)) (fun _ h_ => h_.1))))) (below_size (bU3 HB.out GE109.out GE110.out GE111.out))); have n2 := Az (blk_below (g := gb109) (o := .cells #[.slice A0_0 l0_0.length c0_0, .slice A0_1 l0_1.length c0_1] 24 (0, 0)) (by (with_reducible repeat (first | refine blk_drewN ?_ _ | refine blk_drew ?_ | refine blk_alloc ?_ _)); refine blk_far ?_ NB109_111.out _; (with_reducible repeat (first | refine blk_drewN ?_ _ | refine blk_drew ?_ | refine blk_alloc ?_ _)); exact BK109.out) hb); have n3 := Az (blk_below (g := gb110) (o := .cells #[.slice none 0 0, .slice none 0 0] 27 (0, 0)) (by (with_reducible repeat (first | refine blk_drewN ?_ _ | refine blk_drew ?_ | refine blk_alloc ?_ _)); refine blk_far ?_ NB110_111.out _; (with_reducible repeat (first | refine blk_drewN ?_ _ | refine blk_drew ?_ | refine blk_alloc ?_ _)); exact BK110.out) hb); have n4 := Az (blk_below (g := gb111) (o := .cells #[.slice Ao11 t112.length co11, .slice none 0 0] 27 (0, 0)) (by (with_reducible repeat (first | refine blk_drewN ?_ _ | refine blk_drew ?_ | refine blk_alloc ?_ _)); refine blk_put (cs := #[.slice none 0 0, .slice none 0 0]) ?_ 0 _ rfl; (with_reducible repeat (first | refine blk_drewN ?_ _ | refine blk_drew ?_ | refine blk_alloc ?_ _)); exact BK111.out) hb); have n5 := Az (below_step (bU3 HB.out GE109.out GE110.out GE111.out) hb); clear HO114 BK109 BK110 BK111 HB; have HO114 := n0; have HO117 := n1; have BK109 := n2; have BK110 := n3; have BK111 := n4; have HB := n5; clear n0 n1 n2 n3 n4 n5; (try clear hb); (try clear hb2); (try clear hk); (try clear hi); (try clear ho0); obtain ⟨Ao16, co16, eo16⟩ := Kd.R_slice HO117.out; subst eo16; have hcz17_0 : w15.cell? ⟨gb111, 0, none⟩ = some (.slice Ao11 t112.length co11) := (blk_cell BK111.out 0).trans rfl; have hcz17_1 : w15.cell? ⟨gb111, 1, none⟩ = some (.slice none 0 0) := (blk_cell BK111.out 1).trans rfl; have hfz17_0 := blk_frozen BK111.out 0; have hfz17_1 := blk_frozen BK111.out 1; have hcz18_0 : w15.cell? ⟨gb110, 0, none⟩ = some (.slice none 0 0) := (blk_cell BK110.out 0).trans rfl; have hcz18_1 : w15.cell? ⟨gb110, 1, none⟩ = some (.slice none 0 0) := (blk_cell BK110.out 1).trans rfl; have hfz18_0 := blk_frozen BK110.out 0; have hfz18_1 := blk_frozen BK110.out 1))
 refine bodyPost_ret (results_cell_row rfl _ _ gb110 27 #[.slice Ao11 t112.length co11, .slice Ao16 t115.length co16] (0, 0) _ rfl (by (with_reducible repeat (first | refine blk_drewN ?_ _ | refine blk_drew ?_ | refine blk_alloc ?_ _)); refine blk_put (cs := #[.slice Ao11 t112.length co11, .slice none 0 0]) ?_ 1 _ rfl; (with_reducible repeat (first | refine blk_drewN ?_ _ | refine blk_drew ?_ | refine blk_alloc ?_ _)); refine blk_put (cs := #[.slice none 0 0, .slice none 0 0]) ?_ 0 _ rfl; (with_reducible repeat (first | refine blk_drewN ?_ _ | refine blk_drew ?_ | refine blk_alloc ?_ _)); refine blk_far ?_ NB110_111.out _; (with_reducible repeat (first | refine blk_drewN ?_ _ | refine blk_drew ?_ | refine blk_alloc ?_ _)); exact BK110.out) Try.underlying27 rfl (by kernel_rfl)) rfl ?_
 exact ⟨_, _, rE, by (with_reducible repeat (first | apply Kd.R_alloc | apply Kd.R_drewN | apply Kd.R_drew)); exact Kd.R_mono (Kd.R_far (p := ⟨gb110, 1, none⟩) (Kd.R_far (p := ⟨gb110, 0, none⟩) (Kd.R_far (p := ⟨gb111, 1, none⟩) (Kd.R_types (Kd.R_types HO114.out BK111.out (by decide)) BK110.out (by decide)) (fun _ hk => hk.1.2) (.slice Ao16 t115.length co16)) (fun _ hk => hk.2) (.slice Ao11 t112.length co11)) (fun _ hk => hk.2) (.slice Ao16 t115.length co16)) (fun _ hk => hk.1.1.2), by (with_reducible repeat (first | apply Kd.R_alloc | apply Kd.R_drewN | apply Kd.R_drew)); exact Kd.R_mono (Kd.R_far (p := ⟨gb110, 1, none⟩) (Kd.R_far (p := ⟨gb110, 0, none⟩) (Kd.R_far (p := ⟨gb111, 1, none⟩) (Kd.R_types (Kd.R_types HO117.out BK111.out (by decide)) BK110.out (by decide)) (fun _ hk => hk.1.2) (.slice Ao16 t115.length co16)) (fun _ hk => hk.2) (.slice Ao11 t112.length co11)) (fun _ hk => hk.2) (.slice Ao16 t115.length co16)) (fun _ hk => hk.1.1.2), bU3 HB.out GE109.out GE110.out GE111.out⟩
def laws_eqIntS.l0 : Nat → List Int → List Int → Int → Option (Bool)
 | 0, _, _, _ => none
 | k + 1, x0, x1, x5 => if x5 < (x0.length : Int) then (if 0 ≤ x5 then (if x5 < (x1.length : Int) then (if (rd x0 x5) = (rd x1 x5) then (laws_eqIntS.l0 k x0 x1 (wrap64 (x5 + 1))) else (some false)) else (none)) else (none)) else (some true)
def laws_eqIntS.f (k : Nat) (l0 : List Int) (l1 : List Int) : Option (Bool) := if (l0.length : Int) = (l1.length : Int) then (laws_eqIntS.l0 k l0 l1 0) else (some false)
set_option maxHeartbeats 8000000 in
set_option maxRecDepth 100000 in
theorem laws_eqIntS.calls (k : Nat) (A0 : Option Addr) (c0 : Nat) (l0 : List Int) (A1 : Option Addr) (c1 : Nat) (l1 : List Int) (r : Bool) (w : World) (hr0 : Kd.C (Kd.int .i64) w A0 l0.length l0) (hc0 : l0.length ≤ c0) (hr1 : Kd.C (Kd.int .i64) w A1 l1.length l1) (hc1 : l1.length ≤ c1) (h : laws_eqIntS.f k l0 l1 = some r) :
  Calls Try.prog 21 #[.slice A0 l0.length c0, .slice A1 l1.length c1] w fun e w' => e = .returned (.bool r) ∧ Drawn0 w w' := by
 have HR0 := Az hr0; have HC0 := Az hc0; clear hr0 hc0; have HR1 := Az hr1; have HC1 := Az hc1; clear hr1 hc1; have H : (if (l0.length : Int) = (l1.length : Int) then (laws_eqIntS.l0 k l0 l1 0) else (some false)) = some r := h; clear h
 by_cases c3 : (l0.length : Int) = (l1.length : Int)
 ·
  rw [if_pos c3] at H; have c3b0 := beq_iff_eq.mpr c3; have c3b1 := bne_eq_false_iff_eq.mpr c3
  have c3b2 : (l0.length == l1.length) = true := by first | simpa using c3 | (simp at c3 ⊢; omega)
  clear c3; have H' := Az H; clear H
  go_enter Try.func21, Try.ntmps21
  go_wp2
  repeat (go_quiet (fail); try go_wp2)
  go_loopg [5] k (fun kq v5 w' => ∃ (x5_1 : Int), v5 = .int .i64 x5_1 ∧ Aside0 (laws_eqIntS.l0 kq l0 l1 x5_1 = some r) ∧ Aside0 (kq ≤ k) ∧ Drawn0 w w')
  case atStart => exact ⟨(0), rS, H', ⟨Nat.le_refl _⟩, by repeat (first | exact Drawn0.refl _ | apply Drawn0.step)⟩
  case round =>
   clear H'; (try clear c1); (try clear c2); (try clear p2); (try clear c3); (try clear c3b0); (try clear c3b1); (try clear c3b2); obtain ⟨x5_1, rfl, HA, HK1, ⟨m1, rfl⟩⟩ := hrel
   cases gk with
   | zero => exact absurd HA.out (by simp [laws_eqIntS.l0])
   | succ k1 =>
    have H := HA.out; clear HA; simp only [laws_eqIntS.l0] at H
    by_cases c4 : x5_1 < (l0.length : Int)
    ·
     rw [if_pos c4] at H; have c4b0 := decide_eq_true c4; clear c4
     by_cases c5 : 0 ≤ x5_1
     ·
      rw [if_pos c5] at H; have c5b0 := decide_eq_true c5; clear c5
      by_cases c6 : x5_1 < (l1.length : Int)
      ·
       rw [if_pos c6] at H; have c6b0 := decide_eq_true c6; clear c6
       by_cases c7 : (rd l0 x5_1) = (rd l1 x5_1)
       ·
        rw [if_pos c7] at H; have c7b0 := beq_iff_eq.mpr c7; have c7b1 := bne_eq_false_iff_eq.mpr c7; clear c7; have H' := Az H; clear H; have p118 : 0 ≤ (x5_1 : Int) := oA; have q118 : x5_1 < (l0.length : Int) := oA; obtain ⟨ad118, e118, hx118_0⟩ := Kd.at_int HR0.out x5_1 p118 q118
        cases e118
        replace p118 := eq_true p118; replace q118 := eq_true q118; have p119 : 0 ≤ (x5_1 : Int) := oA; have q119 : x5_1 < (l1.length : Int) := oA; obtain ⟨ad119, e119, hx119_0⟩ := Kd.at_int HR1.out x5_1 p119 q119
        cases e119
        replace p119 := eq_true p119; replace q119 := eq_true q119
        go_wp2
        repeat (go_quiet (fail); try go_wp2)
        (first | go_roundg k1 | (refine Handed.intro k1 ?measure ?_; rotate_left; go_step; (try simp only [add_plain]); (repeat apply Exists.intro); refine ⟨?rel, rfl⟩))
        case measure => have := HK1.out; omega
        case rel => exact ⟨(wrap64 (x5_1 + 1)), rS, H', ⟨by have := HK1.out; omega⟩, by repeat (first | exact Drawn0.refl _ | apply Drawn0.step)⟩
       ·
        rw [if_neg c7] at H; have c7b0 := beq_eq_false_iff_ne.mpr c7; have c7b1 := bne_iff_ne.mpr c7; obtain rfl := Option.some.inj H; have p118 : 0 ≤ (x5_1 : Int) := oA; have q118 : x5_1 < (l0.length : Int) := oA; obtain ⟨ad118, e118, hx118_0⟩ := Kd.at_int HR0.out x5_1 p118 q118
        cases e118
        replace p118 := eq_true p118; replace q118 := eq_true q118; have p119 : 0 ≤ (x5_1 : Int) := oA; have q119 : x5_1 < (l1.length : Int) := oA; obtain ⟨ad119, e119, hx119_0⟩ := Kd.at_int HR1.out x5_1 p119 q119
        cases e119
        replace p119 := eq_true p119; replace q119 := eq_true q119
        go_wp2
        repeat (go_quiet (fail); try go_wp2)
        go_ret
        exact ⟨by first | rfl | (simp; done) | (simp [*]; done), by repeat (first | exact Drawn0.refl _ | apply Drawn0.step)⟩
      ·
       rw [if_neg c6] at H
       exact absurd H (by simp)
     ·
      rw [if_neg c5] at H
      exact absurd H (by simp)
    ·
     rw [if_neg c4] at H; have c4b0 := decide_eq_false c4; clear c4; obtain rfl := Option.some.inj H
     go_wp2
     repeat (go_quiet (fail); try go_wp2)
     go_ret
     exact ⟨by first | rfl | (simp; done) | (simp [*]; done), by repeat (first | exact Drawn0.refl _ | apply Drawn0.step)⟩
 ·
  rw [if_neg c3] at H; have c3b0 := beq_eq_false_iff_ne.mpr c3; have c3b1 := bne_iff_ne.mpr c3
  have c3b2 : (l0.length == l1.length) = false := by first | simpa using c3 | (simp at c3 ⊢; omega)
  obtain rfl := Option.some.inj H
  go_enter Try.func21, Try.ntmps21
  go_wp2
  repeat (go_quiet (fail); try go_wp2)
  go_ret
  exact ⟨by first | rfl | (simp; done) | (simp [*]; done), by repeat (first | exact Drawn0.refl _ | apply Drawn0.step)⟩
def laws_eqMap.f (k : Nat) (l0_0 : List Int) (l0_1 : List Int) (l1_0 : List Int) (l1_1 : List Int) : Option (Bool) := (laws_eqIntS.f k l0_0 l1_0).bind fun t122 => (if t122 = true then ((laws_eqIntS.f k l0_1 l1_1).bind fun t123 => (if t123 = true then (some true) else (some false))) else (some false))
set_option maxHeartbeats 8000000 in
set_option maxRecDepth 100000 in
theorem laws_eqMap.calls (k : Nat) (A0_0 : Option Addr) (c0_0 : Nat) (l0_0 : List Int) (A0_1 : Option Addr) (c0_1 : Nat) (l0_1 : List Int) (A1_0 : Option Addr) (c1_0 : Nat) (l1_0 : List Int) (A1_1 : Option Addr) (c1_1 : Nat) (l1_1 : List Int) (r : Bool) (w : World) (hr0_0 : Kd.C (Kd.int .i64) w A0_0 l0_0.length l0_0) (hc0_0 : l0_0.length ≤ c0_0) (hr0_1 : Kd.C (Kd.int .i64) w A0_1 l0_1.length l0_1) (hc0_1 : l0_1.length ≤ c0_1) (hr1_0 : Kd.C (Kd.int .i64) w A1_0 l1_0.length l1_0) (hc1_0 : l1_0.length ≤ c1_0) (hr1_1 : Kd.C (Kd.int .i64) w A1_1 l1_1.length l1_1) (hc1_1 : l1_1.length ≤ c1_1) (h : laws_eqMap.f k l0_0 l0_1 l1_0 l1_1 = some r) :
  Calls Try.prog 20 #[.agg #[.slice A0_0 l0_0.length c0_0, .slice A0_1 l0_1.length c0_1], .agg #[.slice A1_0 l1_0.length c1_0, .slice A1_1 l1_1.length c1_1]] w fun e w' => e = .returned (.bool r) ∧ Below w.heap.size w w' := by
 have hu27 := Try.underlying27; have HR0_0 := Az hr0_0; have HC0_0 := Az hc0_0; clear hr0_0 hc0_0; have HR0_1 := Az hr0_1; have HC0_1 := Az hc0_1; clear hr0_1 hc0_1; have HR1_0 := Az hr1_0; have HC1_0 := Az hc1_0; clear hr1_0 hc1_0; have HR1_1 := Az hr1_1; have HC1_1 := Az hc1_1; clear hr1_1 hc1_1; have HB := Az (Below.refl w.heap.size w); have H : ((laws_eqIntS.f k l0_0 l1_0).bind fun t122 => (if t122 = true then ((laws_eqIntS.f k l0_1 l1_1).bind fun t123 => (if t123 = true then (some true) else (some false))) else (some false))) = some r := h; clear h; replace H := Option.bind_eq_some_iff.mp H; obtain ⟨t122, A30, H⟩ := H; replace H : (if t122 = true then ((laws_eqIntS.f k l0_1 l1_1).bind fun t123 => (if t123 = true then (some true) else (some false))) else (some false)) = some r := H; have A3 := Az A30; clear A30
 by_cases c4 : t122 = true
 ·
  subst c4
  have H1 : ((laws_eqIntS.f k l0_1 l1_1).bind fun t123 => (if t123 = true then (some true) else (some false))) = some r := by rw [if_pos rfl] at H; exact H
  clear H; have H := H1; clear H1; replace H := Option.bind_eq_some_iff.mp H; obtain ⟨t123, A50, H⟩ := H; replace H : (if t123 = true then (some true) else (some false)) = some r := H; have A5 := Az A50; clear A50
  by_cases c6 : t123 = true
  ·
   subst c6
   have H1 : (some true) = some r := by rw [if_pos rfl] at H; exact H
   clear H; have H := H1; clear H1; obtain rfl := Option.some.inj H
   go_enter Try.func20, Try.ntmps20
   go_wp2_with (first | ((with_reducible refine gate_dst (N := 2) rfl ?_); refine box_event ?hg (N := 2) ?hd (cs := #[.slice A0_0 l0_0.length c0_0, .slice A0_1 l0_1.length c0_1]) (t := 27) ?hr ?_; (case hd => rfl); (case hg => rfl); (case hr => first | (go_simp; done) | (go_simp; rfl)); intro gb120 hg w7 hbox hb; have n0 := Az (below_step (bU0 HB.out) hb); have n1 := Az (hbox); have n2 := Az ((by rw [hg]; exact (below_size (bU0 HB.out)) : w.heap.size ≤ gb120)); have n3 := n2; clear HB; have HB := n0; have BK120 := n1; have GW120 := n2; have GE120 := n3; clear n0 n1 n2 n3; clear hb hbox hg) | ((with_reducible refine gate_dst (N := 3) rfl ?_); refine box_event ?hg (N := 3) ?hd (cs := #[.slice A1_0 l1_0.length c1_0, .slice A1_1 l1_1.length c1_1]) (t := 27) ?hr ?_; (case hd => rfl); (case hg => rfl); (case hr => first | (go_simp; done) | (go_simp; rfl)); intro gb121 hg w8 hbox hb; have n0 := Az (blk_below (g := gb120) (o := .cells #[.slice A0_0 l0_0.length c0_0, .slice A0_1 l0_1.length c0_1] 27 (0, 0)) (kU BK120.out) hb); have n1 := Az (below_step (bU1 HB.out GE120.out) hb); have n2 := Az (hbox); have n3 := Az ((by rw [hg]; exact (below_size (bU1 HB.out GE120.out)) : w.heap.size ≤ gb121)); have n4 := n3; have n5 := Az ((by rw [hg]; exact Nat.ne_of_lt (blk_lt (g := gb120) (o := .cells #[.slice A0_0 l0_0.length c0_0, .slice A0_1 l0_1.length c0_1] 27 (0, 0)) (kU BK120.out)) : gb120 ≠ gb121)); have n6 := Az ((by rw [hg]; exact Nat.ne_of_gt (blk_lt (g := gb120) (o := .cells #[.slice A0_0 l0_0.length c0_0, .slice A0_1 l0_1.length c0_1] 27 (0, 0)) (kU BK120.out)) : gb121 ≠ gb120)); clear BK120 HB; have BK120 := n0; have HB := n1; have BK121 := n2; have GW121 := n3; have GE121 := n4; have NB120_121 := n5; have NB121_120 := n6; clear n0 n1 n2 n3 n4 n5 n6 hb hbox hg; have hnb9 := NB120_121.out; have hnc9 := NB121_120.out; have hcz10_0 : w8.cell? ⟨gb120, 0, none⟩ = some (.slice A0_0 l0_0.length c0_0) := (blk_cell BK120.out 0).trans rfl; have hcz10_1 : w8.cell? ⟨gb120, 1, none⟩ = some (.slice A0_1 l0_1.length c0_1) := (blk_cell BK120.out 1).trans rfl; have hfz10_0 := blk_frozen BK120.out 0; have hfz10_1 := blk_frozen BK120.out 1; have hcz11_0 : w8.cell? ⟨gb121, 0, none⟩ = some (.slice A1_0 l1_0.length c1_0) := (blk_cell BK121.out 0).trans rfl; have hcz11_1 : w8.cell? ⟨gb121, 1, none⟩ = some (.slice A1_1 l1_1.length c1_1) := (blk_cell BK121.out 1).trans rfl; have hfz11_0 := blk_frozen BK121.out 0; have hfz11_1 := blk_frozen BK121.out 1) | ((with_reducible refine gate_callee (f := 21) rfl ?_); refine goesL_ (some 9) rfl rfl Try.func21 (by kernel_rfl) rfl #[.slice A0_0 l0_0.length c0_0, .slice A1_0 l1_0.length c1_0] rfl (by (try simp only [List.map_toArray, List.map_cons, List.map_nil]); first | done | rfl | (simp only [List.length_drop, List.length_take]; rfl)) ?_; (with_reducible refine (laws_eqIntS.calls k _ _ l0_0 _ _ l1_0 true _ ?side1 ?side2 ?side3 ?side4 A3.out).mono ?_); (case side1 => exact cU (Kd.C_below HR0_0.out HB.out)); (case side2 => exact HC0_0.out); (case side3 => exact cU (Kd.C_below HR1_0.out HB.out)); (case side4 => exact HC1_0.out); rintro e w' ⟨rfl, ⟨nd, rfl⟩⟩; refine ⟨_, rfl, ?_⟩) | ((with_reducible refine gate_callee (f := 21) rfl ?_); refine goesL_ (some 15) rfl rfl Try.func21 (by kernel_rfl) rfl #[.slice A0_1 l0_1.length c0_1, .slice A1_1 l1_1.length c1_1] rfl (by (try simp only [List.map_toArray, List.map_cons, List.map_nil]); first | done | rfl | (simp only [List.length_drop, List.length_take]; rfl)) ?_; (with_reducible refine (laws_eqIntS.calls k _ _ l0_1 _ _ l1_1 true _ ?side1 ?side2 ?side3 ?side4 A5.out).mono ?_); (case side1 => exact cU (Kd.C_below HR0_1.out (bU2 HB.out GE120.out GE121.out))); (case side2 => exact HC0_1.out); (case side3 => exact cU (Kd.C_below HR1_1.out (bU2 HB.out GE120.out GE121.out))); (case side4 => exact HC1_1.out); rintro e w' ⟨rfl, ⟨nd, rfl⟩⟩; refine ⟨_, rfl, ?_⟩))
   go_ret
   exact ⟨rE, bU2 HB.out GE120.out GE121.out⟩
  ·
   replace c6 := Bool.eq_false_iff.mpr c6; subst c6
   have H1 : (some false) = some r := by rw [if_neg (show ¬ (false = true) by decide)] at H; exact H
   clear H; have H := H1; clear H1; obtain rfl := Option.some.inj H
   go_enter Try.func20, Try.ntmps20
   go_wp2_with (first | ((with_reducible refine gate_dst (N := 2) rfl ?_); refine box_event ?hg (N := 2) ?hd (cs := #[.slice A0_0 l0_0.length c0_0, .slice A0_1 l0_1.length c0_1]) (t := 27) ?hr ?_; (case hd => rfl); (case hg => rfl); (case hr => first | (go_simp; done) | (go_simp; rfl)); intro gb120 hg w12 hbox hb; have n0 := Az (below_step (bU0 HB.out) hb); have n1 := Az (hbox); have n2 := Az ((by rw [hg]; exact (below_size (bU0 HB.out)) : w.heap.size ≤ gb120)); have n3 := n2; clear HB; have HB := n0; have BK120 := n1; have GW120 := n2; have GE120 := n3; clear n0 n1 n2 n3; clear hb hbox hg) | ((with_reducible refine gate_dst (N := 3) rfl ?_); refine box_event ?hg (N := 3) ?hd (cs := #[.slice A1_0 l1_0.length c1_0, .slice A1_1 l1_1.length c1_1]) (t := 27) ?hr ?_; (case hd => rfl); (case hg => rfl); (case hr => first | (go_simp; done) | (go_simp; rfl)); intro gb121 hg w13 hbox hb; have n0 := Az (blk_below (g := gb120) (o := .cells #[.slice A0_0 l0_0.length c0_0, .slice A0_1 l0_1.length c0_1] 27 (0, 0)) (kU BK120.out) hb); have n1 := Az (below_step (bU1 HB.out GE120.out) hb); have n2 := Az (hbox); have n3 := Az ((by rw [hg]; exact (below_size (bU1 HB.out GE120.out)) : w.heap.size ≤ gb121)); have n4 := n3; have n5 := Az ((by rw [hg]; exact Nat.ne_of_lt (blk_lt (g := gb120) (o := .cells #[.slice A0_0 l0_0.length c0_0, .slice A0_1 l0_1.length c0_1] 27 (0, 0)) (kU BK120.out)) : gb120 ≠ gb121)); have n6 := Az ((by rw [hg]; exact Nat.ne_of_gt (blk_lt (g := gb120) (o := .cells #[.slice A0_0 l0_0.length c0_0, .slice A0_1 l0_1.length c0_1] 27 (0, 0)) (kU BK120.out)) : gb121 ≠ gb120)); clear BK120 HB; have BK120 := n0; have HB := n1; have BK121 := n2; have GW121 := n3; have GE121 := n4; have NB120_121 := n5; have NB121_120 := n6; clear n0 n1 n2 n3 n4 n5 n6 hb hbox hg; have hnb14 := NB120_121.out; have hnc14 := NB121_120.out; have hcz15_0 : w13.cell? ⟨gb120, 0, none⟩ = some (.slice A0_0 l0_0.length c0_0) := (blk_cell BK120.out 0).trans rfl; have hcz15_1 : w13.cell? ⟨gb120, 1, none⟩ = some (.slice A0_1 l0_1.length c0_1) := (blk_cell BK120.out 1).trans rfl; have hfz15_0 := blk_frozen BK120.out 0; have hfz15_1 := blk_frozen BK120.out 1; have hcz16_0 : w13.cell? ⟨gb121, 0, none⟩ = some (.slice A1_0 l1_0.length c1_0) := (blk_cell BK121.out 0).trans rfl; have hcz16_1 : w13.cell? ⟨gb121, 1, none⟩ = some (.slice A1_1 l1_1.length c1_1) := (blk_cell BK121.out 1).trans rfl; have hfz16_0 := blk_frozen BK121.out 0; have hfz16_1 := blk_frozen BK121.out 1) | ((with_reducible refine gate_callee (f := 21) rfl ?_); refine goesL_ (some 9) rfl rfl Try.func21 (by kernel_rfl) rfl #[.slice A0_0 l0_0.length c0_0, .slice A1_0 l1_0.length c1_0] rfl (by (try simp only [List.map_toArray, List.map_cons, List.map_nil]); first | done | rfl | (simp only [List.length_drop, List.length_take]; rfl)) ?_; (with_reducible refine (laws_eqIntS.calls k _ _ l0_0 _ _ l1_0 true _ ?side1 ?side2 ?side3 ?side4 A3.out).mono ?_); (case side1 => exact cU (Kd.C_below HR0_0.out HB.out)); (case side2 => exact HC0_0.out); (case side3 => exact cU (Kd.C_below HR1_0.out HB.out)); (case side4 => exact HC1_0.out); rintro e w' ⟨rfl, ⟨nd, rfl⟩⟩; refine ⟨_, rfl, ?_⟩) | ((with_reducible refine gate_callee (f := 21) rfl ?_); refine goesL_ (some 15) rfl rfl Try.func21 (by kernel_rfl) rfl #[.slice A0_1 l0_1.length c0_1, .slice A1_1 l1_1.length c1_1] rfl (by (try simp only [List.map_toArray, List.map_cons, List.map_nil]); first | done | rfl | (simp only [List.length_drop, List.length_take]; rfl)) ?_; (with_reducible refine (laws_eqIntS.calls k _ _ l0_1 _ _ l1_1 false _ ?side1 ?side2 ?side3 ?side4 A5.out).mono ?_); (case side1 => exact cU (Kd.C_below HR0_1.out (bU2 HB.out GE120.out GE121.out))); (case side2 => exact HC0_1.out); (case side3 => exact cU (Kd.C_below HR1_1.out (bU2 HB.out GE120.out GE121.out))); (case side4 => exact HC1_1.out); rintro e w' ⟨rfl, ⟨nd, rfl⟩⟩; refine ⟨_, rfl, ?_⟩))
   go_ret
   exact ⟨rE, bU2 HB.out GE120.out GE121.out⟩
 ·
  replace c4 := Bool.eq_false_iff.mpr c4; subst c4
  have H1 : (some false) = some r := by rw [if_neg (show ¬ (false = true) by decide)] at H; exact H
  clear H; have H := H1; clear H1; obtain rfl := Option.some.inj H
  go_enter Try.func20, Try.ntmps20
  go_wp2_with (first | ((with_reducible refine gate_dst (N := 2) rfl ?_); refine box_event ?hg (N := 2) ?hd (cs := #[.slice A0_0 l0_0.length c0_0, .slice A0_1 l0_1.length c0_1]) (t := 27) ?hr ?_; (case hd => rfl); (case hg => rfl); (case hr => first | (go_simp; done) | (go_simp; rfl)); intro gb120 hg w17 hbox hb; have n0 := Az (below_step (bU0 HB.out) hb); have n1 := Az (hbox); have n2 := Az ((by rw [hg]; exact (below_size (bU0 HB.out)) : w.heap.size ≤ gb120)); have n3 := n2; clear HB; have HB := n0; have BK120 := n1; have GW120 := n2; have GE120 := n3; clear n0 n1 n2 n3; clear hb hbox hg) | ((with_reducible refine gate_dst (N := 3) rfl ?_); refine box_event ?hg (N := 3) ?hd (cs := #[.slice A1_0 l1_0.length c1_0, .slice A1_1 l1_1.length c1_1]) (t := 27) ?hr ?_; (case hd => rfl); (case hg => rfl); (case hr => first | (go_simp; done) | (go_simp; rfl)); intro gb121 hg w18 hbox hb; have n0 := Az (blk_below (g := gb120) (o := .cells #[.slice A0_0 l0_0.length c0_0, .slice A0_1 l0_1.length c0_1] 27 (0, 0)) (kU BK120.out) hb); have n1 := Az (below_step (bU1 HB.out GE120.out) hb); have n2 := Az (hbox); have n3 := Az ((by rw [hg]; exact (below_size (bU1 HB.out GE120.out)) : w.heap.size ≤ gb121)); have n4 := n3; have n5 := Az ((by rw [hg]; exact Nat.ne_of_lt (blk_lt (g := gb120) (o := .cells #[.slice A0_0 l0_0.length c0_0, .slice A0_1 l0_1.length c0_1] 27 (0, 0)) (kU BK120.out)) : gb120 ≠ gb121)); have n6 := Az ((by rw [hg]; exact Nat.ne_of_gt (blk_lt (g := gb120) (o := .cells #[.slice A0_0 l0_0.length c0_0, .slice A0_1 l0_1.length c0_1] 27 (0, 0)) (kU BK120.out)) : gb121 ≠ gb120)); clear BK120 HB; have BK120 := n0; have HB := n1; have BK121 := n2; have GW121 := n3; have GE121 := n4; have NB120_121 := n5; have NB121_120 := n6; clear n0 n1 n2 n3 n4 n5 n6 hb hbox hg; have hnb19 := NB120_121.out; have hnc19 := NB121_120.out; have hcz20_0 : w18.cell? ⟨gb120, 0, none⟩ = some (.slice A0_0 l0_0.length c0_0) := (blk_cell BK120.out 0).trans rfl; have hcz20_1 : w18.cell? ⟨gb120, 1, none⟩ = some (.slice A0_1 l0_1.length c0_1) := (blk_cell BK120.out 1).trans rfl; have hfz20_0 := blk_frozen BK120.out 0; have hfz20_1 := blk_frozen BK120.out 1; have hcz21_0 : w18.cell? ⟨gb121, 0, none⟩ = some (.slice A1_0 l1_0.length c1_0) := (blk_cell BK121.out 0).trans rfl; have hcz21_1 : w18.cell? ⟨gb121, 1, none⟩ = some (.slice A1_1 l1_1.length c1_1) := (blk_cell BK121.out 1).trans rfl; have hfz21_0 := blk_frozen BK121.out 0; have hfz21_1 := blk_frozen BK121.out 1) | ((with_reducible refine gate_callee (f := 21) rfl ?_); refine goesL_ (some 9) rfl rfl Try.func21 (by kernel_rfl) rfl #[.slice A0_0 l0_0.length c0_0, .slice A1_0 l1_0.length c1_0] rfl (by (try simp only [List.map_toArray, List.map_cons, List.map_nil]); first | done | rfl | (simp only [List.length_drop, List.length_take]; rfl)) ?_; (with_reducible refine (laws_eqIntS.calls k _ _ l0_0 _ _ l1_0 false _ ?side1 ?side2 ?side3 ?side4 A3.out).mono ?_); (case side1 => exact cU (Kd.C_below HR0_0.out HB.out)); (case side2 => exact HC0_0.out); (case side3 => exact cU (Kd.C_below HR1_0.out HB.out)); (case side4 => exact HC1_0.out); rintro e w' ⟨rfl, ⟨nd, rfl⟩⟩; refine ⟨_, rfl, ?_⟩))
  go_ret
  exact ⟨rE, bU2 HB.out GE120.out GE121.out⟩
def spec_l6In.f (a0 : Int) (a1 : Int) (a2 : Int) : Option (Bool) := if a0 ≥ a1 then (some (decide (a0 ≤ a2))) else (some false)
set_option maxHeartbeats 8000000 in
set_option maxRecDepth 100000 in
theorem spec_l6In.calls (a0 : Int) (a1 : Int) (a2 : Int) (r : Bool) (w : World) (h : spec_l6In.f a0 a1 a2 = some r) :
  Calls Try.prog 49 #[.int .i64 a0, .int .i64 a1, .int .i64 a2] w fun e w' => e = .returned (.bool r) ∧ Drawn0 w w' := by
 have H : (if a0 ≥ a1 then (some (decide (a0 ≤ a2))) else (some false)) = some r := h; clear h
 by_cases c4 : a0 ≥ a1
 ·
  rw [if_pos c4] at H; have c4b0 := decide_eq_true c4; clear c4; obtain rfl := Option.some.inj H
  go_enter Try.func49, Try.ntmps49
  go_wp2
  go_ret
  exact ⟨by first | rfl | (simp; done) | (simp [*]; done), by repeat (first | exact Drawn0.refl _ | apply Drawn0.step)⟩
 ·
  rw [if_neg c4] at H; have c4b0 := decide_eq_false c4; clear c4; obtain rfl := Option.some.inj H
  go_enter Try.func49, Try.ntmps49
  go_wp2
  go_ret
  exact ⟨by first | rfl | (simp; done) | (simp [*]; done), by repeat (first | exact Drawn0.refl _ | apply Drawn0.step)⟩
mutual
def spec_PermValid.l0 : Nat → List Int → Int → Option (Bool)
 | 0, _, _ => none
 | k + 1, x0, x3 => if x3 < (x0.length : Int) then (if 0 ≤ x3 then ((spec_l6In.f (rd x0 x3) 0 (wrap64 ((x0.length : Int) - 1))).bind fun t126 => (if t126 = true then (spec_PermValid.l1 k x0 x3 0) else (some false))) else (none)) else ((spec_l6In.f (x0.length : Int) 1 12).bind fun t124 => (some t124))
def spec_PermValid.l1 : Nat → List Int → Int → Int → Option (Bool)
 | 0, _, _, _ => none
 | k + 1, x0, x3, x4 => if x4 < x3 then (if 0 ≤ x4 then (if x4 < (x0.length : Int) then (if 0 ≤ x3 then (if x3 < (x0.length : Int) then (if (rd x0 x4) = (rd x0 x3) then (some false) else (spec_PermValid.l1 k x0 x3 (wrap64 (x4 + 1)))) else (none)) else (none)) else (none)) else (none)) else (spec_PermValid.l0 k x0 (wrap64 (x3 + 1)))
end
def spec_PermValid.f (k : Nat) (l0 : List Int) : Option (Bool) := spec_PermValid.l0 k l0 0
set_option maxHeartbeats 8000000 in
set_option maxRecDepth 100000 in
theorem spec_PermValid.calls (k : Nat) (A0 : Option Addr) (c0 : Nat) (l0 : List Int) (r : Bool) (w : World) (hr0 : Kd.C (Kd.int .i64) w A0 l0.length l0) (hc0 : l0.length ≤ c0) (h : spec_PermValid.f k l0 = some r) :
  Calls Try.prog 95 #[.slice A0 l0.length c0] w fun e w' => e = .returned (.bool r) ∧ Drawn0 w w' := by
 have HR0 := Az hr0; have HC0 := Az hc0; clear hr0 hc0; have H : (spec_PermValid.l0 k l0 0) = some r := h; clear h; have H' := Az H; clear H
 go_enter Try.func95, Try.ntmps95
 go_wp2
 repeat (go_quiet (fail); try go_wp2)
 go_loopg [3] k (fun kq v3 w' => ∃ (x3_1 : Int), v3 = .int .i64 x3_1 ∧ Aside0 (spec_PermValid.l0 kq l0 x3_1 = some r) ∧ Aside0 (kq ≤ k) ∧ Drawn0 w w')
 case atStart => exact ⟨(0), rS, H', ⟨Nat.le_refl _⟩, by repeat (first | exact Drawn0.refl _ | apply Drawn0.step)⟩
 case round =>
  clear H'; obtain ⟨x3_1, rfl, HA, HK1, ⟨m1, rfl⟩⟩ := hrel
  cases gk with
  | zero => exact absurd HA.out (by simp [spec_PermValid.l0])
  | succ k1 =>
   have H := HA.out; clear HA; simp only [spec_PermValid.l0] at H
   by_cases c2 : x3_1 < (l0.length : Int)
   ·
    rw [if_pos c2] at H; have c2b0 := decide_eq_true c2; clear c2
    by_cases c3 : 0 ≤ x3_1
    ·
     rw [if_pos c3] at H; have c3b0 := decide_eq_true c3; clear c3; replace H := Option.bind_eq_some_iff.mp H; obtain ⟨t126, A40, H⟩ := H; replace H : (if t126 = true then (spec_PermValid.l1 k1 l0 x3_1 0) else (some false)) = some r := H; have A4 := Az A40; clear A40
     by_cases c5 : t126 = true
     ·
      subst c5
      have H1 : (spec_PermValid.l1 k1 l0 x3_1 0) = some r := by rw [if_pos rfl] at H; exact H
      clear H; have H := H1; clear H1; have H' := Az H; clear H; have p125 : 0 ≤ (x3_1 : Int) := oA; have q125 : x3_1 < (l0.length : Int) := oA; obtain ⟨ad125, e125, hx125_0⟩ := Kd.at_int HR0.out x3_1 p125 q125
      cases e125
      replace p125 := eq_true p125; replace q125 := eq_true q125
      go_wp2_with (first | (go_at_call 49; (with_reducible refine (spec_l6In.calls (rd l0 x3_1) 0 (wrap64 ((l0.length : Int) - 1)) true _ A4.out).mono ?_); rintro e w' ⟨rfl, ⟨nd, rfl⟩⟩; (try first | exact ⟨rfl, _, World.drewN_drewN _ _ _⟩ | exact ⟨rfl, _, Eq.trans (World.drewN_drewN _ _ _) (congrArg (World.drewN _) (Nat.add_assoc _ _ _))⟩)))
      repeat (go_quiet (fail); try go_wp2_with (fail))
      go_loopg [4] k1 (fun kq v4 w' => ∃ (x4_2 : Int), v4 = .int .i64 x4_2 ∧ Aside0 (spec_PermValid.l1 kq l0 x3_1 x4_2 = some r) ∧ Aside0 (kq ≤ k1) ∧ Drawn0 w w')
      case atStart => exact ⟨(0), rS, H', ⟨Nat.le_refl _⟩, by repeat (first | exact Drawn0.refl _ | apply Drawn0.step)⟩
      case round =>
       clear H'; (try clear p1); (try clear q1); (try clear hx1); (try clear c2); (try clear c2b0); (try clear p2); (try clear c3); (try clear c3b0); (try clear c5); (try clear hx125_0); (try clear p125); (try clear q125); obtain ⟨x4_2, rfl, HA, HK2, ⟨m2, rfl⟩⟩ := hrel
       cases gk with
       | zero => exact absurd HA.out (by simp [spec_PermValid.l1])
       | succ k2 =>
        have H := HA.out; clear HA; simp only [spec_PermValid.l1] at H
        by_cases c6 : x4_2 < x3_1
        ·
         rw [if_pos c6] at H; have c6b0 := decide_eq_true c6; clear c6
         by_cases c7 : 0 ≤ x4_2
         ·
          rw [if_pos c7] at H; have c7b0 := decide_eq_true c7; clear c7
          by_cases c8 : x4_2 < (l0.length : Int)
          ·
           rw [if_pos c8] at H; have c8b0 := decide_eq_true c8; clear c8
           by_cases c9 : 0 ≤ x3_1
           ·
            rw [if_pos c9] at H; have c9b0 := decide_eq_true c9; clear c9
            by_cases c10 : x3_1 < (l0.length : Int)
            ·
             rw [if_pos c10] at H; have c10b0 := decide_eq_true c10; clear c10
             by_cases c11 : (rd l0 x4_2) = (rd l0 x3_1)
             ·
              rw [if_pos c11] at H; have c11b0 := beq_iff_eq.mpr c11; have c11b1 := bne_eq_false_iff_eq.mpr c11; clear c11; obtain rfl := Option.some.inj H; have p127 : 0 ≤ (x4_2 : Int) := oA; have q127 : x4_2 < (l0.length : Int) := oA; obtain ⟨ad127, e127, hx127_0⟩ := Kd.at_int HR0.out x4_2 p127 q127; obtain rfl : ad125 = ad127 := (by injection e127); replace p127 := eq_true p127; replace q127 := eq_true q127; have p128 : 0 ≤ (x3_1 : Int) := oA; have q128 : x3_1 < (l0.length : Int) := oA; obtain ⟨ad128, e128, hx128_0⟩ := Kd.at_int HR0.out x3_1 p128 q128; obtain rfl : ad125 = ad128 := (by injection e128); replace p128 := eq_true p128; replace q128 := eq_true q128
              go_wp2
              repeat (go_quiet (fail); try go_wp2)
              go_ret
              exact ⟨by first | rfl | (simp; done) | (simp [*]; done), by repeat (first | exact Drawn0.refl _ | apply Drawn0.step)⟩
             ·
              rw [if_neg c11] at H; have c11b0 := beq_eq_false_iff_ne.mpr c11; have c11b1 := bne_iff_ne.mpr c11; have H' := Az H; clear H; have p127 : 0 ≤ (x4_2 : Int) := oA; have q127 : x4_2 < (l0.length : Int) := oA; obtain ⟨ad127, e127, hx127_0⟩ := Kd.at_int HR0.out x4_2 p127 q127; obtain rfl : ad125 = ad127 := (by injection e127); replace p127 := eq_true p127; replace q127 := eq_true q127; have p128 : 0 ≤ (x3_1 : Int) := oA; have q128 : x3_1 < (l0.length : Int) := oA; obtain ⟨ad128, e128, hx128_0⟩ := Kd.at_int HR0.out x3_1 p128 q128; obtain rfl : ad125 = ad128 := (by injection e128); replace p128 := eq_true p128; replace q128 := eq_true q128
              go_wp2
              repeat (go_quiet (fail); try go_wp2)
              (first | go_roundg k2 | (refine Handed.intro k2 ?measure ?_; rotate_left; go_step; (try simp only [add_plain]); (repeat apply Exists.intro); refine ⟨?rel, rfl⟩))
              case measure => have := HK1.out; have := HK2.out; omega
              case rel => exact ⟨(wrap64 (x4_2 + 1)), rS, H', ⟨by have := HK1.out; have := HK2.out; omega⟩, by repeat (first | exact Drawn0.refl _ | apply Drawn0.step)⟩
            ·
             rw [if_neg c10] at H
             exact absurd H (by simp)
           ·
            rw [if_neg c9] at H
            exact absurd H (by simp)
          ·
           rw [if_neg c8] at H
           exact absurd H (by simp)
         ·
          rw [if_neg c7] at H
          exact absurd H (by simp)
        ·
         rw [if_neg c6] at H; have c6b0 := decide_eq_false c6; clear c6; have H' := Az H; clear H
         go_wp2
         repeat (go_quiet (fail); try go_wp2)
         (first | go_roundg k2 | (refine Handed.intro k2 ?measure ?_; rotate_left; go_step; (try simp only [add_plain]); (repeat apply Exists.intro); refine ⟨?rel, rfl⟩))
         case measure => have := HK1.out; have := HK2.out; omega
         case rel => exact ⟨(wrap64 (x3_1 + 1)), rS, H', ⟨by have := HK1.out; have := HK2.out; omega⟩, by repeat (first | exact Drawn0.refl _ | apply Drawn0.step)⟩
     ·
      replace c5 := Bool.eq_false_iff.mpr c5; subst c5
      have H1 : (some false) = some r := by rw [if_neg (show ¬ (false = true) by decide)] at H; exact H
      clear H; have H := H1; clear H1; obtain rfl := Option.some.inj H; have p125 : 0 ≤ (x3_1 : Int) := oA; have q125 : x3_1 < (l0.length : Int) := oA; obtain ⟨ad125, e125, hx125_0⟩ := Kd.at_int HR0.out x3_1 p125 q125
      cases e125
      replace p125 := eq_true p125; replace q125 := eq_true q125
      go_wp2_with (first | (go_at_call 49; (with_reducible refine (spec_l6In.calls (rd l0 x3_1) 0 (wrap64 ((l0.length : Int) - 1)) false _ A4.out).mono ?_); rintro e w' ⟨rfl, ⟨nd, rfl⟩⟩; (try first | exact ⟨rfl, _, World.drewN_drewN _ _ _⟩ | exact ⟨rfl, _, Eq.trans (World.drewN_drewN _ _ _) (congrArg (World.drewN _) (Nat.add_assoc _ _ _))⟩)))
      repeat (go_quiet (fail); try go_wp2_with (fail))
      go_ret
      exact ⟨by first | rfl | (simp; done) | (simp [*]; done), by repeat (first | exact Drawn0.refl _ | apply Drawn0.step)⟩
    ·
     rw [if_neg c3] at H
     exact absurd H (by simp)
   ·
    rw [if_neg c2] at H; have c2b0 := decide_eq_false c2; clear c2; replace H := Option.bind_eq_some_iff.mp H; obtain ⟨t124, A120, H⟩ := H; replace H : (some t124) = some r := H; have A12 := Az A120; clear A120; obtain rfl := Option.some.inj H
    go_wp2_with (first | (go_at_call 49; (with_reducible refine (spec_l6In.calls (l0.length : Int) 1 12 t124 _ A12.out).mono ?_); rintro e w' ⟨rfl, ⟨nd, rfl⟩⟩; (try first | exact ⟨rfl, _, World.drewN_drewN _ _ _⟩ | exact ⟨rfl, _, Eq.trans (World.drewN_drewN _ _ _) (congrArg (World.drewN _) (Nat.add_assoc _ _ _))⟩)))
    repeat (go_quiet (fail); try go_wp2_with (fail))
    go_ret
    exact ⟨by first | rfl | (simp; done) | (simp [*]; done), by repeat (first | exact Drawn0.refl _ | apply Drawn0.step)⟩
def spec_l1Both.f (k : Nat) (l0 : List Int) (l1 : List Int) : Option (Bool) := (spec_PermValid.f k l0).bind fun t129 => (if t129 = true then ((spec_PermValid.f k l1).bind fun t130 => (if t130 = true then (some ((l0.length : Int) == (l1.length : Int))) else (some false))) else (some false))
set_option maxHeartbeats 8000000 in
set_option maxRecDepth 100000 in
theorem spec_l1Both.calls (k : Nat) (A0 : Option Addr) (c0 : Nat) (l0 : List Int) (A1 : Option Addr) (c1 : Nat) (l1 : List Int) (r : Bool) (w : World) (hr0 : Kd.C (Kd.int .i64) w A0 l0.length l0) (hc0 : l0.length ≤ c0) (hr1 : Kd.C (Kd.int .i64) w A1 l1.length l1) (hc1 : l1.length ≤ c1) (h : spec_l1Both.f k l0 l1 = some r) :
  Calls Try.prog 82 #[.slice A0 l0.length c0, .slice A1 l1.length c1] w fun e w' => e = .returned (.bool r) ∧ Drawn0 w w' := by
 have HR0 := Az hr0; have HC0 := Az hc0; clear hr0 hc0; have HR1 := Az hr1; have HC1 := Az hc1; clear hr1 hc1; have H : ((spec_PermValid.f k l0).bind fun t129 => (if t129 = true then ((spec_PermValid.f k l1).bind fun t130 => (if t130 = true then (some ((l0.length : Int) == (l1.length : Int))) else (some false))) else (some false))) = some r := h; clear h; replace H := Option.bind_eq_some_iff.mp H; obtain ⟨t129, A30, H⟩ := H; replace H : (if t129 = true then ((spec_PermValid.f k l1).bind fun t130 => (if t130 = true then (some ((l0.length : Int) == (l1.length : Int))) else (some false))) else (some false)) = some r := H; have A3 := Az A30; clear A30
 by_cases c4 : t129 = true
 ·
  subst c4
  have H1 : ((spec_PermValid.f k l1).bind fun t130 => (if t130 = true then (some ((l0.length : Int) == (l1.length : Int))) else (some false))) = some r := by rw [if_pos rfl] at H; exact H
  clear H; have H := H1; clear H1; replace H := Option.bind_eq_some_iff.mp H; obtain ⟨t130, A50, H⟩ := H; replace H : (if t130 = true then (some ((l0.length : Int) == (l1.length : Int))) else (some false)) = some r := H; have A5 := Az A50; clear A50
  by_cases c6 : t130 = true
  ·
   subst c6
   have H1 : (some ((l0.length : Int) == (l1.length : Int))) = some r := by rw [if_pos rfl] at H; exact H
   clear H; have H := H1; clear H1; obtain rfl := Option.some.inj H
   go_enter Try.func82, Try.ntmps82
   go_wp2_with (first | ((with_reducible refine gate_callee (f := 95) rfl ?_); refine goesL_ (some 6) rfl rfl Try.func95 (by kernel_rfl) rfl #[.slice A0 l0.length c0] rfl (by (try simp only [List.map_toArray, List.map_cons, List.map_nil]); first | done | rfl | (simp only [List.length_drop, List.length_take]; rfl)) ?_; (with_reducible refine (spec_PermValid.calls k _ _ l0 true _ ?side1 ?side2 A3.out).mono ?_); (case side1 => exact cU (HR0.out)); (case side2 => exact HC0.out); rintro e w' ⟨rfl, ⟨nd, rfl⟩⟩; refine ⟨_, rfl, ?_⟩) | (go_at_call 95; (with_reducible refine (spec_PermValid.calls k _ _ l1 true _ ?side1 ?side2 A5.out).mono ?_); (case side1 => exact cU (HR1.out)); (case side2 => exact HC1.out); rintro e w' ⟨rfl, ⟨nd, rfl⟩⟩))
   go_ret
   exact ⟨by first | rfl | (simp; done) | (simp [*]; done), by repeat (first | exact Drawn0.refl _ | apply Drawn0.step)⟩
  ·
   replace c6 := Bool.eq_false_iff.mpr c6; subst c6
   have H1 : (some false) = some r := by rw [if_neg (show ¬ (false = true) by decide)] at H; exact H
   clear H; have H := H1; clear H1; obtain rfl := Option.some.inj H
   go_enter Try.func82, Try.ntmps82
   go_wp2_with (first | ((with_reducible refine gate_callee (f := 95) rfl ?_); refine goesL_ (some 6) rfl rfl Try.func95 (by kernel_rfl) rfl #[.slice A0 l0.length c0] rfl (by (try simp only [List.map_toArray, List.map_cons, List.map_nil]); first | done | rfl | (simp only [List.length_drop, List.length_take]; rfl)) ?_; (with_reducible refine (spec_PermValid.calls k _ _ l0 true _ ?side1 ?side2 A3.out).mono ?_); (case side1 => exact cU (HR0.out)); (case side2 => exact HC0.out); rintro e w' ⟨rfl, ⟨nd, rfl⟩⟩; refine ⟨_, rfl, ?_⟩) | (go_at_call 95; (with_reducible refine (spec_PermValid.calls k _ _ l1 false _ ?side1 ?side2 A5.out).mono ?_); (case side1 => exact cU (HR1.out)); (case side2 => exact HC1.out); rintro e w' ⟨rfl, ⟨nd, rfl⟩⟩))
   go_ret
   exact ⟨by first | rfl | (simp; done) | (simp [*]; done), by repeat (first | exact Drawn0.refl _ | apply Drawn0.step)⟩
 ·
  replace c4 := Bool.eq_false_iff.mpr c4; subst c4
  have H1 : (some false) = some r := by rw [if_neg (show ¬ (false = true) by decide)] at H; exact H
  clear H; have H := H1; clear H1; obtain rfl := Option.some.inj H
  go_enter Try.func82, Try.ntmps82
  go_wp2_with (first | ((with_reducible refine gate_callee (f := 95) rfl ?_); refine goesL_ (some 6) rfl rfl Try.func95 (by kernel_rfl) rfl #[.slice A0 l0.length c0] rfl (by (try simp only [List.map_toArray, List.map_cons, List.map_nil]); first | done | rfl | (simp only [List.length_drop, List.length_take]; rfl)) ?_; (with_reducible refine (spec_PermValid.calls k _ _ l0 false _ ?side1 ?side2 A3.out).mono ?_); (case side1 => exact cU (HR0.out)); (case side2 => exact HC0.out); rintro e w' ⟨rfl, ⟨nd, rfl⟩⟩; refine ⟨_, rfl, ?_⟩))
  go_ret
  exact ⟨by first | rfl | (simp; done) | (simp [*]; done), by repeat (first | exact Drawn0.refl _ | apply Drawn0.step)⟩
def spec_l1Same.l0 : Nat → Int → List Int → Int → Option (List Int)
 | 0, _, _, _ => none
 | k + 1, x0, x3, x4 => if x4 < x0 then (if x3.length < 17592186044416 then (spec_l1Same.l0 k x0 (x3 ++ [x4]) (wrap64 (x4 + 1))) else (none)) else (some x3)
def spec_l1Same.f (k : Nat) (a0 : Int) : Option (List Int) := spec_l1Same.l0 k a0 (([] : List Int)) 0
set_option maxHeartbeats 8000000 in
set_option maxRecDepth 100000 in
theorem spec_l1Same.calls (k : Nat) (a0 : Int) (r : List Int) (w : World) (h : spec_l1Same.f k a0 = some r) :
  Calls Try.prog 94 #[.int .i64 a0] w fun e w' => ∃ v0_ : Value, e = .returned (v0_) ∧ Kd.R (Kd.int .i64) 3 w' w.heap.size (fun _ => True) v0_ r ∧ Below w.heap.size w w' := by
 have HB := Az (Below.refl w.heap.size w); have H : (spec_l1Same.l0 k a0 (([] : List Int)) 0) = some r := h; clear h; obtain ⟨y131, hy131⟩ : ∃ y_ : List Int, y_ = (([] : List Int)) := ⟨_, rfl⟩; replace H : (spec_l1Same.l0 k a0 y131 0) = some r := hR hy131 H; have Ny131 := Az hy131; clear hy131; have H' := Az H; clear H
 go_enter Try.func94, Try.ntmps94
 go_wp2_with (first | ((with_reducible refine gate_dst (N := 5) rfl ?_); refine Kd.R_lit (Kd.int .i64) _ 3 ?hg (N := 5) ?hd (xs := ([] : List Int)) (inner := []) (ok := fun _ => True) (okp := fun _ => True) ?hr ?hp (fun _ hk => hk) trivial (Below.refl _ _) (Nat.le_refl _) (by simp) ?_; (case hd => rfl); (case hg => rfl); (case hr => first | (go_simp; done) | (go_simp; rfl)); (case hp => exact (Reps.none _ _)); intro v132 w2 ho3 hb hg_ hnew_; clear hg_ hnew_; (first | rw [← Ny131.out] at ho3 | (simp only [Int.reduceToNat] at ho3; rw [← Ny131.out] at ho3)); have n0 := Az (Kd.R_lower ho3 (below_size (bU0 HB.out))); have n1 := Az (below_step (bU0 HB.out) hb); clear HB; have HO133 := n0; have HB := n1; clear n0 n1; clear hb ho3))
 go_loopg [3, 4] k (fun kq v3 v4 w' => ∃ (x3_1 : List Int) (x4_1 : Int), v4 = .int .i64 x4_1 ∧ Aside0 (spec_l1Same.l0 kq a0 x3_1 x4_1 = some r) ∧ Aside0 (kq ≤ k) ∧ Aside0 (Kd.R (Kd.int .i64) 3 w' w.heap.size (fun _ => True) v3 x3_1) ∧ Aside0 (Below w.heap.size w w'))
 case atStart => exact ⟨(y131), (0), rS, H', ⟨Nat.le_refl _⟩, ⟨rU HO133.out⟩, ⟨bU0 HB.out⟩⟩
 case round =>
  clear H'; (try clear p2); obtain ⟨x3_1, x4_1, rfl, HA, HK1, HO_3, HB⟩ := hrel
  cases gk with
  | zero => exact absurd HA.out (by simp [spec_l1Same.l0])
  | succ k1 =>
   have H := HA.out; clear HA; simp only [spec_l1Same.l0] at H
   by_cases c4 : x4_1 < a0
   ·
    rw [if_pos c4] at H; have c4b0 := decide_eq_true c4; clear c4
    by_cases c5 : x3_1.length < 17592186044416
    ·
     rw [if_pos c5] at H; have LMc5 := Az c5; clear c5; obtain ⟨y134, hy134⟩ : ∃ y_ : List Int, y_ = (x3_1 ++ [x4_1]) := ⟨_, rfl⟩; replace H : (spec_l1Same.l0 k1 a0 y134 (wrap64 (x4_1 + 1))) = some r := hR hy134 H; have Ny134 := Az hy134; clear hy134; have H' := Az H; clear H
     go_wp2_with (first | ((with_reducible refine gate_builtin (b := .append) (xs := #[.tmp 11, .tmp 13]) rfl ?_); at_builtin; refine Kd.R_append (Kd.int .i64) (w0 := w) w.heap.size rfl (.tmp 11) (.tmp 13) 22 3 (.int .i64 0) 8 rfl Try.underlying22 info3 rfl (by decide) (by omega) u3 x3_1 x4_1 [.int .i64 x4_1] (fun _ => True) (fun _ => False) rfl rfl ?aP (fun _ hk => hk.elim) ?aF ?aO ?aB ?aS ?aL ?_; (case aP => exact rfl); (case aB => exact (bU0 HB.out)); (case aF => exact (fun _ _ => trivial)); (case aO => exact (rU HO_3.out)); (case aS => exact (below_size (bU0 HB.out))); (case aL => have := LMc5.out; omega); intro v135 w6 ho hb hg hat; rw [← Ny134.out] at ho; have n0 := Az (hb); have n1 := Az (ho); clear HB HO_3; have HB := n0; have HO136 := n1; clear n0 n1; clear ho hb hg hat))
     (first | go_roundg k1 | (refine Handed.intro k1 ?measure ?_; rotate_left; go_step; (try simp only [add_plain]); (repeat apply Exists.intro); refine ⟨?rel, rfl⟩))
     case measure => have := HK1.out; omega
     case rel => exact ⟨(y134), (wrap64 (x4_1 + 1)), rS, H', ⟨by have := HK1.out; omega⟩, ⟨rU HO136.out⟩, ⟨bU0 HB.out⟩⟩
    ·
     rw [if_neg c5] at H
     exact absurd H (by simp)
   ·
    rw [if_neg c4] at H; have c4b0 := decide_eq_false c4; clear c4; obtain rfl := Option.some.inj H
    go_wp2
    go_ret
    exact ⟨_, rE, rU HO_3.out, bU0 HB.out⟩
mutual
def spec_l1Orbits.l0 : Nat → List Int → List Int → List Int → Int → Option (List Int)
 | 0, _, _, _, _ => none
 | k + 1, x0, x1, x5, x6 => if x6 < (x0.length : Int) then (spec_l1Orbits.l1 k x0 x1 x5 x6 0) else (some x5)
def spec_l1Orbits.l1 : Nat → List Int → List Int → List Int → Int → Int → Option (List Int)
 | 0, _, _, _, _, _ => none
 | k + 1, x0, x1, x5, x6, x7 => if x7 < (x0.length : Int) then (if 0 ≤ x7 then (if x7 < (x5.length : Int) then (if 0 ≤ (rd x0 x7) then (if (rd x0 x7) < (x5.length : Int) then (if x7 < (x1.length : Int) then (if 0 ≤ (rd x1 x7) then (if (rd x1 x7) < (x5.length : Int) then (spec_l1Orbits.l1 k x0 x1 (((x5.set (x7 : Int).toNat (mn (rd x5 x7) (mn (rd x5 (rd x0 x7)) (rd x5 (rd x1 x7))))).set ((rd x0 x7) : Int).toNat (mn (rd x5 x7) (mn (rd x5 (rd x0 x7)) (rd x5 (rd x1 x7))))).set ((rd x1 x7) : Int).toNat (mn (rd x5 x7) (mn (rd x5 (rd x0 x7)) (rd x5 (rd x1 x7))))) x6 (wrap64 (x7 + 1))) else (none)) else (none)) else (none)) else (none)) else (none)) else (none)) else (none)) else (spec_l1Orbits.l0 k x0 x1 x5 (wrap64 (x6 + 1)))
end
def spec_l1Orbits.f (k : Nat) (l0 : List Int) (l1 : List Int) : Option (List Int) := (spec_l1Same.f k (l0.length : Int)).bind fun t137 => (spec_l1Orbits.l0 k l0 l1 t137 0)
set_option maxHeartbeats 8000000 in
set_option maxRecDepth 100000 in
theorem spec_l1Orbits.calls (k : Nat) (A0 : Option Addr) (c0 : Nat) (l0 : List Int) (A1 : Option Addr) (c1 : Nat) (l1 : List Int) (r : List Int) (w : World) (hr0 : Kd.C (Kd.int .i64) w A0 l0.length l0) (hc0 : l0.length ≤ c0) (hr1 : Kd.C (Kd.int .i64) w A1 l1.length l1) (hc1 : l1.length ≤ c1) (h : spec_l1Orbits.f k l0 l1 = some r) :
  Calls Try.prog 83 #[.slice A0 l0.length c0, .slice A1 l1.length c1] w fun e w' => ∃ v0_ : Value, e = .returned (v0_) ∧ Kd.R (Kd.int .i64) 3 w' w.heap.size (fun _ => True) v0_ r ∧ Below w.heap.size w w' := by
 have HR0 := Az hr0; have HC0 := Az hc0; clear hr0 hc0; have HR1 := Az hr1; have HC1 := Az hc1; clear hr1 hc1; have HB := Az (Below.refl w.heap.size w); have H : ((spec_l1Same.f k (l0.length : Int)).bind fun t137 => (spec_l1Orbits.l0 k l0 l1 t137 0)) = some r := h; clear h; replace H := Option.bind_eq_some_iff.mp H; obtain ⟨t137, A30, H⟩ := H; replace H : (spec_l1Orbits.l0 k l0 l1 t137 0) = some r := H; have A3 := Az A30; clear A30; have H' := Az H; clear H
 go_enter Try.func83, Try.ntmps83
 go_wp2_with (first | (go_at_call 94; (with_reducible refine (spec_l1Same.calls k (l0.length : Int) t137 _ A3.out).mono ?_); rintro e w4 ⟨v138, rfl, ho0, hb⟩; have n0 := Az (Kd.R_lower ho0 (below_size (bU0 HB.out))); have n1 := Az (below_step (bU0 HB.out) hb); clear HB; have HO139 := n0; have HB := n1; clear n0 n1; (try clear hb); (try clear hb2); (try clear hk); (try clear hi); (try clear ho0)))
 repeat (go_quiet (fail); try go_wp2_with (fail))
 go_loopg [6] k (fun kq v6 w' => ∃ (x5_1 : List Int) (x6_1 : Int), v6 = .int .i64 x6_1 ∧ Aside0 (spec_l1Orbits.l0 kq l0 l1 x5_1 x6_1 = some r) ∧ Aside0 (kq ≤ k) ∧ Aside0 (Kd.R (Kd.int .i64) 3 w' w.heap.size (fun _ => True) v138 x5_1) ∧ Aside0 (Below w.heap.size w w'))
 case atStart => exact ⟨(t137), (0), rS, H', ⟨Nat.le_refl _⟩, ⟨rU HO139.out⟩, ⟨bU0 HB.out⟩⟩
 case round =>
  clear H'; (try clear c1); (try clear p2); obtain ⟨x5_1, x6_1, rfl, HA, HK1, HO_5, HB⟩ := hrel
  cases gk with
  | zero => exact absurd HA.out (by simp [spec_l1Orbits.l0])
  | succ k1 =>
   have H := HA.out; clear HA; simp only [spec_l1Orbits.l0] at H
   by_cases c5 : x6_1 < (l0.length : Int)
   ·
    rw [if_pos c5] at H; have c5b0 := decide_eq_true c5; clear c5; have H' := Az H; clear H
    go_wp2
    repeat (go_quiet (fail); try go_wp2)
    go_loopg [7] k1 (fun kq v7 w' => ∃ (x5_2 : List Int) (x7_2 : Int), v7 = .int .i64 x7_2 ∧ Aside0 (spec_l1Orbits.l1 kq l0 l1 x5_2 x6_1 x7_2 = some r) ∧ Aside0 (kq ≤ k1) ∧ Aside0 (Kd.R (Kd.int .i64) 3 w' w.heap.size (fun _ => True) v138 x5_2) ∧ Aside0 (Below w.heap.size w w'))
    case atStart => exact ⟨(x5_1), (0), rS, H', ⟨Nat.le_refl _⟩, ⟨rU HO_5.out⟩, ⟨bU0 HB.out⟩⟩
    case round =>
     clear H'; (try clear c1); (try clear p2); (try clear c5); (try clear c5b0); (try clear p2); obtain ⟨x5_2, x7_2, rfl, HA, HK2, HO_5, HB⟩ := hrel
     cases gk with
     | zero => exact absurd HA.out (by simp [spec_l1Orbits.l1])
     | succ k2 =>
      have H := HA.out; clear HA; simp only [spec_l1Orbits.l1] at H
      by_cases c6 : x7_2 < (l0.length : Int)
      ·
       rw [if_pos c6] at H; have c6b0 := decide_eq_true c6; clear c6
       by_cases c7 : 0 ≤ x7_2
       ·
        rw [if_pos c7] at H; have c7b0 := decide_eq_true c7; clear c7
        by_cases c8 : x7_2 < (x5_2.length : Int)
        ·
         rw [if_pos c8] at H; have c8b0 := decide_eq_true c8; clear c8
         by_cases c9 : 0 ≤ (rd l0 x7_2)
         ·
          rw [if_pos c9] at H; have c9b0 := decide_eq_true c9; clear c9
          by_cases c10 : (rd l0 x7_2) < (x5_2.length : Int)
          ·
           rw [if_pos c10] at H; have c10b0 := decide_eq_true c10; clear c10
           by_cases c11 : x7_2 < (l1.length : Int)
           ·
            rw [if_pos c11] at H; have c11b0 := decide_eq_true c11; clear c11
            by_cases c12 : 0 ≤ (rd l1 x7_2)
            ·
             rw [if_pos c12] at H; have c12b0 := decide_eq_true c12; clear c12
             by_cases c13 : (rd l1 x7_2) < (x5_2.length : Int)
             ·
              rw [if_pos c13] at H; have c13b0 := decide_eq_true c13; clear c13; obtain ⟨ji14, hji14⟩ : ∃ j_ : Int, (mn (rd x5_2 (rd l0 x7_2)) (rd x5_2 (rd l1 x7_2))) = j_ := ⟨_, rfl⟩
              replace H : (spec_l1Orbits.l1 k2 l0 l1 (((x5_2.set (x7_2 : Int).toNat (mn (rd x5_2 x7_2) (ji14))).set ((rd l0 x7_2) : Int).toNat (mn (rd x5_2 x7_2) (ji14))).set ((rd l1 x7_2) : Int).toNat (mn (rd x5_2 x7_2) (ji14))) x6_1 (wrap64 (x7_2 + 1))) = some r := by first | (rw [hji14] at H; exact H) | (simp only [hji14] at H ⊢; exact H)
              have hji14_ : (if (rd x5_2 (rd l1 x7_2)) < (rd x5_2 (rd l0 x7_2)) then (rd x5_2 (rd l1 x7_2)) else (rd x5_2 (rd l0 x7_2))) = ji14 := hji14; obtain ⟨ji15, hji15⟩ : ∃ j_ : Int, (mn (rd x5_2 x7_2) (ji14)) = j_ := ⟨_, rfl⟩
              replace H : (spec_l1Orbits.l1 k2 l0 l1 (((x5_2.set (x7_2 : Int).toNat (ji15)).set ((rd l0 x7_2) : Int).toNat (ji15)).set ((rd l1 x7_2) : Int).toNat (ji15)) x6_1 (wrap64 (x7_2 + 1))) = some r := by first | (rw [hji15] at H; exact H) | (simp only [hji15] at H ⊢; exact H)
              have hji15_ : (if (ji14) < (rd x5_2 x7_2) then (ji14) else (rd x5_2 x7_2)) = ji15 := hji15; obtain ⟨y145, hy145⟩ : ∃ y_ : List Int, y_ = (x5_2.set (x7_2 : Int).toNat (ji15)) := ⟨_, rfl⟩; replace H : (spec_l1Orbits.l1 k2 l0 l1 ((y145.set ((rd l0 x7_2) : Int).toNat (ji15)).set ((rd l1 x7_2) : Int).toNat (ji15)) x6_1 (wrap64 (x7_2 + 1))) = some r := hR hy145 H; have Ny145 := Az hy145; clear hy145; obtain ⟨y147, hy147⟩ : ∃ y_ : List Int, y_ = (y145.set ((rd l0 x7_2) : Int).toNat (ji15)) := ⟨_, rfl⟩; replace H : (spec_l1Orbits.l1 k2 l0 l1 (y147.set ((rd l1 x7_2) : Int).toNat (ji15)) x6_1 (wrap64 (x7_2 + 1))) = some r := hR hy147 H; have Ny147 := Az hy147; clear hy147; obtain ⟨y149, hy149⟩ : ∃ y_ : List Int, y_ = (y147.set ((rd l1 x7_2) : Int).toNat (ji15)) := ⟨_, rfl⟩; replace H : (spec_l1Orbits.l1 k2 l0 l1 y149 x6_1 (wrap64 (x7_2 + 1))) = some r := hR hy149 H; have Ny149 := Az hy149; clear hy149; have H' := Az H; clear H; obtain ⟨Ao19, co19, eo19⟩ := Kd.R_slice HO_5.out; subst eo19; have p140 : 0 ≤ (x7_2 : Int) := oA; have q140 : x7_2 < (x5_2.length : Int) := oA; obtain ⟨ad140, e140, hx140_0⟩ := Kd.at_int (Kd.R_reads' HO_5.out).2.2 x7_2 p140 q140
              cases e140
              replace p140 := eq_true p140; replace q140 := eq_true q140; have p141 : 0 ≤ (x7_2 : Int) := oA; have q141 : x7_2 < (l0.length : Int) := oA; obtain ⟨ad141, e141, hx141_0⟩ := Kd.at_int HR0.out x7_2 p141 q141
              cases e141
              (try replace hx141_0 := (HB.out.cell (World.block_lt_of_cell? w _ hx141_0)).trans hx141_0); replace p141 := eq_true p141; replace q141 := eq_true q141; have p142 : 0 ≤ ((rd l0 x7_2) : Int) := oA; have q142 : (rd l0 x7_2) < (x5_2.length : Int) := oA; obtain ⟨ad142, e142, hx142_0⟩ := Kd.at_int (Kd.R_reads' HO_5.out).2.2 (rd l0 x7_2) p142 q142; obtain rfl : ad140 = ad142 := (by injection e142); replace p142 := eq_true p142; replace q142 := eq_true q142; have p143 : 0 ≤ (x7_2 : Int) := oA; have q143 : x7_2 < (l1.length : Int) := oA; obtain ⟨ad143, e143, hx143_0⟩ := Kd.at_int HR1.out x7_2 p143 q143
              cases e143
              (try replace hx143_0 := (HB.out.cell (World.block_lt_of_cell? w _ hx143_0)).trans hx143_0); replace p143 := eq_true p143; replace q143 := eq_true q143; have p144 : 0 ≤ ((rd l1 x7_2) : Int) := oA; have q144 : (rd l1 x7_2) < (x5_2.length : Int) := oA; obtain ⟨ad144, e144, hx144_0⟩ := Kd.at_int (Kd.R_reads' HO_5.out).2.2 (rd l1 x7_2) p144 q144; obtain rfl : ad140 = ad144 := (by injection e144); replace p144 := eq_true p144; replace q144 := eq_true q144; have p16 : 0 ≤ (x7_2 : Int) := oA; have q16 : (x7_2 : Int) < ((x5_2.length : Int) : Int) := oA; obtain ⟨go16, co16, eo16, gb16, gl16, cl16, HG16⟩ := Kd.R_form HO_5.out (by omega); (first | cases eo16 | (injection eo16 with ea_ en_ ec_; (first | subst ea_ | (injection ea_ with ea_; subst ea_)); subst ec_; clear en_)); have GB16 := Az gb16; have GG16 := Az HG16; clear gb16 gl16 HG16; (first | simp only [add_plain] at hx140_0 | skip); (first | simp only [add_plain] at hx142_0 | skip); (first | simp only [add_plain] at hx144_0 | skip); obtain ⟨hx16_0, hf16_0⟩ := Kd.R_celln 0 HO_5.out (x7_2 : Int) p16 q16; replace p16 := eq_true p16; replace q16 := eq_true q16; obtain ⟨hy20_, hz20_⟩ := Kd.R_celln 0 HO_5.out (x7_2 : Int) (oA) (oA); have HP20 := Kd.R_putg HO_5.out (x7_2 : Int) ji15
              go_wp2_with (fail)
              repeat (go_quiet (fail); try go_wp2_with (first | ((with_reducible refine gate_store (t := 3) (p := 47) rfl ?_); (try (rw [drewN_self wr]; generalize hq_ : World.drewN wr _ = wr; have n0 := Az (Kd.R_at hq_ HO_5.out); have n1 := Az (below_at hq_ HB.out); clear hq_ HO_5 HB; have HO_5 := n0; have HB := n1; clear n0 n1; (try (obtain ⟨hy20_, hz20_⟩ := Kd.R_celln 0 HO_5.out (x7_2 : Int) (oA) (oA))); (try (have HP20 := Kd.R_putg HO_5.out (x7_2 : Int) ji15)))); refine store_event (t := 3) (p := 47) (v := ?vo_w21) (w1 := (wr.setCell ⟨go16, (x7_2 : Int).toNat, none⟩ (.int .i64 ji15))) ?hg ?ho ?hn ?hr ?_; (case ho => rfl); (case hg => rfl); (case hn => rfl); (case hr => first | (go_simp; done) | (go_simp; rfl)); intro w21 hw; have hg : wr.grownBy w21 (some go16) := (by rw [hw]; exact HP20.2); have hp_ : Kd.R (Kd.int .i64) 3 w21 w.heap.size (fun _ => True) (.slice (some ⟨go16, 0, none⟩) x5_2.length co19) y145 := (by rw [hw, Ny145.out]; exact HP20.1); clear HP20; have n0 := Az (hp_); have n1 := Az ((by rw [hw]; exact below_set (HB.out) GB16.out : Below w.heap.size w w21)); clear HO_5 HB; have HO_5 := n0; have HB := n1; clear n0 n1 hg hw hp_; have p146 : 0 ≤ (x7_2 : Int) := oA; have q146 : x7_2 < (l0.length : Int) := oA; obtain ⟨ad146, e146, hx146_0⟩ := Kd.at_int HR0.out x7_2 p146 q146; obtain rfl : ad141 = ad146 := (by injection e146); replace hx146_0 := (HB.out.cell (World.block_lt_of_cell? w _ hx146_0)).trans hx146_0; replace p146 := eq_true p146; replace q146 := eq_true q146; have p17 : 0 ≤ ((rd l0 x7_2) : Int) := oA; have q17 : ((rd l0 x7_2) : Int) < ((x5_2.length : Int) : Int) := oA; obtain ⟨hx17_0, hf17_0⟩ := Kd.R_celln 0 HO_5.out ((rd l0 x7_2) : Int) p17 q17; replace p17 := eq_true p17; replace q17 := eq_true q17; obtain ⟨hy22_, hz22_⟩ := Kd.R_celln 0 HO_5.out ((rd l0 x7_2) : Int) (oA) (oA); have HP22 := Kd.R_putg HO_5.out ((rd l0 x7_2) : Int) ji15) | ((with_reducible refine gate_store (t := 3) (p := 54) rfl ?_); (try (rw [drewN_self w21]; generalize hq_ : World.drewN w21 _ = w21; have n0 := Az (Kd.R_at hq_ HO_5.out); have n1 := Az (below_at hq_ HB.out); clear hq_ HO_5 HB; have HO_5 := n0; have HB := n1; clear n0 n1; (try (obtain ⟨hy22_, hz22_⟩ := Kd.R_celln 0 HO_5.out ((rd l0 x7_2) : Int) (oA) (oA))); (try (have HP22 := Kd.R_putg HO_5.out ((rd l0 x7_2) : Int) ji15)))); refine store_event (t := 3) (p := 54) (v := ?vo_w23) (w1 := (w21.setCell ⟨go16, ((rd l0 x7_2) : Int).toNat, none⟩ (.int .i64 ji15))) ?hg ?ho ?hn ?hr ?_; (case ho => rfl); (case hg => rfl); (case hn => rfl); (case hr => first | (go_simp; done) | (go_simp; rfl)); intro w23 hw; have hg : w21.grownBy w23 (some go16) := (by rw [hw]; exact HP22.2); have hp_ : Kd.R (Kd.int .i64) 3 w23 w.heap.size (fun _ => True) (.slice (some ⟨go16, 0, none⟩) x5_2.length co19) y147 := (by rw [hw, Ny147.out]; exact HP22.1); clear HP22; have n0 := Az (hp_); have n1 := Az ((by rw [hw]; exact below_set (HB.out) GB16.out : Below w.heap.size w w23)); clear HO_5 HB; have HO_5 := n0; have HB := n1; clear n0 n1 hg hw hp_; have p148 : 0 ≤ (x7_2 : Int) := oA; have q148 : x7_2 < (l1.length : Int) := oA; obtain ⟨ad148, e148, hx148_0⟩ := Kd.at_int HR1.out x7_2 p148 q148; obtain rfl : ad143 = ad148 := (by injection e148); replace hx148_0 := (HB.out.cell (World.block_lt_of_cell? w _ hx148_0)).trans hx148_0; replace p148 := eq_true p148; replace q148 := eq_true q148; have p18 : 0 ≤ ((rd l1 x7_2) : Int) := oA; have q18 : ((rd l1 x7_2) : Int) < ((x5_2.length : Int) : Int) := oA; obtain ⟨hx18_0, hf18_0⟩ := Kd.R_celln 0 HO_5.out ((rd l1 x7_2) : Int) p18 q18; replace p18 := eq_true p18; replace q18 := eq_true q18; obtain ⟨hy24_, hz24_⟩ := Kd.R_celln 0 HO_5.out ((rd l1 x7_2) : Int) (oA) (oA); have HP24 := Kd.R_putg HO_5.out ((rd l1 x7_2) : Int) ji15) | ((with_reducible refine gate_store (t := 3) (p := 61) rfl ?_); (try (rw [drewN_self w23]; generalize hq_ : World.drewN w23 _ = w23; have n0 := Az (Kd.R_at hq_ HO_5.out); have n1 := Az (below_at hq_ HB.out); clear hq_ HO_5 HB; have HO_5 := n0; have HB := n1; clear n0 n1; (try (obtain ⟨hy24_, hz24_⟩ := Kd.R_celln 0 HO_5.out ((rd l1 x7_2) : Int) (oA) (oA))); (try (have HP24 := Kd.R_putg HO_5.out ((rd l1 x7_2) : Int) ji15)))); refine store_event (t := 3) (p := 61) (v := ?vo_w25) (w1 := (w23.setCell ⟨go16, ((rd l1 x7_2) : Int).toNat, none⟩ (.int .i64 ji15))) ?hg ?ho ?hn ?hr ?_; (case ho => rfl); (case hg => rfl); (case hn => rfl); (case hr => first | (go_simp; done) | (go_simp; rfl)); intro w25 hw; have hg : w23.grownBy w25 (some go16) := (by rw [hw]; exact HP24.2); have hp_ : Kd.R (Kd.int .i64) 3 w25 w.heap.size (fun _ => True) (.slice (some ⟨go16, 0, none⟩) x5_2.length co19) y149 := (by rw [hw, Ny149.out]; exact HP24.1); clear HP24; have n0 := Az (hp_); have n1 := Az ((by rw [hw]; exact below_set (HB.out) GB16.out : Below w.heap.size w w25)); clear HO_5 HB; have HO_5 := n0; have HB := n1; clear n0 n1; clear hg hw hp_)))
              (first | go_roundg k2 | (refine Handed.intro k2 ?measure ?_; rotate_left; go_step; (try simp only [add_plain]); (repeat apply Exists.intro); refine ⟨?rel, rfl⟩))
              case measure => have := HK1.out; have := HK2.out; omega
              case rel => exact ⟨(y149), (wrap64 (x7_2 + 1)), rS, H', ⟨by have := HK1.out; have := HK2.out; omega⟩, ⟨rU HO_5.out⟩, ⟨bU0 HB.out⟩⟩
             ·
              rw [if_neg c13] at H
              exact absurd H (by simp)
            ·
             rw [if_neg c12] at H
             exact absurd H (by simp)
           ·
            rw [if_neg c11] at H
            exact absurd H (by simp)
          ·
           rw [if_neg c10] at H
           exact absurd H (by simp)
         ·
          rw [if_neg c9] at H
          exact absurd H (by simp)
        ·
         rw [if_neg c8] at H
         exact absurd H (by simp)
       ·
        rw [if_neg c7] at H
        exact absurd H (by simp)
      ·
       rw [if_neg c6] at H; have c6b0 := decide_eq_false c6; clear c6; have H' := Az H; clear H
       go_wp2
       repeat (go_quiet (fail); try go_wp2)
       (first | go_roundg k2 | (refine Handed.intro k2 ?measure ?_; rotate_left; go_step; (try simp only [add_plain]); (repeat apply Exists.intro); refine ⟨?rel, rfl⟩))
       case measure => have := HK1.out; have := HK2.out; omega
       case rel => exact ⟨(x5_2), (wrap64 (x6_1 + 1)), rS, H', ⟨by have := HK1.out; have := HK2.out; omega⟩, ⟨rU HO_5.out⟩, ⟨bU0 HB.out⟩⟩
   ·
    rw [if_neg c5] at H; have c5b0 := decide_eq_false c5; clear c5; obtain rfl := Option.some.inj H
    go_wp2
    repeat (go_quiet (fail); try go_wp2)
    go_ret
    exact ⟨_, rE, rU HO_5.out, bU0 HB.out⟩
mutual
def spec_MapValid.l0 : Nat → Int → List Int → List Int → Option (Bool)
 | 0, _, _, _ => none
 | k + 1, x3, xZ0, xZ1 => if x3 < (xZ1.length : Int) then (if 0 ≤ x3 then (if (rd xZ1 x3) = x3 then (some false) else (if 0 ≤ (rd xZ1 x3) then (if (rd xZ1 x3) < (xZ1.length : Int) then (if (rd xZ1 (rd xZ1 x3)) = x3 then (spec_MapValid.l0 k (wrap64 (x3 + 1)) xZ0 xZ1) else (some false)) else (none)) else (none))) else (none)) else ((spec_l1Orbits.f k xZ0 xZ1).bind fun t155 => (spec_MapValid.l1 k t155 0))
def spec_MapValid.l1 : Nat → List Int → Int → Option (Bool)
 | 0, _, _ => none
 | k + 1, x4, x5 => if x5 < (x4.length : Int) then (if 0 ≤ x5 then (if (rd x4 x5) = 0 then (spec_MapValid.l1 k x4 (wrap64 (x5 + 1))) else (some false)) else (none)) else (some true)
end
def spec_MapValid.f (k : Nat) (l0_0 : List Int) (l0_1 : List Int) : Option (Bool) := (spec_l1Both.f k l0_0 l0_1).bind fun t151 => (if t151 = true then (spec_MapValid.l0 k 0 l0_0 l0_1) else (some false))
set_option maxHeartbeats 8000000 in
set_option maxRecDepth 100000 in
theorem spec_MapValid.calls (k : Nat) (A0_0 : Option Addr) (c0_0 : Nat) (l0_0 : List Int) (A0_1 : Option Addr) (c0_1 : Nat) (l0_1 : List Int) (r : Bool) (w : World) (hr0_0 : Kd.C (Kd.int .i64) w A0_0 l0_0.length l0_0) (hc0_0 : l0_0.length ≤ c0_0) (hr0_1 : Kd.C (Kd.int .i64) w A0_1 l0_1.length l0_1) (hc0_1 : l0_1.length ≤ c0_1) (h : spec_MapValid.f k l0_0 l0_1 = some r) :
  Calls Try.prog 50 #[.agg #[.slice A0_0 l0_0.length c0_0, .slice A0_1 l0_1.length c0_1]] w fun e w' => e = .returned (.bool r) ∧ Below w.heap.size w w' := by
 have hu27 := Try.underlying27; have HR0_0 := Az hr0_0; have HC0_0 := Az hc0_0; clear hr0_0 hc0_0; have HR0_1 := Az hr0_1; have HC0_1 := Az hc0_1; clear hr0_1 hc0_1; have HB := Az (Below.refl w.heap.size w); have H : ((spec_l1Both.f k l0_0 l0_1).bind fun t151 => (if t151 = true then (spec_MapValid.l0 k 0 l0_0 l0_1) else (some false))) = some r := h; clear h; replace H := Option.bind_eq_some_iff.mp H; obtain ⟨t151, A20, H⟩ := H; replace H : (if t151 = true then (spec_MapValid.l0 k 0 l0_0 l0_1) else (some false)) = some r := H; have A2 := Az A20; clear A20
 by_cases c3 : t151 = true
 ·
  subst c3
  have H1 : (spec_MapValid.l0 k 0 l0_0 l0_1) = some r := by rw [if_pos rfl] at H; exact H
  clear H; have H := H1; clear H1; have H' := Az H; clear H
  go_enter Try.func50, Try.ntmps50
  go_wp2_with (first | ((with_reducible refine gate_dst (N := 1) rfl ?_); refine box_event ?hg (N := 1) ?hd (cs := #[.slice A0_0 l0_0.length c0_0, .slice A0_1 l0_1.length c0_1]) (t := 27) ?hr ?_; (case hd => rfl); (case hg => rfl); (case hr => first | (go_simp; done) | (go_simp; rfl)); intro gb150 hg w4 hbox hb; have n0 := Az (below_step (bU0 HB.out) hb); have n1 := Az (hbox); have n2 := Az ((by rw [hg]; exact (below_size (bU0 HB.out)) : w.heap.size ≤ gb150)); have n3 := n2; clear HB; have HB := n0; have BK150 := n1; have GW150 := n2; have GE150 := n3; clear n0 n1 n2 n3 hb hbox hg; have hcz5_0 : w4.cell? ⟨gb150, 0, none⟩ = some (.slice A0_0 l0_0.length c0_0) := (blk_cell BK150.out 0).trans rfl; have hcz5_1 : w4.cell? ⟨gb150, 1, none⟩ = some (.slice A0_1 l0_1.length c0_1) := (blk_cell BK150.out 1).trans rfl; have hfz5_0 := blk_frozen BK150.out 0; have hfz5_1 := blk_frozen BK150.out 1) | (go_at_call 82; (with_reducible refine (spec_l1Both.calls k _ _ l0_0 _ _ l0_1 true _ ?side1 ?side2 ?side3 ?side4 A2.out).mono ?_); (case side1 => exact cU (Kd.C_below HR0_0.out HB.out)); (case side2 => exact HC0_0.out); (case side3 => exact cU (Kd.C_below HR0_1.out HB.out)); (case side4 => exact HC0_1.out); rintro e w' ⟨rfl, ⟨nd, rfl⟩⟩; (try first | exact ⟨rfl, _, World.drewN_drewN _ _ _⟩ | exact ⟨rfl, _, Eq.trans (World.drewN_drewN _ _ _) (congrArg (World.drewN _) (Nat.add_assoc _ _ _))⟩)))
  repeat (go_quiet (fail); try go_wp2_with (fail))
  go_loopg [3] k (fun kq v3 w' => ∃ (x3_1 : Int), v3 = .int .i64 x3_1 ∧ Aside0 (spec_MapValid.l0 kq x3_1 l0_0 l0_1 = some r) ∧ Aside0 (kq ≤ k) ∧ Aside0 (w'.heap[gb150]? = some (.cells #[(.slice A0_0 l0_0.length c0_0), (.slice A0_1 l0_1.length c0_1)] 27 (0, 0))) ∧ Aside0 (Below w.heap.size w w'))
  case atStart => exact ⟨(0), rS, H', ⟨Nat.le_refl _⟩, ⟨kU BK150.out⟩, ⟨bU1 HB.out GE150.out⟩⟩
  case round =>
   clear H'; (try clear p2); (try clear c3); (try clear c5); (try clear hcz5_0); (try clear hcz5_1); (try clear hfz5_0); (try clear hfz5_1); obtain ⟨x3_1, rfl, HA, HK1, BK150, HB⟩ := hrel
   cases gk with
   | zero => exact absurd HA.out (by simp [spec_MapValid.l0])
   | succ k1 =>
    have H := HA.out; clear HA; simp only [spec_MapValid.l0] at H
    by_cases c6 : x3_1 < (l0_1.length : Int)
    ·
     rw [if_pos c6] at H; have c6b0 := decide_eq_true c6; clear c6
     by_cases c7 : 0 ≤ x3_1
     ·
      rw [if_pos c7] at H; have c7b0 := decide_eq_true c7; clear c7
      by_cases c8 : (rd l0_1 x3_1) = x3_1
      ·
       rw [if_pos c8] at H; have c8b0 := beq_iff_eq.mpr c8; have c8b1 := bne_eq_false_iff_eq.mpr c8; clear c8; obtain rfl := Option.some.inj H; have hcz9_0 : wr.cell? ⟨gb150, 0, none⟩ = some (.slice A0_0 l0_0.length c0_0) := (blk_cell BK150.out 0).trans rfl; have hcz9_1 : wr.cell? ⟨gb150, 1, none⟩ = some (.slice A0_1 l0_1.length c0_1) := (blk_cell BK150.out 1).trans rfl; have hfz9_0 := blk_frozen BK150.out 0; have hfz9_1 := blk_frozen BK150.out 1; have p152 : 0 ≤ (x3_1 : Int) := oA; have q152 : x3_1 < (l0_1.length : Int) := oA; obtain ⟨ad152, e152, hx152_0⟩ := Kd.at_int HR0_1.out x3_1 p152 q152
       cases e152
       (try replace hx152_0 := (HB.out.cell (World.block_lt_of_cell? w _ hx152_0)).trans hx152_0); replace p152 := eq_true p152; replace q152 := eq_true q152
       go_wp2
       repeat (go_quiet (fail); try go_wp2)
       go_ret
       exact ⟨rE, bU1 HB.out GE150.out⟩
      ·
       rw [if_neg c8] at H; have c8b0 := beq_eq_false_iff_ne.mpr c8; have c8b1 := bne_iff_ne.mpr c8
       by_cases c10 : 0 ≤ (rd l0_1 x3_1)
       ·
        rw [if_pos c10] at H; have c10b0 := decide_eq_true c10; clear c10
        by_cases c11 : (rd l0_1 x3_1) < (l0_1.length : Int)
        ·
         rw [if_pos c11] at H; have c11b0 := decide_eq_true c11; clear c11
         by_cases c12 : (rd l0_1 (rd l0_1 x3_1)) = x3_1
         ·
          rw [if_pos c12] at H; have c12b0 := beq_iff_eq.mpr c12; have c12b1 := bne_eq_false_iff_eq.mpr c12; clear c12; have H' := Az H; clear H; have hcz13_0 : wr.cell? ⟨gb150, 0, none⟩ = some (.slice A0_0 l0_0.length c0_0) := (blk_cell BK150.out 0).trans rfl; have hcz13_1 : wr.cell? ⟨gb150, 1, none⟩ = some (.slice A0_1 l0_1.length c0_1) := (blk_cell BK150.out 1).trans rfl; have hfz13_0 := blk_frozen BK150.out 0; have hfz13_1 := blk_frozen BK150.out 1; have p152 : 0 ≤ (x3_1 : Int) := oA; have q152 : x3_1 < (l0_1.length : Int) := oA; obtain ⟨ad152, e152, hx152_0⟩ := Kd.at_int HR0_1.out x3_1 p152 q152
          cases e152
          (try replace hx152_0 := (HB.out.cell (World.block_lt_of_cell? w _ hx152_0)).trans hx152_0); replace p152 := eq_true p152; replace q152 := eq_true q152; have p153 : 0 ≤ (x3_1 : Int) := oA; have q153 : x3_1 < (l0_1.length : Int) := oA; obtain ⟨ad153, e153, hx153_0⟩ := Kd.at_int HR0_1.out x3_1 p153 q153; obtain rfl : ad152 = ad153 := (by injection e153); (try replace hx153_0 := (HB.out.cell (World.block_lt_of_cell? w _ hx153_0)).trans hx153_0); replace p153 := eq_true p153; replace q153 := eq_true q153; have p154 : 0 ≤ ((rd l0_1 x3_1) : Int) := oA; have q154 : (rd l0_1 x3_1) < (l0_1.length : Int) := oA; obtain ⟨ad154, e154, hx154_0⟩ := Kd.at_int HR0_1.out (rd l0_1 x3_1) p154 q154; obtain rfl : ad152 = ad154 := (by injection e154); (try replace hx154_0 := (HB.out.cell (World.block_lt_of_cell? w _ hx154_0)).trans hx154_0); replace p154 := eq_true p154; replace q154 := eq_true q154
          go_wp2
          repeat (go_quiet (fail); try go_wp2)
          (first | go_roundg k1 | (refine Handed.intro k1 ?measure ?_; rotate_left; go_step; (try simp only [add_plain]); (repeat apply Exists.intro); refine ⟨?rel, rfl⟩))
          case measure => have := HK1.out; omega
          case rel => exact ⟨(wrap64 (x3_1 + 1)), rS, H', ⟨by have := HK1.out; omega⟩, ⟨kU BK150.out⟩, ⟨bU1 HB.out GE150.out⟩⟩
         ·
          rw [if_neg c12] at H; have c12b0 := beq_eq_false_iff_ne.mpr c12; have c12b1 := bne_iff_ne.mpr c12; obtain rfl := Option.some.inj H; have hcz14_0 : wr.cell? ⟨gb150, 0, none⟩ = some (.slice A0_0 l0_0.length c0_0) := (blk_cell BK150.out 0).trans rfl; have hcz14_1 : wr.cell? ⟨gb150, 1, none⟩ = some (.slice A0_1 l0_1.length c0_1) := (blk_cell BK150.out 1).trans rfl; have hfz14_0 := blk_frozen BK150.out 0; have hfz14_1 := blk_frozen BK150.out 1; have p152 : 0 ≤ (x3_1 : Int) := oA; have q152 : x3_1 < (l0_1.length : Int) := oA; obtain ⟨ad152, e152, hx152_0⟩ := Kd.at_int HR0_1.out x3_1 p152 q152
          cases e152
          (try replace hx152_0 := (HB.out.cell (World.block_lt_of_cell? w _ hx152_0)).trans hx152_0); replace p152 := eq_true p152; replace q152 := eq_true q152; have p153 : 0 ≤ (x3_1 : Int) := oA; have q153 : x3_1 < (l0_1.length : Int) := oA; obtain ⟨ad153, e153, hx153_0⟩ := Kd.at_int HR0_1.out x3_1 p153 q153; obtain rfl : ad152 = ad153 := (by injection e153); (try replace hx153_0 := (HB.out.cell (World.block_lt_of_cell? w _ hx153_0)).trans hx153_0); replace p153 := eq_true p153; replace q153 := eq_true q153; have p154 : 0 ≤ ((rd l0_1 x3_1) : Int) := oA; have q154 : (rd l0_1 x3_1) < (l0_1.length : Int) := oA; obtain ⟨ad154, e154, hx154_0⟩ := Kd.at_int HR0_1.out (rd l0_1 x3_1) p154 q154; obtain rfl : ad152 = ad154 := (by injection e154); (try replace hx154_0 := (HB.out.cell (World.block_lt_of_cell? w _ hx154_0)).trans hx154_0); replace p154 := eq_true p154; replace q154 := eq_true q154
          go_wp2
          repeat (go_quiet (fail); try go_wp2)
          go_ret
          exact ⟨rE, bU1 HB.out GE150.out⟩
        ·
         rw [if_neg c11] at H
         exact absurd H (by simp)
       ·
        rw [if_neg c10] at H
        exact absurd H (by simp)
     ·
      rw [if_neg c7] at H
      exact absurd H (by simp)
    ·
     rw [if_neg c6] at H; have c6b0 := decide_eq_false c6; clear c6; replace H := Option.bind_eq_some_iff.mp H; obtain ⟨t155, A150, H⟩ := H; replace H : (spec_MapValid.l1 k1 t155 0) = some r := H; have A15 := Az A150; clear A150; have H' := Az H; clear H; have hcz16_0 : wr.cell? ⟨gb150, 0, none⟩ = some (.slice A0_0 l0_0.length c0_0) := (blk_cell BK150.out 0).trans rfl; have hcz16_1 : wr.cell? ⟨gb150, 1, none⟩ = some (.slice A0_1 l0_1.length c0_1) := (blk_cell BK150.out 1).trans rfl; have hfz16_0 := blk_frozen BK150.out 0; have hfz16_1 := blk_frozen BK150.out 1
     go_wp2_with (first | (go_at_call 83; (with_reducible refine (spec_l1Orbits.calls k1 _ _ l0_0 _ _ l0_1 t155 _ ?side1 ?side2 ?side3 ?side4 A15.out).mono ?_); (case side1 => exact cU (Kd.C_below HR0_0.out HB.out)); (case side2 => exact HC0_0.out); (case side3 => exact cU (Kd.C_below HR0_1.out HB.out)); (case side4 => exact HC0_1.out); rintro e w17 ⟨v156, rfl, ho0, hb⟩; have n0 := Az (Kd.R_lower ho0 (below_size (bU1 HB.out GE150.out))); have n1 := Az (blk_below (g := gb150) (o := .cells #[.slice A0_0 l0_0.length c0_0, .slice A0_1 l0_1.length c0_1] 27 (0, 0)) (kU BK150.out) hb); have n2 := Az (below_step (bU1 HB.out GE150.out) hb); clear BK150 HB; have HO157 := n0; have BK150 := n1; have HB := n2; clear n0 n1 n2; (try clear hb); (try clear hb2); (try clear hk); (try clear hi); (try clear ho0)))
     repeat (go_quiet (fail); try go_wp2_with (fail))
     go_loopg [5] k1 (fun kq v5 w' => ∃ (x5_2 : Int), v5 = .int .i64 x5_2 ∧ Aside0 (spec_MapValid.l1 kq t155 x5_2 = some r) ∧ Aside0 (kq ≤ k1) ∧ Aside0 (Kd.R (Kd.int .i64) 3 w' w.heap.size (fun _ => True) v156 t155) ∧ Aside0 (w'.heap[gb150]? = some (.cells #[(.slice A0_0 l0_0.length c0_0), (.slice A0_1 l0_1.length c0_1)] 27 (0, 0))) ∧ Aside0 (Below w.heap.size w w'))
     case atStart => exact ⟨(0), rS, H', ⟨Nat.le_refl _⟩, ⟨rU HO157.out⟩, ⟨kU BK150.out⟩, ⟨bU1 HB.out GE150.out⟩⟩
     case round =>
      clear H'; (try clear c1); (try clear p1); (try clear q1); (try clear hx1); (try clear p2); (try clear c3); (try clear c5); (try clear c6); (try clear c6b0); (try clear p6); (try clear c7); (try clear c7b0); (try clear c8); (try clear c8b0); (try clear c8b1); (try clear c10); (try clear c10b0); (try clear c11); (try clear c11b0); (try clear c12); (try clear c12b0); (try clear c12b1); (try clear p15); (try clear q15); (try clear hx15); (try clear hcz13_0); (try clear hcz13_1); (try clear hcz14_0); (try clear hcz14_1); (try clear hcz16_0); (try clear hcz16_1); (try clear hcz5_0); (try clear hcz5_1); (try clear hcz9_0); (try clear hcz9_1); (try clear hfz13_0); (try clear hfz13_1); (try clear hfz14_0); (try clear hfz14_1); (try clear hfz16_0); (try clear hfz16_1); (try clear hfz5_0); (try clear hfz5_1); (try clear hfz9_0); (try clear hfz9_1); (try clear hx152_0); (try clear hx153_0); (try clear hx154_0); (try clear p152); (try clear p153); (try clear p154); (try clear p2); (try clear q152); (try clear q153); (try clear q154); obtain ⟨x5_2, rfl, HA, HK2, HO_4, BK150, HB⟩ := hrel
      cases gk with
      | zero => exact absurd HA.out (by simp [spec_MapValid.l1])
      | succ k2 =>
       have H := HA.out; clear HA; simp only [spec_MapValid.l1] at H
       by_cases c18 : x5_2 < (t155.length : Int)
       ·
        rw [if_pos c18] at H; have c18b0 := decide_eq_true c18; clear c18
        by_cases c19 : 0 ≤ x5_2
        ·
         rw [if_pos c19] at H; have c19b0 := decide_eq_true c19; clear c19
         by_cases c20 : (rd t155 x5_2) = 0
         ·
          rw [if_pos c20] at H; have c20b0 := beq_iff_eq.mpr c20; have c20b1 := bne_eq_false_iff_eq.mpr c20; clear c20; have H' := Az H; clear H; obtain ⟨Ao21, co21, eo21⟩ := Kd.R_slice HO_4.out; subst eo21; have p158 : 0 ≤ (x5_2 : Int) := oA; have q158 : x5_2 < (t155.length : Int) := oA; obtain ⟨ad158, e158, hx158_0⟩ := Kd.at_int (Kd.R_reads' HO_4.out).2.2 x5_2 p158 q158
          cases e158
          replace p158 := eq_true p158; replace q158 := eq_true q158
          go_wp2
          repeat (go_quiet (fail); try go_wp2)
          (first | go_roundg k2 | (refine Handed.intro k2 ?measure ?_; rotate_left; go_step; (try simp only [add_plain]); (repeat apply Exists.intro); refine ⟨?rel, rfl⟩))
          case measure => have := HK1.out; have := HK2.out; omega
          case rel => exact ⟨(wrap64 (x5_2 + 1)), rS, H', ⟨by have := HK1.out; have := HK2.out; omega⟩, ⟨rU HO_4.out⟩, ⟨kU BK150.out⟩, ⟨bU1 HB.out GE150.out⟩⟩
         ·
          rw [if_neg c20] at H; have c20b0 := beq_eq_false_iff_ne.mpr c20; have c20b1 := bne_iff_ne.mpr c20; obtain rfl := Option.some.inj H; obtain ⟨Ao22, co22, eo22⟩ := Kd.R_slice HO_4.out; subst eo22; have p158 : 0 ≤ (x5_2 : Int) := oA; have q158 : x5_2 < (t155.length : Int) := oA; obtain ⟨ad158, e158, hx158_0⟩ := Kd.at_int (Kd.R_reads' HO_4.out).2.2 x5_2 p158 q158
          cases e158
          replace p158 := eq_true p158; replace q158 := eq_true q158
          go_wp2
          repeat (go_quiet (fail); try go_wp2)
          go_ret
          exact ⟨rE, bU1 HB.out GE150.out⟩
        ·
         rw [if_neg c19] at H
         exact absurd H (by simp)
       ·
        rw [if_neg c18] at H; have c18b0 := decide_eq_false c18; clear c18; obtain rfl := Option.some.inj H; obtain ⟨Ao23, co23, eo23⟩ := Kd.R_slice HO_4.out; subst eo23
        go_wp2
        repeat (go_quiet (fail); try go_wp2)
        go_ret
        exact ⟨rE, bU1 HB.out GE150.out⟩
 ·
  replace c3 := Bool.eq_false_iff.mpr c3; subst c3
  have H1 : (some false) = some r := by rw [if_neg (show ¬ (false = true) by decide)] at H; exact H
  clear H; have H := H1; clear H1; obtain rfl := Option.some.inj H
  go_enter Try.func50, Try.ntmps50
  go_wp2_with (first | ((with_reducible refine gate_dst (N := 1) rfl ?_); refine box_event ?hg (N := 1) ?hd (cs := #[.slice A0_0 l0_0.length c0_0, .slice A0_1 l0_1.length c0_1]) (t := 27) ?hr ?_; (case hd => rfl); (case hg => rfl); (case hr => first | (go_simp; done) | (go_simp; rfl)); intro gb150 hg w24 hbox hb; have n0 := Az (below_step (bU0 HB.out) hb); have n1 := Az (hbox); have n2 := Az ((by rw [hg]; exact (below_size (bU0 HB.out)) : w.heap.size ≤ gb150)); have n3 := n2; clear HB; have HB := n0; have BK150 := n1; have GW150 := n2; have GE150 := n3; clear n0 n1 n2 n3 hb hbox hg; have hcz25_0 : w24.cell? ⟨gb150, 0, none⟩ = some (.slice A0_0 l0_0.length c0_0) := (blk_cell BK150.out 0).trans rfl; have hcz25_1 : w24.cell? ⟨gb150, 1, none⟩ = some (.slice A0_1 l0_1.length c0_1) := (blk_cell BK150.out 1).trans rfl; have hfz25_0 := blk_frozen BK150.out 0; have hfz25_1 := blk_frozen BK150.out 1) | (go_at_call 82; (with_reducible refine (spec_l1Both.calls k _ _ l0_0 _ _ l0_1 false _ ?side1 ?side2 ?side3 ?side4 A2.out).mono ?_); (case side1 => exact cU (Kd.C_below HR0_0.out HB.out)); (case side2 => exact HC0_0.out); (case side3 => exact cU (Kd.C_below HR0_1.out HB.out)); (case side4 => exact HC0_1.out); rintro e w' ⟨rfl, ⟨nd, rfl⟩⟩; (try first | exact ⟨rfl, _, World.drewN_drewN _ _ _⟩ | exact ⟨rfl, _, Eq.trans (World.drewN_drewN _ _ _) (congrArg (World.drewN _) (Nat.add_assoc _ _ _))⟩)))
  repeat (go_quiet (fail); try go_wp2_with (fail))
  go_ret
  exact ⟨rE, bU1 HB.out GE150.out⟩
def spec_ChoiceValid.l0 : Nat → List Int → Int → Int → List Int → List Int → Option (Bool)
 | 0, _, _, _, _, _ => none
 | k + 1, x1, x5, x6, xZ2, xZ3 => if x6 < (x1.length : Int) then (if 0 ≤ x6 then ((spec_l6In.f (rd x1 x6) (wrap64 (x5 + 1)) (wrap64 ((wrap64 ((xZ3.length : Int) / 2)) - 1))).bind fun t161 => (if t161 = true then (spec_ChoiceValid.l0 k x1 (rd x1 x6) (wrap64 (x6 + 1)) xZ2 xZ3) else (some false))) else (none)) else ((spec_MapValid.f k xZ2 xZ3).bind fun t163 => (some t163))
def spec_ChoiceValid.f (k : Nat) (l0_0 : List Int) (l0_1 : List Int) (l1 : List Int) : Option (Bool) := spec_ChoiceValid.l0 k l1 (-1) 0 l0_0 l0_1
set_option maxHeartbeats 8000000 in
set_option maxRecDepth 100000 in
theorem spec_ChoiceValid.calls (k : Nat) (A0_0 : Option Addr) (c0_0 : Nat) (l0_0 : List Int) (A0_1 : Option Addr) (c0_1 : Nat) (l0_1 : List Int) (A1 : Option Addr) (c1 : Nat) (l1 : List Int) (r : Bool) (w : World) (hr0_0 : Kd.C (Kd.int .i64) w A0_0 l0_0.length l0_0) (hc0_0 : l0_0.length ≤ c0_0) (hr0_1 : Kd.C (Kd.int .i64) w A0_1 l0_1.length l0_1) (hc0_1 : l0_1.length ≤ c0_1) (hr1 : Kd.C (Kd.int .i64) w A1 l1.length l1) (hc1 : l1.length ≤ c1) (h : spec_ChoiceValid.f k l0_0 l0_1 l1 = some r) :
  Calls Try.prog 16 #[.agg #[.slice A0_0 l0_0.length c0_0, .slice A0_1 l0_1.length c0_1], .slice A1 l1.length c1] w fun e w' => e = .returned (.bool r) ∧ Below w.heap.size w w' := by
 have hu27 := Try.underlying27; have HR0_0 := Az hr0_0; have HC0_0 := Az hc0_0; clear hr0_0 hc0_0; have HR0_1 := Az hr0_1; have HC0_1 := Az hc0_1; clear hr0_1 hc0_1; have HR1 := Az hr1; have HC1 := Az hc1; clear hr1 hc1; have HB := Az (Below.refl w.heap.size w); have H : (spec_ChoiceValid.l0 k l1 (-1) 0 l0_0 l0_1) = some r := h; clear h; have H' := Az H; clear H
 go_enter Try.func16, Try.ntmps16
 go_wp2_with (first | ((with_reducible refine gate_dst (N := 2) rfl ?_); refine box_event ?hg (N := 2) ?hd (cs := #[.slice A0_0 l0_0.length c0_0, .slice A0_1 l0_1.length c0_1]) (t := 27) ?hr ?_; (case hd => rfl); (case hg => rfl); (case hr => first | (go_simp; done) | (go_simp; rfl)); intro gb159 hg w3 hbox hb; have n0 := Az (below_step (bU0 HB.out) hb); have n1 := Az (hbox); have n2 := Az ((by rw [hg]; exact (below_size (bU0 HB.out)) : w.heap.size ≤ gb159)); have n3 := n2; clear HB; have HB := n0; have BK159 := n1; have GW159 := n2; have GE159 := n3; clear n0 n1 n2 n3; clear hb hbox hg))
 repeat (go_quiet (fail); try go_wp2_with (fail))
 go_loopg [5, 6] k (fun kq v5 v6 w' => ∃ (x5_1 : Int) (x6_1 : Int), v5 = .int .i64 x5_1 ∧ v6 = .int .i64 x6_1 ∧ Aside0 (spec_ChoiceValid.l0 kq l1 x5_1 x6_1 l0_0 l0_1 = some r) ∧ Aside0 (kq ≤ k) ∧ Aside0 (w'.heap[gb159]? = some (.cells #[(.slice A0_0 l0_0.length c0_0), (.slice A0_1 l0_1.length c0_1)] 27 (0, 0))) ∧ Aside0 (Below w.heap.size w w'))
 case atStart => exact ⟨((-1)), (0), rS, rS, H', ⟨Nat.le_refl _⟩, ⟨kU BK159.out⟩, ⟨bU1 HB.out GE159.out⟩⟩
 case round =>
  clear H'; (try clear c1); (try clear p2); obtain ⟨x5_1, x6_1, rfl, rfl, HA, HK1, BK159, HB⟩ := hrel
  cases gk with
  | zero => exact absurd HA.out (by simp [spec_ChoiceValid.l0])
  | succ k1 =>
   have H := HA.out; clear HA; simp only [spec_ChoiceValid.l0] at H
   by_cases c4 : x6_1 < (l1.length : Int)
   ·
    rw [if_pos c4] at H; have c4b0 := decide_eq_true c4; clear c4
    by_cases c5 : 0 ≤ x6_1
    ·
     rw [if_pos c5] at H; have c5b0 := decide_eq_true c5; clear c5; replace H := Option.bind_eq_some_iff.mp H; obtain ⟨t161, A60, H⟩ := H; replace H : (if t161 = true then (spec_ChoiceValid.l0 k1 l1 (rd l1 x6_1) (wrap64 (x6_1 + 1)) l0_0 l0_1) else (some false)) = some r := H; have A6 := Az A60; clear A60
     by_cases c7 : t161 = true
     ·
      subst c7
      have H1 : (spec_ChoiceValid.l0 k1 l1 (rd l1 x6_1) (wrap64 (x6_1 + 1)) l0_0 l0_1) = some r := by rw [if_pos rfl] at H; exact H
      clear H; have H := H1; clear H1; have H' := Az H; clear H; have p160 : 0 ≤ (x6_1 : Int) := oA; have q160 : x6_1 < (l1.length : Int) := oA; obtain ⟨ad160, e160, hx160_0⟩ := Kd.at_int HR1.out x6_1 p160 q160
      cases e160
      (try replace hx160_0 := (HB.out.cell (World.block_lt_of_cell? w _ hx160_0)).trans hx160_0); replace p160 := eq_true p160; replace q160 := eq_true q160; have hcz8_0 : wr.cell? ⟨gb159, 0, none⟩ = some (.slice A0_0 l0_0.length c0_0) := (blk_cell BK159.out 0).trans rfl; have hcz8_1 : wr.cell? ⟨gb159, 1, none⟩ = some (.slice A0_1 l0_1.length c0_1) := (blk_cell BK159.out 1).trans rfl; have hfz8_0 := blk_frozen BK159.out 0; have hfz8_1 := blk_frozen BK159.out 1
      go_wp2_with (fail)
      repeat (go_quiet (first | (go_at_call 49; (try simp only [Go.IntWalk.i64_left]); (with_reducible refine (spec_l6In.calls (rd l1 x6_1) (wrap64 (x5_1 + 1)) (wrap64 ((wrap64 ((l0_1.length : Int) / 2)) - 1)) true _ A6.out).mono ?_); rintro e w' ⟨rfl, ⟨nd, rfl⟩⟩; (try first | exact ⟨rfl, _, World.drewN_drewN _ _ _⟩ | exact ⟨rfl, _, Eq.trans (World.drewN_drewN _ _ _) (congrArg (World.drewN _) (Nat.add_assoc _ _ _))⟩); have p162 : 0 ≤ (x6_1 : Int) := oA; have q162 : x6_1 < (l1.length : Int) := oA; obtain ⟨ad162, e162, hx162_0⟩ := Kd.at_int HR1.out x6_1 p162 q162; obtain rfl : ad160 = ad162 := (by injection e162); replace hx162_0 := (HB.out.cell (World.block_lt_of_cell? w _ hx162_0)).trans hx162_0; replace p162 := eq_true p162; replace q162 := eq_true q162)); try go_wp2_with (fail))
      (first | go_roundg k1 | (refine Handed.intro k1 ?measure ?_; rotate_left; go_step; (try simp only [add_plain]); (repeat apply Exists.intro); refine ⟨?rel, rfl⟩))
      case measure => have := HK1.out; omega
      case rel => exact ⟨(rd l1 x6_1), (wrap64 (x6_1 + 1)), rS, rS, H', ⟨by have := HK1.out; omega⟩, ⟨kU BK159.out⟩, ⟨bU1 HB.out GE159.out⟩⟩
     ·
      replace c7 := Bool.eq_false_iff.mpr c7; subst c7
      have H1 : (some false) = some r := by rw [if_neg (show ¬ (false = true) by decide)] at H; exact H
      clear H; have H := H1; clear H1; obtain rfl := Option.some.inj H; have p160 : 0 ≤ (x6_1 : Int) := oA; have q160 : x6_1 < (l1.length : Int) := oA; obtain ⟨ad160, e160, hx160_0⟩ := Kd.at_int HR1.out x6_1 p160 q160
      cases e160
      (try replace hx160_0 := (HB.out.cell (World.block_lt_of_cell? w _ hx160_0)).trans hx160_0); replace p160 := eq_true p160; replace q160 := eq_true q160; have hcz9_0 : wr.cell? ⟨gb159, 0, none⟩ = some (.slice A0_0 l0_0.length c0_0) := (blk_cell BK159.out 0).trans rfl; have hcz9_1 : wr.cell? ⟨gb159, 1, none⟩ = some (.slice A0_1 l0_1.length c0_1) := (blk_cell BK159.out 1).trans rfl; have hfz9_0 := blk_frozen BK159.out 0; have hfz9_1 := blk_frozen BK159.out 1
      go_wp2_with (fail)
      repeat (go_quiet (first | (go_at_call 49; (try simp only [Go.IntWalk.i64_left]); (with_reducible refine (spec_l6In.calls (rd l1 x6_1) (wrap64 (x5_1 + 1)) (wrap64 ((wrap64 ((l0_1.length : Int) / 2)) - 1)) false _ A6.out).mono ?_); rintro e w' ⟨rfl, ⟨nd, rfl⟩⟩; (try first | exact ⟨rfl, _, World.drewN_drewN _ _ _⟩ | exact ⟨rfl, _, Eq.trans (World.drewN_drewN _ _ _) (congrArg (World.drewN _) (Nat.add_assoc _ _ _))⟩))); try go_wp2_with (fail))
      go_ret
      exact ⟨rE, bU1 HB.out GE159.out⟩
    ·
     rw [if_neg c5] at H
     exact absurd H (by simp)
   ·
    rw [if_neg c4] at H; have c4b0 := decide_eq_false c4; clear c4; replace H := Option.bind_eq_some_iff.mp H; obtain ⟨t163, A100, H⟩ := H; replace H : (some t163) = some r := H; have A10 := Az A100; clear A100; obtain rfl := Option.some.inj H; have hcz11_0 : wr.cell? ⟨gb159, 0, none⟩ = some (.slice A0_0 l0_0.length c0_0) := (blk_cell BK159.out 0).trans rfl; have hcz11_1 : wr.cell? ⟨gb159, 1, none⟩ = some (.slice A0_1 l0_1.length c0_1) := (blk_cell BK159.out 1).trans rfl; have hfz11_0 := blk_frozen BK159.out 0; have hfz11_1 := blk_frozen BK159.out 1
    go_wp2_with (first | (go_at_call 50; (with_reducible refine (spec_MapValid.calls k1 _ _ l0_0 _ _ l0_1 t163 _ ?side1 ?side2 ?side3 ?side4 A10.out).mono ?_); (case side1 => exact cU (Kd.C_below HR0_0.out HB.out)); (case side2 => exact HC0_0.out); (case side3 => exact cU (Kd.C_below HR0_1.out HB.out)); (case side4 => exact HC0_1.out); rintro e w12 ⟨rfl, hb⟩; have n0 := Az (blk_below (g := gb159) (o := .cells #[.slice A0_0 l0_0.length c0_0, .slice A0_1 l0_1.length c0_1] 27 (0, 0)) (kU BK159.out) hb); have n1 := Az (below_step (bU1 HB.out GE159.out) hb); clear BK159 HB; have BK159 := n0; have HB := n1; clear n0 n1; (try clear hb); (try clear hb2); (try clear hk); (try clear hi)))
    repeat (go_quiet (fail); try go_wp2_with (fail))
    go_ret
    exact ⟨rE, bU1 HB.out GE159.out⟩
mutual
def spec_l1Cycles.l0 : Nat → List Int → List (List Int) → List Bool → Int → Option ((List (List Int)))
 | 0, _, _, _, _ => none
 | k + 1, x0, x3, x4, x5 => if x5 < (x0.length : Int) then (if 0 ≤ x5 then (if x5 < (x4.length : Int) then (if rdOf false x4 x5 = true then (spec_l1Cycles.l0 k x0 x3 x4 (wrap64 (x5 + 1))) else (spec_l1Cycles.l1 k x0 x3 x4 x5 (([] : List Int)) x5)) else (none)) else (none)) else (some x3)
def spec_l1Cycles.l1 : Nat → List Int → List (List Int) → List Bool → Int → List Int → Int → Option ((List (List Int)))
 | 0, _, _, _, _, _, _ => none
 | k + 1, x0, x3, x4, x5, x6, x7 => if 0 ≤ x7 then (if x7 < (x4.length : Int) then (if rdOf false x4 x7 = true then (if x3.length < 5864062014805 then (spec_l1Cycles.l0 k x0 (x3 ++ [x6]) x4 (wrap64 (x5 + 1))) else (none)) else (if x6.length < 17592186044416 then (if x7 < (x0.length : Int) then (spec_l1Cycles.l1 k x0 x3 (x4.set (x7 : Int).toNat true) x5 (x6 ++ [x7]) (rd x0 x7)) else (none)) else (none))) else (none)) else (none)
end
def spec_l1Cycles.f (k : Nat) (l0 : List Int) : Option ((List (List Int))) := if 0 ≤ (l0.length : Int) then (if ((l0.length : Int) : Int).toNat ≤ 281474976710656 then (spec_l1Cycles.l0 k l0 (([] : List (List Int))) (List.replicate ((l0.length : Int) : Int).toNat false) 0) else (none)) else (none)
set_option maxHeartbeats 8000000 in
set_option maxRecDepth 100000 in
theorem spec_l1Cycles.calls (k : Nat) (A0 : Option Addr) (c0 : Nat) (l0 : List Int) (r : List (List Int)) (w : World) (hr0 : Kd.C (Kd.int .i64) w A0 l0.length l0) (hc0 : l0.length ≤ c0) (h : spec_l1Cycles.f k l0 = some r) :
  Calls Try.prog 60 #[.slice A0 l0.length c0] w fun e w' => ∃ v0_ : Value, e = .returned (v0_) ∧ Kd.S (Kd.slice 3 (Kd.int .i64)) 22 w' w.heap.size (fun _ => True) v0_ r ∧ Below w.heap.size w w' := by
 have HR0 := Az hr0; have HC0 := Az hc0; clear hr0 hc0; have HB := Az (Below.refl w.heap.size w); have H : (if 0 ≤ (l0.length : Int) then (if ((l0.length : Int) : Int).toNat ≤ 281474976710656 then (spec_l1Cycles.l0 k l0 (([] : List (List Int))) (List.replicate ((l0.length : Int) : Int).toNat false) 0) else (none)) else (none)) = some r := h; clear h; obtain ⟨y164, hy164⟩ : ∃ y_ : List (List Int), y_ = (([] : List (List Int))) := ⟨_, rfl⟩; replace H : (if 0 ≤ (l0.length : Int) then (if ((l0.length : Int) : Int).toNat ≤ 281474976710656 then (spec_l1Cycles.l0 k l0 y164 (List.replicate ((l0.length : Int) : Int).toNat false) 0) else (none)) else (none)) = some r := hR hy164 H; have Ny164 := Az hy164; clear hy164
 by_cases c2 : 0 ≤ (l0.length : Int)
 ·
  rw [if_pos c2] at H; have c2b0 := eq_true c2; have c2b1 := decide_eq_true c2; clear c2
  by_cases c3 : ((l0.length : Int) : Int).toNat ≤ 281474976710656
  ·
   rw [if_pos c3] at H; have c3b0 := eq_true c3; have c3b1 := decide_eq_true c3; clear c3; obtain ⟨y167, hy167⟩ : ∃ y_ : List Bool, y_ = (List.replicate ((l0.length : Int) : Int).toNat false) := ⟨_, rfl⟩; replace H : (spec_l1Cycles.l0 k l0 y164 y167 0) = some r := hR hy167 H; have Ny167 := Az hy167; clear hy167; have H' := Az H; clear H
   go_enter Try.func60, Try.ntmps60
   go_wp2_with (first | ((with_reducible refine gate_dst (N := 8) rfl ?_); refine Kd.S_lit (Kd.slice 3 (Kd.int .i64)) _ 22 ?hg (N := 8) ?hd (xs := ([] : List (List Int))) (inner := []) (ok := fun _ => True) (okp := fun _ => True) ?hr ?hp (fun _ hk => hk) trivial (Below.refl _ _) (Nat.le_refl _) (by simp) ?_; (case hd => rfl); (case hg => rfl); (case hr => first | (go_simp; done) | (go_simp; rfl)); (case hp => exact (Reps.none _ _)); intro v165 w4 ho5 hb hg_ hnew_; clear hg_ hnew_; (first | rw [← Ny164.out] at ho5 | (simp only [Int.reduceToNat] at ho5; rw [← Ny164.out] at ho5)); have n0 := Az (Kd.S_lower ho5 (below_size (bU0 HB.out))); have n1 := Az (below_step (bU0 HB.out) hb); clear HB; have HO166 := n0; have HB := n1; clear n0 n1; clear hb ho5) | ((with_reducible refine gate_dst (N := 11) rfl ?_); refine Kd.R_make Kd.bool _ 4 rfl (N := 11) rfl 67 _ _ rfl (l0.length : Int) rfl rfl Try.underlying67 (.bool false) 1 info4 rfl (by decide) (by omega) false (ok := fun _ => True) (okp := fun _ => True) rfl (fun _ hk => hk) trivial (oA) (Nat.le_trans (Nat.mul_le_mul_right _ (oA : (l0.length : Int).toNat ≤ 281474976710656)) (by omega)) (Below.refl _ _) (Nat.le_refl _) ?_; intro v168 w6 ho7 hb hg_ hnew_; clear hg_ hnew_; (first | rw [← Ny167.out] at ho7 | (simp only [Int.reduceToNat] at ho7; rw [← Ny167.out] at ho7)); have n0 := Az (Kd.S_below (sU HO166.out) hb); have n1 := Az (Kd.R_lower ho7 (below_size (bU0 HB.out))); have n2 := Az (below_step (bU0 HB.out) hb); clear HO166 HB; have HO166 := n0; have HO169 := n1; have HB := n2; clear n0 n1 n2; clear hb ho7))
   go_loopg [3, 5] k (fun kq v3 v5 w' => ∃ (x3_1 : List (List Int)) (x4_1 : List Bool) (x5_1 : Int), v5 = .int .i64 x5_1 ∧ Aside0 (spec_l1Cycles.l0 kq l0 x3_1 x4_1 x5_1 = some r) ∧ Aside0 (kq ≤ k) ∧ Aside0 (Kd.S (Kd.slice 3 (Kd.int .i64)) 22 w' w.heap.size (fun _ => True) v3 x3_1) ∧ Aside0 (Kd.R Kd.bool 4 w' w.heap.size (fun _ => True) v168 x4_1) ∧ Aside0 (Below w.heap.size w w'))
   case atStart => exact ⟨(y164), (y167), (0), rS, H', ⟨Nat.le_refl _⟩, ⟨sU HO166.out⟩, ⟨rU HO169.out⟩, ⟨bU0 HB.out⟩⟩
   case round =>
    clear H'; (try clear c2); (try clear c2b0); (try clear c2b1); (try clear p2); (try clear c3); (try clear c3b0); (try clear c3b1); (try clear c6); obtain ⟨x3_1, x4_1, x5_1, rfl, HA, HK1, HO_3, HO_4, HB⟩ := hrel
    cases gk with
    | zero => exact absurd HA.out (by simp [spec_l1Cycles.l0])
    | succ k1 =>
     have H := HA.out; clear HA; simp only [spec_l1Cycles.l0] at H
     by_cases c8 : x5_1 < (l0.length : Int)
     ·
      rw [if_pos c8] at H; have c8b0 := decide_eq_true c8; clear c8
      by_cases c9 : 0 ≤ x5_1
      ·
       rw [if_pos c9] at H; have c9b0 := decide_eq_true c9; clear c9
       by_cases c10 : x5_1 < (x4_1.length : Int)
       ·
        rw [if_pos c10] at H; have c10b0 := decide_eq_true c10; clear c10; obtain ⟨bq11, hbq11⟩ : ∃ b_ : Bool, b_ = (rdOf false x4_1 x5_1) := ⟨_, rfl⟩
        replace H : (if bq11 = true then (spec_l1Cycles.l0 k1 l0 x3_1 x4_1 (wrap64 (x5_1 + 1))) else (spec_l1Cycles.l1 k1 l0 x3_1 x4_1 x5_1 (([] : List Int)) x5_1)) = some r := by rw [← hbq11] at H; exact H
        have Nbq11 := Az hbq11; clear hbq11
        by_cases c12 : bq11 = true
        ·
         subst c12
         have H1 : (spec_l1Cycles.l0 k1 l0 x3_1 x4_1 (wrap64 (x5_1 + 1))) = some r := by rw [if_pos rfl] at H; exact H
         clear H; have H := H1; clear H1; have H' := Az H; clear H; obtain ⟨Ao13, co13, eo13⟩ := Kd.R_slice HO_4.out; subst eo13; have p170 : 0 ≤ (x5_1 : Int) := oA; have q170 : x5_1 < (x4_1.length : Int) := oA; obtain ⟨ad170, e170, hx170_0⟩ := Kd.at_bool (Kd.R_reads' HO_4.out).2.2 x5_1 p170 q170; (try rw [← Nbq11.out] at hx170_0)
         cases e170
         replace p170 := eq_true p170; replace q170 := eq_true q170
         go_wp2
         (first | go_roundg k1 | (refine Handed.intro k1 ?measure ?_; rotate_left; go_step; (try simp only [add_plain]); (repeat apply Exists.intro); refine ⟨?rel, rfl⟩))
         case measure => have := HK1.out; omega
         case rel => exact ⟨(x3_1), (x4_1), (wrap64 (x5_1 + 1)), rS, H', ⟨by have := HK1.out; omega⟩, ⟨sU HO_3.out⟩, ⟨rU HO_4.out⟩, ⟨bU0 HB.out⟩⟩
        ·
         replace c12 := Bool.eq_false_iff.mpr c12; subst c12
         have H1 : (spec_l1Cycles.l1 k1 l0 x3_1 x4_1 x5_1 (([] : List Int)) x5_1) = some r := by rw [if_neg (show ¬ (false = true) by decide)] at H; exact H
         clear H; have H := H1; clear H1; obtain ⟨y171, hy171⟩ : ∃ y_ : List Int, y_ = (([] : List Int)) := ⟨_, rfl⟩; replace H : (spec_l1Cycles.l1 k1 l0 x3_1 x4_1 x5_1 y171 x5_1) = some r := hR hy171 H; have Ny171 := Az hy171; clear hy171; have H' := Az H; clear H; obtain ⟨Ao14, co14, eo14⟩ := Kd.R_slice HO_4.out; subst eo14; have p170 : 0 ≤ (x5_1 : Int) := oA; have q170 : x5_1 < (x4_1.length : Int) := oA; obtain ⟨ad170, e170, hx170_0⟩ := Kd.at_bool (Kd.R_reads' HO_4.out).2.2 x5_1 p170 q170; (try rw [← Nbq11.out] at hx170_0)
         cases e170
         replace p170 := eq_true p170; replace q170 := eq_true q170
         go_wp2_with (first | ((with_reducible refine gate_dst (N := 22) rfl ?_); refine Kd.R_lit (Kd.int .i64) _ 3 ?hg (N := 22) ?hd (xs := ([] : List Int)) (inner := []) (ok := fun _ => True) (okp := fun _ => True) ?hr ?hp (fun _ hk => hk) trivial (Below.refl _ _) (Nat.le_refl _) (by simp) ?_; (case hd => rfl); (case hg => rfl); (case hr => first | (go_simp; done) | (go_simp; rfl)); (case hp => exact (Reps.none _ _)); intro v172 w15 ho16 hb hg_ hnew_; clear hg_ hnew_; (first | rw [← Ny171.out] at ho16 | (simp only [Int.reduceToNat] at ho16; rw [← Ny171.out] at ho16)); have n0 := Az (Kd.S_elder' (sU HO_3.out) (Kd.R_base ho16) hb); have n1 := Az (Kd.R_below (rU HO_4.out) hb); have n2 := Az (Kd.R_lower ho16 (below_size (bU0 HB.out))); have n3 := Az (below_step (bU0 HB.out) hb); clear HO_3 HO_4 HB; have HO_3 := n0; have HO_4 := n1; have HO173 := n2; have HB := n3; clear n0 n1 n2 n3; clear hb ho16))
         go_loopg [6, 7] k1 (fun kq v6 v7 w' => ∃ (x4_2 : List Bool) (x6_2 : List Int) (x7_2 : Int), v7 = .int .i64 x7_2 ∧ Aside0 (spec_l1Cycles.l1 kq l0 x3_1 x4_2 x5_1 x6_2 x7_2 = some r) ∧ Aside0 (kq ≤ k1) ∧ Aside0 (Kd.S (Kd.slice 3 (Kd.int .i64)) 22 w' w.heap.size (fun k_ => some k_ ≠ (v6 : Value).ownBlock) u3 x3_1) ∧ Aside0 (Kd.R Kd.bool 4 w' w.heap.size (fun _ => True) (.slice (some ad170) x4_1.length co14) x4_2) ∧ Aside0 (Kd.R (Kd.int .i64) 3 w' w.heap.size (fun _ => True) v6 x6_2) ∧ Aside0 (Below w.heap.size w w'))
         case atStart => exact ⟨(x4_1), (y171), (x5_1), rS, H', ⟨Nat.le_refl _⟩, ⟨by (with_reducible repeat (first | apply Kd.S_alloc | apply Kd.S_drewN | apply Kd.S_drew)); exact Kd.S_mono HO_3.out (fun _ hk => hk.2)⟩, ⟨rU HO_4.out⟩, ⟨rU HO173.out⟩, ⟨bU0 HB.out⟩⟩
         case round =>
          clear H'; (try clear c1); (try clear p1); (try clear q1); (try clear hx1); (try clear c2); (try clear c2b0); (try clear c2b1); (try clear p2); (try clear c3); (try clear c3b0); (try clear c3b1); (try clear c6); (try clear p6); (try clear c8); (try clear c8b0); (try clear c9); (try clear c9b0); (try clear c10); (try clear c10b0); (try clear q11); (try clear c12); (try clear hx170_0); (try clear p170); (try clear p2); (try clear q170); obtain ⟨x4_2, x6_2, x7_2, rfl, HA, HK2, HO_3, HO_4, HO_6, HB⟩ := hrel; have hl4_2 := (Kd.R_reads' HO_4.out).1; rw [hl4_2] at HO_4; (try simp only [hl4_2]); (try simp only [hl4_2] at HO_3); (try simp only [hl4_2] at HO_6)
          cases gk with
          | zero => exact absurd HA.out (by simp [spec_l1Cycles.l1])
          | succ k2 =>
           have H := HA.out; clear HA; simp only [spec_l1Cycles.l1] at H
           by_cases c17 : 0 ≤ x7_2
           ·
            rw [if_pos c17] at H; have c17b0 := decide_eq_true c17; clear c17
            by_cases c18 : x7_2 < (x4_2.length : Int)
            ·
             rw [if_pos c18] at H; have c18b0 := decide_eq_true c18; (try (have c18b0hl4_2 := c18b0; rw [hl4_2] at c18b0hl4_2)); clear c18; obtain ⟨bq19, hbq19⟩ : ∃ b_ : Bool, b_ = (rdOf false x4_2 x7_2) := ⟨_, rfl⟩
             replace H : (if bq19 = true then (if x3_1.length < 5864062014805 then (spec_l1Cycles.l0 k2 l0 (x3_1 ++ [x6_2]) x4_2 (wrap64 (x5_1 + 1))) else (none)) else (if x6_2.length < 17592186044416 then (if x7_2 < (l0.length : Int) then (spec_l1Cycles.l1 k2 l0 x3_1 (x4_2.set (x7_2 : Int).toNat true) x5_1 (x6_2 ++ [x7_2]) (rd l0 x7_2)) else (none)) else (none))) = some r := by rw [← hbq19] at H; exact H
             have Nbq19 := Az hbq19; clear hbq19
             by_cases c20 : bq19 = true
             ·
              subst c20
              have H1 : (if x3_1.length < 5864062014805 then (spec_l1Cycles.l0 k2 l0 (x3_1 ++ [x6_2]) x4_2 (wrap64 (x5_1 + 1))) else (none)) = some r := by rw [if_pos rfl] at H; exact H
              clear H; have H := H1; clear H1
              by_cases c21 : x3_1.length < 5864062014805
              ·
               rw [if_pos c21] at H; have LMc21 := Az c21; clear c21; obtain ⟨y175, hy175⟩ : ∃ y_ : List (List Int), y_ = (x3_1 ++ [x6_2]) := ⟨_, rfl⟩; replace H : (spec_l1Cycles.l0 k2 l0 y175 x4_2 (wrap64 (x5_1 + 1))) = some r := hR hy175 H; have Ny175 := Az hy175; clear hy175; have H' := Az H; clear H; have p174 : 0 ≤ (x7_2 : Int) := oA; have q174 : x7_2 < (x4_2.length : Int) := oA; obtain ⟨ad174, e174, hx174_0⟩ := Kd.at_bool (Kd.R_reads' HO_4.out).2.2 x7_2 p174 q174; (try rw [← Nbq11.out] at hx174_0); (try rw [← Nbq19.out] at hx174_0); obtain rfl : ad170 = ad174 := (by injection e174); replace p174 := eq_true p174; replace q174 := eq_true q174; obtain ⟨Ao23, co23, eo23⟩ := Kd.R_slice HO_6.out; subst eo23
               go_wp2_with (first | ((with_reducible refine gate_builtin (b := .append) (xs := #[.tmp 40, .tmp 42]) rfl ?_); at_builtin; refine Kd.S_append (Kd.slice 3 (Kd.int .i64)) (w0 := w) w.heap.size rfl (.tmp 40) (.tmp 42) 51 22 (.slice none 0 0) 24 rfl Try.underlying51 info22 rfl (by decide) (by omega) u3 x3_1 x6_2 [.slice Ao23 x6_2.length co23] (fun _ => True) (fun k_ => some k_ = (.slice Ao23 x6_2.length co23 : Value).ownBlock) rfl rfl ?aP (fun k_ hk_ => ((Kd.R_mono (ok' := fun k_ => ((fun _ => True)) k_ ∧ some k_ ≠ (u3 : Value).ownBlock) (Kd.R_apart' (HO_6.out) (Kd.S_typed HO_3.out) (by decide)) (fun k_ hk => ⟨trivial, hk.2⟩))).1 k_ hk_.symm) ?aF ?aO ?aB ?aS ?aL ?_; (case aP => exact Kd.M_row (Kd.R_mono (Kd.R_tight rfl (Kd.R_mono (ok' := fun k_ => ((fun _ => True)) k_ ∧ some k_ ≠ (u3 : Value).ownBlock) (Kd.R_apart' (HO_6.out) (Kd.S_typed HO_3.out) (by decide)) (fun k_ hk => ⟨trivial, hk.2⟩))) (fun _ h_ => h_))); (case aB => exact (bU0 HB.out)); (case aF => exact (fun _ _ => trivial)); (case aO => exact (by (with_reducible repeat (first | apply Kd.S_alloc | apply Kd.S_drewN | apply Kd.S_drew)); exact Kd.S_mono HO_3.out (fun k_ hk => ⟨trivial, fun e_ => hk e_⟩))); (case aS => exact (below_size (bU0 HB.out))); (case aL => have := LMc21.out; omega); intro v176 w22 ho hb hg hat; rw [← Ny175.out] at ho; have n0 := Az (Kd.R_over' (rU HO_4.out) (Kd.S_typed (sU HO_3.out)) (by decide) hg); have n1 := Az (hb); have n2 := Az (ho); clear HO_4 HB HO_3 HO_6; have HO_4 := n0; have HB := n1; have HO177 := n2; clear n0 n1 n2; clear ho hb hg hat))
               (try simp only [← hl4_2]); (first | go_roundg k2 | (refine Handed.intro k2 ?measure ?_; rotate_left; go_step; (try simp only [add_plain]); (repeat apply Exists.intro); refine ⟨?rel, rfl⟩))
               case measure => have := HK1.out; have := HK2.out; omega
               case rel => exact ⟨(y175), (x4_2), (wrap64 (x5_1 + 1)), rS, H', ⟨by have := HK1.out; have := HK2.out; omega⟩, ⟨by (try simp only [hl4_2]); (with_reducible repeat (first | apply Kd.S_alloc | apply Kd.S_drewN | apply Kd.S_drew)); exact HO177.out⟩, ⟨by (try simp only [hl4_2]); (with_reducible repeat (first | apply Kd.R_alloc | apply Kd.R_drewN | apply Kd.R_drew)); exact HO_4.out⟩, ⟨bU0 HB.out⟩⟩
              ·
               rw [if_neg c21] at H
               exact absurd H (by simp)
             ·
              replace c20 := Bool.eq_false_iff.mpr c20; subst c20
              have H1 : (if x6_2.length < 17592186044416 then (if x7_2 < (l0.length : Int) then (spec_l1Cycles.l1 k2 l0 x3_1 (x4_2.set (x7_2 : Int).toNat true) x5_1 (x6_2 ++ [x7_2]) (rd l0 x7_2)) else (none)) else (none)) = some r := by rw [if_neg (show ¬ (false = true) by decide)] at H; exact H
              clear H; have H := H1; clear H1; obtain ⟨y178, hy178⟩ : ∃ y_ : List Bool, y_ = (x4_2.set (x7_2 : Int).toNat true) := ⟨_, rfl⟩; replace H : (if x6_2.length < 17592186044416 then (if x7_2 < (l0.length : Int) then (spec_l1Cycles.l1 k2 l0 x3_1 y178 x5_1 (x6_2 ++ [x7_2]) (rd l0 x7_2)) else (none)) else (none)) = some r := hR hy178 H; have Ny178 := Az hy178; clear hy178
              by_cases c25 : x6_2.length < 17592186044416
              ·
               rw [if_pos c25] at H; have LMc25 := Az c25; clear c25; obtain ⟨y179, hy179⟩ : ∃ y_ : List Int, y_ = (x6_2 ++ [x7_2]) := ⟨_, rfl⟩; replace H : (if x7_2 < (l0.length : Int) then (spec_l1Cycles.l1 k2 l0 x3_1 y178 x5_1 y179 (rd l0 x7_2)) else (none)) = some r := hR hy179 H; have Ny179 := Az hy179; clear hy179
               by_cases c26 : x7_2 < (l0.length : Int)
               ·
                rw [if_pos c26] at H; have c26b0 := decide_eq_true c26; (try (have c26b0hl4_2 := c26b0; rw [hl4_2] at c26b0hl4_2)); clear c26; have H' := Az H; clear H; have p174 : 0 ≤ (x7_2 : Int) := oA; have q174 : x7_2 < (x4_2.length : Int) := oA; obtain ⟨ad174, e174, hx174_0⟩ := Kd.at_bool (Kd.R_reads' HO_4.out).2.2 x7_2 p174 q174; (try rw [← Nbq11.out] at hx174_0); (try rw [← Nbq19.out] at hx174_0); obtain rfl : ad170 = ad174 := (by injection e174); replace p174 := eq_true p174; replace q174 := eq_true q174; have p24 : 0 ≤ (x7_2 : Int) := oA; have q24 : (x7_2 : Int) < ((x4_2.length : Int) : Int) := oA; obtain ⟨go24, co24, eo24, gb24, gl24, cl24, HG24⟩ := Kd.R_form HO_4.out (by omega); (first | cases eo24 | (injection eo24 with ea_ en_ ec_; (first | subst ea_ | (injection ea_ with ea_; subst ea_)); subst ec_; clear en_)); have GB24 := Az gb24; have GG24 := Az HG24; clear gb24 gl24 HG24; (first | simp only [add_plain] at hx170_0 | skip); (first | simp only [add_plain] at hx174_0 | skip); obtain ⟨hx24_0, hf24_0⟩ := Kd.R_celln false HO_4.out (x7_2 : Int) p24 q24; replace p24 := eq_true p24; replace q24 := eq_true q24; obtain ⟨hy27_, hz27_⟩ := Kd.R_celln false HO_4.out (x7_2 : Int) (oA) (oA); have HP27 := Kd.R_putg HO_4.out (x7_2 : Int) true
                go_wp2_with (first | ((with_reducible refine gate_store (t := 4) (p := 35) rfl ?_); refine store_event (t := 4) (p := 35) (v := ?vo_w28) (w1 := (wr.setCell ⟨go24, (x7_2 : Int).toNat, none⟩ (.bool true))) ?hg ?ho ?hn ?hr ?_; (case ho => rfl); (case hg => rfl); (case hn => rfl); (case hr => first | (go_simp; done) | (go_simp; rfl)); intro w28 hw; have hg : wr.grownBy w28 (some go24) := (by rw [hw]; exact HP27.2); have hp_ : Kd.R Kd.bool 4 w28 w.heap.size (fun _ => True) (.slice (some ⟨go24, 0, none⟩) x4_2.length co14) y178 := (by rw [hw, Ny178.out]; exact HP27.1); clear HP27; have n0 := Az (Kd.S_over' (v := (.slice (some ⟨go24, 0, none⟩) x4_2.length co14)) (sU HO_3.out) (Kd.R_typed HO_4.out) (by decide) hg); have n1 := Az (hp_); have n2 := Az (Kd.R_over' (v := (.slice (some ⟨go24, 0, none⟩) x4_2.length co14)) (rU HO_6.out) (Kd.R_typed HO_4.out) (by decide) hg); have n3 := Az ((by rw [hw]; exact below_set (HB.out) GB24.out : Below w.heap.size w w28)); clear HO_3 HO_4 HO_6 HB; have HO_3 := n0; have HO_4 := n1; have HO_6 := n2; have HB := n3; clear n0 n1 n2 n3; clear hg hw hp_) | ((with_reducible refine gate_builtin (b := .append) (xs := #[.tmp 36, .tmp 38]) rfl ?_); at_builtin; refine Kd.R_append (Kd.int .i64) (w0 := w) w.heap.size rfl (.tmp 36) (.tmp 38) 22 3 (.int .i64 0) 8 rfl Try.underlying22 info3 rfl (by decide) (by omega) u6 x6_2 x7_2 [.int .i64 x7_2] (fun _ => True) (fun _ => False) rfl rfl ?aP (fun _ hk => hk.elim) ?aF ?aO ?aB ?aS ?aL ?_; (case aP => exact rfl); (case aB => exact (bU0 HB.out)); (case aF => exact (fun _ _ => trivial)); (case aO => exact (rU HO_6.out)); (case aS => exact (below_size (bU0 HB.out))); (case aL => have := LMc25.out; omega); intro v180 w29 ho hb hg hat; rw [← Ny179.out] at ho; have n0 := Az (Kd.S_after (ok := (fun _ => True)) (by (with_reducible repeat (first | apply Kd.S_alloc | apply Kd.S_drewN | apply Kd.S_drew)); exact Kd.S_mono HO_3.out (fun _ hk => ⟨trivial, hk⟩)) hg hat); have n1 := Az (Kd.R_over' (rU HO_4.out) (Kd.R_typed (rU HO_6.out)) (by decide) hg); have n2 := Az (hb); have n3 := Az (ho); clear HO_3 HO_4 HB HO_6; have HO_3 := n0; have HO_4 := n1; have HB := n2; have HO181 := n3; clear n0 n1 n2 n3 ho hb hg hat; have p182 : 0 ≤ (x7_2 : Int) := oA; have q182 : x7_2 < (l0.length : Int) := oA; obtain ⟨ad182, e182, hx182_0⟩ := Kd.at_int HR0.out x7_2 p182 q182; cases e182; replace hx182_0 := (HB.out.cell (World.block_lt_of_cell? w _ hx182_0)).trans hx182_0; replace p182 := eq_true p182; replace q182 := eq_true q182))
                (try simp only [← hl4_2]); (first | go_roundg k2 | (refine Handed.intro k2 ?measure ?_; rotate_left; go_step; (try simp only [add_plain]); (repeat apply Exists.intro); refine ⟨?rel, rfl⟩))
                case measure => have := HK1.out; have := HK2.out; omega
                case rel => exact ⟨(y178), (y179), (rd l0 x7_2), rS, H', ⟨by have := HK1.out; have := HK2.out; omega⟩, ⟨by (try simp only [hl4_2]); (with_reducible repeat (first | apply Kd.S_alloc | apply Kd.S_drewN | apply Kd.S_drew)); exact Kd.S_mono HO_3.out (fun _ hk => hk.2)⟩, ⟨by (try simp only [hl4_2]); (with_reducible repeat (first | apply Kd.R_alloc | apply Kd.R_drewN | apply Kd.R_drew)); exact HO_4.out⟩, ⟨by (try simp only [hl4_2]); (with_reducible repeat (first | apply Kd.R_alloc | apply Kd.R_drewN | apply Kd.R_drew)); exact HO181.out⟩, ⟨bU0 HB.out⟩⟩
               ·
                rw [if_neg c26] at H
                exact absurd H (by simp)
              ·
               rw [if_neg c25] at H
               exact absurd H (by simp)
            ·
             rw [if_neg c18] at H
             exact absurd H (by simp)
           ·
            rw [if_neg c17] at H
            exact absurd H (by simp)
       ·
        rw [if_neg c10] at H
        exact absurd H (by simp)
      ·
       rw [if_neg c9] at H
       exact absurd H (by simp)
     ·
      rw [if_neg c8] at H; have c8b0 := decide_eq_false c8; clear c8; obtain rfl := Option.some.inj H
      go_wp2
      go_ret
      exact ⟨_, rE, sU HO_3.out, bU0 HB.out⟩
  ·
   rw [if_neg c3] at H
   exact absurd H (by simp)
 ·
  rw [if_neg c2] at H
  exact absurd H (by simp)
def spec_l7Has.l0 : Nat → List Int → Int → Int → Option (Bool)
 | 0, _, _, _ => none
 | k + 1, x0, x1, x5 => if x5 < (x0.length : Int) then (if 0 ≤ x5 then (if (rd x0 x5) = x1 then (some true) else (spec_l7Has.l0 k x0 x1 (wrap64 (x5 + 1)))) else (none)) else (some false)
def spec_l7Has.f (k : Nat) (l0 : List Int) (a1 : Int) : Option (Bool) := spec_l7Has.l0 k l0 a1 0
set_option maxHeartbeats 8000000 in
set_option maxRecDepth 100000 in
theorem spec_l7Has.calls (k : Nat) (A0 : Option Addr) (c0 : Nat) (l0 : List Int) (a1 : Int) (r : Bool) (w : World) (hr0 : Kd.C (Kd.int .i64) w A0 l0.length l0) (hc0 : l0.length ≤ c0) (h : spec_l7Has.f k l0 a1 = some r) :
  Calls Try.prog 52 #[.slice A0 l0.length c0, .int .i64 a1] w fun e w' => e = .returned (.bool r) ∧ Drawn0 w w' := by
 have HR0 := Az hr0; have HC0 := Az hc0; clear hr0 hc0; have H : (spec_l7Has.l0 k l0 a1 0) = some r := h; clear h; have H' := Az H; clear H
 go_enter Try.func52, Try.ntmps52
 go_wp2
 go_loopg [5] k (fun kq v5 w' => ∃ (x5_1 : Int), v5 = .int .i64 x5_1 ∧ Aside0 (spec_l7Has.l0 kq l0 a1 x5_1 = some r) ∧ Aside0 (kq ≤ k) ∧ Drawn0 w w')
 case atStart => exact ⟨(0), rS, H', ⟨Nat.le_refl _⟩, by repeat (first | exact Drawn0.refl _ | apply Drawn0.step)⟩
 case round =>
  clear H'; (try clear p2); obtain ⟨x5_1, rfl, HA, HK1, ⟨m1, rfl⟩⟩ := hrel
  cases gk with
  | zero => exact absurd HA.out (by simp [spec_l7Has.l0])
  | succ k1 =>
   have H := HA.out; clear HA; simp only [spec_l7Has.l0] at H
   by_cases c3 : x5_1 < (l0.length : Int)
   ·
    rw [if_pos c3] at H; have c3b0 := decide_eq_true c3; clear c3
    by_cases c4 : 0 ≤ x5_1
    ·
     rw [if_pos c4] at H; have c4b0 := decide_eq_true c4; clear c4
     by_cases c5 : (rd l0 x5_1) = a1
     ·
      rw [if_pos c5] at H; have c5b0 := beq_iff_eq.mpr c5; have c5b1 := bne_eq_false_iff_eq.mpr c5; clear c5; obtain rfl := Option.some.inj H; have p183 : 0 ≤ (x5_1 : Int) := oA; have q183 : x5_1 < (l0.length : Int) := oA; obtain ⟨ad183, e183, hx183_0⟩ := Kd.at_int HR0.out x5_1 p183 q183
      cases e183
      replace p183 := eq_true p183; replace q183 := eq_true q183
      go_wp2
      go_ret
      exact ⟨by first | rfl | (simp; done) | (simp [*]; done), by repeat (first | exact Drawn0.refl _ | apply Drawn0.step)⟩
     ·
      rw [if_neg c5] at H; have c5b0 := beq_eq_false_iff_ne.mpr c5; have c5b1 := bne_iff_ne.mpr c5; have H' := Az H; clear H; have p183 : 0 ≤ (x5_1 : Int) := oA; have q183 : x5_1 < (l0.length : Int) := oA; obtain ⟨ad183, e183, hx183_0⟩ := Kd.at_int HR0.out x5_1 p183 q183
      cases e183
      replace p183 := eq_true p183; replace q183 := eq_true q183
      go_wp2
      (first | go_roundg k1 | (refine Handed.intro k1 ?measure ?_; rotate_left; go_step; (try simp only [add_plain]); (repeat apply Exists.intro); refine ⟨?rel, rfl⟩))
      case measure => have := HK1.out; omega
      case rel => exact ⟨(wrap64 (x5_1 + 1)), rS, H', ⟨by have := HK1.out; omega⟩, by repeat (first | exact Drawn0.refl _ | apply Drawn0.step)⟩
    ·
     rw [if_neg c4] at H
     exact absurd H (by simp)
   ·
    rw [if_neg c3] at H; have c3b0 := decide_eq_false c3; clear c3; obtain rfl := Option.some.inj H
    go_wp2
    go_ret
    exact ⟨by first | rfl | (simp; done) | (simp [*]; done), by repeat (first | exact Drawn0.refl _ | apply Drawn0.step)⟩
def spec_l7Edges.l0 : Nat → List Int → Int → Int → List Int → List Int → Option (List Int)
 | 0, _, _, _, _, _ => none
 | k + 1, x3, x4, x5, xZ0, xZ1 => if x5 < (x3.length : Int) then (if 0 ≤ x5 then (if x5 < (xZ1.length : Int) then (if x5 < (rd xZ1 x5) then (if 0 ≤ (rd xZ1 x5) then (if (rd xZ1 x5) < (x3.length : Int) then (spec_l7Edges.l0 k ((x3.set (x5 : Int).toNat x4).set ((rd xZ1 x5) : Int).toNat x4) (wrap64 (x4 + 1)) (wrap64 (x5 + 1)) xZ0 xZ1) else (none)) else (none)) else (spec_l7Edges.l0 k x3 x4 (wrap64 (x5 + 1)) xZ0 xZ1)) else (none)) else (none)) else (some x3)
def spec_l7Edges.f (k : Nat) (l0_0 : List Int) (l0_1 : List Int) : Option (List Int) := if 0 ≤ (l0_1.length : Int) then (if ((l0_1.length : Int) : Int).toNat ≤ 35184372088832 then (spec_l7Edges.l0 k (List.replicate ((l0_1.length : Int) : Int).toNat 0) 0 0 l0_0 l0_1) else (none)) else (none)
set_option maxHeartbeats 8000000 in
set_option maxRecDepth 100000 in
theorem spec_l7Edges.calls (k : Nat) (A0_0 : Option Addr) (c0_0 : Nat) (l0_0 : List Int) (A0_1 : Option Addr) (c0_1 : Nat) (l0_1 : List Int) (r : List Int) (w : World) (hr0_0 : Kd.C (Kd.int .i64) w A0_0 l0_0.length l0_0) (hc0_0 : l0_0.length ≤ c0_0) (hr0_1 : Kd.C (Kd.int .i64) w A0_1 l0_1.length l0_1) (hc0_1 : l0_1.length ≤ c0_1) (h : spec_l7Edges.f k l0_0 l0_1 = some r) :
  Calls Try.prog 93 #[.agg #[.slice A0_0 l0_0.length c0_0, .slice A0_1 l0_1.length c0_1]] w fun e w' => ∃ v0_ : Value, e = .returned (v0_) ∧ Kd.R (Kd.int .i64) 3 w' w.heap.size (fun _ => True) v0_ r ∧ Below w.heap.size w w' := by
 have hu27 := Try.underlying27; have HR0_0 := Az hr0_0; have HC0_0 := Az hc0_0; clear hr0_0 hc0_0; have HR0_1 := Az hr0_1; have HC0_1 := Az hc0_1; clear hr0_1 hc0_1; have HB := Az (Below.refl w.heap.size w); have H : (if 0 ≤ (l0_1.length : Int) then (if ((l0_1.length : Int) : Int).toNat ≤ 35184372088832 then (spec_l7Edges.l0 k (List.replicate ((l0_1.length : Int) : Int).toNat 0) 0 0 l0_0 l0_1) else (none)) else (none)) = some r := h; clear h
 by_cases c2 : 0 ≤ (l0_1.length : Int)
 ·
  rw [if_pos c2] at H; have c2b0 := eq_true c2; have c2b1 := decide_eq_true c2; clear c2
  by_cases c3 : ((l0_1.length : Int) : Int).toNat ≤ 35184372088832
  ·
   rw [if_pos c3] at H; have c3b0 := eq_true c3; have c3b1 := decide_eq_true c3; clear c3; obtain ⟨y185, hy185⟩ : ∃ y_ : List Int, y_ = (List.replicate ((l0_1.length : Int) : Int).toNat 0) := ⟨_, rfl⟩; replace H : (spec_l7Edges.l0 k y185 0 0 l0_0 l0_1) = some r := hR hy185 H; have Ny185 := Az hy185; clear hy185; have H' := Az H; clear H
   go_enter Try.func93, Try.ntmps93
   go_wp2_with (first | ((with_reducible refine gate_dst (N := 1) rfl ?_); refine box_event ?hg (N := 1) ?hd (cs := #[.slice A0_0 l0_0.length c0_0, .slice A0_1 l0_1.length c0_1]) (t := 27) ?hr ?_; (case hd => rfl); (case hg => rfl); (case hr => first | (go_simp; done) | (go_simp; rfl)); intro gb184 hg w4 hbox hb; have n0 := Az (below_step (bU0 HB.out) hb); have n1 := Az (hbox); have n2 := Az ((by rw [hg]; exact (below_size (bU0 HB.out)) : w.heap.size ≤ gb184)); have n3 := n2; clear HB; have HB := n0; have BK184 := n1; have GW184 := n2; have GE184 := n3; clear n0 n1 n2 n3 hb hbox hg; have hcz5_0 : w4.cell? ⟨gb184, 0, none⟩ = some (.slice A0_0 l0_0.length c0_0) := (blk_cell BK184.out 0).trans rfl; have hcz5_1 : w4.cell? ⟨gb184, 1, none⟩ = some (.slice A0_1 l0_1.length c0_1) := (blk_cell BK184.out 1).trans rfl; have hfz5_0 := blk_frozen BK184.out 0; have hfz5_1 := blk_frozen BK184.out 1) | ((with_reducible refine gate_dst (N := 9) rfl ?_); refine Kd.R_make (Kd.int .i64) _ 3 rfl (N := 9) rfl 22 _ _ rfl (l0_1.length : Int) rfl rfl Try.underlying22 (.int .i64 0) 8 info3 rfl (by decide) (by omega) 0 (ok := fun _ => True) (okp := fun _ => True) rfl (fun _ hk => hk) trivial (oA) (Nat.le_trans (Nat.mul_le_mul_right _ (oA : (l0_1.length : Int).toNat ≤ 35184372088832)) (by omega)) (Below.refl _ _) (Nat.le_refl _) ?_; intro v186 w6 ho7 hb hg_ hnew_; clear hg_ hnew_; (first | rw [← Ny185.out] at ho7 | (simp only [Int.reduceToNat] at ho7; rw [← Ny185.out] at ho7)); have n0 := Az (Kd.R_lower ho7 (below_size (bU1 HB.out GE184.out))); have n1 := Az (blk_below (g := gb184) (o := .cells #[.slice A0_0 l0_0.length c0_0, .slice A0_1 l0_1.length c0_1] 27 (0, 0)) (kU BK184.out) hb); have n2 := Az (below_step (bU1 HB.out GE184.out) hb); clear BK184 HB; have HO187 := n0; have BK184 := n1; have HB := n2; clear n0 n1 n2; clear hb ho7))
   go_loopg [4, 5] k (fun kq v4 v5 w' => ∃ (x3_1 : List Int) (x4_1 : Int) (x5_1 : Int), v4 = .int .i64 x4_1 ∧ v5 = .int .i64 x5_1 ∧ Aside0 (spec_l7Edges.l0 kq x3_1 x4_1 x5_1 l0_0 l0_1 = some r) ∧ Aside0 (kq ≤ k) ∧ Aside0 (Kd.R (Kd.int .i64) 3 w' w.heap.size (fun _ => True) v186 x3_1) ∧ Aside0 (w'.heap[gb184]? = some (.cells #[(.slice A0_0 l0_0.length c0_0), (.slice A0_1 l0_1.length c0_1)] 27 (0, 0))) ∧ Aside0 (Below w.heap.size w w'))
   case atStart => exact ⟨(y185), (0), (0), rS, rS, H', ⟨Nat.le_refl _⟩, ⟨rU HO187.out⟩, ⟨kU BK184.out⟩, ⟨bU1 HB.out GE184.out⟩⟩
   case round =>
    clear H'; (try clear c2); (try clear c2b0); (try clear c2b1); (try clear p2); (try clear c3); (try clear c3b0); (try clear c3b1); (try clear hcz5_0); (try clear hcz5_1); (try clear hfz5_0); (try clear hfz5_1); obtain ⟨x3_1, x4_1, x5_1, rfl, rfl, HA, HK1, HO_3, BK184, HB⟩ := hrel
    cases gk with
    | zero => exact absurd HA.out (by simp [spec_l7Edges.l0])
    | succ k1 =>
     have H := HA.out; clear HA; simp only [spec_l7Edges.l0] at H
     by_cases c8 : x5_1 < (x3_1.length : Int)
     ·
      rw [if_pos c8] at H; have c8b0 := decide_eq_true c8; clear c8
      by_cases c9 : 0 ≤ x5_1
      ·
       rw [if_pos c9] at H; have c9b0 := decide_eq_true c9; clear c9
       by_cases c10 : x5_1 < (l0_1.length : Int)
       ·
        rw [if_pos c10] at H; have c10b0 := decide_eq_true c10; clear c10
        by_cases c11 : x5_1 < (rd l0_1 x5_1)
        ·
         rw [if_pos c11] at H; have c11b0 := decide_eq_true c11; clear c11; obtain ⟨y189, hy189⟩ : ∃ y_ : List Int, y_ = (x3_1.set (x5_1 : Int).toNat x4_1) := ⟨_, rfl⟩; replace H : (if 0 ≤ (rd l0_1 x5_1) then (if (rd l0_1 x5_1) < (x3_1.length : Int) then (spec_l7Edges.l0 k1 (y189.set ((rd l0_1 x5_1) : Int).toNat x4_1) (wrap64 (x4_1 + 1)) (wrap64 (x5_1 + 1)) l0_0 l0_1) else (none)) else (none)) = some r := hR hy189 H; have Ny189 := Az hy189; clear hy189
         by_cases c13 : 0 ≤ (rd l0_1 x5_1)
         ·
          rw [if_pos c13] at H; have c13b0 := decide_eq_true c13; clear c13
          by_cases c14 : (rd l0_1 x5_1) < (x3_1.length : Int)
          ·
           rw [if_pos c14] at H; have c14b0 := decide_eq_true c14; clear c14; obtain ⟨y191, hy191⟩ : ∃ y_ : List Int, y_ = (y189.set ((rd l0_1 x5_1) : Int).toNat x4_1) := ⟨_, rfl⟩; replace H : (spec_l7Edges.l0 k1 y191 (wrap64 (x4_1 + 1)) (wrap64 (x5_1 + 1)) l0_0 l0_1) = some r := hR hy191 H; have Ny191 := Az hy191; clear hy191; have H' := Az H; clear H; obtain ⟨Ao16, co16, eo16⟩ := Kd.R_slice HO_3.out; subst eo16; have hcz17_0 : wr.cell? ⟨gb184, 0, none⟩ = some (.slice A0_0 l0_0.length c0_0) := (blk_cell BK184.out 0).trans rfl; have hcz17_1 : wr.cell? ⟨gb184, 1, none⟩ = some (.slice A0_1 l0_1.length c0_1) := (blk_cell BK184.out 1).trans rfl; have hfz17_0 := blk_frozen BK184.out 0; have hfz17_1 := blk_frozen BK184.out 1; have p188 : 0 ≤ (x5_1 : Int) := oA; have q188 : x5_1 < (l0_1.length : Int) := oA; obtain ⟨ad188, e188, hx188_0⟩ := Kd.at_int HR0_1.out x5_1 p188 q188
           cases e188
           (try replace hx188_0 := (HB.out.cell (World.block_lt_of_cell? w _ hx188_0)).trans hx188_0); replace p188 := eq_true p188; replace q188 := eq_true q188; have p12 : 0 ≤ (x5_1 : Int) := oA; have q12 : (x5_1 : Int) < ((x3_1.length : Int) : Int) := oA; obtain ⟨go12, co12, eo12, gb12, gl12, cl12, HG12⟩ := Kd.R_form HO_3.out (by omega); (first | cases eo12 | (injection eo12 with ea_ en_ ec_; (first | subst ea_ | (injection ea_ with ea_; subst ea_)); subst ec_; clear en_)); have GB12 := Az gb12; have GG12 := Az HG12; clear gb12 gl12 HG12; obtain ⟨hx12_0, hf12_0⟩ := Kd.R_celln 0 HO_3.out (x5_1 : Int) p12 q12; replace p12 := eq_true p12; replace q12 := eq_true q12; obtain ⟨hy18_, hz18_⟩ := Kd.R_celln 0 HO_3.out (x5_1 : Int) (oA) (oA); have HP18 := Kd.R_putg HO_3.out (x5_1 : Int) x4_1
           go_wp2_with (first | ((with_reducible refine gate_store (t := 3) (p := 26) rfl ?_); refine store_event (t := 3) (p := 26) (v := ?vo_w19) (w1 := (wr.setCell ⟨go12, (x5_1 : Int).toNat, none⟩ (.int .i64 x4_1))) ?hg ?ho ?hn ?hr ?_; (case ho => rfl); (case hg => rfl); (case hn => rfl); (case hr => first | (go_simp; done) | (go_simp; rfl)); intro w19 hw; have hg : wr.grownBy w19 (some go12) := (by rw [hw]; exact HP18.2); have hp_ : Kd.R (Kd.int .i64) 3 w19 w.heap.size (fun _ => True) (.slice (some ⟨go12, 0, none⟩) x3_1.length co16) y189 := (by rw [hw, Ny189.out]; exact HP18.1); clear HP18; have n0 := Az (hp_); have n1 := Az (blk_grown (g := gb184) (o := .cells #[.slice A0_0 l0_0.length c0_0, .slice (some ad188) l0_1.length c0_1] 27 (0, 0)) (kU BK184.out) hg (Kd.R_ne HO_3.out BK184.out (by decide))); have n2 := Az ((by rw [hw]; exact below_set (HB.out) GB12.out : Below w.heap.size w w19)); clear HO_3 BK184 HB; have HO_3 := n0; have BK184 := n1; have HB := n2; clear n0 n1 n2 hg hw hp_; have hcz20_0 : w19.cell? ⟨gb184, 0, none⟩ = some (.slice A0_0 l0_0.length c0_0) := (blk_cell BK184.out 0).trans rfl; have hcz20_1 : w19.cell? ⟨gb184, 1, none⟩ = some (.slice (some ad188) l0_1.length c0_1) := (blk_cell BK184.out 1).trans rfl; have hfz20_0 := blk_frozen BK184.out 0; have hfz20_1 := blk_frozen BK184.out 1; have p190 : 0 ≤ (x5_1 : Int) := oA; have q190 : x5_1 < (l0_1.length : Int) := oA; obtain ⟨ad190, e190, hx190_0⟩ := Kd.at_int HR0_1.out x5_1 p190 q190; obtain rfl : ad188 = ad190 := (by injection e190); replace hx190_0 := (HB.out.cell (World.block_lt_of_cell? w _ hx190_0)).trans hx190_0; replace p190 := eq_true p190; replace q190 := eq_true q190; have p15 : 0 ≤ ((rd l0_1 x5_1) : Int) := oA; have q15 : ((rd l0_1 x5_1) : Int) < ((x3_1.length : Int) : Int) := oA; obtain ⟨hx15_0, hf15_0⟩ := Kd.R_celln 0 HO_3.out ((rd l0_1 x5_1) : Int) p15 q15; replace p15 := eq_true p15; replace q15 := eq_true q15; obtain ⟨hy21_, hz21_⟩ := Kd.R_celln 0 HO_3.out ((rd l0_1 x5_1) : Int) (oA) (oA); have HP21 := Kd.R_putg HO_3.out ((rd l0_1 x5_1) : Int) x4_1) | ((with_reducible refine gate_store (t := 3) (p := 34) rfl ?_); refine store_event (t := 3) (p := 34) (v := ?vo_w22) (w1 := (w19.setCell ⟨go12, ((rd l0_1 x5_1) : Int).toNat, none⟩ (.int .i64 x4_1))) ?hg ?ho ?hn ?hr ?_; (case ho => rfl); (case hg => rfl); (case hn => rfl); (case hr => first | (go_simp; done) | (go_simp; rfl)); intro w22 hw; have hg : w19.grownBy w22 (some go12) := (by rw [hw]; exact HP21.2); have hp_ : Kd.R (Kd.int .i64) 3 w22 w.heap.size (fun _ => True) (.slice (some ⟨go12, 0, none⟩) x3_1.length co16) y191 := (by rw [hw, Ny191.out]; exact HP21.1); clear HP21; have n0 := Az (hp_); have n1 := Az (blk_grown (g := gb184) (o := .cells #[.slice A0_0 l0_0.length c0_0, .slice (some ad188) l0_1.length c0_1] 27 (0, 0)) (kU BK184.out) hg (Kd.R_ne HO_3.out BK184.out (by decide))); have n2 := Az ((by rw [hw]; exact below_set (HB.out) GB12.out : Below w.heap.size w w22)); clear HO_3 BK184 HB; have HO_3 := n0; have BK184 := n1; have HB := n2; clear n0 n1 n2; clear hg hw hp_))
           (first | go_roundg k1 | (refine Handed.intro k1 ?measure ?_; rotate_left; go_step; (try simp only [add_plain]); (repeat apply Exists.intro); refine ⟨?rel, rfl⟩))
           case measure => have := HK1.out; omega
           case rel => exact ⟨(y191), (wrap64 (x4_1 + 1)), (wrap64 (x5_1 + 1)), rS, rS, H', ⟨by have := HK1.out; omega⟩, ⟨rU HO_3.out⟩, ⟨kU BK184.out⟩, ⟨bU1 HB.out GE184.out⟩⟩
          ·
           rw [if_neg c14] at H
           exact absurd H (by simp)
         ·
          rw [if_neg c13] at H
          exact absurd H (by simp)
        ·
         rw [if_neg c11] at H; have c11b0 := decide_eq_false c11; clear c11; have H' := Az H; clear H; obtain ⟨Ao23, co23, eo23⟩ := Kd.R_slice HO_3.out; subst eo23; have hcz24_0 : wr.cell? ⟨gb184, 0, none⟩ = some (.slice A0_0 l0_0.length c0_0) := (blk_cell BK184.out 0).trans rfl; have hcz24_1 : wr.cell? ⟨gb184, 1, none⟩ = some (.slice A0_1 l0_1.length c0_1) := (blk_cell BK184.out 1).trans rfl; have hfz24_0 := blk_frozen BK184.out 0; have hfz24_1 := blk_frozen BK184.out 1; have p188 : 0 ≤ (x5_1 : Int) := oA; have q188 : x5_1 < (l0_1.length : Int) := oA; obtain ⟨ad188, e188, hx188_0⟩ := Kd.at_int HR0_1.out x5_1 p188 q188
         cases e188
         (try replace hx188_0 := (HB.out.cell (World.block_lt_of_cell? w _ hx188_0)).trans hx188_0); replace p188 := eq_true p188; replace q188 := eq_true q188
         go_wp2
         (first | go_roundg k1 | (refine Handed.intro k1 ?measure ?_; rotate_left; go_step; (try simp only [add_plain]); (repeat apply Exists.intro); refine ⟨?rel, rfl⟩))
         case measure => have := HK1.out; omega
         case rel => exact ⟨(x3_1), (x4_1), (wrap64 (x5_1 + 1)), rS, rS, H', ⟨by have := HK1.out; omega⟩, ⟨rU HO_3.out⟩, ⟨kU BK184.out⟩, ⟨bU1 HB.out GE184.out⟩⟩
       ·
        rw [if_neg c10] at H
        exact absurd H (by simp)
      ·
       rw [if_neg c9] at H
       exact absurd H (by simp)
     ·
      rw [if_neg c8] at H; have c8b0 := decide_eq_false c8; clear c8; obtain rfl := Option.some.inj H; obtain ⟨Ao25, co25, eo25⟩ := Kd.R_slice HO_3.out; subst eo25
      go_wp2
      go_ret
      exact ⟨_, rE, rU HO_3.out, bU1 HB.out GE184.out⟩
  ·
   rw [if_neg c3] at H
   exact absurd H (by simp)
 ·
  rw [if_neg c2] at H
  exact absurd H (by simp)
mutual
def spec_l7Parts.l0 : Nat → List Int → List Int → List Int → Int → List Int → List Int → Option (Int)
 | 0, _, _, _, _, _, _ => none
 | k + 1, x1, x5, x6, x7, xZ2, xZ3 => if x7 < (x5.length : Int) then (if 0 ≤ x7 then (if x7 < (x6.length : Int) then ((spec_l7Has.f k x1 (rd x6 x7)).bind fun t200 => (if t200 = true then (if x7 < (xZ3.length : Int) then (spec_l7Parts.l0 k x1 (x5.set (x7 : Int).toNat (rd xZ3 x7)) x6 (wrap64 (x7 + 1)) xZ2 xZ3) else (none)) else (spec_l7Parts.l0 k x1 x5 x6 (wrap64 (x7 + 1)) xZ2 xZ3))) else (none)) else (none)) else ((spec_l1Orbits.f k xZ2 x5).bind fun t203 => (spec_l7Parts.l1 k t203 0 0))
def spec_l7Parts.l1 : Nat → List Int → Int → Int → Option (Int)
 | 0, _, _, _ => none
 | k + 1, x8, x9, x10 => if x10 < (x8.length : Int) then (if 0 ≤ x10 then (if (rd x8 x10) = x10 then (spec_l7Parts.l1 k x8 (wrap64 (x9 + 1)) (wrap64 (x10 + 1))) else (spec_l7Parts.l1 k x8 x9 (wrap64 (x10 + 1)))) else (none)) else (some x9)
end
def spec_l7Parts.f (k : Nat) (l0_0 : List Int) (l0_1 : List Int) (l1 : List Int) : Option (Int) := (spec_l1Same.f k (l0_1.length : Int)).bind fun t193 => ((spec_l7Edges.f k l0_0 l0_1).bind fun t196 => (spec_l7Parts.l0 k l1 t193 t196 0 l0_0 l0_1))
set_option maxHeartbeats 8000000 in
set_option maxRecDepth 100000 in
theorem spec_l7Parts.calls (k : Nat) (A0_0 : Option Addr) (c0_0 : Nat) (l0_0 : List Int) (A0_1 : Option Addr) (c0_1 : Nat) (l0_1 : List Int) (A1 : Option Addr) (c1 : Nat) (l1 : List Int) (r : Int) (w : World) (hr0_0 : Kd.C (Kd.int .i64) w A0_0 l0_0.length l0_0) (hc0_0 : l0_0.length ≤ c0_0) (hr0_1 : Kd.C (Kd.int .i64) w A0_1 l0_1.length l0_1) (hc0_1 : l0_1.length ≤ c0_1) (hr1 : Kd.C (Kd.int .i64) w A1 l1.length l1) (hc1 : l1.length ≤ c1) (h : spec_l7Parts.f k l0_0 l0_1 l1 = some r) :
  Calls Try.prog 73 #[.agg #[.slice A0_0 l0_0.length c0_0, .slice A0_1 l0_1.length c0_1], .slice A1 l1.length c1] w fun e w' => e = .returned (.int .i64 r) ∧ Below w.heap.size w w' := by
 have hu27 := Try.underlying27; have HR0_0 := Az hr0_0; have HC0_0 := Az hc0_0; clear hr0_0 hc0_0; have HR0_1 := Az hr0_1; have HC0_1 := Az hc0_1; clear hr0_1 hc0_1; have HR1 := Az hr1; have HC1 := Az hc1; clear hr1 hc1; have HB := Az (Below.refl w.heap.size w); have H : ((spec_l1Same.f k (l0_1.length : Int)).bind fun t193 => ((spec_l7Edges.f k l0_0 l0_1).bind fun t196 => (spec_l7Parts.l0 k l1 t193 t196 0 l0_0 l0_1))) = some r := h; clear h; replace H := Option.bind_eq_some_iff.mp H; obtain ⟨t193, A30, H⟩ := H; replace H : ((spec_l7Edges.f k l0_0 l0_1).bind fun t196 => (spec_l7Parts.l0 k l1 t193 t196 0 l0_0 l0_1)) = some r := H; have A3 := Az A30; clear A30; replace H := Option.bind_eq_some_iff.mp H; obtain ⟨t196, A40, H⟩ := H; replace H : (spec_l7Parts.l0 k l1 t193 t196 0 l0_0 l0_1) = some r := H; have A4 := Az A40; clear A40; have H' := Az H; clear H
 go_enter Try.func73, Try.ntmps73
 go_wp2_with (first | ((with_reducible refine gate_dst (N := 2) rfl ?_); refine box_event ?hg (N := 2) ?hd (cs := #[.slice A0_0 l0_0.length c0_0, .slice A0_1 l0_1.length c0_1]) (t := 27) ?hr ?_; (case hd => rfl); (case hg => rfl); (case hr => first | (go_simp; done) | (go_simp; rfl)); intro gb192 hg w5 hbox hb; have n0 := Az (below_step (bU0 HB.out) hb); have n1 := Az (hbox); have n2 := Az ((by rw [hg]; exact (below_size (bU0 HB.out)) : w.heap.size ≤ gb192)); have n3 := n2; clear HB; have HB := n0; have BK192 := n1; have GW192 := n2; have GE192 := n3; clear n0 n1 n2 n3 hb hbox hg; have hcz6_0 : w5.cell? ⟨gb192, 0, none⟩ = some (.slice A0_0 l0_0.length c0_0) := (blk_cell BK192.out 0).trans rfl; have hcz6_1 : w5.cell? ⟨gb192, 1, none⟩ = some (.slice A0_1 l0_1.length c0_1) := (blk_cell BK192.out 1).trans rfl; have hfz6_0 := blk_frozen BK192.out 0; have hfz6_1 := blk_frozen BK192.out 1) | ((with_reducible refine gate_callee (f := 94) rfl ?_); refine goesL_ (some 14) rfl rfl Try.func94 (by kernel_rfl) rfl #[.int .i64 (l0_1.length : Int)] rfl (by (try simp only [List.map_toArray, List.map_cons, List.map_nil]); first | done | rfl | (simp only [List.length_drop, List.length_take]; rfl)) ?_; (with_reducible refine (spec_l1Same.calls k (l0_1.length : Int) t193 _ A3.out).mono ?_); rintro e w7 ⟨v194, rfl, ho0, hb⟩; refine ⟨_, rfl, ?_⟩; have n0 := Az (Kd.R_lower ho0 (below_size (bU1 HB.out GE192.out))); have n1 := Az (blk_below (g := gb192) (o := .cells #[.slice A0_0 l0_0.length c0_0, .slice A0_1 l0_1.length c0_1] 27 (0, 0)) (kU BK192.out) hb); have n2 := Az (below_step (bU1 HB.out GE192.out) hb); clear BK192 HB; have HO195 := n0; have BK192 := n1; have HB := n2; clear n0 n1 n2; (try clear hb); (try clear hb2); (try clear hk); (try clear hi); (try clear ho0); have hcz8_0 : w7.cell? ⟨gb192, 0, none⟩ = some (.slice A0_0 l0_0.length c0_0) := (blk_cell BK192.out 0).trans rfl; have hcz8_1 : w7.cell? ⟨gb192, 1, none⟩ = some (.slice A0_1 l0_1.length c0_1) := (blk_cell BK192.out 1).trans rfl; have hfz8_0 := blk_frozen BK192.out 0; have hfz8_1 := blk_frozen BK192.out 1) | ((with_reducible refine gate_callee (f := 93) rfl ?_); refine goesL_ (some 16) rfl rfl Try.func93 (by kernel_rfl) rfl #[.agg #[.slice A0_0 l0_0.length c0_0, .slice A0_1 l0_1.length c0_1]] rfl (by (try simp only [List.map_toArray, List.map_cons, List.map_nil]); first | done | rfl | (simp only [List.length_drop, List.length_take]; rfl)) ?_; (with_reducible refine (spec_l7Edges.calls k _ _ l0_0 _ _ l0_1 t196 _ ?side1 ?side2 ?side3 ?side4 A4.out).mono ?_); (case side1 => exact cU (Kd.C_below HR0_0.out HB.out)); (case side2 => exact HC0_0.out); (case side3 => exact cU (Kd.C_below HR0_1.out HB.out)); (case side4 => exact HC0_1.out); rintro e w9 ⟨v197, rfl, ho0, hb⟩; refine ⟨_, rfl, ?_⟩; have n0 := Az (Kd.R_elder' (rU HO195.out) (Kd.R_base ho0) hb); have n1 := Az (Kd.R_lower (Kd.R_new' ho0 (Kd.R_lt (rU HO195.out))) (below_size (bU1 HB.out GE192.out))); have n2 := Az (blk_below (g := gb192) (o := .cells #[.slice A0_0 l0_0.length c0_0, .slice A0_1 l0_1.length c0_1] 27 (0, 0)) (kU BK192.out) hb); have n3 := Az (below_step (bU1 HB.out GE192.out) hb); clear HO195 BK192 HB; have HO195 := n0; have HO198 := n1; have BK192 := n2; have HB := n3; clear n0 n1 n2 n3; (try clear hb); (try clear hb2); (try clear hk); (try clear hi); (try clear ho0)))
 go_loopg [7] k (fun kq v7 w' => ∃ (x5_1 : List Int) (x7_1 : Int), v7 = .int .i64 x7_1 ∧ Aside0 (spec_l7Parts.l0 kq l1 x5_1 t196 x7_1 l0_0 l0_1 = some r) ∧ Aside0 (kq ≤ k) ∧ Aside0 (Kd.R (Kd.int .i64) 3 w' w.heap.size (fun k_ => some k_ ≠ (v197 : Value).ownBlock) v194 x5_1) ∧ Aside0 (Kd.R (Kd.int .i64) 3 w' w.heap.size (fun k_ => some k_ ≠ (v194 : Value).ownBlock) v197 t196) ∧ Aside0 (w'.heap[gb192]? = some (.cells #[(.slice A0_0 l0_0.length c0_0), (.slice A0_1 l0_1.length c0_1)] 27 (0, 0))) ∧ Aside0 (Below w.heap.size w w'))
 case atStart => exact ⟨(t193), (0), rS, H', ⟨Nat.le_refl _⟩, ⟨by (with_reducible repeat (first | apply Kd.R_alloc | apply Kd.R_drewN | apply Kd.R_drew)); exact Kd.R_mono HO195.out (fun _ hk => hk.2)⟩, ⟨by (with_reducible repeat (first | apply Kd.R_alloc | apply Kd.R_drewN | apply Kd.R_drew)); exact Kd.R_mono HO198.out (fun _ hk => hk.2)⟩, ⟨kU BK192.out⟩, ⟨bU1 HB.out GE192.out⟩⟩
 case round =>
  clear H'; (try clear c1); (try clear p2); (try clear c7); (try clear c9); (try clear hcz6_0); (try clear hcz6_1); (try clear hcz8_0); (try clear hcz8_1); (try clear hfz6_0); (try clear hfz6_1); (try clear hfz8_0); (try clear hfz8_1); obtain ⟨x5_1, x7_1, rfl, HA, HK1, HO_5, HO_6, BK192, HB⟩ := hrel
  cases gk with
  | zero => exact absurd HA.out (by simp [spec_l7Parts.l0])
  | succ k1 =>
   have H := HA.out; clear HA; simp only [spec_l7Parts.l0] at H
   by_cases c10 : x7_1 < (x5_1.length : Int)
   ·
    rw [if_pos c10] at H; have c10b0 := decide_eq_true c10; clear c10
    by_cases c11 : 0 ≤ x7_1
    ·
     rw [if_pos c11] at H; have c11b0 := decide_eq_true c11; clear c11
     by_cases c12 : x7_1 < (t196.length : Int)
     ·
      rw [if_pos c12] at H; have c12b0 := decide_eq_true c12; clear c12; replace H := Option.bind_eq_some_iff.mp H; obtain ⟨t200, A130, H⟩ := H; replace H : (if t200 = true then (if x7_1 < (l0_1.length : Int) then (spec_l7Parts.l0 k1 l1 (x5_1.set (x7_1 : Int).toNat (rd l0_1 x7_1)) t196 (wrap64 (x7_1 + 1)) l0_0 l0_1) else (none)) else (spec_l7Parts.l0 k1 l1 x5_1 t196 (wrap64 (x7_1 + 1)) l0_0 l0_1)) = some r := H; have A13 := Az A130; clear A130
      by_cases c14 : t200 = true
      ·
       subst c14
       have H1 : (if x7_1 < (l0_1.length : Int) then (spec_l7Parts.l0 k1 l1 (x5_1.set (x7_1 : Int).toNat (rd l0_1 x7_1)) t196 (wrap64 (x7_1 + 1)) l0_0 l0_1) else (none)) = some r := by rw [if_pos rfl] at H; exact H
       clear H; have H := H1; clear H1
       by_cases c15 : x7_1 < (l0_1.length : Int)
       ·
        rw [if_pos c15] at H; have c15b0 := decide_eq_true c15; clear c15; obtain ⟨y202, hy202⟩ : ∃ y_ : List Int, y_ = (x5_1.set (x7_1 : Int).toNat (rd l0_1 x7_1)) := ⟨_, rfl⟩; replace H : (spec_l7Parts.l0 k1 l1 y202 t196 (wrap64 (x7_1 + 1)) l0_0 l0_1) = some r := hR hy202 H; have Ny202 := Az hy202; clear hy202; have H' := Az H; clear H; obtain ⟨Ao17, co17, eo17⟩ := Kd.R_slice HO_5.out; subst eo17; obtain ⟨Ao18, co18, eo18⟩ := Kd.R_slice HO_6.out; subst eo18; have p199 : 0 ≤ (x7_1 : Int) := oA; have q199 : x7_1 < (t196.length : Int) := oA; obtain ⟨ad199, e199, hx199_0⟩ := Kd.at_int (Kd.R_reads' HO_6.out).2.2 x7_1 p199 q199
        cases e199
        replace p199 := eq_true p199; replace q199 := eq_true q199
        go_wp2_with (first | ((with_reducible refine gate_callee (f := 52) rfl ?_); refine goesL_ (some 28) rfl rfl Try.func52 (by kernel_rfl) rfl #[.slice A1 l1.length c1, .int .i64 (rd t196 x7_1)] rfl (by (try simp only [List.map_toArray, List.map_cons, List.map_nil]); first | done | rfl | (simp only [List.length_drop, List.length_take]; rfl)) ?_; (with_reducible refine (spec_l7Has.calls k1 _ _ l1 (rd t196 x7_1) true _ ?side1 ?side2 A13.out).mono ?_); (case side1 => exact cU (Kd.C_below HR1.out HB.out)); (case side2 => exact HC1.out); rintro e w' ⟨rfl, ⟨nd, rfl⟩⟩; refine ⟨_, rfl, ?_⟩; (try (rw [drewN_self wr]; generalize hq_ : World.drewN wr _ = wr; have n0 : Aside0 (Kd.R (Kd.int .i64) 3 wr w.heap.size (fun k_ => some k_ ≠ (.slice (some ad199) t196.length co18 : Value).ownBlock) (.slice Ao17 x5_1.length co17) x5_1) := ⟨by rw [← hq_]; exact (rU HO_5.out)⟩; have n1 : Aside0 (Kd.R (Kd.int .i64) 3 wr w.heap.size (fun k_ => some k_ ≠ (.slice Ao17 x5_1.length co17 : Value).ownBlock) (.slice (some ad199) t196.length co18) t196) := ⟨by rw [← hq_]; exact (rU HO_6.out)⟩; have n2 : Aside0 (wr.heap[gb192]? = some (.cells #[.slice A0_0 l0_0.length c0_0, .slice A0_1 l0_1.length c0_1] 27 (0, 0))) := ⟨by rw [← hq_]; exact (kU BK192.out)⟩; have n3 : Aside0 (Below w.heap.size w wr) := ⟨by rw [← hq_]; exact (bU1 HB.out GE192.out)⟩; clear HO_5 HO_6 BK192 HB hq_; have HO_5 := n0; have HO_6 := n1; have BK192 := n2; have HB := n3; clear n0 n1 n2 n3)); have hcz19_0 : wr.cell? ⟨gb192, 0, none⟩ = some (.slice A0_0 l0_0.length c0_0) := (blk_cell BK192.out 0).trans rfl; have hcz19_1 : wr.cell? ⟨gb192, 1, none⟩ = some (.slice A0_1 l0_1.length c0_1) := (blk_cell BK192.out 1).trans rfl; have hfz19_0 := blk_frozen BK192.out 0; have hfz19_1 := blk_frozen BK192.out 1; have p201 : 0 ≤ (x7_1 : Int) := oA; have q201 : x7_1 < (l0_1.length : Int) := oA; obtain ⟨ad201, e201, hx201_0⟩ := Kd.at_int HR0_1.out x7_1 p201 q201; cases e201; replace hx201_0 := (HB.out.cell (World.block_lt_of_cell? w _ hx201_0)).trans hx201_0; replace p201 := eq_true p201; replace q201 := eq_true q201; have p16 : 0 ≤ (x7_1 : Int) := oA; have q16 : (x7_1 : Int) < ((x5_1.length : Int) : Int) := oA; obtain ⟨go16, co16, eo16, gb16, gl16, cl16, HG16⟩ := Kd.R_form HO_5.out (by omega); (first | cases eo16 | (injection eo16 with ea_ en_ ec_; (first | subst ea_ | (injection ea_ with ea_; subst ea_)); subst ec_; clear en_)); have GB16 := Az gb16; have GG16 := Az HG16; clear gb16 gl16 HG16; obtain ⟨hx16_0, hf16_0⟩ := Kd.R_celln 0 HO_5.out (x7_1 : Int) p16 q16; replace p16 := eq_true p16; replace q16 := eq_true q16; obtain ⟨hy20_, hz20_⟩ := Kd.R_celln 0 HO_5.out (x7_1 : Int) (oA) (oA); have HP20 := Kd.R_putg HO_5.out (x7_1 : Int) (rd l0_1 x7_1)) | ((with_reducible refine gate_store (t := 3) (p := 36) rfl ?_); refine store_event (t := 3) (p := 36) (v := ?vo_w21) (w1 := (wr.setCell ⟨go16, (x7_1 : Int).toNat, none⟩ (.int .i64 (rd l0_1 x7_1)))) ?hg ?ho ?hn ?hr ?_; (case ho => rfl); (case hg => rfl); (case hn => rfl); (case hr => first | (go_simp; done) | (go_simp; rfl)); intro w21 hw; have hg : wr.grownBy w21 (some go16) := (by rw [hw]; exact HP20.2); have hp_ : Kd.R (Kd.int .i64) 3 w21 w.heap.size (fun k_ => some k_ ≠ (.slice (some ad199) t196.length co18 : Value).ownBlock) (.slice (some ⟨go16, 0, none⟩) x5_1.length co17) y202 := (by rw [hw, Ny202.out]; exact HP20.1); clear HP20; have n0 := Az (hp_); have n1 := Az (Kd.R_after (v := (.slice (some ⟨go16, 0, none⟩) x5_1.length co17)) (v1 := (.slice (some ⟨go16, 0, none⟩) x5_1.length co17)) (ok := (fun _ => True)) (by (with_reducible repeat (first | apply Kd.R_alloc | apply Kd.R_drewN | apply Kd.R_drew)); exact Kd.R_mono HO_6.out (fun _ hk => ⟨trivial, hk⟩)) hg (.inl rfl)); have n2 := Az (blk_grown (g := gb192) (o := .cells #[.slice A0_0 l0_0.length c0_0, .slice (some ad201) l0_1.length c0_1] 27 (0, 0)) (kU BK192.out) hg (Kd.R_ne HO_5.out BK192.out (by decide))); have n3 := Az ((by rw [hw]; exact below_set (HB.out) GB16.out : Below w.heap.size w w21)); clear HO_5 HO_6 BK192 HB; have HO_5 := n0; have HO_6 := n1; have BK192 := n2; have HB := n3; clear n0 n1 n2 n3; clear hg hw hp_))
        (first | go_roundg k1 | (refine Handed.intro k1 ?measure ?_; rotate_left; go_step; (try simp only [add_plain]); (repeat apply Exists.intro); refine ⟨?rel, rfl⟩))
        case measure => have := HK1.out; omega
        case rel => exact ⟨(y202), (wrap64 (x7_1 + 1)), rS, H', ⟨by have := HK1.out; omega⟩, ⟨rU HO_5.out⟩, ⟨by (with_reducible repeat (first | apply Kd.R_alloc | apply Kd.R_drewN | apply Kd.R_drew)); exact Kd.R_mono HO_6.out (fun _ hk => hk.2)⟩, ⟨kU BK192.out⟩, ⟨bU1 HB.out GE192.out⟩⟩
       ·
        rw [if_neg c15] at H
        exact absurd H (by simp)
      ·
       replace c14 := Bool.eq_false_iff.mpr c14; subst c14
       have H1 : (spec_l7Parts.l0 k1 l1 x5_1 t196 (wrap64 (x7_1 + 1)) l0_0 l0_1) = some r := by rw [if_neg (show ¬ (false = true) by decide)] at H; exact H
       clear H; have H := H1; clear H1; have H' := Az H; clear H; obtain ⟨Ao22, co22, eo22⟩ := Kd.R_slice HO_5.out; subst eo22; obtain ⟨Ao23, co23, eo23⟩ := Kd.R_slice HO_6.out; subst eo23; have p199 : 0 ≤ (x7_1 : Int) := oA; have q199 : x7_1 < (t196.length : Int) := oA; obtain ⟨ad199, e199, hx199_0⟩ := Kd.at_int (Kd.R_reads' HO_6.out).2.2 x7_1 p199 q199
       cases e199
       replace p199 := eq_true p199; replace q199 := eq_true q199
       go_wp2_with (first | ((with_reducible refine gate_callee (f := 52) rfl ?_); refine goesL_ (some 28) rfl rfl Try.func52 (by kernel_rfl) rfl #[.slice A1 l1.length c1, .int .i64 (rd t196 x7_1)] rfl (by (try simp only [List.map_toArray, List.map_cons, List.map_nil]); first | done | rfl | (simp only [List.length_drop, List.length_take]; rfl)) ?_; (with_reducible refine (spec_l7Has.calls k1 _ _ l1 (rd t196 x7_1) false _ ?side1 ?side2 A13.out).mono ?_); (case side1 => exact cU (Kd.C_below HR1.out HB.out)); (case side2 => exact HC1.out); rintro e w' ⟨rfl, ⟨nd, rfl⟩⟩; refine ⟨_, rfl, ?_⟩))
       (first | go_roundg k1 | (refine Handed.intro k1 ?measure ?_; rotate_left; go_step; (try simp only [add_plain]); (repeat apply Exists.intro); refine ⟨?rel, rfl⟩))
       case measure => have := HK1.out; omega
       case rel => exact ⟨(x5_1), (wrap64 (x7_1 + 1)), rS, H', ⟨by have := HK1.out; omega⟩, ⟨rU HO_5.out⟩, ⟨rU HO_6.out⟩, ⟨kU BK192.out⟩, ⟨bU1 HB.out GE192.out⟩⟩
     ·
      rw [if_neg c12] at H
      exact absurd H (by simp)
    ·
     rw [if_neg c11] at H
     exact absurd H (by simp)
   ·
    rw [if_neg c10] at H; have c10b0 := decide_eq_false c10; clear c10; replace H := Option.bind_eq_some_iff.mp H; obtain ⟨t203, A240, H⟩ := H; replace H : (spec_l7Parts.l1 k1 t203 0 0) = some r := H; have A24 := Az A240; clear A240; have H' := Az H; clear H; obtain ⟨Ao25, co25, eo25⟩ := Kd.R_slice HO_5.out; subst eo25; have hcz26_0 : wr.cell? ⟨gb192, 0, none⟩ = some (.slice A0_0 l0_0.length c0_0) := (blk_cell BK192.out 0).trans rfl; have hcz26_1 : wr.cell? ⟨gb192, 1, none⟩ = some (.slice A0_1 l0_1.length c0_1) := (blk_cell BK192.out 1).trans rfl; have hfz26_0 := blk_frozen BK192.out 0; have hfz26_1 := blk_frozen BK192.out 1
    go_wp2_with (first | ((with_reducible refine gate_callee (f := 83) rfl ?_); refine goesL_ (some 40) rfl rfl Try.func83 (by kernel_rfl) rfl #[.slice A0_0 l0_0.length c0_0, .slice Ao25 x5_1.length co25] rfl (by (try simp only [List.map_toArray, List.map_cons, List.map_nil]); first | done | rfl | (simp only [List.length_drop, List.length_take]; rfl)) ?_; (with_reducible refine (spec_l1Orbits.calls k1 _ _ l0_0 _ _ x5_1 t203 _ ?side1 ?side2 ?side3 ?side4 A24.out).mono ?_); (case side1 => exact cU (Kd.C_below HR0_0.out HB.out)); (case side2 => exact HC0_0.out); (case side3 => exact cU ((Kd.R_reads' HO_5.out).2.2)); (case side4 => exact (Kd.R_reads' HO_5.out).2.1); rintro e w27 ⟨v204, rfl, ho0, hb⟩; refine ⟨_, rfl, ?_⟩; have n0 := Az (Kd.R_elder' (rU HO_5.out) (Kd.R_base ho0) hb); have n1 := Az (Kd.R_elder' (rU HO_6.out) (Kd.R_base ho0) hb); have n2 := Az (Kd.R_lower (Kd.R_new' (Kd.R_new' ho0 (Kd.R_lt (rU HO_5.out))) (Kd.R_lt (rU HO_6.out))) (below_size (bU1 HB.out GE192.out))); have n3 := Az (blk_below (g := gb192) (o := .cells #[.slice A0_0 l0_0.length c0_0, .slice A0_1 l0_1.length c0_1] 27 (0, 0)) (kU BK192.out) hb); have n4 := Az (below_step (bU1 HB.out GE192.out) hb); clear HO_5 HO_6 BK192 HB; have HO_5 := n0; have HO_6 := n1; have HO205 := n2; have BK192 := n3; have HB := n4; clear n0 n1 n2 n3 n4; (try clear hb); (try clear hb2); (try clear hk); (try clear hi); (try clear ho0)))
    go_loopg [9, 10] k1 (fun kq v9 v10 w' => ∃ (x9_2 : Int) (x10_2 : Int), v9 = .int .i64 x9_2 ∧ v10 = .int .i64 x10_2 ∧ Aside0 (spec_l7Parts.l1 kq t203 x9_2 x10_2 = some r) ∧ Aside0 (kq ≤ k1) ∧ Aside0 (Kd.R (Kd.int .i64) 3 w' w.heap.size (fun _ => True) v204 t203) ∧ Aside0 (w'.heap[gb192]? = some (.cells #[(.slice A0_0 l0_0.length c0_0), (.slice A0_1 l0_1.length c0_1)] 27 (0, 0))) ∧ Aside0 (Below w.heap.size w w'))
    case atStart => exact ⟨(0), (0), rS, rS, H', ⟨Nat.le_refl _⟩, ⟨by (with_reducible repeat (first | apply Kd.R_alloc | apply Kd.R_drewN | apply Kd.R_drew)); exact Kd.R_mono HO205.out (fun _ hk => trivial)⟩, ⟨kU BK192.out⟩, ⟨bU1 HB.out GE192.out⟩⟩
    case round =>
     clear H'; (try clear c1); (try clear p1); (try clear q1); (try clear hx1); (try clear p2); (try clear q2); (try clear hx2); (try clear c5); (try clear p6); (try clear c7); (try clear c8); (try clear c9); (try clear c10); (try clear c10b0); (try clear c11); (try clear c11b0); (try clear c12); (try clear c12b0); (try clear c14); (try clear c15); (try clear c15b0); (try clear p16); (try clear q16); (try clear hx16); (try clear hf16); (try clear p19); (try clear q19); (try clear hx19); (try clear p20); (try clear q20); (try clear hx20); (try clear hcz19_0); (try clear hcz19_1); (try clear hcz26_0); (try clear hcz26_1); (try clear hcz6_0); (try clear hcz6_1); (try clear hcz8_0); (try clear hcz8_1); (try clear hfz19_0); (try clear hfz19_1); (try clear hfz26_0); (try clear hfz26_1); (try clear hfz6_0); (try clear hfz6_1); (try clear hfz8_0); (try clear hfz8_1); (try clear hx16_0); (try clear hx199_0); (try clear hx201_0); (try clear p16); (try clear p199); (try clear p2); (try clear p201); (try clear q16); (try clear q199); (try clear q201); obtain ⟨x9_2, x10_2, rfl, rfl, HA, HK2, HO_8, BK192, HB⟩ := hrel
     cases gk with
     | zero => exact absurd HA.out (by simp [spec_l7Parts.l1])
     | succ k2 =>
      have H := HA.out; clear HA; simp only [spec_l7Parts.l1] at H
      by_cases c28 : x10_2 < (t203.length : Int)
      ·
       rw [if_pos c28] at H; have c28b0 := decide_eq_true c28; clear c28
       by_cases c29 : 0 ≤ x10_2
       ·
        rw [if_pos c29] at H; have c29b0 := decide_eq_true c29; clear c29
        by_cases c30 : (rd t203 x10_2) = x10_2
        ·
         rw [if_pos c30] at H; have c30b0 := beq_iff_eq.mpr c30; have c30b1 := bne_eq_false_iff_eq.mpr c30; clear c30; have H' := Az H; clear H; obtain ⟨Ao31, co31, eo31⟩ := Kd.R_slice HO_8.out; subst eo31; have p206 : 0 ≤ (x10_2 : Int) := oA; have q206 : x10_2 < (t203.length : Int) := oA; obtain ⟨ad206, e206, hx206_0⟩ := Kd.at_int (Kd.R_reads' HO_8.out).2.2 x10_2 p206 q206
         cases e206
         replace p206 := eq_true p206; replace q206 := eq_true q206
         go_wp2
         (first | go_roundg k2 | (refine Handed.intro k2 ?measure ?_; rotate_left; go_step; (try simp only [add_plain]); (repeat apply Exists.intro); refine ⟨?rel, rfl⟩))
         case measure => have := HK1.out; have := HK2.out; omega
         case rel => exact ⟨(wrap64 (x9_2 + 1)), (wrap64 (x10_2 + 1)), rS, rS, H', ⟨by have := HK1.out; have := HK2.out; omega⟩, ⟨rU HO_8.out⟩, ⟨kU BK192.out⟩, ⟨bU1 HB.out GE192.out⟩⟩
        ·
         rw [if_neg c30] at H; have c30b0 := beq_eq_false_iff_ne.mpr c30; have c30b1 := bne_iff_ne.mpr c30; have H' := Az H; clear H; obtain ⟨Ao32, co32, eo32⟩ := Kd.R_slice HO_8.out; subst eo32; have p206 : 0 ≤ (x10_2 : Int) := oA; have q206 : x10_2 < (t203.length : Int) := oA; obtain ⟨ad206, e206, hx206_0⟩ := Kd.at_int (Kd.R_reads' HO_8.out).2.2 x10_2 p206 q206
         cases e206
         replace p206 := eq_true p206; replace q206 := eq_true q206
         go_wp2
         (first | go_roundg k2 | (refine Handed.intro k2 ?measure ?_; rotate_left; go_step; (try simp only [add_plain]); (repeat apply Exists.intro); refine ⟨?rel, rfl⟩))
         case measure => have := HK1.out; have := HK2.out; omega
         case rel => exact ⟨(x9_2), (wrap64 (x10_2 + 1)), rS, rS, H', ⟨by have := HK1.out; have := HK2.out; omega⟩, ⟨rU HO_8.out⟩, ⟨kU BK192.out⟩, ⟨bU1 HB.out GE192.out⟩⟩
       ·
        rw [if_neg c29] at H
        exact absurd H (by simp)
      ·
       rw [if_neg c28] at H; have c28b0 := decide_eq_false c28; clear c28; obtain rfl := Option.some.inj H; obtain ⟨Ao33, co33, eo33⟩ := Kd.R_slice HO_8.out; subst eo33
       go_wp2
       go_ret
       exact ⟨rE, bU1 HB.out GE192.out⟩
end Go.Proofs.Ytcjmgkbbmahgcaa.PU
