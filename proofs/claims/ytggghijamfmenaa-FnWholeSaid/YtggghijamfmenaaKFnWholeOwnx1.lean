/- Whole factorizations have a genus: what FnWhole says holds of all codes. There are no conditions beside the given row's own. -/
import Derived.Test.YtggghijamfmenaaProg
import Derived.Below
import Derived.Deep.Draws
import Derived.Deep.AppendLies
import Derived.Maps.AppendAt
import Derived.OwnWalk
import Derived.Laws.BytesArg
import Derived.Laws.MakeOwn
import Derived.Laws.OwnMore
import Derived.Tactics
import Derived.Lib.ConvBytes
import Derived.Laws.Slices
import Derived.WalkKit
import Derived.KernelRfl
import Derived.RowKit3
import Derived.Deep.LoopGhost
import Derived.Deep.QuietTactic
import Derived.BigQuiet
import Derived.WideLaws
import Derived.Deep.DeepCutAuto
import Derived.Deep.CutBlock
import Derived.Deep.RegionHeld3
import Derived.Lib.AppendStr
import Derived.ArgAppend
import Derived.Laws.IdiomCopy
import Derived.OrdersHeld
import Derived.Laws.BitsLemmas
import Derived.RowKit
import Derived.Laws.RangeAny
import Derived.Laws.RangeString
import Derived.Shelf.Sort.Plain
import Derived.Sort.OwnSortedInts
import Derived.ProofKit
import Derived.OpenShut
import Derived.ShutString
import Derived.ChangeOld
import Derived.SizedLaws
import Derived.Test.YtggghijamfmenaaKWHWWords
import Derived.Test.YtggghijamfmenaaKWHWLast
import Derived.Test.YtggghijamfmenaaKWHWTab
import Derived.Test.YtggghijamfmenaaKWHWFour
import Derived.Test.YtggghijamfmenaaKWHWApart
import Derived.Test.YtggghijamfmenaaKWHWFoot
import Derived.Test.YtggghijamfmenaaKWHWKept
import Derived.Test.YtggghijamfmenaaKWHWShare
import Derived.Test.YtggghijamfmenaaKWHWN
import Derived.Test.YtggghijamfmenaaKWHWAt
import Derived.Test.YtggghijamfmenaaKWHWRepsOne
import Derived.Test.YtggghijamfmenaaKWHWNEv
import Derived.Test.YtggghijamfmenaaKWHWMore
import Derived.Test.YtggghijamfmenaaKWHWSized
import Derived.Deep.OwnRows
import Derived.Laws.Rows
import Derived.Test.YtggghijamfmenaaRows
namespace Go.Proofs.Ytggghijamfmenaa.PM
open Go.RowKit Go.Proofs.YtggghijamfmenaaW.PrintWords Go.Proofs.YtggghijamfmenaaW.PrintLast Go.Proofs.YtggghijamfmenaaW.PrintMore
theorem oA {p : Prop} [Decidable p] (h : decide p = true := by first | (with_reducible assumption) | assumption) : p := of_decide_eq_true h
theorem rS {p : Prop} (h : p := by first | rfl | (simp; done) | (simp [*]; done)) : p := h
theorem rE {p : Prop} (h : p := by first | rfl | (simp [errW_none, errW_some] <;> rfl) | (simp [*, errW_none, errW_some] <;> rfl)) : p := h
theorem Az {p : Prop} (h : p) : Aside0 p := Aside0.mk h
theorem rU {p q : Prop} (h : q) (f : q → p := by intro h; (with_reducible repeat (first | apply Kd.R_alloc | apply Kd.R_drewN | apply Kd.R_drew)); exact h) : p := f h
theorem sU {p q : Prop} (h : q) (f : q → p := by intro h; (with_reducible repeat (first | apply Kd.S_alloc | apply Kd.S_drewN | apply Kd.S_drew)); exact h) : p := f h
theorem vU {p q : Prop} (h : q) (f : q → p := by intro h; (with_reducible repeat (first | apply Kd.V_alloc | apply Kd.V_drewN | apply Kd.V_drew)); exact h) : p := f h
theorem nU {p q : Prop} (h : q) (f : q → p := by intro h; (with_reducible repeat (first | apply Kd.N_alloc | apply Kd.N_drewN | apply Kd.N_drew)); exact h) : p := f h
theorem qU {p q : Prop} (h : q) (f : q → p := by intro h; (with_reducible repeat (first | apply Kd.Q_alloc | apply Kd.Q_drewN | apply Kd.Q_drew)); exact h) : p := f h
theorem kU {p q : Prop} (h : q) (f : q → p := by intro h; (with_reducible repeat (first | refine blk_drewN ?_ _ | refine blk_drew ?_ | refine blk_alloc ?_ _)); exact h) : p := f h
theorem cU {p q : Prop} (h : q) (f : q → p := by intro h; repeat (first | exact h | (with_reducible refine Kd.C_alloc ?_ _) | (with_reducible refine Kd.C_drewN ?_ _) | (with_reducible refine Kd.C_drew ?_))) : p := f h
theorem bU0 {p q : Prop} (h : q) (f : q → p := by intro h; repeat (first | (with_reducible first | exact h | apply below_alloc | apply pw_below_drewN | apply below_drew1) | exact h)) : p := f h
theorem bU1 {p q a0 : Prop} (h : q) (g0 : a0) (f : q → a0 → p := by intro h g0; repeat (first | (with_reducible first | exact h | apply below_alloc | apply pw_below_drewN | apply below_drew1 | refine below_set ?_ g0) | exact h)) : p := f h g0
theorem bU2 {p q a0 a1 : Prop} (h : q) (g0 : a0) (g1 : a1) (f : q → a0 → a1 → p := by intro h g0 g1; repeat (first | (with_reducible first | exact h | apply below_alloc | apply pw_below_drewN | apply below_drew1 | refine below_set ?_ g0 | refine below_set ?_ g1) | exact h)) : p := f h g0 g1
theorem bU3 {p q a0 a1 a2 : Prop} (h : q) (g0 : a0) (g1 : a1) (g2 : a2) (f : q → a0 → a1 → a2 → p := by intro h g0 g1 g2; repeat (first | (with_reducible first | exact h | apply below_alloc | apply pw_below_drewN | apply below_drew1 | refine below_set ?_ g0 | refine below_set ?_ g1 | refine below_set ?_ g2) | exact h)) : p := f h g0 g1 g2
theorem bU4 {p q a0 a1 a2 a3 : Prop} (h : q) (g0 : a0) (g1 : a1) (g2 : a2) (g3 : a3) (f : q → a0 → a1 → a2 → a3 → p := by intro h g0 g1 g2 g3; repeat (first | (with_reducible first | exact h | apply below_alloc | apply pw_below_drewN | apply below_drew1 | refine below_set ?_ g0 | refine below_set ?_ g1 | refine below_set ?_ g2 | refine below_set ?_ g3) | exact h)) : p := f h g0 g1 g2 g3
theorem bU5 {p q a0 a1 a2 a3 a4 : Prop} (h : q) (g0 : a0) (g1 : a1) (g2 : a2) (g3 : a3) (g4 : a4) (f : q → a0 → a1 → a2 → a3 → a4 → p := by intro h g0 g1 g2 g3 g4; repeat (first | (with_reducible first | exact h | apply below_alloc | apply pw_below_drewN | apply below_drew1 | refine below_set ?_ g0 | refine below_set ?_ g1 | refine below_set ?_ g2 | refine below_set ?_ g3 | refine below_set ?_ g4) | exact h)) : p := f h g0 g1 g2 g3 g4
theorem hR {α : Type} {a b : α} {p q : Prop} (e : a = b) (h : q) (f : a = b → q → p := by intro e H; first | (rw [e]; with_reducible exact H) | (have H2_ := (Option.bind_some _ _).symm.trans H; rw [e]; with_reducible exact H2_) | (have H2_ := (Option.bind_some _ _).symm.trans H; with_reducible exact H2_) | with_reducible exact H | (rw [e]; exact H) | exact H) : p := f e h
attribute [local go_sem] max2_int min2_int max_two min_two max_three min_three max_four min_four   -- for this text's walks alone
set_option linter.unusedVariables false
set_option linter.unusedSimpArgs false
def errW : Option Int → Value
 | none => .nilIface
 | some c => .iface 0 (.int .i64 c)
theorem errW_none : errW none = .nilIface := rfl
theorem errW_some (c : Int) : errW (some c) = .iface 0 (.int .i64 c) := rfl
theorem info3 : (Try.prog.info? 3).map (fun i => (i.zero, i.size, i.bytes)) = some (some (.int .i64 0), 1, 8) := by kernel_rfl
theorem info4 : (Try.prog.info? 4).map (fun i => (i.zero, i.size, i.bytes)) = some (some (.bool false), 1, 1) := by kernel_rfl
theorem info5 : (Try.prog.info? 5).map (fun i => (i.zero, i.size, i.bytes)) = some (some (.int .u8 0), 1, 1) := by kernel_rfl
theorem info23 : (Try.prog.info? 23).map (fun i => (i.zero, i.size, i.bytes)) = some (some (.slice none 0 0), 1, 24) := by kernel_rfl
def rd_L1 (xs : List (List Int)) (i : Int) : (List Int) := xs.getD i.toNat ([] : List Int)
theorem at_L1 {w : World} {A : Option Addr} {n : Nat} {xs : List (List Int)} (h : Kd.C (Kd.slice 3 (Kd.int .i64)) w A n xs) (i : Int) (h0 : 0 ≤ i) (h1 : i < n) : ∃ ad A0 c0, A = some ad ∧ w.cell? (ad.add i.toNat) = some (.slice A0 (rd_L1 xs i).length c0) ∧ (rd_L1 xs i).length ≤ c0 ∧ (Kd.int .i64).C w A0 (rd_L1 xs i).length (rd_L1 xs i) := by
 obtain ⟨ad, c, e, _, hK, hc0⟩ := Kd.C_get h ([] : List Int) i h0 h1; have hc : ∀ j u, c[j]? = some u → w.cell? (ad.add (i.toNat * 1 + j)) = some u := hc0; obtain ⟨A0, c0, rfl, l0, g0⟩ := hK
 exact ⟨ad, A0, c0, e, by have hq := hc 0 _ rfl; rwa [Nat.mul_one, Nat.add_zero] at hq, l0, g0⟩
end Go.Proofs.Ytggghijamfmenaa.PM

namespace Go.Proofs.Ytggghijamfmenaa.PM
open Go.RowKit Go.Proofs.YtggghijamfmenaaW.PrintWords Go.Proofs.YtggghijamfmenaaW.PrintLast Go.Proofs.YtggghijamfmenaaW.PrintMore
attribute [local go_sem] max2_int min2_int max_two min_two max_three min_three max_four min_four   -- for this text's walks alone
set_option linter.unusedVariables false
set_option linter.unusedSimpArgs false
def slices_Clone_int_int.f (l0 : List Int) : Option (List Int) := if l0.length < 17592186044416 then some l0 else none
set_option maxHeartbeats 8000000 in
set_option maxRecDepth 100000 in
theorem slices_Clone_int_int.calls (A0 : Option Addr) (c0 : Nat) (l0 : List Int) (r : List Int) (w : World) (hr0 : Kd.C (Kd.int .i64) w A0 l0.length l0) (hc0 : l0.length ≤ c0) (h : slices_Clone_int_int.f l0 = some r) :
  Calls Try.prog 68 #[.slice A0 l0.length c0] w fun e w' => ∃ v0_ : Value, e = .returned (v0_) ∧ Kd.R (Kd.int .i64) 3 w' w.heap.size (fun _ => True) v0_ r ∧ Below w.heap.size w w' := by
 have HR0 := Az hr0; have HC0 := Az hc0
 have hnil : A0 = none → l0 = [] := by
  intro e
  have h' := Kd.reads_of_C (d := (0 : Int)) hr0
  by_cases hn : 0 < l0.length
  ·
   obtain ⟨ad, e2, _⟩ := h'.2.2 hn; rw [e] at e2
   cases e2
  ·
   exact List.eq_nil_of_length_eq_zero (by omega)
 clear hr0 hc0; have HB := Az (Below.refl w.heap.size w)
 unfold slices_Clone_int_int.f at h
 by_cases c2 : l0.length < 17592186044416
 ·
  rw [if_pos c2] at h; have LMc2 := Az c2; clear c2; obtain rfl := Option.some.inj h; clear h
  cases A0 with
  | none =>
   obtain rfl := hnil rfl
   have he : ∀ w : World, (binOp .eql 23 (.slice none 0 c0) (.slice none 0 0)).run Try.prog w = .ok (.bool true) w := fun _ => rfl
   go_enter Try.func68, Try.ntmps68
   go_wp2
   go_ret
   exact ⟨_, rfl, Kd.R_nil _ _ _ _ _, HB.out⟩
  | some ad =>
   clear hnil
   have he : ∀ w : World, (binOp .eql 23 (.slice (some ad) l0.length c0) (.slice none 0 0)).run Try.prog w = .ok (.bool false) w := fun _ => rfl
   obtain ⟨y1, hy1⟩ : ∃ y_ : List Int, y_ = (([] : List Int)) := ⟨_, rfl⟩; obtain ⟨y2, hy2⟩ : ∃ y_ : List Int, y_ = (y1 ++ l0) := ⟨_, rfl⟩
   have e2 : y2 = l0 := by rw [hy2, hy1]; rfl
   have Ny1 := Az hy1; have Ny2 := Az hy2
   have hl1 : y1.length + l0.length < 17592186044416 := by rw [hy1]; have := LMc2.out; simpa using this
   have LMc3 := Az hl1; clear hy1 hy2 hl1
   go_enter Try.func68, Try.ntmps68
   go_wp2_with (first | ((with_reducible refine gate_dst (N := 5) rfl ?_); refine Kd.R_lit (Kd.int .i64) _ 3 ?hg (N := 5) ?hd (xs := ([] : List Int)) (inner := []) (ok := fun _ => True) (okp := fun _ => True) ?hr ?hp (fun _ hk => hk) trivial (Below.refl _ _) (Nat.le_refl _) (by simp) ?_; (case hd => rfl); (case hg => rfl); (case hr => first | (go_simp; done) | (go_simp; rfl)); (case hp => exact (Reps.none _ _)); intro v189 w3 ho4 hb hg_ hnew_; clear hg_ hnew_; (first | rw [← Ny1.out] at ho4 | (simp only [Int.reduceToNat] at ho4; rw [← Ny1.out] at ho4)); have n0 := Az (Kd.R_lower ho4 (below_size (bU0 HB.out))); have n1 := Az (below_step (bU0 HB.out) hb); clear HB; have HO190 := n0; have HB := n1; clear n0 n1; clear hb ho4) | ((with_reducible refine gate_builtin (b := .append) (xs := #[.tmp 5, .tmp 6]) rfl ?_); at_builtin; refine Kd.R_append_rows (Kd.int .i64) (w0 := w) w.heap.size rfl (.tmp 5) (.tmp 6) 23 3 (.int .i64 0) 8 rfl Try.underlying23 info3 rfl (by decide) (by omega) v189 y1 l0 _ _ _ (fun _ => True) (fun _ => False) rfl rfl ?aO ?aR (fun _ _ h => h) (fun _ h => h.elim) ?aF ?aB ?aS ?aL ?_; (case aR => exact cU (Kd.C_below HR0.out HB.out)); (case aB => exact (bU0 HB.out)); (case aF => exact (fun _ _ => trivial)); (case aO => exact (rU HO190.out)); (case aS => exact (below_size (bU0 HB.out))); (case aL => have := LMc3.out; omega); intro v192 w5 ho hb hg hat; rw [← Ny2.out, e2] at ho; have n0 := Az (hb); have n1 := Az (ho); clear HB HO190; have HB := n0; have HO193 := n1; clear n0 n1; clear ho hb hg hat))
   go_ret
   exact ⟨_, rE, rU HO193.out, bU0 HB.out⟩
 ·
  rw [if_neg c2] at h
  cases h
def slices_Index_int_int.l0 : Nat → List Int → Int → Int → Int → Option (Int)
 | 0, _, _, _, _ => none
 | k + 1, x0, x1, x7, x8 => if x8 < x7 then (if 0 ≤ x8 then (if x8 < (x0.length : Int) then (if x1 = (rd x0 x8) then (some x8) else (slices_Index_int_int.l0 k x0 x1 x7 (wrap64 (x8 + 1)))) else (none)) else (none)) else (some (-1))
def slices_Index_int_int.f (k : Nat) (l0 : List Int) (a1 : Int) : Option (Int) := slices_Index_int_int.l0 k l0 a1 (l0.length : Int) 0
set_option maxHeartbeats 8000000 in
set_option maxRecDepth 100000 in
theorem slices_Index_int_int.calls (k : Nat) (A0 : Option Addr) (c0 : Nat) (l0 : List Int) (a1 : Int) (r : Int) (w : World) (hr0 : Kd.C (Kd.int .i64) w A0 l0.length l0) (hc0 : l0.length ≤ c0) (h : slices_Index_int_int.f k l0 a1 = some r) :
  Calls Try.prog 159 #[.slice A0 l0.length c0, .int .i64 a1] w fun e w' => e = .returned (.int .i64 r) ∧ Drawn0 w w' := by
 have HR0 := Az hr0; have HC0 := Az hc0; clear hr0 hc0; have H : (slices_Index_int_int.l0 k l0 a1 (l0.length : Int) 0) = some r := h; clear h; have H' := Az H; clear H
 go_enter Try.func159, Try.ntmps159
 go_wp2
 go_loopg [8] k (fun kq v8 w' => ∃ (x8_1 : Int), v8 = .int .i64 x8_1 ∧ Aside0 (slices_Index_int_int.l0 kq l0 a1 (l0.length : Int) x8_1 = some r) ∧ Aside0 (kq ≤ k) ∧ Drawn0 w w')
 case atStart => exact ⟨(0), rS, H', ⟨Nat.le_refl _⟩, by repeat (first | exact Drawn0.refl _ | apply Drawn0.step)⟩
 case round =>
  clear H'; (try clear c1); (try clear p2); obtain ⟨x8_1, rfl, HA, HK1, ⟨m1, rfl⟩⟩ := hrel
  cases gk with
  | zero => exact absurd HA.out (by simp [slices_Index_int_int.l0])
  | succ k1 =>
   have H := HA.out; clear HA; simp only [slices_Index_int_int.l0] at H
   by_cases c3 : x8_1 < (l0.length : Int)
   ·
    rw [if_pos c3] at H; have c3b0 := decide_eq_true c3; clear c3
    by_cases c4 : 0 ≤ x8_1
    ·
     rw [if_pos c4] at H; have c4b0 := decide_eq_true c4; clear c4
     by_cases c5 : x8_1 < (l0.length : Int)
     ·
      rw [if_pos c5] at H; have c5b0 := decide_eq_true c5; clear c5
      by_cases c6 : a1 = (rd l0 x8_1)
      ·
       rw [if_pos c6] at H; have c6b0 := beq_iff_eq.mpr c6; have c6b1 := bne_eq_false_iff_eq.mpr c6; clear c6; obtain rfl := Option.some.inj H; have p101 : 0 ≤ (x8_1 : Int) := oA; have q101 : x8_1 < (l0.length : Int) := oA; obtain ⟨ad101, e101, hx101_0⟩ := Kd.at_int HR0.out x8_1 p101 q101
       cases e101
       replace p101 := eq_true p101; replace q101 := eq_true q101
       go_wp2
       go_ret
       exact ⟨by first | rfl | (simp; done) | (simp [*]; done), by repeat (first | exact Drawn0.refl _ | apply Drawn0.step)⟩
      ·
       rw [if_neg c6] at H; have c6b0 := beq_eq_false_iff_ne.mpr c6; have c6b1 := bne_iff_ne.mpr c6; have H' := Az H; clear H; have p101 : 0 ≤ (x8_1 : Int) := oA; have q101 : x8_1 < (l0.length : Int) := oA; obtain ⟨ad101, e101, hx101_0⟩ := Kd.at_int HR0.out x8_1 p101 q101
       cases e101
       replace p101 := eq_true p101; replace q101 := eq_true q101
       go_wp2
       (first | go_roundg k1 | (refine Handed.intro k1 ?measure ?_; rotate_left; go_step; (try simp only [add_plain]); (repeat apply Exists.intro); refine ⟨?rel, rfl⟩))
       case measure => have := HK1.out; omega
       case rel => exact ⟨(wrap64 (x8_1 + 1)), rS, H', ⟨by have := HK1.out; omega⟩, by repeat (first | exact Drawn0.refl _ | apply Drawn0.step)⟩
     ·
      rw [if_neg c5] at H
      exact absurd H (by simp)
    ·
     rw [if_neg c4] at H
     exact absurd H (by simp)
   ·
    rw [if_neg c3] at H; have c3b0 := decide_eq_false c3; clear c3; obtain rfl := Option.some.inj H
    go_wp2
    go_ret
    exact ⟨by first | rfl | (simp; done) | (simp [*]; done), by repeat (first | exact Drawn0.refl _ | apply Drawn0.step)⟩
def slices_Contains_int_int.f (k : Nat) (l0 : List Int) (a1 : Int) : Option (Bool) := (slices_Index_int_int.f k l0 a1).bind fun t102 => (some (decide (t102 ≥ 0)))
set_option maxHeartbeats 8000000 in
set_option maxRecDepth 100000 in
theorem slices_Contains_int_int.calls (k : Nat) (A0 : Option Addr) (c0 : Nat) (l0 : List Int) (a1 : Int) (r : Bool) (w : World) (hr0 : Kd.C (Kd.int .i64) w A0 l0.length l0) (hc0 : l0.length ≤ c0) (h : slices_Contains_int_int.f k l0 a1 = some r) :
  Calls Try.prog 147 #[.slice A0 l0.length c0, .int .i64 a1] w fun e w' => e = .returned (.bool r) ∧ Drawn0 w w' := by
 have HR0 := Az hr0; have HC0 := Az hc0; clear hr0 hc0; have H : ((slices_Index_int_int.f k l0 a1).bind fun t102 => (some (decide (t102 ≥ 0)))) = some r := h; clear h; replace H := Option.bind_eq_some_iff.mp H; obtain ⟨t102, A30, H⟩ := H; replace H : (some (decide (t102 ≥ 0))) = some r := H; have A3 := Az A30; clear A30; obtain rfl := Option.some.inj H
 go_enter Try.func147, Try.ntmps147
 go_wp2_with (first | ((with_reducible refine gate_callee (f := 159) rfl ?_); refine goesL_ (some 7) rfl rfl Try.func159 (by kernel_rfl) rfl #[.slice A0 l0.length c0, .int .i64 a1] rfl (by (try simp only [List.map_toArray, List.map_cons, List.map_nil]); first | done | rfl | (simp only [List.length_drop, List.length_take]; rfl)) ?_; (with_reducible refine (slices_Index_int_int.calls k _ _ l0 a1 t102 _ ?side1 ?side2 A3.out).mono ?_); (case side1 => exact cU (HR0.out)); (case side2 => exact HC0.out); rintro e w' ⟨rfl, ⟨nd, rfl⟩⟩; refine ⟨_, rfl, ?_⟩))
 go_ret
 exact ⟨by first | rfl | (simp; done) | (simp [*]; done), by repeat (first | exact Drawn0.refl _ | apply Drawn0.step)⟩
mutual
def impl_cyclesOf.l0 : Nat → List Int → List (List Int) → List Bool → Int → Int → Option ((List (List Int)))
 | 0, _, _, _, _, _ => none
 | k + 1, x0, x3, x4, x13, x14 => if x14 < x13 then (impl_cyclesOf.l1 k x0 x3 x4 (([] : List Int)) x14 x13 x14) else (some x3)
def impl_cyclesOf.l1 : Nat → List Int → List (List Int) → List Bool → List Int → Int → Int → Int → Option ((List (List Int)))
 | 0, _, _, _, _, _, _, _ => none
 | k + 1, x0, x3, x4, x6, x7, x13, x14 => if 0 ≤ x7 then (if x7 < (x4.length : Int) then (if rdOf false x4 x7 = true then (if (x6.length : Int) > 0 then (if x3.length < 5864062014805 then (impl_cyclesOf.l0 k x0 (x3 ++ [x6]) x4 x13 (wrap64 (x14 + 1))) else (none)) else (impl_cyclesOf.l0 k x0 x3 x4 x13 (wrap64 (x14 + 1)))) else (if x6.length < 17592186044416 then (if x7 < (x0.length : Int) then (impl_cyclesOf.l1 k x0 x3 (x4.set (x7 : Int).toNat true) (x6 ++ [x7]) (rd x0 x7) x13 x14) else (none)) else (none))) else (none)) else (none)
end
def impl_cyclesOf.f (k : Nat) (l0 : List Int) : Option ((List (List Int))) := if 0 ≤ (l0.length : Int) then (if ((l0.length : Int) : Int).toNat ≤ 281474976710656 then (impl_cyclesOf.l0 k l0 (([] : List (List Int))) (List.replicate ((l0.length : Int) : Int).toNat false) (l0.length : Int) 0) else (none)) else (none)
set_option maxHeartbeats 8000000 in
set_option maxRecDepth 100000 in
theorem impl_cyclesOf.calls (k : Nat) (A0 : Option Addr) (c0 : Nat) (l0 : List Int) (r : List (List Int)) (w : World) (hr0 : Kd.C (Kd.int .i64) w A0 l0.length l0) (hc0 : l0.length ≤ c0) (h : impl_cyclesOf.f k l0 = some r) :
  Calls Try.prog 66 #[.slice A0 l0.length c0] w fun e w' => ∃ v0_ : Value, e = .returned (v0_) ∧ Kd.S (Kd.slice 3 (Kd.int .i64)) 23 w' w.heap.size (fun _ => True) v0_ r ∧ Below w.heap.size w w' := by
 have HR0 := Az hr0; have HC0 := Az hc0; clear hr0 hc0; have HB := Az (Below.refl w.heap.size w); have H : (if 0 ≤ (l0.length : Int) then (if ((l0.length : Int) : Int).toNat ≤ 281474976710656 then (impl_cyclesOf.l0 k l0 (([] : List (List Int))) (List.replicate ((l0.length : Int) : Int).toNat false) (l0.length : Int) 0) else (none)) else (none)) = some r := h; clear h; obtain ⟨y103, hy103⟩ : ∃ y_ : List (List Int), y_ = (([] : List (List Int))) := ⟨_, rfl⟩; replace H : (if 0 ≤ (l0.length : Int) then (if ((l0.length : Int) : Int).toNat ≤ 281474976710656 then (impl_cyclesOf.l0 k l0 y103 (List.replicate ((l0.length : Int) : Int).toNat false) (l0.length : Int) 0) else (none)) else (none)) = some r := hR hy103 H; have Ny103 := Az hy103; clear hy103
 by_cases c2 : 0 ≤ (l0.length : Int)
 ·
  rw [if_pos c2] at H; have c2b0 := eq_true c2; have c2b1 := decide_eq_true c2; clear c2
  by_cases c3 : ((l0.length : Int) : Int).toNat ≤ 281474976710656
  ·
   rw [if_pos c3] at H; have c3b0 := eq_true c3; have c3b1 := decide_eq_true c3; clear c3; obtain ⟨y106, hy106⟩ : ∃ y_ : List Bool, y_ = (List.replicate ((l0.length : Int) : Int).toNat false) := ⟨_, rfl⟩; replace H : (impl_cyclesOf.l0 k l0 y103 y106 (l0.length : Int) 0) = some r := hR hy106 H; have Ny106 := Az hy106; clear hy106; have H' := Az H; clear H
   go_enter Try.func66, Try.ntmps66
   go_wp2_with (first | ((with_reducible refine gate_dst (N := 8) rfl ?_); refine Kd.S_lit (Kd.slice 3 (Kd.int .i64)) _ 23 ?hg (N := 8) ?hd (xs := ([] : List (List Int))) (inner := []) (ok := fun _ => True) (okp := fun _ => True) ?hr ?hp (fun _ hk => hk) trivial (Below.refl _ _) (Nat.le_refl _) (by simp) ?_; (case hd => rfl); (case hg => rfl); (case hr => first | (go_simp; done) | (go_simp; rfl)); (case hp => exact (Reps.none _ _)); intro v104 w4 ho5 hb hg_ hnew_; clear hg_ hnew_; (first | rw [← Ny103.out] at ho5 | (simp only [Int.reduceToNat] at ho5; rw [← Ny103.out] at ho5)); have n0 := Az (Kd.S_lower ho5 (below_size (bU0 HB.out))); have n1 := Az (below_step (bU0 HB.out) hb); clear HB; have HO105 := n0; have HB := n1; clear n0 n1; clear hb ho5) | ((with_reducible refine gate_dst (N := 11) rfl ?_); refine Kd.R_make Kd.bool _ 4 rfl (N := 11) rfl 92 _ _ rfl (l0.length : Int) rfl rfl Try.underlying92 (.bool false) 1 info4 rfl (by decide) (by omega) false (ok := fun _ => True) (okp := fun _ => True) rfl (fun _ hk => hk) trivial (oA) (Nat.le_trans (Nat.mul_le_mul_right _ (oA : (l0.length : Int).toNat ≤ 281474976710656)) (by omega)) (Below.refl _ _) (Nat.le_refl _) ?_; intro v107 w6 ho7 hb hg_ hnew_; clear hg_ hnew_; (first | rw [← Ny106.out] at ho7 | (simp only [Int.reduceToNat] at ho7; rw [← Ny106.out] at ho7)); have n0 := Az (Kd.S_below (sU HO105.out) hb); have n1 := Az (Kd.R_lower ho7 (below_size (bU0 HB.out))); have n2 := Az (below_step (bU0 HB.out) hb); clear HO105 HB; have HO105 := n0; have HO108 := n1; have HB := n2; clear n0 n1 n2; clear hb ho7))
   go_loopg [3, 14] k (fun kq v3 v14 w' => ∃ (x3_1 : List (List Int)) (x4_1 : List Bool) (x14_1 : Int), v14 = .int .i64 x14_1 ∧ Aside0 (impl_cyclesOf.l0 kq l0 x3_1 x4_1 (l0.length : Int) x14_1 = some r) ∧ Aside0 (kq ≤ k) ∧ Aside0 (Kd.S (Kd.slice 3 (Kd.int .i64)) 23 w' w.heap.size (fun _ => True) v3 x3_1) ∧ Aside0 (Kd.R Kd.bool 4 w' w.heap.size (fun _ => True) v107 x4_1) ∧ Aside0 (Below w.heap.size w w'))
   case atStart => exact ⟨(y103), (y106), (0), rS, H', ⟨Nat.le_refl _⟩, ⟨sU HO105.out⟩, ⟨rU HO108.out⟩, ⟨bU0 HB.out⟩⟩
   case round =>
    clear H'; (try clear c2); (try clear c2b0); (try clear c2b1); (try clear p2); (try clear c3); (try clear c3b0); (try clear c3b1); (try clear c6); obtain ⟨x3_1, x4_1, x14_1, rfl, HA, HK1, HO_3, HO_4, HB⟩ := hrel
    cases gk with
    | zero => exact absurd HA.out (by simp [impl_cyclesOf.l0])
    | succ k1 =>
     have H := HA.out; clear HA; simp only [impl_cyclesOf.l0] at H
     by_cases c8 : x14_1 < (l0.length : Int)
     ·
      rw [if_pos c8] at H; have c8b0 := decide_eq_true c8; clear c8; obtain ⟨y109, hy109⟩ : ∃ y_ : List Int, y_ = (([] : List Int)) := ⟨_, rfl⟩; replace H : (impl_cyclesOf.l1 k1 l0 x3_1 x4_1 y109 x14_1 (l0.length : Int) x14_1) = some r := hR hy109 H; have Ny109 := Az hy109; clear hy109; have H' := Az H; clear H
      go_wp2_with (first | ((with_reducible refine gate_dst (N := 17) rfl ?_); refine Kd.R_lit (Kd.int .i64) _ 3 ?hg (N := 17) ?hd (xs := ([] : List Int)) (inner := []) (ok := fun _ => True) (okp := fun _ => True) ?hr ?hp (fun _ hk => hk) trivial (Below.refl _ _) (Nat.le_refl _) (by simp) ?_; (case hd => rfl); (case hg => rfl); (case hr => first | (go_simp; done) | (go_simp; rfl)); (case hp => exact (Reps.none _ _)); intro v110 w9 ho10 hb hg_ hnew_; clear hg_ hnew_; (first | rw [← Ny109.out] at ho10 | (simp only [Int.reduceToNat] at ho10; rw [← Ny109.out] at ho10)); have n0 := Az (Kd.S_elder' (sU HO_3.out) (Kd.R_base ho10) hb); have n1 := Az (Kd.R_below (rU HO_4.out) hb); have n2 := Az (Kd.R_lower ho10 (below_size (bU0 HB.out))); have n3 := Az (below_step (bU0 HB.out) hb); clear HO_3 HO_4 HB; have HO_3 := n0; have HO_4 := n1; have HO111 := n2; have HB := n3; clear n0 n1 n2 n3; clear hb ho10))
      go_loopg [6, 7] k1 (fun kq v6 v7 w' => ∃ (x4_2 : List Bool) (x6_2 : List Int) (x7_2 : Int), v7 = .int .i64 x7_2 ∧ Aside0 (impl_cyclesOf.l1 kq l0 x3_1 x4_2 x6_2 x7_2 (l0.length : Int) x14_1 = some r) ∧ Aside0 (kq ≤ k1) ∧ Aside0 (Kd.S (Kd.slice 3 (Kd.int .i64)) 23 w' w.heap.size (fun k_ => some k_ ≠ (v6 : Value).ownBlock) u3 x3_1) ∧ Aside0 (Kd.R Kd.bool 4 w' w.heap.size (fun _ => True) v107 x4_2) ∧ Aside0 (Kd.R (Kd.int .i64) 3 w' w.heap.size (fun _ => True) v6 x6_2) ∧ Aside0 (Below w.heap.size w w'))
      case atStart => exact ⟨(x4_1), (y109), (x14_1), rS, H', ⟨Nat.le_refl _⟩, ⟨by (with_reducible repeat (first | apply Kd.S_alloc | apply Kd.S_drewN | apply Kd.S_drew)); exact Kd.S_mono HO_3.out (fun _ hk => hk.2)⟩, ⟨rU HO_4.out⟩, ⟨rU HO111.out⟩, ⟨bU0 HB.out⟩⟩
      case round =>
       clear H'; (try clear c2); (try clear c2b0); (try clear c2b1); (try clear p2); (try clear c3); (try clear c3b0); (try clear c3b1); (try clear c6); (try clear c8); (try clear c8b0); (try clear p2); obtain ⟨x4_2, x6_2, x7_2, rfl, HA, HK2, HO_3, HO_4, HO_6, HB⟩ := hrel
       cases gk with
       | zero => exact absurd HA.out (by simp [impl_cyclesOf.l1])
       | succ k2 =>
        have H := HA.out; clear HA; simp only [impl_cyclesOf.l1] at H
        by_cases c11 : 0 ≤ x7_2
        ·
         rw [if_pos c11] at H; have c11b0 := decide_eq_true c11; clear c11
         by_cases c12 : x7_2 < (x4_2.length : Int)
         ·
          rw [if_pos c12] at H; have c12b0 := decide_eq_true c12; clear c12; obtain ⟨bq13, hbq13⟩ : ∃ b_ : Bool, b_ = (rdOf false x4_2 x7_2) := ⟨_, rfl⟩
          replace H : (if bq13 = true then (if (x6_2.length : Int) > 0 then (if x3_1.length < 5864062014805 then (impl_cyclesOf.l0 k2 l0 (x3_1 ++ [x6_2]) x4_2 (l0.length : Int) (wrap64 (x14_1 + 1))) else (none)) else (impl_cyclesOf.l0 k2 l0 x3_1 x4_2 (l0.length : Int) (wrap64 (x14_1 + 1)))) else (if x6_2.length < 17592186044416 then (if x7_2 < (l0.length : Int) then (impl_cyclesOf.l1 k2 l0 x3_1 (x4_2.set (x7_2 : Int).toNat true) (x6_2 ++ [x7_2]) (rd l0 x7_2) (l0.length : Int) x14_1) else (none)) else (none))) = some r := by rw [← hbq13] at H; exact H
          have Nbq13 := Az hbq13; clear hbq13
          by_cases c14 : bq13 = true
          ·
           subst c14
           have H1 : (if (x6_2.length : Int) > 0 then (if x3_1.length < 5864062014805 then (impl_cyclesOf.l0 k2 l0 (x3_1 ++ [x6_2]) x4_2 (l0.length : Int) (wrap64 (x14_1 + 1))) else (none)) else (impl_cyclesOf.l0 k2 l0 x3_1 x4_2 (l0.length : Int) (wrap64 (x14_1 + 1)))) = some r := by rw [if_pos rfl] at H; exact H
           clear H; have H := H1; clear H1
           by_cases c15 : (x6_2.length : Int) > 0
           ·
            rw [if_pos c15] at H; have c15b0 := decide_eq_true c15; have c15b1 : decide (0 < x6_2.length) = true := decide_eq_true (by omega); clear c15
            by_cases c16 : x3_1.length < 5864062014805
            ·
             rw [if_pos c16] at H; have LMc16 := Az c16; clear c16; obtain ⟨y113, hy113⟩ : ∃ y_ : List (List Int), y_ = (x3_1 ++ [x6_2]) := ⟨_, rfl⟩; replace H : (impl_cyclesOf.l0 k2 l0 y113 x4_2 (l0.length : Int) (wrap64 (x14_1 + 1))) = some r := hR hy113 H; have Ny113 := Az hy113; clear hy113; have H' := Az H; clear H; obtain ⟨Ao17, co17, eo17⟩ := Kd.R_slice HO_4.out; subst eo17; have p112 : 0 ≤ (x7_2 : Int) := oA; have q112 : x7_2 < (x4_2.length : Int) := oA; obtain ⟨ad112, e112, hx112_0⟩ := Kd.at_bool (Kd.R_reads' HO_4.out).2.2 x7_2 p112 q112; (try rw [← Nbq13.out] at hx112_0)
             cases e112
             replace p112 := eq_true p112; replace q112 := eq_true q112; obtain ⟨Ao18, co18, eo18⟩ := Kd.R_slice HO_6.out; subst eo18
             go_wp2_with (first | ((with_reducible refine gate_builtin (b := .append) (xs := #[.tmp 38, .tmp 40]) rfl ?_); at_builtin; refine Kd.S_append (Kd.slice 3 (Kd.int .i64)) (w0 := w) w.heap.size rfl (.tmp 38) (.tmp 40) 45 23 (.slice none 0 0) 24 rfl Try.underlying45 info23 rfl (by decide) (by omega) u3 x3_1 x6_2 [.slice Ao18 x6_2.length co18] (fun _ => True) (fun k_ => some k_ = (.slice Ao18 x6_2.length co18 : Value).ownBlock) rfl rfl ?aP (fun k_ hk_ => ((Kd.R_mono (ok' := fun k_ => ((fun _ => True)) k_ ∧ some k_ ≠ (u3 : Value).ownBlock) (Kd.R_apart' (HO_6.out) (Kd.S_typed HO_3.out) (by decide)) (fun k_ hk => ⟨trivial, hk.2⟩))).1 k_ hk_.symm) ?aF ?aO ?aB ?aS ?aL ?_; (case aP => exact Kd.M_row (Kd.R_mono (Kd.R_tight rfl (Kd.R_mono (ok' := fun k_ => ((fun _ => True)) k_ ∧ some k_ ≠ (u3 : Value).ownBlock) (Kd.R_apart' (HO_6.out) (Kd.S_typed HO_3.out) (by decide)) (fun k_ hk => ⟨trivial, hk.2⟩))) (fun _ h_ => h_))); (case aB => exact (bU0 HB.out)); (case aF => exact (fun _ _ => trivial)); (case aO => exact (by (with_reducible repeat (first | apply Kd.S_alloc | apply Kd.S_drewN | apply Kd.S_drew)); exact Kd.S_mono HO_3.out (fun k_ hk => ⟨trivial, fun e_ => hk e_⟩))); (case aS => exact (below_size (bU0 HB.out))); (case aL => have := LMc16.out; omega); intro v114 w19 ho hb hg hat; rw [← Ny113.out] at ho; have n0 := Az (Kd.R_over' (rU HO_4.out) (Kd.S_typed (sU HO_3.out)) (by decide) hg); have n1 := Az (hb); have n2 := Az (ho); clear HO_4 HB HO_3 HO_6; have HO_4 := n0; have HB := n1; have HO115 := n2; clear n0 n1 n2; clear ho hb hg hat))
             (first | go_roundg k2 | (refine Handed.intro k2 ?measure ?_; rotate_left; go_step; (try simp only [add_plain]); (repeat apply Exists.intro); refine ⟨?rel, rfl⟩))
             case measure => have := HK1.out; have := HK2.out; omega
             case rel => exact ⟨(y113), (x4_2), (wrap64 (x14_1 + 1)), rS, H', ⟨by have := HK1.out; have := HK2.out; omega⟩, ⟨sU HO115.out⟩, ⟨rU HO_4.out⟩, ⟨bU0 HB.out⟩⟩
            ·
             rw [if_neg c16] at H
             exact absurd H (by simp)
           ·
            rw [if_neg c15] at H; have c15b0 := decide_eq_false c15; have c15b1 : decide (0 < x6_2.length) = false := decide_eq_false (by omega); clear c15; have H' := Az H; clear H; obtain ⟨Ao20, co20, eo20⟩ := Kd.R_slice HO_4.out; subst eo20; have p112 : 0 ≤ (x7_2 : Int) := oA; have q112 : x7_2 < (x4_2.length : Int) := oA; obtain ⟨ad112, e112, hx112_0⟩ := Kd.at_bool (Kd.R_reads' HO_4.out).2.2 x7_2 p112 q112; (try rw [← Nbq13.out] at hx112_0)
            cases e112
            replace p112 := eq_true p112; replace q112 := eq_true q112; obtain ⟨Ao21, co21, eo21⟩ := Kd.R_slice HO_6.out; subst eo21
            go_wp2
            (first | go_roundg k2 | (refine Handed.intro k2 ?measure ?_; rotate_left; go_step; (try simp only [add_plain]); (repeat apply Exists.intro); refine ⟨?rel, rfl⟩))
            case measure => have := HK1.out; have := HK2.out; omega
            case rel => exact ⟨(x3_1), (x4_2), (wrap64 (x14_1 + 1)), rS, H', ⟨by have := HK1.out; have := HK2.out; omega⟩, ⟨by (with_reducible repeat (first | apply Kd.S_alloc | apply Kd.S_drewN | apply Kd.S_drew)); exact Kd.S_mono HO_3.out (fun _ hk => trivial)⟩, ⟨rU HO_4.out⟩, ⟨bU0 HB.out⟩⟩
          ·
           replace c14 := Bool.eq_false_iff.mpr c14; subst c14
           have H1 : (if x6_2.length < 17592186044416 then (if x7_2 < (l0.length : Int) then (impl_cyclesOf.l1 k2 l0 x3_1 (x4_2.set (x7_2 : Int).toNat true) (x6_2 ++ [x7_2]) (rd l0 x7_2) (l0.length : Int) x14_1) else (none)) else (none)) = some r := by rw [if_neg (show ¬ (false = true) by decide)] at H; exact H
           clear H; have H := H1; clear H1; obtain ⟨y116, hy116⟩ : ∃ y_ : List Bool, y_ = (x4_2.set (x7_2 : Int).toNat true) := ⟨_, rfl⟩; replace H : (if x6_2.length < 17592186044416 then (if x7_2 < (l0.length : Int) then (impl_cyclesOf.l1 k2 l0 x3_1 y116 (x6_2 ++ [x7_2]) (rd l0 x7_2) (l0.length : Int) x14_1) else (none)) else (none)) = some r := hR hy116 H; have Ny116 := Az hy116; clear hy116
           by_cases c23 : x6_2.length < 17592186044416
           ·
            rw [if_pos c23] at H; have LMc23 := Az c23; clear c23; obtain ⟨y117, hy117⟩ : ∃ y_ : List Int, y_ = (x6_2 ++ [x7_2]) := ⟨_, rfl⟩; replace H : (if x7_2 < (l0.length : Int) then (impl_cyclesOf.l1 k2 l0 x3_1 y116 y117 (rd l0 x7_2) (l0.length : Int) x14_1) else (none)) = some r := hR hy117 H; have Ny117 := Az hy117; clear hy117
            by_cases c24 : x7_2 < (l0.length : Int)
            ·
             rw [if_pos c24] at H; have c24b0 := decide_eq_true c24; clear c24; have H' := Az H; clear H; obtain ⟨Ao25, co25, eo25⟩ := Kd.R_slice HO_4.out; subst eo25; have p112 : 0 ≤ (x7_2 : Int) := oA; have q112 : x7_2 < (x4_2.length : Int) := oA; obtain ⟨ad112, e112, hx112_0⟩ := Kd.at_bool (Kd.R_reads' HO_4.out).2.2 x7_2 p112 q112; (try rw [← Nbq13.out] at hx112_0)
             cases e112
             replace p112 := eq_true p112; replace q112 := eq_true q112; have p22 : 0 ≤ (x7_2 : Int) := oA; have q22 : (x7_2 : Int) < ((x4_2.length : Int) : Int) := oA; obtain ⟨go22, co22, eo22, gb22, gl22, cl22, HG22⟩ := Kd.R_form HO_4.out (by omega); (first | cases eo22 | (injection eo22 with ea_ en_ ec_; (first | subst ea_ | (injection ea_ with ea_; subst ea_)); subst ec_; clear en_)); have GB22 := Az gb22; have GG22 := Az HG22; clear gb22 gl22 HG22; (first | simp only [add_plain] at hx112_0 | skip); obtain ⟨hx22_0, hf22_0⟩ := Kd.R_celln false HO_4.out (x7_2 : Int) p22 q22; replace p22 := eq_true p22; replace q22 := eq_true q22; obtain ⟨hy26_, hz26_⟩ := Kd.R_celln false HO_4.out (x7_2 : Int) (oA) (oA); have HP26 := Kd.R_putg HO_4.out (x7_2 : Int) true
             go_wp2_with (first | ((with_reducible refine gate_store (t := 4) (p := 30) rfl ?_); refine store_event (t := 4) (p := 30) (v := ?vo_w27) (w1 := (wr.setCell ⟨go22, (x7_2 : Int).toNat, none⟩ (.bool true))) ?hg ?ho ?hn ?hr ?_; (case ho => rfl); (case hg => rfl); (case hn => rfl); (case hr => first | (go_simp; done) | (go_simp; rfl)); intro w27 hw; have hg : wr.grownBy w27 (some go22) := (by rw [hw]; exact HP26.2); have hp_ : Kd.R Kd.bool 4 w27 w.heap.size (fun _ => True) (.slice (some ⟨go22, 0, none⟩) x4_2.length co25) y116 := (by rw [hw, Ny116.out]; exact HP26.1); clear HP26; have n0 := Az (Kd.S_over' (v := (.slice (some ⟨go22, 0, none⟩) x4_2.length co25)) (sU HO_3.out) (Kd.R_typed HO_4.out) (by decide) hg); have n1 := Az (hp_); have n2 := Az (Kd.R_over' (v := (.slice (some ⟨go22, 0, none⟩) x4_2.length co25)) (rU HO_6.out) (Kd.R_typed HO_4.out) (by decide) hg); have n3 := Az ((by rw [hw]; exact below_set (HB.out) GB22.out : Below w.heap.size w w27)); clear HO_3 HO_4 HO_6 HB; have HO_3 := n0; have HO_4 := n1; have HO_6 := n2; have HB := n3; clear n0 n1 n2 n3; clear hg hw hp_) | ((with_reducible refine gate_builtin (b := .append) (xs := #[.tmp 31, .tmp 33]) rfl ?_); at_builtin; refine Kd.R_append (Kd.int .i64) (w0 := w) w.heap.size rfl (.tmp 31) (.tmp 33) 23 3 (.int .i64 0) 8 rfl Try.underlying23 info3 rfl (by decide) (by omega) u6 x6_2 x7_2 [.int .i64 x7_2] (fun _ => True) (fun _ => False) rfl rfl ?aP (fun _ hk => hk.elim) ?aF ?aO ?aB ?aS ?aL ?_; (case aP => exact rfl); (case aB => exact (bU0 HB.out)); (case aF => exact (fun _ _ => trivial)); (case aO => exact (rU HO_6.out)); (case aS => exact (below_size (bU0 HB.out))); (case aL => have := LMc23.out; omega); intro v118 w28 ho hb hg hat; rw [← Ny117.out] at ho; have n0 := Az (Kd.S_after (ok := (fun _ => True)) (by (with_reducible repeat (first | apply Kd.S_alloc | apply Kd.S_drewN | apply Kd.S_drew)); exact Kd.S_mono HO_3.out (fun _ hk => ⟨trivial, hk⟩)) hg hat); have n1 := Az (Kd.R_over' (rU HO_4.out) (Kd.R_typed (rU HO_6.out)) (by decide) hg); have n2 := Az (hb); have n3 := Az (ho); clear HO_3 HO_4 HB HO_6; have HO_3 := n0; have HO_4 := n1; have HB := n2; have HO119 := n3; clear n0 n1 n2 n3 ho hb hg hat; have p120 : 0 ≤ (x7_2 : Int) := oA; have q120 : x7_2 < (l0.length : Int) := oA; obtain ⟨ad120, e120, hx120_0⟩ := Kd.at_int HR0.out x7_2 p120 q120; cases e120; replace hx120_0 := (HB.out.cell (World.block_lt_of_cell? w _ hx120_0)).trans hx120_0; replace p120 := eq_true p120; replace q120 := eq_true q120))
             (first | go_roundg k2 | (refine Handed.intro k2 ?measure ?_; rotate_left; go_step; (try simp only [add_plain]); (repeat apply Exists.intro); refine ⟨?rel, rfl⟩))
             case measure => have := HK1.out; have := HK2.out; omega
             case rel => exact ⟨(y116), (y117), (rd l0 x7_2), rS, H', ⟨by have := HK1.out; have := HK2.out; omega⟩, ⟨by (with_reducible repeat (first | apply Kd.S_alloc | apply Kd.S_drewN | apply Kd.S_drew)); exact Kd.S_mono HO_3.out (fun _ hk => hk.2)⟩, ⟨rU HO_4.out⟩, ⟨rU HO119.out⟩, ⟨bU0 HB.out⟩⟩
            ·
             rw [if_neg c24] at H
             exact absurd H (by simp)
           ·
            rw [if_neg c23] at H
            exact absurd H (by simp)
         ·
          rw [if_neg c12] at H
          exact absurd H (by simp)
        ·
         rw [if_neg c11] at H
         exact absurd H (by simp)
     ·
      rw [if_neg c8] at H; have c8b0 := decide_eq_false c8; clear c8; obtain rfl := Option.some.inj H
      go_wp2
      go_ret
      exact ⟨_, rE, sU HO_3.out, bU0 HB.out⟩
  ·
   rw [if_neg c3] at H
   exact absurd H (by simp)
 ·
  rw [if_neg c2] at H
  exact absurd H (by simp)
def laysSort_ren : Go.Shelf.Ren := ⟨fun | 189 => 128 | 125 => 154 | 257 => 153 | 128 => 170 | 129 => 171 | 294 => 161 | 295 => 162 | 296 => 163 | 297 => 164 | 298 => 165 | 299 => 166 | 216 => 167 | 300 => 168 | 301 => 169 | 328 => 173 | 329 => 174 | 330 => 175 | 331 => 176 | 332 => 177 | 215 => 172 | 343 => 178 | n => n, fun | 28 => 23 | 3 => 3 | 46 => 108 | 0 => 0 | 51 => 120 | 53 => 122 | 4 => 4 | 183 => 114 | 182 => 113 | 131 => 82 | 5 => 5 | 9 => 9 | 218 => 123 | 222 => 127 | 228 => 129 | 229 => 130 | n => n, fun | n => n⟩
theorem laysSort : Lays.n189 Try.prog laysSort_ren := { mixed := by kernel_rfl, f125 := Try.func154.trans (congrArg some (by kernel_rfl)), f128 := Try.func170.trans (congrArg some (by kernel_rfl)), f129 := Try.func171.trans (congrArg some (by kernel_rfl)), f189 := Try.func128.trans (congrArg some (by kernel_rfl)), f215 := Try.func172.trans (congrArg some (by kernel_rfl)), f216 := Try.func167.trans (congrArg some (by kernel_rfl)), f257 := Try.func153.trans (congrArg some (by kernel_rfl)), f294 := Try.func161.trans (congrArg some (by kernel_rfl)), f295 := Try.func162.trans (congrArg some (by kernel_rfl)), f296 := Try.func163.trans (congrArg some (by kernel_rfl)), f297 := Try.func164.trans (congrArg some (by kernel_rfl)), f298 := Try.func165.trans (congrArg some (by kernel_rfl)), f299 := Try.func166.trans (congrArg some (by kernel_rfl)), f300 := Try.func168.trans (congrArg some (by kernel_rfl)), f301 := Try.func169.trans (congrArg some (by kernel_rfl)), f328 := Try.func173.trans (congrArg some (by kernel_rfl)), f329 := Try.func174.trans (congrArg some (by kernel_rfl)), f330 := Try.func175.trans (congrArg some (by kernel_rfl)), f331 := Try.func176.trans (congrArg some (by kernel_rfl)), f332 := Try.func177.trans (congrArg some (by kernel_rfl)), f343 := Try.func178.trans (congrArg some (by kernel_rfl)), t0 := Try.underlying0, a0 := Try.isAgg0, z0 := Try.sizeOf0, v0 := Try.zeroValue0, t3 := Try.underlying3, a3 := Try.isAgg3, z3 := Try.sizeOf3, v3 := Try.zeroValue3, t4 := Try.underlying4, a4 := Try.isAgg4, z4 := Try.sizeOf4, v4 := Try.zeroValue4, t5 := Try.underlying5, a5 := Try.isAgg5, z5 := Try.sizeOf5, v5 := Try.zeroValue5, t9 := Try.underlying9, a9 := Try.isAgg9, z9 := Try.sizeOf9, v9 := Try.zeroValue9, t28 := Try.underlying23, a28 := Try.isAgg23, z28 := Try.sizeOf23, v28 := Try.zeroValue23, t46 := Try.underlying108, a46 := Try.isAgg108, z46 := Try.sizeOf108, v46 := Try.zeroValue108, t51 := Try.underlying120, a51 := Try.isAgg120, z51 := Try.sizeOf120, v51 := Try.zeroValue120, t53 := Try.underlying122, a53 := Try.isAgg122, z53 := Try.sizeOf122, v53 := Try.zeroValue122, t131 := Try.underlying82, a131 := Try.isAgg82, z131 := Try.sizeOf82, v131 := Try.zeroValue82, t182 := Try.underlying113, a182 := Try.isAgg113, z182 := Try.sizeOf113, v182 := Try.zeroValue113, t183 := Try.underlying114, a183 := Try.isAgg114, z183 := Try.sizeOf114, v183 := Try.zeroValue114, t218 := Try.underlying123, a218 := Try.isAgg123, z218 := Try.sizeOf123, v218 := Try.zeroValue123, t222 := Try.underlying127, a222 := Try.isAgg127, z222 := Try.sizeOf127, v222 := Try.zeroValue127, t228 := Try.underlying129, a228 := Try.isAgg129, z228 := Try.sizeOf129, v228 := Try.zeroValue129, t229 := Try.underlying130, a229 := Try.isAgg130, z229 := Try.sizeOf130, v229 := Try.zeroValue130 }
def slices_Sort_int_int.f (l0 : List Int) : Option (List Int) := if 0 < l0.length ∧ l0.length < 4611686018427387904 then some (l0.mergeSort fun x y => decide (x ≤ y)) else none
theorem slices_Sort_int_int.calls (P0_ : Nat → Prop) (u9000_ : Value) (l0 : List Int) (r : List Int) (w0 w : World) (hB : Below w0.heap.size w0 w) (ho0 : Kd.R (Kd.int .i64) 3 w w0.heap.size P0_ u9000_ l0) (h : slices_Sort_int_int.f l0 = some r) :
  Calls Try.prog 128 #[u9000_] w fun e w' => e = .returned (.tuple #[]) ∧ Kd.R (Kd.int .i64) 3 w' w0.heap.size (fun k_ => (P0_ k_ ∨ w.heap.size ≤ k_)) u9000_ r ∧ Below w0.heap.size w0 w' ∧ Kept w w' (fun k_ => P0_ k_) := by
 unfold slices_Sort_int_int.f at h
 split at h
 ·
  rename_i hn
  obtain rfl := Option.some.inj h; have ow := Kd.own_of_R ho0; obtain ⟨hlen, ⟨_, h0⟩ | ⟨g, cap, cur, hv, hbase, hb, h1, h2, h3, h4⟩⟩ := ow
  ·
   omega
  subst hv; have hg : g < w.heap.size := (Array.getElem?_eq_some_iff.1 hb).1; have hP : P0_ g := ho0.1 g rfl; have hH := holds_of_blockI (ss := l0) hb (by rw [← Nat.mul_one l0.length, h4]; rfl)
  refine (Any.slices_Sort_int laysSort g 0 cap l0 w hH hg hn.2).mono ?_
  rintro e w' ⟨rfl, n, os, rfl⟩
  have hgr := grownBy_sortedI (w := w) (g := g) (n := n) (os := os) (l0.mergeSort fun x y => decide (x ≤ y)).toArray; have hl : (l0.mergeSort fun x y => decide (x ≤ y)).length = l0.length := List.length_mergeSort _; have own := ownsRow_sortedI (n := n) (os := os) (ts := l0.mergeSort fun x y => decide (x ≤ y)) hl hbase hb h1 h2 (by rw [h3])
  refine ⟨rfl, ?_, ?_, ?_⟩
  ·
   refine Kd.R_of_own ?_ (fun k hk => .inl ?_)
   ·
    rw [hl]
    exact own
   ·
    have : g = k := Option.some.inj hk; rw [← this]
    exact hP
  ·
   exact hB.grown hgr (by have := hB.size; omega) (fun k hk => by have := Option.some.inj hk; omega)
  ·
   exact Kept.of_grown hgr (Kept.refl w _) (fun k hk => .inl (by have := Option.some.inj hk; rw [← this]; exact hP))
 ·
  cases h
def slices_Reverse_int_int.l0 : Nat → List Int → Int → Int → Option (List Int)
 | 0, _, _, _ => none
 | k + 1, x0, x2, x3 => if x2 < x3 then (if 0 ≤ x3 then (if x3 < (x0.length : Int) then (if 0 ≤ x2 then (if x2 < (x0.length : Int) then (slices_Reverse_int_int.l0 k ((x0.set (x2 : Int).toNat (rd x0 x3)).set (x3 : Int).toNat (rd x0 x2)) (wrap64 (x2 + 1)) (wrap64 (x3 - 1))) else (none)) else (none)) else (none)) else (none)) else (some x0)
def slices_Reverse_int_int.f (k : Nat) (l0 : List Int) : Option (List Int) := slices_Reverse_int_int.l0 k l0 0 (wrap64 ((l0.length : Int) - 1))
def slices_Reverse_int_int.T3 : Bool × List (List Nat × List Nat) := (true, [([], []), ([], []), ([], []), ([], []), ([], []), ([], []), ([4, 5], [4, 5]), ([6], [6]), ([], []), ([], []), ([8, 9], [8, 9]), ([10], [10]), ([0, 1, 0, 1, 4, 5, 6, 7, 11], [0, 1]), ([12, 7, 0, 1, 4, 5, 6, 7, 11], [7, 12]), ([2, 3, 0, 1, 2, 3, 4, 5, 6, 7, 8, 9, 10, 11, 12, 13], [2, 3]), ([14, 11, 13, 0, 1, 2, 3, 4, 5, 6, 7, 8, 9, 10, 11, 12, 13], [11, 14])])
def slices_Reverse_int_int.B3 : List Nat := [0, 0, 0, 0, 0, 0, 48, 112, 0, 0, 768, 1792, 4083, 8179, 16383, 32767]
theorem slices_Reverse_int_int.tab3 : rtab .any (opsOf Try.f129 3) = slices_Reverse_int_int.T3 := by kernel_rfl
theorem slices_Reverse_int_int.bits3 : waitsOk slices_Reverse_int_int.T3.2 slices_Reverse_int_int.B3 = true := by kernel_rfl
set_option maxHeartbeats 8000000 in
set_option maxRecDepth 100000 in
theorem slices_Reverse_int_int.calls (k : Nat) (P0_ : Nat → Prop) (u9000_ : Value) (l0 : List Int) (r : List Int) (w0 w : World) (hB : Below w0.heap.size w0 w) (ho0 : Kd.R (Kd.int .i64) 3 w w0.heap.size P0_ u9000_ l0) (h : slices_Reverse_int_int.f k l0 = some r) :
  Calls Try.prog 129 #[u9000_] w fun e w' => e = .returned (.tuple #[]) ∧ Kd.R (Kd.int .i64) 3 w' w0.heap.size (fun k_ => (P0_ k_ ∨ w.heap.size ≤ k_)) u9000_ r ∧ Below w0.heap.size w0 w' ∧ Kept w w' (fun k_ => P0_ k_) := by
 have HO0 := Az (show Kd.R (Kd.int .i64) 3 w w0.heap.size (fun k_ => (P0_ k_ ∨ w.heap.size ≤ k_)) u9000_ l0 from Kd.R_mono ho0 (fun k_ hk => (.inl hk))); have HK := Az (Kept.refl w (fun k_ => P0_ k_)); have HW0 := Az hB.size; have HB := Az hB; clear hB; have H : (slices_Reverse_int_int.l0 k l0 0 (wrap64 ((l0.length : Int) - 1))) = some r := h; clear h; have H' := Az H; clear H; obtain ⟨Ao2, co2, eo2⟩ := Kd.R_slice HO0.out; subst eo2
 go_enter Try.func129, Try.ntmps129
 go_wp2
 go_loopg [2, 3] k (fun kq v2 v3 w' => ∃ (x0_1 : List Int) (x2_1 : Int) (x3_1 : Int), v2 = .int .i64 x2_1 ∧ v3 = .int .i64 x3_1 ∧ Aside0 (slices_Reverse_int_int.l0 kq x0_1 x2_1 x3_1 = some r) ∧ Aside0 (kq ≤ k) ∧ Aside0 (Kd.R (Kd.int .i64) 3 w' w0.heap.size (fun k_ => (P0_ k_ ∨ w.heap.size ≤ k_)) (.slice Ao2 l0.length co2) x0_1) ∧ Aside0 (Kept w w' (fun k_ => P0_ k_)) ∧ Aside0 (Below w0.heap.size w0 w'))
 case atStart => exact ⟨(l0), (0), (wrap64 ((l0.length : Int) - 1)), rS, rS, H', ⟨Nat.le_refl _⟩, ⟨rU HO0.out⟩, ⟨by repeat (first | (with_reducible first | exact HK.out | apply Kept.alloc | apply Kept.drewN | apply Kept.drew) | exact HK.out)⟩, ⟨bU0 HB.out⟩⟩
 case round =>
  clear H'; (try clear c1); (try clear p2); obtain ⟨x0_1, x2_1, x3_1, rfl, rfl, HA, HK1, HO_0, HK, HB⟩ := hrel; have hl0_1 := (Kd.R_reads' HO_0.out).1; rw [hl0_1] at HO_0; (try simp only [hl0_1])
  cases gk with
  | zero => exact absurd HA.out (by simp [slices_Reverse_int_int.l0])
  | succ k1 =>
   have H := HA.out; clear HA; simp only [slices_Reverse_int_int.l0] at H
   by_cases c3 : x2_1 < x3_1
   ·
    rw [if_pos c3] at H; have c3b0 := decide_eq_true c3; clear c3
    by_cases c4 : 0 ≤ x3_1
    ·
     rw [if_pos c4] at H; have c4b0 := decide_eq_true c4; clear c4
     by_cases c5 : x3_1 < (x0_1.length : Int)
     ·
      rw [if_pos c5] at H; have c5b0 := decide_eq_true c5; (try (have c5b0hl0_1 := c5b0; rw [hl0_1] at c5b0hl0_1)); clear c5
      by_cases c6 : 0 ≤ x2_1
      ·
       rw [if_pos c6] at H; have c6b0 := decide_eq_true c6; clear c6
       by_cases c7 : x2_1 < (x0_1.length : Int)
       ·
        rw [if_pos c7] at H; have c7b0 := decide_eq_true c7; (try (have c7b0hl0_1 := c7b0; rw [hl0_1] at c7b0hl0_1)); clear c7; obtain ⟨y245, hy245⟩ : ∃ y_ : List Int, y_ = (x0_1.set (x2_1 : Int).toNat (rd x0_1 x3_1)) := ⟨_, rfl⟩; replace H : (slices_Reverse_int_int.l0 k1 (y245.set (x3_1 : Int).toNat (rd x0_1 x2_1)) (wrap64 (x2_1 + 1)) (wrap64 (x3_1 - 1))) = some r := hR hy245 H; have Ny245 := Az hy245; clear hy245; obtain ⟨y246, hy246⟩ : ∃ y_ : List Int, y_ = (y245.set (x3_1 : Int).toNat (rd x0_1 x2_1)) := ⟨_, rfl⟩; replace H : (slices_Reverse_int_int.l0 k1 y246 (wrap64 (x2_1 + 1)) (wrap64 (x3_1 - 1))) = some r := hR hy246 H; have Ny246 := Az hy246; clear hy246; have H' := Az H; clear H
        try go_wp2
        have n0 := Az (Kd.R_drew HO_0.out); have n1 := Az (Kept.drew HK.out); have n2 := Az (below_drew1 HB.out); clear HO_0 HK HB; have HO_0 := n0; have HK := n1; have HB := n2; clear n0 n1 n2; have p243 : 0 ≤ (x3_1 : Int) := oA; have q243 : x3_1 < (x0_1.length : Int) := oA; obtain ⟨ad243, e243, hx243_0⟩ := Kd.at_int (Kd.R_reads' HO_0.out).2.2 x3_1 p243 q243
        cases e243
        replace p243 := eq_true p243; replace q243 := eq_true q243; have p244 : 0 ≤ (x2_1 : Int) := oA; have q244 : x2_1 < (x0_1.length : Int) := oA; obtain ⟨ad244, e244, hx244_0⟩ := Kd.at_int (Kd.R_reads' HO_0.out).2.2 x2_1 p244 q244; obtain rfl : ad243 = ad244 := (by injection e244); replace p244 := eq_true p244; replace q244 := eq_true q244; have p8 : 0 ≤ (x2_1 : Int) := oA; have q8 : (x2_1 : Int) < ((x0_1.length : Int) : Int) := oA; obtain ⟨go8, co8, eo8, gb8, gl8, cl8, HG8⟩ := Kd.R_form HO_0.out (by omega); (first | cases eo8 | (injection eo8 with ea_ en_ ec_; (first | subst ea_ | (injection ea_ with ea_; subst ea_)); subst ec_; clear en_)); have GB8 := Az gb8; have GG8 := Az HG8; clear gb8 gl8 HG8; have HMgo8 := Az (show (P0_ go8 ∨ w.heap.size ≤ go8) from (HO_0.out.1 _ rfl)); (first | simp only [add_plain] at hx243_0 | skip); (first | simp only [add_plain] at hx244_0 | skip); obtain ⟨hx8_0, hf8_0⟩ := Kd.R_celln 0 HO_0.out (x2_1 : Int) p8 q8; replace p8 := eq_true p8; replace q8 := eq_true q8; have HP11 := Kd.R_putn HO_0.out (x2_1 : Int) (rd x0_1 x3_1); rw [← Ny245.out] at HP11; have HQ11 := Az HP11; clear HP11; have p9 : 0 ≤ (x3_1 : Int) := oA; have q9 : (x3_1 : Int) < ((x0_1.length : Int) : Int) := oA; obtain ⟨hx9_0, hf9_0⟩ := Kd.R_celln 0 HQ11.out (x3_1 : Int) p9 q9; replace p9 := eq_true p9; replace q9 := eq_true q9; have HP12 := Kd.R_putn HQ11.out (x3_1 : Int) (rd x0_1 x2_1); rw [← Ny246.out] at HP12; have HQ12 := Az HP12; clear HP12
        refine start_ (n := 16) (S := fun w' => w'.cell? ⟨go8, (x3_1).toNat, none⟩ = some (.int .i64 (rd x0_1 x3_1)) ∧ w'.cell? ⟨go8, (x2_1).toNat, none⟩ = some (.int .i64 (rd x0_1 x2_1))) (ds := [13, 15]) #[false, false, false, false, false, false, false, false, false, false, false, false, false, false, false, false] (by kernel_rfl) rfl rfl ⟨hx243_0, hx244_0⟩ (fun hHeld => ?_); refine with_tabW slices_Reverse_int_int.tab3 slices_Reverse_int_int.bits3 (fun HT_ HW_ => ?_)
        generalize wr.drew = w10 at HO_0 HK HB GG8 HQ11 HQ12 hf8_0 hf9_0 hx243_0 hx244_0 hx8_0 hx9_0 hHeld ⊢
        refine pure_ (i := 0) (N := some 14) (v := ?_) (a' := ?_) #[true, false, false, false, false, false, false, false, false, false, false, false, false, false, false, false] rfl rfl (any_of HT_.out (by kernel_rfl)) (fun _ _ _ h => h) (Or.inl ⟨by rfl, ?_⟩) ?_ ?_
        rotate_left
        ·
         intro w'
         go_simp
         with_reducible rfl
        rotate_left
        ·
         simp only [Act.put, List.setIfInBounds_toArray, List.set_cons_zero, List.set_cons_succ, i64_w, i32_w]
         rfl
        refine pure_ (i := 1) (N := some 15) (v := ?_) (a' := ?_) #[true, true, false, false, false, false, false, false, false, false, false, false, false, false, false, false] rfl rfl (any_of HT_.out (by kernel_rfl)) (fun _ _ _ h => h) (Or.inl ⟨by rfl, ?_⟩) ?_ ?_
        rotate_left
        ·
         intro w'
         go_simp
         with_reducible rfl
        rotate_left
        ·
         simp only [Act.put, List.setIfInBounds_toArray, List.set_cons_zero, List.set_cons_succ, i64_w, i32_w]
         rfl
        refine pure_ (i := 2) (N := some 16) (v := ?_) (a' := ?_) #[true, true, true, false, false, false, false, false, false, false, false, false, false, false, false, false] rfl rfl (any_of HT_.out (by kernel_rfl)) (fun _ _ _ h => h) (Or.inl ⟨by rfl, ?_⟩) ?_ ?_
        rotate_left
        ·
         intro w'
         go_simp
         with_reducible rfl
        rotate_left
        ·
         simp only [Act.put, List.setIfInBounds_toArray, List.set_cons_zero, List.set_cons_succ, i64_w, i32_w]
         rfl
        refine pure_ (i := 3) (N := some 17) (v := ?_) (a' := ?_) #[true, true, true, true, false, false, false, false, false, false, false, false, false, false, false, false] rfl rfl (any_of HT_.out (by kernel_rfl)) (fun _ _ _ h => h) (Or.inl ⟨by rfl, ?_⟩) ?_ ?_
        rotate_left
        ·
         intro w'
         go_simp
         with_reducible rfl
        rotate_left
        ·
         simp only [Act.put, List.setIfInBounds_toArray, List.set_cons_zero, List.set_cons_succ, i64_w, i32_w]
         rfl
        refine pure_ (i := 4) (N := some 18) (v := ?_) (a' := ?_) #[true, true, true, true, true, false, false, false, false, false, false, false, false, false, false, false] rfl rfl (any_of HT_.out (by kernel_rfl)) (fun _ _ _ h => h) (Or.inl ⟨by rfl, ?_⟩) ?_ ?_
        rotate_left
        ·
         intro w'
         go_simp
         with_reducible rfl
        rotate_left
        ·
         simp only [Act.put, List.setIfInBounds_toArray, List.set_cons_zero, List.set_cons_succ, i64_w, i32_w]
         rfl
        refine pure_ (i := 5) (N := some 19) (v := ?_) (a' := ?_) #[true, true, true, true, true, true, false, false, false, false, false, false, false, false, false, false] rfl rfl (any_of HT_.out (by kernel_rfl)) (fun _ _ _ h => h) (Or.inl ⟨by rfl, ?_⟩) ?_ ?_
        rotate_left
        ·
         intro w'
         go_simp
         with_reducible rfl
        rotate_left
        ·
         simp only [Act.put, List.setIfInBounds_toArray, List.set_cons_zero, List.set_cons_succ, i64_w, i32_w]
         rfl
        refine pure_ (i := 6) (N := some 20) (v := ?_) (a' := ?_) #[true, true, true, true, true, true, true, false, false, false, false, false, false, false, false, false] rfl rfl (any_of HT_.out (by kernel_rfl)) (fun _ _ _ h => h) (Or.inl ⟨by rfl, ?_⟩) ?_ ?_
        rotate_left
        ·
         intro w'
         go_simp
         with_reducible rfl
        rotate_left
        ·
         simp only [Act.put, List.setIfInBounds_toArray, List.set_cons_zero, List.set_cons_succ, i64_w, i32_w]
         rfl
        refine pure_ (i := 8) (N := some 22) (v := ?_) (a' := ?_) #[true, true, true, true, true, true, true, false, true, false, false, false, false, false, false, false] rfl rfl (any_of HT_.out (by kernel_rfl)) (fun _ _ _ h => h) (Or.inl ⟨by rfl, ?_⟩) ?_ ?_
        rotate_left
        ·
         intro w'
         go_simp
         with_reducible rfl
        rotate_left
        ·
         simp only [Act.put, List.setIfInBounds_toArray, List.set_cons_zero, List.set_cons_succ, i64_w, i32_w]
         rfl
        refine pure_ (i := 9) (N := some 23) (v := ?_) (a' := ?_) #[true, true, true, true, true, true, true, false, true, true, false, false, false, false, false, false] rfl rfl (any_of HT_.out (by kernel_rfl)) (fun _ _ _ h => h) (Or.inl ⟨by rfl, ?_⟩) ?_ ?_
        rotate_left
        ·
         intro w'
         go_simp
         with_reducible rfl
        rotate_left
        ·
         simp only [Act.put, List.setIfInBounds_toArray, List.set_cons_zero, List.set_cons_succ, i64_w, i32_w]
         rfl
        refine pure_ (i := 10) (N := some 24) (v := ?_) (a' := ?_) #[true, true, true, true, true, true, true, false, true, true, true, false, false, false, false, false] rfl rfl (any_of HT_.out (by kernel_rfl)) (fun _ _ _ h => h) (Or.inl ⟨by rfl, ?_⟩) ?_ ?_
        rotate_left
        ·
         intro w'
         go_simp
         with_reducible rfl
        rotate_left
        ·
         simp only [Act.put, List.setIfInBounds_toArray, List.set_cons_zero, List.set_cons_succ, i64_w, i32_w]
         rfl
        refine take_ (i := 7) (N := some 21) (v := ?_) (a' := ?_) #[true, true, true, true, true, true, true, true, true, true, true, false, false, false, false, false] rfl rfl (take_ofW HT_.out HW_.out (by kernel_rfl)) (fun _ _ _ h => h) (Or.inl ⟨by rfl, ?_⟩) hHeld ?_ ?_
        rotate_left
        ·
         rintro w' ⟨s0, s1⟩
         go_simp
         with_reducible rfl
        rotate_left
        ·
         simp only [Act.put, List.setIfInBounds_toArray, List.set_cons_zero, List.set_cons_succ, i64_w, i32_w]
         rfl
        refine take_ (i := 11) (N := some 25) (v := ?_) (a' := ?_) #[true, true, true, true, true, true, true, true, true, true, true, true, false, false, false, false] rfl rfl (take_ofW HT_.out HW_.out (by kernel_rfl)) (fun _ _ _ h => h) (Or.inl ⟨by rfl, ?_⟩) hHeld ?_ ?_
        rotate_left
        ·
         rintro w' ⟨s0, s1⟩
         go_simp
         with_reducible rfl
        rotate_left
        ·
         simp only [Act.put, List.setIfInBounds_toArray, List.set_cons_zero, List.set_cons_succ, i64_w, i32_w]
         rfl
        refine pure_ (i := 12) (N := some 26) (v := ?_) (a' := ?_) #[true, true, true, true, true, true, true, true, true, true, true, true, true, false, false, false] rfl rfl (any_of HT_.out (by kernel_rfl)) (fun _ _ _ h => h) (Or.inl ⟨by rfl, ?_⟩) ?_ ?_
        rotate_left
        ·
         intro w'
         go_simp
         with_reducible rfl
        rotate_left
        ·
         simp only [Act.put, List.setIfInBounds_toArray, List.set_cons_zero, List.set_cons_succ, i64_w, i32_w]
         rfl
        refine last_ (i := 13) (N := none) #[true, true, true, true, true, true, true, true, true, true, true, true, true, true, false, false] rfl rfl (one_of HT_.out (by kernel_rfl)) (by decide) (fun K hK => ?_)
        refine skip_ (w1 := ?_) (by rfl) rfl ?_ ?_
        rotate_left
        ·
         go_simp
         rfl
        refine hK.out _ _ ?_
        clear hK K
        refine pure_ (i := 14) (N := some 27) (v := ?_) (a' := ?_) #[true, true, true, true, true, true, true, true, true, true, true, true, true, true, true, false] rfl rfl (any_of HT_.out (by kernel_rfl)) (fun _ _ _ h => h) (Or.inl ⟨by rfl, ?_⟩) ?_ ?_
        rotate_left
        ·
         intro w'
         go_simp
         with_reducible rfl
        rotate_left
        ·
         simp only [Act.put, List.setIfInBounds_toArray, List.set_cons_zero, List.set_cons_succ, i64_w, i32_w]
         rfl
        refine last_ (i := 15) (N := none) #[true, true, true, true, true, true, true, true, true, true, true, true, true, true, true, true] rfl rfl (one_of HT_.out (by kernel_rfl)) (by decide) (fun K hK => ?_)
        refine skip_ (w1 := ?_) (by rfl) rfl ?_ ?_
        rotate_left
        ·
         go_simp
         rfl
        refine hK.out _ _ ?_
        clear hK K
        refine done_ (done_of HT_.out (by kernel_rfl)) ?_
        try go_wp2
        (try simp only [← hl0_1]); (first | go_roundg k1 | (refine Handed.intro k1 ?measure ?_; rotate_left; go_step; (try simp only [add_plain]); (repeat apply Exists.intro); refine ⟨?rel, rfl⟩))
        case measure => have := HK1.out; omega
        case rel => exact ⟨(y246), (wrap64 (x2_1 + 1)), (wrap64 (x3_1 - 1)), rS, rS, H', ⟨by have := HK1.out; omega⟩, ⟨by (try simp only [hl0_1]); (with_reducible repeat (first | apply Kd.R_alloc | apply Kd.R_drewN | apply Kd.R_drew)); exact HQ12.out⟩, ⟨by repeat (first | (with_reducible first | exact HK.out | apply Kept.alloc | apply Kept.drewN | apply Kept.drew | refine Kept.setCell ?_ HMgo8.out _ | refine Kept.setCell ?_ HMgo8.out _) | exact HK.out)⟩, ⟨bU2 HB.out GB8.out GB8.out⟩⟩
       ·
        rw [if_neg c7] at H
        exact absurd H (by simp)
      ·
       rw [if_neg c6] at H
       exact absurd H (by simp)
     ·
      rw [if_neg c5] at H
      exact absurd H (by simp)
    ·
     rw [if_neg c4] at H
     exact absurd H (by simp)
   ·
    rw [if_neg c3] at H; have c3b0 := decide_eq_false c3; clear c3; obtain rfl := Option.some.inj H
    go_wp2
    first | go_end0 | ((try simp only [Exit.inBlock, Exit.then]); refine bodyPost_ret (results_none rfl _ _ _) rfl ?_)
    exact ⟨rE, (by first | exact (rU HO_0.out) | (simp only [hl0_1]; exact (rU HO_0.out))), bU0 HB.out, by repeat (first | (with_reducible first | exact HK.out | apply Kept.alloc | apply Kept.drewN | apply Kept.drew) | exact HK.out)⟩
def impl_typeOf.l0 : Nat → List Int → List (List Int) → Int → Int → Option (List Int)
 | 0, _, _, _, _ => none
 | k + 1, x3, x8, x9, x10 => if x10 < x9 then (if 0 ≤ x10 then (if x10 < (x8.length : Int) then (if x3.length < 17592186044416 then (impl_typeOf.l0 k (x3 ++ [((rd_L1 x8 x10).length : Int)]) x8 x9 (wrap64 (x10 + 1))) else (none)) else (none)) else (none)) else ((slices_Sort_int_int.f x3).bind fun t257 => ((slices_Reverse_int_int.f k t257).bind fun t258 => (some t258)))
def impl_typeOf.f (k : Nat) (l0 : List Int) : Option (List Int) := (impl_cyclesOf.f k l0).bind fun t250 => (impl_typeOf.l0 k (([] : List Int)) t250 (t250.length : Int) 0)
set_option maxHeartbeats 8000000 in
set_option maxRecDepth 100000 in
theorem impl_typeOf.calls (k : Nat) (A0 : Option Addr) (c0 : Nat) (l0 : List Int) (r : List Int) (w : World) (hr0 : Kd.C (Kd.int .i64) w A0 l0.length l0) (hc0 : l0.length ≤ c0) (h : impl_typeOf.f k l0 = some r) :
  Calls Try.prog 86 #[.slice A0 l0.length c0] w fun e w' => ∃ v0_ : Value, e = .returned (v0_) ∧ Kd.R (Kd.int .i64) 3 w' w.heap.size (fun _ => True) v0_ r ∧ Below w.heap.size w w' := by
 have HR0 := Az hr0; have HC0 := Az hc0; clear hr0 hc0; have HB := Az (Below.refl w.heap.size w); have H : ((impl_cyclesOf.f k l0).bind fun t250 => (impl_typeOf.l0 k (([] : List Int)) t250 (t250.length : Int) 0)) = some r := h; clear h; obtain ⟨y247, hy247⟩ : ∃ y_ : List Int, y_ = (([] : List Int)) := ⟨_, rfl⟩; replace H : ((impl_cyclesOf.f k l0).bind fun t250 => (impl_typeOf.l0 k y247 t250 (t250.length : Int) 0)) = some r := hR hy247 H; have Ny247 := Az hy247; clear hy247; replace H := Option.bind_eq_some_iff.mp H; obtain ⟨t250, A20, H⟩ := H; replace H : (impl_typeOf.l0 k y247 t250 (t250.length : Int) 0) = some r := H; have A2 := Az A20; clear A20; have H' := Az H; clear H
 go_enter Try.func86, Try.ntmps86
 go_wp2_with (first | ((with_reducible refine gate_dst (N := 6) rfl ?_); refine Kd.R_lit (Kd.int .i64) _ 3 ?hg (N := 6) ?hd (xs := ([] : List Int)) (inner := []) (ok := fun _ => True) (okp := fun _ => True) ?hr ?hp (fun _ hk => hk) trivial (Below.refl _ _) (Nat.le_refl _) (by simp) ?_; (case hd => rfl); (case hg => rfl); (case hr => first | (go_simp; done) | (go_simp; rfl)); (case hp => exact (Reps.none _ _)); intro v248 w3 ho4 hb hg_ hnew_; clear hg_ hnew_; (first | rw [← Ny247.out] at ho4 | (simp only [Int.reduceToNat] at ho4; rw [← Ny247.out] at ho4)); have n0 := Az (Kd.R_lower ho4 (below_size (bU0 HB.out))); have n1 := Az (below_step (bU0 HB.out) hb); clear HB; have HO249 := n0; have HB := n1; clear n0 n1; clear hb ho4) | ((with_reducible refine gate_callee (f := 66) rfl ?_); refine goesL_ (some 8) rfl rfl Try.func66 (by kernel_rfl) rfl #[.slice A0 l0.length c0] rfl (by (try simp only [List.map_toArray, List.map_cons, List.map_nil]); first | done | rfl | (simp only [List.length_drop, List.length_take]; rfl)) ?_; (with_reducible refine (impl_cyclesOf.calls k _ _ l0 t250 _ ?side1 ?side2 A2.out).mono ?_); (case side1 => exact cU (Kd.C_below HR0.out HB.out)); (case side2 => exact HC0.out); rintro e w5 ⟨v251, rfl, ho0, hb⟩; refine ⟨_, rfl, ?_⟩; have n0 := Az (Kd.R_below (rU HO249.out) hb); have n1 := Az (Kd.S_lower (Kd.S_new' ho0 (Kd.R_lt (rU HO249.out))) (below_size (bU0 HB.out))); have n2 := Az (below_step (bU0 HB.out) hb); clear HO249 HB; have HO249 := n0; have HO252 := n1; have HB := n2; clear n0 n1 n2; (try clear hb); (try clear hb2); (try clear hk); (try clear hi); (try clear ho0); obtain ⟨Ao6, co6, eo6⟩ := Kd.S_slice HO252.out; subst eo6))
 go_loopg [3, 10] k (fun kq v3 v10 w' => ∃ (x3_1 : List Int) (x10_1 : Int), v10 = .int .i64 x10_1 ∧ Aside0 (impl_typeOf.l0 kq x3_1 t250 (t250.length : Int) x10_1 = some r) ∧ Aside0 (kq ≤ k) ∧ Aside0 (Kd.R (Kd.int .i64) 3 w' w.heap.size (fun _ => True) v3 x3_1) ∧ Aside0 (Kd.S (Kd.slice 3 (Kd.int .i64)) 23 w' w.heap.size (fun k_ => some k_ ≠ (v3 : Value).ownBlock) (.slice Ao6 t250.length co6) t250) ∧ Aside0 (Below w.heap.size w w'))
 case atStart => exact ⟨(y247), (0), rS, H', ⟨Nat.le_refl _⟩, ⟨rU HO249.out⟩, ⟨by (with_reducible repeat (first | apply Kd.S_alloc | apply Kd.S_drewN | apply Kd.S_drew)); exact Kd.S_mono HO252.out (fun _ hk => hk.2)⟩, ⟨bU0 HB.out⟩⟩
 case round =>
  clear H'; (try clear p2); (try clear c6); obtain ⟨x3_1, x10_1, rfl, HA, HK1, HO_3, HO_8, HB⟩ := hrel
  cases gk with
  | zero => exact absurd HA.out (by simp [impl_typeOf.l0])
  | succ k1 =>
   have H := HA.out; clear HA; simp only [impl_typeOf.l0] at H
   by_cases c7 : x10_1 < (t250.length : Int)
   ·
    rw [if_pos c7] at H; have c7b0 := decide_eq_true c7; clear c7
    by_cases c8 : 0 ≤ x10_1
    ·
     rw [if_pos c8] at H; have c8b0 := decide_eq_true c8; clear c8
     by_cases c9 : x10_1 < (t250.length : Int)
     ·
      rw [if_pos c9] at H; have c9b0 := decide_eq_true c9; clear c9
      by_cases c10 : x3_1.length < 17592186044416
      ·
       rw [if_pos c10] at H; have LMc10 := Az c10; clear c10; obtain ⟨y254, hy254⟩ : ∃ y_ : List Int, y_ = (x3_1 ++ [((rd_L1 t250 x10_1).length : Int)]) := ⟨_, rfl⟩; replace H : (impl_typeOf.l0 k1 y254 t250 (t250.length : Int) (wrap64 (x10_1 + 1))) = some r := hR hy254 H; have Ny254 := Az hy254; clear hy254; have H' := Az H; clear H; have p253 : 0 ≤ (x10_1 : Int) := oA; have q253 : x10_1 < (t250.length : Int) := oA; obtain ⟨ad253, A253_0, c253_0, e253, hx253_0, hl253_0, hi253_0⟩ := at_L1 (Kd.S_reads' HO_8.out).2.2 x10_1 p253 q253
       cases e253
       obtain ⟨ce253, hce253, hMe253, hcc253⟩ := Kd.S_get HO_8.out [] x10_1 p253 (by first | exact q253 | exact oA | (have e_ := (Kd.S_reads' HO_8.out).1; omega)); obtain ⟨ve253_0, rfl, ge253_0⟩ := hMe253; have hv253_0 := hcc253 0 _ rfl; rw [Nat.add_zero, show ((Kd.slice 3 (Kd.int .i64))).sz = 1 from rfl, Nat.mul_one] at hv253_0; replace hv253_0 := Option.some.inj (hv253_0.symm.trans hx253_0); rw [hv253_0] at ge253_0; have HL253_0 := Az (show Kd.R (Kd.int .i64) 3 _ _ _ _ (rd_L1 t250 x10_1) from ge253_0); clear hv253_0 ge253_0 hcc253 hce253; have HR253_0 := Az hi253_0; have HC253_0 := Az hl253_0; clear hi253_0 hl253_0; replace p253 := eq_true p253; replace q253 := eq_true q253
       go_wp2_with (first | ((with_reducible refine gate_builtin (b := .append) (xs := #[.tmp 14, .tmp 17]) rfl ?_); at_builtin; refine Kd.R_append (Kd.int .i64) (w0 := w) w.heap.size rfl (.tmp 14) (.tmp 17) 23 3 (.int .i64 0) 8 rfl Try.underlying23 info3 rfl (by decide) (by omega) u3 x3_1 ((rd_L1 t250 x10_1).length : Int) [.int .i64 ((rd_L1 t250 x10_1).length : Int)] (fun _ => True) (fun _ => False) rfl rfl ?aP (fun _ hk => hk.elim) ?aF ?aO ?aB ?aS ?aL ?_; (case aP => exact rfl); (case aB => exact (bU0 HB.out)); (case aF => exact (fun _ _ => trivial)); (case aO => exact (rU HO_3.out)); (case aS => exact (below_size (bU0 HB.out))); (case aL => have := LMc10.out; omega); intro v255 w11 ho hb hg hat; rw [← Ny254.out] at ho; have n0 := Az (Kd.S_after (ok := (fun _ => True)) (by (with_reducible repeat (first | apply Kd.S_alloc | apply Kd.S_drewN | apply Kd.S_drew)); exact Kd.S_mono HO_8.out (fun _ hk => ⟨trivial, hk⟩)) hg hat); have n1 := Az (Kd.R_after (ok := (fun k_ => some k_ ≠ (.slice (some ad253) t250.length co6 : Value).ownBlock)) (by (with_reducible repeat (first | apply Kd.R_alloc | apply Kd.R_drewN | apply Kd.R_drew)); exact Kd.R_mono HL253_0.out (fun _ hk => ⟨hk.2, hk.1⟩)) hg hat); have n2 := Az (hb); have n3 := Az (ho); clear HO_8 HL253_0 HB HO_3; have HO_8 := n0; have HL253_0 := n1; have HB := n2; have HO256 := n3; clear n0 n1 n2 n3; clear ho hb hg hat))
       (first | go_roundg k1 | (refine Handed.intro k1 ?measure ?_; rotate_left; go_step; (try simp only [add_plain]); (repeat apply Exists.intro); refine ⟨?rel, rfl⟩))
       case measure => have := HK1.out; omega
       case rel => exact ⟨(y254), (wrap64 (x10_1 + 1)), rS, H', ⟨by have := HK1.out; omega⟩, ⟨rU HO256.out⟩, ⟨by (with_reducible repeat (first | apply Kd.S_alloc | apply Kd.S_drewN | apply Kd.S_drew)); exact Kd.S_mono HO_8.out (fun _ hk => hk.2)⟩, ⟨bU0 HB.out⟩⟩
      ·
       rw [if_neg c10] at H
       exact absurd H (by simp)
     ·
      rw [if_neg c9] at H
      exact absurd H (by simp)
    ·
     rw [if_neg c8] at H
     exact absurd H (by simp)
   ·
    rw [if_neg c7] at H; have c7b0 := decide_eq_false c7; clear c7; replace H := Option.bind_eq_some_iff.mp H; obtain ⟨t257, A120, H⟩ := H; replace H : ((slices_Reverse_int_int.f k1 t257).bind fun t258 => (some t258)) = some r := H; have A12 := Az A120; clear A120; replace H := Option.bind_eq_some_iff.mp H; obtain ⟨t258, A130, H⟩ := H; replace H : (some t258) = some r := H; have A13 := Az A130; clear A130; obtain rfl := Option.some.inj H; obtain ⟨Ao14, co14, eo14⟩ := Kd.R_slice HO_3.out; subst eo14
    go_wp2_with (first | ((with_reducible refine gate_callee (f := 128) rfl ?_); refine goesL_ (some 21) rfl rfl Try.func128 (by kernel_rfl) rfl #[.slice Ao14 x3_1.length co14] rfl (by (try simp only [List.map_toArray, List.map_cons, List.map_nil]); first | done | rfl | (simp only [List.length_drop, List.length_take]; rfl)) ?_; (with_reducible refine (slices_Sort_int_int.calls (fun k_ => some k_ = (.slice Ao14 x3_1.length co14 : Value).ownBlock) (.slice Ao14 x3_1.length co14) x3_1 t257 w _ ?side1 ?side2 A12.out).mono ?_); (case side1 => repeat (first | (with_reducible first | exact HB.out | apply below_alloc | apply pw_below_drewN | apply below_drew1) | exact HB.out)); (case side2 => exact Kd.R_tight rfl HO_3.out); rintro e w15 ⟨rfl, hy0, hb, hkp⟩; refine ⟨_, rfl, ?_⟩; have n0 := Az (Kd.R_reok rfl hy0 (fun k_ e_ => HO_3.out.1 k_ e_)); have n1 := Az (Kd.S_mono (ok' := fun k_ => some k_ ≠ (.slice Ao14 x3_1.length co14 : Value).ownBlock) (Kd.S_keptB (HO_8.out) hkp (fun k_ hk_ hs_ => (hk_) hs_)) (fun k_ hk_ => hk_.1)); have n2 := Az (hb); clear HO_3 HO_8 HB; have HO_3 := n0; have HO_8 := n1; have HB := n2; clear n0 n1 n2; (try clear hb); (try clear hkp); (try clear hy0)) | ((with_reducible refine gate_callee (f := 129) rfl ?_); refine goesL_ (some 23) rfl rfl Try.func129 (by kernel_rfl) rfl #[.slice Ao14 x3_1.length co14] rfl (by (try simp only [List.map_toArray, List.map_cons, List.map_nil]); first | done | rfl | (simp only [List.length_drop, List.length_take]; rfl)) ?_; (with_reducible refine (slices_Reverse_int_int.calls k1 (fun k_ => some k_ = (.slice Ao14 x3_1.length co14 : Value).ownBlock) (.slice Ao14 x3_1.length co14) t257 t258 w _ ?side1 ?side2 A13.out).mono ?_); (case side1 => repeat (first | (with_reducible first | exact HB.out | apply below_alloc | apply pw_below_drewN | apply below_drew1) | exact HB.out)); (case side2 => exact Kd.R_tight rfl HO_3.out); rintro e w16 ⟨rfl, hy0, hb, hkp⟩; refine ⟨_, rfl, ?_⟩; have n0 := Az (Kd.R_reok rfl hy0 (fun k_ e_ => HO_3.out.1 k_ e_)); have n1 := Az (Kd.S_mono (ok' := fun k_ => some k_ ≠ (.slice Ao14 x3_1.length co14 : Value).ownBlock) (Kd.S_keptB (HO_8.out) hkp (fun k_ hk_ hs_ => (hk_) hs_)) (fun k_ hk_ => hk_.1)); have n2 := Az (hb); clear HO_3 HO_8 HB; have HO_3 := n0; have HO_8 := n1; have HB := n2; clear n0 n1 n2; (try clear hb); (try clear hkp); (try clear hy0)))
    go_ret
    exact ⟨_, rE, rU HO_3.out, bU0 HB.out⟩
def slices_Equal_int_int.l0 : Nat → List Int → List Int → Int → Int → Option (Bool)
 | 0, _, _, _, _ => none
 | k + 1, x0, x1, x12, x13 => if x13 < x12 then (if 0 ≤ x13 then (if x13 < (x0.length : Int) then (if x13 < (x1.length : Int) then (if (rd x0 x13) = (rd x1 x13) then (slices_Equal_int_int.l0 k x0 x1 x12 (wrap64 (x13 + 1))) else (some false)) else (none)) else (none)) else (none)) else (some true)
def slices_Equal_int_int.f (k : Nat) (l0 : List Int) (l1 : List Int) : Option (Bool) := if (l0.length : Int) = (l1.length : Int) then (slices_Equal_int_int.l0 k l0 l1 (l0.length : Int) 0) else (some false)
set_option maxHeartbeats 8000000 in
set_option maxRecDepth 100000 in
theorem slices_Equal_int_int.calls (k : Nat) (A0 : Option Addr) (c0 : Nat) (l0 : List Int) (A1 : Option Addr) (c1 : Nat) (l1 : List Int) (r : Bool) (w : World) (hr0 : Kd.C (Kd.int .i64) w A0 l0.length l0) (hc0 : l0.length ≤ c0) (hr1 : Kd.C (Kd.int .i64) w A1 l1.length l1) (hc1 : l1.length ≤ c1) (h : slices_Equal_int_int.f k l0 l1 = some r) :
  Calls Try.prog 105 #[.slice A0 l0.length c0, .slice A1 l1.length c1] w fun e w' => e = .returned (.bool r) ∧ Drawn0 w w' := by
 have HR0 := Az hr0; have HC0 := Az hc0; clear hr0 hc0; have HR1 := Az hr1; have HC1 := Az hc1; clear hr1 hc1; have H : (if (l0.length : Int) = (l1.length : Int) then (slices_Equal_int_int.l0 k l0 l1 (l0.length : Int) 0) else (some false)) = some r := h; clear h
 by_cases c3 : (l0.length : Int) = (l1.length : Int)
 ·
  rw [if_pos c3] at H; have c3b0 := beq_iff_eq.mpr c3; have c3b1 := bne_eq_false_iff_eq.mpr c3
  have c3b2 : (l0.length == l1.length) = true := by first | simpa using c3 | (simp at c3 ⊢; omega)
  clear c3; have H' := Az H; clear H
  go_enter Try.func105, Try.ntmps105
  go_wp2
  repeat (go_quiet (fail); try go_wp2)
  go_loopg [13] k (fun kq v13 w' => ∃ (x13_1 : Int), v13 = .int .i64 x13_1 ∧ Aside0 (slices_Equal_int_int.l0 kq l0 l1 (l0.length : Int) x13_1 = some r) ∧ Aside0 (kq ≤ k) ∧ Drawn0 w w')
  case atStart => exact ⟨(0), rS, H', ⟨Nat.le_refl _⟩, by repeat (first | exact Drawn0.refl _ | apply Drawn0.step)⟩
  case round =>
   clear H'; (try clear c1); (try clear p2); (try clear c3); (try clear c3b0); (try clear c3b1); (try clear c3b2); obtain ⟨x13_1, rfl, HA, HK1, ⟨m1, rfl⟩⟩ := hrel
   cases gk with
   | zero => exact absurd HA.out (by simp [slices_Equal_int_int.l0])
   | succ k1 =>
    have H := HA.out; clear HA; simp only [slices_Equal_int_int.l0] at H
    by_cases c4 : x13_1 < (l0.length : Int)
    ·
     rw [if_pos c4] at H; have c4b0 := decide_eq_true c4; clear c4
     by_cases c5 : 0 ≤ x13_1
     ·
      rw [if_pos c5] at H; have c5b0 := decide_eq_true c5; clear c5
      by_cases c6 : x13_1 < (l0.length : Int)
      ·
       rw [if_pos c6] at H; have c6b0 := decide_eq_true c6; clear c6
       by_cases c7 : x13_1 < (l1.length : Int)
       ·
        rw [if_pos c7] at H; have c7b0 := decide_eq_true c7; clear c7
        by_cases c8 : (rd l0 x13_1) = (rd l1 x13_1)
        ·
         rw [if_pos c8] at H; have c8b0 := beq_iff_eq.mpr c8; have c8b1 := bne_eq_false_iff_eq.mpr c8; clear c8; have H' := Az H; clear H; have p259 : 0 ≤ (x13_1 : Int) := oA; have q259 : x13_1 < (l0.length : Int) := oA; obtain ⟨ad259, e259, hx259_0⟩ := Kd.at_int HR0.out x13_1 p259 q259
         cases e259
         replace p259 := eq_true p259; replace q259 := eq_true q259; have p260 : 0 ≤ (x13_1 : Int) := oA; have q260 : x13_1 < (l1.length : Int) := oA; obtain ⟨ad260, e260, hx260_0⟩ := Kd.at_int HR1.out x13_1 p260 q260
         cases e260
         replace p260 := eq_true p260; replace q260 := eq_true q260
         go_wp2
         repeat (go_quiet (fail); try go_wp2)
         (first | go_roundg k1 | (refine Handed.intro k1 ?measure ?_; rotate_left; go_step; (try simp only [add_plain]); (repeat apply Exists.intro); refine ⟨?rel, rfl⟩))
         case measure => have := HK1.out; omega
         case rel => exact ⟨(wrap64 (x13_1 + 1)), rS, H', ⟨by have := HK1.out; omega⟩, by repeat (first | exact Drawn0.refl _ | apply Drawn0.step)⟩
        ·
         rw [if_neg c8] at H; have c8b0 := beq_eq_false_iff_ne.mpr c8; have c8b1 := bne_iff_ne.mpr c8; obtain rfl := Option.some.inj H; have p259 : 0 ≤ (x13_1 : Int) := oA; have q259 : x13_1 < (l0.length : Int) := oA; obtain ⟨ad259, e259, hx259_0⟩ := Kd.at_int HR0.out x13_1 p259 q259
         cases e259
         replace p259 := eq_true p259; replace q259 := eq_true q259; have p260 : 0 ≤ (x13_1 : Int) := oA; have q260 : x13_1 < (l1.length : Int) := oA; obtain ⟨ad260, e260, hx260_0⟩ := Kd.at_int HR1.out x13_1 p260 q260
         cases e260
         replace p260 := eq_true p260; replace q260 := eq_true q260
         go_wp2
         repeat (go_quiet (fail); try go_wp2)
         go_ret
         exact ⟨by first | rfl | (simp; done) | (simp [*]; done), by repeat (first | exact Drawn0.refl _ | apply Drawn0.step)⟩
       ·
        rw [if_neg c7] at H
        exact absurd H (by simp)
      ·
       rw [if_neg c6] at H
       exact absurd H (by simp)
     ·
      rw [if_neg c5] at H
      exact absurd H (by simp)
    ·
     rw [if_neg c4] at H; have c4b0 := decide_eq_false c4; clear c4; obtain rfl := Option.some.inj H
     go_wp2
     repeat (go_quiet (fail); try go_wp2)
     go_ret
     exact ⟨by first | rfl | (simp; done) | (simp [*]; done), by repeat (first | exact Drawn0.refl _ | apply Drawn0.step)⟩
 ·
  rw [if_neg c3] at H; have c3b0 := beq_eq_false_iff_ne.mpr c3; have c3b1 := bne_iff_ne.mpr c3
  have c3b2 : (l0.length == l1.length) = false := by first | simpa using c3 | (simp at c3 ⊢; omega)
  obtain rfl := Option.some.inj H
  go_enter Try.func105, Try.ntmps105
  go_wp2
  repeat (go_quiet (fail); try go_wp2)
  go_ret
  exact ⟨by first | rfl | (simp; done) | (simp [*]; done), by repeat (first | exact Drawn0.refl _ | apply Drawn0.step)⟩
def impl_mul.l0 : Nat → List Int → List Int → List Int → Int → Int → Option (List Int)
 | 0, _, _, _, _, _ => none
 | k + 1, x1, x5, x11, x12, x13 => if x13 < x12 then (if 0 ≤ x13 then (if x13 < (x11.length : Int) then (if 0 ≤ (rd x11 x13) then (if (rd x11 x13) < (x1.length : Int) then (if x13 < (x5.length : Int) then (impl_mul.l0 k x1 (x5.set (x13 : Int).toNat (rd x1 (rd x11 x13))) x11 x12 (wrap64 (x13 + 1))) else (none)) else (none)) else (none)) else (none)) else (none)) else (some x5)
def impl_mul.f (k : Nat) (l0 : List Int) (l1 : List Int) : Option (List Int) := if 0 ≤ (l0.length : Int) then (if ((l0.length : Int) : Int).toNat ≤ 35184372088832 then (impl_mul.l0 k l1 (List.replicate ((l0.length : Int) : Int).toNat 0) l0 (l0.length : Int) 0) else (none)) else (none)
set_option maxHeartbeats 8000000 in
set_option maxRecDepth 100000 in
theorem impl_mul.calls (k : Nat) (A0 : Option Addr) (c0 : Nat) (l0 : List Int) (A1 : Option Addr) (c1 : Nat) (l1 : List Int) (r : List Int) (w : World) (hr0 : Kd.C (Kd.int .i64) w A0 l0.length l0) (hc0 : l0.length ≤ c0) (hr1 : Kd.C (Kd.int .i64) w A1 l1.length l1) (hc1 : l1.length ≤ c1) (h : impl_mul.f k l0 l1 = some r) :
  Calls Try.prog 67 #[.slice A0 l0.length c0, .slice A1 l1.length c1] w fun e w' => ∃ v0_ : Value, e = .returned (v0_) ∧ Kd.R (Kd.int .i64) 3 w' w.heap.size (fun _ => True) v0_ r ∧ Below w.heap.size w w' := by
 have HR0 := Az hr0; have HC0 := Az hc0; clear hr0 hc0; have HR1 := Az hr1; have HC1 := Az hc1; clear hr1 hc1; have HB := Az (Below.refl w.heap.size w); have H : (if 0 ≤ (l0.length : Int) then (if ((l0.length : Int) : Int).toNat ≤ 35184372088832 then (impl_mul.l0 k l1 (List.replicate ((l0.length : Int) : Int).toNat 0) l0 (l0.length : Int) 0) else (none)) else (none)) = some r := h; clear h
 by_cases c3 : 0 ≤ (l0.length : Int)
 ·
  rw [if_pos c3] at H; have c3b0 := eq_true c3; have c3b1 := decide_eq_true c3; clear c3
  by_cases c4 : ((l0.length : Int) : Int).toNat ≤ 35184372088832
  ·
   rw [if_pos c4] at H; have c4b0 := eq_true c4; have c4b1 := decide_eq_true c4; clear c4; obtain ⟨y261, hy261⟩ : ∃ y_ : List Int, y_ = (List.replicate ((l0.length : Int) : Int).toNat 0) := ⟨_, rfl⟩; replace H : (impl_mul.l0 k l1 y261 l0 (l0.length : Int) 0) = some r := hR hy261 H; have Ny261 := Az hy261; clear hy261; have H' := Az H; clear H
   go_enter Try.func67, Try.ntmps67
   go_wp2_with (first | ((with_reducible refine gate_dst (N := 10) rfl ?_); refine Kd.R_make (Kd.int .i64) _ 3 rfl (N := 10) rfl 23 _ _ rfl (l0.length : Int) rfl rfl Try.underlying23 (.int .i64 0) 8 info3 rfl (by decide) (by omega) 0 (ok := fun _ => True) (okp := fun _ => True) rfl (fun _ hk => hk) trivial (oA) (Nat.le_trans (Nat.mul_le_mul_right _ (oA : (l0.length : Int).toNat ≤ 35184372088832)) (by omega)) (Below.refl _ _) (Nat.le_refl _) ?_; intro v262 w5 ho6 hb hg_ hnew_; clear hg_ hnew_; (first | rw [← Ny261.out] at ho6 | (simp only [Int.reduceToNat] at ho6; rw [← Ny261.out] at ho6)); have n0 := Az (Kd.R_lower ho6 (below_size (bU0 HB.out))); have n1 := Az (below_step (bU0 HB.out) hb); clear HB; have HO263 := n0; have HB := n1; clear n0 n1; clear hb ho6))
   go_loopg [13] k (fun kq v13 w' => ∃ (x5_1 : List Int) (x13_1 : Int), v13 = .int .i64 x13_1 ∧ Aside0 (impl_mul.l0 kq l1 x5_1 l0 (l0.length : Int) x13_1 = some r) ∧ Aside0 (kq ≤ k) ∧ Aside0 (Kd.R (Kd.int .i64) 3 w' w.heap.size (fun _ => True) v262 x5_1) ∧ Aside0 (Below w.heap.size w w'))
   case atStart => exact ⟨(y261), (0), rS, H', ⟨Nat.le_refl _⟩, ⟨rU HO263.out⟩, ⟨bU0 HB.out⟩⟩
   case round =>
    clear H'; (try clear c1); (try clear p2); (try clear c3); (try clear c3b0); (try clear c3b1); (try clear c4); (try clear c4b0); (try clear c4b1); (try clear c6); obtain ⟨x5_1, x13_1, rfl, HA, HK1, HO_5, HB⟩ := hrel
    cases gk with
    | zero => exact absurd HA.out (by simp [impl_mul.l0])
    | succ k1 =>
     have H := HA.out; clear HA; simp only [impl_mul.l0] at H
     by_cases c7 : x13_1 < (l0.length : Int)
     ·
      rw [if_pos c7] at H; have c7b0 := decide_eq_true c7; clear c7
      by_cases c8 : 0 ≤ x13_1
      ·
       rw [if_pos c8] at H; have c8b0 := decide_eq_true c8; clear c8
       by_cases c9 : x13_1 < (l0.length : Int)
       ·
        rw [if_pos c9] at H; have c9b0 := decide_eq_true c9; clear c9
        by_cases c10 : 0 ≤ (rd l0 x13_1)
        ·
         rw [if_pos c10] at H; have c10b0 := decide_eq_true c10; clear c10
         by_cases c11 : (rd l0 x13_1) < (l1.length : Int)
         ·
          rw [if_pos c11] at H; have c11b0 := decide_eq_true c11; clear c11
          by_cases c12 : x13_1 < (x5_1.length : Int)
          ·
           rw [if_pos c12] at H; have c12b0 := decide_eq_true c12; clear c12; obtain ⟨y266, hy266⟩ : ∃ y_ : List Int, y_ = (x5_1.set (x13_1 : Int).toNat (rd l1 (rd l0 x13_1))) := ⟨_, rfl⟩; replace H : (impl_mul.l0 k1 l1 y266 l0 (l0.length : Int) (wrap64 (x13_1 + 1))) = some r := hR hy266 H; have Ny266 := Az hy266; clear hy266; have H' := Az H; clear H; have p264 : 0 ≤ (x13_1 : Int) := oA; have q264 : x13_1 < (l0.length : Int) := oA; obtain ⟨ad264, e264, hx264_0⟩ := Kd.at_int HR0.out x13_1 p264 q264
           cases e264
           (try replace hx264_0 := (HB.out.cell (World.block_lt_of_cell? w _ hx264_0)).trans hx264_0); replace p264 := eq_true p264; replace q264 := eq_true q264; have p265 : 0 ≤ ((rd l0 x13_1) : Int) := oA; have q265 : (rd l0 x13_1) < (l1.length : Int) := oA; obtain ⟨ad265, e265, hx265_0⟩ := Kd.at_int HR1.out (rd l0 x13_1) p265 q265
           cases e265
           (try replace hx265_0 := (HB.out.cell (World.block_lt_of_cell? w _ hx265_0)).trans hx265_0); replace p265 := eq_true p265; replace q265 := eq_true q265; have p13 : 0 ≤ (x13_1 : Int) := oA; have q13 : (x13_1 : Int) < ((x5_1.length : Int) : Int) := oA; obtain ⟨go13, co13, eo13, gb13, gl13, cl13, HG13⟩ := Kd.R_form HO_5.out (by omega); (first | cases eo13 | (injection eo13 with ea_ en_ ec_; (first | subst ea_ | (injection ea_ with ea_; subst ea_)); subst ec_; clear en_)); have GB13 := Az gb13; have GG13 := Az HG13; clear gb13 gl13 HG13; obtain ⟨hx13_0, hf13_0⟩ := Kd.R_celln 0 HO_5.out (x13_1 : Int) p13 q13; replace p13 := eq_true p13; replace q13 := eq_true q13; obtain ⟨hy14_, hz14_⟩ := Kd.R_celln 0 HO_5.out (x13_1 : Int) (oA) (oA); have HP14 := Kd.R_putg HO_5.out (x13_1 : Int) (rd l1 (rd l0 x13_1))
           go_wp2_with (first | ((with_reducible refine gate_store (t := 3) (p := 24) rfl ?_); refine store_event (t := 3) (p := 24) (v := ?vo_w15) (w1 := (wr.setCell ⟨go13, (x13_1 : Int).toNat, none⟩ (.int .i64 (rd l1 (rd l0 x13_1))))) ?hg ?ho ?hn ?hr ?_; (case ho => rfl); (case hg => rfl); (case hn => rfl); (case hr => first | (go_simp; done) | (go_simp; rfl)); intro w15 hw; have hg : wr.grownBy w15 (some go13) := (by rw [hw]; exact HP14.2); have hp_ : Kd.R (Kd.int .i64) 3 w15 w.heap.size (fun _ => True) (.slice (some ⟨go13, 0, none⟩) x5_1.length co13) y266 := (by rw [hw, Ny266.out]; exact HP14.1); clear HP14; have n0 := Az (hp_); have n1 := Az ((by rw [hw]; exact below_set (HB.out) GB13.out : Below w.heap.size w w15)); clear HO_5 HB; have HO_5 := n0; have HB := n1; clear n0 n1; clear hg hw hp_))
           (first | go_roundg k1 | (refine Handed.intro k1 ?measure ?_; rotate_left; go_step; (try simp only [add_plain]); (repeat apply Exists.intro); refine ⟨?rel, rfl⟩))
           case measure => have := HK1.out; omega
           case rel => exact ⟨(y266), (wrap64 (x13_1 + 1)), rS, H', ⟨by have := HK1.out; omega⟩, ⟨rU HO_5.out⟩, ⟨bU0 HB.out⟩⟩
          ·
           rw [if_neg c12] at H
           exact absurd H (by simp)
         ·
          rw [if_neg c11] at H
          exact absurd H (by simp)
        ·
         rw [if_neg c10] at H
         exact absurd H (by simp)
       ·
        rw [if_neg c9] at H
        exact absurd H (by simp)
      ·
       rw [if_neg c8] at H
       exact absurd H (by simp)
     ·
      rw [if_neg c7] at H; have c7b0 := decide_eq_false c7; clear c7; obtain rfl := Option.some.inj H
      go_wp2
      go_ret
      exact ⟨_, rE, rU HO_5.out, bU0 HB.out⟩
  ·
   rw [if_neg c4] at H
   exact absurd H (by simp)
 ·
  rw [if_neg c3] at H
  exact absurd H (by simp)
def impl_still.l0 : Nat → List Int → Int → Int → Option (List Int)
 | 0, _, _, _ => none
 | k + 1, x3, x8, x9 => if x9 < x8 then (if 0 ≤ x9 then (if x9 < (x3.length : Int) then (impl_still.l0 k (x3.set (x9 : Int).toNat x9) x8 (wrap64 (x9 + 1))) else (none)) else (none)) else (some x3)
def impl_still.f (k : Nat) (a0 : Int) : Option (List Int) := if 0 ≤ a0 then (if (a0 : Int).toNat ≤ 35184372088832 then ((some (List.replicate (a0 : Int).toNat 0 : List Int)).bind fun y267 => (impl_still.l0 k y267 (y267.length : Int) 0)) else (none)) else (none)
set_option maxHeartbeats 8000000 in
set_option maxRecDepth 100000 in
theorem impl_still.calls (k : Nat) (a0 : Int) (r : List Int) (w : World) (h : impl_still.f k a0 = some r) :
  Calls Try.prog 104 #[.int .i64 a0] w fun e w' => ∃ v0_ : Value, e = .returned (v0_) ∧ Kd.R (Kd.int .i64) 3 w' w.heap.size (fun _ => True) v0_ r ∧ Below w.heap.size w w' := by
 have HB := Az (Below.refl w.heap.size w); have H : (if 0 ≤ a0 then (if (a0 : Int).toNat ≤ 35184372088832 then ((some (List.replicate (a0 : Int).toNat 0 : List Int)).bind fun y267 => (impl_still.l0 k y267 (y267.length : Int) 0)) else (none)) else (none)) = some r := h; clear h
 by_cases c2 : 0 ≤ a0
 ·
  rw [if_pos c2] at H; have c2b0 := eq_true c2; have c2b1 := decide_eq_true c2; clear c2
  by_cases c3 : (a0 : Int).toNat ≤ 35184372088832
  ·
   rw [if_pos c3] at H; have c3b0 := eq_true c3; have c3b1 := decide_eq_true c3; clear c3; obtain ⟨y267, hy267⟩ : ∃ y_ : List Int, y_ = (List.replicate (a0 : Int).toNat 0) := ⟨_, rfl⟩; replace H : (impl_still.l0 k y267 (y267.length : Int) 0) = some r := hR hy267 H; have Ny267 := Az hy267; clear hy267; have H' := Az H; clear H
   go_enter Try.func104, Try.ntmps104
   go_wp2_with (first | ((with_reducible refine gate_dst (N := 6) rfl ?_); refine Kd.R_make (Kd.int .i64) _ 3 rfl (N := 6) rfl 23 _ _ rfl a0 rfl rfl Try.underlying23 (.int .i64 0) 8 info3 rfl (by decide) (by omega) 0 (ok := fun _ => True) (okp := fun _ => True) rfl (fun _ hk => hk) trivial (oA) (Nat.le_trans (Nat.mul_le_mul_right _ (oA : a0.toNat ≤ 35184372088832)) (by omega)) (Below.refl _ _) (Nat.le_refl _) ?_; intro v268 w4 ho5 hb hg_ hnew_; clear hg_ hnew_; (first | rw [← Ny267.out] at ho5 | (simp only [Int.reduceToNat] at ho5; rw [← Ny267.out] at ho5)); have n0 := Az (Kd.R_lower ho5 (below_size (bU0 HB.out))); have n1 := Az (below_step (bU0 HB.out) hb); clear HB; have HO269 := n0; have HB := n1; clear n0 n1 hb ho5; obtain ⟨Ao6, co6, eo6⟩ := Kd.R_slice HO269.out; subst eo6))
   go_loopg [9] k (fun kq v9 w' => ∃ (x3_1 : List Int) (x9_1 : Int), v9 = .int .i64 x9_1 ∧ Aside0 (impl_still.l0 kq x3_1 (y267.length : Int) x9_1 = some r) ∧ Aside0 (kq ≤ k) ∧ Aside0 (Kd.R (Kd.int .i64) 3 w' w.heap.size (fun _ => True) (.slice Ao6 y267.length co6) x3_1) ∧ Aside0 (Below w.heap.size w w'))
   case atStart => exact ⟨(y267), (0), rS, H', ⟨Nat.le_refl _⟩, ⟨rU HO269.out⟩, ⟨bU0 HB.out⟩⟩
   case round =>
    clear H'; (try clear c1); (try clear c2); (try clear c2b0); (try clear c2b1); (try clear p2); (try clear c3); (try clear c3b0); (try clear c3b1); obtain ⟨x3_1, x9_1, rfl, HA, HK1, HO_3, HB⟩ := hrel; have hl3_1 := (Kd.R_reads' HO_3.out).1; rw [hl3_1] at HO_3; (try simp only [hl3_1])
    cases gk with
    | zero => exact absurd HA.out (by simp [impl_still.l0])
    | succ k1 =>
     have H := HA.out; clear HA; simp only [impl_still.l0] at H
     by_cases c7 : x9_1 < (y267.length : Int)
     ·
      rw [if_pos c7] at H; have c7b0 := decide_eq_true c7; (try (have c7b0hl3_1 := c7b0; rw [hl3_1] at c7b0hl3_1)); clear c7
      by_cases c8 : 0 ≤ x9_1
      ·
       rw [if_pos c8] at H; have c8b0 := decide_eq_true c8; clear c8
       by_cases c9 : x9_1 < (x3_1.length : Int)
       ·
        rw [if_pos c9] at H; have c9b0 := decide_eq_true c9; (try (have c9b0hl3_1 := c9b0; rw [hl3_1] at c9b0hl3_1)); clear c9; obtain ⟨y270, hy270⟩ : ∃ y_ : List Int, y_ = (x3_1.set (x9_1 : Int).toNat x9_1) := ⟨_, rfl⟩; replace H : (impl_still.l0 k1 y270 (y267.length : Int) (wrap64 (x9_1 + 1))) = some r := hR hy270 H; have Ny270 := Az hy270; clear hy270; have H' := Az H; clear H; have p10 : 0 ≤ (x9_1 : Int) := oA; have q10 : (x9_1 : Int) < ((x3_1.length : Int) : Int) := oA; obtain ⟨go10, co10, eo10, gb10, gl10, cl10, HG10⟩ := Kd.R_form HO_3.out (by omega); (first | cases eo10 | (injection eo10 with ea_ en_ ec_; (first | subst ea_ | (injection ea_ with ea_; subst ea_)); subst ec_; clear en_)); have GB10 := Az gb10; have GG10 := Az HG10; clear gb10 gl10 HG10; obtain ⟨hx10_0, hf10_0⟩ := Kd.R_celln 0 HO_3.out (x9_1 : Int) p10 q10; replace p10 := eq_true p10; replace q10 := eq_true q10; obtain ⟨hy11_, hz11_⟩ := Kd.R_celln 0 HO_3.out (x9_1 : Int) (oA) (oA); have HP11 := Kd.R_putg HO_3.out (x9_1 : Int) x9_1
        go_wp2_with (first | ((with_reducible refine gate_store (t := 3) (p := 15) rfl ?_); refine store_event (t := 3) (p := 15) (v := ?vo_w12) (w1 := (wr.setCell ⟨go10, (x9_1 : Int).toNat, none⟩ (.int .i64 x9_1))) ?hg ?ho ?hn ?hr ?_; (case ho => rfl); (case hg => rfl); (case hn => rfl); (case hr => first | (go_simp; done) | (go_simp; rfl)); intro w12 hw; have hg : wr.grownBy w12 (some go10) := (by rw [hw]; exact HP11.2); have hp_ : Kd.R (Kd.int .i64) 3 w12 w.heap.size (fun _ => True) (.slice (some ⟨go10, 0, none⟩) x3_1.length co6) y270 := (by rw [hw, Ny270.out]; exact HP11.1); clear HP11; have n0 := Az (hp_); have n1 := Az ((by rw [hw]; exact below_set (HB.out) GB10.out : Below w.heap.size w w12)); clear HO_3 HB; have HO_3 := n0; have HB := n1; clear n0 n1; clear hg hw hp_))
        (try simp only [← hl3_1]); (first | go_roundg k1 | (refine Handed.intro k1 ?measure ?_; rotate_left; go_step; (try simp only [add_plain]); (repeat apply Exists.intro); refine ⟨?rel, rfl⟩))
        case measure => have := HK1.out; omega
        case rel => exact ⟨(y270), (wrap64 (x9_1 + 1)), rS, H', ⟨by have := HK1.out; omega⟩, ⟨by (try simp only [hl3_1]); (with_reducible repeat (first | apply Kd.R_alloc | apply Kd.R_drewN | apply Kd.R_drew)); exact HO_3.out⟩, ⟨bU0 HB.out⟩⟩
       ·
        rw [if_neg c9] at H
        exact absurd H (by simp)
      ·
       rw [if_neg c8] at H
       exact absurd H (by simp)
     ·
      rw [if_neg c7] at H; have c7b0 := decide_eq_false c7; (try (have c7b0hl3_1 := c7b0; rw [hl3_1] at c7b0hl3_1)); clear c7; obtain rfl := Option.some.inj H
      go_wp2
      go_ret
      exact ⟨_, rE, rU HO_3.out, bU0 HB.out⟩
  ·
   rw [if_neg c3] at H
   exact absurd H (by simp)
 ·
  rw [if_neg c2] at H
  exact absurd H (by simp)
def slices_Max_int_int.l0 : Nat → List Int → Int → Int → Option (Int)
 | 0, _, _, _ => none
 | k + 1, x0, x3, x4 => if x4 < (x0.length : Int) then (if 0 ≤ x4 then (slices_Max_int_int.l0 k x0 (mx x3 (rd x0 x4)) (wrap64 (x4 + 1))) else (none)) else (some x3)
def slices_Max_int_int.f (k : Nat) (l0 : List Int) : Option (Int) := if (l0.length : Int) < 1 then (none) else (if 0 < (l0.length : Int) then (slices_Max_int_int.l0 k l0 (rd l0 0) 1) else (none))
set_option maxHeartbeats 8000000 in
set_option maxRecDepth 100000 in
theorem slices_Max_int_int.calls (k : Nat) (A0 : Option Addr) (c0 : Nat) (l0 : List Int) (r : Int) (w : World) (hr0 : Kd.C (Kd.int .i64) w A0 l0.length l0) (hc0 : l0.length ≤ c0) (h : slices_Max_int_int.f k l0 = some r) :
  Calls Try.prog 98 #[.slice A0 l0.length c0] w fun e w' => e = .returned (.int .i64 r) ∧ Below w.heap.size w w' := by
 have HR0 := Az hr0; have HC0 := Az hc0; clear hr0 hc0; have HB := Az (Below.refl w.heap.size w); have H : (if (l0.length : Int) < 1 then (none) else (if 0 < (l0.length : Int) then (slices_Max_int_int.l0 k l0 (rd l0 0) 1) else (none))) = some r := h; clear h
 by_cases c2 : (l0.length : Int) < 1
 ·
  rw [if_pos c2] at H
  exact absurd H (by simp)
 ·
  rw [if_neg c2] at H; have c2b0 := decide_eq_false c2; have c2b1 : decide (l0.length < 1) = false := decide_eq_false (by omega); clear c2
  by_cases c3 : 0 < (l0.length : Int)
  ·
   rw [if_pos c3] at H; have c3b0 := decide_eq_true c3; have c3b1 : decide (0 < l0.length) = true := decide_eq_true (by omega); clear c3; have H' := Az H; clear H; have p271 : 0 ≤ (0 : Int) := (by omega); have q271 : 0 < (l0.length : Int) := oA; obtain ⟨ad271, e271, hx271_0⟩ := Kd.at_int HR0.out 0 p271 q271
   cases e271
   have qi271 : (0 < l0.length) = True := eq_true (by omega); (try rw [show ((0 : Int)).toNat = 0 from rfl] at hx271_0); (try rw [Addr.add_zero'] at hx271_0); replace p271 := eq_true p271; replace q271 := eq_true q271
   go_enter Try.func98, Try.ntmps98
   go_wp2
   go_loopg [3, 4] k (fun kq v3 v4 w' => ∃ (x3_1 : Int) (x4_1 : Int), v3 = .int .i64 x3_1 ∧ v4 = .int .i64 x4_1 ∧ Aside0 (slices_Max_int_int.l0 kq l0 x3_1 x4_1 = some r) ∧ Aside0 (kq ≤ k) ∧ Aside0 (Below w.heap.size w w'))
   case atStart => exact ⟨(rd l0 0), (1), rS, rS, H', ⟨Nat.le_refl _⟩, ⟨bU0 HB.out⟩⟩
   case round =>
    clear H'; (try clear c2); (try clear c2b0); (try clear c2b1); (try clear p2); (try clear q2); (try clear hx2); (try clear qi2); (try clear c3); (try clear c3b0); (try clear c3b1); (try clear hx271_0); (try clear p271); (try clear q271); obtain ⟨x3_1, x4_1, rfl, rfl, HA, HK1, HB⟩ := hrel
    cases gk with
    | zero => exact absurd HA.out (by simp [slices_Max_int_int.l0])
    | succ k1 =>
     have H := HA.out; clear HA; simp only [slices_Max_int_int.l0] at H
     by_cases c4 : x4_1 < (l0.length : Int)
     ·
      rw [if_pos c4] at H; have c4b0 := decide_eq_true c4; clear c4
      by_cases c5 : 0 ≤ x4_1
      ·
       rw [if_pos c5] at H; have c5b0 := decide_eq_true c5; clear c5; obtain ⟨ji6, hji6⟩ : ∃ j_ : Int, (mx x3_1 (rd l0 x4_1)) = j_ := ⟨_, rfl⟩
       replace H : (slices_Max_int_int.l0 k1 l0 ji6 (wrap64 (x4_1 + 1))) = some r := by first | (rw [hji6] at H; exact H) | (simp only [hji6] at H ⊢; exact H)
       have hji6_ : (if x3_1 < (rd l0 x4_1) then (rd l0 x4_1) else x3_1) = ji6 := hji6; have H' := Az H; clear H; have p272 : 0 ≤ (x4_1 : Int) := oA; have q272 : x4_1 < (l0.length : Int) := oA; obtain ⟨ad272, e272, hx272_0⟩ := Kd.at_int HR0.out x4_1 p272 q272; obtain rfl : ad271 = ad272 := (by injection e272); (try replace hx272_0 := (HB.out.cell (World.block_lt_of_cell? w _ hx272_0)).trans hx272_0); replace p272 := eq_true p272; replace q272 := eq_true q272
       go_wp2
       (first | go_roundg k1 | (refine Handed.intro k1 ?measure ?_; rotate_left; go_step; (try simp only [add_plain]); (repeat apply Exists.intro); refine ⟨?rel, rfl⟩))
       case measure => have := HK1.out; omega
       case rel => exact ⟨(ji6), (wrap64 (x4_1 + 1)), (by first | rfl | (simp; done) | (simp only [← hji6] <;> (first | rfl | simp)) | (simp [*]; done)), rS, H', ⟨by have := HK1.out; omega⟩, ⟨bU0 HB.out⟩⟩
      ·
       rw [if_neg c5] at H
       exact absurd H (by simp)
     ·
      rw [if_neg c4] at H; have c4b0 := decide_eq_false c4; clear c4; obtain rfl := Option.some.inj H
      go_wp2
      go_ret
      exact ⟨rE, bU0 HB.out⟩
  ·
   rw [if_neg c3] at H
   exact absurd H (by simp)
mutual
def impl_orbits.l0 : Nat → List (List Int) → List Int → Bool → Option (List Int)
 | 0, _, _, _ => none
 | k + 1, x0, x3, x4 => if x4 = true then (impl_orbits.l1 k x0 x3 false x0 (x0.length : Int) 0) else (some x3)
def impl_orbits.l1 : Nat → List (List Int) → List Int → Bool → List (List Int) → Int → Int → Option (List Int)
 | 0, _, _, _, _, _, _ => none
 | k + 1, x0, x3, x4, x16, x17, x18 => if x18 < x17 then (if 0 ≤ x18 then (if x18 < (x16.length : Int) then (impl_orbits.l2 k x0 x3 x4 x16 x17 x18 (rd_L1 x16 x18) ((rd_L1 x16 x18).length : Int) 0) else (none)) else (none)) else (impl_orbits.l0 k x0 x3 x4)
def impl_orbits.l2 : Nat → List (List Int) → List Int → Bool → List (List Int) → Int → Int → List Int → Int → Int → Option (List Int)
 | 0, _, _, _, _, _, _, _, _, _ => none
 | k + 1, x0, x3, x4, x16, x17, x18, x22, x23, x24 => if x24 < x23 then (if 0 ≤ x24 then (if x24 < (x22.length : Int) then (if x24 < (x3.length : Int) then (if 0 ≤ (rd x22 x24) then (if (rd x22 x24) < (x3.length : Int) then (if (rd x3 x24) = (mn (rd x3 x24) (rd x3 (rd x22 x24))) then (if (rd x3 (rd x22 x24)) = (mn (rd x3 x24) (rd x3 (rd x22 x24))) then (impl_orbits.l2 k x0 x3 x4 x16 x17 x18 x22 x23 (wrap64 (x24 + 1))) else (impl_orbits.l2 k x0 ((x3.set (x24 : Int).toNat (mn (rd x3 x24) (rd x3 (rd x22 x24)))).set ((rd x22 x24) : Int).toNat (mn (rd x3 x24) (rd x3 (rd x22 x24)))) true x16 x17 x18 x22 x23 (wrap64 (x24 + 1)))) else (impl_orbits.l2 k x0 ((x3.set (x24 : Int).toNat (mn (rd x3 x24) (rd x3 (rd x22 x24)))).set ((rd x22 x24) : Int).toNat (mn (rd x3 x24) (rd x3 (rd x22 x24)))) true x16 x17 x18 x22 x23 (wrap64 (x24 + 1)))) else (none)) else (none)) else (none)) else (none)) else (none)) else (impl_orbits.l1 k x0 x3 x4 x16 x17 (wrap64 (x18 + 1)))
end
def impl_orbits.f (k : Nat) (l0 : List (List Int)) : Option (List Int) := if 0 < (l0.length : Int) then ((impl_still.f k ((rd_L1 l0 0).length : Int)).bind fun t274 => (impl_orbits.l0 k l0 t274 true)) else (none)
set_option maxHeartbeats 8000000 in
set_option maxRecDepth 100000 in
theorem impl_orbits.calls (k : Nat) (A0 : Option Addr) (c0 : Nat) (l0 : List (List Int)) (r : List Int) (w : World) (hr0 : Kd.C (Kd.slice 3 (Kd.int .i64)) w A0 l0.length l0) (hc0 : l0.length ≤ c0) (h : impl_orbits.f k l0 = some r) :
  Calls Try.prog 99 #[.slice A0 l0.length c0] w fun e w' => ∃ v0_ : Value, e = .returned (v0_) ∧ Kd.R (Kd.int .i64) 3 w' w.heap.size (fun _ => True) v0_ r ∧ Below w.heap.size w w' := by
 have HR0 := Az hr0; have HC0 := Az hc0; clear hr0 hc0; have HB := Az (Below.refl w.heap.size w); have H : (if 0 < (l0.length : Int) then ((impl_still.f k ((rd_L1 l0 0).length : Int)).bind fun t274 => (impl_orbits.l0 k l0 t274 true)) else (none)) = some r := h; clear h
 by_cases c2 : 0 < (l0.length : Int)
 ·
  rw [if_pos c2] at H; have c2b0 := decide_eq_true c2; have c2b1 : decide (0 < l0.length) = true := decide_eq_true (by omega); clear c2; replace H := Option.bind_eq_some_iff.mp H; obtain ⟨t274, A30, H⟩ := H; replace H : (impl_orbits.l0 k l0 t274 true) = some r := H; have A3 := Az A30; clear A30; have H' := Az H; clear H; have p273 : 0 ≤ (0 : Int) := (by omega); have q273 : 0 < (l0.length : Int) := oA; obtain ⟨ad273, A273_0, c273_0, e273, hx273_0, hl273_0, hi273_0⟩ := at_L1 HR0.out 0 p273 q273
  cases e273
  have qi273 : (0 < l0.length) = True := eq_true (by omega); (try rw [show ((0 : Int)).toNat = 0 from rfl] at hx273_0); (try rw [Addr.add_zero'] at hx273_0); have HR273_0 := Az hi273_0; have HC273_0 := Az hl273_0; clear hi273_0 hl273_0; replace p273 := eq_true p273; replace q273 := eq_true q273
  go_enter Try.func99, Try.ntmps99
  go_wp2_with (first | (go_at_call 104; (with_reducible refine (impl_still.calls k ((rd_L1 l0 0).length : Int) t274 _ A3.out).mono ?_); rintro e w4 ⟨v275, rfl, ho0, hb⟩; have n0 := Az (Kd.R_lower ho0 (below_size (bU0 HB.out))); have n1 := Az (below_step (bU0 HB.out) hb); clear HB; have HO276 := n0; have HB := n1; clear n0 n1; (try clear hb); (try clear hb2); (try clear hk); (try clear hi); (try clear ho0)))
  repeat (go_quiet (first | (go_at_call 104; (try simp only [Go.IntWalk.i64_left]); (with_reducible refine (impl_still.calls k ((rd_L1 l0 0).length : Int) t274 _ A3.out).mono ?_); rintro e w4 ⟨v275, rfl, ho0, hb⟩; have n0 := Az (Kd.R_lower ho0 (below_size (bU0 HB.out))); have n1 := Az (below_step (bU0 HB.out) hb); clear HB; have HO276 := n0; have HB := n1; clear n0 n1; (try clear hb); (try clear hb2); (try clear hk); (try clear hi); (try clear ho0))); try go_wp2_with (first | (go_at_call 104; (try simp only [Go.IntWalk.i64_left]); (with_reducible refine (impl_still.calls k ((rd_L1 l0 0).length : Int) t274 _ A3.out).mono ?_); rintro e w4 ⟨v275, rfl, ho0, hb⟩; have n0 := Az (Kd.R_lower ho0 (below_size (bU0 HB.out))); have n1 := Az (below_step (bU0 HB.out) hb); clear HB; have HO276 := n0; have HB := n1; clear n0 n1; (try clear hb); (try clear hb2); (try clear hk); (try clear hi); (try clear ho0))))
  go_loopg [4] k (fun kq v4 w' => ∃ (x3_1 : List Int) (x4_1 : Bool), v4 = .bool x4_1 ∧ Aside0 (impl_orbits.l0 kq l0 x3_1 x4_1 = some r) ∧ Aside0 (kq ≤ k) ∧ Aside0 (Kd.R (Kd.int .i64) 3 w' w.heap.size (fun _ => True) v275 x3_1) ∧ Aside0 (Below w.heap.size w w'))
  case atStart => exact ⟨(t274), (true), rS, H', ⟨Nat.le_refl _⟩, ⟨rU HO276.out⟩, ⟨bU0 HB.out⟩⟩
  case round =>
   clear H'; (try clear c2); (try clear c2b0); (try clear c2b1); (try clear p2); (try clear q2); (try clear hx2); (try clear qi2); (try clear hx273_0); (try clear p273); (try clear q273); obtain ⟨x3_1, x4_1, rfl, HA, HK1, HO_3, HB⟩ := hrel
   cases gk with
   | zero => exact absurd HA.out (by simp [impl_orbits.l0])
   | succ k1 =>
    have H := HA.out; clear HA; simp only [impl_orbits.l0] at H
    by_cases c5 : x4_1 = true
    ·
     subst c5
     have H1 : (impl_orbits.l1 k1 l0 x3_1 false l0 (l0.length : Int) 0) = some r := by rw [if_pos rfl] at H; exact H
     clear H; have H := H1; clear H1; have H' := Az H; clear H
     go_wp2
     repeat (go_quiet (fail); try go_wp2)
     go_loopg [4, 18] k1 (fun kq v4 v18 w' => ∃ (x3_2 : List Int) (x4_2 : Bool) (x18_2 : Int), v4 = .bool x4_2 ∧ v18 = .int .i64 x18_2 ∧ Aside0 (impl_orbits.l1 kq l0 x3_2 x4_2 l0 (l0.length : Int) x18_2 = some r) ∧ Aside0 (kq ≤ k1) ∧ Aside0 (Kd.R (Kd.int .i64) 3 w' w.heap.size (fun _ => True) v275 x3_2) ∧ Aside0 (Below w.heap.size w w'))
     case atStart => exact ⟨(x3_1), (false), (0), rS, rS, H', ⟨Nat.le_refl _⟩, ⟨rU HO_3.out⟩, ⟨bU0 HB.out⟩⟩
     case round =>
      clear H'; (try clear c2); (try clear c2b0); (try clear c2b1); (try clear p2); (try clear q2); (try clear hx2); (try clear qi2); (try clear c5); (try clear hx273_0); (try clear p2); (try clear p273); (try clear q2); (try clear q273); obtain ⟨x3_2, x4_2, x18_2, rfl, rfl, HA, HK2, HO_3, HB⟩ := hrel
      cases gk with
      | zero => exact absurd HA.out (by simp [impl_orbits.l1])
      | succ k2 =>
       have H := HA.out; clear HA; simp only [impl_orbits.l1] at H
       by_cases c6 : x18_2 < (l0.length : Int)
       ·
        rw [if_pos c6] at H; have c6b0 := decide_eq_true c6; clear c6
        by_cases c7 : 0 ≤ x18_2
        ·
         rw [if_pos c7] at H; have c7b0 := decide_eq_true c7; clear c7
         by_cases c8 : x18_2 < (l0.length : Int)
         ·
          rw [if_pos c8] at H; have c8b0 := decide_eq_true c8; clear c8; have H' := Az H; clear H; have p277 : 0 ≤ (x18_2 : Int) := oA; have q277 : x18_2 < (l0.length : Int) := oA; obtain ⟨ad277, A277_0, c277_0, e277, hx277_0, hl277_0, hi277_0⟩ := at_L1 HR0.out x18_2 p277 q277; obtain rfl : ad273 = ad277 := (by injection e277); (try replace hx277_0 := (HB.out.cell (World.block_lt_of_cell? w _ hx277_0)).trans hx277_0); have HR277_0 := Az hi277_0; have HC277_0 := Az hl277_0; clear hi277_0 hl277_0; replace p277 := eq_true p277; replace q277 := eq_true q277
          go_wp2
          repeat (go_quiet (fail); try go_wp2)
          go_loopg [4, 24] k2 (fun kq v4 v24 w' => ∃ (x3_3 : List Int) (x4_3 : Bool) (x24_3 : Int), v4 = .bool x4_3 ∧ v24 = .int .i64 x24_3 ∧ Aside0 (impl_orbits.l2 kq l0 x3_3 x4_3 l0 (l0.length : Int) x18_2 (rd_L1 l0 x18_2) ((rd_L1 l0 x18_2).length : Int) x24_3 = some r) ∧ Aside0 (kq ≤ k2) ∧ Aside0 (Kd.R (Kd.int .i64) 3 w' w.heap.size (fun _ => True) v275 x3_3) ∧ Aside0 (Below w.heap.size w w'))
          case atStart => exact ⟨(x3_2), (x4_2), (0), rS, rS, H', ⟨Nat.le_refl _⟩, ⟨rU HO_3.out⟩, ⟨bU0 HB.out⟩⟩
          case round =>
           clear H'; (try clear c2); (try clear c2b0); (try clear c2b1); (try clear p2); (try clear q2); (try clear hx2); (try clear qi2); (try clear c5); (try clear c6); (try clear c6b0); (try clear c7); (try clear c7b0); (try clear c8); (try clear c8b0); (try clear hx273_0); (try clear hx277_0); (try clear p2); (try clear p273); (try clear p277); (try clear q2); (try clear q273); (try clear q277); obtain ⟨x3_3, x4_3, x24_3, rfl, rfl, HA, HK3, HO_3, HB⟩ := hrel
           cases gk with
           | zero => exact absurd HA.out (by simp [impl_orbits.l2])
           | succ k3 =>
            have H := HA.out; clear HA; simp only [impl_orbits.l2] at H
            by_cases c9 : x24_3 < ((rd_L1 l0 x18_2).length : Int)
            ·
             rw [if_pos c9] at H; have c9b0 := decide_eq_true c9; clear c9
             by_cases c10 : 0 ≤ x24_3
             ·
              rw [if_pos c10] at H; have c10b0 := decide_eq_true c10; clear c10
              by_cases c11 : x24_3 < ((rd_L1 l0 x18_2).length : Int)
              ·
               rw [if_pos c11] at H; have c11b0 := decide_eq_true c11; clear c11
               by_cases c12 : x24_3 < (x3_3.length : Int)
               ·
                rw [if_pos c12] at H; have c12b0 := decide_eq_true c12; clear c12
                by_cases c13 : 0 ≤ (rd (rd_L1 l0 x18_2) x24_3)
                ·
                 rw [if_pos c13] at H; have c13b0 := decide_eq_true c13; clear c13
                 by_cases c14 : (rd (rd_L1 l0 x18_2) x24_3) < (x3_3.length : Int)
                 ·
                  rw [if_pos c14] at H; have c14b0 := decide_eq_true c14; clear c14; obtain ⟨ji15, hji15⟩ : ∃ j_ : Int, (mn (rd x3_3 x24_3) (rd x3_3 (rd (rd_L1 l0 x18_2) x24_3))) = j_ := ⟨_, rfl⟩
                  replace H : (if (rd x3_3 x24_3) = (ji15) then (if (rd x3_3 (rd (rd_L1 l0 x18_2) x24_3)) = (ji15) then (impl_orbits.l2 k3 l0 x3_3 x4_3 l0 (l0.length : Int) x18_2 (rd_L1 l0 x18_2) ((rd_L1 l0 x18_2).length : Int) (wrap64 (x24_3 + 1))) else (impl_orbits.l2 k3 l0 ((x3_3.set (x24_3 : Int).toNat (ji15)).set ((rd (rd_L1 l0 x18_2) x24_3) : Int).toNat (ji15)) true l0 (l0.length : Int) x18_2 (rd_L1 l0 x18_2) ((rd_L1 l0 x18_2).length : Int) (wrap64 (x24_3 + 1)))) else (impl_orbits.l2 k3 l0 ((x3_3.set (x24_3 : Int).toNat (ji15)).set ((rd (rd_L1 l0 x18_2) x24_3) : Int).toNat (ji15)) true l0 (l0.length : Int) x18_2 (rd_L1 l0 x18_2) ((rd_L1 l0 x18_2).length : Int) (wrap64 (x24_3 + 1)))) = some r := by first | (rw [hji15] at H; exact H) | (simp only [hji15] at H ⊢; exact H)
                  have hji15_ : (if (rd x3_3 (rd (rd_L1 l0 x18_2) x24_3)) < (rd x3_3 x24_3) then (rd x3_3 (rd (rd_L1 l0 x18_2) x24_3)) else (rd x3_3 x24_3)) = ji15 := hji15
                  by_cases c16 : (rd x3_3 x24_3) = (ji15)
                  ·
                   rw [if_pos c16] at H; have c16b0 := beq_iff_eq.mpr c16; have c16b1 := bne_eq_false_iff_eq.mpr c16; clear c16
                   by_cases c17 : (rd x3_3 (rd (rd_L1 l0 x18_2) x24_3)) = (ji15)
                   ·
                    rw [if_pos c17] at H; have c17b0 := beq_iff_eq.mpr c17; have c17b1 := bne_eq_false_iff_eq.mpr c17; clear c17; have H' := Az H; clear H; have p278 : 0 ≤ (x24_3 : Int) := oA; have q278 : x24_3 < ((rd_L1 l0 x18_2).length : Int) := oA; obtain ⟨ad278, e278, hx278_0⟩ := Kd.at_int HR277_0.out x24_3 p278 q278
                    cases e278
                    (try replace hx278_0 := (HB.out.cell (World.block_lt_of_cell? w _ hx278_0)).trans hx278_0); replace p278 := eq_true p278; replace q278 := eq_true q278; obtain ⟨Ao18, co18, eo18⟩ := Kd.R_slice HO_3.out; subst eo18; have p279 : 0 ≤ (x24_3 : Int) := oA; have q279 : x24_3 < (x3_3.length : Int) := oA; obtain ⟨ad279, e279, hx279_0⟩ := Kd.at_int (Kd.R_reads' HO_3.out).2.2 x24_3 p279 q279
                    cases e279
                    replace p279 := eq_true p279; replace q279 := eq_true q279; have p280 : 0 ≤ ((rd (rd_L1 l0 x18_2) x24_3) : Int) := oA; have q280 : (rd (rd_L1 l0 x18_2) x24_3) < (x3_3.length : Int) := oA; obtain ⟨ad280, e280, hx280_0⟩ := Kd.at_int (Kd.R_reads' HO_3.out).2.2 (rd (rd_L1 l0 x18_2) x24_3) p280 q280; obtain rfl : ad279 = ad280 := (by injection e280); replace p280 := eq_true p280; replace q280 := eq_true q280; have p281 : 0 ≤ (x24_3 : Int) := oA; have q281 : x24_3 < (x3_3.length : Int) := oA; obtain ⟨ad281, e281, hx281_0⟩ := Kd.at_int (Kd.R_reads' HO_3.out).2.2 x24_3 p281 q281; obtain rfl : ad279 = ad281 := (by injection e281); replace p281 := eq_true p281; replace q281 := eq_true q281; have p282 : 0 ≤ ((rd (rd_L1 l0 x18_2) x24_3) : Int) := oA; have q282 : (rd (rd_L1 l0 x18_2) x24_3) < (x3_3.length : Int) := oA; obtain ⟨ad282, e282, hx282_0⟩ := Kd.at_int (Kd.R_reads' HO_3.out).2.2 (rd (rd_L1 l0 x18_2) x24_3) p282 q282; obtain rfl : ad279 = ad282 := (by injection e282); replace p282 := eq_true p282; replace q282 := eq_true q282
                    go_wp2
                    repeat (go_quiet (fail); try go_wp2)
                    (first | go_roundg k3 | (refine Handed.intro k3 ?measure ?_; rotate_left; go_step; (try simp only [add_plain]); (repeat apply Exists.intro); refine ⟨?rel, rfl⟩))
                    case measure => have := HK1.out; have := HK2.out; have := HK3.out; omega
                    case rel => exact ⟨(x3_3), (x4_3), (wrap64 (x24_3 + 1)), rS, rS, H', ⟨by have := HK1.out; have := HK2.out; have := HK3.out; omega⟩, ⟨rU HO_3.out⟩, ⟨bU0 HB.out⟩⟩
                   ·
                    rw [if_neg c17] at H; have c17b0 := beq_eq_false_iff_ne.mpr c17; have c17b1 := bne_iff_ne.mpr c17; clear c17; obtain ⟨y283, hy283⟩ : ∃ y_ : List Int, y_ = (x3_3.set (x24_3 : Int).toNat (ji15)) := ⟨_, rfl⟩; replace H : (impl_orbits.l2 k3 l0 (y283.set ((rd (rd_L1 l0 x18_2) x24_3) : Int).toNat (ji15)) true l0 (l0.length : Int) x18_2 (rd_L1 l0 x18_2) ((rd_L1 l0 x18_2).length : Int) (wrap64 (x24_3 + 1))) = some r := hR hy283 H; have Ny283 := Az hy283; clear hy283; obtain ⟨y284, hy284⟩ : ∃ y_ : List Int, y_ = (y283.set ((rd (rd_L1 l0 x18_2) x24_3) : Int).toNat (ji15)) := ⟨_, rfl⟩; replace H : (impl_orbits.l2 k3 l0 y284 true l0 (l0.length : Int) x18_2 (rd_L1 l0 x18_2) ((rd_L1 l0 x18_2).length : Int) (wrap64 (x24_3 + 1))) = some r := hR hy284 H; have Ny284 := Az hy284; clear hy284; have H' := Az H; clear H; have p278 : 0 ≤ (x24_3 : Int) := oA; have q278 : x24_3 < ((rd_L1 l0 x18_2).length : Int) := oA; obtain ⟨ad278, e278, hx278_0⟩ := Kd.at_int HR277_0.out x24_3 p278 q278
                    cases e278
                    (try replace hx278_0 := (HB.out.cell (World.block_lt_of_cell? w _ hx278_0)).trans hx278_0); replace p278 := eq_true p278; replace q278 := eq_true q278; obtain ⟨Ao21, co21, eo21⟩ := Kd.R_slice HO_3.out; subst eo21; have p279 : 0 ≤ (x24_3 : Int) := oA; have q279 : x24_3 < (x3_3.length : Int) := oA; obtain ⟨ad279, e279, hx279_0⟩ := Kd.at_int (Kd.R_reads' HO_3.out).2.2 x24_3 p279 q279
                    cases e279
                    replace p279 := eq_true p279; replace q279 := eq_true q279; have p280 : 0 ≤ ((rd (rd_L1 l0 x18_2) x24_3) : Int) := oA; have q280 : (rd (rd_L1 l0 x18_2) x24_3) < (x3_3.length : Int) := oA; obtain ⟨ad280, e280, hx280_0⟩ := Kd.at_int (Kd.R_reads' HO_3.out).2.2 (rd (rd_L1 l0 x18_2) x24_3) p280 q280; obtain rfl : ad279 = ad280 := (by injection e280); replace p280 := eq_true p280; replace q280 := eq_true q280; have p281 : 0 ≤ (x24_3 : Int) := oA; have q281 : x24_3 < (x3_3.length : Int) := oA; obtain ⟨ad281, e281, hx281_0⟩ := Kd.at_int (Kd.R_reads' HO_3.out).2.2 x24_3 p281 q281; obtain rfl : ad279 = ad281 := (by injection e281); replace p281 := eq_true p281; replace q281 := eq_true q281; have p282 : 0 ≤ ((rd (rd_L1 l0 x18_2) x24_3) : Int) := oA; have q282 : (rd (rd_L1 l0 x18_2) x24_3) < (x3_3.length : Int) := oA; obtain ⟨ad282, e282, hx282_0⟩ := Kd.at_int (Kd.R_reads' HO_3.out).2.2 (rd (rd_L1 l0 x18_2) x24_3) p282 q282; obtain rfl : ad279 = ad282 := (by injection e282); replace p282 := eq_true p282; replace q282 := eq_true q282; have p19 : 0 ≤ (x24_3 : Int) := oA; have q19 : (x24_3 : Int) < ((x3_3.length : Int) : Int) := oA; obtain ⟨go19, co19, eo19, gb19, gl19, cl19, HG19⟩ := Kd.R_form HO_3.out (by omega); (first | cases eo19 | (injection eo19 with ea_ en_ ec_; (first | subst ea_ | (injection ea_ with ea_; subst ea_)); subst ec_; clear en_)); have GB19 := Az gb19; have GG19 := Az HG19; clear gb19 gl19 HG19; (first | simp only [add_plain] at hx279_0 | skip); (first | simp only [add_plain] at hx280_0 | skip); (first | simp only [add_plain] at hx281_0 | skip); (first | simp only [add_plain] at hx282_0 | skip); obtain ⟨hx19_0, hf19_0⟩ := Kd.R_celln 0 HO_3.out (x24_3 : Int) p19 q19; replace p19 := eq_true p19; replace q19 := eq_true q19; obtain ⟨hy22_, hz22_⟩ := Kd.R_celln 0 HO_3.out (x24_3 : Int) (oA) (oA); have HP22 := Kd.R_putg HO_3.out (x24_3 : Int) ji15
                    go_wp2_with (first | ((with_reducible refine gate_store (t := 3) (p := 58) rfl ?_); (try (rw [drewN_self wr]; generalize hq_ : World.drewN wr _ = wr; have n0 := Az (Kd.R_at hq_ HO_3.out); have n1 := Az (below_at hq_ HB.out); clear hq_ HO_3 HB; have HO_3 := n0; have HB := n1; clear n0 n1; (try (obtain ⟨hy22_, hz22_⟩ := Kd.R_celln 0 HO_3.out (x24_3 : Int) (oA) (oA))); (try (have HP22 := Kd.R_putg HO_3.out (x24_3 : Int) ji15)))); refine store_event (t := 3) (p := 58) (v := ?vo_w23) (w1 := (wr.setCell ⟨go19, (x24_3 : Int).toNat, none⟩ (.int .i64 ji15))) ?hg ?ho ?hn ?hr ?_; (case ho => rfl); (case hg => rfl); (case hn => rfl); (case hr => first | (go_simp; done) | (go_simp; rfl)); intro w23 hw; have hg : wr.grownBy w23 (some go19) := (by rw [hw]; exact HP22.2); have hp_ : Kd.R (Kd.int .i64) 3 w23 w.heap.size (fun _ => True) (.slice (some ⟨go19, 0, none⟩) x3_3.length co21) y283 := (by rw [hw, Ny283.out]; exact HP22.1); clear HP22; have n0 := Az (hp_); have n1 := Az ((by rw [hw]; exact below_set (HB.out) GB19.out : Below w.heap.size w w23)); clear HO_3 HB; have HO_3 := n0; have HB := n1; clear n0 n1 hg hw hp_; have p20 : 0 ≤ ((rd (rd_L1 l0 x18_2) x24_3) : Int) := oA; have q20 : ((rd (rd_L1 l0 x18_2) x24_3) : Int) < ((x3_3.length : Int) : Int) := oA; obtain ⟨hx20_0, hf20_0⟩ := Kd.R_celln 0 HO_3.out ((rd (rd_L1 l0 x18_2) x24_3) : Int) p20 q20; replace p20 := eq_true p20; replace q20 := eq_true q20; obtain ⟨hy24_, hz24_⟩ := Kd.R_celln 0 HO_3.out ((rd (rd_L1 l0 x18_2) x24_3) : Int) (oA) (oA); have HP24 := Kd.R_putg HO_3.out ((rd (rd_L1 l0 x18_2) x24_3) : Int) ji15) | ((with_reducible refine gate_store (t := 3) (p := 59) rfl ?_); (try (rw [drewN_self w23]; generalize hq_ : World.drewN w23 _ = w23; have n0 := Az (Kd.R_at hq_ HO_3.out); have n1 := Az (below_at hq_ HB.out); clear hq_ HO_3 HB; have HO_3 := n0; have HB := n1; clear n0 n1; (try (obtain ⟨hy24_, hz24_⟩ := Kd.R_celln 0 HO_3.out ((rd (rd_L1 l0 x18_2) x24_3) : Int) (oA) (oA))); (try (have HP24 := Kd.R_putg HO_3.out ((rd (rd_L1 l0 x18_2) x24_3) : Int) ji15)))); refine store_event (t := 3) (p := 59) (v := ?vo_w25) (w1 := (w23.setCell ⟨go19, ((rd (rd_L1 l0 x18_2) x24_3) : Int).toNat, none⟩ (.int .i64 ji15))) ?hg ?ho ?hn ?hr ?_; (case ho => rfl); (case hg => rfl); (case hn => rfl); (case hr => first | (go_simp; done) | (go_simp; rfl)); intro w25 hw; have hg : w23.grownBy w25 (some go19) := (by rw [hw]; exact HP24.2); have hp_ : Kd.R (Kd.int .i64) 3 w25 w.heap.size (fun _ => True) (.slice (some ⟨go19, 0, none⟩) x3_3.length co21) y284 := (by rw [hw, Ny284.out]; exact HP24.1); clear HP24; have n0 := Az (hp_); have n1 := Az ((by rw [hw]; exact below_set (HB.out) GB19.out : Below w.heap.size w w25)); clear HO_3 HB; have HO_3 := n0; have HB := n1; clear n0 n1; clear hg hw hp_))
                    repeat (go_quiet (first | ((with_reducible refine gate_store (t := 3) (p := 58) rfl ?_); (try (rw [drewN_self wr]; generalize hq_ : World.drewN wr _ = wr; have n0 := Az (Kd.R_at hq_ HO_3.out); have n1 := Az (below_at hq_ HB.out); clear hq_ HO_3 HB; have HO_3 := n0; have HB := n1; clear n0 n1; (try (obtain ⟨hy22_, hz22_⟩ := Kd.R_celln 0 HO_3.out (x24_3 : Int) (oA) (oA))); (try (have HP22 := Kd.R_putg HO_3.out (x24_3 : Int) ji15)))); refine store_event (t := 3) (p := 58) (v := ?vo_w23) (w1 := (wr.setCell ⟨go19, (x24_3 : Int).toNat, none⟩ (.int .i64 ji15))) ?hg ?ho ?hn ?hr ?_; (case ho => rfl); (case hg => rfl); (case hn => rfl); (case hr => first | (go_simp; done) | (go_simp; rfl)); intro w23 hw; have hg : wr.grownBy w23 (some go19) := (by rw [hw]; exact HP22.2); have hp_ : Kd.R (Kd.int .i64) 3 w23 w.heap.size (fun _ => True) (.slice (some ⟨go19, 0, none⟩) x3_3.length co21) y283 := (by rw [hw, Ny283.out]; exact HP22.1); clear HP22; have n0 := Az (hp_); have n1 := Az ((by rw [hw]; exact below_set (HB.out) GB19.out : Below w.heap.size w w23)); clear HO_3 HB; have HO_3 := n0; have HB := n1; clear n0 n1 hg hw hp_; have p20 : 0 ≤ ((rd (rd_L1 l0 x18_2) x24_3) : Int) := oA; have q20 : ((rd (rd_L1 l0 x18_2) x24_3) : Int) < ((x3_3.length : Int) : Int) := oA; obtain ⟨hx20_0, hf20_0⟩ := Kd.R_celln 0 HO_3.out ((rd (rd_L1 l0 x18_2) x24_3) : Int) p20 q20; replace p20 := eq_true p20; replace q20 := eq_true q20; obtain ⟨hy24_, hz24_⟩ := Kd.R_celln 0 HO_3.out ((rd (rd_L1 l0 x18_2) x24_3) : Int) (oA) (oA); have HP24 := Kd.R_putg HO_3.out ((rd (rd_L1 l0 x18_2) x24_3) : Int) ji15) | ((with_reducible refine gate_store (t := 3) (p := 59) rfl ?_); (try (rw [drewN_self w23]; generalize hq_ : World.drewN w23 _ = w23; have n0 := Az (Kd.R_at hq_ HO_3.out); have n1 := Az (below_at hq_ HB.out); clear hq_ HO_3 HB; have HO_3 := n0; have HB := n1; clear n0 n1; (try (obtain ⟨hy24_, hz24_⟩ := Kd.R_celln 0 HO_3.out ((rd (rd_L1 l0 x18_2) x24_3) : Int) (oA) (oA))); (try (have HP24 := Kd.R_putg HO_3.out ((rd (rd_L1 l0 x18_2) x24_3) : Int) ji15)))); refine store_event (t := 3) (p := 59) (v := ?vo_w25) (w1 := (w23.setCell ⟨go19, ((rd (rd_L1 l0 x18_2) x24_3) : Int).toNat, none⟩ (.int .i64 ji15))) ?hg ?ho ?hn ?hr ?_; (case ho => rfl); (case hg => rfl); (case hn => rfl); (case hr => first | (go_simp; done) | (go_simp; rfl)); intro w25 hw; have hg : w23.grownBy w25 (some go19) := (by rw [hw]; exact HP24.2); have hp_ : Kd.R (Kd.int .i64) 3 w25 w.heap.size (fun _ => True) (.slice (some ⟨go19, 0, none⟩) x3_3.length co21) y284 := (by rw [hw, Ny284.out]; exact HP24.1); clear HP24; have n0 := Az (hp_); have n1 := Az ((by rw [hw]; exact below_set (HB.out) GB19.out : Below w.heap.size w w25)); clear HO_3 HB; have HO_3 := n0; have HB := n1; clear n0 n1; clear hg hw hp_)); try go_wp2_with (first | ((with_reducible refine gate_store (t := 3) (p := 58) rfl ?_); (try (rw [drewN_self wr]; generalize hq_ : World.drewN wr _ = wr; have n0 := Az (Kd.R_at hq_ HO_3.out); have n1 := Az (below_at hq_ HB.out); clear hq_ HO_3 HB; have HO_3 := n0; have HB := n1; clear n0 n1; (try (obtain ⟨hy22_, hz22_⟩ := Kd.R_celln 0 HO_3.out (x24_3 : Int) (oA) (oA))); (try (have HP22 := Kd.R_putg HO_3.out (x24_3 : Int) ji15)))); refine store_event (t := 3) (p := 58) (v := ?vo_w23) (w1 := (wr.setCell ⟨go19, (x24_3 : Int).toNat, none⟩ (.int .i64 ji15))) ?hg ?ho ?hn ?hr ?_; (case ho => rfl); (case hg => rfl); (case hn => rfl); (case hr => first | (go_simp; done) | (go_simp; rfl)); intro w23 hw; have hg : wr.grownBy w23 (some go19) := (by rw [hw]; exact HP22.2); have hp_ : Kd.R (Kd.int .i64) 3 w23 w.heap.size (fun _ => True) (.slice (some ⟨go19, 0, none⟩) x3_3.length co21) y283 := (by rw [hw, Ny283.out]; exact HP22.1); clear HP22; have n0 := Az (hp_); have n1 := Az ((by rw [hw]; exact below_set (HB.out) GB19.out : Below w.heap.size w w23)); clear HO_3 HB; have HO_3 := n0; have HB := n1; clear n0 n1 hg hw hp_; have p20 : 0 ≤ ((rd (rd_L1 l0 x18_2) x24_3) : Int) := oA; have q20 : ((rd (rd_L1 l0 x18_2) x24_3) : Int) < ((x3_3.length : Int) : Int) := oA; obtain ⟨hx20_0, hf20_0⟩ := Kd.R_celln 0 HO_3.out ((rd (rd_L1 l0 x18_2) x24_3) : Int) p20 q20; replace p20 := eq_true p20; replace q20 := eq_true q20; obtain ⟨hy24_, hz24_⟩ := Kd.R_celln 0 HO_3.out ((rd (rd_L1 l0 x18_2) x24_3) : Int) (oA) (oA); have HP24 := Kd.R_putg HO_3.out ((rd (rd_L1 l0 x18_2) x24_3) : Int) ji15) | ((with_reducible refine gate_store (t := 3) (p := 59) rfl ?_); (try (rw [drewN_self w23]; generalize hq_ : World.drewN w23 _ = w23; have n0 := Az (Kd.R_at hq_ HO_3.out); have n1 := Az (below_at hq_ HB.out); clear hq_ HO_3 HB; have HO_3 := n0; have HB := n1; clear n0 n1; (try (obtain ⟨hy24_, hz24_⟩ := Kd.R_celln 0 HO_3.out ((rd (rd_L1 l0 x18_2) x24_3) : Int) (oA) (oA))); (try (have HP24 := Kd.R_putg HO_3.out ((rd (rd_L1 l0 x18_2) x24_3) : Int) ji15)))); refine store_event (t := 3) (p := 59) (v := ?vo_w25) (w1 := (w23.setCell ⟨go19, ((rd (rd_L1 l0 x18_2) x24_3) : Int).toNat, none⟩ (.int .i64 ji15))) ?hg ?ho ?hn ?hr ?_; (case ho => rfl); (case hg => rfl); (case hn => rfl); (case hr => first | (go_simp; done) | (go_simp; rfl)); intro w25 hw; have hg : w23.grownBy w25 (some go19) := (by rw [hw]; exact HP24.2); have hp_ : Kd.R (Kd.int .i64) 3 w25 w.heap.size (fun _ => True) (.slice (some ⟨go19, 0, none⟩) x3_3.length co21) y284 := (by rw [hw, Ny284.out]; exact HP24.1); clear HP24; have n0 := Az (hp_); have n1 := Az ((by rw [hw]; exact below_set (HB.out) GB19.out : Below w.heap.size w w25)); clear HO_3 HB; have HO_3 := n0; have HB := n1; clear n0 n1; clear hg hw hp_)))
                    (first | go_roundg k3 | (refine Handed.intro k3 ?measure ?_; rotate_left; go_step; (try simp only [add_plain]); (repeat apply Exists.intro); refine ⟨?rel, rfl⟩))
                    case measure => have := HK1.out; have := HK2.out; have := HK3.out; omega
                    case rel => exact ⟨(y284), (true), (wrap64 (x24_3 + 1)), rS, rS, H', ⟨by have := HK1.out; have := HK2.out; have := HK3.out; omega⟩, ⟨rU HO_3.out⟩, ⟨bU0 HB.out⟩⟩
                  ·
                   rw [if_neg c16] at H; have c16b0 := beq_eq_false_iff_ne.mpr c16; have c16b1 := bne_iff_ne.mpr c16; clear c16; obtain ⟨y285, hy285⟩ : ∃ y_ : List Int, y_ = (x3_3.set (x24_3 : Int).toNat (ji15)) := ⟨_, rfl⟩; replace H : (impl_orbits.l2 k3 l0 (y285.set ((rd (rd_L1 l0 x18_2) x24_3) : Int).toNat (ji15)) true l0 (l0.length : Int) x18_2 (rd_L1 l0 x18_2) ((rd_L1 l0 x18_2).length : Int) (wrap64 (x24_3 + 1))) = some r := hR hy285 H; have Ny285 := Az hy285; clear hy285; obtain ⟨y286, hy286⟩ : ∃ y_ : List Int, y_ = (y285.set ((rd (rd_L1 l0 x18_2) x24_3) : Int).toNat (ji15)) := ⟨_, rfl⟩; replace H : (impl_orbits.l2 k3 l0 y286 true l0 (l0.length : Int) x18_2 (rd_L1 l0 x18_2) ((rd_L1 l0 x18_2).length : Int) (wrap64 (x24_3 + 1))) = some r := hR hy286 H; have Ny286 := Az hy286; clear hy286; have H' := Az H; clear H; have p278 : 0 ≤ (x24_3 : Int) := oA; have q278 : x24_3 < ((rd_L1 l0 x18_2).length : Int) := oA; obtain ⟨ad278, e278, hx278_0⟩ := Kd.at_int HR277_0.out x24_3 p278 q278
                   cases e278
                   (try replace hx278_0 := (HB.out.cell (World.block_lt_of_cell? w _ hx278_0)).trans hx278_0); replace p278 := eq_true p278; replace q278 := eq_true q278; obtain ⟨Ao28, co28, eo28⟩ := Kd.R_slice HO_3.out; subst eo28; have p279 : 0 ≤ (x24_3 : Int) := oA; have q279 : x24_3 < (x3_3.length : Int) := oA; obtain ⟨ad279, e279, hx279_0⟩ := Kd.at_int (Kd.R_reads' HO_3.out).2.2 x24_3 p279 q279
                   cases e279
                   replace p279 := eq_true p279; replace q279 := eq_true q279; have p280 : 0 ≤ ((rd (rd_L1 l0 x18_2) x24_3) : Int) := oA; have q280 : (rd (rd_L1 l0 x18_2) x24_3) < (x3_3.length : Int) := oA; obtain ⟨ad280, e280, hx280_0⟩ := Kd.at_int (Kd.R_reads' HO_3.out).2.2 (rd (rd_L1 l0 x18_2) x24_3) p280 q280; obtain rfl : ad279 = ad280 := (by injection e280); replace p280 := eq_true p280; replace q280 := eq_true q280; have p281 : 0 ≤ (x24_3 : Int) := oA; have q281 : x24_3 < (x3_3.length : Int) := oA; obtain ⟨ad281, e281, hx281_0⟩ := Kd.at_int (Kd.R_reads' HO_3.out).2.2 x24_3 p281 q281; obtain rfl : ad279 = ad281 := (by injection e281); replace p281 := eq_true p281; replace q281 := eq_true q281; have p26 : 0 ≤ (x24_3 : Int) := oA; have q26 : (x24_3 : Int) < ((x3_3.length : Int) : Int) := oA; obtain ⟨go26, co26, eo26, gb26, gl26, cl26, HG26⟩ := Kd.R_form HO_3.out (by omega); (first | cases eo26 | (injection eo26 with ea_ en_ ec_; (first | subst ea_ | (injection ea_ with ea_; subst ea_)); subst ec_; clear en_)); have GB26 := Az gb26; have GG26 := Az HG26; clear gb26 gl26 HG26; (first | simp only [add_plain] at hx279_0 | skip); (first | simp only [add_plain] at hx280_0 | skip); (first | simp only [add_plain] at hx281_0 | skip); obtain ⟨hx26_0, hf26_0⟩ := Kd.R_celln 0 HO_3.out (x24_3 : Int) p26 q26; replace p26 := eq_true p26; replace q26 := eq_true q26; obtain ⟨hy29_, hz29_⟩ := Kd.R_celln 0 HO_3.out (x24_3 : Int) (oA) (oA); have HP29 := Kd.R_putg HO_3.out (x24_3 : Int) ji15
                   go_wp2_with (first | ((with_reducible refine gate_store (t := 3) (p := 58) rfl ?_); (try (rw [drewN_self wr]; generalize hq_ : World.drewN wr _ = wr; have n0 := Az (Kd.R_at hq_ HO_3.out); have n1 := Az (below_at hq_ HB.out); clear hq_ HO_3 HB; have HO_3 := n0; have HB := n1; clear n0 n1; (try (obtain ⟨hy29_, hz29_⟩ := Kd.R_celln 0 HO_3.out (x24_3 : Int) (oA) (oA))); (try (have HP29 := Kd.R_putg HO_3.out (x24_3 : Int) ji15)))); refine store_event (t := 3) (p := 58) (v := ?vo_w30) (w1 := (wr.setCell ⟨go26, (x24_3 : Int).toNat, none⟩ (.int .i64 ji15))) ?hg ?ho ?hn ?hr ?_; (case ho => rfl); (case hg => rfl); (case hn => rfl); (case hr => first | (go_simp; done) | (go_simp; rfl)); intro w30 hw; have hg : wr.grownBy w30 (some go26) := (by rw [hw]; exact HP29.2); have hp_ : Kd.R (Kd.int .i64) 3 w30 w.heap.size (fun _ => True) (.slice (some ⟨go26, 0, none⟩) x3_3.length co28) y285 := (by rw [hw, Ny285.out]; exact HP29.1); clear HP29; have n0 := Az (hp_); have n1 := Az ((by rw [hw]; exact below_set (HB.out) GB26.out : Below w.heap.size w w30)); clear HO_3 HB; have HO_3 := n0; have HB := n1; clear n0 n1 hg hw hp_; have p27 : 0 ≤ ((rd (rd_L1 l0 x18_2) x24_3) : Int) := oA; have q27 : ((rd (rd_L1 l0 x18_2) x24_3) : Int) < ((x3_3.length : Int) : Int) := oA; obtain ⟨hx27_0, hf27_0⟩ := Kd.R_celln 0 HO_3.out ((rd (rd_L1 l0 x18_2) x24_3) : Int) p27 q27; replace p27 := eq_true p27; replace q27 := eq_true q27; obtain ⟨hy31_, hz31_⟩ := Kd.R_celln 0 HO_3.out ((rd (rd_L1 l0 x18_2) x24_3) : Int) (oA) (oA); have HP31 := Kd.R_putg HO_3.out ((rd (rd_L1 l0 x18_2) x24_3) : Int) ji15) | ((with_reducible refine gate_store (t := 3) (p := 59) rfl ?_); (try (rw [drewN_self w30]; generalize hq_ : World.drewN w30 _ = w30; have n0 := Az (Kd.R_at hq_ HO_3.out); have n1 := Az (below_at hq_ HB.out); clear hq_ HO_3 HB; have HO_3 := n0; have HB := n1; clear n0 n1; (try (obtain ⟨hy31_, hz31_⟩ := Kd.R_celln 0 HO_3.out ((rd (rd_L1 l0 x18_2) x24_3) : Int) (oA) (oA))); (try (have HP31 := Kd.R_putg HO_3.out ((rd (rd_L1 l0 x18_2) x24_3) : Int) ji15)))); refine store_event (t := 3) (p := 59) (v := ?vo_w32) (w1 := (w30.setCell ⟨go26, ((rd (rd_L1 l0 x18_2) x24_3) : Int).toNat, none⟩ (.int .i64 ji15))) ?hg ?ho ?hn ?hr ?_; (case ho => rfl); (case hg => rfl); (case hn => rfl); (case hr => first | (go_simp; done) | (go_simp; rfl)); intro w32 hw; have hg : w30.grownBy w32 (some go26) := (by rw [hw]; exact HP31.2); have hp_ : Kd.R (Kd.int .i64) 3 w32 w.heap.size (fun _ => True) (.slice (some ⟨go26, 0, none⟩) x3_3.length co28) y286 := (by rw [hw, Ny286.out]; exact HP31.1); clear HP31; have n0 := Az (hp_); have n1 := Az ((by rw [hw]; exact below_set (HB.out) GB26.out : Below w.heap.size w w32)); clear HO_3 HB; have HO_3 := n0; have HB := n1; clear n0 n1; clear hg hw hp_))
                   repeat (go_quiet (first | ((with_reducible refine gate_store (t := 3) (p := 58) rfl ?_); (try (rw [drewN_self wr]; generalize hq_ : World.drewN wr _ = wr; have n0 := Az (Kd.R_at hq_ HO_3.out); have n1 := Az (below_at hq_ HB.out); clear hq_ HO_3 HB; have HO_3 := n0; have HB := n1; clear n0 n1; (try (obtain ⟨hy29_, hz29_⟩ := Kd.R_celln 0 HO_3.out (x24_3 : Int) (oA) (oA))); (try (have HP29 := Kd.R_putg HO_3.out (x24_3 : Int) ji15)))); refine store_event (t := 3) (p := 58) (v := ?vo_w30) (w1 := (wr.setCell ⟨go26, (x24_3 : Int).toNat, none⟩ (.int .i64 ji15))) ?hg ?ho ?hn ?hr ?_; (case ho => rfl); (case hg => rfl); (case hn => rfl); (case hr => first | (go_simp; done) | (go_simp; rfl)); intro w30 hw; have hg : wr.grownBy w30 (some go26) := (by rw [hw]; exact HP29.2); have hp_ : Kd.R (Kd.int .i64) 3 w30 w.heap.size (fun _ => True) (.slice (some ⟨go26, 0, none⟩) x3_3.length co28) y285 := (by rw [hw, Ny285.out]; exact HP29.1); clear HP29; have n0 := Az (hp_); have n1 := Az ((by rw [hw]; exact below_set (HB.out) GB26.out : Below w.heap.size w w30)); clear HO_3 HB; have HO_3 := n0; have HB := n1; clear n0 n1 hg hw hp_; have p27 : 0 ≤ ((rd (rd_L1 l0 x18_2) x24_3) : Int) := oA; have q27 : ((rd (rd_L1 l0 x18_2) x24_3) : Int) < ((x3_3.length : Int) : Int) := oA; obtain ⟨hx27_0, hf27_0⟩ := Kd.R_celln 0 HO_3.out ((rd (rd_L1 l0 x18_2) x24_3) : Int) p27 q27; replace p27 := eq_true p27; replace q27 := eq_true q27; obtain ⟨hy31_, hz31_⟩ := Kd.R_celln 0 HO_3.out ((rd (rd_L1 l0 x18_2) x24_3) : Int) (oA) (oA); have HP31 := Kd.R_putg HO_3.out ((rd (rd_L1 l0 x18_2) x24_3) : Int) ji15) | ((with_reducible refine gate_store (t := 3) (p := 59) rfl ?_); (try (rw [drewN_self w30]; generalize hq_ : World.drewN w30 _ = w30; have n0 := Az (Kd.R_at hq_ HO_3.out); have n1 := Az (below_at hq_ HB.out); clear hq_ HO_3 HB; have HO_3 := n0; have HB := n1; clear n0 n1; (try (obtain ⟨hy31_, hz31_⟩ := Kd.R_celln 0 HO_3.out ((rd (rd_L1 l0 x18_2) x24_3) : Int) (oA) (oA))); (try (have HP31 := Kd.R_putg HO_3.out ((rd (rd_L1 l0 x18_2) x24_3) : Int) ji15)))); refine store_event (t := 3) (p := 59) (v := ?vo_w32) (w1 := (w30.setCell ⟨go26, ((rd (rd_L1 l0 x18_2) x24_3) : Int).toNat, none⟩ (.int .i64 ji15))) ?hg ?ho ?hn ?hr ?_; (case ho => rfl); (case hg => rfl); (case hn => rfl); (case hr => first | (go_simp; done) | (go_simp; rfl)); intro w32 hw; have hg : w30.grownBy w32 (some go26) := (by rw [hw]; exact HP31.2); have hp_ : Kd.R (Kd.int .i64) 3 w32 w.heap.size (fun _ => True) (.slice (some ⟨go26, 0, none⟩) x3_3.length co28) y286 := (by rw [hw, Ny286.out]; exact HP31.1); clear HP31; have n0 := Az (hp_); have n1 := Az ((by rw [hw]; exact below_set (HB.out) GB26.out : Below w.heap.size w w32)); clear HO_3 HB; have HO_3 := n0; have HB := n1; clear n0 n1; clear hg hw hp_)); try go_wp2_with (first | ((with_reducible refine gate_store (t := 3) (p := 58) rfl ?_); (try (rw [drewN_self wr]; generalize hq_ : World.drewN wr _ = wr; have n0 := Az (Kd.R_at hq_ HO_3.out); have n1 := Az (below_at hq_ HB.out); clear hq_ HO_3 HB; have HO_3 := n0; have HB := n1; clear n0 n1; (try (obtain ⟨hy29_, hz29_⟩ := Kd.R_celln 0 HO_3.out (x24_3 : Int) (oA) (oA))); (try (have HP29 := Kd.R_putg HO_3.out (x24_3 : Int) ji15)))); refine store_event (t := 3) (p := 58) (v := ?vo_w30) (w1 := (wr.setCell ⟨go26, (x24_3 : Int).toNat, none⟩ (.int .i64 ji15))) ?hg ?ho ?hn ?hr ?_; (case ho => rfl); (case hg => rfl); (case hn => rfl); (case hr => first | (go_simp; done) | (go_simp; rfl)); intro w30 hw; have hg : wr.grownBy w30 (some go26) := (by rw [hw]; exact HP29.2); have hp_ : Kd.R (Kd.int .i64) 3 w30 w.heap.size (fun _ => True) (.slice (some ⟨go26, 0, none⟩) x3_3.length co28) y285 := (by rw [hw, Ny285.out]; exact HP29.1); clear HP29; have n0 := Az (hp_); have n1 := Az ((by rw [hw]; exact below_set (HB.out) GB26.out : Below w.heap.size w w30)); clear HO_3 HB; have HO_3 := n0; have HB := n1; clear n0 n1 hg hw hp_; have p27 : 0 ≤ ((rd (rd_L1 l0 x18_2) x24_3) : Int) := oA; have q27 : ((rd (rd_L1 l0 x18_2) x24_3) : Int) < ((x3_3.length : Int) : Int) := oA; obtain ⟨hx27_0, hf27_0⟩ := Kd.R_celln 0 HO_3.out ((rd (rd_L1 l0 x18_2) x24_3) : Int) p27 q27; replace p27 := eq_true p27; replace q27 := eq_true q27; obtain ⟨hy31_, hz31_⟩ := Kd.R_celln 0 HO_3.out ((rd (rd_L1 l0 x18_2) x24_3) : Int) (oA) (oA); have HP31 := Kd.R_putg HO_3.out ((rd (rd_L1 l0 x18_2) x24_3) : Int) ji15) | ((with_reducible refine gate_store (t := 3) (p := 59) rfl ?_); (try (rw [drewN_self w30]; generalize hq_ : World.drewN w30 _ = w30; have n0 := Az (Kd.R_at hq_ HO_3.out); have n1 := Az (below_at hq_ HB.out); clear hq_ HO_3 HB; have HO_3 := n0; have HB := n1; clear n0 n1; (try (obtain ⟨hy31_, hz31_⟩ := Kd.R_celln 0 HO_3.out ((rd (rd_L1 l0 x18_2) x24_3) : Int) (oA) (oA))); (try (have HP31 := Kd.R_putg HO_3.out ((rd (rd_L1 l0 x18_2) x24_3) : Int) ji15)))); refine store_event (t := 3) (p := 59) (v := ?vo_w32) (w1 := (w30.setCell ⟨go26, ((rd (rd_L1 l0 x18_2) x24_3) : Int).toNat, none⟩ (.int .i64 ji15))) ?hg ?ho ?hn ?hr ?_; (case ho => rfl); (case hg => rfl); (case hn => rfl); (case hr => first | (go_simp; done) | (go_simp; rfl)); intro w32 hw; have hg : w30.grownBy w32 (some go26) := (by rw [hw]; exact HP31.2); have hp_ : Kd.R (Kd.int .i64) 3 w32 w.heap.size (fun _ => True) (.slice (some ⟨go26, 0, none⟩) x3_3.length co28) y286 := (by rw [hw, Ny286.out]; exact HP31.1); clear HP31; have n0 := Az (hp_); have n1 := Az ((by rw [hw]; exact below_set (HB.out) GB26.out : Below w.heap.size w w32)); clear HO_3 HB; have HO_3 := n0; have HB := n1; clear n0 n1; clear hg hw hp_)))
                   (first | go_roundg k3 | (refine Handed.intro k3 ?measure ?_; rotate_left; go_step; (try simp only [add_plain]); (repeat apply Exists.intro); refine ⟨?rel, rfl⟩))
                   case measure => have := HK1.out; have := HK2.out; have := HK3.out; omega
                   case rel => exact ⟨(y286), (true), (wrap64 (x24_3 + 1)), rS, rS, H', ⟨by have := HK1.out; have := HK2.out; have := HK3.out; omega⟩, ⟨rU HO_3.out⟩, ⟨bU0 HB.out⟩⟩
                 ·
                  rw [if_neg c14] at H
                  exact absurd H (by simp)
                ·
                 rw [if_neg c13] at H
                 exact absurd H (by simp)
               ·
                rw [if_neg c12] at H
                exact absurd H (by simp)
              ·
               rw [if_neg c11] at H
               exact absurd H (by simp)
             ·
              rw [if_neg c10] at H
              exact absurd H (by simp)
            ·
             rw [if_neg c9] at H; have c9b0 := decide_eq_false c9; clear c9; have H' := Az H; clear H
             go_wp2
             repeat (go_quiet (fail); try go_wp2)
             (first | go_roundg k3 | (refine Handed.intro k3 ?measure ?_; rotate_left; go_step; (try simp only [add_plain]); (repeat apply Exists.intro); refine ⟨?rel, rfl⟩))
             case measure => have := HK1.out; have := HK2.out; have := HK3.out; omega
             case rel => exact ⟨(x3_3), (x4_3), (wrap64 (x18_2 + 1)), rS, rS, H', ⟨by have := HK1.out; have := HK2.out; have := HK3.out; omega⟩, ⟨rU HO_3.out⟩, ⟨bU0 HB.out⟩⟩
         ·
          rw [if_neg c8] at H
          exact absurd H (by simp)
        ·
         rw [if_neg c7] at H
         exact absurd H (by simp)
       ·
        rw [if_neg c6] at H; have c6b0 := decide_eq_false c6; clear c6; have H' := Az H; clear H
        go_wp2
        repeat (go_quiet (fail); try go_wp2)
        (first | go_roundg k2 | (refine Handed.intro k2 ?measure ?_; rotate_left; go_step; (try simp only [add_plain]); (repeat apply Exists.intro); refine ⟨?rel, rfl⟩))
        case measure => have := HK1.out; have := HK2.out; omega
        case rel => exact ⟨(x3_2), (x4_2), rS, H', ⟨by have := HK1.out; have := HK2.out; omega⟩, ⟨rU HO_3.out⟩, ⟨bU0 HB.out⟩⟩
    ·
     replace c5 := Bool.eq_false_iff.mpr c5; subst c5
     have H1 : (some x3_1) = some r := by rw [if_neg (show ¬ (false = true) by decide)] at H; exact H
     clear H; have H := H1; clear H1; obtain rfl := Option.some.inj H
     go_wp2
     repeat (go_quiet (fail); try go_wp2)
     go_ret
     exact ⟨_, rE, rU HO_3.out, bU0 HB.out⟩
 ·
  rw [if_neg c2] at H
  exact absurd H (by simp)
def laws_sumOf.l0 : Nat → List Int → Int → Int → Option (Int)
 | 0, _, _, _ => none
 | k + 1, x0, x3, x4 => if x4 < (x0.length : Int) then (if 0 ≤ x4 then (laws_sumOf.l0 k x0 (wrap64 (x3 + (rd x0 x4))) (wrap64 (x4 + 1))) else (none)) else (some x3)
def laws_sumOf.f (k : Nat) (l0 : List Int) : Option (Int) := laws_sumOf.l0 k l0 0 0
set_option maxHeartbeats 8000000 in
set_option maxRecDepth 100000 in
theorem laws_sumOf.calls (k : Nat) (A0 : Option Addr) (c0 : Nat) (l0 : List Int) (r : Int) (w : World) (hr0 : Kd.C (Kd.int .i64) w A0 l0.length l0) (hc0 : l0.length ≤ c0) (h : laws_sumOf.f k l0 = some r) :
  Calls Try.prog 37 #[.slice A0 l0.length c0] w fun e w' => e = .returned (.int .i64 r) ∧ Drawn0 w w' := by
 have HR0 := Az hr0; have HC0 := Az hc0; clear hr0 hc0; have H : (laws_sumOf.l0 k l0 0 0) = some r := h; clear h; have H' := Az H; clear H
 go_enter Try.func37, Try.ntmps37
 go_wp2
 go_loopg [3, 4] k (fun kq v3 v4 w' => ∃ (x3_1 : Int) (x4_1 : Int), v3 = .int .i64 x3_1 ∧ v4 = .int .i64 x4_1 ∧ Aside0 (laws_sumOf.l0 kq l0 x3_1 x4_1 = some r) ∧ Aside0 (kq ≤ k) ∧ Drawn0 w w')
 case atStart => exact ⟨(0), (0), rS, rS, H', ⟨Nat.le_refl _⟩, by repeat (first | exact Drawn0.refl _ | apply Drawn0.step)⟩
 case round =>
  clear H'; obtain ⟨x3_1, x4_1, rfl, rfl, HA, HK1, ⟨m1, rfl⟩⟩ := hrel
  cases gk with
  | zero => exact absurd HA.out (by simp [laws_sumOf.l0])
  | succ k1 =>
   have H := HA.out; clear HA; simp only [laws_sumOf.l0] at H
   by_cases c2 : x4_1 < (l0.length : Int)
   ·
    rw [if_pos c2] at H; have c2b0 := decide_eq_true c2; clear c2
    by_cases c3 : 0 ≤ x4_1
    ·
     rw [if_pos c3] at H; have c3b0 := decide_eq_true c3; clear c3; have H' := Az H; clear H; have p287 : 0 ≤ (x4_1 : Int) := oA; have q287 : x4_1 < (l0.length : Int) := oA; obtain ⟨ad287, e287, hx287_0⟩ := Kd.at_int HR0.out x4_1 p287 q287
     cases e287
     replace p287 := eq_true p287; replace q287 := eq_true q287
     go_wp2
     (first | go_roundg k1 | (refine Handed.intro k1 ?measure ?_; rotate_left; go_step; (try simp only [add_plain]); (repeat apply Exists.intro); refine ⟨?rel, rfl⟩))
     case measure => have := HK1.out; omega
     case rel => exact ⟨(wrap64 (x3_1 + (rd l0 x4_1))), (wrap64 (x4_1 + 1)), rS, rS, H', ⟨by have := HK1.out; omega⟩, by repeat (first | exact Drawn0.refl _ | apply Drawn0.step)⟩
    ·
     rw [if_neg c3] at H
     exact absurd H (by simp)
   ·
    rw [if_neg c2] at H; have c2b0 := decide_eq_false c2; clear c2; obtain rfl := Option.some.inj H
    go_wp2
    go_ret
    exact ⟨by first | rfl | (simp; done) | (simp [*]; done), by repeat (first | exact Drawn0.refl _ | apply Drawn0.step)⟩
def impl_PartsValid.l0 : Nat → List Int → Int → List Int → Int → Int → Option (Bool)
 | 0, _, _, _, _, _ => none
 | k + 1, x0, x3, x6, x7, x8 => if x8 < x7 then (if 0 ≤ x8 then (if x8 < (x6.length : Int) then (if (rd x6 x8) < 1 then (some false) else (if (rd x6 x8) > 6 then (some false) else (if x8 > 0 then (if 0 ≤ (wrap64 (x8 - 1)) then (if (wrap64 (x8 - 1)) < (x0.length : Int) then (if (rd x6 x8) > (rd x0 (wrap64 (x8 - 1))) then (some false) else (impl_PartsValid.l0 k x0 (wrap64 (x3 + (rd x6 x8))) x6 x7 (wrap64 (x8 + 1)))) else (none)) else (none)) else (impl_PartsValid.l0 k x0 (wrap64 (x3 + (rd x6 x8))) x6 x7 (wrap64 (x8 + 1)))))) else (none)) else (none)) else (if x3 ≥ 1 then (some (decide (x3 ≤ 6))) else (some false))
def impl_PartsValid.f (k : Nat) (l0 : List Int) : Option (Bool) := impl_PartsValid.l0 k l0 0 l0 (l0.length : Int) 0
set_option maxHeartbeats 8000000 in
set_option maxRecDepth 100000 in
theorem impl_PartsValid.calls (k : Nat) (A0 : Option Addr) (c0 : Nat) (l0 : List Int) (r : Bool) (w : World) (hr0 : Kd.C (Kd.int .i64) w A0 l0.length l0) (hc0 : l0.length ≤ c0) (h : impl_PartsValid.f k l0 = some r) :
  Calls Try.prog 102 #[.slice A0 l0.length c0] w fun e w' => e = .returned (.bool r) ∧ Drawn0 w w' := by
 have HR0 := Az hr0; have HC0 := Az hc0; clear hr0 hc0; have H : (impl_PartsValid.l0 k l0 0 l0 (l0.length : Int) 0) = some r := h; clear h; have H' := Az H; clear H
 go_enter Try.func102, Try.ntmps102
 go_wp2
 go_loopg [3, 8] k (fun kq v3 v8 w' => ∃ (x3_1 : Int) (x8_1 : Int), v3 = .int .i64 x3_1 ∧ v8 = .int .i64 x8_1 ∧ Aside0 (impl_PartsValid.l0 kq l0 x3_1 l0 (l0.length : Int) x8_1 = some r) ∧ Aside0 (kq ≤ k) ∧ Drawn0 w w')
 case atStart => exact ⟨(0), (0), rS, rS, H', ⟨Nat.le_refl _⟩, by repeat (first | exact Drawn0.refl _ | apply Drawn0.step)⟩
 case round =>
  clear H'; (try clear c1); obtain ⟨x3_1, x8_1, rfl, rfl, HA, HK1, ⟨m1, rfl⟩⟩ := hrel
  cases gk with
  | zero => exact absurd HA.out (by simp [impl_PartsValid.l0])
  | succ k1 =>
   have H := HA.out; clear HA; simp only [impl_PartsValid.l0] at H
   by_cases c2 : x8_1 < (l0.length : Int)
   ·
    rw [if_pos c2] at H; have c2b0 := decide_eq_true c2; clear c2
    by_cases c3 : 0 ≤ x8_1
    ·
     rw [if_pos c3] at H; have c3b0 := decide_eq_true c3; clear c3
     by_cases c4 : x8_1 < (l0.length : Int)
     ·
      rw [if_pos c4] at H; have c4b0 := decide_eq_true c4; clear c4
      by_cases c5 : (rd l0 x8_1) < 1
      ·
       rw [if_pos c5] at H; have c5b0 := decide_eq_true c5; clear c5; obtain rfl := Option.some.inj H; have p288 : 0 ≤ (x8_1 : Int) := oA; have q288 : x8_1 < (l0.length : Int) := oA; obtain ⟨ad288, e288, hx288_0⟩ := Kd.at_int HR0.out x8_1 p288 q288
       cases e288
       replace p288 := eq_true p288; replace q288 := eq_true q288
       go_wp2
       go_ret
       exact ⟨by first | rfl | (simp; done) | (simp [*]; done), by repeat (first | exact Drawn0.refl _ | apply Drawn0.step)⟩
      ·
       rw [if_neg c5] at H; have c5b0 := decide_eq_false c5; clear c5
       by_cases c6 : (rd l0 x8_1) > 6
       ·
        rw [if_pos c6] at H; have c6b0 := decide_eq_true c6; clear c6; obtain rfl := Option.some.inj H; have p288 : 0 ≤ (x8_1 : Int) := oA; have q288 : x8_1 < (l0.length : Int) := oA; obtain ⟨ad288, e288, hx288_0⟩ := Kd.at_int HR0.out x8_1 p288 q288
        cases e288
        replace p288 := eq_true p288; replace q288 := eq_true q288
        go_wp2
        go_ret
        exact ⟨by first | rfl | (simp; done) | (simp [*]; done), by repeat (first | exact Drawn0.refl _ | apply Drawn0.step)⟩
       ·
        rw [if_neg c6] at H; have c6b0 := decide_eq_false c6; clear c6
        by_cases c7 : x8_1 > 0
        ·
         rw [if_pos c7] at H; have c7b0 := decide_eq_true c7; clear c7; obtain ⟨ji8, hji8⟩ : ∃ j_ : Int, (wrap64 (x8_1 - 1)) = j_ := ⟨_, rfl⟩
         replace H : (if 0 ≤ (ji8) then (if (ji8) < (l0.length : Int) then (if (rd l0 x8_1) > (rd l0 (ji8)) then (some false) else (impl_PartsValid.l0 k1 l0 (wrap64 (x3_1 + (rd l0 x8_1))) l0 (l0.length : Int) (wrap64 (x8_1 + 1)))) else (none)) else (none)) = some r := by first | (rw [hji8] at H; exact H) | (simp only [hji8] at H ⊢; exact H)
         have hji8w : (IntKind.i64.wrap (x8_1 - 1)) = ji8 := (i64_w _).trans hji8
         by_cases c9 : 0 ≤ (ji8)
         ·
          rw [if_pos c9] at H; have c9b0 := decide_eq_true c9; clear c9
          by_cases c10 : (ji8) < (l0.length : Int)
          ·
           rw [if_pos c10] at H; have c10b0 := decide_eq_true c10; clear c10
           by_cases c11 : (rd l0 x8_1) > (rd l0 (ji8))
           ·
            rw [if_pos c11] at H; have c11b0 := decide_eq_true c11; clear c11; obtain rfl := Option.some.inj H; have p288 : 0 ≤ (x8_1 : Int) := oA; have q288 : x8_1 < (l0.length : Int) := oA; obtain ⟨ad288, e288, hx288_0⟩ := Kd.at_int HR0.out x8_1 p288 q288
            cases e288
            replace p288 := eq_true p288; replace q288 := eq_true q288; have p289 : 0 ≤ ((ji8) : Int) := oA; have q289 : (ji8) < (l0.length : Int) := oA; obtain ⟨ad289, e289, hx289_0⟩ := Kd.at_int HR0.out (ji8) p289 q289; obtain rfl : ad288 = ad289 := (by injection e289); replace p289 := eq_true p289; replace q289 := eq_true q289
            go_wp2
            go_ret
            exact ⟨by first | rfl | (simp; done) | (simp only [← hji8] <;> (first | rfl | simp)) | (simp [*]; done), by repeat (first | exact Drawn0.refl _ | apply Drawn0.step)⟩
           ·
            rw [if_neg c11] at H; have c11b0 := decide_eq_false c11; clear c11; have H' := Az H; clear H; have p288 : 0 ≤ (x8_1 : Int) := oA; have q288 : x8_1 < (l0.length : Int) := oA; obtain ⟨ad288, e288, hx288_0⟩ := Kd.at_int HR0.out x8_1 p288 q288
            cases e288
            replace p288 := eq_true p288; replace q288 := eq_true q288; have p289 : 0 ≤ ((ji8) : Int) := oA; have q289 : (ji8) < (l0.length : Int) := oA; obtain ⟨ad289, e289, hx289_0⟩ := Kd.at_int HR0.out (ji8) p289 q289; obtain rfl : ad288 = ad289 := (by injection e289); replace p289 := eq_true p289; replace q289 := eq_true q289
            go_wp2
            (first | go_roundg k1 | (refine Handed.intro k1 ?measure ?_; rotate_left; go_step; (try simp only [add_plain]); (repeat apply Exists.intro); refine ⟨?rel, rfl⟩))
            case measure => have := HK1.out; omega
            case rel => exact ⟨(wrap64 (x3_1 + (rd l0 x8_1))), (wrap64 (x8_1 + 1)), rS, rS, H', ⟨by have := HK1.out; omega⟩, by repeat (first | exact Drawn0.refl _ | apply Drawn0.step)⟩
          ·
           rw [if_neg c10] at H
           exact absurd H (by simp)
         ·
          rw [if_neg c9] at H
          exact absurd H (by simp)
        ·
         rw [if_neg c7] at H; have c7b0 := decide_eq_false c7; clear c7; have H' := Az H; clear H; have p288 : 0 ≤ (x8_1 : Int) := oA; have q288 : x8_1 < (l0.length : Int) := oA; obtain ⟨ad288, e288, hx288_0⟩ := Kd.at_int HR0.out x8_1 p288 q288
         cases e288
         replace p288 := eq_true p288; replace q288 := eq_true q288
         go_wp2
         (first | go_roundg k1 | (refine Handed.intro k1 ?measure ?_; rotate_left; go_step; (try simp only [add_plain]); (repeat apply Exists.intro); refine ⟨?rel, rfl⟩))
         case measure => have := HK1.out; omega
         case rel => exact ⟨(wrap64 (x3_1 + (rd l0 x8_1))), (wrap64 (x8_1 + 1)), rS, rS, H', ⟨by have := HK1.out; omega⟩, by repeat (first | exact Drawn0.refl _ | apply Drawn0.step)⟩
     ·
      rw [if_neg c4] at H
      exact absurd H (by simp)
    ·
     rw [if_neg c3] at H
     exact absurd H (by simp)
   ·
    rw [if_neg c2] at H; have c2b0 := decide_eq_false c2; clear c2
    by_cases c12 : x3_1 ≥ 1
    ·
     rw [if_pos c12] at H; have c12b0 := decide_eq_true c12; clear c12; obtain rfl := Option.some.inj H
     go_wp2
     go_ret
     exact ⟨by first | rfl | (simp; done) | (simp [*]; done), by repeat (first | exact Drawn0.refl _ | apply Drawn0.step)⟩
    ·
     rw [if_neg c12] at H; have c12b0 := decide_eq_false c12; clear c12; obtain rfl := Option.some.inj H
     go_wp2
     go_ret
     exact ⟨by first | rfl | (simp; done) | (simp [*]; done), by repeat (first | exact Drawn0.refl _ | apply Drawn0.step)⟩
def impl_sumOf.l0 : Nat → Int → List Int → Int → Int → Option (Int)
 | 0, _, _, _, _ => none
 | k + 1, x3, x6, x7, x8 => if x8 < x7 then (if 0 ≤ x8 then (if x8 < (x6.length : Int) then (impl_sumOf.l0 k (wrap64 (x3 + (rd x6 x8))) x6 x7 (wrap64 (x8 + 1))) else (none)) else (none)) else (some x3)
def impl_sumOf.f (k : Nat) (l0 : List Int) : Option (Int) := impl_sumOf.l0 k 0 l0 (l0.length : Int) 0
set_option maxHeartbeats 8000000 in
set_option maxRecDepth 100000 in
theorem impl_sumOf.calls (k : Nat) (A0 : Option Addr) (c0 : Nat) (l0 : List Int) (r : Int) (w : World) (hr0 : Kd.C (Kd.int .i64) w A0 l0.length l0) (hc0 : l0.length ≤ c0) (h : impl_sumOf.f k l0 = some r) :
  Calls Try.prog 103 #[.slice A0 l0.length c0] w fun e w' => e = .returned (.int .i64 r) ∧ Drawn0 w w' := by
 have HR0 := Az hr0; have HC0 := Az hc0; clear hr0 hc0; have H : (impl_sumOf.l0 k 0 l0 (l0.length : Int) 0) = some r := h; clear h; have H' := Az H; clear H
 go_enter Try.func103, Try.ntmps103
 go_wp2
 go_loopg [3, 8] k (fun kq v3 v8 w' => ∃ (x3_1 : Int) (x8_1 : Int), v3 = .int .i64 x3_1 ∧ v8 = .int .i64 x8_1 ∧ Aside0 (impl_sumOf.l0 kq x3_1 l0 (l0.length : Int) x8_1 = some r) ∧ Aside0 (kq ≤ k) ∧ Drawn0 w w')
 case atStart => exact ⟨(0), (0), rS, rS, H', ⟨Nat.le_refl _⟩, by repeat (first | exact Drawn0.refl _ | apply Drawn0.step)⟩
 case round =>
  clear H'; (try clear c1); obtain ⟨x3_1, x8_1, rfl, rfl, HA, HK1, ⟨m1, rfl⟩⟩ := hrel
  cases gk with
  | zero => exact absurd HA.out (by simp [impl_sumOf.l0])
  | succ k1 =>
   have H := HA.out; clear HA; simp only [impl_sumOf.l0] at H
   by_cases c2 : x8_1 < (l0.length : Int)
   ·
    rw [if_pos c2] at H; have c2b0 := decide_eq_true c2; clear c2
    by_cases c3 : 0 ≤ x8_1
    ·
     rw [if_pos c3] at H; have c3b0 := decide_eq_true c3; clear c3
     by_cases c4 : x8_1 < (l0.length : Int)
     ·
      rw [if_pos c4] at H; have c4b0 := decide_eq_true c4; clear c4; have H' := Az H; clear H; have p290 : 0 ≤ (x8_1 : Int) := oA; have q290 : x8_1 < (l0.length : Int) := oA; obtain ⟨ad290, e290, hx290_0⟩ := Kd.at_int HR0.out x8_1 p290 q290
      cases e290
      replace p290 := eq_true p290; replace q290 := eq_true q290
      go_wp2
      (first | go_roundg k1 | (refine Handed.intro k1 ?measure ?_; rotate_left; go_step; (try simp only [add_plain]); (repeat apply Exists.intro); refine ⟨?rel, rfl⟩))
      case measure => have := HK1.out; omega
      case rel => exact ⟨(wrap64 (x3_1 + (rd l0 x8_1))), (wrap64 (x8_1 + 1)), rS, rS, H', ⟨by have := HK1.out; omega⟩, by repeat (first | exact Drawn0.refl _ | apply Drawn0.step)⟩
     ·
      rw [if_neg c4] at H
      exact absurd H (by simp)
    ·
     rw [if_neg c3] at H
     exact absurd H (by simp)
   ·
    rw [if_neg c2] at H; have c2b0 := decide_eq_false c2; clear c2; obtain rfl := Option.some.inj H
    go_wp2
    go_ret
    exact ⟨by first | rfl | (simp; done) | (simp [*]; done), by repeat (first | exact Drawn0.refl _ | apply Drawn0.step)⟩
mutual
def impl_typesSum.j0 : Nat → List (List Int) → Bool → Option (Int)
 | 0, _, _ => none
 | k + 1, x0, x12 => if x12 = true then (some (-1)) else (impl_typesSum.l0 k x0 x0 (x0.length : Int) 0)
def impl_typesSum.l0 : Nat → List (List Int) → List (List Int) → Int → Int → Option (Int)
 | 0, _, _, _, _ => none
 | k + 1, x0, x13, x14, x15 => if x15 < x14 then (if 0 ≤ x15 then (if x15 < (x13.length : Int) then ((impl_PartsValid.f k (rd_L1 x13 x15)).bind fun t294 => (if t294 = true then ((impl_sumOf.f k (rd_L1 x13 x15)).bind fun t295 => (if 0 < (x0.length : Int) then ((impl_sumOf.f k (rd_L1 x0 0)).bind fun t297 => (if t295 = t297 then (impl_typesSum.l0 k x0 x13 x14 (wrap64 (x15 + 1))) else (some (-1)))) else (none))) else (some (-1)))) else (none)) else (none)) else (if 0 < (x0.length : Int) then ((impl_sumOf.f k (rd_L1 x0 0)).bind fun t292 => (some t292)) else (none))
end
def impl_typesSum.f (k : Nat) (l0 : List (List Int)) : Option (Int) := if (l0.length : Int) < 1 then (impl_typesSum.j0 k l0 true) else (impl_typesSum.j0 k l0 (decide ((l0.length : Int) > 6)))
set_option maxHeartbeats 8000000 in
set_option maxRecDepth 100000 in
theorem impl_typesSum.calls (k : Nat) (A0 : Option Addr) (c0 : Nat) (l0 : List (List Int)) (r : Int) (w : World) (hr0 : Kd.C (Kd.slice 3 (Kd.int .i64)) w A0 l0.length l0) (hc0 : l0.length ≤ c0) (h : impl_typesSum.f k l0 = some r) :
  Calls Try.prog 94 #[.slice A0 l0.length c0] w fun e w' => e = .returned (.int .i64 r) ∧ Drawn0 w w' := by
 have HR0 := Az hr0; have HC0 := Az hc0; clear hr0 hc0; have H : (if (l0.length : Int) < 1 then (impl_typesSum.j0 k l0 true) else (impl_typesSum.j0 k l0 (decide ((l0.length : Int) > 6)))) = some r := h; clear h; have HC2 := Az H; clear H
 go_enter Try.func94, Try.ntmps94
 go_upto_region 1 with (fail)
 repeat (go_quiet (fail); go_upto_region 1 with (fail))
 go_cut [12] (fun v12 wc => ∃ (kq : Nat) (x12_1 : Bool), v12 = .bool x12_1 ∧ Aside0 (impl_typesSum.j0 kq l0 x12_1 = some r) ∧ Aside0 (kq ≤ k) ∧ Drawn0 w wc)
 case first =>
  have H := HC2.out; clear HC2
  by_cases c3 : (l0.length : Int) < 1
  ·
   rw [if_pos c3] at H; have c3b0 := decide_eq_true c3; have c3b1 : decide (l0.length < 1) = true := decide_eq_true (by omega); clear c3; (first | rw [c3b0] | (simp only [i64_w, i32_w]; rw [c3b0]) | skip); have H' := Az H; clear H
   go_wp2
   repeat (go_quiet (fail); try go_wp2)
   go_meet
   case rel => exact ⟨_, (true), rS, H', ⟨by first | omega | exact Nat.le_refl _⟩, by repeat (first | exact Drawn0.refl _ | apply Drawn0.step)⟩
  ·
   rw [if_neg c3] at H; have c3b0 := decide_eq_false c3; have c3b1 : decide (l0.length < 1) = false := decide_eq_false (by omega); clear c3; (first | rw [c3b0] | (simp only [i64_w, i32_w]; rw [c3b0]) | skip); have H' := Az H; clear H
   go_wp2
   repeat (go_quiet (fail); try go_wp2)
   go_meet
   case rel => exact ⟨_, (decide ((l0.length : Int) > 6)), rS, H', ⟨by first | omega | exact Nat.le_refl _⟩, by repeat (first | exact Drawn0.refl _ | apply Drawn0.step)⟩
 case rest =>
  clear HC2; (try clear p2); (try clear c3); (try clear c3b0); (try clear c3b1); obtain ⟨kq, x12_1, rfl, HA, HJ1, ⟨mc1, rfl⟩⟩ := hcut
  cases kq with
  | zero => exact absurd HA.out (by simp [impl_typesSum.j0])
  | succ kj1 =>
   have H := HA.out; clear HA; simp only [impl_typesSum.j0] at H
   by_cases c4 : x12_1 = true
   ·
    subst c4
    have H1 : (some (-1)) = some r := by rw [if_pos rfl] at H; exact H
    clear H; have H := H1; clear H1; obtain rfl := Option.some.inj H
    go_wp2
    repeat (go_quiet (fail); try go_wp2)
    go_ret
    exact ⟨by first | rfl | (simp; done) | (simp [*]; done), by repeat (first | exact Drawn0.refl _ | apply Drawn0.step)⟩
   ·
    replace c4 := Bool.eq_false_iff.mpr c4; subst c4
    have H1 : (impl_typesSum.l0 kj1 l0 l0 (l0.length : Int) 0) = some r := by rw [if_neg (show ¬ (false = true) by decide)] at H; exact H
    clear H; have H := H1; clear H1; have H' := Az H; clear H
    go_wp2
    repeat (go_quiet (fail); try go_wp2)
    go_loopg [15] kj1 (fun kq v15 w' => ∃ (x15_2 : Int), v15 = .int .i64 x15_2 ∧ Aside0 (impl_typesSum.l0 kq l0 l0 (l0.length : Int) x15_2 = some r) ∧ Aside0 (kq ≤ kj1) ∧ Drawn0 w w')
    case atStart => exact ⟨(0), rS, H', ⟨Nat.le_refl _⟩, by repeat (first | exact Drawn0.refl _ | apply Drawn0.step)⟩
    case round =>
     clear H'; (try clear c1); (try clear p2); (try clear c3); (try clear c3b0); (try clear c3b1); (try clear c4); (try clear p2); obtain ⟨x15_2, rfl, HA, HK2, ⟨m2, rfl⟩⟩ := hrel
     cases gk with
     | zero => exact absurd HA.out (by simp [impl_typesSum.l0])
     | succ k2 =>
      have H := HA.out; clear HA; simp only [impl_typesSum.l0] at H
      by_cases c5 : x15_2 < (l0.length : Int)
      ·
       rw [if_pos c5] at H; have c5b0 := decide_eq_true c5; clear c5
       by_cases c6 : 0 ≤ x15_2
       ·
        rw [if_pos c6] at H; have c6b0 := decide_eq_true c6; clear c6
        by_cases c7 : x15_2 < (l0.length : Int)
        ·
         rw [if_pos c7] at H; have c7b0 := decide_eq_true c7; clear c7; replace H := Option.bind_eq_some_iff.mp H; obtain ⟨t294, A80, H⟩ := H; replace H : (if t294 = true then ((impl_sumOf.f k2 (rd_L1 l0 x15_2)).bind fun t295 => (if 0 < (l0.length : Int) then ((impl_sumOf.f k2 (rd_L1 l0 0)).bind fun t297 => (if t295 = t297 then (impl_typesSum.l0 k2 l0 l0 (l0.length : Int) (wrap64 (x15_2 + 1))) else (some (-1)))) else (none))) else (some (-1))) = some r := H; have A8 := Az A80; clear A80
         by_cases c9 : t294 = true
         ·
          subst c9
          have H1 : ((impl_sumOf.f k2 (rd_L1 l0 x15_2)).bind fun t295 => (if 0 < (l0.length : Int) then ((impl_sumOf.f k2 (rd_L1 l0 0)).bind fun t297 => (if t295 = t297 then (impl_typesSum.l0 k2 l0 l0 (l0.length : Int) (wrap64 (x15_2 + 1))) else (some (-1)))) else (none))) = some r := by rw [if_pos rfl] at H; exact H
          clear H; have H := H1; clear H1; replace H := Option.bind_eq_some_iff.mp H; obtain ⟨t295, A100, H⟩ := H; replace H : (if 0 < (l0.length : Int) then ((impl_sumOf.f k2 (rd_L1 l0 0)).bind fun t297 => (if t295 = t297 then (impl_typesSum.l0 k2 l0 l0 (l0.length : Int) (wrap64 (x15_2 + 1))) else (some (-1)))) else (none)) = some r := H; have A10 := Az A100; clear A100
          by_cases c11 : 0 < (l0.length : Int)
          ·
           rw [if_pos c11] at H; have c11b0 := decide_eq_true c11; have c11b1 : decide (0 < l0.length) = true := decide_eq_true (by omega); clear c11; replace H := Option.bind_eq_some_iff.mp H; obtain ⟨t297, A120, H⟩ := H; replace H : (if t295 = t297 then (impl_typesSum.l0 k2 l0 l0 (l0.length : Int) (wrap64 (x15_2 + 1))) else (some (-1))) = some r := H; have A12 := Az A120; clear A120
           by_cases c13 : t295 = t297
           ·
            rw [if_pos c13] at H; have c13b0 := beq_iff_eq.mpr c13; have c13b1 := bne_eq_false_iff_eq.mpr c13; clear c13; have H' := Az H; clear H; have p293 : 0 ≤ (x15_2 : Int) := oA; have q293 : x15_2 < (l0.length : Int) := oA; obtain ⟨ad293, A293_0, c293_0, e293, hx293_0, hl293_0, hi293_0⟩ := at_L1 HR0.out x15_2 p293 q293
            cases e293
            have HR293_0 := Az hi293_0; have HC293_0 := Az hl293_0; clear hi293_0 hl293_0; replace p293 := eq_true p293; replace q293 := eq_true q293
            go_wp2_with (first | (go_at_call 102; (with_reducible refine (impl_PartsValid.calls k2 _ _ (rd_L1 l0 x15_2) true _ ?side1 ?side2 A8.out).mono ?_); (case side1 => exact cU (HR293_0.out)); (case side2 => exact HC293_0.out); rintro e w' ⟨rfl, ⟨nd, rfl⟩⟩; (try first | exact ⟨rfl, _, World.drewN_drewN _ _ _⟩ | exact ⟨rfl, _, Eq.trans (World.drewN_drewN _ _ _) (congrArg (World.drewN _) (Nat.add_assoc _ _ _))⟩)) | (go_at_call 103; (with_reducible refine (impl_sumOf.calls k2 _ _ (rd_L1 l0 x15_2) t295 _ ?side1 ?side2 A10.out).mono ?_); (case side1 => exact cU (HR293_0.out)); (case side2 => exact HC293_0.out); rintro e w' ⟨rfl, ⟨nd, rfl⟩⟩; (try first | exact ⟨rfl, _, World.drewN_drewN _ _ _⟩ | exact ⟨rfl, _, Eq.trans (World.drewN_drewN _ _ _) (congrArg (World.drewN _) (Nat.add_assoc _ _ _))⟩); have p296 : 0 ≤ (0 : Int) := (by omega); have q296 : 0 < (l0.length : Int) := oA; obtain ⟨ad296, A296_0, c296_0, e296, hx296_0, hl296_0, hi296_0⟩ := at_L1 HR0.out 0 p296 q296; obtain rfl : ad293 = ad296 := (by injection e296); have qi296 : (0 < l0.length) = True := eq_true (by omega); (try rw [show ((0 : Int)).toNat = 0 from rfl] at hx296_0); (try rw [Addr.add_zero'] at hx296_0); have HR296_0 := Az hi296_0; have HC296_0 := Az hl296_0; clear hi296_0 hl296_0; replace p296 := eq_true p296; replace q296 := eq_true q296) | (go_at_call 103; (with_reducible refine (impl_sumOf.calls k2 _ _ (rd_L1 l0 0) t297 _ ?side1 ?side2 A12.out).mono ?_); (case side1 => exact cU (HR296_0.out)); (case side2 => exact HC296_0.out); rintro e w' ⟨rfl, ⟨nd, rfl⟩⟩; (try first | exact ⟨rfl, _, World.drewN_drewN _ _ _⟩ | exact ⟨rfl, _, Eq.trans (World.drewN_drewN _ _ _) (congrArg (World.drewN _) (Nat.add_assoc _ _ _))⟩)))
            repeat (go_quiet (first | (go_at_call 102; (try simp only [Go.IntWalk.i64_left]); (with_reducible refine (impl_PartsValid.calls k2 _ _ (rd_L1 l0 x15_2) true _ ?side1 ?side2 A8.out).mono ?_); (case side1 => exact cU (HR293_0.out)); (case side2 => exact HC293_0.out); rintro e w' ⟨rfl, ⟨nd, rfl⟩⟩; (try first | exact ⟨rfl, _, World.drewN_drewN _ _ _⟩ | exact ⟨rfl, _, Eq.trans (World.drewN_drewN _ _ _) (congrArg (World.drewN _) (Nat.add_assoc _ _ _))⟩)) | (go_at_call 103; (try simp only [Go.IntWalk.i64_left]); (with_reducible refine (impl_sumOf.calls k2 _ _ (rd_L1 l0 x15_2) t295 _ ?side1 ?side2 A10.out).mono ?_); (case side1 => exact cU (HR293_0.out)); (case side2 => exact HC293_0.out); rintro e w' ⟨rfl, ⟨nd, rfl⟩⟩; (try first | exact ⟨rfl, _, World.drewN_drewN _ _ _⟩ | exact ⟨rfl, _, Eq.trans (World.drewN_drewN _ _ _) (congrArg (World.drewN _) (Nat.add_assoc _ _ _))⟩); have p296 : 0 ≤ (0 : Int) := (by omega); have q296 : 0 < (l0.length : Int) := oA; obtain ⟨ad296, A296_0, c296_0, e296, hx296_0, hl296_0, hi296_0⟩ := at_L1 HR0.out 0 p296 q296; obtain rfl : ad293 = ad296 := (by injection e296); have qi296 : (0 < l0.length) = True := eq_true (by omega); (try rw [show ((0 : Int)).toNat = 0 from rfl] at hx296_0); (try rw [Addr.add_zero'] at hx296_0); have HR296_0 := Az hi296_0; have HC296_0 := Az hl296_0; clear hi296_0 hl296_0; replace p296 := eq_true p296; replace q296 := eq_true q296) | (go_at_call 103; (try simp only [Go.IntWalk.i64_left]); (with_reducible refine (impl_sumOf.calls k2 _ _ (rd_L1 l0 0) t297 _ ?side1 ?side2 A12.out).mono ?_); (case side1 => exact cU (HR296_0.out)); (case side2 => exact HC296_0.out); rintro e w' ⟨rfl, ⟨nd, rfl⟩⟩; (try first | exact ⟨rfl, _, World.drewN_drewN _ _ _⟩ | exact ⟨rfl, _, Eq.trans (World.drewN_drewN _ _ _) (congrArg (World.drewN _) (Nat.add_assoc _ _ _))⟩))); try go_wp2_with (first | (go_at_call 102; (try simp only [Go.IntWalk.i64_left]); (with_reducible refine (impl_PartsValid.calls k2 _ _ (rd_L1 l0 x15_2) true _ ?side1 ?side2 A8.out).mono ?_); (case side1 => exact cU (HR293_0.out)); (case side2 => exact HC293_0.out); rintro e w' ⟨rfl, ⟨nd, rfl⟩⟩; (try first | exact ⟨rfl, _, World.drewN_drewN _ _ _⟩ | exact ⟨rfl, _, Eq.trans (World.drewN_drewN _ _ _) (congrArg (World.drewN _) (Nat.add_assoc _ _ _))⟩)) | (go_at_call 103; (try simp only [Go.IntWalk.i64_left]); (with_reducible refine (impl_sumOf.calls k2 _ _ (rd_L1 l0 x15_2) t295 _ ?side1 ?side2 A10.out).mono ?_); (case side1 => exact cU (HR293_0.out)); (case side2 => exact HC293_0.out); rintro e w' ⟨rfl, ⟨nd, rfl⟩⟩; (try first | exact ⟨rfl, _, World.drewN_drewN _ _ _⟩ | exact ⟨rfl, _, Eq.trans (World.drewN_drewN _ _ _) (congrArg (World.drewN _) (Nat.add_assoc _ _ _))⟩); have p296 : 0 ≤ (0 : Int) := (by omega); have q296 : 0 < (l0.length : Int) := oA; obtain ⟨ad296, A296_0, c296_0, e296, hx296_0, hl296_0, hi296_0⟩ := at_L1 HR0.out 0 p296 q296; obtain rfl : ad293 = ad296 := (by injection e296); have qi296 : (0 < l0.length) = True := eq_true (by omega); (try rw [show ((0 : Int)).toNat = 0 from rfl] at hx296_0); (try rw [Addr.add_zero'] at hx296_0); have HR296_0 := Az hi296_0; have HC296_0 := Az hl296_0; clear hi296_0 hl296_0; replace p296 := eq_true p296; replace q296 := eq_true q296) | (go_at_call 103; (try simp only [Go.IntWalk.i64_left]); (with_reducible refine (impl_sumOf.calls k2 _ _ (rd_L1 l0 0) t297 _ ?side1 ?side2 A12.out).mono ?_); (case side1 => exact cU (HR296_0.out)); (case side2 => exact HC296_0.out); rintro e w' ⟨rfl, ⟨nd, rfl⟩⟩; (try first | exact ⟨rfl, _, World.drewN_drewN _ _ _⟩ | exact ⟨rfl, _, Eq.trans (World.drewN_drewN _ _ _) (congrArg (World.drewN _) (Nat.add_assoc _ _ _))⟩))))
            (first | go_roundg k2 | (refine Handed.intro k2 ?measure ?_; rotate_left; go_step; (try simp only [add_plain]); (repeat apply Exists.intro); refine ⟨?rel, rfl⟩))
            case measure => have := HJ1.out; have := HK2.out; omega
            case rel => exact ⟨(wrap64 (x15_2 + 1)), rS, H', ⟨by have := HJ1.out; have := HK2.out; omega⟩, by repeat (first | exact Drawn0.refl _ | apply Drawn0.step)⟩
           ·
            rw [if_neg c13] at H; have c13b0 := beq_eq_false_iff_ne.mpr c13; have c13b1 := bne_iff_ne.mpr c13; obtain rfl := Option.some.inj H; have p293 : 0 ≤ (x15_2 : Int) := oA; have q293 : x15_2 < (l0.length : Int) := oA; obtain ⟨ad293, A293_0, c293_0, e293, hx293_0, hl293_0, hi293_0⟩ := at_L1 HR0.out x15_2 p293 q293
            cases e293
            have HR293_0 := Az hi293_0; have HC293_0 := Az hl293_0; clear hi293_0 hl293_0; replace p293 := eq_true p293; replace q293 := eq_true q293
            go_wp2_with (first | (go_at_call 102; (with_reducible refine (impl_PartsValid.calls k2 _ _ (rd_L1 l0 x15_2) true _ ?side1 ?side2 A8.out).mono ?_); (case side1 => exact cU (HR293_0.out)); (case side2 => exact HC293_0.out); rintro e w' ⟨rfl, ⟨nd, rfl⟩⟩; (try first | exact ⟨rfl, _, World.drewN_drewN _ _ _⟩ | exact ⟨rfl, _, Eq.trans (World.drewN_drewN _ _ _) (congrArg (World.drewN _) (Nat.add_assoc _ _ _))⟩)) | (go_at_call 103; (with_reducible refine (impl_sumOf.calls k2 _ _ (rd_L1 l0 x15_2) t295 _ ?side1 ?side2 A10.out).mono ?_); (case side1 => exact cU (HR293_0.out)); (case side2 => exact HC293_0.out); rintro e w' ⟨rfl, ⟨nd, rfl⟩⟩; (try first | exact ⟨rfl, _, World.drewN_drewN _ _ _⟩ | exact ⟨rfl, _, Eq.trans (World.drewN_drewN _ _ _) (congrArg (World.drewN _) (Nat.add_assoc _ _ _))⟩); have p296 : 0 ≤ (0 : Int) := (by omega); have q296 : 0 < (l0.length : Int) := oA; obtain ⟨ad296, A296_0, c296_0, e296, hx296_0, hl296_0, hi296_0⟩ := at_L1 HR0.out 0 p296 q296; obtain rfl : ad293 = ad296 := (by injection e296); have qi296 : (0 < l0.length) = True := eq_true (by omega); (try rw [show ((0 : Int)).toNat = 0 from rfl] at hx296_0); (try rw [Addr.add_zero'] at hx296_0); have HR296_0 := Az hi296_0; have HC296_0 := Az hl296_0; clear hi296_0 hl296_0; replace p296 := eq_true p296; replace q296 := eq_true q296) | (go_at_call 103; (with_reducible refine (impl_sumOf.calls k2 _ _ (rd_L1 l0 0) t297 _ ?side1 ?side2 A12.out).mono ?_); (case side1 => exact cU (HR296_0.out)); (case side2 => exact HC296_0.out); rintro e w' ⟨rfl, ⟨nd, rfl⟩⟩; (try first | exact ⟨rfl, _, World.drewN_drewN _ _ _⟩ | exact ⟨rfl, _, Eq.trans (World.drewN_drewN _ _ _) (congrArg (World.drewN _) (Nat.add_assoc _ _ _))⟩)))
            repeat (go_quiet (first | (go_at_call 102; (try simp only [Go.IntWalk.i64_left]); (with_reducible refine (impl_PartsValid.calls k2 _ _ (rd_L1 l0 x15_2) true _ ?side1 ?side2 A8.out).mono ?_); (case side1 => exact cU (HR293_0.out)); (case side2 => exact HC293_0.out); rintro e w' ⟨rfl, ⟨nd, rfl⟩⟩; (try first | exact ⟨rfl, _, World.drewN_drewN _ _ _⟩ | exact ⟨rfl, _, Eq.trans (World.drewN_drewN _ _ _) (congrArg (World.drewN _) (Nat.add_assoc _ _ _))⟩)) | (go_at_call 103; (try simp only [Go.IntWalk.i64_left]); (with_reducible refine (impl_sumOf.calls k2 _ _ (rd_L1 l0 x15_2) t295 _ ?side1 ?side2 A10.out).mono ?_); (case side1 => exact cU (HR293_0.out)); (case side2 => exact HC293_0.out); rintro e w' ⟨rfl, ⟨nd, rfl⟩⟩; (try first | exact ⟨rfl, _, World.drewN_drewN _ _ _⟩ | exact ⟨rfl, _, Eq.trans (World.drewN_drewN _ _ _) (congrArg (World.drewN _) (Nat.add_assoc _ _ _))⟩); have p296 : 0 ≤ (0 : Int) := (by omega); have q296 : 0 < (l0.length : Int) := oA; obtain ⟨ad296, A296_0, c296_0, e296, hx296_0, hl296_0, hi296_0⟩ := at_L1 HR0.out 0 p296 q296; obtain rfl : ad293 = ad296 := (by injection e296); have qi296 : (0 < l0.length) = True := eq_true (by omega); (try rw [show ((0 : Int)).toNat = 0 from rfl] at hx296_0); (try rw [Addr.add_zero'] at hx296_0); have HR296_0 := Az hi296_0; have HC296_0 := Az hl296_0; clear hi296_0 hl296_0; replace p296 := eq_true p296; replace q296 := eq_true q296) | (go_at_call 103; (try simp only [Go.IntWalk.i64_left]); (with_reducible refine (impl_sumOf.calls k2 _ _ (rd_L1 l0 0) t297 _ ?side1 ?side2 A12.out).mono ?_); (case side1 => exact cU (HR296_0.out)); (case side2 => exact HC296_0.out); rintro e w' ⟨rfl, ⟨nd, rfl⟩⟩; (try first | exact ⟨rfl, _, World.drewN_drewN _ _ _⟩ | exact ⟨rfl, _, Eq.trans (World.drewN_drewN _ _ _) (congrArg (World.drewN _) (Nat.add_assoc _ _ _))⟩))); try go_wp2_with (first | (go_at_call 102; (try simp only [Go.IntWalk.i64_left]); (with_reducible refine (impl_PartsValid.calls k2 _ _ (rd_L1 l0 x15_2) true _ ?side1 ?side2 A8.out).mono ?_); (case side1 => exact cU (HR293_0.out)); (case side2 => exact HC293_0.out); rintro e w' ⟨rfl, ⟨nd, rfl⟩⟩; (try first | exact ⟨rfl, _, World.drewN_drewN _ _ _⟩ | exact ⟨rfl, _, Eq.trans (World.drewN_drewN _ _ _) (congrArg (World.drewN _) (Nat.add_assoc _ _ _))⟩)) | (go_at_call 103; (try simp only [Go.IntWalk.i64_left]); (with_reducible refine (impl_sumOf.calls k2 _ _ (rd_L1 l0 x15_2) t295 _ ?side1 ?side2 A10.out).mono ?_); (case side1 => exact cU (HR293_0.out)); (case side2 => exact HC293_0.out); rintro e w' ⟨rfl, ⟨nd, rfl⟩⟩; (try first | exact ⟨rfl, _, World.drewN_drewN _ _ _⟩ | exact ⟨rfl, _, Eq.trans (World.drewN_drewN _ _ _) (congrArg (World.drewN _) (Nat.add_assoc _ _ _))⟩); have p296 : 0 ≤ (0 : Int) := (by omega); have q296 : 0 < (l0.length : Int) := oA; obtain ⟨ad296, A296_0, c296_0, e296, hx296_0, hl296_0, hi296_0⟩ := at_L1 HR0.out 0 p296 q296; obtain rfl : ad293 = ad296 := (by injection e296); have qi296 : (0 < l0.length) = True := eq_true (by omega); (try rw [show ((0 : Int)).toNat = 0 from rfl] at hx296_0); (try rw [Addr.add_zero'] at hx296_0); have HR296_0 := Az hi296_0; have HC296_0 := Az hl296_0; clear hi296_0 hl296_0; replace p296 := eq_true p296; replace q296 := eq_true q296) | (go_at_call 103; (try simp only [Go.IntWalk.i64_left]); (with_reducible refine (impl_sumOf.calls k2 _ _ (rd_L1 l0 0) t297 _ ?side1 ?side2 A12.out).mono ?_); (case side1 => exact cU (HR296_0.out)); (case side2 => exact HC296_0.out); rintro e w' ⟨rfl, ⟨nd, rfl⟩⟩; (try first | exact ⟨rfl, _, World.drewN_drewN _ _ _⟩ | exact ⟨rfl, _, Eq.trans (World.drewN_drewN _ _ _) (congrArg (World.drewN _) (Nat.add_assoc _ _ _))⟩))))
            go_ret
            exact ⟨by first | rfl | (simp; done) | (simp [*]; done), by repeat (first | exact Drawn0.refl _ | apply Drawn0.step)⟩
          ·
           rw [if_neg c11] at H
           exact absurd H (by simp)
         ·
          replace c9 := Bool.eq_false_iff.mpr c9; subst c9
          have H1 : (some (-1)) = some r := by rw [if_neg (show ¬ (false = true) by decide)] at H; exact H
          clear H; have H := H1; clear H1; obtain rfl := Option.some.inj H; have p293 : 0 ≤ (x15_2 : Int) := oA; have q293 : x15_2 < (l0.length : Int) := oA; obtain ⟨ad293, A293_0, c293_0, e293, hx293_0, hl293_0, hi293_0⟩ := at_L1 HR0.out x15_2 p293 q293
          cases e293
          have HR293_0 := Az hi293_0; have HC293_0 := Az hl293_0; clear hi293_0 hl293_0; replace p293 := eq_true p293; replace q293 := eq_true q293
          go_wp2_with (first | (go_at_call 102; (with_reducible refine (impl_PartsValid.calls k2 _ _ (rd_L1 l0 x15_2) false _ ?side1 ?side2 A8.out).mono ?_); (case side1 => exact cU (HR293_0.out)); (case side2 => exact HC293_0.out); rintro e w' ⟨rfl, ⟨nd, rfl⟩⟩; (try first | exact ⟨rfl, _, World.drewN_drewN _ _ _⟩ | exact ⟨rfl, _, Eq.trans (World.drewN_drewN _ _ _) (congrArg (World.drewN _) (Nat.add_assoc _ _ _))⟩)))
          repeat (go_quiet (first | (go_at_call 102; (try simp only [Go.IntWalk.i64_left]); (with_reducible refine (impl_PartsValid.calls k2 _ _ (rd_L1 l0 x15_2) false _ ?side1 ?side2 A8.out).mono ?_); (case side1 => exact cU (HR293_0.out)); (case side2 => exact HC293_0.out); rintro e w' ⟨rfl, ⟨nd, rfl⟩⟩; (try first | exact ⟨rfl, _, World.drewN_drewN _ _ _⟩ | exact ⟨rfl, _, Eq.trans (World.drewN_drewN _ _ _) (congrArg (World.drewN _) (Nat.add_assoc _ _ _))⟩))); try go_wp2_with (first | (go_at_call 102; (try simp only [Go.IntWalk.i64_left]); (with_reducible refine (impl_PartsValid.calls k2 _ _ (rd_L1 l0 x15_2) false _ ?side1 ?side2 A8.out).mono ?_); (case side1 => exact cU (HR293_0.out)); (case side2 => exact HC293_0.out); rintro e w' ⟨rfl, ⟨nd, rfl⟩⟩; (try first | exact ⟨rfl, _, World.drewN_drewN _ _ _⟩ | exact ⟨rfl, _, Eq.trans (World.drewN_drewN _ _ _) (congrArg (World.drewN _) (Nat.add_assoc _ _ _))⟩))))
          go_ret
          exact ⟨by first | rfl | (simp; done) | (simp [*]; done), by repeat (first | exact Drawn0.refl _ | apply Drawn0.step)⟩
        ·
         rw [if_neg c7] at H
         exact absurd H (by simp)
       ·
        rw [if_neg c6] at H
        exact absurd H (by simp)
      ·
       rw [if_neg c5] at H; have c5b0 := decide_eq_false c5; clear c5
       by_cases c14 : 0 < (l0.length : Int)
       ·
        rw [if_pos c14] at H; have c14b0 := decide_eq_true c14; have c14b1 : decide (0 < l0.length) = true := decide_eq_true (by omega); clear c14; replace H := Option.bind_eq_some_iff.mp H; obtain ⟨t292, A150, H⟩ := H; replace H : (some t292) = some r := H; have A15 := Az A150; clear A150; obtain rfl := Option.some.inj H; have p291 : 0 ≤ (0 : Int) := (by omega); have q291 : 0 < (l0.length : Int) := oA; obtain ⟨ad291, A291_0, c291_0, e291, hx291_0, hl291_0, hi291_0⟩ := at_L1 HR0.out 0 p291 q291
        cases e291
        have qi291 : (0 < l0.length) = True := eq_true (by omega); (try rw [show ((0 : Int)).toNat = 0 from rfl] at hx291_0); (try rw [Addr.add_zero'] at hx291_0); have HR291_0 := Az hi291_0; have HC291_0 := Az hl291_0; clear hi291_0 hl291_0; replace p291 := eq_true p291; replace q291 := eq_true q291
        go_wp2_with (first | (go_at_call 103; (with_reducible refine (impl_sumOf.calls k2 _ _ (rd_L1 l0 0) t292 _ ?side1 ?side2 A15.out).mono ?_); (case side1 => exact cU (HR291_0.out)); (case side2 => exact HC291_0.out); rintro e w' ⟨rfl, ⟨nd, rfl⟩⟩; (try first | exact ⟨rfl, _, World.drewN_drewN _ _ _⟩ | exact ⟨rfl, _, Eq.trans (World.drewN_drewN _ _ _) (congrArg (World.drewN _) (Nat.add_assoc _ _ _))⟩)))
        repeat (go_quiet (first | (go_at_call 103; (try simp only [Go.IntWalk.i64_left]); (with_reducible refine (impl_sumOf.calls k2 _ _ (rd_L1 l0 0) t292 _ ?side1 ?side2 A15.out).mono ?_); (case side1 => exact cU (HR291_0.out)); (case side2 => exact HC291_0.out); rintro e w' ⟨rfl, ⟨nd, rfl⟩⟩; (try first | exact ⟨rfl, _, World.drewN_drewN _ _ _⟩ | exact ⟨rfl, _, Eq.trans (World.drewN_drewN _ _ _) (congrArg (World.drewN _) (Nat.add_assoc _ _ _))⟩))); try go_wp2_with (first | (go_at_call 103; (try simp only [Go.IntWalk.i64_left]); (with_reducible refine (impl_sumOf.calls k2 _ _ (rd_L1 l0 0) t292 _ ?side1 ?side2 A15.out).mono ?_); (case side1 => exact cU (HR291_0.out)); (case side2 => exact HC291_0.out); rintro e w' ⟨rfl, ⟨nd, rfl⟩⟩; (try first | exact ⟨rfl, _, World.drewN_drewN _ _ _⟩ | exact ⟨rfl, _, Eq.trans (World.drewN_drewN _ _ _) (congrArg (World.drewN _) (Nat.add_assoc _ _ _))⟩))))
        go_ret
        exact ⟨by first | rfl | (simp; done) | (simp [*]; done), by repeat (first | exact Drawn0.refl _ | apply Drawn0.step)⟩
       ·
        rw [if_neg c14] at H
        exact absurd H (by simp)
theorem infoF3 : (Try.prog.info? 3).map (fun i => (i.zero, i.size, i.bytes)) = some (some (.int .i64 0), 1, 8) := by kernel_rfl
theorem infoF23 : (Try.prog.info? 23).map (fun i => (i.zero, i.size, i.bytes)) = some (some (.slice none 0 0), 1, 24) := by kernel_rfl
theorem infoF45 : (Try.prog.info? 45).map (fun i => (i.zero, i.size, i.bytes)) = some (some (.slice none 0 0), 1, 24) := by kernel_rfl
def rdS (xs : List (List Int)) (i : Int) : List Int := xs.getD i.toNat []
theorem at_S {w : World} {A : Option Addr} {n : Nat} {xs : List (List Int)} (h : Kd.C (Kd.slice 3 (Kd.int .i64)) w A n xs) (i : Int) (h0 : 0 ≤ i) (h1 : i < n) : ∃ ad A0 c0, A = some ad ∧ w.cell? (ad.add i.toNat) = some (.slice A0 (rdS xs i).length c0) ∧ (rdS xs i).length ≤ c0 ∧ (Kd.int .i64).C w A0 (rdS xs i).length (rdS xs i) := by
  obtain ⟨ad, c, e, _, hK, hc0⟩ := Kd.C_get h ([] : List Int) i h0 h1; have hc : ∀ j u, c[j]? = some u → w.cell? (ad.add (i.toNat * 1 + j)) = some u := hc0; obtain ⟨A0, c0, rfl, l0, g0⟩ := hK
  exact ⟨ad, A0, c0, e, by have hq := hc 0 _ rfl; rwa [Nat.mul_one, Nat.add_zero] at hq, l0, g0⟩
mutual
def permG {σ : Type} (step : Nat → σ → List Int → Option σ) : Nat → Int → σ → List Int → Option σ
  | 0, _, _, _ => none
  | k + 1, n, s, p => if (p.length : Int) = n then step k s p else permL step k n s p 0
def permL {σ : Type} (step : Nat → σ → List Int → Option σ) : Nat → Int → σ → List Int → Int → Option σ
  | 0, _, _, _, _ => none
  | k + 1, n, s, p, i => if i < n then ((slices_Contains_int_int.f k p i).bind fun b => (if b = true then (permL step k n s p (wrap64 (i + 1))) else ((slices_Clone_int_int.f p).bind fun c => ((some (([i] : List Int) : List Int)).bind fun y => (if c.length + y.length < 17592186044416 then ((permG step k n s (c ++ y)).bind fun s' => (permL step k n s' p (wrap64 (i + 1)))) else none))))) else some s
end
theorem goesV_ {P : Program} {ops : Array Oper} {Q : Exit → Act → World → Prop} {oi : Oper} {N : Option Tmp} {a : Act} {w : World} {K : Act → World → Prop} {f : FuncId} {fn : Func} {xs : Array Operand} {ts : Array TypeId} {cp : Array Value} {op : Operand} (hf : P.funcs[f]? = some fn) (hname : (fn.name == "runtime.NumGoroutine") = false) (hb : fn.body.isSome = true) (args : Array Value)
    (hw : Region.wanted oi (yielded ops a.tmps) = true) (hN : oi.dst = N) (hop : oi.op = .call { callee := .value op, args := xs, argTypes := ts }) (hv : a.eval op = .func (.func f) #[] cp) (hargs : xs.map a.eval ++ cp = args)
    (h : Calls P f args w fun e w' => ∃ v, e = .returned v ∧ K (a.put N v) w') : if Region.wanted oi (yielded ops a.tmps) = true then Oper.wp P oi a w K Q else K (a.put N undef) w := by
  refine call_ f args hw hN ?_ h
  have he := enters_ hf hname hb args w
  unfold execOp
  simp [hop, resolve, Deferred.ofValue, invoke, hv, hargs, he]
set_option maxHeartbeats 8000000 in
set_option maxRecDepth 100000 in
theorem perm1.calls {σ : Type} (step : Nat → σ → List Int → Option σ) (Inv : σ → World → (Nat → Prop) → Prop) (g1 g2 : Nat)
  (hI : ∀ s W W' ok, Inv s W ok → Below W.heap.size W W' → Inv s W' ok) (hL : ∀ s W ok q, Inv s W ok → ok q → q < W.heap.size)
  (hT : ∀ (k : Nat) (s s' : σ) (p : List Int) (A : Option Addr) (c : Nat) (W : World) (ok : Nat → Prop), Inv s W ok → (∀ W', Kept W W' ok → Kd.C (Kd.int .i64) W' A p.length p) → p.length ≤ c → step k s p = some s' → Calls Try.prog 139 #[.slice A p.length c, .pointer (some ⟨g1, 0, none⟩), .pointer (some ⟨g2, 0, none⟩)] W fun e w' => e = .returned (.tuple #[]) ∧ ∃ ok', Inv s' w' ok' ∧ (∀ q, ok' q → ok q ∨ W.heap.size ≤ q) ∧ Kept W w' ok)
  (gn gt gy : Nat) : ∀ (k : Nat) (a1 : Int) (s s' : σ) (A0 : Option Addr) (c0 : Nat) (l0 : List Int) (w : World) (ok : Nat → Prop), Inv s w ok → ¬ ok gn → ¬ ok gt → ¬ ok gy → w.heap[gn]? = some (.cells #[.int .i64 a1] 3 (0, 0)) → w.heap[gt]? = some (.cells #[.func (.func 139) #[] #[.pointer (some ⟨g1, 0, none⟩), .pointer (some ⟨g2, 0, none⟩)]] 96 (0, 0)) → w.heap[gy]? = some (.cells #[.func (.func 157) #[] #[.pointer (some ⟨gn, 0, none⟩), .pointer (some ⟨gt, 0, none⟩), .pointer (some ⟨gy, 0, none⟩)]] 96 (0, 0)) → (∀ W', Kept w W' ok → Kd.C (Kd.int .i64) W' A0 l0.length l0) → l0.length ≤ c0 → permG step k a1 s l0 = some s' →
  Calls Try.prog 157 #[.slice A0 l0.length c0, .pointer (some ⟨gn, 0, none⟩), .pointer (some ⟨gt, 0, none⟩), .pointer (some ⟨gy, 0, none⟩)] w fun e w' => e = .returned (.tuple #[]) ∧ ∃ ok', Inv s' w' ok' ∧ (∀ q, ok' q → ok q ∨ w.heap.size ≤ q) ∧ Kept w w' ok := by
  intro k
  induction k using Nat.strongRecOn with
  | ind k ih =>
  intro a1 s s' A0 c0 l0 w ok hInv hnn hnt hny hbn hbt hby hp hc0 h
  cases k with
  | zero => simp [permG] at h
  | succ k =>
  simp only [permG] at h; have IH := Az ih; have HIV := Az hInv; have NN := Az hnn; have NT := Az hnt; have NY := Az hny; have BN0 := Az hbn; have BT0 := Az hbt; have BY0 := Az hby; have HP := Az hp; have HC0 := Az hc0; have HT := Az hT; have HI := Az hI; have HL := Az hL; clear ih hInv hnn hnt hny hbn hbt hby hp hc0 hT hI hL; have hcz0 : w.cell? ⟨gn, 0, none⟩ = some (.int .i64 a1) := (blk_cell BN0.out 0).trans rfl; have hcz1 : w.cell? ⟨gt, 0, none⟩ = some (.func (.func 139) #[] #[.pointer (some ⟨g1, 0, none⟩), .pointer (some ⟨g2, 0, none⟩)]) := (blk_cell BT0.out 0).trans rfl
  by_cases c5 : (l0.length : Int) = a1
  ·
    rw [if_pos c5] at h; have c5b0 := beq_iff_eq.mpr c5; clear c5; have H' := Az h; clear h
    go_enter Try.func157, Try.ntmps157
    go_wp2_with (first | (go_at_call 139; refine (HT.out k s s' l0 A0 c0 _ ok HIV.out HP.out HC0.out H'.out).mono ?_; rintro e w1 ⟨rfl, ok', i1, i2, i3⟩; have R1 := Az i1; have R2 := Az i2; have R3 := Az i3; clear i1 i2 i3))
    first | go_end0 | ((try simp only [Exit.inBlock, Exit.then]); refine bodyPost_ret (results_none rfl _ _ _) rfl ?_)
    exact ⟨rfl, ok', R1.out, R2.out, R3.out⟩
  ·
    rw [if_neg c5] at h; have c5b0 := beq_eq_false_iff_ne.mpr c5; clear c5; have H' := Az h; clear h
    go_enter Try.func157, Try.ntmps157
    go_wp2
    go_loopg [14] k (fun kq v14 w' => ∃ (x14_1 : Int) (s1 : σ) (ok1 : Nat → Prop), v14 = .int .i64 x14_1 ∧ Aside0 (permL step kq a1 s1 l0 x14_1 = some s') ∧ Aside0 (kq ≤ k) ∧ Aside0 (Inv s1 w' ok1) ∧ Aside0 (∀ q, ok1 q → ok q ∨ w.heap.size ≤ q) ∧ Aside0 (Kept w w' ok))
    case atStart => exact ⟨(0), s, ok, rfl, H', ⟨Nat.le_refl _⟩, HIV, ⟨fun q h => Or.inl h⟩, ⟨Kept.refl w ok⟩⟩
    case round =>
      clear H' HIV hcz0 hcz1; obtain ⟨x14_1, s1, ok1, rfl, HA, HK1, HIV, HOK, HKP⟩ := hrel
      cases gk with
      | zero => exact absurd HA.out (by simp [permL])
      | succ k1 =>
        have H := HA.out; clear HA; simp only [permL] at H; obtain ⟨wB, hwB⟩ : ∃ W_ : World, W_ = wr := ⟨wr, rfl⟩; have HB : Aside0 (Below wB.heap.size wB wr) := ⟨by rw [hwB]; exact Below.refl _ _⟩; have BK666 : Aside0 (wr.heap[gn]? = some (.cells #[.int .i64 a1] 3 (0, 0))) := ⟨blk_kept BN0.out HKP.out NN.out⟩; have BK667 : Aside0 (wr.heap[gt]? = some (.cells #[.func (.func 139) #[] #[.pointer (some ⟨g1, 0, none⟩), .pointer (some ⟨g2, 0, none⟩)]] 96 (0, 0))) := ⟨blk_kept BT0.out HKP.out NT.out⟩; have BK668 : Aside0 (wr.heap[gy]? = some (.cells #[.func (.func 157) #[] #[.pointer (some ⟨gn, 0, none⟩), .pointer (some ⟨gt, 0, none⟩), .pointer (some ⟨gy, 0, none⟩)]] 96 (0, 0))) := ⟨blk_kept BY0.out HKP.out NY.out⟩; have HR0 : Aside0 (Kd.C (Kd.int .i64) wB A0 l0.length l0) := ⟨by rw [hwB]; exact HP.out wr HKP.out⟩; replace HIV : Aside0 (Inv s1 wB ok1) := ⟨by rw [hwB]; exact HIV.out⟩; replace HKP : Aside0 (Kept w wB ok) := ⟨by rw [hwB]; exact HKP.out⟩; have hgnB : gn < wB.heap.size := Nat.lt_of_lt_of_le (blk_lt BN0.out) HKP.out.1; clear hwB
        by_cases c21 : x14_1 < a1
        ·
          rw [if_pos c21] at H; have c21b0 := decide_eq_true c21; clear c21; obtain ⟨t670, A220, H⟩ := Option.bind_eq_some_iff.mp H; have A22 := Az A220; clear A220
          by_cases c23 : t670 = true
          ·
            subst c23; rw [if_pos rfl] at H; have H' := Az H; clear H
            go_wp2_with (first | ((with_reducible refine gate_callee (f := 147) rfl ?_); refine goesL_ (some 19) rfl rfl Try.func147 (by kernel_rfl) rfl #[.slice A0 l0.length c0, .int .i64 x14_1] rfl (by (try simp only [List.map_toArray, List.map_cons, List.map_nil]); first | done | rfl | (simp only [List.length_drop, List.length_take]; rfl)) ?_; (with_reducible refine (slices_Contains_int_int.calls k1 _ _ l0 x14_1 true _ ?side1 ?side2 A22.out).mono ?_); (case side1 => exact cU (Kd.C_below HR0.out HB.out)); (case side2 => exact HC0.out); rintro e w' ⟨rfl, ⟨nd, rfl⟩⟩; refine ⟨_, rfl, ?_⟩))
            (first | go_roundg k1 | (refine Handed.intro k1 ?measure ?_; rotate_left; go_step; (try simp only [add_plain]); (repeat apply Exists.intro); refine ⟨?rel, rfl⟩))
            case measure => have := HK1.out; omega
            case rel => exact ⟨(wrap64 (x14_1 + 1)), s1, ok1, rfl, H', ⟨by have := HK1.out; omega⟩, ⟨HI.out _ _ _ _ HIV.out (bU0 HB.out)⟩, HOK, ⟨Kept.below HKP.out (bU0 HB.out)⟩⟩
          ·
            replace c23 := Bool.eq_false_iff.mpr c23; subst c23; rw [if_neg (show ¬ (false = true) by decide)] at H; obtain ⟨t671, A240, H⟩ := Option.bind_eq_some_iff.mp H; have A24 := Az A240; clear A240; obtain ⟨y674, hy674, H⟩ := Option.bind_eq_some_iff.mp H; have Ny674 : Aside0 (y674 = ([x14_1] : List Int)) := ⟨(Option.some.inj hy674).symm⟩; clear hy674
            by_cases c25 : t671.length + y674.length < 17592186044416
            ·
              rw [if_pos c25] at H; have LMc25 := Az c25; clear c25; obtain ⟨y677, hy677⟩ : ∃ y_ : List Int, y_ = (t671 ++ y674) := ⟨_, rfl⟩; rw [← hy677] at H; have Ny677 := Az hy677; clear hy677; obtain ⟨s2, A260, H⟩ := Option.bind_eq_some_iff.mp H; have A26 := Az A260; clear A260; have H' := Az H; clear H
              try go_wp2_with (first | ((with_reducible refine gate_callee (f := 147) rfl ?_); refine goesL_ (some 19) rfl rfl Try.func147 (by kernel_rfl) rfl #[.slice A0 l0.length c0, .int .i64 x14_1] rfl (by (try simp only [List.map_toArray, List.map_cons, List.map_nil]); first | done | rfl | (simp only [List.length_drop, List.length_take]; rfl)) ?_; (with_reducible refine (slices_Contains_int_int.calls k1 _ _ l0 x14_1 false _ ?side1 ?side2 A22.out).mono ?_); (case side1 => exact cU (Kd.C_below HR0.out HB.out)); (case side2 => exact HC0.out); rintro e w' ⟨rfl, ⟨nd, rfl⟩⟩; refine ⟨_, rfl, ?_⟩))
              (try (rw [drewN_self wr]; generalize hq_ : World.drewN wr _ = wr; have n0_ : Aside0 (wr.heap[gn]? = some (.cells #[.int .i64 a1] 3 (0, 0))) := ⟨by rw [← hq_]; exact (kU BK666.out)⟩; have n1_ : Aside0 (wr.heap[gt]? = some (.cells #[.func (.func 139) #[] #[.pointer (some ⟨g1, 0, none⟩), .pointer (some ⟨g2, 0, none⟩)]] 96 (0, 0))) := ⟨by rw [← hq_]; exact (kU BK667.out)⟩; have n2_ : Aside0 (wr.heap[gy]? = some (.cells #[.func (.func 157) #[] #[.pointer (some ⟨gn, 0, none⟩), .pointer (some ⟨gt, 0, none⟩), .pointer (some ⟨gy, 0, none⟩)]] 96 (0, 0))) := ⟨by rw [← hq_]; exact (kU BK668.out)⟩; have n3_ : Aside0 (Below wB.heap.size wB wr) := ⟨by rw [← hq_]; exact (bU0 HB.out)⟩; clear BK666 BK667 BK668 HB hq_; have BK666 := n0_; have BK667 := n1_; have BK668 := n2_; have HB := n3_; clear n0_ n1_ n2_ n3_)); have n0_ := Az (blk_drew BK666.out); have n1_ := Az (blk_drew BK667.out); have n2_ := Az (blk_drew BK668.out); have n3_ := Az (below_drew1 HB.out); clear BK666 BK667 BK668 HB; have BK666 := n0_; have BK667 := n1_; have BK668 := n2_; have HB := n3_; clear n0_ n1_ n2_ n3_
              refine start_ (n := 7) (S := fun w' => w'.cell? ⟨gy, 0, none⟩ = some (.func (.func 157) #[] #[.pointer (some ⟨gn, 0, none⟩), .pointer (some ⟨gt, 0, none⟩), .pointer (some ⟨gy, 0, none⟩)])) (ds := []) #[false, false, false, false, false, false, false] (by kernel_rfl) rfl rfl ((blk_cell BK668.out 0).trans rfl) (fun hHeld => ?_)
              generalize wr.drew = w27 at BK666 BK667 BK668 HB hHeld ⊢
              refine pure_ (i := 1) (N := some 22) (v := ?_) (a' := ?_) #[false, true, false, false, false, false, false] rfl rfl (by kernel_rfl) (fun _ _ _ h => h) (Or.inl ⟨by rfl, ?_⟩) ?_ ?_
              rotate_left
              ·
               intro w'
               go_simp
               with_reducible rfl
              rotate_left
              ·
               simp only [Act.put, List.setIfInBounds_toArray, List.set_cons_zero, List.set_cons_succ, i64_w, i32_w]
               rfl
              refine pure_ (i := 3) (N := some 24) (v := ?_) (a' := ?_) #[false, true, false, true, false, false, false] rfl rfl (by kernel_rfl) (fun _ _ _ h => h) (Or.inl ⟨by rfl, ?_⟩) ?_ ?_
              rotate_left
              ·
               intro w'
               go_simp
               with_reducible rfl
              rotate_left
              ·
               simp only [Act.put, List.setIfInBounds_toArray, List.set_cons_zero, List.set_cons_succ, i64_w, i32_w]
               rfl
              refine take_ (i := 0) (N := some 21) (v := ?_) (a' := ?_) #[true, true, false, true, false, false, false] rfl rfl (by kernel_rfl) (fun _ _ _ h => h) (Or.inl ⟨by rfl, ?_⟩) hHeld ?_ ?_
              rotate_left
              ·
               intro w' s0
               go_simp
               with_reducible rfl
              rotate_left
              ·
               simp only [Act.put, List.setIfInBounds_toArray, List.set_cons_zero, List.set_cons_succ, i64_w, i32_w]
               rfl
              refine join_ (σ := Value × Value) 2 #[true, true, true, true, true, false, false] (fun s_ => [(23, s_.1), (25, s_.2)]) (fun s_ w' => (w'.cell? ⟨gy, 0, none⟩ = some (.func (.func 157) #[] #[.pointer (some ⟨gn, 0, none⟩), .pointer (some ⟨gt, 0, none⟩), .pointer (some ⟨gy, 0, none⟩)])) ∧ (Kd.R (Kd.int .i64) 3 w' wB.heap.size (fun k_ => some k_ ≠ (s_.2 : Value).ownBlock) s_.1 t671) ∧ (Kd.R (Kd.int .i64) 3 w' wB.heap.size (fun k_ => some k_ ≠ (s_.1 : Value).ownBlock) s_.2 y674) ∧ (w'.heap[gn]? = some (.cells #[.int .i64 a1] 3 (0, 0))) ∧ (w'.heap[gt]? = some (.cells #[.func (.func 139) #[] #[.pointer (some ⟨g1, 0, none⟩), .pointer (some ⟨g2, 0, none⟩)]] 96 (0, 0))) ∧ (w'.heap[gy]? = some (.cells #[.func (.func 157) #[] #[.pointer (some ⟨gn, 0, none⟩), .pointer (some ⟨gt, 0, none⟩), .pointer (some ⟨gy, 0, none⟩)]] 96 (0, 0))) ∧ (Below wB.heap.size wB w')) ?_ ?_
              rotate_left
              ·
               intro hCont
               refine two_ (i := 2) (j := 4) (Ni := some 23) (Nj := some 25) #[true, true, true, true, false, false, false] #[true, true, false, true, true, false, false] rfl rfl rfl rfl (by kernel_rfl) (by decide) (by decide) (fun K hK => ?_) (fun K hK => ?_)
               ·
                skip
                refine goes_ Try.func68 (by kernel_rfl) rfl #[.slice A0 l0.length c0] (by rfl) rfl rfl (by (try simp only [List.map_toArray, List.map_cons, List.map_nil]); first | done | rfl | (simp only [List.length_drop, List.length_take]; rfl)) ?_
                with_reducible refine (slices_Clone_int_int.calls _ _ l0 t671 _ ?side1 ?side2 A24.out).mono ?_
                (case side1 => exact cU (Kd.C_below HR0.out HB.out))
                (case side2 => exact HC0.out)
                rintro e w28 ⟨v672, rfl, ho0, hb⟩
                refine ⟨_, rfl, ?_⟩
                have n0_ := Az (Kd.R_lower ho0 (below_size (bU0 HB.out))); have n1_ := Az (blk_below (g := gn) (o := .cells #[.int .i64 a1] 3 (0, 0)) (kU BK666.out) hb); have n2_ := Az (blk_below (g := gt) (o := .cells #[.func (.func 139) #[] #[.pointer (some ⟨g1, 0, none⟩), .pointer (some ⟨g2, 0, none⟩)]] 96 (0, 0)) (kU BK667.out) hb); have n3_ := Az (blk_below (g := gy) (o := .cells #[.func (.func 157) #[] #[.pointer (some ⟨gn, 0, none⟩), .pointer (some ⟨gt, 0, none⟩), .pointer (some ⟨gy, 0, none⟩)]] 96 (0, 0)) (kU BK668.out) hb); have n4_ := Az (below_step (bU0 HB.out) hb); clear BK666 BK667 BK668 HB; have HO673 := n0_; have BK666 := n1_; have BK667 := n2_; have BK668 := n3_; have HB := n4_; clear n0_ n1_ n2_ n3_ n4_; (try clear hb); (try clear hb2); (try clear hk); (try clear hi); (try clear ho0)
                refine hK.out _ _ ((blk_cell BK668.out 0).trans rfl) (fun hHeld => ?_)
                clear hK K
                refine norm_ (a' := ?_) ?_ ?_
                rotate_left
                ·
                 show Act.put _ (some 23) _ = _
                 simp only [Act.put, List.setIfInBounds_toArray, List.set_cons_zero, List.set_cons_succ, i64_w, i32_w]
                 rfl
                refine one_ (i := 4) (N := some 25) #[true, true, true, true, true, false, false] rfl rfl (by kernel_rfl) (by decide) (fun K hK => ?_)
                refine Kd.R_lit_step (Kd.int .i64) _ 3 ?hg (N := 25) ?hd (xs := ([x14_1] : List Int)) (inner := [.int .i64 x14_1]) (ok := fun _ => True) (okp := fun _ => True) ?hr ?hp (fun _ hk => hk) trivial (Below.refl _ _) (Nat.le_refl _) (by simp) ?_; (case hd => rfl); (case hg => rfl); (case hr => first | (go_simp; done) | (go_simp; rfl)); (case hp => exact (Reps.one (show Kd.M (Kd.int .i64) _ _ _ x14_1 [.int .i64 x14_1] from rfl) (Reps.none _ _)))
                intro v675 w29 ho30 hb hg_ hnew_
                clear hg_ hnew_; (first | rw [← Ny674.out] at ho30 | (simp only [Int.reduceToNat] at ho30; rw [← Ny674.out] at ho30)); have n0_ := Az (Kd.R_elder' (rU HO673.out) (Kd.R_base ho30) hb); have n1_ := Az (Kd.R_lower (Kd.R_new' ho30 (Kd.R_lt (rU HO673.out))) (below_size (bU0 HB.out))); have n2_ := Az (blk_below (g := gn) (o := .cells #[.int .i64 a1] 3 (0, 0)) (kU BK666.out) hb); have n3_ := Az (blk_below (g := gt) (o := .cells #[.func (.func 139) #[] #[.pointer (some ⟨g1, 0, none⟩), .pointer (some ⟨g2, 0, none⟩)]] 96 (0, 0)) (kU BK667.out) hb); have n4_ := Az (blk_below (g := gy) (o := .cells #[.func (.func 157) #[] #[.pointer (some ⟨gn, 0, none⟩), .pointer (some ⟨gt, 0, none⟩), .pointer (some ⟨gy, 0, none⟩)]] 96 (0, 0)) (kU BK668.out) hb); have n5_ := Az (below_step (bU0 HB.out) hb); clear HO673 BK666 BK667 BK668 HB; have HO673 := n0_; have HO676 := n1_; have BK666 := n2_; have BK667 := n3_; have BK668 := n4_; have HB := n5_; clear n0_ n1_ n2_ n3_ n4_ n5_ hb ho30
                refine hK.out _ _ ((blk_cell BK668.out 0).trans rfl) (fun hHeld => ?_)
                clear hK K
                refine norm_ (a' := ?_) ?_ ?_
                rotate_left
                ·
                 show Act.put _ (some 25) _ = _
                 simp only [Act.put, List.setIfInBounds_toArray, List.set_cons_zero, List.set_cons_succ, i64_w, i32_w]
                 rfl
                exact norm_ (by simp only [putAll, Act.put, List.setIfInBounds_toArray, List.set_cons_zero, List.set_cons_succ]) (hCont (v672, v675) _ ⟨hHeld, (by (with_reducible repeat (first | apply Kd.R_alloc | apply Kd.R_drewN | apply Kd.R_drew)); exact Kd.R_mono HO673.out (fun _ hk => hk.2)), (by (with_reducible repeat (first | apply Kd.R_alloc | apply Kd.R_drewN | apply Kd.R_drew)); exact Kd.R_mono HO676.out (fun _ hk => hk.2)), (kU BK666.out), (kU BK667.out), (kU BK668.out), (bU0 HB.out)⟩)
               ·
                skip
                refine Kd.R_lit_step (Kd.int .i64) _ 3 ?hg (N := 25) ?hd (xs := ([x14_1] : List Int)) (inner := [.int .i64 x14_1]) (ok := fun _ => True) (okp := fun _ => True) ?hr ?hp (fun _ hk => hk) trivial (Below.refl _ _) (Nat.le_refl _) (by simp) ?_; (case hd => rfl); (case hg => rfl); (case hr => first | (go_simp; done) | (go_simp; rfl)); (case hp => exact (Reps.one (show Kd.M (Kd.int .i64) _ _ _ x14_1 [.int .i64 x14_1] from rfl) (Reps.none _ _)))
                intro v675 w28 ho29 hb hg_ hnew_
                clear hg_ hnew_; (first | rw [← Ny674.out] at ho29 | (simp only [Int.reduceToNat] at ho29; rw [← Ny674.out] at ho29)); have n0_ := Az (Kd.R_lower ho29 (below_size (bU0 HB.out))); have n1_ := Az (blk_below (g := gn) (o := .cells #[.int .i64 a1] 3 (0, 0)) (kU BK666.out) hb); have n2_ := Az (blk_below (g := gt) (o := .cells #[.func (.func 139) #[] #[.pointer (some ⟨g1, 0, none⟩), .pointer (some ⟨g2, 0, none⟩)]] 96 (0, 0)) (kU BK667.out) hb); have n3_ := Az (blk_below (g := gy) (o := .cells #[.func (.func 157) #[] #[.pointer (some ⟨gn, 0, none⟩), .pointer (some ⟨gt, 0, none⟩), .pointer (some ⟨gy, 0, none⟩)]] 96 (0, 0)) (kU BK668.out) hb); have n4_ := Az (below_step (bU0 HB.out) hb); clear BK666 BK667 BK668 HB; have HO676 := n0_; have BK666 := n1_; have BK667 := n2_; have BK668 := n3_; have HB := n4_; clear n0_ n1_ n2_ n3_ n4_ hb ho29
                refine hK.out _ _ ((blk_cell BK668.out 0).trans rfl) (fun hHeld => ?_)
                clear hK K
                refine norm_ (a' := ?_) ?_ ?_
                rotate_left
                ·
                 show Act.put _ (some 25) _ = _
                 simp only [Act.put, List.setIfInBounds_toArray, List.set_cons_zero, List.set_cons_succ, i64_w, i32_w]
                 rfl
                refine one_ (i := 2) (N := some 23) #[true, true, true, true, true, false, false] rfl rfl (by kernel_rfl) (by decide) (fun K hK => ?_)
                refine goes_ Try.func68 (by kernel_rfl) rfl #[.slice A0 l0.length c0] (by rfl) rfl rfl (by (try simp only [List.map_toArray, List.map_cons, List.map_nil]); first | done | rfl | (simp only [List.length_drop, List.length_take]; rfl)) ?_
                with_reducible refine (slices_Clone_int_int.calls _ _ l0 t671 _ ?side1 ?side2 A24.out).mono ?_
                (case side1 => exact cU (Kd.C_below HR0.out HB.out))
                (case side2 => exact HC0.out)
                rintro e w30 ⟨v672, rfl, ho0, hb⟩
                refine ⟨_, rfl, ?_⟩
                have n0_ := Az (Kd.R_elder' (rU HO676.out) (Kd.R_base ho0) hb); have n1_ := Az (Kd.R_lower (Kd.R_new' ho0 (Kd.R_lt (rU HO676.out))) (below_size (bU0 HB.out))); have n2_ := Az (blk_below (g := gn) (o := .cells #[.int .i64 a1] 3 (0, 0)) (kU BK666.out) hb); have n3_ := Az (blk_below (g := gt) (o := .cells #[.func (.func 139) #[] #[.pointer (some ⟨g1, 0, none⟩), .pointer (some ⟨g2, 0, none⟩)]] 96 (0, 0)) (kU BK667.out) hb); have n4_ := Az (blk_below (g := gy) (o := .cells #[.func (.func 157) #[] #[.pointer (some ⟨gn, 0, none⟩), .pointer (some ⟨gt, 0, none⟩), .pointer (some ⟨gy, 0, none⟩)]] 96 (0, 0)) (kU BK668.out) hb); have n5_ := Az (below_step (bU0 HB.out) hb); clear HO676 BK666 BK667 BK668 HB; have HO676 := n0_; have HO673 := n1_; have BK666 := n2_; have BK667 := n3_; have BK668 := n4_; have HB := n5_; clear n0_ n1_ n2_ n3_ n4_ n5_; (try clear hb); (try clear hb2); (try clear hk); (try clear hi); (try clear ho0)
                refine hK.out _ _ ((blk_cell BK668.out 0).trans rfl) (fun hHeld => ?_)
                clear hK K
                refine norm_ (a' := ?_) ?_ ?_
                rotate_left
                ·
                 show Act.put _ (some 23) _ = _
                 simp only [Act.put, List.setIfInBounds_toArray, List.set_cons_zero, List.set_cons_succ, i64_w, i32_w]
                 rfl
                exact norm_ (by simp only [putAll, Act.put, List.setIfInBounds_toArray, List.set_cons_zero, List.set_cons_succ]) (hCont (v672, v675) _ ⟨hHeld, (by (with_reducible repeat (first | apply Kd.R_alloc | apply Kd.R_drewN | apply Kd.R_drew)); exact Kd.R_mono HO673.out (fun _ hk => hk.2)), (by (with_reducible repeat (first | apply Kd.R_alloc | apply Kd.R_drewN | apply Kd.R_drew)); exact Kd.R_mono HO676.out (fun _ hk => hk.2)), (kU BK666.out), (kU BK667.out), (kU BK668.out), (bU0 HB.out)⟩)
              rintro ⟨v672, v675⟩ w31 ⟨hS_, h0_, h1_, h2_, h3_, h4_, h5_⟩
              have n0_ : Aside0 (Kd.R (Kd.int .i64) 3 w31 wB.heap.size (fun k_ => some k_ ≠ (v675 : Value).ownBlock) v672 t671) := ⟨h0_⟩; have n1_ : Aside0 (Kd.R (Kd.int .i64) 3 w31 wB.heap.size (fun k_ => some k_ ≠ (v672 : Value).ownBlock) v675 y674) := ⟨h1_⟩; have n2_ : Aside0 (w31.heap[gn]? = some (.cells #[.int .i64 a1] 3 (0, 0))) := ⟨h2_⟩; have n3_ : Aside0 (w31.heap[gt]? = some (.cells #[.func (.func 139) #[] #[.pointer (some ⟨g1, 0, none⟩), .pointer (some ⟨g2, 0, none⟩)]] 96 (0, 0))) := ⟨h3_⟩; have n4_ : Aside0 (w31.heap[gy]? = some (.cells #[.func (.func 157) #[] #[.pointer (some ⟨gn, 0, none⟩), .pointer (some ⟨gt, 0, none⟩), .pointer (some ⟨gy, 0, none⟩)]] 96 (0, 0))) := ⟨h4_⟩; have n5_ : Aside0 (Below wB.heap.size wB w31) := ⟨h5_⟩; clear BK666 BK667 BK668 HB h0_ h1_ h2_ h3_ h4_ h5_; have HO673 := n0_; have HO676 := n1_; have BK666 := n2_; have BK667 := n3_; have BK668 := n4_; have HB := n5_; clear n0_ n1_ n2_ n3_ n4_ n5_; have hHeld : w31.cell? ⟨gy, 0, none⟩ = some (.func (.func 157) #[] #[.pointer (some ⟨gn, 0, none⟩), .pointer (some ⟨gt, 0, none⟩), .pointer (some ⟨gy, 0, none⟩)]) := hS_; obtain ⟨Ao33, co33, eo33⟩ := Kd.R_slice HO676.out; (first | subst eo33 | (injection eo33 with f1_ f2_ f3_; have f4_ := f1_.symm; have f5_ := f3_.symm; clear f1_ f2_ f3_; subst f4_; subst f5_))
              refine norm_ (a' := ?_) ?_ ?_
              rotate_left
              ·
               simp only [putAll, Act.put, List.setIfInBounds_toArray, List.set_cons_zero, List.set_cons_succ]
               rfl
              refine one_ (i := 5) (N := some 26) #[true, true, true, true, true, true, false] rfl rfl (by kernel_rfl) (by decide) (fun K hK => ?_)
              refine Kd.R_append_rows_step (Kd.int .i64) (w0 := wB) wB.heap.size (by rfl) (.tmp 23) (.tmp 25) 23 3 (.int .i64 0) 8 rfl Try.underlying23 infoF3 rfl (by decide) (by omega) v672 t671 y674 _ _ _ (fun k_ => some k_ ≠ (.slice Ao33 y674.length co33 : Value).ownBlock) (fun _ => False) rfl rfl ?aO ?aR (fun _ _ h => h) (fun _ h => h.elim) ?aF ?aB ?aS ?aL ?_
              (case aR => exact cU ((Kd.R_reads' HO676.out).2.2))
              (case aB => exact (bU0 HB.out))
              (case aF => exact (fun k_ hk => Kd.fresh' (Kd.R_lt (rU HO676.out)) k_ hk))
              (case aO => exact (rU HO673.out))
              (case aS => exact (below_size (bU0 HB.out)))
              (case aL => have := LMc25.out; omega)
              intro v678 w32 ho hb hg hat
              rw [← Ny677.out] at ho; have n0_ := Az (blk_grown (g := gn) (o := .cells #[.int .i64 a1] 3 (0, 0)) (kU BK666.out) hg (fun e_ => absurd (Kd.R_base HO673.out gn e_.symm) (Nat.not_le_of_lt hgnB))); have n1_ := Az (blk_grown (g := gt) (o := .cells #[.func (.func 139) #[] #[.pointer (some ⟨g1, 0, none⟩), .pointer (some ⟨g2, 0, none⟩)]] 96 (0, 0)) (kU BK667.out) hg (Kd.R_ne HO673.out BK667.out (by decide))); have n2_ := Az (blk_grown (g := gy) (o := .cells #[.func (.func 157) #[] #[.pointer (some ⟨gn, 0, none⟩), .pointer (some ⟨gt, 0, none⟩), .pointer (some ⟨gy, 0, none⟩)]] 96 (0, 0)) (kU BK668.out) hg (Kd.R_ne HO673.out BK668.out (by decide))); have n3_ := Az (Kd.R_after (ok := (fun _ => True)) (by (with_reducible repeat (first | apply Kd.R_alloc | apply Kd.R_drewN | apply Kd.R_drew)); exact Kd.R_mono HO676.out (fun _ hk => ⟨trivial, hk⟩)) hg hat); have n4_ := Az (hb); have n5_ := Az (ho); clear BK666 BK667 BK668 HO676 HB HO673; have BK666 := n0_; have BK667 := n1_; have BK668 := n2_; have HO676 := n3_; have HB := n4_; have HO679 := n5_; clear n0_ n1_ n2_ n3_ n4_ n5_ ho hb hg hat; obtain ⟨Ao34, co34, eo34⟩ := Kd.R_slice HO679.out; (first | subst eo34 | (injection eo34 with f1_ f2_ f3_; have f4_ := f1_.symm; have f5_ := f3_.symm; clear f1_ f2_ f3_; subst f4_; subst f5_))
              refine hK.out _ _ ((blk_cell BK668.out 0).trans rfl) (fun hHeld => ?_)
              clear hK K
              refine norm_ (a' := ?_) ?_ ?_
              rotate_left
              ·
               show Act.put _ (some 26) _ = _
               simp only [Act.put, List.setIfInBounds_toArray, List.set_cons_zero, List.set_cons_succ, i64_w, i32_w]
               rfl
              refine one_ (i := 6) (N := some 27) #[true, true, true, true, true, true, true] rfl rfl (by kernel_rfl) (by decide) (fun K hK => ?_)
              refine goesV_ (f := 157) Try.func157 (by kernel_rfl) rfl #[.slice Ao34 y677.length co34, .pointer (some ⟨gn, 0, none⟩), .pointer (some ⟨gt, 0, none⟩), .pointer (some ⟨gy, 0, none⟩)] (by rfl) rfl rfl (by rfl) (by first | rfl | (simp; done) | (simp; rfl)) ?_
              have hge : ∀ q, ok1 q → q < wB.heap.size := fun q hq => HL.out _ _ _ _ HIV.out hq
              have hnew : ∀ g, g < w.heap.size → ¬ ok g → ¬ ok1 g := fun g hg hn hq => (HOK.out g hq).elim hn (fun h_ => by omega)
              have on := hnew gn (blk_lt BN0.out) NN.out; have ot := hnew gt (blk_lt BT0.out) NT.out; have oy := hnew gy (blk_lt BY0.out) NY.out
              refine (IH.out k1 (by have := HK1.out; omega) a1 s1 s2 Ao34 co34 y677 _ ok1 (HI.out _ _ _ _ HIV.out (bU0 HB.out)) on ot oy BK666.out BK667.out BK668.out (Kd.C_kept_own (Kd.R_bound HO679.out) (fun q hq h1 => by have h2 := hge q h1; have h3 := hq.2.1; omega)) (Kd.R_reads' HO679.out).2.1 A26.out).mono ?_
              rintro e w' ⟨rfl, ok2, i1, i2, i3⟩
              refine ⟨_, rfl, ?_⟩
              have R1 := Az i1; have R2 := Az i2; have R3 := Az i3; have hcy := blk_kept BK668.out i3 oy; clear i1 i2 i3
              refine hK.out _ _ ((blk_cell hcy 0).trans rfl) (fun hHeld => ?_)
              clear hK K
              refine norm_ (a' := ?_) ?_ ?_
              rotate_left
              ·
                show Act.put _ (some 27) _ = _
                simp only [Act.put, List.setIfInBounds_toArray, List.set_cons_zero, List.set_cons_succ, i64_w, i32_w]
                rfl
              refine done_ (by kernel_rfl) ?_
              try go_wp2
              (first | go_roundg k1 | (refine Handed.intro k1 ?measure ?_; rotate_left; go_step; (try simp only [add_plain]); (repeat apply Exists.intro); refine ⟨?rel, rfl⟩))
              case measure => have := HK1.out; omega
              case rel => exact ⟨(wrap64 (x14_1 + 1)), s2, ok2, rfl, H', ⟨by have := HK1.out; omega⟩, R1, ⟨fun q hq => (R2.out q hq).elim (HOK.out q) (fun h_ => Or.inr (Nat.le_trans (Nat.le_trans HKP.out.1 HB.out.size) h_))⟩, ⟨Kept.then_ (Kept.below HKP.out HB.out) R3.out (fun q hq => HOK.out q hq)⟩⟩
            ·
              rw [if_neg c25] at H
              exact absurd H (by simp)
        ·
          rw [if_neg c21] at H; have c21b0 := decide_eq_false c21; clear c21; obtain rfl := Option.some.inj H
          go_wp2
          first | go_end0 | ((try simp only [Exit.inBlock, Exit.then]); refine bodyPost_ret (results_none rfl _ _ _) rfl ?_)
          exact ⟨rfl, ok1, HI.out _ _ _ _ HIV.out (bU0 HB.out), HOK.out, Kept.below HKP.out (bU0 HB.out)⟩
theorem setCell_new (w : World) (u v : Value) (t : TypeId) : (w.alloc (.cells #[u] t (0, 0))).setCell ⟨w.heap.size, 0, none⟩ v = w.alloc (.cells #[v] t (0, 0)) := (World.setCell_alloc_new _ _ _ _).trans rfl
set_option maxHeartbeats 8000000 in
set_option maxRecDepth 100000 in
theorem perm0.calls {σ : Type} (step : Nat → σ → List Int → Option σ) (Inv : σ → World → (Nat → Prop) → Prop) (g1 g2 : Nat)
  (hI : ∀ s W W' ok, Inv s W ok → Below W.heap.size W W' → Inv s W' ok) (hL : ∀ s W ok q, Inv s W ok → ok q → q < W.heap.size)
  (hT : ∀ (k : Nat) (s s' : σ) (p : List Int) (A : Option Addr) (c : Nat) (W : World) (ok : Nat → Prop), Inv s W ok → (∀ W', Kept W W' ok → Kd.C (Kd.int .i64) W' A p.length p) → p.length ≤ c → step k s p = some s' → Calls Try.prog 139 #[.slice A p.length c, .pointer (some ⟨g1, 0, none⟩), .pointer (some ⟨g2, 0, none⟩)] W fun e w' => e = .returned (.tuple #[]) ∧ ∃ ok', Inv s' w' ok' ∧ (∀ q, ok' q → ok q ∨ W.heap.size ≤ q) ∧ Kept W w' ok)
  (k : Nat) (a1 : Int) (s s' : σ) (w : World) (ok : Nat → Prop) (hInv : Inv s w ok) (h : permG step k a1 s [] = some s') :
  Calls Try.prog 138 #[.int .i64 a1, .func (.func 139) #[] #[.pointer (some ⟨g1, 0, none⟩), .pointer (some ⟨g2, 0, none⟩)]] w fun e w' => e = .returned (.tuple #[]) ∧ ∃ ok', Inv s' w' ok' ∧ (∀ q, ok' q → ok q ∨ w.heap.size ≤ q) ∧ Kept w w' ok := by
  have HB := Az (Below.refl w.heap.size w); have HIV := Az hInv; have HH := Az h; have HT := Az hT; have HI := Az hI; have HL := Az hL; clear hInv h hT hI hL
  go_enter Try.func138, Try.ntmps138
  go_wp2_with (first | ((with_reducible refine gate_dst (N := 2) rfl ?_); refine box_event ?hg (N := 2) ?hd (cs := #[.int .i64 a1]) (t := 3) ?hr ?_; (case hd => rfl); (case hg => rfl); (case hr => first | (go_simp; done) | (go_simp; rfl)); intro gn hg_ w2 hbox hb; have n1 := Az (below_step HB.out hb); have B_gn := Az hbox; have G_gn := Az ((by rw [hg_]; exact below_size HB.out) : w.heap.size ≤ gn); clear HB hb hbox hg_; have HB := n1; clear n1) | ((with_reducible refine gate_dst (N := 3) rfl ?_); refine box_event ?hg (N := 3) ?hd (cs := #[.func (.func 139) #[] #[.pointer (some ⟨g1, 0, none⟩), .pointer (some ⟨g2, 0, none⟩)]]) (t := 96) ?hr ?_; (case hd => rfl); (case hg => rfl); (case hr => first | (go_simp; done) | (go_simp; rfl)); intro gt hg_ w3 hbox hb; have n1 := Az (below_step HB.out hb); have m0 := Az (blk_below B_gn.out hb); have B_gt := Az hbox; have G_gt := Az ((by rw [hg_]; exact below_size HB.out) : w.heap.size ≤ gt); clear HB hb hbox hg_ B_gn; have HB := n1; clear n1; have B_gn := m0; clear m0) | ((with_reducible refine gate_store (p := 4) (t := 96) rfl ?_); refine store_event (w1 := w3.alloc (.cells #[.func (.func 157) #[] #[.pointer (some ⟨gn, 0, none⟩), .pointer (some ⟨gt, 0, none⟩), .pointer (some ⟨w3.heap.size, 0, none⟩)]] 96 (0, 0))) rfl rfl rfl ?hr ?_; (case hr => (go_simp; rw [run_store _ _ _ _ _ rfl]; simp [stored]; exact setCell_new _ _ _ _)); rintro w4 rfl) | (go_at_call 157; refine (perm1.calls step Inv g1 g2 HI.out HL.out HT.out gn gt w3.heap.size k a1 s s' none 0 [] _ ok (HI.out _ _ _ _ HIV.out (by repeat (first | exact HB.out | apply below_alloc))) (fun h_ => Nat.lt_irrefl _ (Nat.lt_of_lt_of_le (HL.out _ _ _ _ HIV.out h_) G_gn.out)) (fun h_ => Nat.lt_irrefl _ (Nat.lt_of_lt_of_le (HL.out _ _ _ _ HIV.out h_) G_gt.out)) (fun h_ => Nat.lt_irrefl _ (Nat.lt_of_lt_of_le (HL.out _ _ _ _ HIV.out h_) (below_size HB.out))) (blk_alloc B_gn.out _) (blk_alloc B_gt.out _) (blk_new w3 _) (fun W' _ => Kd.C_nil _ _) (Nat.le_refl 0) HH.out).mono ?_; rintro e w5 ⟨rfl, ok', i1, i2, i3⟩; have R1 := Az i1; have R2 := Az i2; have R3 := Az i3; clear i1 i2 i3))
  first | go_end0 | ((try simp only [Exit.inBlock, Exit.then]); refine bodyPost_ret (results_none rfl _ _ _) rfl ?_)
  have hb4 : Below w.heap.size w (w3.alloc (.cells #[.func (.func 157) #[] #[.pointer (some ⟨gn, 0, none⟩), .pointer (some ⟨gt, 0, none⟩), .pointer (some ⟨w3.heap.size, 0, none⟩)]] 96 (0, 0))) := (by repeat (first | exact HB.out | apply below_alloc))
  exact ⟨rfl, ok', R1.out, fun q hq => (R2.out q hq).imp id (fun h_ => Nat.le_trans (below_size hb4) h_), Kept.then_ (Kept.below (Kept.refl w ok) hb4) R3.out (fun q hq => Or.inl hq)⟩
def fac1L : Nat → List (List Int) → List Int → List (List (List Int)) → Int → Option (List (List (List Int)))
  | 0, _, _, _, _ => none
  | k + 1, ts, p, cs, i => if i < (ts.length : Int) then (if 0 ≤ i then ((impl_typeOf.f k p).bind fun t => ((slices_Equal_int_int.f k t (rdS ts i)).bind fun b => (if b = true then ((slices_Clone_int_int.f p).bind fun c => (if (cs.getD i.toNat []).length < 5864062014805 then fac1L k ts p (cs.set i.toNat (cs.getD i.toNat [] ++ [c])) (wrap64 (i + 1)) else none)) else fac1L k ts p cs (wrap64 (i + 1))))) else none) else some cs
def fac1I (w0 : World) (At : Option Addr) (ct : Nat) (ts : List (List Int)) (g1 g2 : Nat) (v : Value) (s : List (List (List Int))) (W : World) (ok : Nat → Prop) : Prop :=
  Below w0.heap.size w0 W ∧ W.heap[g1]? = some (.cells #[.slice At ts.length ct] 45 (0, 0)) ∧ W.heap[g2]? = some (.cells #[v] 98 (0, 0)) ∧ Kd.S (Kd.slice 23 (Kd.slice 3 (Kd.int .i64))) 45 W w0.heap.size ok v s ∧ (∀ q, ok q → q ≠ g1 ∧ q ≠ g2 ∧ q < W.heap.size) ∧ s.length = ts.length
theorem fac1I.below {w0 W W1 : World} {At : Option Addr} {ct : Nat} {ts : List (List Int)} {g1 g2 : Nat} {v : Value} {s : List (List (List Int))} {ok : Nat → Prop} (h : fac1I w0 At ct ts g1 g2 v s W ok) (hb : Below W.heap.size W W1) : fac1I w0 At ct ts g1 g2 v s W1 ok := by
  obtain ⟨h1, h2, h3, h4, h5, h6⟩ := h
  exact ⟨below_step h1 hb, blk_below h2 hb, blk_below h3 hb, Kd.S_below h4 hb, fun q hq => ⟨(h5 q hq).1, (h5 q hq).2.1, Nat.lt_of_lt_of_le (h5 q hq).2.2 hb.size⟩, h6⟩
set_option maxHeartbeats 8000000 in
set_option maxRecDepth 100000 in
theorem fac1.calls (w0 : World) (At : Option Addr) (ct : Nat) (ts : List (List Int)) (g1 g2 : Nat) (v : Value) (hts : Kd.C (Kd.slice 3 (Kd.int .i64)) w0 At ts.length ts) (hct : ts.length ≤ ct)
    (k : Nat) (s s' : List (List (List Int))) (p : List Int) (A : Option Addr) (c : Nat) (w : World) (ok : Nat → Prop) (hI : fac1I w0 At ct ts g1 g2 v s w ok) (hp : ∀ W', Kept w W' ok → Kd.C (Kd.int .i64) W' A p.length p) (hc : p.length ≤ c) (h : fac1L k ts p s 0 = some s') :
    Calls Try.prog 139 #[.slice A p.length c, .pointer (some ⟨g1, 0, none⟩), .pointer (some ⟨g2, 0, none⟩)] w fun e w' => e = .returned (.tuple #[]) ∧ ∃ ok', fac1I w0 At ct ts g1 g2 v s' w' ok' ∧ (∀ q, ok' q → ok q ∨ w.heap.size ≤ q) ∧ Kept w w' ok := by
  have HTS := Az hts; have HCT := Az hct; have HIV := Az hI; have HP := Az hp; have HC0 := Az hc; have H' := Az h; have hcz0 : w.cell? ⟨g1, 0, none⟩ = some (.slice At ts.length ct) := (blk_cell hI.2.1 0).trans rfl; clear hts hct hI hp hc h
  go_enter Try.func139, Try.ntmps139
  go_wp2
  clear hcz0
  go_loopg [8] k (fun kq v8 w' => ∃ (i : Int) (cs : List (List (List Int))) (ok1 : Nat → Prop), v8 = .int .i64 i ∧ Aside0 (fac1L kq ts p cs i = some s') ∧ Aside0 (kq ≤ k) ∧ Aside0 (fac1I w0 At ct ts g1 g2 v cs w' ok1) ∧ Aside0 (∀ q, ok1 q → ok q ∨ w.heap.size ≤ q) ∧ Aside0 (Kept w w' ok))
  case atStart => exact ⟨(0), s, ok, rfl, H', ⟨Nat.le_refl _⟩, HIV, ⟨fun q h => Or.inl h⟩, ⟨Kept.refl w ok⟩⟩
  case round =>
    clear H' HIV; obtain ⟨i, cs, ok1, rfl, HA, HK1, HIV, HOK, HKP⟩ := hrel
    cases gk with
    | zero => exact absurd HA.out (by simp [fac1L])
    | succ k1 =>
      have H := HA.out; clear HA; simp only [fac1L] at H; obtain ⟨wB, hwB⟩ : ∃ W_ : World, W_ = wr := ⟨wr, rfl⟩; have HB : Aside0 (Below wB.heap.size wB wr) := ⟨by rw [hwB]; exact Below.refl _ _⟩; have HR0 : Aside0 (Kd.C (Kd.int .i64) wB A p.length p) := ⟨by rw [hwB]; exact HP.out wr HKP.out⟩; replace HIV : Aside0 (fac1I w0 At ct ts g1 g2 v cs wB ok1) := ⟨by rw [hwB]; exact HIV.out⟩; replace HKP : Aside0 (Kept w wB ok) := ⟨by rw [hwB]; exact HKP.out⟩
      by_cases c1 : i < (ts.length : Int)
      ·
        rw [if_pos c1] at H; have c1b0 := decide_eq_true c1
        by_cases c2 : 0 ≤ i
        ·
          rw [if_pos c2] at H; obtain ⟨t, A30, H⟩ := Option.bind_eq_some_iff.mp H; have A3 := Az A30; clear A30; obtain ⟨b, A40, H⟩ := Option.bind_eq_some_iff.mp H; have A4 := Az A40; clear A40; obtain ⟨ad, A5, c5, e5, hx5, hl5, hi5⟩ := at_S (Kd.C_below HTS.out HIV.out.1) i c2 c1
          cases e5
          have HR5 := Az hi5; have HC5 := Az hl5; clear hi5 hl5
          have hx5' : wr.cell? (ad.add i.toNat) = some (.slice A5 (rdS ts i).length c5) := by rw [← hwB]; exact hx5
          clear hx5 hwB; have p5 := eq_true c2; have q5 := eq_true c1
          cases b with
          | false =>
            rw [if_neg (by decide)] at H; have H' := Az H; clear H c1 c2
            go_wp2_with (first | (go_at_call 86; (with_reducible refine (impl_typeOf.calls k1 _ _ p t _ ?side1 ?side2 A3.out).mono ?_); (case side1 => exact Kd.C_below HR0.out (bU0 HB.out)); (case side2 => exact HC0.out); rintro e w1 ⟨v1, rfl, ho, hb⟩; obtain ⟨A1, d1, ev1⟩ := Kd.R_slice ho; subst ev1; have HO1 := Az ho; have n0_ := Az (below_step (bU0 HB.out) hb); clear HB; have HB := n0_; clear n0_ ho hb) | (go_at_call 105; (with_reducible refine (slices_Equal_int_int.calls k1 _ _ t _ _ (rdS ts i) false _ ?side1 ?side2 ?side3 ?side4 A4.out).mono ?_); (case side1 => exact (Kd.R_reads' HO1.out).2.2); (case side2 => exact (Kd.R_reads' HO1.out).2.1); (case side3 => exact Kd.C_below HR5.out (bU0 HB.out)); (case side4 => exact HC5.out); rintro e w' ⟨rfl, ⟨nd, rfl⟩⟩))
            (first | go_roundg k1 | (refine Handed.intro k1 ?measure ?_; rotate_left; go_step; (try simp only [add_plain]); (repeat apply Exists.intro); refine ⟨?rel, rfl⟩))
            case measure => have := HK1.out; omega
            case rel => exact ⟨(wrap64 (i + 1)), cs, ok1, rfl, H', ⟨by have := HK1.out; omega⟩, ⟨fac1I.below HIV.out (bU0 HB.out)⟩, HOK, ⟨Kept.below HKP.out (bU0 HB.out)⟩⟩
          | true =>
            rw [if_pos rfl] at H; obtain ⟨c6, A60, H⟩ := Option.bind_eq_some_iff.mp H; have A6 := Az A60; clear A60
            by_cases c7 : (cs.getD i.toNat []).length < 5864062014805
            ·
              rw [if_pos c7] at H; obtain ⟨hB1, hb1, hb2, hS1, hok1, hl1⟩ := HIV.out; obtain ⟨go, cap, ev, gb, glt, cells, hcells⟩ := Kd.S_form hS1 (by omega); subst ev; obtain ⟨oki, ce, hcl, hM, hcc, hoki, hH⟩ := Kd.S_lend (Kd.S_mono (ok' := fun q => ok1 q ∨ wB.heap.size ≤ q) hS1 (fun q hq => Or.inl hq)) ([] : List (List Int)) i c2 (by omega); obtain ⟨row, hrow⟩ : ∃ r_ : List (List Int), r_ = cs.getD i.toNat [] := ⟨_, rfl⟩; rw [← hrow] at hM c7 H; obtain ⟨vr, rfl, hR⟩ := hM; obtain ⟨Ar, cr, er⟩ := Kd.R_slice hR; subst er; have HCE : Aside0 (wB.cell? ⟨go, i.toNat, none⟩ = some (.slice Ar row.length cr)) := ⟨by have h_ := hcc 0 _ rfl; simpa [Kd.slice] using h_⟩; have HG2 : Aside0 (wB.cell? ⟨g2, 0, none⟩ = some (.slice (some ⟨go, 0, none⟩) cs.length cap)) := ⟨(blk_cell hb2 0).trans rfl⟩; have LG2 : Aside0 (g2 < wB.heap.size) := ⟨blk_lt hb2⟩; have LG1 : Aside0 (g1 < wB.heap.size) := ⟨blk_lt hb1⟩; have GB := Az gb; have GO1 : Aside0 (ok1 go) := ⟨(Kd.S_R hS1).1 go (by simp [Value.ownBlock])⟩; have HG1 := Az hb1; have HGB2 := Az hb2; have HOKI := Az hoki; have UU := Az hR; have HH := Az (Kd.H_widen hH); have HL1 := Az hl1; have OK1 := Az hok1; have HB0 := Az hB1
              have hq5 : i < (cs.length : Int) := by omega
              have q6 := eq_true hq5; clear hrow hcl hcc hH hR hoki hcells gb glt hS1 hok1 hl1 hb1 hb2 hB1; have H' := Az H; have LM7 := Az c7; clear H c1 c2 c7
              go_wp2_with (first | (go_at_call 86; (with_reducible refine (impl_typeOf.calls k1 _ _ p t _ ?side1 ?side2 A3.out).mono ?_); (case side1 => exact Kd.C_below HR0.out (bU0 HB.out)); (case side2 => exact HC0.out); rintro e w1 ⟨v1, rfl, ho, hb⟩; obtain ⟨A1, d1, ev1⟩ := Kd.R_slice ho; subst ev1; have HO1 := Az ho; have n0_ := Az (below_step (bU0 HB.out) hb); clear HB; have HB := n0_; clear n0_ ho hb) | (go_at_call 105; (with_reducible refine (slices_Equal_int_int.calls k1 _ _ t _ _ (rdS ts i) true _ ?side1 ?side2 ?side3 ?side4 A4.out).mono ?_); (case side1 => exact (Kd.R_reads' HO1.out).2.2); (case side2 => exact (Kd.R_reads' HO1.out).2.1); (case side3 => exact Kd.C_below HR5.out (bU0 HB.out)); (case side4 => exact HC5.out); rintro e w' ⟨rfl, ⟨nd, rfl⟩⟩))
              refine start_ (n := 12) (S := fun w' => w'.cell? ⟨g2, 0, none⟩ = some (.slice (some ⟨go, 0, none⟩) cs.length cap) ∧ w'.cell? ⟨go, i.toNat, none⟩ = some (.slice Ar row.length cr)) (ds := [11]) #[false, false, false, false, false, false, false, false, false, false, false, false] (by kernel_rfl) rfl rfl ⟨pw_cell_below (bU0 HB.out) HG2.out, pw_cell_below (bU0 HB.out) HCE.out⟩ (fun hHeld => ?_)
              refine pure_ (i := 1) (N := some 18) (v := ?_) (a' := ?_) #[false, true, false, false, false, false, false, false, false, false, false, false] rfl rfl (by kernel_rfl) (fun _ _ _ h => h) (Or.inl ⟨by rfl, ?_⟩) ?_ ?_
              rotate_left
              ·
               intro w'
               go_simp
               with_reducible rfl
              rotate_left
              ·
               simp only [Act.put, List.setIfInBounds_toArray, List.set_cons_zero, List.set_cons_succ, i64_w, i32_w]
               rfl
              refine pure_ (i := 3) (N := some 20) (v := ?_) (a' := ?_) #[false, true, false, true, false, false, false, false, false, false, false, false] rfl rfl (by kernel_rfl) (fun _ _ _ h => h) (Or.inl ⟨by rfl, ?_⟩) ?_ ?_
              rotate_left
              ·
               intro w'
               go_simp
               with_reducible rfl
              rotate_left
              ·
               simp only [Act.put, List.setIfInBounds_toArray, List.set_cons_zero, List.set_cons_succ, i64_w, i32_w]
               rfl
              refine pure_ (i := 6) (N := some 23) (v := ?_) (a' := ?_) #[false, true, false, true, false, false, true, false, false, false, false, false] rfl rfl (by kernel_rfl) (fun _ _ _ h => h) (Or.inl ⟨by rfl, ?_⟩) ?_ ?_
              rotate_left
              ·
               intro w'
               go_simp
               with_reducible rfl
              rotate_left
              ·
               simp only [Act.put, List.setIfInBounds_toArray, List.set_cons_zero, List.set_cons_succ, i64_w, i32_w]
               rfl
              refine take_ (i := 0) (N := some 17) (v := ?_) (a' := ?_) #[true, true, false, true, false, false, true, false, false, false, false, false] rfl rfl (by kernel_rfl) (fun _ _ _ h => h) (Or.inl ⟨by rfl, ?_⟩) hHeld ?_ ?_
              rotate_left
              ·
               intro w' s0
               obtain ⟨s0, s1⟩ := s0
               go_simp
               with_reducible rfl
              rotate_left
              ·
               simp only [Act.put, List.setIfInBounds_toArray, List.set_cons_zero, List.set_cons_succ, i64_w, i32_w]
               rfl
              refine take_ (i := 2) (N := some 19) (v := ?_) (a' := ?_) #[true, true, true, true, false, false, true, false, false, false, false, false] rfl rfl (by kernel_rfl) (fun _ _ _ h => h) (Or.inl ⟨by rfl, ?_⟩) hHeld ?_ ?_
              rotate_left
              ·
               intro w' s0
               obtain ⟨s0, s1⟩ := s0
               go_simp
               with_reducible rfl
              rotate_left
              ·
               simp only [Act.put, List.setIfInBounds_toArray, List.set_cons_zero, List.set_cons_succ, i64_w, i32_w]
               rfl
              refine pure_ (i := 4) (N := some 21) (v := ?_) (a' := ?_) #[true, true, true, true, true, false, true, false, false, false, false, false] rfl rfl (by kernel_rfl) (fun _ _ _ h => h) (Or.inl ⟨by rfl, ?_⟩) ?_ ?_
              rotate_left
              ·
               intro w'
               go_simp
               with_reducible rfl
              rotate_left
              ·
               simp only [Act.put, List.setIfInBounds_toArray, List.set_cons_zero, List.set_cons_succ, i64_w, i32_w]
               rfl
              refine take_ (i := 5) (N := some 22) (v := ?_) (a' := ?_) #[true, true, true, true, true, true, true, false, false, false, false, false] rfl rfl (by kernel_rfl) (fun _ _ _ h => h) (Or.inl ⟨by rfl, ?_⟩) hHeld ?_ ?_
              rotate_left
              ·
               intro w' s0
               obtain ⟨s0, s1⟩ := s0
               go_simp
               with_reducible rfl
              rotate_left
              ·
               simp only [Act.put, List.setIfInBounds_toArray, List.set_cons_zero, List.set_cons_succ, i64_w, i32_w]
               rfl
              refine one_ (i := 7) (N := some 24) #[true, true, true, true, true, true, true, true, false, false, false, false] rfl rfl (by kernel_rfl) (by decide) (fun K hK => ?_)
              refine goes_ Try.func68 (by kernel_rfl) rfl #[.slice A p.length c] (by rfl) rfl rfl (by (try simp only [List.map_toArray, List.map_cons, List.map_nil]); first | done | rfl | (simp only [List.length_drop, List.length_take]; rfl)) ?_
              with_reducible refine (slices_Clone_int_int.calls _ _ p c6 _ ?side1 ?side2 A6.out).mono ?_
              (case side1 => exact Kd.C_below HR0.out (bU0 HB.out))
              (case side2 => exact HC0.out)
              rintro e w3 ⟨v3, rfl, ho, hb⟩
              refine ⟨_, rfl, ?_⟩
              obtain ⟨A8, c8, ev3⟩ := Kd.R_slice ho; subst ev3; have HO3 := Az (Kd.R_lower ho (below_size (bU0 HB.out))); have n0_ := Az (below_step (bU0 HB.out) hb); clear HB; have HB := n0_; clear n0_ ho hb
              refine hK.out _ _ ⟨pw_cell_below (bU0 HB.out) HG2.out, pw_cell_below (bU0 HB.out) HCE.out⟩ (fun hHeld => ?_)
              clear hK K
              refine norm_ (a' := ?_) ?_ ?_
              rotate_left
              ·
               show Act.put _ (some 24) _ = _
               simp only [Act.put, List.setIfInBounds_toArray, List.set_cons_zero, List.set_cons_succ, i64_w, i32_w]
               rfl
              refine one_ (i := 8) (N := some 25) #[true, true, true, true, true, true, true, true, true, false, false, false] rfl rfl (by kernel_rfl) (by decide) (fun K hK => ?_)
              refine value_ (v := .slice (some ⟨w3.heap.size, 0, none⟩) 1 1) (w1 := w3.alloc (.cells #[.slice A8 c6.length c8] 23 (0, 0))) (by rfl) rfl (by first | (go_simp; done) | (go_simp; rfl)) ?_
              refine hK.out _ _ ⟨pw_cell_below (bU0 HB.out) HG2.out, pw_cell_below (bU0 HB.out) HCE.out⟩ (fun hHeld => ?_)
              clear hK K
              refine norm_ (a' := ?_) ?_ ?_
              rotate_left
              ·
               show Act.put _ (some 25) _ = _
               simp only [Act.put, List.setIfInBounds_toArray, List.set_cons_zero, List.set_cons_succ, i64_w, i32_w]
               rfl
              obtain ⟨y9, hy9⟩ : ∃ y_ : List (List Int), y_ = row ++ [c6] := ⟨_, rfl⟩; rw [← hy9] at H'; have Ny9 := Az hy9; clear hy9
              refine one_ (i := 9) (N := some 26) #[true, true, true, true, true, true, true, true, true, true, false, false] rfl rfl (by kernel_rfl) (by decide) (fun K hK => ?_)
              refine Kd.R_append_step (Kd.slice 3 (Kd.int .i64)) (w0 := w0) w0.heap.size (by rfl) (.tmp 22) (.tmp 25) 45 23 (.slice none 0 0) 24 rfl Try.underlying45 infoF23 rfl (by decide) (by omega) (.slice Ar row.length cr) row c6 [.slice A8 c6.length c8] (fun q => oki q ∨ (ok1 q ∨ wB.heap.size ≤ q) ∧ wB.heap.size ≤ q) (fun q => wB.heap.size ≤ q ∧ some q ≠ (.slice Ar row.length cr : Value).ownBlock) rfl rfl ?aP ?aQ ?aF ?aO ?aB ?aS ?aL ?_
              (case aP => exact Kd.M_row (Kd.R_lower (Kd.R_mono (Kd.R_bound HO3.out) (fun q hq => ⟨hq.2.1, fun e_ => by have := Kd.R_lt UU.out q e_.symm; have := hq.2.1; omega⟩)) HB0.out.size))
              (case aQ => exact fun q hq => ⟨Or.inr ⟨Or.inr hq.1, hq.1⟩, hq.2⟩)
              (case aF => exact fun q hq => Or.inr ⟨Or.inr (Nat.le_trans HB.out.size hq), Nat.le_trans HB.out.size hq⟩)
              (case aO => exact Kd.R_mono (Kd.R_below UU.out HB.out) (fun _ h_ => Or.inl h_))
              (case aB => exact below_step HB0.out HB.out)
              (case aS => exact (below_step HB0.out HB.out).size)
              (case aL => have := LM7.out; omega)
              intro v4 w4 ho hb hg hat
              rw [← Ny9.out] at ho; obtain ⟨A9, c9, ev4⟩ := Kd.R_slice ho; subst ev4; have HH4 := Az (Kd.H_grown (Kd.H_below HH.out HB.out) hg (fun q e_ => Or.inl (UU.out.1 q e_))); have HK4 : Aside0 (Kept wB w4 oki) := ⟨Kept.of_grown hg (Kept.of_below HB.out _) (fun q e_ => Or.inl (UU.out.1 q e_))⟩; have HO4 := Az ho; have HB4 := Az hb; clear ho hb hg hat HB HH HO1 HO3; have NG2 : Aside0 (¬ oki g2) := ⟨fun h_ => ((HOKI.out _ h_).1).elim (fun h2 => (OK1.out _ h2).2.1 rfl) (fun h2 => by have := LG2.out; omega)⟩; have NG1 : Aside0 (¬ oki g1) := ⟨fun h_ => ((HOKI.out _ h_).1).elim (fun h2 => (OK1.out _ h2).1 rfl) (fun h2 => by have := LG1.out; omega)⟩; have NGO : Aside0 (¬ oki go) := ⟨fun h_ => (HOKI.out _ h_).2 rfl⟩
              refine hK.out _ _ ⟨cell_kept HG2.out HK4.out NG2.out, cell_kept HCE.out HK4.out NGO.out⟩ (fun hHeld => ?_)
              clear hK K
              refine norm_ (a' := ?_) ?_ ?_
              rotate_left
              ·
               show Act.put _ (some 26) _ = _
               simp only [Act.put, List.setIfInBounds_toArray, List.set_cons_zero, List.set_cons_succ, i64_w, i32_w]
               rfl
              refine pure_ (i := 10) (N := some 27) (v := ?_) (a' := ?_) #[true, true, true, true, true, true, true, true, true, true, true, false] rfl rfl (by kernel_rfl) (fun _ _ _ h => h) (Or.inl ⟨by rfl, ?_⟩) ?_ ?_
              rotate_left
              ·
               intro w'
               go_simp
               with_reducible rfl
              rotate_left
              ·
               simp only [Act.put, List.setIfInBounds_toArray, List.set_cons_zero, List.set_cons_succ, i64_w, i32_w]
               rfl
              obtain ⟨hx5, hf5⟩ := Kd.H_at HH4.out (of_eq_true p5) (of_eq_true q6); have hx6 := hx5 0 _ rfl; have hf6 := hf5 0; rw [show (Kd.slice 23 (Kd.slice 3 (Kd.int .i64))).sz = 1 from rfl, Nat.mul_one, Nat.add_zero] at hx6 hf6; clear hx5 hf5; have HP5 := Az (Kd.S_seg0 HH4.out (of_eq_true p5) (of_eq_true q6) (seg := [.slice A9 y9.length c9]) (j := 0) (show 1 ≤ 1 from by decide) (x' := y9) (Kd.M_row HO4.out) (fun _ hk => hk))
              refine last_ (i := 11) (N := none) #[true, true, true, true, true, true, true, true, true, true, true, true] rfl rfl (by kernel_rfl) (by decide) (fun K hK => ?_)
              refine skip_ (w1 := w4.setCell ⟨go, i.toNat, none⟩ (.slice A9 y9.length c9)) (by rfl) rfl ?_ ?_
              ·
               first | (go_simp; done) | (go_simp; rfl)
              refine hK.out _ _ ?_
              clear hK K
              refine done_ (by kernel_rfl) ?_
              have HS5 : Aside0 (Kd.S (Kd.slice 23 (Kd.slice 3 (Kd.int .i64))) 45 (w4.setCell ⟨go, i.toNat, none⟩ (.slice A9 y9.length c9)) w0.heap.size (fun q => ok1 q ∨ wB.heap.size ≤ q) (.slice (some ⟨go, 0, none⟩) cs.length cap) (cs.set i.toNat y9)) := ⟨by have h_ := HP5.out.1; rw [show (Kd.slice 23 (Kd.slice 3 (Kd.int .i64))).sz = 1 from rfl, Nat.mul_one, Nat.add_zero] at h_; exact h_⟩; have HK5 : Aside0 (Kept wB (w4.setCell ⟨go, i.toNat, none⟩ (.slice A9 y9.length c9)) (fun q => oki q ∨ q = go)) := ⟨Kept.setCell (S := fun q => oki q ∨ q = go) (p := ⟨go, i.toNat, none⟩) (Kept.mono HK4.out (fun q hq => Or.inl hq)) (Or.inl (Or.inr rfl)) _⟩; have HB5 : Aside0 (Below w0.heap.size w0 (w4.setCell ⟨go, i.toNat, none⟩ (.slice A9 y9.length c9))) := ⟨below_set HB4.out GB.out⟩; clear HP5 HH4 HO4 hx6 hf6 hHeld
              generalize w4.setCell ⟨go, i.toNat, none⟩ (.slice A9 y9.length c9) = w5 at HS5 HK5 HB5 ⊢
              try go_wp2
              (first | go_roundg k1 | (refine Handed.intro k1 ?measure ?_; rotate_left; go_step; (try simp only [add_plain]); (repeat apply Exists.intro); refine ⟨?rel, rfl⟩))
              case measure => have := HK1.out; omega
              case rel =>
               refine ⟨(wrap64 (i + 1)), cs.set i.toNat y9, (fun q => (ok1 q ∨ wB.heap.size ≤ q) ∧ q < w5.heap.size), rfl, H', ⟨by have := HK1.out; omega⟩, ⟨HB5.out, blk_kept HG1.out HK5.out ?_, blk_kept HGB2.out HK5.out ?_, Kd.S_mono (Kd.S_bound HS5.out) (fun q hq => ⟨hq.1, hq.2.2.1⟩), fun q hq => ⟨?_, ?_, hq.2⟩, by rw [List.length_set]; exact HL1.out⟩, ⟨fun q hq => hq.1.elim (HOK.out q) (fun h2 => Or.inr (Nat.le_trans HKP.out.1 h2))⟩, ⟨Kept.then_ HKP.out HK5.out (fun q hq => hq.elim (fun h2 => (HOKI.out q h2).1.elim (HOK.out q) (fun h3 => Or.inr (Nat.le_trans HKP.out.1 h3))) (fun h2 => by rw [h2]; exact HOK.out _ GO1.out))⟩⟩
               ·
                 exact fun h2 => h2.elim NG1.out (fun h3 => (OK1.out _ GO1.out).1 h3.symm)
               ·
                 exact fun h2 => h2.elim NG2.out (fun h3 => (OK1.out _ GO1.out).2.1 h3.symm)
               ·
                 exact hq.1.elim (fun h2 => (OK1.out _ h2).1) (fun h2 h3 => by have := LG1.out; omega)
               ·
                 exact hq.1.elim (fun h2 => (OK1.out _ h2).2.1) (fun h2 h3 => by have := LG2.out; omega)
            ·
              rw [if_neg c7] at H
              exact absurd H (by simp)
        ·
          rw [if_neg c2] at H
          exact absurd H (by simp)
      ·
        rw [if_neg c1] at H; have c1b0 := decide_eq_false c1; clear c1; obtain rfl := Option.some.inj H
        go_wp2
        first | go_end0 | ((try simp only [Exit.inBlock, Exit.then]); refine bodyPost_ret (results_none rfl _ _ _) rfl ?_)
        exact ⟨rfl, ok1, fac1I.below HIV.out (bU0 HB.out), HOK.out, Kept.below HKP.out (bU0 HB.out)⟩
set_option maxHeartbeats 8000000 in
set_option maxRecDepth 100000 in
theorem clone2.calls (A0 : Option Addr) (c0 : Nat) (l0 : List (List Int)) (w : World) (foot : Nat → Prop) (hr0 : Kd.F (Kd.slice 3 (Kd.int .i64)) w foot A0 l0.length l0) (hc0 : l0.length ≤ c0) (h : l0.length < 5864062014805) :
    Calls Try.prog 141 #[.slice A0 l0.length c0] w fun e w' => ∃ v0_ : Value, e = .returned (v0_) ∧ Kd.N (Kd.slice 3 (Kd.int .i64)) 23 w' w.heap.size (fun q => (foot q ∧ q < w.heap.size) ∨ w.heap.size ≤ q) v0_ l0 ∧ Below w.heap.size w w' := by
  have HR0 := Az (Kd.F_bound hr0); have HC0 := Az hc0; have LM0 := Az h
  have hnil : A0 = none → l0 = [] := by
    intro e
    have h' := (Kd.F_now hr0).2.2
    by_cases hn : 0 < l0.length
    ·
      obtain ⟨ad, e2, _⟩ := h' hn; rw [e] at e2
      cases e2
    ·
      exact List.eq_nil_of_length_eq_zero (by omega)
  clear hr0 hc0 h; have HB := Az (Below.refl w.heap.size w)
  cases A0 with
  | none =>
    obtain rfl := hnil rfl
    have he : ∀ w : World, (binOp .eql 45 (.slice none 0 c0) (.slice none 0 0)).run Try.prog w = .ok (.bool true) w := fun _ => rfl
    go_enter Try.func141, Try.ntmps141
    go_wp2
    go_ret
    exact ⟨_, rfl, Kd.N_nil _ _ _ _ _, HB.out⟩
  | some ad =>
    clear hnil
    have he : ∀ w : World, (binOp .eql 45 (.slice (some ad) l0.length c0) (.slice none 0 0)).run Try.prog w = .ok (.bool false) w := fun _ => rfl
    go_enter Try.func141, Try.ntmps141
    go_wp2_with (first | ((with_reducible refine gate_dst (N := 5) rfl ?_); refine Kd.N_lit (Kd.slice 3 (Kd.int .i64)) (w0 := w) w.heap.size 23 ?hg (N' := 5) ?hd (xs := ([] : List (List Int))) (inner := []) (ok := fun q => (foot q ∧ q < w.heap.size) ∨ w.heap.size ≤ q) (okp := fun _ => False) ?hr ?hp (fun _ hk => hk.elim) (Or.inr (below_size (bU0 HB.out))) (bU0 HB.out) (below_size (bU0 HB.out)) (by simp) ?_; (case hd => rfl); (case hg => rfl); (case hr => first | (go_simp; done) | (go_simp; rfl)); (case hp => exact (Reps.none _ _)); intro v189 w3 ho hb hg_ hnew_; have n0_ := Az hb; have n1_ := Az ho; have n2_ := Az (Kd.N_base ho); clear HB hg_ hnew_ ho hb; have HB := n0_; have HO := n1_; have HN := n2_; clear n0_ n1_ n2_) | ((with_reducible refine gate_builtin (b := .append) (xs := #[.tmp 5, .tmp 6]) rfl ?_); at_builtin; refine Kd.N_append_rows (Kd.slice 3 (Kd.int .i64)) (w0 := w) w.heap.size rfl (.tmp 5) (.tmp 6) 45 23 (.slice none 0 0) 24 rfl Try.underlying45 infoF23 rfl (by decide) (by omega) v189 [] l0 _ _ _ (fun q => (foot q ∧ q < w.heap.size) ∨ w.heap.size ≤ q) (fun q => foot q ∧ q < w.heap.size) rfl rfl ?aO ?aR ?aP ?aF ?aB ?aS ?aL ?_; (case aR => exact Kd.F_below HR0.out (bU0 HB.out)); (case aO => exact HO.out); (case aP => exact fun q hq => ⟨Or.inl hq, fun e_ => by have := HN.out q e_.symm; have := hq.2; omega⟩); (case aF => exact fun q hq => Or.inr (Nat.le_trans (below_size (bU0 HB.out)) hq)); (case aB => exact (bU0 HB.out)); (case aS => exact below_size (bU0 HB.out)); (case aL => have := LM0.out; simp only [List.length_nil]; omega); intro v192 w5 ho hb hg hat; have n0_ := Az (hb); have n1_ := Az (ho); clear HB HO ho hb hg hat; have HB := n0_; have HO := n1_; clear n0_ n1_))
    go_ret
    exact ⟨_, rfl, by simpa using HO.out, HB.out⟩
theorem F_at1 {α : Type} {d : Kd α} {e : Nat} {W : World} {ok : Nat → Prop} {A : Option Addr} {n : Nat} {xs : List (List α)} (h : Kd.F (Kd.slice e d) W ok A n xs) (i : Int) (h0 : 0 ≤ i) (h1 : i < n) : ∃ ad A1 c1, A = some ad ∧ W.cell? (ad.add i.toNat) = some (.slice A1 (xs.getD i.toNat []).length c1) ∧ (xs.getD i.toNat []).length ≤ c1 ∧ Kd.F d W ok A1 (xs.getD i.toNat []).length (xs.getD i.toNat []) := by
  obtain ⟨ad, c, e, hcl, hK, hc, _⟩ := Kd.F_get h ([] : List α) i h0 h1; obtain ⟨A1, c1, rfl, hl, hF⟩ := Kd.FK_slice_open hK
  exact ⟨ad, A1, c1, e, by have hq := hc 0 _ rfl; simpa [Kd.slice] using hq, hl, hF⟩
theorem F_keep1 {α : Type} {d : Kd α} {W W1 : World} {ok ok1 : Nat → Prop} {A : Option Addr} {n : Nat} {xs : List α} (h : Kd.F d W (fun q => ¬ ok q) A n xs) (hk : Kept W W1 ok) (hn : ∀ q, ok1 q → ok q ∨ W.heap.size ≤ q) : Kd.F d W1 (fun q => ¬ ok1 q) A n xs :=
  Kd.F_mono (Kd.F_kept (Kd.F_bound h) hk (fun q hq => hq.1)) (fun q hq h1 => (hn q h1).elim hq.1 (fun h2 => by have := hq.2; omega))
theorem goesVL_ {P : Program} {ops : Array Oper} {Q : Exit → Act → World → Prop} {rest : List Oper} {oi : Oper} {a : Act} {w : World} (N : Option Tmp) (hd : oi.dst = N) (hg : oi.guard = none) {f : FuncId} {fn : Func} {xs : Array Operand} {ts : Array TypeId} {cp : Array Value} {op : Operand} (hf : P.funcs[f]? = some fn) (hname : (fn.name == "runtime.NumGoroutine") = false) (hb : fn.body.isSome = true) (args : Array Value)
    (hop : oi.op = .call { callee := .value op, args := xs, argTypes := ts }) (hv : a.eval op = .func (.func f) #[] cp) (hargs : xs.map a.eval ++ cp = args)
    (h : Calls P f args w fun e w' => ∃ v, e = .returned v ∧ wpList P ops Q rest (a.put N v) w') : wpList P ops Q (oi :: rest) a w := by
  refine wpList_plain hg fun K hK => ?_
  have he := enters_ hf hname hb args w
  have hrun : (execOp a.eval oi).run P w = .ok (.enter f args) w := by
    unfold execOp
    simp [hop, resolve, Deferred.ofValue, invoke, hv, hargs, he]
  unfold Oper.wp
  rw [hrun, Oper.upon_enter]
  refine h.mono fun e w'' hh => ?_
  obtain ⟨v, rfl, hk⟩ := hh; subst hd
  exact hK _ _ hk
mutual
def facG {σ : Type} (step : Nat → σ → List (List Int) → Option σ) (ts : List (List Int)) (n : Int) (cs : List (List (List Int))) : Nat → σ → List (List Int) → List Int → Option σ
  | 0, _, _, _ => none
  | k + 1, s, l, p => if (l.length : Int) = (ts.length : Int) then ((impl_still.f k n).bind fun t => ((slices_Equal_int_int.f k p t).bind fun b => (if b = true then step k s l else some s))) else (if (l.length : Int) < (cs.length : Int) then facL step ts n cs k s l p (cs.getD l.length []) 0 else none)
def facL {σ : Type} (step : Nat → σ → List (List Int) → Option σ) (ts : List (List Int)) (n : Int) (cs : List (List (List Int))) : Nat → σ → List (List Int) → List Int → List (List Int) → Int → Option σ
  | 0, _, _, _, _, _ => none
  | k + 1, s, l, p, row, i => if i < (row.length : Int) then (if 0 ≤ i then (if l.length < 5864062014805 then ((impl_mul.f k p (rdS row i)).bind fun q => ((facG step ts n cs k s (l ++ [rdS row i]) q).bind fun s' => facL step ts n cs k s' l p row (wrap64 (i + 1)))) else none) else none) else some s
end
set_option maxHeartbeats 8000000 in
set_option maxRecDepth 100000 in
theorem fac2.calls {σ : Type} (step : Nat → σ → List (List Int) → Option σ) (Inv : σ → World → (Nat → Prop) → Prop) (TF : Nat) (fnT : Func) (hfT : Try.prog.funcs[TF]? = some fnT) (hnT : (fnT.name == "runtime.NumGoroutine") = false) (hbT : fnT.body.isSome = true) (gm : Nat)
  (hI : ∀ s W W' ok, Inv s W ok → Below W.heap.size W W' → Inv s W' ok) (hL : ∀ s W ok q, Inv s W ok → ok q → q < W.heap.size)
  (hT : ∀ (k : Nat) (s s' : σ) (l : List (List Int)) (A : Option Addr) (c : Nat) (W : World) (ok : Nat → Prop), Inv s W ok → Kd.F (Kd.slice 3 (Kd.int .i64)) W (fun q => ¬ ok q) A l.length l → l.length ≤ c → step k s l = some s' → Calls Try.prog TF #[.slice A l.length c, .pointer (some ⟨gm, 0, none⟩)] W fun e w' => e = .returned (.tuple #[]) ∧ ∃ ok', Inv s' w' ok' ∧ (∀ q, ok' q → ok q ∨ W.heap.size ≤ q) ∧ Kept W w' ok)
  (gt gn gl gc gy : Nat) (At : Option Addr) (ct : Nat) (ts : List (List Int)) (n : Int) (Ac : Option Addr) (cc : Nat) (cs : List (List (List Int))) :
  ∀ (k : Nat) (s s' : σ) (A0 : Option Addr) (c0 : Nat) (l : List (List Int)) (A1 : Option Addr) (c1 : Nat) (p : List Int) (w : World) (ok : Nat → Prop), Inv s w ok → ¬ ok gt → ¬ ok gn → ¬ ok gl → ¬ ok gc → ¬ ok gy → w.heap[gt]? = some (.cells #[.slice At ts.length ct] 45 (0, 0)) → w.heap[gn]? = some (.cells #[.int .i64 n] 3 (0, 0)) → w.heap[gl]? = some (.cells #[.func (.func TF) #[] #[.pointer (some ⟨gm, 0, none⟩)]] 76 (0, 0)) → w.heap[gc]? = some (.cells #[.slice Ac cs.length cc] 98 (0, 0)) → w.heap[gy]? = some (.cells #[.func (.func 140) #[] #[.pointer (some ⟨gt, 0, none⟩), .pointer (some ⟨gn, 0, none⟩), .pointer (some ⟨gl, 0, none⟩), .pointer (some ⟨gc, 0, none⟩), .pointer (some ⟨gy, 0, none⟩)]] 100 (0, 0)) → Kd.F (Kd.slice 3 (Kd.int .i64)) w (fun q => ¬ ok q) A0 l.length l → l.length ≤ c0 → Kd.F (Kd.int .i64) w (fun q => ¬ ok q) A1 p.length p → p.length ≤ c1 → Kd.F (Kd.slice 23 (Kd.slice 3 (Kd.int .i64))) w (fun q => ¬ ok q) Ac cs.length cs → facG step ts n cs k s l p = some s' →
  Calls Try.prog 140 #[.slice A0 l.length c0, .slice A1 p.length c1, .pointer (some ⟨gt, 0, none⟩), .pointer (some ⟨gn, 0, none⟩), .pointer (some ⟨gl, 0, none⟩), .pointer (some ⟨gc, 0, none⟩), .pointer (some ⟨gy, 0, none⟩)] w fun e w' => e = .returned (.tuple #[]) ∧ ∃ ok', Inv s' w' ok' ∧ (∀ q, ok' q → ok q ∨ w.heap.size ≤ q) ∧ Kept w w' ok := by
  intro k
  induction k using Nat.strongRecOn with
  | ind k ih =>
  intro s s' A0 c0 l A1 c1 p w ok hInv ht_ hn_ hl_ hc_ hy_ bt_ bn_ bl_ bc_ by_ hF0 hc0 hF1 hc1 hFC h
  cases k with
  | zero => simp [facG] at h
  | succ k =>
  simp only [facG] at h; have IH := Az ih; have HIV := Az hInv; have NT := Az ht_; have BT0 := Az bt_; have NN := Az hn_; have BN0 := Az bn_; have NL := Az hl_; have BL0 := Az bl_; have NC := Az hc_; have BC0 := Az bc_; have NY := Az hy_; have BY0 := Az by_; have HF0 := Az hF0; have HC0 := Az hc0; have HF1 := Az hF1; have HC1 := Az hc1; have HFC := Az hFC; have HT := Az hT; have HI := Az hI; have HL := Az hL; have FTF := Az hfT; have HB := Az (Below.refl w.heap.size w); clear ih hInv ht_ hn_ hl_ hc_ hy_ bt_ bn_ bl_ bc_ by_ hF0 hc0 hF1 hc1 hFC hT hI hL hfT; have hcz0 : w.cell? ⟨gt, 0, none⟩ = some (.slice At ts.length ct) := (blk_cell BT0.out 0).trans rfl
  by_cases c5 : (l.length : Int) = (ts.length : Int)
  ·
    rw [if_pos c5] at h; have c5b0 := beq_iff_eq.mpr c5; clear c5; obtain ⟨t, A30, h⟩ := Option.bind_eq_some_iff.mp h; have A3 := Az A30; obtain ⟨b, A40, h⟩ := Option.bind_eq_some_iff.mp h; have A4 := Az A40; clear A30 A40; have hcz1 : w.cell? ⟨gn, 0, none⟩ = some (.int .i64 n) := (blk_cell BN0.out 0).trans rfl
    cases b with
    | true =>
      rw [if_pos rfl] at h; have H' := Az h; clear h
      go_enter Try.func140, Try.ntmps140
      go_wp2_with (first | (go_at_call 104; (with_reducible refine (impl_still.calls k _ t _ A3.out).mono ?_); rintro e w1 ⟨v1, rfl, ho, hb⟩; obtain ⟨A3_, d3_, ev1⟩ := Kd.R_slice ho; subst ev1; have HO1 := Az ho; have n0_ := Az (below_step (bU0 HB.out) hb); clear HB; have HB := n0_; clear n0_ ho hb hcz0 hcz1; have hcz2 : w1.cell? ⟨gl, 0, none⟩ = some (.func (.func TF) #[] #[.pointer (some ⟨gm, 0, none⟩)]) := (blk_cell (blk_below BL0.out HB.out) 0).trans rfl) | (go_at_call 105; (with_reducible refine (slices_Equal_int_int.calls k _ _ p _ _ t true _ ?side1 ?side2 ?side3 ?side4 A4.out).mono ?_); (case side1 => exact Kd.C_below (Kd.F_now HF1.out) (bU0 HB.out)); (case side2 => exact HC1.out); (case side3 => exact (Kd.R_reads' HO1.out).2.2); (case side4 => exact (Kd.R_reads' HO1.out).2.1); rintro e w' ⟨rfl, ⟨nd, rfl⟩⟩) | ((with_reducible refine gate_dst (N := 22) rfl ?_); refine goesVL_ (some 22) rfl rfl FTF.out hnT hbT #[.slice A0 l.length c0, .pointer (some ⟨gm, 0, none⟩)] rfl rfl (by first | rfl | (simp; done) | (simp; rfl)) ?_; refine (HT.out k s s' l A0 c0 _ ok (HI.out _ _ _ _ HIV.out (bU0 HB.out)) (Kd.F_below HF0.out (bU0 HB.out)) HC0.out H'.out).mono ?_; rintro e w2 ⟨rfl, ok', i1, i2, i3⟩; refine ⟨_, rfl, ?_⟩; have R1 := Az i1; have R2 := Az i2; have R3 := Az i3; clear i1 i2 i3))
      first | go_end0 | ((try simp only [Exit.inBlock, Exit.then]); refine bodyPost_ret (results_none rfl _ _ _) rfl ?_)
      exact ⟨rfl, ok', R1.out, fun q hq => (R2.out q hq).imp id (fun h2 => Nat.le_trans (below_size (bU0 HB.out)) h2), Kept.then_ (Kept.of_below (bU0 HB.out) ok) R3.out (fun q hq => Or.inl hq)⟩
    | false =>
      rw [if_neg (by decide)] at h; obtain rfl := Option.some.inj h; clear h
      go_enter Try.func140, Try.ntmps140
      go_wp2_with (first | (go_at_call 104; (with_reducible refine (impl_still.calls k _ t _ A3.out).mono ?_); rintro e w1 ⟨v1, rfl, ho, hb⟩; obtain ⟨A3_, d3_, ev1⟩ := Kd.R_slice ho; subst ev1; have HO1 := Az ho; have n0_ := Az (below_step (bU0 HB.out) hb); clear HB; have HB := n0_; clear n0_ ho hb hcz0 hcz1; have hcz2 : w1.cell? ⟨gl, 0, none⟩ = some (.func (.func TF) #[] #[.pointer (some ⟨gm, 0, none⟩)]) := (blk_cell (blk_below BL0.out HB.out) 0).trans rfl) | (go_at_call 105; (with_reducible refine (slices_Equal_int_int.calls k _ _ p _ _ t false _ ?side1 ?side2 ?side3 ?side4 A4.out).mono ?_); (case side1 => exact Kd.C_below (Kd.F_now HF1.out) (bU0 HB.out)); (case side2 => exact HC1.out); (case side3 => exact (Kd.R_reads' HO1.out).2.2); (case side4 => exact (Kd.R_reads' HO1.out).2.1); rintro e w' ⟨rfl, ⟨nd, rfl⟩⟩))
      first | go_end0 | ((try simp only [Exit.inBlock, Exit.then]); refine bodyPost_ret (results_none rfl _ _ _) rfl ?_)
      exact ⟨rfl, ok, HI.out _ _ _ _ HIV.out (bU0 HB.out), fun q hq => Or.inl hq, Kept.of_below (bU0 HB.out) ok⟩
  ·
    rw [if_neg c5] at h; have c5b0 := beq_eq_false_iff_ne.mpr c5; clear c5
    by_cases c6 : (l.length : Int) < (cs.length : Int)
    ·
      rw [if_pos c6] at h; have H' := Az h; clear h; obtain ⟨ad, Ar, cr, eA, hx6, hl6, hF6⟩ := F_at1 HFC.out (l.length : Int) (by omega) c6; subst eA; simp only [Int.toNat_natCast] at hx6 hl6 hF6; obtain ⟨row, hrow⟩ : ∃ r_ : List (List Int), r_ = cs.getD l.length [] := ⟨_, rfl⟩; rw [← hrow] at hx6 hl6 hF6 H'; clear hrow; have HR6 := Az hF6; have HC6 := Az hl6; have hcz3 : w.cell? ⟨gc, 0, none⟩ = some (.slice (some ad) cs.length cc) := (blk_cell BC0.out 0).trans rfl; have q6 := eq_true c6; have q7 : (l.length < cs.length) = True := eq_true (by omega); clear hF6 hl6 c6
      go_enter Try.func140, Try.ntmps140
      go_wp2
      go_loopg [29] k (fun kq v29 w' => ∃ (i : Int) (s1 : σ) (ok1 : Nat → Prop), v29 = .int .i64 i ∧ Aside0 (facL step ts n cs kq s1 l p row i = some s') ∧ Aside0 (kq ≤ k) ∧ Aside0 (Inv s1 w' ok1) ∧ Aside0 (∀ q, ok1 q → ok q ∨ w.heap.size ≤ q) ∧ Aside0 (Kept w w' ok))
      case atStart => exact ⟨(0), s, ok, rfl, H', ⟨Nat.le_refl _⟩, HIV, ⟨fun q h => Or.inl h⟩, ⟨Kept.refl w ok⟩⟩
      case round =>
        clear H' HIV hcz0 hcz3 hx6 HB; obtain ⟨i, s1, ok1, rfl, HA, HK1, HIV, HOK, HKP⟩ := hrel
        cases gk with
        | zero => exact absurd HA.out (by simp [facL])
        | succ k1 =>
          have H := HA.out; clear HA; simp only [facL] at H; obtain ⟨wB, hwB⟩ : ∃ W_ : World, W_ = wr := ⟨wr, rfl⟩; have HB : Aside0 (Below wB.heap.size wB wr) := ⟨by rw [hwB]; exact Below.refl _ _⟩; have BT : Aside0 (wB.heap[gt]? = some (.cells #[.slice At ts.length ct] 45 (0, 0))) := ⟨blk_kept BT0.out (by rw [hwB]; exact HKP.out) NT.out⟩; have BN : Aside0 (wB.heap[gn]? = some (.cells #[.int .i64 n] 3 (0, 0))) := ⟨blk_kept BN0.out (by rw [hwB]; exact HKP.out) NN.out⟩; have BL : Aside0 (wB.heap[gl]? = some (.cells #[.func (.func TF) #[] #[.pointer (some ⟨gm, 0, none⟩)]] 76 (0, 0))) := ⟨blk_kept BL0.out (by rw [hwB]; exact HKP.out) NL.out⟩; have BC : Aside0 (wB.heap[gc]? = some (.cells #[.slice (some ad) cs.length cc] 98 (0, 0))) := ⟨blk_kept BC0.out (by rw [hwB]; exact HKP.out) NC.out⟩; have BY : Aside0 (wB.heap[gy]? = some (.cells #[.func (.func 140) #[] #[.pointer (some ⟨gt, 0, none⟩), .pointer (some ⟨gn, 0, none⟩), .pointer (some ⟨gl, 0, none⟩), .pointer (some ⟨gc, 0, none⟩), .pointer (some ⟨gy, 0, none⟩)]] 100 (0, 0))) := ⟨blk_kept BY0.out (by rw [hwB]; exact HKP.out) NY.out⟩; have HF0' : Aside0 (Kd.F (Kd.slice 3 (Kd.int .i64)) wB (fun q => ¬ ok1 q) A0 l.length l) := ⟨by rw [hwB]; exact F_keep1 HF0.out HKP.out HOK.out⟩; have HF1' : Aside0 (Kd.F (Kd.int .i64) wB (fun q => ¬ ok1 q) A1 p.length p) := ⟨by rw [hwB]; exact F_keep1 HF1.out HKP.out HOK.out⟩; have HFC' : Aside0 (Kd.F (Kd.slice 23 (Kd.slice 3 (Kd.int .i64))) wB (fun q => ¬ ok1 q) (some ad) cs.length cs) := ⟨by rw [hwB]; exact F_keep1 HFC.out HKP.out HOK.out⟩; have HR6' : Aside0 (Kd.F (Kd.slice 3 (Kd.int .i64)) wB (fun q => ¬ ok1 q) Ar row.length row) := ⟨by rw [hwB]; exact F_keep1 HR6.out HKP.out HOK.out⟩; replace HIV : Aside0 (Inv s1 wB ok1) := ⟨by rw [hwB]; exact HIV.out⟩; replace HKP : Aside0 (Kept w wB ok) := ⟨by rw [hwB]; exact HKP.out⟩
          have hnew : ∀ g, g < w.heap.size → ¬ ok g → ¬ ok1 g := fun g hg hn hq => (HOK.out g hq).elim hn (fun h_ => by omega)
          have NT1 := Az (hnew gt (blk_lt BT0.out) NT.out); have NN1 := Az (hnew gn (blk_lt BN0.out) NN.out); have NL1 := Az (hnew gl (blk_lt BL0.out) NL.out); have NC1 := Az (hnew gc (blk_lt BC0.out) NC.out); have NY1 := Az (hnew gy (blk_lt BY0.out) NY.out); clear hnew
          by_cases c7 : i < (row.length : Int)
          ·
            rw [if_pos c7] at H; have c7b0 := decide_eq_true c7
            by_cases c8 : 0 ≤ i
            ·
              rw [if_pos c8] at H
              by_cases c9 : l.length < 5864062014805
              ·
                rw [if_pos c9] at H; obtain ⟨q_, A100, H⟩ := Option.bind_eq_some_iff.mp H; have A10 := Az A100; clear A100; obtain ⟨s2, A110, H⟩ := Option.bind_eq_some_iff.mp H; have A11 := Az A110; clear A110; have H' := Az H; have LM9 := Az c9; obtain ⟨adr, A5, c5, e5, hx5, hl5, hi5⟩ := F_at1 HR6'.out i c8 c7; subst e5; rw [show row.getD i.toNat [] = rdS row i from rfl] at hx5 hl5 hi5; obtain ⟨x5, hx5_⟩ : ∃ x_ : List Int, x_ = rdS row i := ⟨_, rfl⟩; rw [← hx5_] at hx5 hl5 hi5 A10 A11; have HR5 := Az hi5; have HC5 := Az hl5
                have hx5' : wr.cell? (adr.add i.toNat) = some (.slice A5 x5.length c5) := by rw [← hwB]; exact hx5
                have p5 := eq_true c8; have q5 := eq_true c7; clear H c7 c8 c9 hx5 hl5 hi5 hwB hx5_
                go_wp2
                refine start_ (n := 10) (S := fun w' => w'.cell? ⟨gy, 0, none⟩ = some (.func (.func 140) #[] #[.pointer (some ⟨gt, 0, none⟩), .pointer (some ⟨gn, 0, none⟩), .pointer (some ⟨gl, 0, none⟩), .pointer (some ⟨gc, 0, none⟩), .pointer (some ⟨gy, 0, none⟩)])) (ds := []) #[false, false, false, false, false, false, false, false, false, false] (by kernel_rfl) rfl rfl (pw_cell_below (bU0 HB.out) ((blk_cell BY.out 0).trans rfl)) (fun hHeld => ?_)
                refine pure_ (i := 1) (N := some 34) (v := ?_) (a' := ?_) #[false, true, false, false, false, false, false, false, false, false] rfl rfl (by kernel_rfl) (fun _ _ _ h => h) (Or.inl ⟨by rfl, ?_⟩) ?_ ?_
                rotate_left
                ·
                 intro w'
                 go_simp
                 with_reducible rfl
                rotate_left
                ·
                 simp only [Act.put, List.setIfInBounds_toArray, List.set_cons_zero, List.set_cons_succ, i64_w, i32_w]
                 rfl
                refine pure_ (i := 3) (N := some 36) (v := ?_) (a' := ?_) #[false, true, false, true, false, false, false, false, false, false] rfl rfl (by kernel_rfl) (fun _ _ _ h => h) (Or.inl ⟨by rfl, ?_⟩) ?_ ?_
                rotate_left
                ·
                 intro w'
                 go_simp
                 with_reducible rfl
                rotate_left
                ·
                 simp only [Act.put, List.setIfInBounds_toArray, List.set_cons_zero, List.set_cons_succ, i64_w, i32_w]
                 rfl
                refine pure_ (i := 6) (N := some 39) (v := ?_) (a' := ?_) #[false, true, false, true, false, false, true, false, false, false] rfl rfl (by kernel_rfl) (fun _ _ _ h => h) (Or.inl ⟨by rfl, ?_⟩) ?_ ?_
                rotate_left
                ·
                 intro w'
                 go_simp
                 with_reducible rfl
                rotate_left
                ·
                 simp only [Act.put, List.setIfInBounds_toArray, List.set_cons_zero, List.set_cons_succ, i64_w, i32_w]
                 rfl
                refine pure_ (i := 7) (N := some 40) (v := ?_) (a' := ?_) #[false, true, false, true, false, false, true, true, false, false] rfl rfl (by kernel_rfl) (fun _ _ _ h => h) (Or.inl ⟨by rfl, ?_⟩) ?_ ?_
                rotate_left
                ·
                 intro w'
                 go_simp
                 with_reducible rfl
                rotate_left
                ·
                 simp only [Act.put, List.setIfInBounds_toArray, List.set_cons_zero, List.set_cons_succ, i64_w, i32_w]
                 rfl
                refine take_ (i := 0) (N := some 33) (v := ?_) (a' := ?_) #[true, true, false, true, false, false, true, true, false, false] rfl rfl (by kernel_rfl) (fun _ _ _ h => h) (Or.inl ⟨by rfl, ?_⟩) hHeld ?_ ?_
                rotate_left
                ·
                 intro w' s0
                 go_simp
                 with_reducible rfl
                rotate_left
                ·
                 simp only [Act.put, List.setIfInBounds_toArray, List.set_cons_zero, List.set_cons_succ, i64_w, i32_w]
                 rfl
                refine join_ (σ := Value × Value) 3 #[true, true, true, true, true, false, true, true, false, false] (fun s_ => [(35, s_.1), (37, s_.2)]) (fun s_ w' => (w'.cell? ⟨gy, 0, none⟩ = some (.func (.func 140) #[] #[.pointer (some ⟨gt, 0, none⟩), .pointer (some ⟨gn, 0, none⟩), .pointer (some ⟨gl, 0, none⟩), .pointer (some ⟨gc, 0, none⟩), .pointer (some ⟨gy, 0, none⟩)])) ∧ (Kd.N (Kd.slice 3 (Kd.int .i64)) 23 w' wB.heap.size (fun q => (¬ ok1 q ∧ q < wB.heap.size) ∨ wB.heap.size ≤ q) s_.1 l) ∧ (Kd.N (Kd.slice 3 (Kd.int .i64)) 23 w' wB.heap.size (fun q => (fun q => (¬ ok1 q ∧ q < wB.heap.size) ∨ wB.heap.size ≤ q) q ∧ some q ≠ (s_.1 : Value).ownBlock) s_.2 [x5]) ∧ (Below wB.heap.size wB w')) ?_ ?_
                rotate_left
                ·
                 intro hCont
                 refine two_ (i := 2) (j := 4) (Ni := some 35) (Nj := some 37) #[true, true, true, true, false, false, true, true, false, false] #[true, true, false, true, true, false, true, true, false, false] rfl rfl rfl rfl (by kernel_rfl) (by decide) (by decide) (fun K hK => ?_) (fun K hK => ?_)
                 ·
                  refine goes_ Try.func141 (by kernel_rfl) rfl #[.slice A0 l.length c0] (by rfl) rfl rfl (by (try simp only [List.map_toArray, List.map_cons, List.map_nil]); first | done | rfl) ?_
                  refine (clone2.calls A0 c0 l _ (fun q => ¬ ok1 q ∧ q < wB.heap.size) (Kd.F_below (Kd.F_bound HF0'.out) (bU0 HB.out)) HC0.out LM9.out).mono ?_
                  rintro e w3 ⟨v2, rfl, ho, hb⟩
                  refine ⟨_, rfl, ?_⟩
                  have HO2 : Aside0 (Kd.N (Kd.slice 3 (Kd.int .i64)) 23 w3 wB.heap.size (fun q => (¬ ok1 q ∧ q < wB.heap.size) ∨ wB.heap.size ≤ q) v2 l) := ⟨Kd.N_lower (Kd.N_mono ho (fun q hq => hq.elim (fun h2 => Or.inl h2.1) (fun h2 => Or.inr (Nat.le_trans (below_size (bU0 HB.out)) h2)))) (below_size (bU0 HB.out))⟩; have n0_ := Az (below_step (bU0 HB.out) hb); clear HB; have HB := n0_; clear n0_ ho hb
                  refine hK.out _ _ (pw_cell_below (bU0 HB.out) ((blk_cell BY.out 0).trans rfl)) (fun hHeld => ?_)
                  clear hK K
                  refine norm_ (a' := ?_) ?_ ?_
                  rotate_left
                  ·
                   show Act.put _ (some 35) _ = _
                   simp only [Act.put, List.setIfInBounds_toArray, List.set_cons_zero, List.set_cons_succ, i64_w, i32_w]
                   rfl
                  refine one_ (i := 4) (N := some 37) #[true, true, true, true, true, false, true, true, false, false] rfl rfl (by kernel_rfl) (by decide) (fun K hK => ?_)
                  refine Kd.N_lit_step (Kd.slice 3 (Kd.int .i64)) (w0 := wB) wB.heap.size 23 (by rfl) (N' := 37) rfl (xs := [x5]) (inner := [.slice A5 x5.length c5]) (ok := (fun q => (fun q => (¬ ok1 q ∧ q < wB.heap.size) ∨ wB.heap.size ≤ q) q ∧ some q ≠ (v2 : Value).ownBlock)) (okp := (fun q => ¬ ok1 q ∧ q < wB.heap.size)) ?hr ?hp ?hk ?hf (bU0 HB.out) (below_size (bU0 HB.out)) (by simp) ?_
                  (case hr => first | (go_simp; done) | (go_simp; rfl))
                  (case hp => exact Reps.one (Kd.FK_slice_mk HC5.out (Kd.F_below (Kd.F_bound HR5.out) (bU0 HB.out))) (Reps.none _ _))
                  (case hk => exact fun q hq => ⟨Or.inl hq, fun e_ => by have := Kd.N_base HO2.out q e_.symm; have := hq.2; omega⟩)
                  (case hf => exact ⟨Or.inr (below_size (bU0 HB.out)), fun e_ => by have := Kd.N_lt HO2.out _ e_.symm; omega⟩)
                  intro v4 w4 ho hb hg_ hnew_
                  refine hK.out _ _ (pw_cell_below hb ((blk_cell BY.out 0).trans rfl)) (fun hHeld => ?_)
                  clear hK K
                  refine norm_ (a' := ?_) ?_ ?_
                  rotate_left
                  ·
                   show Act.put _ (some 37) _ = _
                   simp only [Act.put, List.setIfInBounds_toArray, List.set_cons_zero, List.set_cons_succ, i64_w, i32_w]
                   rfl
                  exact norm_ (by simp only [putAll, Act.put, List.setIfInBounds_toArray, List.set_cons_zero, List.set_cons_succ]) (hCont (v2, v4) _ ⟨hHeld, Kd.N_grown HO2.out hg_ (fun _ _ h2 => by cases h2), ho, hb⟩)
                 ·
                  refine Kd.N_lit_step (Kd.slice 3 (Kd.int .i64)) (w0 := wB) wB.heap.size 23 (by rfl) (N' := 37) rfl (xs := [x5]) (inner := [.slice A5 x5.length c5]) (ok := (fun q => (¬ ok1 q ∧ q < wB.heap.size) ∨ wB.heap.size ≤ q)) (okp := (fun q => ¬ ok1 q ∧ q < wB.heap.size)) ?hr ?hp ?hk ?hf (bU0 HB.out) (below_size (bU0 HB.out)) (by simp) ?_
                  (case hr => first | (go_simp; done) | (go_simp; rfl))
                  (case hp => exact Reps.one (Kd.FK_slice_mk HC5.out (Kd.F_below (Kd.F_bound HR5.out) (bU0 HB.out))) (Reps.none _ _))
                  (case hk => exact fun q hq => Or.inl hq)
                  (case hf => exact Or.inr (below_size (bU0 HB.out)))
                  intro v4 w3 ho hb hg_ hnew_
                  have HO4 := Az ho; clear HB; have HB := Az hb; clear ho hb hg_ hnew_
                  refine hK.out _ _ (pw_cell_below (bU0 HB.out) ((blk_cell BY.out 0).trans rfl)) (fun hHeld => ?_)
                  clear hK K
                  refine norm_ (a' := ?_) ?_ ?_
                  rotate_left
                  ·
                   show Act.put _ (some 37) _ = _
                   simp only [Act.put, List.setIfInBounds_toArray, List.set_cons_zero, List.set_cons_succ, i64_w, i32_w]
                   rfl
                  refine one_ (i := 2) (N := some 35) #[true, true, true, true, true, false, true, true, false, false] rfl rfl (by kernel_rfl) (by decide) (fun K hK => ?_)
                  refine goes_ Try.func141 (by kernel_rfl) rfl #[.slice A0 l.length c0] (by rfl) rfl rfl (by (try simp only [List.map_toArray, List.map_cons, List.map_nil]); first | done | rfl) ?_
                  refine (clone2.calls A0 c0 l _ (fun q => ¬ ok1 q ∧ q < wB.heap.size) (Kd.F_below (Kd.F_bound HF0'.out) (bU0 HB.out)) HC0.out LM9.out).mono ?_
                  rintro e w4 ⟨v2, rfl, ho, hb⟩
                  refine ⟨_, rfl, ?_⟩
                  have HO2 : Aside0 (Kd.N (Kd.slice 3 (Kd.int .i64)) 23 w4 wB.heap.size (fun q => (¬ ok1 q ∧ q < wB.heap.size) ∨ wB.heap.size ≤ q) v2 l) := ⟨Kd.N_lower (Kd.N_mono ho (fun q hq => hq.elim (fun h2 => Or.inl h2.1) (fun h2 => Or.inr (Nat.le_trans (below_size (bU0 HB.out)) h2)))) (below_size (bU0 HB.out))⟩; have HO5 := Az (Kd.N_elder' HO4.out (Kd.N_base ho) hb); have n0_ := Az (below_step (bU0 HB.out) hb); clear HB; have HB := n0_; clear n0_ ho hb
                  refine hK.out _ _ (pw_cell_below (bU0 HB.out) ((blk_cell BY.out 0).trans rfl)) (fun hHeld => ?_)
                  clear hK K
                  refine norm_ (a' := ?_) ?_ ?_
                  rotate_left
                  ·
                   show Act.put _ (some 35) _ = _
                   simp only [Act.put, List.setIfInBounds_toArray, List.set_cons_zero, List.set_cons_succ, i64_w, i32_w]
                   rfl
                  exact norm_ (by simp only [putAll, Act.put, List.setIfInBounds_toArray, List.set_cons_zero, List.set_cons_succ]) (hCont (v2, v4) _ ⟨hHeld, HO2.out, HO5.out, HB.out⟩)
                rintro ⟨v2, v4⟩ w5 ⟨hS_, h0_, h1_, hB_⟩
                obtain ⟨A7, c7, e7⟩ := Kd.N_slice h1_; simp only at e7 h0_ h1_ hB_ hS_; subst e7; have HO2 := Az h0_; have HO4 := Az h1_; clear HB; have HB := Az hB_; clear h0_ h1_ hB_
                refine norm_ (a' := ?_) ?_ ?_
                rotate_left
                ·
                 simp only [putAll, Act.put, List.setIfInBounds_toArray, List.set_cons_zero, List.set_cons_succ]
                 rfl
                obtain ⟨y8, hy8⟩ : ∃ y_ : List (List Int), y_ = l ++ [x5] := ⟨_, rfl⟩; rw [← hy8] at A11; have Ny8 := Az hy8; clear hy8
                refine one_ (i := 5) (N := some 38) #[true, true, true, true, true, true, true, true, false, false] rfl rfl (by kernel_rfl) (by decide) (fun K hK => ?_)
                refine Kd.N_append_rows_step (Kd.slice 3 (Kd.int .i64)) (w0 := wB) wB.heap.size (by rfl) (.tmp 35) (.tmp 37) 45 23 (.slice none 0 0) 24 rfl Try.underlying45 infoF23 rfl (by decide) (by omega) v2 l [x5] A7 [x5].length c7 (fun q => (¬ ok1 q ∧ q < wB.heap.size) ∨ wB.heap.size ≤ q) (fun q => (fun q => (¬ ok1 q ∧ q < wB.heap.size) ∨ wB.heap.size ≤ q) q ∧ some q ≠ (v2 : Value).ownBlock) rfl rfl HO2.out (Kd.N_F HO4.out) (fun _ h2 => h2) (fun q hq => Or.inr (Nat.le_trans (below_size (bU0 HB.out)) hq)) (bU0 HB.out) (below_size (bU0 HB.out)) (by have := LM9.out; simp only [List.length_cons, List.length_nil]; omega) ?_
                intro v8 w6 ho hb hg hat
                rw [← Ny8.out] at ho; obtain ⟨A8, c8, e8⟩ := Kd.N_slice ho; subst e8; have HO8 := Az ho; clear HB HO2 HO4; have HB := Az hb; clear ho hb hg hat
                refine hK.out _ _ (pw_cell_below (bU0 HB.out) ((blk_cell BY.out 0).trans rfl)) (fun hHeld => ?_)
                clear hK K
                refine norm_ (a' := ?_) ?_ ?_
                rotate_left
                ·
                 show Act.put _ (some 38) _ = _
                 simp only [Act.put, List.setIfInBounds_toArray, List.set_cons_zero, List.set_cons_succ, i64_w, i32_w]
                 rfl
                refine one_ (i := 8) (N := some 41) #[true, true, true, true, true, true, true, true, true, false] rfl rfl (by kernel_rfl) (by decide) (fun K hK => ?_)
                refine goes_ Try.func67 (by kernel_rfl) rfl #[.slice A1 p.length c1, .slice A5 x5.length c5] (by rfl) rfl rfl (by (try simp only [List.map_toArray, List.map_cons, List.map_nil]); first | done | rfl) ?_
                refine (impl_mul.calls k1 _ _ p _ _ x5 q_ _ (Kd.C_below (Kd.F_now HF1'.out) (bU0 HB.out)) HC1.out (Kd.C_below (Kd.F_now HR5.out) (bU0 HB.out)) HC5.out A10.out).mono ?_
                rintro e w7 ⟨v9, rfl, ho, hb⟩
                refine ⟨_, rfl, ?_⟩
                obtain ⟨A9, c9, e9⟩ := Kd.R_slice ho; subst e9; have HO9 := Az (Kd.R_lower ho (below_size (bU0 HB.out))); have n1_ := Az (Kd.N_below HO8.out hb); clear HO8; have HO8 := n1_; clear n1_; have n0_ := Az (below_step (bU0 HB.out) hb); clear HB; have HB := n0_; clear n0_ ho hb
                refine hK.out _ _ (pw_cell_below (bU0 HB.out) ((blk_cell BY.out 0).trans rfl)) (fun hHeld => ?_)
                clear hK K
                refine norm_ (a' := ?_) ?_ ?_
                rotate_left
                ·
                 show Act.put _ (some 41) _ = _
                 simp only [Act.put, List.setIfInBounds_toArray, List.set_cons_zero, List.set_cons_succ, i64_w, i32_w]
                 rfl
                refine one_ (i := 9) (N := some 42) #[true, true, true, true, true, true, true, true, true, true] rfl rfl (by kernel_rfl) (by decide) (fun K hK => ?_)
                refine goesV_ (f := 140) Try.func140 (by kernel_rfl) rfl #[.slice A8 y8.length c8, .slice A9 q_.length c9, .pointer (some ⟨gt, 0, none⟩), .pointer (some ⟨gn, 0, none⟩), .pointer (some ⟨gl, 0, none⟩), .pointer (some ⟨gc, 0, none⟩), .pointer (some ⟨gy, 0, none⟩)] (by rfl) rfl rfl (by rfl) (by first | rfl | (simp; done) | (simp; exact ⟨rfl, rfl⟩)) ?_
                refine (IH.out k1 (by have := HK1.out; omega) s1 s2 A8 c8 y8 A9 c9 q_ _ ok1 (HI.out _ _ _ _ HIV.out (bU0 HB.out)) NT1.out NN1.out NL1.out NC1.out NY1.out (blk_below BT.out (bU0 HB.out)) (blk_below BN.out (bU0 HB.out)) (blk_below BL.out (bU0 HB.out)) (blk_below BC.out (bU0 HB.out)) (blk_below BY.out (bU0 HB.out)) (Kd.F_mono (Kd.N_F HO8.out) (fun q hq h1 => hq.elim (fun h2 => h2.1 h1) (fun h2 => by have := HL.out _ _ _ _ HIV.out h1; omega))) (Kd.N_reads' HO8.out).2.1 (Kd.F_mono (Kd.R_F (Kd.R_bound HO9.out)) (fun q hq h1 => by have := HL.out _ _ _ _ HIV.out h1; have := hq.2.1; omega)) (Kd.R_reads' HO9.out).2.1 (Kd.F_below HFC'.out (bU0 HB.out)) A11.out).mono ?_
                rintro e w' ⟨rfl, ok2, i1, i2, i3⟩
                refine ⟨_, rfl, ?_⟩
                have R1 := Az i1; have R2 := Az i2; have R3 := Az i3; have hcy := blk_kept (blk_below BY.out (bU0 HB.out)) i3 NY1.out; clear i1 i2 i3
                refine hK.out _ _ ((blk_cell hcy 0).trans rfl) (fun hHeld => ?_)
                clear hK K
                refine norm_ (a' := ?_) ?_ ?_
                rotate_left
                ·
                 show Act.put _ (some 42) _ = _
                 simp only [Act.put, List.setIfInBounds_toArray, List.set_cons_zero, List.set_cons_succ, i64_w, i32_w]
                 rfl
                refine done_ (by kernel_rfl) ?_
                clear hHeld hcy
                try go_wp2
                (first | go_roundg k1 | (refine Handed.intro k1 ?measure ?_; rotate_left; go_step; (try simp only [add_plain]); (repeat apply Exists.intro); refine ⟨?rel, rfl⟩))
                case measure => have := HK1.out; omega
                case rel => exact ⟨(wrap64 (i + 1)), s2, ok2, rfl, H', ⟨by have := HK1.out; omega⟩, R1, ⟨fun q hq => (R2.out q hq).elim (HOK.out q) (fun h_ => Or.inr (Nat.le_trans (Nat.le_trans HKP.out.1 HB.out.size) h_))⟩, ⟨Kept.then_ (Kept.below HKP.out HB.out) R3.out (fun q hq => HOK.out q hq)⟩⟩
              ·
                rw [if_neg c9] at H
                exact absurd H (by simp)
            ·
              rw [if_neg c8] at H
              exact absurd H (by simp)
          ·
            rw [if_neg c7] at H; have c7b0 := decide_eq_false c7; clear c7; obtain rfl := Option.some.inj H
            go_wp2
            first | go_end0 | ((try simp only [Exit.inBlock, Exit.then]); refine bodyPost_ret (results_none rfl _ _ _) rfl ?_)
            exact ⟨rfl, ok1, HI.out _ _ _ _ HIV.out (bU0 HB.out), HOK.out, Kept.below HKP.out (bU0 HB.out)⟩
    ·
      rw [if_neg c6] at h
      exact absurd h (by simp)
def facsG {σ : Type} (step : Nat → σ → List (List Int) → Option σ) (k : Nat) (ts : List (List Int)) (n : Int) (s : σ) : Option σ :=
  if ts.length ≤ 11728124029610 then ((permG (fun k cs p => fac1L k ts p cs 0) k n (List.replicate ts.length []) []).bind fun cs => ((impl_still.f k n).bind fun t => facG step ts n cs k s [] t)) else none
set_option maxHeartbeats 8000000 in
set_option maxRecDepth 100000 in
theorem facs.calls {σ : Type} (step : Nat → σ → List (List Int) → Option σ) (Inv : σ → World → (Nat → Prop) → Prop) (TF : Nat) (fnT : Func) (hfT : Try.prog.funcs[TF]? = some fnT) (hnT : (fnT.name == "runtime.NumGoroutine") = false) (hbT : fnT.body.isSome = true) (gm : Nat)
  (hI : ∀ s W W' ok, Inv s W ok → Below W.heap.size W W' → Inv s W' ok) (hL : ∀ s W ok q, Inv s W ok → ok q → q < W.heap.size)
  (hT : ∀ (k : Nat) (s s' : σ) (l : List (List Int)) (A : Option Addr) (c : Nat) (W : World) (ok : Nat → Prop), Inv s W ok → Kd.F (Kd.slice 3 (Kd.int .i64)) W (fun q => ¬ ok q) A l.length l → l.length ≤ c → step k s l = some s' → Calls Try.prog TF #[.slice A l.length c, .pointer (some ⟨gm, 0, none⟩)] W fun e w' => e = .returned (.tuple #[]) ∧ ∃ ok', Inv s' w' ok' ∧ (∀ q, ok' q → ok q ∨ W.heap.size ≤ q) ∧ Kept W w' ok)
  (k : Nat) (At : Option Addr) (ct : Nat) (ts : List (List Int)) (n : Int) (s s' : σ) (w : World) (ok : Nat → Prop) (hInv : Inv s w ok) (hr0 : Kd.C (Kd.slice 3 (Kd.int .i64)) w At ts.length ts) (hc0 : ts.length ≤ ct) (h : facsG step k ts n s = some s') :
  Calls Try.prog 95 #[.slice At ts.length ct, .int .i64 n, .func (.func TF) #[] #[.pointer (some ⟨gm, 0, none⟩)]] w fun e w' => e = .returned (.tuple #[]) ∧ ∃ ok', Inv s' w' ok' ∧ (∀ q, ok' q → ok q ∨ w.heap.size ≤ q) ∧ Kept w w' ok := by
  have HTS := Az hr0; have HCT := Az hc0; have HIV := Az hInv; have HB := Az (Below.refl w.heap.size w); clear hr0 hc0 hInv
  unfold facsG at h
  by_cases c1 : ts.length ≤ 11728124029610
  ·
    rw [if_pos c1] at h; have LM := Az c1; obtain ⟨cs, A10, h⟩ := Option.bind_eq_some_iff.mp h; obtain ⟨t, A20, h⟩ := Option.bind_eq_some_iff.mp h; have A1 := Az A10; have A2 := Az A20; have A3 := Az h; clear A10 A20 h c1
    go_enter Try.func95, Try.ntmps95
    go_wp2_with (first  | ((with_reducible refine gate_dst (N := 3) rfl ?_); refine box_event ?hg (N := 3) ?hd (cs := #[.slice At ts.length ct]) (t := 45) ?hr ?_; (case hd => rfl); (case hg => rfl); (case hr => first | (go_simp; done) | (go_simp; rfl)); intro gt hg_ w2 hbox hb; have n1 := Az (below_step HB.out hb); have B_gt := Az hbox; have G_gt := Az ((by rw [hg_]; exact below_size HB.out) : w.heap.size ≤ gt); clear HB hb hbox hg_; have HB := n1; clear n1) | ((with_reducible refine gate_dst (N := 4) rfl ?_); refine box_event ?hg (N := 4) ?hd (cs := #[.int .i64 n]) (t := 3) ?hr ?_; (case hd => rfl); (case hg => rfl); (case hr => first | (go_simp; done) | (go_simp; rfl)); intro gn hg_ w3 hbox hb; have n1 := Az (below_step HB.out hb); have m0 := Az (blk_below B_gt.out hb); have B_gn := Az hbox; have G_gn := Az ((by rw [hg_]; exact below_size HB.out) : w.heap.size ≤ gn); clear HB hb hbox hg_ B_gt; have HB := n1; clear n1; have B_gt := m0; clear m0) | ((with_reducible refine gate_dst (N := 5) rfl ?_); refine box_event ?hg (N := 5) ?hd (cs := #[.func (.func TF) #[] #[.pointer (some ⟨gm, 0, none⟩)]]) (t := 76) ?hr ?_; (case hd => rfl); (case hg => rfl); (case hr => first | (go_simp; done) | (go_simp; rfl)); intro gl hg_ w4 hbox hb; have n1 := Az (below_step HB.out hb); have m0 := Az (blk_below B_gt.out hb); have m1 := Az (blk_below B_gn.out hb); have B_gl := Az hbox; have G_gl := Az ((by rw [hg_]; exact below_size HB.out) : w.heap.size ≤ gl); clear HB hb hbox hg_ B_gt B_gn; have HB := n1; clear n1; have B_gt := m0; clear m0; have B_gn := m1; clear m1; have hcz0 : w4.cell? ⟨gt, 0, none⟩ = some (.slice At ts.length ct) := (blk_cell B_gt.out 0).trans rfl) | ((with_reducible refine gate_dst (N := 10) rfl ?_); refine Kd.S_make (Kd.slice 23 (Kd.slice 3 (Kd.int .i64))) _ 45 rfl (N := 10) rfl 98 _ _ rfl (ts.length : Int) rfl rfl Try.underlying98 (.slice none 0 0) 24 infoF45 rfl (by decide) (by omega) ([] : List (List Int)) (ok := fun _ => True) (okp := fun _ => True) (Kd.M_row (Kd.R_nil _ _ _ _ _)) (fun _ hk => hk) trivial (by omega) (by have := LM.out; simp only [Int.toNat_natCast]; omega) (Below.refl _ _) (Nat.le_refl _) ?_; intro v1 w5 ho hb hg_ hnew_; rw [Int.toNat_natCast] at ho; have HSZ := Az hb.size; have LT := Az (blk_lt B_gt.out); have LN := Az (blk_lt B_gn.out); have LL := Az (blk_lt B_gl.out); have HO := Az (Kd.S_mono (Kd.S_bound ho) (ok' := fun q => w4.heap.size ≤ q ∧ q < w5.heap.size) (fun q hq => ⟨hq.2.1, hq.2.2.1⟩)); have m0 := Az (blk_below B_gt.out hb); have m1 := Az (blk_below B_gn.out hb); have m2 := Az (blk_below B_gl.out hb); have m3 := Az (below_step HB.out hb); have HS4 := Az (below_size HB.out); clear B_gt B_gn B_gl HB ho hb hg_ hnew_ hcz0; have B_gt := m0; have B_gn := m1; have B_gl := m2; have HB := m3; clear m0 m1 m2 m3) | ((with_reducible refine gate_store (p := 6) (t := 98) rfl ?_); refine store_event (w1 := w5.alloc (.cells #[v1] 98 (0, 0))) rfl rfl rfl ?hr ?_; (case hr => (obtain ⟨Av, cv, ev⟩ := Kd.S_slice HO.out; subst ev; go_simp; first | exact setCell_new _ _ _ _ | (rw [run_store _ _ _ _ _ rfl]; simp [stored]; exact setCell_new _ _ _ _) | trace_state)); intro w6 hw6; have hb6 : Below w5.heap.size w5 w6 := (by rw [hw6]; exact below_alloc (Below.refl _ _) _); have B_gc := Az ((by rw [hw6]; exact blk_new w5 _) : w6.heap[w5.heap.size]? = some (.cells #[v1] 98 (0, 0))); have m0 := Az (blk_below B_gt.out hb6); have m1 := Az (blk_below B_gn.out hb6); have m2 := Az (blk_below B_gl.out hb6); have m3 := Az (below_step HB.out hb6); have m4 := Az (Kd.S_below HO.out hb6); have HS5 := Az hb6.size; clear B_gt B_gn B_gl HB HO hb6 hw6; have B_gt := m0; have B_gn := m1; have B_gl := m2; have HB := m3; have HO := m4; clear m0 m1 m2 m3 m4; obtain ⟨gc, hgc⟩ : ∃ g_ : Nat, g_ = w5.heap.size := ⟨_, rfl⟩; rw [← hgc] at B_gc ⊢; have HGC := Az hgc; clear hgc; have hcz1 : w6.cell? ⟨gn, 0, none⟩ = some (.int .i64 n) := (blk_cell B_gn.out 0).trans rfl) | (go_at_call 138; refine (perm0.calls (σ := List (List (List Int))) (fun k cs p => fac1L k ts p cs 0) (fac1I w At ct ts gt gc v1) gt gc (fun s W W' ok h hb => fac1I.below h hb) (fun s W ok q h hq => (h.2.2.2.2.1 q hq).2.2) (fun k s s' p A c W ok hI hp hc h => fac1.calls w At ct ts gt gc v1 HTS.out HCT.out k s s' p A c W ok hI hp hc h) k n (List.replicate ts.length []) cs w6 (fun q => w4.heap.size ≤ q ∧ q < w5.heap.size) ⟨HB.out, B_gt.out, B_gc.out, Kd.S_lower HO.out HS4.out, fun q hq => ⟨fun e_ => by have := LT.out; omega, fun e_ => by have := HGC.out; omega, Nat.lt_of_lt_of_le hq.2 HS5.out⟩, List.length_replicate⟩ A1.out).mono ?_; rintro e w7 ⟨rfl, ok', i1, i2, i3⟩; have FI := Az i1; have R3 := Az i3; clear i1 i2 i3 hcz1) | ((with_reducible refine gate_store (p := 7) (t := 100) rfl ?_); refine store_event (w1 := w7.alloc (.cells #[.func (.func 140) #[] #[.pointer (some ⟨gt, 0, none⟩), .pointer (some ⟨gn, 0, none⟩), .pointer (some ⟨gl, 0, none⟩), .pointer (some ⟨gc, 0, none⟩), .pointer (some ⟨w7.heap.size, 0, none⟩)]] 100 (0, 0))) rfl rfl rfl ?hr ?_; (case hr => (go_simp; rw [run_store _ _ _ _ _ rfl]; simp [stored]; exact setCell_new _ _ _ _)); intro w8 hw8; have hb8 : Below w7.heap.size w7 w8 := (by rw [hw8]; exact below_alloc (Below.refl _ _) _); have B_gy0 : w8.heap[w7.heap.size]? = some (.cells #[.func (.func 140) #[] #[.pointer (some ⟨gt, 0, none⟩), .pointer (some ⟨gn, 0, none⟩), .pointer (some ⟨gl, 0, none⟩), .pointer (some ⟨gc, 0, none⟩), .pointer (some ⟨w7.heap.size, 0, none⟩)]] 100 (0, 0)) := (by rw [hw8]; exact blk_new w7 _); clear hw8; obtain ⟨gy, hgy⟩ : ∃ g_ : Nat, g_ = w7.heap.size := ⟨_, rfl⟩; rw [← hgy] at B_gy0 ⊢; have B_gy := Az B_gy0; have HGY := Az hgy; have HB8 := Az hb8; clear B_gy0 hgy hb8))
    obtain ⟨f1, f2, f3, f4, f5, f6⟩ := FI.out; obtain ⟨Ac, cc, ev⟩ := Kd.S_slice f4; subst ev; have FS := Az f4; have FB7 := Az f1; have FT7 := Az f2; have FC7 := Az f3; have FN7 := Az (blk_kept B_gn.out R3.out (fun h2 => by have := LN.out; omega)); have FL7 := Az (blk_kept B_gl.out R3.out (fun h2 => by have := LL.out; omega)); have GC := Az ((by have := HGC.out; have := HS4.out; have := HSZ.out; omega) : w.heap.size ≤ gc); have GY := Az ((by rw [HGY.out]; exact below_size FB7.out) : w.heap.size ≤ gy); clear f1 f2 f3 f4 f5 f6 FI B_gt B_gn B_gl B_gc HB HO R3; have HB : Aside0 (Below w.heap.size w w8) := ⟨below_step FB7.out HB8.out⟩; have B_gn := Az (blk_below FN7.out HB8.out); have B_gt := Az (blk_below FT7.out HB8.out); have B_gl := Az (blk_below FL7.out HB8.out); have B_gc := Az (blk_below FC7.out HB8.out); have FS8 := Az (Kd.S_below FS.out HB8.out); clear FN7 FT7 FL7 FC7 FS HB8 FB7; have HB8 : Aside0 (Below w8.heap.size w8 w8) := ⟨Below.refl _ _⟩
    refine start_ (n := 4) (S := fun w' => w'.cell? ⟨gy, 0, none⟩ = some (.func (.func 140) #[] #[.pointer (some ⟨gt, 0, none⟩), .pointer (some ⟨gn, 0, none⟩), .pointer (some ⟨gl, 0, none⟩), .pointer (some ⟨gc, 0, none⟩), .pointer (some ⟨gy, 0, none⟩)]) ∧ w'.cell? ⟨gn, 0, none⟩ = some (.int .i64 n)) (ds := []) #[false, false, false, false] (by kernel_rfl) rfl rfl ⟨pw_cell_below (by repeat (first | (with_reducible first | exact HB8.out | apply below_alloc | apply pw_below_drewN | apply below_drew1) | exact HB8.out)) ((blk_cell B_gy.out 0).trans rfl), pw_cell_below (by repeat (first | (with_reducible first | exact HB8.out | apply below_alloc | apply pw_below_drewN | apply below_drew1) | exact HB8.out)) ((blk_cell B_gn.out 0).trans rfl)⟩ (fun hHeld => ?_)
    refine take_ (i := 0) (N := some 15) (v := ?_) (a' := ?_) #[true, false, false, false] rfl rfl (by kernel_rfl) (fun _ _ _ h => h) (Or.inl ⟨by rfl, ?_⟩) hHeld ?_ ?_
    rotate_left
    ·
     intro w' s0
     obtain ⟨s0, s1⟩ := s0
     go_simp
     with_reducible rfl
    rotate_left
    ·
     simp only [Act.put, List.setIfInBounds_toArray, List.set_cons_zero, List.set_cons_succ, i64_w, i32_w]
     rfl
    refine take_ (i := 1) (N := some 16) (v := ?_) (a' := ?_) #[true, true, false, false] rfl rfl (by kernel_rfl) (fun _ _ _ h => h) (Or.inl ⟨by rfl, ?_⟩) hHeld ?_ ?_
    rotate_left
    ·
     intro w' s0
     obtain ⟨s0, s1⟩ := s0
     go_simp
     with_reducible rfl
    rotate_left
    ·
     simp only [Act.put, List.setIfInBounds_toArray, List.set_cons_zero, List.set_cons_succ, i64_w, i32_w]
     rfl
    refine one_ (i := 2) (N := some 17) #[true, true, true, false] rfl rfl (by kernel_rfl) (by decide) (fun K hK => ?_)
    refine goes_ Try.func104 (by kernel_rfl) rfl #[.int .i64 n] (by rfl) rfl rfl (by (try simp only [List.map_toArray, List.map_cons, List.map_nil]); first | done | rfl) ?_
    refine (impl_still.calls k n t _ A2.out).mono ?_
    rintro e w9 ⟨v9, rfl, ho, hb⟩
    refine ⟨_, rfl, ?_⟩
    obtain ⟨A9, c9, e9⟩ := Kd.R_slice ho; subst e9; have HO9 := Az (Kd.R_lower ho (below_size (by repeat (first | (with_reducible first | exact HB8.out | apply below_alloc | apply pw_below_drewN | apply below_drew1) | exact HB8.out)))); have n0_ := Az (below_step (by repeat (first | (with_reducible first | exact HB8.out | apply below_alloc | apply pw_below_drewN | apply below_drew1) | exact HB8.out)) hb); clear HB8 ho hb; have HB8 := n0_; clear n0_
    refine hK.out _ _ ⟨pw_cell_below (by repeat (first | (with_reducible first | exact HB8.out | apply below_alloc | apply pw_below_drewN | apply below_drew1) | exact HB8.out)) ((blk_cell B_gy.out 0).trans rfl), pw_cell_below (by repeat (first | (with_reducible first | exact HB8.out | apply below_alloc | apply pw_below_drewN | apply below_drew1) | exact HB8.out)) ((blk_cell B_gn.out 0).trans rfl)⟩ (fun hHeld => ?_)
    clear hK K
    refine norm_ (a' := ?_) ?_ ?_
    rotate_left
    ·
     show Act.put _ (some 17) _ = _
     simp only [Act.put, List.setIfInBounds_toArray, List.set_cons_zero, List.set_cons_succ, i64_w, i32_w]
     rfl
    refine one_ (i := 3) (N := some 18) #[true, true, true, true] rfl rfl (by kernel_rfl) (by decide) (fun K hK => ?_)
    refine goesV_ (f := 140) Try.func140 (by kernel_rfl) rfl #[.slice none 0 0, .slice A9 t.length c9, .pointer (some ⟨gt, 0, none⟩), .pointer (some ⟨gn, 0, none⟩), .pointer (some ⟨gl, 0, none⟩), .pointer (some ⟨gc, 0, none⟩), .pointer (some ⟨gy, 0, none⟩)] (by rfl) rfl rfl (by rfl) (by first | rfl | (simp; done) | (simp; exact ⟨rfl, rfl⟩) | (simp; rfl)) ?_
    refine (fac2.calls step Inv TF fnT hfT hnT hbT gm hI hL hT gt gn gl gc gy At ct ts n Ac cc cs k s s' none 0 [] A9 c9 t _ ok (hI _ _ _ _ HIV.out (below_step HB.out HB8.out)) (fun h2 => Nat.lt_irrefl _ (Nat.lt_of_lt_of_le (hL _ _ _ _ HIV.out h2) G_gt.out)) (fun h2 => Nat.lt_irrefl _ (Nat.lt_of_lt_of_le (hL _ _ _ _ HIV.out h2) G_gn.out)) (fun h2 => Nat.lt_irrefl _ (Nat.lt_of_lt_of_le (hL _ _ _ _ HIV.out h2) G_gl.out)) (fun h2 => Nat.lt_irrefl _ (Nat.lt_of_lt_of_le (hL _ _ _ _ HIV.out h2) GC.out)) (fun h2 => Nat.lt_irrefl _ (Nat.lt_of_lt_of_le (hL _ _ _ _ HIV.out h2) GY.out)) (blk_below B_gt.out HB8.out) (blk_below B_gn.out HB8.out) (blk_below B_gl.out HB8.out) (blk_below B_gc.out HB8.out) (blk_below B_gy.out HB8.out) (Kd.F_nil _ _ _) (Nat.le_refl 0) (Kd.F_mono (Kd.R_F (Kd.R_bound HO9.out)) (fun q hq h1 => by have := hL _ _ _ _ HIV.out h1; have := hq.2.1; have := below_size HB.out; omega)) (Kd.R_reads' HO9.out).2.1 (Kd.F_below (Kd.F_mono (Kd.S_F (Kd.S_bound FS8.out)) (fun q hq h1 => by have := hL _ _ _ _ HIV.out h1; have := hq.2.1; omega)) HB8.out) A3.out).mono ?_
    rintro e w' ⟨rfl, ok2, i1, i2, i3⟩
    refine ⟨_, rfl, ?_⟩
    have R1 := Az i1; have R2 := Az i2; have R3 := Az i3
    have N1 : ∀ g, w.heap.size ≤ g → ¬ ok g := fun g hg h2 => Nat.lt_irrefl _ (Nat.lt_of_lt_of_le (hL _ _ _ _ HIV.out h2) hg)
    have hcy := blk_kept (blk_below B_gy.out HB8.out) i3 (N1 _ GY.out); have hcn := blk_kept (blk_below B_gn.out HB8.out) i3 (N1 _ G_gn.out); clear i1 i2 i3
    refine hK.out _ _ ⟨(blk_cell hcy 0).trans rfl, (blk_cell hcn 0).trans rfl⟩ (fun hHeld => ?_)
    clear hK K
    refine norm_ (a' := ?_) ?_ ?_
    rotate_left
    ·
     show Act.put _ (some 18) _ = _
     simp only [Act.put, List.setIfInBounds_toArray, List.set_cons_zero, List.set_cons_succ, i64_w, i32_w]
     rfl
    refine done_ (by kernel_rfl) ?_
    clear hHeld hcy hcn
    try go_wp2
    first | go_end0 | ((try simp only [Exit.inBlock, Exit.then]); refine bodyPost_ret (results_none rfl _ _ _) rfl ?_)
    have hb9 := below_step HB.out HB8.out
    exact ⟨rfl, ok2, R1.out, fun q hq => (R2.out q hq).imp id (fun h2 => Nat.le_trans (below_size hb9) h2), Kept.then_ (Kept.of_below hb9 ok) R3.out (fun q hq => Or.inl hq)⟩
  ·
    rw [if_neg c1] at h
    cases h
def oneI (w0 : World) (g : Nat) (m : Int) (W : World) (ok : Nat → Prop) : Prop := Below w0.heap.size w0 W ∧ W.heap[g]? = some (.cells #[.int .i64 m] 3 (0, 0)) ∧ ok = fun q => q = g
theorem oneI.below {w0 W W1 : World} {g : Nat} {m : Int} {ok : Nat → Prop} (h : oneI w0 g m W ok) (hb : Below W.heap.size W W1) : oneI w0 g m W1 ok := ⟨below_step h.1 hb, blk_below h.2.1 hb, h.2.2⟩
theorem oneI.put {w0 W : World} {g : Nat} {m : Int} {ok : Nat → Prop} (h : oneI w0 g m W ok) (hg : w0.heap.size ≤ g) (m' : Int) : oneI w0 g m' (W.setCell ⟨g, 0, none⟩ (.int .i64 m')) ok ∧ Kept W (W.setCell ⟨g, 0, none⟩ (.int .i64 m')) ok := by
  obtain ⟨h1, h2, rfl⟩ := h
  exact ⟨⟨below_set h1 hg, one_setCell h2, rfl⟩, Kept.setCell (S := fun q => q = g) (p := ⟨g, 0, none⟩) (Kept.refl _ _) (Or.inl rfl) _⟩
end Go.Proofs.Ytggghijamfmenaa.PM
