/- Exchanges lead there and back: what FnCutJoin says holds of all codes. There are no conditions beside the given row's own. -/
import Derived.Test.YtggghijamfmenaaProg
import Derived.Below
import Derived.Deep.Draws
import Derived.Deep.AppendLies
import Derived.Maps.AppendAt
import Derived.OwnWalk
import Derived.Laws.BytesArg
import Derived.Laws.MakeOwn
import Derived.Laws.OwnMore
import Derived.Tactics
import Derived.Lib.ConvBytes
import Derived.Laws.Slices
import Derived.WalkKit
import Derived.KernelRfl
import Derived.RowKit3
import Derived.Deep.LoopGhost
import Derived.Deep.QuietTactic
import Derived.BigQuiet
import Derived.WideLaws
import Derived.Deep.DeepCutAuto
import Derived.Deep.CutBlock
import Derived.Deep.RegionHeld3
import Derived.Lib.AppendStr
import Derived.ArgAppend
import Derived.Laws.IdiomCopy
import Derived.OrdersHeld
import Derived.Laws.BitsLemmas
import Derived.RowKit
import Derived.Laws.RangeAny
import Derived.Laws.RangeString
import Derived.Maps.OwnOps
import Derived.Maps.Views
import Derived.Shelf.Sort.Plain
import Derived.Sort.OwnSortedInts
import Derived.ProofKit
import Derived.OpenShut
import Derived.ShutString
import Derived.ChangeOld
import Derived.SizedLaws
import Derived.Test.YtggghijamfmenaaKCJWWords
import Derived.Test.YtggghijamfmenaaKCJWLast
import Derived.Test.YtggghijamfmenaaKCJWTab
import Derived.Test.YtggghijamfmenaaKCJWApart
import Derived.Test.YtggghijamfmenaaKCJWFoot
import Derived.Test.YtggghijamfmenaaKCJWKept
import Derived.Test.YtggghijamfmenaaKCJWShare
import Derived.Test.YtggghijamfmenaaKCJWN
import Derived.Test.YtggghijamfmenaaKCJWRepsOne
import Derived.Test.YtggghijamfmenaaKCJWGuard
import Derived.Test.YtggghijamfmenaaKCJWNEv
import Derived.Test.YtggghijamfmenaaKCJWMore
import Derived.Test.YtggghijamfmenaaKCJWSized
import Derived.Deep.OwnRows
import Derived.Laws.Rows
import Derived.Test.YtggghijamfmenaaRows
namespace Go.Proofs.Ytggghijamfmenaa.PN
open Go.RowKit Go.Proofs.YtggghijamfmenaaW.PrintWords Go.Proofs.YtggghijamfmenaaW.PrintLast Go.Proofs.YtggghijamfmenaaW.PrintMore
theorem oA {p : Prop} [Decidable p] (h : decide p = true := by first | (with_reducible assumption) | assumption) : p := of_decide_eq_true h
theorem rS {p : Prop} (h : p := by first | rfl | (simp; done) | (simp [*]; done)) : p := h
theorem rE {p : Prop} (h : p := by first | rfl | (simp [errW_none, errW_some] <;> rfl) | (simp [*, errW_none, errW_some] <;> rfl)) : p := h
theorem Az {p : Prop} (h : p) : Aside0 p := Aside0.mk h
theorem rU {p q : Prop} (h : q) (f : q → p := by intro h; (with_reducible repeat (first | apply Kd.R_alloc | apply Kd.R_drewN | apply Kd.R_drew)); exact h) : p := f h
theorem sU {p q : Prop} (h : q) (f : q → p := by intro h; (with_reducible repeat (first | apply Kd.S_alloc | apply Kd.S_drewN | apply Kd.S_drew)); exact h) : p := f h
theorem vU {p q : Prop} (h : q) (f : q → p := by intro h; (with_reducible repeat (first | apply Kd.V_alloc | apply Kd.V_drewN | apply Kd.V_drew)); exact h) : p := f h
theorem nU {p q : Prop} (h : q) (f : q → p := by intro h; (with_reducible repeat (first | apply Kd.N_alloc | apply Kd.N_drewN | apply Kd.N_drew)); exact h) : p := f h
theorem qU {p q : Prop} (h : q) (f : q → p := by intro h; (with_reducible repeat (first | apply Kd.Q_alloc | apply Kd.Q_drewN | apply Kd.Q_drew)); exact h) : p := f h
theorem kU {p q : Prop} (h : q) (f : q → p := by intro h; (with_reducible repeat (first | refine blk_drewN ?_ _ | refine blk_drew ?_ | refine blk_alloc ?_ _)); exact h) : p := f h
theorem cU {p q : Prop} (h : q) (f : q → p := by intro h; repeat (first | exact h | (with_reducible refine Kd.C_alloc ?_ _) | (with_reducible refine Kd.C_drewN ?_ _) | (with_reducible refine Kd.C_drew ?_))) : p := f h
theorem bU0 {p q : Prop} (h : q) (f : q → p := by intro h; repeat (first | (with_reducible first | exact h | apply below_alloc | apply pw_below_drewN | apply below_drew1) | exact h)) : p := f h
theorem bU1 {p q a0 : Prop} (h : q) (g0 : a0) (f : q → a0 → p := by intro h g0; repeat (first | (with_reducible first | exact h | apply below_alloc | apply pw_below_drewN | apply below_drew1 | refine below_set ?_ g0) | exact h)) : p := f h g0
theorem bU2 {p q a0 a1 : Prop} (h : q) (g0 : a0) (g1 : a1) (f : q → a0 → a1 → p := by intro h g0 g1; repeat (first | (with_reducible first | exact h | apply below_alloc | apply pw_below_drewN | apply below_drew1 | refine below_set ?_ g0 | refine below_set ?_ g1) | exact h)) : p := f h g0 g1
theorem bU3 {p q a0 a1 a2 : Prop} (h : q) (g0 : a0) (g1 : a1) (g2 : a2) (f : q → a0 → a1 → a2 → p := by intro h g0 g1 g2; repeat (first | (with_reducible first | exact h | apply below_alloc | apply pw_below_drewN | apply below_drew1 | refine below_set ?_ g0 | refine below_set ?_ g1 | refine below_set ?_ g2) | exact h)) : p := f h g0 g1 g2
theorem bU4 {p q a0 a1 a2 a3 : Prop} (h : q) (g0 : a0) (g1 : a1) (g2 : a2) (g3 : a3) (f : q → a0 → a1 → a2 → a3 → p := by intro h g0 g1 g2 g3; repeat (first | (with_reducible first | exact h | apply below_alloc | apply pw_below_drewN | apply below_drew1 | refine below_set ?_ g0 | refine below_set ?_ g1 | refine below_set ?_ g2 | refine below_set ?_ g3) | exact h)) : p := f h g0 g1 g2 g3
theorem bU5 {p q a0 a1 a2 a3 a4 : Prop} (h : q) (g0 : a0) (g1 : a1) (g2 : a2) (g3 : a3) (g4 : a4) (f : q → a0 → a1 → a2 → a3 → a4 → p := by intro h g0 g1 g2 g3 g4; repeat (first | (with_reducible first | exact h | apply below_alloc | apply pw_below_drewN | apply below_drew1 | refine below_set ?_ g0 | refine below_set ?_ g1 | refine below_set ?_ g2 | refine below_set ?_ g3 | refine below_set ?_ g4) | exact h)) : p := f h g0 g1 g2 g3 g4
theorem hR {α : Type} {a b : α} {p q : Prop} (e : a = b) (h : q) (f : a = b → q → p := by intro e H; first | (rw [e]; with_reducible exact H) | (have H2_ := (Option.bind_some _ _).symm.trans H; rw [e]; with_reducible exact H2_) | (have H2_ := (Option.bind_some _ _).symm.trans H; with_reducible exact H2_) | with_reducible exact H | (rw [e]; exact H) | exact H) : p := f e h
attribute [local go_sem] max2_int min2_int max_two min_two max_three min_three max_four min_four   -- for this text's walks alone
set_option linter.unusedVariables false
set_option linter.unusedSimpArgs false
def errW : Option Int → Value
 | none => .nilIface
 | some c => .iface 0 (.int .i64 c)
theorem errW_none : errW none = .nilIface := rfl
theorem errW_some (c : Int) : errW (some c) = .iface 0 (.int .i64 c) := rfl
theorem info3 : (Try.prog.info? 3).map (fun i => (i.zero, i.size, i.bytes)) = some (some (.int .i64 0), 1, 8) := by kernel_rfl
theorem info4 : (Try.prog.info? 4).map (fun i => (i.zero, i.size, i.bytes)) = some (some (.bool false), 1, 1) := by kernel_rfl
theorem info5 : (Try.prog.info? 5).map (fun i => (i.zero, i.size, i.bytes)) = some (some (.int .u8 0), 1, 1) := by kernel_rfl
theorem info23 : (Try.prog.info? 23).map (fun i => (i.zero, i.size, i.bytes)) = some (some (.slice none 0 0), 1, 24) := by kernel_rfl
def rd_L1 (xs : List (List Int)) (i : Int) : (List Int) := xs.getD i.toNat ([] : List Int)
theorem at_L1 {w : World} {A : Option Addr} {n : Nat} {xs : List (List Int)} (h : Kd.C (Kd.slice 3 (Kd.int .i64)) w A n xs) (i : Int) (h0 : 0 ≤ i) (h1 : i < n) : ∃ ad A0 c0, A = some ad ∧ w.cell? (ad.add i.toNat) = some (.slice A0 (rd_L1 xs i).length c0) ∧ (rd_L1 xs i).length ≤ c0 ∧ (Kd.int .i64).C w A0 (rd_L1 xs i).length (rd_L1 xs i) := by
 obtain ⟨ad, c, e, _, hK, hc0⟩ := Kd.C_get h ([] : List Int) i h0 h1; have hc : ∀ j u, c[j]? = some u → w.cell? (ad.add (i.toNat * 1 + j)) = some u := hc0; obtain ⟨A0, c0, rfl, l0, g0⟩ := hK
 exact ⟨ad, A0, c0, e, by have hq := hc 0 _ rfl; rwa [Nat.mul_one, Nat.add_zero] at hq, l0, g0⟩
end Go.Proofs.Ytggghijamfmenaa.PN

namespace Go.Proofs.Ytggghijamfmenaa.PN
open Go.RowKit Go.Proofs.YtggghijamfmenaaW.PrintWords Go.Proofs.YtggghijamfmenaaW.PrintLast Go.Proofs.YtggghijamfmenaaW.PrintMore
attribute [local go_sem] max2_int min2_int max_two min_two max_three min_three max_four min_four   -- for this text's walks alone
set_option linter.unusedVariables false
set_option linter.unusedSimpArgs false
def slices_Clone_int_int.f (l0 : List Int) : Option (List Int) := if l0.length < 17592186044416 then some l0 else none
set_option maxHeartbeats 8000000 in
set_option maxRecDepth 100000 in
theorem slices_Clone_int_int.calls (A0 : Option Addr) (c0 : Nat) (l0 : List Int) (r : List Int) (w : World) (hr0 : Kd.C (Kd.int .i64) w A0 l0.length l0) (hc0 : l0.length ≤ c0) (h : slices_Clone_int_int.f l0 = some r) :
  Calls Try.prog 68 #[.slice A0 l0.length c0] w fun e w' => ∃ v0_ : Value, e = .returned (v0_) ∧ Kd.R (Kd.int .i64) 3 w' w.heap.size (fun _ => True) v0_ r ∧ Below w.heap.size w w' := by
 have HR0 := Az hr0; have HC0 := Az hc0
 have hnil : A0 = none → l0 = [] := by
  intro e
  have h' := Kd.reads_of_C (d := (0 : Int)) hr0
  by_cases hn : 0 < l0.length
  ·
   obtain ⟨ad, e2, _⟩ := h'.2.2 hn; rw [e] at e2
   cases e2
  ·
   exact List.eq_nil_of_length_eq_zero (by omega)
 clear hr0 hc0; have HB := Az (Below.refl w.heap.size w)
 unfold slices_Clone_int_int.f at h
 by_cases c2 : l0.length < 17592186044416
 ·
  rw [if_pos c2] at h; have LMc2 := Az c2; clear c2; obtain rfl := Option.some.inj h; clear h
  cases A0 with
  | none =>
   obtain rfl := hnil rfl
   have he : ∀ w : World, (binOp .eql 23 (.slice none 0 c0) (.slice none 0 0)).run Try.prog w = .ok (.bool true) w := fun _ => rfl
   go_enter Try.func68, Try.ntmps68
   go_wp2
   go_ret
   exact ⟨_, rfl, Kd.R_nil _ _ _ _ _, HB.out⟩
  | some ad =>
   clear hnil
   have he : ∀ w : World, (binOp .eql 23 (.slice (some ad) l0.length c0) (.slice none 0 0)).run Try.prog w = .ok (.bool false) w := fun _ => rfl
   obtain ⟨y1, hy1⟩ : ∃ y_ : List Int, y_ = (([] : List Int)) := ⟨_, rfl⟩; obtain ⟨y2, hy2⟩ : ∃ y_ : List Int, y_ = (y1 ++ l0) := ⟨_, rfl⟩
   have e2 : y2 = l0 := by rw [hy2, hy1]; rfl
   have Ny1 := Az hy1; have Ny2 := Az hy2
   have hl1 : y1.length + l0.length < 17592186044416 := by rw [hy1]; have := LMc2.out; simpa using this
   have LMc3 := Az hl1; clear hy1 hy2 hl1
   go_enter Try.func68, Try.ntmps68
   go_wp2_with (first | ((with_reducible refine gate_dst (N := 5) rfl ?_); refine Kd.R_lit (Kd.int .i64) _ 3 ?hg (N := 5) ?hd (xs := ([] : List Int)) (inner := []) (ok := fun _ => True) (okp := fun _ => True) ?hr ?hp (fun _ hk => hk) trivial (Below.refl _ _) (Nat.le_refl _) (by simp) ?_; (case hd => rfl); (case hg => rfl); (case hr => first | (go_simp; done) | (go_simp; rfl)); (case hp => exact (Reps.none _ _)); intro v189 w3 ho4 hb hg_ hnew_; clear hg_ hnew_; (first | rw [← Ny1.out] at ho4 | (simp only [Int.reduceToNat] at ho4; rw [← Ny1.out] at ho4)); have n0 := Az (Kd.R_lower ho4 (below_size (bU0 HB.out))); have n1 := Az (below_step (bU0 HB.out) hb); clear HB; have HO190 := n0; have HB := n1; clear n0 n1; clear hb ho4) | ((with_reducible refine gate_builtin (b := .append) (xs := #[.tmp 5, .tmp 6]) rfl ?_); at_builtin; refine Kd.R_append_rows (Kd.int .i64) (w0 := w) w.heap.size rfl (.tmp 5) (.tmp 6) 23 3 (.int .i64 0) 8 rfl Try.underlying23 info3 rfl (by decide) (by omega) v189 y1 l0 _ _ _ (fun _ => True) (fun _ => False) rfl rfl ?aO ?aR (fun _ _ h => h) (fun _ h => h.elim) ?aF ?aB ?aS ?aL ?_; (case aR => exact cU (Kd.C_below HR0.out HB.out)); (case aB => exact (bU0 HB.out)); (case aF => exact (fun _ _ => trivial)); (case aO => exact (rU HO190.out)); (case aS => exact (below_size (bU0 HB.out))); (case aL => have := LMc3.out; omega); intro v192 w5 ho hb hg hat; rw [← Ny2.out, e2] at ho; have n0 := Az (hb); have n1 := Az (ho); clear HB HO190; have HB := n0; have HO193 := n1; clear n0 n1; clear ho hb hg hat))
   go_ret
   exact ⟨_, rE, rU HO193.out, bU0 HB.out⟩
 ·
  rw [if_neg c2] at h
  cases h
def slices_Clone_int_int_68.f (l0 : List Int) : Option (List Int) := slices_Clone_int_int.f l0
theorem slices_Clone_int_int_68.calls (A0 : Option Addr) (c0 : Nat) (l0 : List Int) (r : List Int) (w : World) (hr0 : Kd.C (Kd.int .i64) w A0 l0.length l0) (hc0 : l0.length ≤ c0) (h : slices_Clone_int_int_68.f l0 = some r) :
  Calls Try.prog 68 #[.slice A0 l0.length c0] w fun e w' => ∃ v0_ : Value, e = .returned (v0_) ∧ Kd.R (Kd.int .i64) 3 w' w.heap.size (fun _ => True) v0_ r ∧ Below w.heap.size w w' := slices_Clone_int_int.calls A0 c0 l0 r w hr0 hc0 h
def slices_Index_int_int.l0 : Nat → List Int → Int → Int → Int → Option (Int)
 | 0, _, _, _, _ => none
 | k + 1, x0, x1, x7, x8 => if x8 < x7 then (if 0 ≤ x8 then (if x8 < (x0.length : Int) then (if x1 = (rd x0 x8) then (some x8) else (slices_Index_int_int.l0 k x0 x1 x7 (wrap64 (x8 + 1)))) else (none)) else (none)) else (some (-1))
def slices_Index_int_int.f (k : Nat) (l0 : List Int) (a1 : Int) : Option (Int) := slices_Index_int_int.l0 k l0 a1 (l0.length : Int) 0
theorem slices_Index_int_int.mono_l : ∀ k, (∀ y0 y1 y2 y3, LeO (slices_Index_int_int.l0 k y0 y1 y2 y3) (slices_Index_int_int.l0 (k + 1) y0 y1 y2 y3))
 | 0 => fun _ _ _ _ r h => by simp [slices_Index_int_int.l0] at h
 | k + 1 => by
  have ih0 := slices_Index_int_int.mono_l k
  ·
   intro y0 y1 y2 y3
   unfold slices_Index_int_int.l0
   repeat' first
   | (with_reducible exact ih0 _ _ _ _)
   | (with_reducible exact LeO.refl _)
   | (with_reducible exact LeO.none _)
   | (with_reducible refine LeO.ite ?_ ?_)
   | (with_reducible refine LeO.bind ?_ (fun _ => ?_))
   | exact ih0 _ _ _ _
   | exact LeO.none _
   | refine LeO.ite ?_ ?_
   | refine LeO.bind ?_ (fun _ => ?_)
theorem slices_Index_int_int.mono : ∀ a0 a1 k, LeO (slices_Index_int_int.f k a0 a1) (slices_Index_int_int.f (k + 1) a0 a1) := by
 intro a0 a1 k
 have ih0 := slices_Index_int_int.mono_l k
 unfold slices_Index_int_int.f
 repeat' first
   | (with_reducible exact ih0 _ _ _ _)
   | (with_reducible exact LeO.refl _)
   | (with_reducible exact LeO.none _)
   | (with_reducible refine LeO.ite ?_ ?_)
   | (with_reducible refine LeO.bind ?_ (fun _ => ?_))
   | exact ih0 _ _ _ _
   | exact LeO.none _
   | refine LeO.ite ?_ ?_
   | refine LeO.bind ?_ (fun _ => ?_)
set_option maxHeartbeats 8000000 in
set_option maxRecDepth 100000 in
theorem slices_Index_int_int.calls (k : Nat) (A0 : Option Addr) (c0 : Nat) (l0 : List Int) (a1 : Int) (r : Int) (w : World) (hr0 : Kd.C (Kd.int .i64) w A0 l0.length l0) (hc0 : l0.length ≤ c0) (h : slices_Index_int_int.f k l0 a1 = some r) :
  Calls Try.prog 159 #[.slice A0 l0.length c0, .int .i64 a1] w fun e w' => e = .returned (.int .i64 r) ∧ Drawn0 w w' := by
 have HR0 := Az hr0; have HC0 := Az hc0; clear hr0 hc0; have H : (slices_Index_int_int.l0 k l0 a1 (l0.length : Int) 0) = some r := h; clear h; have H' := Az H; clear H
 go_enter Try.func159, Try.ntmps159
 go_wp2
 go_loopg [8] k (fun kq v8 w' => ∃ (x8_1 : Int), v8 = .int .i64 x8_1 ∧ Aside0 (slices_Index_int_int.l0 kq l0 a1 (l0.length : Int) x8_1 = some r) ∧ Aside0 (kq ≤ k) ∧ Drawn0 w w')
 case atStart => exact ⟨(0), rS, H', ⟨Nat.le_refl _⟩, by repeat (first | exact Drawn0.refl _ | apply Drawn0.step)⟩
 case round =>
  clear H'; (try clear c1); (try clear p2); obtain ⟨x8_1, rfl, HA, HK1, ⟨m1, rfl⟩⟩ := hrel
  cases gk with
  | zero => exact absurd HA.out (by simp [slices_Index_int_int.l0])
  | succ k1 =>
   have H := HA.out; clear HA; simp only [slices_Index_int_int.l0] at H
   by_cases c3 : x8_1 < (l0.length : Int)
   ·
    rw [if_pos c3] at H; have c3b0 := decide_eq_true c3; clear c3
    by_cases c4 : 0 ≤ x8_1
    ·
     rw [if_pos c4] at H; have c4b0 := decide_eq_true c4; clear c4
     by_cases c5 : x8_1 < (l0.length : Int)
     ·
      rw [if_pos c5] at H; have c5b0 := decide_eq_true c5; clear c5
      by_cases c6 : a1 = (rd l0 x8_1)
      ·
       rw [if_pos c6] at H; have c6b0 := beq_iff_eq.mpr c6; have c6b1 := bne_eq_false_iff_eq.mpr c6; clear c6; obtain rfl := Option.some.inj H; have p101 : 0 ≤ (x8_1 : Int) := oA; have q101 : x8_1 < (l0.length : Int) := oA; obtain ⟨ad101, e101, hx101_0⟩ := Kd.at_int HR0.out x8_1 p101 q101
       cases e101
       replace p101 := eq_true p101; replace q101 := eq_true q101
       go_wp2
       go_ret
       exact ⟨by first | rfl | (simp; done) | (simp [*]; done), by repeat (first | exact Drawn0.refl _ | apply Drawn0.step)⟩
      ·
       rw [if_neg c6] at H; have c6b0 := beq_eq_false_iff_ne.mpr c6; have c6b1 := bne_iff_ne.mpr c6; have H' := Az H; clear H; have p101 : 0 ≤ (x8_1 : Int) := oA; have q101 : x8_1 < (l0.length : Int) := oA; obtain ⟨ad101, e101, hx101_0⟩ := Kd.at_int HR0.out x8_1 p101 q101
       cases e101
       replace p101 := eq_true p101; replace q101 := eq_true q101
       go_wp2
       (first | go_roundg k1 | (refine Handed.intro k1 ?measure ?_; rotate_left; go_step; (try simp only [add_plain]); (repeat apply Exists.intro); refine ⟨?rel, rfl⟩))
       case measure => have := HK1.out; omega
       case rel => exact ⟨(wrap64 (x8_1 + 1)), rS, H', ⟨by have := HK1.out; omega⟩, by repeat (first | exact Drawn0.refl _ | apply Drawn0.step)⟩
     ·
      rw [if_neg c5] at H
      exact absurd H (by simp)
    ·
     rw [if_neg c4] at H
     exact absurd H (by simp)
   ·
    rw [if_neg c3] at H; have c3b0 := decide_eq_false c3; clear c3; obtain rfl := Option.some.inj H
    go_wp2
    go_ret
    exact ⟨by first | rfl | (simp; done) | (simp [*]; done), by repeat (first | exact Drawn0.refl _ | apply Drawn0.step)⟩
def slices_Contains_int_int.f (k : Nat) (l0 : List Int) (a1 : Int) : Option (Bool) := (slices_Index_int_int.f k l0 a1).bind fun t102 => (some (decide (t102 ≥ 0)))
theorem slices_Contains_int_int.mono : ∀ a0 a1 k, LeO (slices_Contains_int_int.f k a0 a1) (slices_Contains_int_int.f (k + 1) a0 a1) := by
 intro a0 a1 k
 unfold slices_Contains_int_int.f
 repeat' first
   | (with_reducible exact slices_Index_int_int.mono _ _ _)
   | (with_reducible exact LeO.refl _)
   | (with_reducible exact LeO.none _)
   | (with_reducible refine LeO.ite ?_ ?_)
   | (with_reducible refine LeO.bind ?_ (fun _ => ?_))
   | exact slices_Index_int_int.mono _ _ _
   | exact LeO.none _
   | refine LeO.ite ?_ ?_
   | refine LeO.bind ?_ (fun _ => ?_)
set_option maxHeartbeats 8000000 in
set_option maxRecDepth 100000 in
theorem slices_Contains_int_int.calls (k : Nat) (A0 : Option Addr) (c0 : Nat) (l0 : List Int) (a1 : Int) (r : Bool) (w : World) (hr0 : Kd.C (Kd.int .i64) w A0 l0.length l0) (hc0 : l0.length ≤ c0) (h : slices_Contains_int_int.f k l0 a1 = some r) :
  Calls Try.prog 147 #[.slice A0 l0.length c0, .int .i64 a1] w fun e w' => e = .returned (.bool r) ∧ Drawn0 w w' := by
 have HR0 := Az hr0; have HC0 := Az hc0; clear hr0 hc0; have H : ((slices_Index_int_int.f k l0 a1).bind fun t102 => (some (decide (t102 ≥ 0)))) = some r := h; clear h; replace H := Option.bind_eq_some_iff.mp H; obtain ⟨t102, A30, H⟩ := H; replace H : (some (decide (t102 ≥ 0))) = some r := H; have A3 := Az A30; clear A30; obtain rfl := Option.some.inj H
 go_enter Try.func147, Try.ntmps147
 go_wp2_with (first | ((with_reducible refine gate_callee (f := 159) rfl ?_); refine goesL_ (some 7) rfl rfl Try.func159 (by kernel_rfl) rfl #[.slice A0 l0.length c0, .int .i64 a1] rfl (by (try simp only [List.map_toArray, List.map_cons, List.map_nil]); first | done | rfl | (simp only [List.length_drop, List.length_take]; rfl)) ?_; (with_reducible refine (slices_Index_int_int.calls k _ _ l0 a1 t102 _ ?side1 ?side2 A3.out).mono ?_); (case side1 => exact cU (HR0.out)); (case side2 => exact HC0.out); rintro e w' ⟨rfl, ⟨nd, rfl⟩⟩; refine ⟨_, rfl, ?_⟩))
 go_ret
 exact ⟨by first | rfl | (simp; done) | (simp [*]; done), by repeat (first | exact Drawn0.refl _ | apply Drawn0.step)⟩
mutual
def impl_cyclesOf.l0 : Nat → List Int → List (List Int) → List Bool → Int → Int → Option ((List (List Int)))
 | 0, _, _, _, _, _ => none
 | k + 1, x0, x3, x4, x13, x14 => if x14 < x13 then (impl_cyclesOf.l1 k x0 x3 x4 (([] : List Int)) x14 x13 x14) else (some x3)
def impl_cyclesOf.l1 : Nat → List Int → List (List Int) → List Bool → List Int → Int → Int → Int → Option ((List (List Int)))
 | 0, _, _, _, _, _, _, _ => none
 | k + 1, x0, x3, x4, x6, x7, x13, x14 => if 0 ≤ x7 then (if x7 < (x4.length : Int) then (if rdOf false x4 x7 = true then (if (x6.length : Int) > 0 then (if x3.length < 5864062014805 then (impl_cyclesOf.l0 k x0 (x3 ++ [x6]) x4 x13 (wrap64 (x14 + 1))) else (none)) else (impl_cyclesOf.l0 k x0 x3 x4 x13 (wrap64 (x14 + 1)))) else (if x6.length < 17592186044416 then (if x7 < (x0.length : Int) then (impl_cyclesOf.l1 k x0 x3 (x4.set (x7 : Int).toNat true) (x6 ++ [x7]) (rd x0 x7) x13 x14) else (none)) else (none))) else (none)) else (none)
end
def impl_cyclesOf.f (k : Nat) (l0 : List Int) : Option ((List (List Int))) := if 0 ≤ (l0.length : Int) then (if ((l0.length : Int) : Int).toNat ≤ 281474976710656 then (impl_cyclesOf.l0 k l0 (([] : List (List Int))) (List.replicate ((l0.length : Int) : Int).toNat false) (l0.length : Int) 0) else (none)) else (none)
set_option maxHeartbeats 8000000 in
set_option maxRecDepth 100000 in
theorem impl_cyclesOf.calls (k : Nat) (A0 : Option Addr) (c0 : Nat) (l0 : List Int) (r : List (List Int)) (w : World) (hr0 : Kd.C (Kd.int .i64) w A0 l0.length l0) (hc0 : l0.length ≤ c0) (h : impl_cyclesOf.f k l0 = some r) :
  Calls Try.prog 66 #[.slice A0 l0.length c0] w fun e w' => ∃ v0_ : Value, e = .returned (v0_) ∧ Kd.S (Kd.slice 3 (Kd.int .i64)) 23 w' w.heap.size (fun _ => True) v0_ r ∧ Below w.heap.size w w' := by
 have HR0 := Az hr0; have HC0 := Az hc0; clear hr0 hc0; have HB := Az (Below.refl w.heap.size w); have H : (if 0 ≤ (l0.length : Int) then (if ((l0.length : Int) : Int).toNat ≤ 281474976710656 then (impl_cyclesOf.l0 k l0 (([] : List (List Int))) (List.replicate ((l0.length : Int) : Int).toNat false) (l0.length : Int) 0) else (none)) else (none)) = some r := h; clear h; obtain ⟨y103, hy103⟩ : ∃ y_ : List (List Int), y_ = (([] : List (List Int))) := ⟨_, rfl⟩; replace H : (if 0 ≤ (l0.length : Int) then (if ((l0.length : Int) : Int).toNat ≤ 281474976710656 then (impl_cyclesOf.l0 k l0 y103 (List.replicate ((l0.length : Int) : Int).toNat false) (l0.length : Int) 0) else (none)) else (none)) = some r := hR hy103 H; have Ny103 := Az hy103; clear hy103
 by_cases c2 : 0 ≤ (l0.length : Int)
 ·
  rw [if_pos c2] at H; have c2b0 := eq_true c2; have c2b1 := decide_eq_true c2; clear c2
  by_cases c3 : ((l0.length : Int) : Int).toNat ≤ 281474976710656
  ·
   rw [if_pos c3] at H; have c3b0 := eq_true c3; have c3b1 := decide_eq_true c3; clear c3; obtain ⟨y106, hy106⟩ : ∃ y_ : List Bool, y_ = (List.replicate ((l0.length : Int) : Int).toNat false) := ⟨_, rfl⟩; replace H : (impl_cyclesOf.l0 k l0 y103 y106 (l0.length : Int) 0) = some r := hR hy106 H; have Ny106 := Az hy106; clear hy106; have H' := Az H; clear H
   go_enter Try.func66, Try.ntmps66
   go_wp2_with (first | ((with_reducible refine gate_dst (N := 8) rfl ?_); refine Kd.S_lit (Kd.slice 3 (Kd.int .i64)) _ 23 ?hg (N := 8) ?hd (xs := ([] : List (List Int))) (inner := []) (ok := fun _ => True) (okp := fun _ => True) ?hr ?hp (fun _ hk => hk) trivial (Below.refl _ _) (Nat.le_refl _) (by simp) ?_; (case hd => rfl); (case hg => rfl); (case hr => first | (go_simp; done) | (go_simp; rfl)); (case hp => exact (Reps.none _ _)); intro v104 w4 ho5 hb hg_ hnew_; clear hg_ hnew_; (first | rw [← Ny103.out] at ho5 | (simp only [Int.reduceToNat] at ho5; rw [← Ny103.out] at ho5)); have n0 := Az (Kd.S_lower ho5 (below_size (bU0 HB.out))); have n1 := Az (below_step (bU0 HB.out) hb); clear HB; have HO105 := n0; have HB := n1; clear n0 n1; clear hb ho5) | ((with_reducible refine gate_dst (N := 11) rfl ?_); refine Kd.R_make Kd.bool _ 4 rfl (N := 11) rfl 92 _ _ rfl (l0.length : Int) rfl rfl Try.underlying92 (.bool false) 1 info4 rfl (by decide) (by omega) false (ok := fun _ => True) (okp := fun _ => True) rfl (fun _ hk => hk) trivial (oA) (Nat.le_trans (Nat.mul_le_mul_right _ (oA : (l0.length : Int).toNat ≤ 281474976710656)) (by omega)) (Below.refl _ _) (Nat.le_refl _) ?_; intro v107 w6 ho7 hb hg_ hnew_; clear hg_ hnew_; (first | rw [← Ny106.out] at ho7 | (simp only [Int.reduceToNat] at ho7; rw [← Ny106.out] at ho7)); have n0 := Az (Kd.S_below (sU HO105.out) hb); have n1 := Az (Kd.R_lower ho7 (below_size (bU0 HB.out))); have n2 := Az (below_step (bU0 HB.out) hb); clear HO105 HB; have HO105 := n0; have HO108 := n1; have HB := n2; clear n0 n1 n2; clear hb ho7))
   go_loopg [3, 14] k (fun kq v3 v14 w' => ∃ (x3_1 : List (List Int)) (x4_1 : List Bool) (x14_1 : Int), v14 = .int .i64 x14_1 ∧ Aside0 (impl_cyclesOf.l0 kq l0 x3_1 x4_1 (l0.length : Int) x14_1 = some r) ∧ Aside0 (kq ≤ k) ∧ Aside0 (Kd.S (Kd.slice 3 (Kd.int .i64)) 23 w' w.heap.size (fun _ => True) v3 x3_1) ∧ Aside0 (Kd.R Kd.bool 4 w' w.heap.size (fun _ => True) v107 x4_1) ∧ Aside0 (Below w.heap.size w w'))
   case atStart => exact ⟨(y103), (y106), (0), rS, H', ⟨Nat.le_refl _⟩, ⟨sU HO105.out⟩, ⟨rU HO108.out⟩, ⟨bU0 HB.out⟩⟩
   case round =>
    clear H'; (try clear c2); (try clear c2b0); (try clear c2b1); (try clear p2); (try clear c3); (try clear c3b0); (try clear c3b1); (try clear c6); obtain ⟨x3_1, x4_1, x14_1, rfl, HA, HK1, HO_3, HO_4, HB⟩ := hrel
    cases gk with
    | zero => exact absurd HA.out (by simp [impl_cyclesOf.l0])
    | succ k1 =>
     have H := HA.out; clear HA; simp only [impl_cyclesOf.l0] at H
     by_cases c8 : x14_1 < (l0.length : Int)
     ·
      rw [if_pos c8] at H; have c8b0 := decide_eq_true c8; clear c8; obtain ⟨y109, hy109⟩ : ∃ y_ : List Int, y_ = (([] : List Int)) := ⟨_, rfl⟩; replace H : (impl_cyclesOf.l1 k1 l0 x3_1 x4_1 y109 x14_1 (l0.length : Int) x14_1) = some r := hR hy109 H; have Ny109 := Az hy109; clear hy109; have H' := Az H; clear H
      go_wp2_with (first | ((with_reducible refine gate_dst (N := 17) rfl ?_); refine Kd.R_lit (Kd.int .i64) _ 3 ?hg (N := 17) ?hd (xs := ([] : List Int)) (inner := []) (ok := fun _ => True) (okp := fun _ => True) ?hr ?hp (fun _ hk => hk) trivial (Below.refl _ _) (Nat.le_refl _) (by simp) ?_; (case hd => rfl); (case hg => rfl); (case hr => first | (go_simp; done) | (go_simp; rfl)); (case hp => exact (Reps.none _ _)); intro v110 w9 ho10 hb hg_ hnew_; clear hg_ hnew_; (first | rw [← Ny109.out] at ho10 | (simp only [Int.reduceToNat] at ho10; rw [← Ny109.out] at ho10)); have n0 := Az (Kd.S_elder' (sU HO_3.out) (Kd.R_base ho10) hb); have n1 := Az (Kd.R_below (rU HO_4.out) hb); have n2 := Az (Kd.R_lower ho10 (below_size (bU0 HB.out))); have n3 := Az (below_step (bU0 HB.out) hb); clear HO_3 HO_4 HB; have HO_3 := n0; have HO_4 := n1; have HO111 := n2; have HB := n3; clear n0 n1 n2 n3; clear hb ho10))
      go_loopg [6, 7] k1 (fun kq v6 v7 w' => ∃ (x4_2 : List Bool) (x6_2 : List Int) (x7_2 : Int), v7 = .int .i64 x7_2 ∧ Aside0 (impl_cyclesOf.l1 kq l0 x3_1 x4_2 x6_2 x7_2 (l0.length : Int) x14_1 = some r) ∧ Aside0 (kq ≤ k1) ∧ Aside0 (Kd.S (Kd.slice 3 (Kd.int .i64)) 23 w' w.heap.size (fun k_ => some k_ ≠ (v6 : Value).ownBlock) u3 x3_1) ∧ Aside0 (Kd.R Kd.bool 4 w' w.heap.size (fun _ => True) v107 x4_2) ∧ Aside0 (Kd.R (Kd.int .i64) 3 w' w.heap.size (fun _ => True) v6 x6_2) ∧ Aside0 (Below w.heap.size w w'))
      case atStart => exact ⟨(x4_1), (y109), (x14_1), rS, H', ⟨Nat.le_refl _⟩, ⟨by (with_reducible repeat (first | apply Kd.S_alloc | apply Kd.S_drewN | apply Kd.S_drew)); exact Kd.S_mono HO_3.out (fun _ hk => hk.2)⟩, ⟨rU HO_4.out⟩, ⟨rU HO111.out⟩, ⟨bU0 HB.out⟩⟩
      case round =>
       clear H'; (try clear c2); (try clear c2b0); (try clear c2b1); (try clear p2); (try clear c3); (try clear c3b0); (try clear c3b1); (try clear c6); (try clear c8); (try clear c8b0); (try clear p2); obtain ⟨x4_2, x6_2, x7_2, rfl, HA, HK2, HO_3, HO_4, HO_6, HB⟩ := hrel
       cases gk with
       | zero => exact absurd HA.out (by simp [impl_cyclesOf.l1])
       | succ k2 =>
        have H := HA.out; clear HA; simp only [impl_cyclesOf.l1] at H
        by_cases c11 : 0 ≤ x7_2
        ·
         rw [if_pos c11] at H; have c11b0 := decide_eq_true c11; clear c11
         by_cases c12 : x7_2 < (x4_2.length : Int)
         ·
          rw [if_pos c12] at H; have c12b0 := decide_eq_true c12; clear c12; obtain ⟨bq13, hbq13⟩ : ∃ b_ : Bool, b_ = (rdOf false x4_2 x7_2) := ⟨_, rfl⟩
          replace H : (if bq13 = true then (if (x6_2.length : Int) > 0 then (if x3_1.length < 5864062014805 then (impl_cyclesOf.l0 k2 l0 (x3_1 ++ [x6_2]) x4_2 (l0.length : Int) (wrap64 (x14_1 + 1))) else (none)) else (impl_cyclesOf.l0 k2 l0 x3_1 x4_2 (l0.length : Int) (wrap64 (x14_1 + 1)))) else (if x6_2.length < 17592186044416 then (if x7_2 < (l0.length : Int) then (impl_cyclesOf.l1 k2 l0 x3_1 (x4_2.set (x7_2 : Int).toNat true) (x6_2 ++ [x7_2]) (rd l0 x7_2) (l0.length : Int) x14_1) else (none)) else (none))) = some r := by rw [← hbq13] at H; exact H
          have Nbq13 := Az hbq13; clear hbq13
          by_cases c14 : bq13 = true
          ·
           subst c14
           have H1 : (if (x6_2.length : Int) > 0 then (if x3_1.length < 5864062014805 then (impl_cyclesOf.l0 k2 l0 (x3_1 ++ [x6_2]) x4_2 (l0.length : Int) (wrap64 (x14_1 + 1))) else (none)) else (impl_cyclesOf.l0 k2 l0 x3_1 x4_2 (l0.length : Int) (wrap64 (x14_1 + 1)))) = some r := by rw [if_pos rfl] at H; exact H
           clear H; have H := H1; clear H1
           by_cases c15 : (x6_2.length : Int) > 0
           ·
            rw [if_pos c15] at H; have c15b0 := decide_eq_true c15; have c15b1 : decide (0 < x6_2.length) = true := decide_eq_true (by omega); clear c15
            by_cases c16 : x3_1.length < 5864062014805
            ·
             rw [if_pos c16] at H; have LMc16 := Az c16; clear c16; obtain ⟨y113, hy113⟩ : ∃ y_ : List (List Int), y_ = (x3_1 ++ [x6_2]) := ⟨_, rfl⟩; replace H : (impl_cyclesOf.l0 k2 l0 y113 x4_2 (l0.length : Int) (wrap64 (x14_1 + 1))) = some r := hR hy113 H; have Ny113 := Az hy113; clear hy113; have H' := Az H; clear H; obtain ⟨Ao17, co17, eo17⟩ := Kd.R_slice HO_4.out; subst eo17; have p112 : 0 ≤ (x7_2 : Int) := oA; have q112 : x7_2 < (x4_2.length : Int) := oA; obtain ⟨ad112, e112, hx112_0⟩ := Kd.at_bool (Kd.R_reads' HO_4.out).2.2 x7_2 p112 q112; (try rw [← Nbq13.out] at hx112_0)
             cases e112
             replace p112 := eq_true p112; replace q112 := eq_true q112; obtain ⟨Ao18, co18, eo18⟩ := Kd.R_slice HO_6.out; subst eo18
             go_wp2_with (first | ((with_reducible refine gate_builtin (b := .append) (xs := #[.tmp 38, .tmp 40]) rfl ?_); at_builtin; refine Kd.S_append (Kd.slice 3 (Kd.int .i64)) (w0 := w) w.heap.size rfl (.tmp 38) (.tmp 40) 45 23 (.slice none 0 0) 24 rfl Try.underlying45 info23 rfl (by decide) (by omega) u3 x3_1 x6_2 [.slice Ao18 x6_2.length co18] (fun _ => True) (fun k_ => some k_ = (.slice Ao18 x6_2.length co18 : Value).ownBlock) rfl rfl ?aP (fun k_ hk_ => ((Kd.R_mono (ok' := fun k_ => ((fun _ => True)) k_ ∧ some k_ ≠ (u3 : Value).ownBlock) (Kd.R_apart' (HO_6.out) (Kd.S_typed HO_3.out) (by decide)) (fun k_ hk => ⟨trivial, hk.2⟩))).1 k_ hk_.symm) ?aF ?aO ?aB ?aS ?aL ?_; (case aP => exact Kd.M_row (Kd.R_mono (Kd.R_tight rfl (Kd.R_mono (ok' := fun k_ => ((fun _ => True)) k_ ∧ some k_ ≠ (u3 : Value).ownBlock) (Kd.R_apart' (HO_6.out) (Kd.S_typed HO_3.out) (by decide)) (fun k_ hk => ⟨trivial, hk.2⟩))) (fun _ h_ => h_))); (case aB => exact (bU0 HB.out)); (case aF => exact (fun _ _ => trivial)); (case aO => exact (by (with_reducible repeat (first | apply Kd.S_alloc | apply Kd.S_drewN | apply Kd.S_drew)); exact Kd.S_mono HO_3.out (fun k_ hk => ⟨trivial, fun e_ => hk e_⟩))); (case aS => exact (below_size (bU0 HB.out))); (case aL => have := LMc16.out; omega); intro v114 w19 ho hb hg hat; rw [← Ny113.out] at ho; have n0 := Az (Kd.R_over' (rU HO_4.out) (Kd.S_typed (sU HO_3.out)) (by decide) hg); have n1 := Az (hb); have n2 := Az (ho); clear HO_4 HB HO_3 HO_6; have HO_4 := n0; have HB := n1; have HO115 := n2; clear n0 n1 n2; clear ho hb hg hat))
             (first | go_roundg k2 | (refine Handed.intro k2 ?measure ?_; rotate_left; go_step; (try simp only [add_plain]); (repeat apply Exists.intro); refine ⟨?rel, rfl⟩))
             case measure => have := HK1.out; have := HK2.out; omega
             case rel => exact ⟨(y113), (x4_2), (wrap64 (x14_1 + 1)), rS, H', ⟨by have := HK1.out; have := HK2.out; omega⟩, ⟨sU HO115.out⟩, ⟨rU HO_4.out⟩, ⟨bU0 HB.out⟩⟩
            ·
             rw [if_neg c16] at H
             exact absurd H (by simp)
           ·
            rw [if_neg c15] at H; have c15b0 := decide_eq_false c15; have c15b1 : decide (0 < x6_2.length) = false := decide_eq_false (by omega); clear c15; have H' := Az H; clear H; obtain ⟨Ao20, co20, eo20⟩ := Kd.R_slice HO_4.out; subst eo20; have p112 : 0 ≤ (x7_2 : Int) := oA; have q112 : x7_2 < (x4_2.length : Int) := oA; obtain ⟨ad112, e112, hx112_0⟩ := Kd.at_bool (Kd.R_reads' HO_4.out).2.2 x7_2 p112 q112; (try rw [← Nbq13.out] at hx112_0)
            cases e112
            replace p112 := eq_true p112; replace q112 := eq_true q112; obtain ⟨Ao21, co21, eo21⟩ := Kd.R_slice HO_6.out; subst eo21
            go_wp2
            (first | go_roundg k2 | (refine Handed.intro k2 ?measure ?_; rotate_left; go_step; (try simp only [add_plain]); (repeat apply Exists.intro); refine ⟨?rel, rfl⟩))
            case measure => have := HK1.out; have := HK2.out; omega
            case rel => exact ⟨(x3_1), (x4_2), (wrap64 (x14_1 + 1)), rS, H', ⟨by have := HK1.out; have := HK2.out; omega⟩, ⟨by (with_reducible repeat (first | apply Kd.S_alloc | apply Kd.S_drewN | apply Kd.S_drew)); exact Kd.S_mono HO_3.out (fun _ hk => trivial)⟩, ⟨rU HO_4.out⟩, ⟨bU0 HB.out⟩⟩
          ·
           replace c14 := Bool.eq_false_iff.mpr c14; subst c14
           have H1 : (if x6_2.length < 17592186044416 then (if x7_2 < (l0.length : Int) then (impl_cyclesOf.l1 k2 l0 x3_1 (x4_2.set (x7_2 : Int).toNat true) (x6_2 ++ [x7_2]) (rd l0 x7_2) (l0.length : Int) x14_1) else (none)) else (none)) = some r := by rw [if_neg (show ¬ (false = true) by decide)] at H; exact H
           clear H; have H := H1; clear H1; obtain ⟨y116, hy116⟩ : ∃ y_ : List Bool, y_ = (x4_2.set (x7_2 : Int).toNat true) := ⟨_, rfl⟩; replace H : (if x6_2.length < 17592186044416 then (if x7_2 < (l0.length : Int) then (impl_cyclesOf.l1 k2 l0 x3_1 y116 (x6_2 ++ [x7_2]) (rd l0 x7_2) (l0.length : Int) x14_1) else (none)) else (none)) = some r := hR hy116 H; have Ny116 := Az hy116; clear hy116
           by_cases c23 : x6_2.length < 17592186044416
           ·
            rw [if_pos c23] at H; have LMc23 := Az c23; clear c23; obtain ⟨y117, hy117⟩ : ∃ y_ : List Int, y_ = (x6_2 ++ [x7_2]) := ⟨_, rfl⟩; replace H : (if x7_2 < (l0.length : Int) then (impl_cyclesOf.l1 k2 l0 x3_1 y116 y117 (rd l0 x7_2) (l0.length : Int) x14_1) else (none)) = some r := hR hy117 H; have Ny117 := Az hy117; clear hy117
            by_cases c24 : x7_2 < (l0.length : Int)
            ·
             rw [if_pos c24] at H; have c24b0 := decide_eq_true c24; clear c24; have H' := Az H; clear H; obtain ⟨Ao25, co25, eo25⟩ := Kd.R_slice HO_4.out; subst eo25; have p112 : 0 ≤ (x7_2 : Int) := oA; have q112 : x7_2 < (x4_2.length : Int) := oA; obtain ⟨ad112, e112, hx112_0⟩ := Kd.at_bool (Kd.R_reads' HO_4.out).2.2 x7_2 p112 q112; (try rw [← Nbq13.out] at hx112_0)
             cases e112
             replace p112 := eq_true p112; replace q112 := eq_true q112; have p22 : 0 ≤ (x7_2 : Int) := oA; have q22 : (x7_2 : Int) < ((x4_2.length : Int) : Int) := oA; obtain ⟨go22, co22, eo22, gb22, gl22, cl22, HG22⟩ := Kd.R_form HO_4.out (by omega); (first | cases eo22 | (injection eo22 with ea_ en_ ec_; (first | subst ea_ | (injection ea_ with ea_; subst ea_)); subst ec_; clear en_)); have GB22 := Az gb22; have GG22 := Az HG22; clear gb22 gl22 HG22; (first | simp only [add_plain] at hx112_0 | skip); obtain ⟨hx22_0, hf22_0⟩ := Kd.R_celln false HO_4.out (x7_2 : Int) p22 q22; replace p22 := eq_true p22; replace q22 := eq_true q22; obtain ⟨hy26_, hz26_⟩ := Kd.R_celln false HO_4.out (x7_2 : Int) (oA) (oA); have HP26 := Kd.R_putg HO_4.out (x7_2 : Int) true
             go_wp2_with (first | ((with_reducible refine gate_store (t := 4) (p := 30) rfl ?_); refine store_event (t := 4) (p := 30) (v := ?vo_w27) (w1 := (wr.setCell ⟨go22, (x7_2 : Int).toNat, none⟩ (.bool true))) ?hg ?ho ?hn ?hr ?_; (case ho => rfl); (case hg => rfl); (case hn => rfl); (case hr => first | (go_simp; done) | (go_simp; rfl)); intro w27 hw; have hg : wr.grownBy w27 (some go22) := (by rw [hw]; exact HP26.2); have hp_ : Kd.R Kd.bool 4 w27 w.heap.size (fun _ => True) (.slice (some ⟨go22, 0, none⟩) x4_2.length co25) y116 := (by rw [hw, Ny116.out]; exact HP26.1); clear HP26; have n0 := Az (Kd.S_over' (v := (.slice (some ⟨go22, 0, none⟩) x4_2.length co25)) (sU HO_3.out) (Kd.R_typed HO_4.out) (by decide) hg); have n1 := Az (hp_); have n2 := Az (Kd.R_over' (v := (.slice (some ⟨go22, 0, none⟩) x4_2.length co25)) (rU HO_6.out) (Kd.R_typed HO_4.out) (by decide) hg); have n3 := Az ((by rw [hw]; exact below_set (HB.out) GB22.out : Below w.heap.size w w27)); clear HO_3 HO_4 HO_6 HB; have HO_3 := n0; have HO_4 := n1; have HO_6 := n2; have HB := n3; clear n0 n1 n2 n3; clear hg hw hp_) | ((with_reducible refine gate_builtin (b := .append) (xs := #[.tmp 31, .tmp 33]) rfl ?_); at_builtin; refine Kd.R_append (Kd.int .i64) (w0 := w) w.heap.size rfl (.tmp 31) (.tmp 33) 23 3 (.int .i64 0) 8 rfl Try.underlying23 info3 rfl (by decide) (by omega) u6 x6_2 x7_2 [.int .i64 x7_2] (fun _ => True) (fun _ => False) rfl rfl ?aP (fun _ hk => hk.elim) ?aF ?aO ?aB ?aS ?aL ?_; (case aP => exact rfl); (case aB => exact (bU0 HB.out)); (case aF => exact (fun _ _ => trivial)); (case aO => exact (rU HO_6.out)); (case aS => exact (below_size (bU0 HB.out))); (case aL => have := LMc23.out; omega); intro v118 w28 ho hb hg hat; rw [← Ny117.out] at ho; have n0 := Az (Kd.S_after (ok := (fun _ => True)) (by (with_reducible repeat (first | apply Kd.S_alloc | apply Kd.S_drewN | apply Kd.S_drew)); exact Kd.S_mono HO_3.out (fun _ hk => ⟨trivial, hk⟩)) hg hat); have n1 := Az (Kd.R_over' (rU HO_4.out) (Kd.R_typed (rU HO_6.out)) (by decide) hg); have n2 := Az (hb); have n3 := Az (ho); clear HO_3 HO_4 HB HO_6; have HO_3 := n0; have HO_4 := n1; have HB := n2; have HO119 := n3; clear n0 n1 n2 n3 ho hb hg hat; have p120 : 0 ≤ (x7_2 : Int) := oA; have q120 : x7_2 < (l0.length : Int) := oA; obtain ⟨ad120, e120, hx120_0⟩ := Kd.at_int HR0.out x7_2 p120 q120; cases e120; replace hx120_0 := (HB.out.cell (World.block_lt_of_cell? w _ hx120_0)).trans hx120_0; replace p120 := eq_true p120; replace q120 := eq_true q120))
             (first | go_roundg k2 | (refine Handed.intro k2 ?measure ?_; rotate_left; go_step; (try simp only [add_plain]); (repeat apply Exists.intro); refine ⟨?rel, rfl⟩))
             case measure => have := HK1.out; have := HK2.out; omega
             case rel => exact ⟨(y116), (y117), (rd l0 x7_2), rS, H', ⟨by have := HK1.out; have := HK2.out; omega⟩, ⟨by (with_reducible repeat (first | apply Kd.S_alloc | apply Kd.S_drewN | apply Kd.S_drew)); exact Kd.S_mono HO_3.out (fun _ hk => hk.2)⟩, ⟨rU HO_4.out⟩, ⟨rU HO119.out⟩, ⟨bU0 HB.out⟩⟩
            ·
             rw [if_neg c24] at H
             exact absurd H (by simp)
           ·
            rw [if_neg c23] at H
            exact absurd H (by simp)
         ·
          rw [if_neg c12] at H
          exact absurd H (by simp)
        ·
         rw [if_neg c11] at H
         exact absurd H (by simp)
     ·
      rw [if_neg c8] at H; have c8b0 := decide_eq_false c8; clear c8; obtain rfl := Option.some.inj H
      go_wp2
      go_ret
      exact ⟨_, rE, sU HO_3.out, bU0 HB.out⟩
  ·
   rw [if_neg c3] at H
   exact absurd H (by simp)
 ·
  rw [if_neg c2] at H
  exact absurd H (by simp)
def laysSort_ren : Go.Shelf.Ren := ⟨fun | 189 => 128 | 125 => 154 | 257 => 153 | 128 => 170 | 129 => 171 | 294 => 161 | 295 => 162 | 296 => 163 | 297 => 164 | 298 => 165 | 299 => 166 | 216 => 167 | 300 => 168 | 301 => 169 | 328 => 173 | 329 => 174 | 330 => 175 | 331 => 176 | 332 => 177 | 215 => 172 | 343 => 178 | n => n, fun | 28 => 23 | 3 => 3 | 46 => 108 | 0 => 0 | 51 => 120 | 53 => 122 | 4 => 4 | 183 => 114 | 182 => 113 | 131 => 82 | 5 => 5 | 9 => 9 | 218 => 123 | 222 => 127 | 228 => 129 | 229 => 130 | n => n, fun | n => n⟩
theorem laysSort : Lays.n189 Try.prog laysSort_ren := { mixed := by kernel_rfl, f125 := Try.func154.trans (congrArg some (by kernel_rfl)), f128 := Try.func170.trans (congrArg some (by kernel_rfl)), f129 := Try.func171.trans (congrArg some (by kernel_rfl)), f189 := Try.func128.trans (congrArg some (by kernel_rfl)), f215 := Try.func172.trans (congrArg some (by kernel_rfl)), f216 := Try.func167.trans (congrArg some (by kernel_rfl)), f257 := Try.func153.trans (congrArg some (by kernel_rfl)), f294 := Try.func161.trans (congrArg some (by kernel_rfl)), f295 := Try.func162.trans (congrArg some (by kernel_rfl)), f296 := Try.func163.trans (congrArg some (by kernel_rfl)), f297 := Try.func164.trans (congrArg some (by kernel_rfl)), f298 := Try.func165.trans (congrArg some (by kernel_rfl)), f299 := Try.func166.trans (congrArg some (by kernel_rfl)), f300 := Try.func168.trans (congrArg some (by kernel_rfl)), f301 := Try.func169.trans (congrArg some (by kernel_rfl)), f328 := Try.func173.trans (congrArg some (by kernel_rfl)), f329 := Try.func174.trans (congrArg some (by kernel_rfl)), f330 := Try.func175.trans (congrArg some (by kernel_rfl)), f331 := Try.func176.trans (congrArg some (by kernel_rfl)), f332 := Try.func177.trans (congrArg some (by kernel_rfl)), f343 := Try.func178.trans (congrArg some (by kernel_rfl)), t0 := Try.underlying0, a0 := Try.isAgg0, z0 := Try.sizeOf0, v0 := Try.zeroValue0, t3 := Try.underlying3, a3 := Try.isAgg3, z3 := Try.sizeOf3, v3 := Try.zeroValue3, t4 := Try.underlying4, a4 := Try.isAgg4, z4 := Try.sizeOf4, v4 := Try.zeroValue4, t5 := Try.underlying5, a5 := Try.isAgg5, z5 := Try.sizeOf5, v5 := Try.zeroValue5, t9 := Try.underlying9, a9 := Try.isAgg9, z9 := Try.sizeOf9, v9 := Try.zeroValue9, t28 := Try.underlying23, a28 := Try.isAgg23, z28 := Try.sizeOf23, v28 := Try.zeroValue23, t46 := Try.underlying108, a46 := Try.isAgg108, z46 := Try.sizeOf108, v46 := Try.zeroValue108, t51 := Try.underlying120, a51 := Try.isAgg120, z51 := Try.sizeOf120, v51 := Try.zeroValue120, t53 := Try.underlying122, a53 := Try.isAgg122, z53 := Try.sizeOf122, v53 := Try.zeroValue122, t131 := Try.underlying82, a131 := Try.isAgg82, z131 := Try.sizeOf82, v131 := Try.zeroValue82, t182 := Try.underlying113, a182 := Try.isAgg113, z182 := Try.sizeOf113, v182 := Try.zeroValue113, t183 := Try.underlying114, a183 := Try.isAgg114, z183 := Try.sizeOf114, v183 := Try.zeroValue114, t218 := Try.underlying123, a218 := Try.isAgg123, z218 := Try.sizeOf123, v218 := Try.zeroValue123, t222 := Try.underlying127, a222 := Try.isAgg127, z222 := Try.sizeOf127, v222 := Try.zeroValue127, t228 := Try.underlying129, a228 := Try.isAgg129, z228 := Try.sizeOf129, v228 := Try.zeroValue129, t229 := Try.underlying130, a229 := Try.isAgg130, z229 := Try.sizeOf130, v229 := Try.zeroValue130 }
def slices_Sort_int_int.f (l0 : List Int) : Option (List Int) := if 0 < l0.length ∧ l0.length < 4611686018427387904 then some (l0.mergeSort fun x y => decide (x ≤ y)) else none
theorem slices_Sort_int_int.calls (P0_ : Nat → Prop) (u9000_ : Value) (l0 : List Int) (r : List Int) (w0 w : World) (hB : Below w0.heap.size w0 w) (ho0 : Kd.R (Kd.int .i64) 3 w w0.heap.size P0_ u9000_ l0) (h : slices_Sort_int_int.f l0 = some r) :
  Calls Try.prog 128 #[u9000_] w fun e w' => e = .returned (.tuple #[]) ∧ Kd.R (Kd.int .i64) 3 w' w0.heap.size (fun k_ => (P0_ k_ ∨ w.heap.size ≤ k_)) u9000_ r ∧ Below w0.heap.size w0 w' ∧ Kept w w' (fun k_ => P0_ k_) := by
 unfold slices_Sort_int_int.f at h
 split at h
 ·
  rename_i hn
  obtain rfl := Option.some.inj h; have ow := Kd.own_of_R ho0; obtain ⟨hlen, ⟨_, h0⟩ | ⟨g, cap, cur, hv, hbase, hb, h1, h2, h3, h4⟩⟩ := ow
  ·
   omega
  subst hv; have hg : g < w.heap.size := (Array.getElem?_eq_some_iff.1 hb).1; have hP : P0_ g := ho0.1 g rfl; have hH := holds_of_blockI (ss := l0) hb (by rw [← Nat.mul_one l0.length, h4]; rfl)
  refine (Any.slices_Sort_int laysSort g 0 cap l0 w hH hg hn.2).mono ?_
  rintro e w' ⟨rfl, n, os, rfl⟩
  have hgr := grownBy_sortedI (w := w) (g := g) (n := n) (os := os) (l0.mergeSort fun x y => decide (x ≤ y)).toArray; have hl : (l0.mergeSort fun x y => decide (x ≤ y)).length = l0.length := List.length_mergeSort _; have own := ownsRow_sortedI (n := n) (os := os) (ts := l0.mergeSort fun x y => decide (x ≤ y)) hl hbase hb h1 h2 (by rw [h3])
  refine ⟨rfl, ?_, ?_, ?_⟩
  ·
   refine Kd.R_of_own ?_ (fun k hk => .inl ?_)
   ·
    rw [hl]
    exact own
   ·
    have : g = k := Option.some.inj hk; rw [← this]
    exact hP
  ·
   exact hB.grown hgr (by have := hB.size; omega) (fun k hk => by have := Option.some.inj hk; omega)
  ·
   exact Kept.of_grown hgr (Kept.refl w _) (fun k hk => .inl (by have := Option.some.inj hk; rw [← this]; exact hP))
 ·
  cases h
def slices_Reverse_int_int.l0 : Nat → List Int → Int → Int → Option (List Int)
 | 0, _, _, _ => none
 | k + 1, x0, x2, x3 => if x2 < x3 then (if 0 ≤ x3 then (if x3 < (x0.length : Int) then (if 0 ≤ x2 then (if x2 < (x0.length : Int) then (slices_Reverse_int_int.l0 k ((x0.set (x2 : Int).toNat (rd x0 x3)).set (x3 : Int).toNat (rd x0 x2)) (wrap64 (x2 + 1)) (wrap64 (x3 - 1))) else (none)) else (none)) else (none)) else (none)) else (some x0)
def slices_Reverse_int_int.f (k : Nat) (l0 : List Int) : Option (List Int) := slices_Reverse_int_int.l0 k l0 0 (wrap64 ((l0.length : Int) - 1))
def slices_Reverse_int_int.T3 : Bool × List (List Nat × List Nat) := (true, [([], []), ([], []), ([], []), ([], []), ([], []), ([], []), ([4, 5], [4, 5]), ([6], [6]), ([], []), ([], []), ([8, 9], [8, 9]), ([10], [10]), ([0, 1, 0, 1, 4, 5, 6, 7, 11], [0, 1]), ([12, 7, 0, 1, 4, 5, 6, 7, 11], [7, 12]), ([2, 3, 0, 1, 2, 3, 4, 5, 6, 7, 8, 9, 10, 11, 12, 13], [2, 3]), ([14, 11, 13, 0, 1, 2, 3, 4, 5, 6, 7, 8, 9, 10, 11, 12, 13], [11, 14])])
def slices_Reverse_int_int.B3 : List Nat := [0, 0, 0, 0, 0, 0, 48, 112, 0, 0, 768, 1792, 4083, 8179, 16383, 32767]
theorem slices_Reverse_int_int.tab3 : rtab .any (opsOf Try.f129 3) = slices_Reverse_int_int.T3 := by kernel_rfl
theorem slices_Reverse_int_int.bits3 : waitsOk slices_Reverse_int_int.T3.2 slices_Reverse_int_int.B3 = true := by kernel_rfl
set_option maxHeartbeats 8000000 in
set_option maxRecDepth 100000 in
theorem slices_Reverse_int_int.calls (k : Nat) (P0_ : Nat → Prop) (u9000_ : Value) (l0 : List Int) (r : List Int) (w0 w : World) (hB : Below w0.heap.size w0 w) (ho0 : Kd.R (Kd.int .i64) 3 w w0.heap.size P0_ u9000_ l0) (h : slices_Reverse_int_int.f k l0 = some r) :
  Calls Try.prog 129 #[u9000_] w fun e w' => e = .returned (.tuple #[]) ∧ Kd.R (Kd.int .i64) 3 w' w0.heap.size (fun k_ => (P0_ k_ ∨ w.heap.size ≤ k_)) u9000_ r ∧ Below w0.heap.size w0 w' ∧ Kept w w' (fun k_ => P0_ k_) := by
 have HO0 := Az (show Kd.R (Kd.int .i64) 3 w w0.heap.size (fun k_ => (P0_ k_ ∨ w.heap.size ≤ k_)) u9000_ l0 from Kd.R_mono ho0 (fun k_ hk => (.inl hk))); have HK := Az (Kept.refl w (fun k_ => P0_ k_)); have HW0 := Az hB.size; have HB := Az hB; clear hB; have H : (slices_Reverse_int_int.l0 k l0 0 (wrap64 ((l0.length : Int) - 1))) = some r := h; clear h; have H' := Az H; clear H; obtain ⟨Ao2, co2, eo2⟩ := Kd.R_slice HO0.out; subst eo2
 go_enter Try.func129, Try.ntmps129
 go_wp2
 go_loopg [2, 3] k (fun kq v2 v3 w' => ∃ (x0_1 : List Int) (x2_1 : Int) (x3_1 : Int), v2 = .int .i64 x2_1 ∧ v3 = .int .i64 x3_1 ∧ Aside0 (slices_Reverse_int_int.l0 kq x0_1 x2_1 x3_1 = some r) ∧ Aside0 (kq ≤ k) ∧ Aside0 (Kd.R (Kd.int .i64) 3 w' w0.heap.size (fun k_ => (P0_ k_ ∨ w.heap.size ≤ k_)) (.slice Ao2 l0.length co2) x0_1) ∧ Aside0 (Kept w w' (fun k_ => P0_ k_)) ∧ Aside0 (Below w0.heap.size w0 w'))
 case atStart => exact ⟨(l0), (0), (wrap64 ((l0.length : Int) - 1)), rS, rS, H', ⟨Nat.le_refl _⟩, ⟨rU HO0.out⟩, ⟨by repeat (first | (with_reducible first | exact HK.out | apply Kept.alloc | apply Kept.drewN | apply Kept.drew) | exact HK.out)⟩, ⟨bU0 HB.out⟩⟩
 case round =>
  clear H'; (try clear c1); (try clear p2); obtain ⟨x0_1, x2_1, x3_1, rfl, rfl, HA, HK1, HO_0, HK, HB⟩ := hrel; have hl0_1 := (Kd.R_reads' HO_0.out).1; rw [hl0_1] at HO_0; (try simp only [hl0_1])
  cases gk with
  | zero => exact absurd HA.out (by simp [slices_Reverse_int_int.l0])
  | succ k1 =>
   have H := HA.out; clear HA; simp only [slices_Reverse_int_int.l0] at H
   by_cases c3 : x2_1 < x3_1
   ·
    rw [if_pos c3] at H; have c3b0 := decide_eq_true c3; clear c3
    by_cases c4 : 0 ≤ x3_1
    ·
     rw [if_pos c4] at H; have c4b0 := decide_eq_true c4; clear c4
     by_cases c5 : x3_1 < (x0_1.length : Int)
     ·
      rw [if_pos c5] at H; have c5b0 := decide_eq_true c5; (try (have c5b0hl0_1 := c5b0; rw [hl0_1] at c5b0hl0_1)); clear c5
      by_cases c6 : 0 ≤ x2_1
      ·
       rw [if_pos c6] at H; have c6b0 := decide_eq_true c6; clear c6
       by_cases c7 : x2_1 < (x0_1.length : Int)
       ·
        rw [if_pos c7] at H; have c7b0 := decide_eq_true c7; (try (have c7b0hl0_1 := c7b0; rw [hl0_1] at c7b0hl0_1)); clear c7; obtain ⟨y245, hy245⟩ : ∃ y_ : List Int, y_ = (x0_1.set (x2_1 : Int).toNat (rd x0_1 x3_1)) := ⟨_, rfl⟩; replace H : (slices_Reverse_int_int.l0 k1 (y245.set (x3_1 : Int).toNat (rd x0_1 x2_1)) (wrap64 (x2_1 + 1)) (wrap64 (x3_1 - 1))) = some r := hR hy245 H; have Ny245 := Az hy245; clear hy245; obtain ⟨y246, hy246⟩ : ∃ y_ : List Int, y_ = (y245.set (x3_1 : Int).toNat (rd x0_1 x2_1)) := ⟨_, rfl⟩; replace H : (slices_Reverse_int_int.l0 k1 y246 (wrap64 (x2_1 + 1)) (wrap64 (x3_1 - 1))) = some r := hR hy246 H; have Ny246 := Az hy246; clear hy246; have H' := Az H; clear H
        try go_wp2
        have n0 := Az (Kd.R_drew HO_0.out); have n1 := Az (Kept.drew HK.out); have n2 := Az (below_drew1 HB.out); clear HO_0 HK HB; have HO_0 := n0; have HK := n1; have HB := n2; clear n0 n1 n2; have p243 : 0 ≤ (x3_1 : Int) := oA; have q243 : x3_1 < (x0_1.length : Int) := oA; obtain ⟨ad243, e243, hx243_0⟩ := Kd.at_int (Kd.R_reads' HO_0.out).2.2 x3_1 p243 q243
        cases e243
        replace p243 := eq_true p243; replace q243 := eq_true q243; have p244 : 0 ≤ (x2_1 : Int) := oA; have q244 : x2_1 < (x0_1.length : Int) := oA; obtain ⟨ad244, e244, hx244_0⟩ := Kd.at_int (Kd.R_reads' HO_0.out).2.2 x2_1 p244 q244; obtain rfl : ad243 = ad244 := (by injection e244); replace p244 := eq_true p244; replace q244 := eq_true q244; have p8 : 0 ≤ (x2_1 : Int) := oA; have q8 : (x2_1 : Int) < ((x0_1.length : Int) : Int) := oA; obtain ⟨go8, co8, eo8, gb8, gl8, cl8, HG8⟩ := Kd.R_form HO_0.out (by omega); (first | cases eo8 | (injection eo8 with ea_ en_ ec_; (first | subst ea_ | (injection ea_ with ea_; subst ea_)); subst ec_; clear en_)); have GB8 := Az gb8; have GG8 := Az HG8; clear gb8 gl8 HG8; have HMgo8 := Az (show (P0_ go8 ∨ w.heap.size ≤ go8) from (HO_0.out.1 _ rfl)); (first | simp only [add_plain] at hx243_0 | skip); (first | simp only [add_plain] at hx244_0 | skip); obtain ⟨hx8_0, hf8_0⟩ := Kd.R_celln 0 HO_0.out (x2_1 : Int) p8 q8; replace p8 := eq_true p8; replace q8 := eq_true q8; have HP11 := Kd.R_putn HO_0.out (x2_1 : Int) (rd x0_1 x3_1); rw [← Ny245.out] at HP11; have HQ11 := Az HP11; clear HP11; have p9 : 0 ≤ (x3_1 : Int) := oA; have q9 : (x3_1 : Int) < ((x0_1.length : Int) : Int) := oA; obtain ⟨hx9_0, hf9_0⟩ := Kd.R_celln 0 HQ11.out (x3_1 : Int) p9 q9; replace p9 := eq_true p9; replace q9 := eq_true q9; have HP12 := Kd.R_putn HQ11.out (x3_1 : Int) (rd x0_1 x2_1); rw [← Ny246.out] at HP12; have HQ12 := Az HP12; clear HP12
        refine start_ (n := 16) (S := fun w' => w'.cell? ⟨go8, (x3_1).toNat, none⟩ = some (.int .i64 (rd x0_1 x3_1)) ∧ w'.cell? ⟨go8, (x2_1).toNat, none⟩ = some (.int .i64 (rd x0_1 x2_1))) (ds := [13, 15]) #[false, false, false, false, false, false, false, false, false, false, false, false, false, false, false, false] (by kernel_rfl) rfl rfl ⟨hx243_0, hx244_0⟩ (fun hHeld => ?_); refine with_tabW slices_Reverse_int_int.tab3 slices_Reverse_int_int.bits3 (fun HT_ HW_ => ?_)
        generalize wr.drew = w10 at HO_0 HK HB GG8 HQ11 HQ12 hf8_0 hf9_0 hx243_0 hx244_0 hx8_0 hx9_0 hHeld ⊢
        refine pure_ (i := 0) (N := some 14) (v := ?_) (a' := ?_) #[true, false, false, false, false, false, false, false, false, false, false, false, false, false, false, false] rfl rfl (any_of HT_.out (by kernel_rfl)) (fun _ _ _ h => h) (Or.inl ⟨by rfl, ?_⟩) ?_ ?_
        rotate_left
        ·
         intro w'
         go_simp
         with_reducible rfl
        rotate_left
        ·
         simp only [Act.put, List.setIfInBounds_toArray, List.set_cons_zero, List.set_cons_succ, i64_w, i32_w]
         rfl
        refine pure_ (i := 1) (N := some 15) (v := ?_) (a' := ?_) #[true, true, false, false, false, false, false, false, false, false, false, false, false, false, false, false] rfl rfl (any_of HT_.out (by kernel_rfl)) (fun _ _ _ h => h) (Or.inl ⟨by rfl, ?_⟩) ?_ ?_
        rotate_left
        ·
         intro w'
         go_simp
         with_reducible rfl
        rotate_left
        ·
         simp only [Act.put, List.setIfInBounds_toArray, List.set_cons_zero, List.set_cons_succ, i64_w, i32_w]
         rfl
        refine pure_ (i := 2) (N := some 16) (v := ?_) (a' := ?_) #[true, true, true, false, false, false, false, false, false, false, false, false, false, false, false, false] rfl rfl (any_of HT_.out (by kernel_rfl)) (fun _ _ _ h => h) (Or.inl ⟨by rfl, ?_⟩) ?_ ?_
        rotate_left
        ·
         intro w'
         go_simp
         with_reducible rfl
        rotate_left
        ·
         simp only [Act.put, List.setIfInBounds_toArray, List.set_cons_zero, List.set_cons_succ, i64_w, i32_w]
         rfl
        refine pure_ (i := 3) (N := some 17) (v := ?_) (a' := ?_) #[true, true, true, true, false, false, false, false, false, false, false, false, false, false, false, false] rfl rfl (any_of HT_.out (by kernel_rfl)) (fun _ _ _ h => h) (Or.inl ⟨by rfl, ?_⟩) ?_ ?_
        rotate_left
        ·
         intro w'
         go_simp
         with_reducible rfl
        rotate_left
        ·
         simp only [Act.put, List.setIfInBounds_toArray, List.set_cons_zero, List.set_cons_succ, i64_w, i32_w]
         rfl
        refine pure_ (i := 4) (N := some 18) (v := ?_) (a' := ?_) #[true, true, true, true, true, false, false, false, false, false, false, false, false, false, false, false] rfl rfl (any_of HT_.out (by kernel_rfl)) (fun _ _ _ h => h) (Or.inl ⟨by rfl, ?_⟩) ?_ ?_
        rotate_left
        ·
         intro w'
         go_simp
         with_reducible rfl
        rotate_left
        ·
         simp only [Act.put, List.setIfInBounds_toArray, List.set_cons_zero, List.set_cons_succ, i64_w, i32_w]
         rfl
        refine pure_ (i := 5) (N := some 19) (v := ?_) (a' := ?_) #[true, true, true, true, true, true, false, false, false, false, false, false, false, false, false, false] rfl rfl (any_of HT_.out (by kernel_rfl)) (fun _ _ _ h => h) (Or.inl ⟨by rfl, ?_⟩) ?_ ?_
        rotate_left
        ·
         intro w'
         go_simp
         with_reducible rfl
        rotate_left
        ·
         simp only [Act.put, List.setIfInBounds_toArray, List.set_cons_zero, List.set_cons_succ, i64_w, i32_w]
         rfl
        refine pure_ (i := 6) (N := some 20) (v := ?_) (a' := ?_) #[true, true, true, true, true, true, true, false, false, false, false, false, false, false, false, false] rfl rfl (any_of HT_.out (by kernel_rfl)) (fun _ _ _ h => h) (Or.inl ⟨by rfl, ?_⟩) ?_ ?_
        rotate_left
        ·
         intro w'
         go_simp
         with_reducible rfl
        rotate_left
        ·
         simp only [Act.put, List.setIfInBounds_toArray, List.set_cons_zero, List.set_cons_succ, i64_w, i32_w]
         rfl
        refine pure_ (i := 8) (N := some 22) (v := ?_) (a' := ?_) #[true, true, true, true, true, true, true, false, true, false, false, false, false, false, false, false] rfl rfl (any_of HT_.out (by kernel_rfl)) (fun _ _ _ h => h) (Or.inl ⟨by rfl, ?_⟩) ?_ ?_
        rotate_left
        ·
         intro w'
         go_simp
         with_reducible rfl
        rotate_left
        ·
         simp only [Act.put, List.setIfInBounds_toArray, List.set_cons_zero, List.set_cons_succ, i64_w, i32_w]
         rfl
        refine pure_ (i := 9) (N := some 23) (v := ?_) (a' := ?_) #[true, true, true, true, true, true, true, false, true, true, false, false, false, false, false, false] rfl rfl (any_of HT_.out (by kernel_rfl)) (fun _ _ _ h => h) (Or.inl ⟨by rfl, ?_⟩) ?_ ?_
        rotate_left
        ·
         intro w'
         go_simp
         with_reducible rfl
        rotate_left
        ·
         simp only [Act.put, List.setIfInBounds_toArray, List.set_cons_zero, List.set_cons_succ, i64_w, i32_w]
         rfl
        refine pure_ (i := 10) (N := some 24) (v := ?_) (a' := ?_) #[true, true, true, true, true, true, true, false, true, true, true, false, false, false, false, false] rfl rfl (any_of HT_.out (by kernel_rfl)) (fun _ _ _ h => h) (Or.inl ⟨by rfl, ?_⟩) ?_ ?_
        rotate_left
        ·
         intro w'
         go_simp
         with_reducible rfl
        rotate_left
        ·
         simp only [Act.put, List.setIfInBounds_toArray, List.set_cons_zero, List.set_cons_succ, i64_w, i32_w]
         rfl
        refine take_ (i := 7) (N := some 21) (v := ?_) (a' := ?_) #[true, true, true, true, true, true, true, true, true, true, true, false, false, false, false, false] rfl rfl (take_ofW HT_.out HW_.out (by kernel_rfl)) (fun _ _ _ h => h) (Or.inl ⟨by rfl, ?_⟩) hHeld ?_ ?_
        rotate_left
        ·
         rintro w' ⟨s0, s1⟩
         go_simp
         with_reducible rfl
        rotate_left
        ·
         simp only [Act.put, List.setIfInBounds_toArray, List.set_cons_zero, List.set_cons_succ, i64_w, i32_w]
         rfl
        refine take_ (i := 11) (N := some 25) (v := ?_) (a' := ?_) #[true, true, true, true, true, true, true, true, true, true, true, true, false, false, false, false] rfl rfl (take_ofW HT_.out HW_.out (by kernel_rfl)) (fun _ _ _ h => h) (Or.inl ⟨by rfl, ?_⟩) hHeld ?_ ?_
        rotate_left
        ·
         rintro w' ⟨s0, s1⟩
         go_simp
         with_reducible rfl
        rotate_left
        ·
         simp only [Act.put, List.setIfInBounds_toArray, List.set_cons_zero, List.set_cons_succ, i64_w, i32_w]
         rfl
        refine pure_ (i := 12) (N := some 26) (v := ?_) (a' := ?_) #[true, true, true, true, true, true, true, true, true, true, true, true, true, false, false, false] rfl rfl (any_of HT_.out (by kernel_rfl)) (fun _ _ _ h => h) (Or.inl ⟨by rfl, ?_⟩) ?_ ?_
        rotate_left
        ·
         intro w'
         go_simp
         with_reducible rfl
        rotate_left
        ·
         simp only [Act.put, List.setIfInBounds_toArray, List.set_cons_zero, List.set_cons_succ, i64_w, i32_w]
         rfl
        refine last_ (i := 13) (N := none) #[true, true, true, true, true, true, true, true, true, true, true, true, true, true, false, false] rfl rfl (one_of HT_.out (by kernel_rfl)) (by decide) (fun K hK => ?_)
        refine skip_ (w1 := ?_) (by rfl) rfl ?_ ?_
        rotate_left
        ·
         go_simp
         rfl
        refine hK.out _ _ ?_
        clear hK K
        refine pure_ (i := 14) (N := some 27) (v := ?_) (a' := ?_) #[true, true, true, true, true, true, true, true, true, true, true, true, true, true, true, false] rfl rfl (any_of HT_.out (by kernel_rfl)) (fun _ _ _ h => h) (Or.inl ⟨by rfl, ?_⟩) ?_ ?_
        rotate_left
        ·
         intro w'
         go_simp
         with_reducible rfl
        rotate_left
        ·
         simp only [Act.put, List.setIfInBounds_toArray, List.set_cons_zero, List.set_cons_succ, i64_w, i32_w]
         rfl
        refine last_ (i := 15) (N := none) #[true, true, true, true, true, true, true, true, true, true, true, true, true, true, true, true] rfl rfl (one_of HT_.out (by kernel_rfl)) (by decide) (fun K hK => ?_)
        refine skip_ (w1 := ?_) (by rfl) rfl ?_ ?_
        rotate_left
        ·
         go_simp
         rfl
        refine hK.out _ _ ?_
        clear hK K
        refine done_ (done_of HT_.out (by kernel_rfl)) ?_
        try go_wp2
        (try simp only [← hl0_1]); (first | go_roundg k1 | (refine Handed.intro k1 ?measure ?_; rotate_left; go_step; (try simp only [add_plain]); (repeat apply Exists.intro); refine ⟨?rel, rfl⟩))
        case measure => have := HK1.out; omega
        case rel => exact ⟨(y246), (wrap64 (x2_1 + 1)), (wrap64 (x3_1 - 1)), rS, rS, H', ⟨by have := HK1.out; omega⟩, ⟨by (try simp only [hl0_1]); (with_reducible repeat (first | apply Kd.R_alloc | apply Kd.R_drewN | apply Kd.R_drew)); exact HQ12.out⟩, ⟨by repeat (first | (with_reducible first | exact HK.out | apply Kept.alloc | apply Kept.drewN | apply Kept.drew | refine Kept.setCell ?_ HMgo8.out _ | refine Kept.setCell ?_ HMgo8.out _) | exact HK.out)⟩, ⟨bU2 HB.out GB8.out GB8.out⟩⟩
       ·
        rw [if_neg c7] at H
        exact absurd H (by simp)
      ·
       rw [if_neg c6] at H
       exact absurd H (by simp)
     ·
      rw [if_neg c5] at H
      exact absurd H (by simp)
    ·
     rw [if_neg c4] at H
     exact absurd H (by simp)
   ·
    rw [if_neg c3] at H; have c3b0 := decide_eq_false c3; clear c3; obtain rfl := Option.some.inj H
    go_wp2
    first | go_end0 | ((try simp only [Exit.inBlock, Exit.then]); refine bodyPost_ret (results_none rfl _ _ _) rfl ?_)
    exact ⟨rE, (by first | exact (rU HO_0.out) | (simp only [hl0_1]; exact (rU HO_0.out))), bU0 HB.out, by repeat (first | (with_reducible first | exact HK.out | apply Kept.alloc | apply Kept.drewN | apply Kept.drew) | exact HK.out)⟩
def impl_typeOf.l0 : Nat → List Int → List (List Int) → Int → Int → Option (List Int)
 | 0, _, _, _, _ => none
 | k + 1, x3, x8, x9, x10 => if x10 < x9 then (if 0 ≤ x10 then (if x10 < (x8.length : Int) then (if x3.length < 17592186044416 then (impl_typeOf.l0 k (x3 ++ [((rd_L1 x8 x10).length : Int)]) x8 x9 (wrap64 (x10 + 1))) else (none)) else (none)) else (none)) else ((slices_Sort_int_int.f x3).bind fun t257 => ((slices_Reverse_int_int.f k t257).bind fun t258 => (some t258)))
def impl_typeOf.f (k : Nat) (l0 : List Int) : Option (List Int) := (impl_cyclesOf.f k l0).bind fun t250 => (impl_typeOf.l0 k (([] : List Int)) t250 (t250.length : Int) 0)
set_option maxHeartbeats 8000000 in
set_option maxRecDepth 100000 in
theorem impl_typeOf.calls (k : Nat) (A0 : Option Addr) (c0 : Nat) (l0 : List Int) (r : List Int) (w : World) (hr0 : Kd.C (Kd.int .i64) w A0 l0.length l0) (hc0 : l0.length ≤ c0) (h : impl_typeOf.f k l0 = some r) :
  Calls Try.prog 86 #[.slice A0 l0.length c0] w fun e w' => ∃ v0_ : Value, e = .returned (v0_) ∧ Kd.R (Kd.int .i64) 3 w' w.heap.size (fun _ => True) v0_ r ∧ Below w.heap.size w w' := by
 have HR0 := Az hr0; have HC0 := Az hc0; clear hr0 hc0; have HB := Az (Below.refl w.heap.size w); have H : ((impl_cyclesOf.f k l0).bind fun t250 => (impl_typeOf.l0 k (([] : List Int)) t250 (t250.length : Int) 0)) = some r := h; clear h; obtain ⟨y247, hy247⟩ : ∃ y_ : List Int, y_ = (([] : List Int)) := ⟨_, rfl⟩; replace H : ((impl_cyclesOf.f k l0).bind fun t250 => (impl_typeOf.l0 k y247 t250 (t250.length : Int) 0)) = some r := hR hy247 H; have Ny247 := Az hy247; clear hy247; replace H := Option.bind_eq_some_iff.mp H; obtain ⟨t250, A20, H⟩ := H; replace H : (impl_typeOf.l0 k y247 t250 (t250.length : Int) 0) = some r := H; have A2 := Az A20; clear A20; have H' := Az H; clear H
 go_enter Try.func86, Try.ntmps86
 go_wp2_with (first | ((with_reducible refine gate_dst (N := 6) rfl ?_); refine Kd.R_lit (Kd.int .i64) _ 3 ?hg (N := 6) ?hd (xs := ([] : List Int)) (inner := []) (ok := fun _ => True) (okp := fun _ => True) ?hr ?hp (fun _ hk => hk) trivial (Below.refl _ _) (Nat.le_refl _) (by simp) ?_; (case hd => rfl); (case hg => rfl); (case hr => first | (go_simp; done) | (go_simp; rfl)); (case hp => exact (Reps.none _ _)); intro v248 w3 ho4 hb hg_ hnew_; clear hg_ hnew_; (first | rw [← Ny247.out] at ho4 | (simp only [Int.reduceToNat] at ho4; rw [← Ny247.out] at ho4)); have n0 := Az (Kd.R_lower ho4 (below_size (bU0 HB.out))); have n1 := Az (below_step (bU0 HB.out) hb); clear HB; have HO249 := n0; have HB := n1; clear n0 n1; clear hb ho4) | ((with_reducible refine gate_callee (f := 66) rfl ?_); refine goesL_ (some 8) rfl rfl Try.func66 (by kernel_rfl) rfl #[.slice A0 l0.length c0] rfl (by (try simp only [List.map_toArray, List.map_cons, List.map_nil]); first | done | rfl | (simp only [List.length_drop, List.length_take]; rfl)) ?_; (with_reducible refine (impl_cyclesOf.calls k _ _ l0 t250 _ ?side1 ?side2 A2.out).mono ?_); (case side1 => exact cU (Kd.C_below HR0.out HB.out)); (case side2 => exact HC0.out); rintro e w5 ⟨v251, rfl, ho0, hb⟩; refine ⟨_, rfl, ?_⟩; have n0 := Az (Kd.R_below (rU HO249.out) hb); have n1 := Az (Kd.S_lower (Kd.S_new' ho0 (Kd.R_lt (rU HO249.out))) (below_size (bU0 HB.out))); have n2 := Az (below_step (bU0 HB.out) hb); clear HO249 HB; have HO249 := n0; have HO252 := n1; have HB := n2; clear n0 n1 n2; (try clear hb); (try clear hb2); (try clear hk); (try clear hi); (try clear ho0); obtain ⟨Ao6, co6, eo6⟩ := Kd.S_slice HO252.out; subst eo6))
 go_loopg [3, 10] k (fun kq v3 v10 w' => ∃ (x3_1 : List Int) (x10_1 : Int), v10 = .int .i64 x10_1 ∧ Aside0 (impl_typeOf.l0 kq x3_1 t250 (t250.length : Int) x10_1 = some r) ∧ Aside0 (kq ≤ k) ∧ Aside0 (Kd.R (Kd.int .i64) 3 w' w.heap.size (fun _ => True) v3 x3_1) ∧ Aside0 (Kd.S (Kd.slice 3 (Kd.int .i64)) 23 w' w.heap.size (fun k_ => some k_ ≠ (v3 : Value).ownBlock) (.slice Ao6 t250.length co6) t250) ∧ Aside0 (Below w.heap.size w w'))
 case atStart => exact ⟨(y247), (0), rS, H', ⟨Nat.le_refl _⟩, ⟨rU HO249.out⟩, ⟨by (with_reducible repeat (first | apply Kd.S_alloc | apply Kd.S_drewN | apply Kd.S_drew)); exact Kd.S_mono HO252.out (fun _ hk => hk.2)⟩, ⟨bU0 HB.out⟩⟩
 case round =>
  clear H'; (try clear p2); (try clear c6); obtain ⟨x3_1, x10_1, rfl, HA, HK1, HO_3, HO_8, HB⟩ := hrel
  cases gk with
  | zero => exact absurd HA.out (by simp [impl_typeOf.l0])
  | succ k1 =>
   have H := HA.out; clear HA; simp only [impl_typeOf.l0] at H
   by_cases c7 : x10_1 < (t250.length : Int)
   ·
    rw [if_pos c7] at H; have c7b0 := decide_eq_true c7; clear c7
    by_cases c8 : 0 ≤ x10_1
    ·
     rw [if_pos c8] at H; have c8b0 := decide_eq_true c8; clear c8
     by_cases c9 : x10_1 < (t250.length : Int)
     ·
      rw [if_pos c9] at H; have c9b0 := decide_eq_true c9; clear c9
      by_cases c10 : x3_1.length < 17592186044416
      ·
       rw [if_pos c10] at H; have LMc10 := Az c10; clear c10; obtain ⟨y254, hy254⟩ : ∃ y_ : List Int, y_ = (x3_1 ++ [((rd_L1 t250 x10_1).length : Int)]) := ⟨_, rfl⟩; replace H : (impl_typeOf.l0 k1 y254 t250 (t250.length : Int) (wrap64 (x10_1 + 1))) = some r := hR hy254 H; have Ny254 := Az hy254; clear hy254; have H' := Az H; clear H; have p253 : 0 ≤ (x10_1 : Int) := oA; have q253 : x10_1 < (t250.length : Int) := oA; obtain ⟨ad253, A253_0, c253_0, e253, hx253_0, hl253_0, hi253_0⟩ := at_L1 (Kd.S_reads' HO_8.out).2.2 x10_1 p253 q253
       cases e253
       obtain ⟨ce253, hce253, hMe253, hcc253⟩ := Kd.S_get HO_8.out [] x10_1 p253 (by first | exact q253 | exact oA | (have e_ := (Kd.S_reads' HO_8.out).1; omega)); obtain ⟨ve253_0, rfl, ge253_0⟩ := hMe253; have hv253_0 := hcc253 0 _ rfl; rw [Nat.add_zero, show ((Kd.slice 3 (Kd.int .i64))).sz = 1 from rfl, Nat.mul_one] at hv253_0; replace hv253_0 := Option.some.inj (hv253_0.symm.trans hx253_0); rw [hv253_0] at ge253_0; have HL253_0 := Az (show Kd.R (Kd.int .i64) 3 _ _ _ _ (rd_L1 t250 x10_1) from ge253_0); clear hv253_0 ge253_0 hcc253 hce253; have HR253_0 := Az hi253_0; have HC253_0 := Az hl253_0; clear hi253_0 hl253_0; replace p253 := eq_true p253; replace q253 := eq_true q253
       go_wp2_with (first | ((with_reducible refine gate_builtin (b := .append) (xs := #[.tmp 14, .tmp 17]) rfl ?_); at_builtin; refine Kd.R_append (Kd.int .i64) (w0 := w) w.heap.size rfl (.tmp 14) (.tmp 17) 23 3 (.int .i64 0) 8 rfl Try.underlying23 info3 rfl (by decide) (by omega) u3 x3_1 ((rd_L1 t250 x10_1).length : Int) [.int .i64 ((rd_L1 t250 x10_1).length : Int)] (fun _ => True) (fun _ => False) rfl rfl ?aP (fun _ hk => hk.elim) ?aF ?aO ?aB ?aS ?aL ?_; (case aP => exact rfl); (case aB => exact (bU0 HB.out)); (case aF => exact (fun _ _ => trivial)); (case aO => exact (rU HO_3.out)); (case aS => exact (below_size (bU0 HB.out))); (case aL => have := LMc10.out; omega); intro v255 w11 ho hb hg hat; rw [← Ny254.out] at ho; have n0 := Az (Kd.S_after (ok := (fun _ => True)) (by (with_reducible repeat (first | apply Kd.S_alloc | apply Kd.S_drewN | apply Kd.S_drew)); exact Kd.S_mono HO_8.out (fun _ hk => ⟨trivial, hk⟩)) hg hat); have n1 := Az (Kd.R_after (ok := (fun k_ => some k_ ≠ (.slice (some ad253) t250.length co6 : Value).ownBlock)) (by (with_reducible repeat (first | apply Kd.R_alloc | apply Kd.R_drewN | apply Kd.R_drew)); exact Kd.R_mono HL253_0.out (fun _ hk => ⟨hk.2, hk.1⟩)) hg hat); have n2 := Az (hb); have n3 := Az (ho); clear HO_8 HL253_0 HB HO_3; have HO_8 := n0; have HL253_0 := n1; have HB := n2; have HO256 := n3; clear n0 n1 n2 n3; clear ho hb hg hat))
       (first | go_roundg k1 | (refine Handed.intro k1 ?measure ?_; rotate_left; go_step; (try simp only [add_plain]); (repeat apply Exists.intro); refine ⟨?rel, rfl⟩))
       case measure => have := HK1.out; omega
       case rel => exact ⟨(y254), (wrap64 (x10_1 + 1)), rS, H', ⟨by have := HK1.out; omega⟩, ⟨rU HO256.out⟩, ⟨by (with_reducible repeat (first | apply Kd.S_alloc | apply Kd.S_drewN | apply Kd.S_drew)); exact Kd.S_mono HO_8.out (fun _ hk => hk.2)⟩, ⟨bU0 HB.out⟩⟩
      ·
       rw [if_neg c10] at H
       exact absurd H (by simp)
     ·
      rw [if_neg c9] at H
      exact absurd H (by simp)
    ·
     rw [if_neg c8] at H
     exact absurd H (by simp)
   ·
    rw [if_neg c7] at H; have c7b0 := decide_eq_false c7; clear c7; replace H := Option.bind_eq_some_iff.mp H; obtain ⟨t257, A120, H⟩ := H; replace H : ((slices_Reverse_int_int.f k1 t257).bind fun t258 => (some t258)) = some r := H; have A12 := Az A120; clear A120; replace H := Option.bind_eq_some_iff.mp H; obtain ⟨t258, A130, H⟩ := H; replace H : (some t258) = some r := H; have A13 := Az A130; clear A130; obtain rfl := Option.some.inj H; obtain ⟨Ao14, co14, eo14⟩ := Kd.R_slice HO_3.out; subst eo14
    go_wp2_with (first | ((with_reducible refine gate_callee (f := 128) rfl ?_); refine goesL_ (some 21) rfl rfl Try.func128 (by kernel_rfl) rfl #[.slice Ao14 x3_1.length co14] rfl (by (try simp only [List.map_toArray, List.map_cons, List.map_nil]); first | done | rfl | (simp only [List.length_drop, List.length_take]; rfl)) ?_; (with_reducible refine (slices_Sort_int_int.calls (fun k_ => some k_ = (.slice Ao14 x3_1.length co14 : Value).ownBlock) (.slice Ao14 x3_1.length co14) x3_1 t257 w _ ?side1 ?side2 A12.out).mono ?_); (case side1 => repeat (first | (with_reducible first | exact HB.out | apply below_alloc | apply pw_below_drewN | apply below_drew1) | exact HB.out)); (case side2 => exact Kd.R_tight rfl HO_3.out); rintro e w15 ⟨rfl, hy0, hb, hkp⟩; refine ⟨_, rfl, ?_⟩; have n0 := Az (Kd.R_reok rfl hy0 (fun k_ e_ => HO_3.out.1 k_ e_)); have n1 := Az (Kd.S_mono (ok' := fun k_ => some k_ ≠ (.slice Ao14 x3_1.length co14 : Value).ownBlock) (Kd.S_keptB (HO_8.out) hkp (fun k_ hk_ hs_ => (hk_) hs_)) (fun k_ hk_ => hk_.1)); have n2 := Az (hb); clear HO_3 HO_8 HB; have HO_3 := n0; have HO_8 := n1; have HB := n2; clear n0 n1 n2; (try clear hb); (try clear hkp); (try clear hy0)) | ((with_reducible refine gate_callee (f := 129) rfl ?_); refine goesL_ (some 23) rfl rfl Try.func129 (by kernel_rfl) rfl #[.slice Ao14 x3_1.length co14] rfl (by (try simp only [List.map_toArray, List.map_cons, List.map_nil]); first | done | rfl | (simp only [List.length_drop, List.length_take]; rfl)) ?_; (with_reducible refine (slices_Reverse_int_int.calls k1 (fun k_ => some k_ = (.slice Ao14 x3_1.length co14 : Value).ownBlock) (.slice Ao14 x3_1.length co14) t257 t258 w _ ?side1 ?side2 A13.out).mono ?_); (case side1 => repeat (first | (with_reducible first | exact HB.out | apply below_alloc | apply pw_below_drewN | apply below_drew1) | exact HB.out)); (case side2 => exact Kd.R_tight rfl HO_3.out); rintro e w16 ⟨rfl, hy0, hb, hkp⟩; refine ⟨_, rfl, ?_⟩; have n0 := Az (Kd.R_reok rfl hy0 (fun k_ e_ => HO_3.out.1 k_ e_)); have n1 := Az (Kd.S_mono (ok' := fun k_ => some k_ ≠ (.slice Ao14 x3_1.length co14 : Value).ownBlock) (Kd.S_keptB (HO_8.out) hkp (fun k_ hk_ hs_ => (hk_) hs_)) (fun k_ hk_ => hk_.1)); have n2 := Az (hb); clear HO_3 HO_8 HB; have HO_3 := n0; have HO_8 := n1; have HB := n2; clear n0 n1 n2; (try clear hb); (try clear hkp); (try clear hy0)))
    go_ret
    exact ⟨_, rE, rU HO_3.out, bU0 HB.out⟩
def slices_Equal_int_int.l0 : Nat → List Int → List Int → Int → Int → Option (Bool)
 | 0, _, _, _, _ => none
 | k + 1, x0, x1, x12, x13 => if x13 < x12 then (if 0 ≤ x13 then (if x13 < (x0.length : Int) then (if x13 < (x1.length : Int) then (if (rd x0 x13) = (rd x1 x13) then (slices_Equal_int_int.l0 k x0 x1 x12 (wrap64 (x13 + 1))) else (some false)) else (none)) else (none)) else (none)) else (some true)
def slices_Equal_int_int.f (k : Nat) (l0 : List Int) (l1 : List Int) : Option (Bool) := if (l0.length : Int) = (l1.length : Int) then (slices_Equal_int_int.l0 k l0 l1 (l0.length : Int) 0) else (some false)
set_option maxHeartbeats 8000000 in
set_option maxRecDepth 100000 in
theorem slices_Equal_int_int.calls (k : Nat) (A0 : Option Addr) (c0 : Nat) (l0 : List Int) (A1 : Option Addr) (c1 : Nat) (l1 : List Int) (r : Bool) (w : World) (hr0 : Kd.C (Kd.int .i64) w A0 l0.length l0) (hc0 : l0.length ≤ c0) (hr1 : Kd.C (Kd.int .i64) w A1 l1.length l1) (hc1 : l1.length ≤ c1) (h : slices_Equal_int_int.f k l0 l1 = some r) :
  Calls Try.prog 105 #[.slice A0 l0.length c0, .slice A1 l1.length c1] w fun e w' => e = .returned (.bool r) ∧ Drawn0 w w' := by
 have HR0 := Az hr0; have HC0 := Az hc0; clear hr0 hc0; have HR1 := Az hr1; have HC1 := Az hc1; clear hr1 hc1; have H : (if (l0.length : Int) = (l1.length : Int) then (slices_Equal_int_int.l0 k l0 l1 (l0.length : Int) 0) else (some false)) = some r := h; clear h
 by_cases c3 : (l0.length : Int) = (l1.length : Int)
 ·
  rw [if_pos c3] at H; have c3b0 := beq_iff_eq.mpr c3; have c3b1 := bne_eq_false_iff_eq.mpr c3
  have c3b2 : (l0.length == l1.length) = true := by first | simpa using c3 | (simp at c3 ⊢; omega)
  clear c3; have H' := Az H; clear H
  go_enter Try.func105, Try.ntmps105
  go_wp2
  repeat (go_quiet (fail); try go_wp2)
  go_loopg [13] k (fun kq v13 w' => ∃ (x13_1 : Int), v13 = .int .i64 x13_1 ∧ Aside0 (slices_Equal_int_int.l0 kq l0 l1 (l0.length : Int) x13_1 = some r) ∧ Aside0 (kq ≤ k) ∧ Drawn0 w w')
  case atStart => exact ⟨(0), rS, H', ⟨Nat.le_refl _⟩, by repeat (first | exact Drawn0.refl _ | apply Drawn0.step)⟩
  case round =>
   clear H'; (try clear c1); (try clear p2); (try clear c3); (try clear c3b0); (try clear c3b1); (try clear c3b2); obtain ⟨x13_1, rfl, HA, HK1, ⟨m1, rfl⟩⟩ := hrel
   cases gk with
   | zero => exact absurd HA.out (by simp [slices_Equal_int_int.l0])
   | succ k1 =>
    have H := HA.out; clear HA; simp only [slices_Equal_int_int.l0] at H
    by_cases c4 : x13_1 < (l0.length : Int)
    ·
     rw [if_pos c4] at H; have c4b0 := decide_eq_true c4; clear c4
     by_cases c5 : 0 ≤ x13_1
     ·
      rw [if_pos c5] at H; have c5b0 := decide_eq_true c5; clear c5
      by_cases c6 : x13_1 < (l0.length : Int)
      ·
       rw [if_pos c6] at H; have c6b0 := decide_eq_true c6; clear c6
       by_cases c7 : x13_1 < (l1.length : Int)
       ·
        rw [if_pos c7] at H; have c7b0 := decide_eq_true c7; clear c7
        by_cases c8 : (rd l0 x13_1) = (rd l1 x13_1)
        ·
         rw [if_pos c8] at H; have c8b0 := beq_iff_eq.mpr c8; have c8b1 := bne_eq_false_iff_eq.mpr c8; clear c8; have H' := Az H; clear H; have p259 : 0 ≤ (x13_1 : Int) := oA; have q259 : x13_1 < (l0.length : Int) := oA; obtain ⟨ad259, e259, hx259_0⟩ := Kd.at_int HR0.out x13_1 p259 q259
         cases e259
         replace p259 := eq_true p259; replace q259 := eq_true q259; have p260 : 0 ≤ (x13_1 : Int) := oA; have q260 : x13_1 < (l1.length : Int) := oA; obtain ⟨ad260, e260, hx260_0⟩ := Kd.at_int HR1.out x13_1 p260 q260
         cases e260
         replace p260 := eq_true p260; replace q260 := eq_true q260
         go_wp2
         repeat (go_quiet (fail); try go_wp2)
         (first | go_roundg k1 | (refine Handed.intro k1 ?measure ?_; rotate_left; go_step; (try simp only [add_plain]); (repeat apply Exists.intro); refine ⟨?rel, rfl⟩))
         case measure => have := HK1.out; omega
         case rel => exact ⟨(wrap64 (x13_1 + 1)), rS, H', ⟨by have := HK1.out; omega⟩, by repeat (first | exact Drawn0.refl _ | apply Drawn0.step)⟩
        ·
         rw [if_neg c8] at H; have c8b0 := beq_eq_false_iff_ne.mpr c8; have c8b1 := bne_iff_ne.mpr c8; obtain rfl := Option.some.inj H; have p259 : 0 ≤ (x13_1 : Int) := oA; have q259 : x13_1 < (l0.length : Int) := oA; obtain ⟨ad259, e259, hx259_0⟩ := Kd.at_int HR0.out x13_1 p259 q259
         cases e259
         replace p259 := eq_true p259; replace q259 := eq_true q259; have p260 : 0 ≤ (x13_1 : Int) := oA; have q260 : x13_1 < (l1.length : Int) := oA; obtain ⟨ad260, e260, hx260_0⟩ := Kd.at_int HR1.out x13_1 p260 q260
         cases e260
         replace p260 := eq_true p260; replace q260 := eq_true q260
         go_wp2
         repeat (go_quiet (fail); try go_wp2)
         go_ret
         exact ⟨by first | rfl | (simp; done) | (simp [*]; done), by repeat (first | exact Drawn0.refl _ | apply Drawn0.step)⟩
       ·
        rw [if_neg c7] at H
        exact absurd H (by simp)
      ·
       rw [if_neg c6] at H
       exact absurd H (by simp)
     ·
      rw [if_neg c5] at H
      exact absurd H (by simp)
    ·
     rw [if_neg c4] at H; have c4b0 := decide_eq_false c4; clear c4; obtain rfl := Option.some.inj H
     go_wp2
     repeat (go_quiet (fail); try go_wp2)
     go_ret
     exact ⟨by first | rfl | (simp; done) | (simp [*]; done), by repeat (first | exact Drawn0.refl _ | apply Drawn0.step)⟩
 ·
  rw [if_neg c3] at H; have c3b0 := beq_eq_false_iff_ne.mpr c3; have c3b1 := bne_iff_ne.mpr c3
  have c3b2 : (l0.length == l1.length) = false := by first | simpa using c3 | (simp at c3 ⊢; omega)
  obtain rfl := Option.some.inj H
  go_enter Try.func105, Try.ntmps105
  go_wp2
  repeat (go_quiet (fail); try go_wp2)
  go_ret
  exact ⟨by first | rfl | (simp; done) | (simp [*]; done), by repeat (first | exact Drawn0.refl _ | apply Drawn0.step)⟩
def impl_mul.l0 : Nat → List Int → List Int → List Int → Int → Int → Option (List Int)
 | 0, _, _, _, _, _ => none
 | k + 1, x1, x5, x11, x12, x13 => if x13 < x12 then (if 0 ≤ x13 then (if x13 < (x11.length : Int) then (if 0 ≤ (rd x11 x13) then (if (rd x11 x13) < (x1.length : Int) then (if x13 < (x5.length : Int) then (impl_mul.l0 k x1 (x5.set (x13 : Int).toNat (rd x1 (rd x11 x13))) x11 x12 (wrap64 (x13 + 1))) else (none)) else (none)) else (none)) else (none)) else (none)) else (some x5)
def impl_mul.f (k : Nat) (l0 : List Int) (l1 : List Int) : Option (List Int) := if 0 ≤ (l0.length : Int) then (if ((l0.length : Int) : Int).toNat ≤ 35184372088832 then (impl_mul.l0 k l1 (List.replicate ((l0.length : Int) : Int).toNat 0) l0 (l0.length : Int) 0) else (none)) else (none)
set_option maxHeartbeats 8000000 in
set_option maxRecDepth 100000 in
theorem impl_mul.calls (k : Nat) (A0 : Option Addr) (c0 : Nat) (l0 : List Int) (A1 : Option Addr) (c1 : Nat) (l1 : List Int) (r : List Int) (w : World) (hr0 : Kd.C (Kd.int .i64) w A0 l0.length l0) (hc0 : l0.length ≤ c0) (hr1 : Kd.C (Kd.int .i64) w A1 l1.length l1) (hc1 : l1.length ≤ c1) (h : impl_mul.f k l0 l1 = some r) :
  Calls Try.prog 67 #[.slice A0 l0.length c0, .slice A1 l1.length c1] w fun e w' => ∃ v0_ : Value, e = .returned (v0_) ∧ Kd.R (Kd.int .i64) 3 w' w.heap.size (fun _ => True) v0_ r ∧ Below w.heap.size w w' := by
 have HR0 := Az hr0; have HC0 := Az hc0; clear hr0 hc0; have HR1 := Az hr1; have HC1 := Az hc1; clear hr1 hc1; have HB := Az (Below.refl w.heap.size w); have H : (if 0 ≤ (l0.length : Int) then (if ((l0.length : Int) : Int).toNat ≤ 35184372088832 then (impl_mul.l0 k l1 (List.replicate ((l0.length : Int) : Int).toNat 0) l0 (l0.length : Int) 0) else (none)) else (none)) = some r := h; clear h
 by_cases c3 : 0 ≤ (l0.length : Int)
 ·
  rw [if_pos c3] at H; have c3b0 := eq_true c3; have c3b1 := decide_eq_true c3; clear c3
  by_cases c4 : ((l0.length : Int) : Int).toNat ≤ 35184372088832
  ·
   rw [if_pos c4] at H; have c4b0 := eq_true c4; have c4b1 := decide_eq_true c4; clear c4; obtain ⟨y261, hy261⟩ : ∃ y_ : List Int, y_ = (List.replicate ((l0.length : Int) : Int).toNat 0) := ⟨_, rfl⟩; replace H : (impl_mul.l0 k l1 y261 l0 (l0.length : Int) 0) = some r := hR hy261 H; have Ny261 := Az hy261; clear hy261; have H' := Az H; clear H
   go_enter Try.func67, Try.ntmps67
   go_wp2_with (first | ((with_reducible refine gate_dst (N := 10) rfl ?_); refine Kd.R_make (Kd.int .i64) _ 3 rfl (N := 10) rfl 23 _ _ rfl (l0.length : Int) rfl rfl Try.underlying23 (.int .i64 0) 8 info3 rfl (by decide) (by omega) 0 (ok := fun _ => True) (okp := fun _ => True) rfl (fun _ hk => hk) trivial (oA) (Nat.le_trans (Nat.mul_le_mul_right _ (oA : (l0.length : Int).toNat ≤ 35184372088832)) (by omega)) (Below.refl _ _) (Nat.le_refl _) ?_; intro v262 w5 ho6 hb hg_ hnew_; clear hg_ hnew_; (first | rw [← Ny261.out] at ho6 | (simp only [Int.reduceToNat] at ho6; rw [← Ny261.out] at ho6)); have n0 := Az (Kd.R_lower ho6 (below_size (bU0 HB.out))); have n1 := Az (below_step (bU0 HB.out) hb); clear HB; have HO263 := n0; have HB := n1; clear n0 n1; clear hb ho6))
   go_loopg [13] k (fun kq v13 w' => ∃ (x5_1 : List Int) (x13_1 : Int), v13 = .int .i64 x13_1 ∧ Aside0 (impl_mul.l0 kq l1 x5_1 l0 (l0.length : Int) x13_1 = some r) ∧ Aside0 (kq ≤ k) ∧ Aside0 (Kd.R (Kd.int .i64) 3 w' w.heap.size (fun _ => True) v262 x5_1) ∧ Aside0 (Below w.heap.size w w'))
   case atStart => exact ⟨(y261), (0), rS, H', ⟨Nat.le_refl _⟩, ⟨rU HO263.out⟩, ⟨bU0 HB.out⟩⟩
   case round =>
    clear H'; (try clear c1); (try clear p2); (try clear c3); (try clear c3b0); (try clear c3b1); (try clear c4); (try clear c4b0); (try clear c4b1); (try clear c6); obtain ⟨x5_1, x13_1, rfl, HA, HK1, HO_5, HB⟩ := hrel
    cases gk with
    | zero => exact absurd HA.out (by simp [impl_mul.l0])
    | succ k1 =>
     have H := HA.out; clear HA; simp only [impl_mul.l0] at H
     by_cases c7 : x13_1 < (l0.length : Int)
     ·
      rw [if_pos c7] at H; have c7b0 := decide_eq_true c7; clear c7
      by_cases c8 : 0 ≤ x13_1
      ·
       rw [if_pos c8] at H; have c8b0 := decide_eq_true c8; clear c8
       by_cases c9 : x13_1 < (l0.length : Int)
       ·
        rw [if_pos c9] at H; have c9b0 := decide_eq_true c9; clear c9
        by_cases c10 : 0 ≤ (rd l0 x13_1)
        ·
         rw [if_pos c10] at H; have c10b0 := decide_eq_true c10; clear c10
         by_cases c11 : (rd l0 x13_1) < (l1.length : Int)
         ·
          rw [if_pos c11] at H; have c11b0 := decide_eq_true c11; clear c11
          by_cases c12 : x13_1 < (x5_1.length : Int)
          ·
           rw [if_pos c12] at H; have c12b0 := decide_eq_true c12; clear c12; obtain ⟨y266, hy266⟩ : ∃ y_ : List Int, y_ = (x5_1.set (x13_1 : Int).toNat (rd l1 (rd l0 x13_1))) := ⟨_, rfl⟩; replace H : (impl_mul.l0 k1 l1 y266 l0 (l0.length : Int) (wrap64 (x13_1 + 1))) = some r := hR hy266 H; have Ny266 := Az hy266; clear hy266; have H' := Az H; clear H; have p264 : 0 ≤ (x13_1 : Int) := oA; have q264 : x13_1 < (l0.length : Int) := oA; obtain ⟨ad264, e264, hx264_0⟩ := Kd.at_int HR0.out x13_1 p264 q264
           cases e264
           (try replace hx264_0 := (HB.out.cell (World.block_lt_of_cell? w _ hx264_0)).trans hx264_0); replace p264 := eq_true p264; replace q264 := eq_true q264; have p265 : 0 ≤ ((rd l0 x13_1) : Int) := oA; have q265 : (rd l0 x13_1) < (l1.length : Int) := oA; obtain ⟨ad265, e265, hx265_0⟩ := Kd.at_int HR1.out (rd l0 x13_1) p265 q265
           cases e265
           (try replace hx265_0 := (HB.out.cell (World.block_lt_of_cell? w _ hx265_0)).trans hx265_0); replace p265 := eq_true p265; replace q265 := eq_true q265; have p13 : 0 ≤ (x13_1 : Int) := oA; have q13 : (x13_1 : Int) < ((x5_1.length : Int) : Int) := oA; obtain ⟨go13, co13, eo13, gb13, gl13, cl13, HG13⟩ := Kd.R_form HO_5.out (by omega); (first | cases eo13 | (injection eo13 with ea_ en_ ec_; (first | subst ea_ | (injection ea_ with ea_; subst ea_)); subst ec_; clear en_)); have GB13 := Az gb13; have GG13 := Az HG13; clear gb13 gl13 HG13; obtain ⟨hx13_0, hf13_0⟩ := Kd.R_celln 0 HO_5.out (x13_1 : Int) p13 q13; replace p13 := eq_true p13; replace q13 := eq_true q13; obtain ⟨hy14_, hz14_⟩ := Kd.R_celln 0 HO_5.out (x13_1 : Int) (oA) (oA); have HP14 := Kd.R_putg HO_5.out (x13_1 : Int) (rd l1 (rd l0 x13_1))
           go_wp2_with (first | ((with_reducible refine gate_store (t := 3) (p := 24) rfl ?_); refine store_event (t := 3) (p := 24) (v := ?vo_w15) (w1 := (wr.setCell ⟨go13, (x13_1 : Int).toNat, none⟩ (.int .i64 (rd l1 (rd l0 x13_1))))) ?hg ?ho ?hn ?hr ?_; (case ho => rfl); (case hg => rfl); (case hn => rfl); (case hr => first | (go_simp; done) | (go_simp; rfl)); intro w15 hw; have hg : wr.grownBy w15 (some go13) := (by rw [hw]; exact HP14.2); have hp_ : Kd.R (Kd.int .i64) 3 w15 w.heap.size (fun _ => True) (.slice (some ⟨go13, 0, none⟩) x5_1.length co13) y266 := (by rw [hw, Ny266.out]; exact HP14.1); clear HP14; have n0 := Az (hp_); have n1 := Az ((by rw [hw]; exact below_set (HB.out) GB13.out : Below w.heap.size w w15)); clear HO_5 HB; have HO_5 := n0; have HB := n1; clear n0 n1; clear hg hw hp_))
           (first | go_roundg k1 | (refine Handed.intro k1 ?measure ?_; rotate_left; go_step; (try simp only [add_plain]); (repeat apply Exists.intro); refine ⟨?rel, rfl⟩))
           case measure => have := HK1.out; omega
           case rel => exact ⟨(y266), (wrap64 (x13_1 + 1)), rS, H', ⟨by have := HK1.out; omega⟩, ⟨rU HO_5.out⟩, ⟨bU0 HB.out⟩⟩
          ·
           rw [if_neg c12] at H
           exact absurd H (by simp)
         ·
          rw [if_neg c11] at H
          exact absurd H (by simp)
        ·
         rw [if_neg c10] at H
         exact absurd H (by simp)
       ·
        rw [if_neg c9] at H
        exact absurd H (by simp)
      ·
       rw [if_neg c8] at H
       exact absurd H (by simp)
     ·
      rw [if_neg c7] at H; have c7b0 := decide_eq_false c7; clear c7; obtain rfl := Option.some.inj H
      go_wp2
      go_ret
      exact ⟨_, rE, rU HO_5.out, bU0 HB.out⟩
  ·
   rw [if_neg c4] at H
   exact absurd H (by simp)
 ·
  rw [if_neg c3] at H
  exact absurd H (by simp)
def impl_still.l0 : Nat → List Int → Int → Int → Option (List Int)
 | 0, _, _, _ => none
 | k + 1, x3, x8, x9 => if x9 < x8 then (if 0 ≤ x9 then (if x9 < (x3.length : Int) then (impl_still.l0 k (x3.set (x9 : Int).toNat x9) x8 (wrap64 (x9 + 1))) else (none)) else (none)) else (some x3)
def impl_still.f (k : Nat) (a0 : Int) : Option (List Int) := if 0 ≤ a0 then (if (a0 : Int).toNat ≤ 35184372088832 then ((some (List.replicate (a0 : Int).toNat 0 : List Int)).bind fun y267 => (impl_still.l0 k y267 (y267.length : Int) 0)) else (none)) else (none)
set_option maxHeartbeats 8000000 in
set_option maxRecDepth 100000 in
theorem impl_still.calls (k : Nat) (a0 : Int) (r : List Int) (w : World) (h : impl_still.f k a0 = some r) :
  Calls Try.prog 104 #[.int .i64 a0] w fun e w' => ∃ v0_ : Value, e = .returned (v0_) ∧ Kd.R (Kd.int .i64) 3 w' w.heap.size (fun _ => True) v0_ r ∧ Below w.heap.size w w' := by
 have HB := Az (Below.refl w.heap.size w); have H : (if 0 ≤ a0 then (if (a0 : Int).toNat ≤ 35184372088832 then ((some (List.replicate (a0 : Int).toNat 0 : List Int)).bind fun y267 => (impl_still.l0 k y267 (y267.length : Int) 0)) else (none)) else (none)) = some r := h; clear h
 by_cases c2 : 0 ≤ a0
 ·
  rw [if_pos c2] at H; have c2b0 := eq_true c2; have c2b1 := decide_eq_true c2; clear c2
  by_cases c3 : (a0 : Int).toNat ≤ 35184372088832
  ·
   rw [if_pos c3] at H; have c3b0 := eq_true c3; have c3b1 := decide_eq_true c3; clear c3; obtain ⟨y267, hy267⟩ : ∃ y_ : List Int, y_ = (List.replicate (a0 : Int).toNat 0) := ⟨_, rfl⟩; replace H : (impl_still.l0 k y267 (y267.length : Int) 0) = some r := hR hy267 H; have Ny267 := Az hy267; clear hy267; have H' := Az H; clear H
   go_enter Try.func104, Try.ntmps104
   go_wp2_with (first | ((with_reducible refine gate_dst (N := 6) rfl ?_); refine Kd.R_make (Kd.int .i64) _ 3 rfl (N := 6) rfl 23 _ _ rfl a0 rfl rfl Try.underlying23 (.int .i64 0) 8 info3 rfl (by decide) (by omega) 0 (ok := fun _ => True) (okp := fun _ => True) rfl (fun _ hk => hk) trivial (oA) (Nat.le_trans (Nat.mul_le_mul_right _ (oA : a0.toNat ≤ 35184372088832)) (by omega)) (Below.refl _ _) (Nat.le_refl _) ?_; intro v268 w4 ho5 hb hg_ hnew_; clear hg_ hnew_; (first | rw [← Ny267.out] at ho5 | (simp only [Int.reduceToNat] at ho5; rw [← Ny267.out] at ho5)); have n0 := Az (Kd.R_lower ho5 (below_size (bU0 HB.out))); have n1 := Az (below_step (bU0 HB.out) hb); clear HB; have HO269 := n0; have HB := n1; clear n0 n1 hb ho5; obtain ⟨Ao6, co6, eo6⟩ := Kd.R_slice HO269.out; subst eo6))
   go_loopg [9] k (fun kq v9 w' => ∃ (x3_1 : List Int) (x9_1 : Int), v9 = .int .i64 x9_1 ∧ Aside0 (impl_still.l0 kq x3_1 (y267.length : Int) x9_1 = some r) ∧ Aside0 (kq ≤ k) ∧ Aside0 (Kd.R (Kd.int .i64) 3 w' w.heap.size (fun _ => True) (.slice Ao6 y267.length co6) x3_1) ∧ Aside0 (Below w.heap.size w w'))
   case atStart => exact ⟨(y267), (0), rS, H', ⟨Nat.le_refl _⟩, ⟨rU HO269.out⟩, ⟨bU0 HB.out⟩⟩
   case round =>
    clear H'; (try clear c1); (try clear c2); (try clear c2b0); (try clear c2b1); (try clear p2); (try clear c3); (try clear c3b0); (try clear c3b1); obtain ⟨x3_1, x9_1, rfl, HA, HK1, HO_3, HB⟩ := hrel; have hl3_1 := (Kd.R_reads' HO_3.out).1; rw [hl3_1] at HO_3; (try simp only [hl3_1])
    cases gk with
    | zero => exact absurd HA.out (by simp [impl_still.l0])
    | succ k1 =>
     have H := HA.out; clear HA; simp only [impl_still.l0] at H
     by_cases c7 : x9_1 < (y267.length : Int)
     ·
      rw [if_pos c7] at H; have c7b0 := decide_eq_true c7; (try (have c7b0hl3_1 := c7b0; rw [hl3_1] at c7b0hl3_1)); clear c7
      by_cases c8 : 0 ≤ x9_1
      ·
       rw [if_pos c8] at H; have c8b0 := decide_eq_true c8; clear c8
       by_cases c9 : x9_1 < (x3_1.length : Int)
       ·
        rw [if_pos c9] at H; have c9b0 := decide_eq_true c9; (try (have c9b0hl3_1 := c9b0; rw [hl3_1] at c9b0hl3_1)); clear c9; obtain ⟨y270, hy270⟩ : ∃ y_ : List Int, y_ = (x3_1.set (x9_1 : Int).toNat x9_1) := ⟨_, rfl⟩; replace H : (impl_still.l0 k1 y270 (y267.length : Int) (wrap64 (x9_1 + 1))) = some r := hR hy270 H; have Ny270 := Az hy270; clear hy270; have H' := Az H; clear H; have p10 : 0 ≤ (x9_1 : Int) := oA; have q10 : (x9_1 : Int) < ((x3_1.length : Int) : Int) := oA; obtain ⟨go10, co10, eo10, gb10, gl10, cl10, HG10⟩ := Kd.R_form HO_3.out (by omega); (first | cases eo10 | (injection eo10 with ea_ en_ ec_; (first | subst ea_ | (injection ea_ with ea_; subst ea_)); subst ec_; clear en_)); have GB10 := Az gb10; have GG10 := Az HG10; clear gb10 gl10 HG10; obtain ⟨hx10_0, hf10_0⟩ := Kd.R_celln 0 HO_3.out (x9_1 : Int) p10 q10; replace p10 := eq_true p10; replace q10 := eq_true q10; obtain ⟨hy11_, hz11_⟩ := Kd.R_celln 0 HO_3.out (x9_1 : Int) (oA) (oA); have HP11 := Kd.R_putg HO_3.out (x9_1 : Int) x9_1
        go_wp2_with (first | ((with_reducible refine gate_store (t := 3) (p := 15) rfl ?_); refine store_event (t := 3) (p := 15) (v := ?vo_w12) (w1 := (wr.setCell ⟨go10, (x9_1 : Int).toNat, none⟩ (.int .i64 x9_1))) ?hg ?ho ?hn ?hr ?_; (case ho => rfl); (case hg => rfl); (case hn => rfl); (case hr => first | (go_simp; done) | (go_simp; rfl)); intro w12 hw; have hg : wr.grownBy w12 (some go10) := (by rw [hw]; exact HP11.2); have hp_ : Kd.R (Kd.int .i64) 3 w12 w.heap.size (fun _ => True) (.slice (some ⟨go10, 0, none⟩) x3_1.length co6) y270 := (by rw [hw, Ny270.out]; exact HP11.1); clear HP11; have n0 := Az (hp_); have n1 := Az ((by rw [hw]; exact below_set (HB.out) GB10.out : Below w.heap.size w w12)); clear HO_3 HB; have HO_3 := n0; have HB := n1; clear n0 n1; clear hg hw hp_))
        (try simp only [← hl3_1]); (first | go_roundg k1 | (refine Handed.intro k1 ?measure ?_; rotate_left; go_step; (try simp only [add_plain]); (repeat apply Exists.intro); refine ⟨?rel, rfl⟩))
        case measure => have := HK1.out; omega
        case rel => exact ⟨(y270), (wrap64 (x9_1 + 1)), rS, H', ⟨by have := HK1.out; omega⟩, ⟨by (try simp only [hl3_1]); (with_reducible repeat (first | apply Kd.R_alloc | apply Kd.R_drewN | apply Kd.R_drew)); exact HO_3.out⟩, ⟨bU0 HB.out⟩⟩
       ·
        rw [if_neg c9] at H
        exact absurd H (by simp)
      ·
       rw [if_neg c8] at H
       exact absurd H (by simp)
     ·
      rw [if_neg c7] at H; have c7b0 := decide_eq_false c7; (try (have c7b0hl3_1 := c7b0; rw [hl3_1] at c7b0hl3_1)); clear c7; obtain rfl := Option.some.inj H
      go_wp2
      go_ret
      exact ⟨_, rE, rU HO_3.out, bU0 HB.out⟩
  ·
   rw [if_neg c3] at H
   exact absurd H (by simp)
 ·
  rw [if_neg c2] at H
  exact absurd H (by simp)
def spec_l5Sum.l0 : Nat → List Int → Int → Int → Option (Int)
 | 0, _, _, _ => none
 | k + 1, x0, x3, x4 => if x4 < (x0.length : Int) then (if 0 ≤ x4 then (spec_l5Sum.l0 k x0 (wrap64 (x3 + (rd x0 x4))) (wrap64 (x4 + 1))) else (none)) else (some x3)
def spec_l5Sum.f (k : Nat) (l0 : List Int) : Option (Int) := spec_l5Sum.l0 k l0 0 0
set_option maxHeartbeats 8000000 in
set_option maxRecDepth 100000 in
theorem spec_l5Sum.calls (k : Nat) (A0 : Option Addr) (c0 : Nat) (l0 : List Int) (r : Int) (w : World) (hr0 : Kd.C (Kd.int .i64) w A0 l0.length l0) (hc0 : l0.length ≤ c0) (h : spec_l5Sum.f k l0 = some r) :
  Calls Try.prog 92 #[.slice A0 l0.length c0] w fun e w' => e = .returned (.int .i64 r) ∧ Drawn0 w w' := by
 have HR0 := Az hr0; have HC0 := Az hc0; clear hr0 hc0; have H : (spec_l5Sum.l0 k l0 0 0) = some r := h; clear h; have H' := Az H; clear H
 go_enter Try.func92, Try.ntmps92
 go_wp2
 go_loopg [3, 4] k (fun kq v3 v4 w' => ∃ (x3_1 : Int) (x4_1 : Int), v3 = .int .i64 x3_1 ∧ v4 = .int .i64 x4_1 ∧ Aside0 (spec_l5Sum.l0 kq l0 x3_1 x4_1 = some r) ∧ Aside0 (kq ≤ k) ∧ Drawn0 w w')
 case atStart => exact ⟨(0), (0), rS, rS, H', ⟨Nat.le_refl _⟩, by repeat (first | exact Drawn0.refl _ | apply Drawn0.step)⟩
 case round =>
  clear H'; obtain ⟨x3_1, x4_1, rfl, rfl, HA, HK1, ⟨m1, rfl⟩⟩ := hrel
  cases gk with
  | zero => exact absurd HA.out (by simp [spec_l5Sum.l0])
  | succ k1 =>
   have H := HA.out; clear HA; simp only [spec_l5Sum.l0] at H
   by_cases c2 : x4_1 < (l0.length : Int)
   ·
    rw [if_pos c2] at H; have c2b0 := decide_eq_true c2; clear c2
    by_cases c3 : 0 ≤ x4_1
    ·
     rw [if_pos c3] at H; have c3b0 := decide_eq_true c3; clear c3; have H' := Az H; clear H; have p287 : 0 ≤ (x4_1 : Int) := oA; have q287 : x4_1 < (l0.length : Int) := oA; obtain ⟨ad287, e287, hx287_0⟩ := Kd.at_int HR0.out x4_1 p287 q287
     cases e287
     replace p287 := eq_true p287; replace q287 := eq_true q287
     go_wp2
     (first | go_roundg k1 | (refine Handed.intro k1 ?measure ?_; rotate_left; go_step; (try simp only [add_plain]); (repeat apply Exists.intro); refine ⟨?rel, rfl⟩))
     case measure => have := HK1.out; omega
     case rel => exact ⟨(wrap64 (x3_1 + (rd l0 x4_1))), (wrap64 (x4_1 + 1)), rS, rS, H', ⟨by have := HK1.out; omega⟩, by repeat (first | exact Drawn0.refl _ | apply Drawn0.step)⟩
    ·
     rw [if_neg c3] at H
     exact absurd H (by simp)
   ·
    rw [if_neg c2] at H; have c2b0 := decide_eq_false c2; clear c2; obtain rfl := Option.some.inj H
    go_wp2
    go_ret
    exact ⟨by first | rfl | (simp; done) | (simp [*]; done), by repeat (first | exact Drawn0.refl _ | apply Drawn0.step)⟩
def spec_l6In.f (a0 : Int) (a1 : Int) (a2 : Int) : Option (Bool) := if a0 ≥ a1 then (some (decide (a0 ≤ a2))) else (some false)
set_option maxHeartbeats 8000000 in
set_option maxRecDepth 100000 in
theorem spec_l6In.calls (a0 : Int) (a1 : Int) (a2 : Int) (r : Bool) (w : World) (h : spec_l6In.f a0 a1 a2 = some r) :
  Calls Try.prog 118 #[.int .i64 a0, .int .i64 a1, .int .i64 a2] w fun e w' => e = .returned (.bool r) ∧ Drawn0 w w' := by
 have H : (if a0 ≥ a1 then (some (decide (a0 ≤ a2))) else (some false)) = some r := h; clear h
 by_cases c4 : a0 ≥ a1
 ·
  rw [if_pos c4] at H; have c4b0 := decide_eq_true c4; clear c4; obtain rfl := Option.some.inj H
  go_enter Try.func118, Try.ntmps118
  go_wp2
  go_ret
  exact ⟨by first | rfl | (simp; done) | (simp [*]; done), by repeat (first | exact Drawn0.refl _ | apply Drawn0.step)⟩
 ·
  rw [if_neg c4] at H; have c4b0 := decide_eq_false c4; clear c4; obtain rfl := Option.some.inj H
  go_enter Try.func118, Try.ntmps118
  go_wp2
  go_ret
  exact ⟨by first | rfl | (simp; done) | (simp [*]; done), by repeat (first | exact Drawn0.refl _ | apply Drawn0.step)⟩
mutual
def spec_PartsValid.l0 : Nat → List Int → Int → Int → Option (Bool)
 | 0, _, _, _ => none
 | k + 1, x0, x3, x4 => if x4 < (x0.length : Int) then (if 0 ≤ x4 then ((spec_l6In.f (rd x0 x4) 1 6).bind fun t289 => (if t289 = true then (if x4 > 0 then (if 0 ≤ (wrap64 (x4 - 1)) then (if (wrap64 (x4 - 1)) < (x0.length : Int) then (spec_PartsValid.j1 k x0 x3 x4 (decide ((rd x0 x4) > (rd x0 (wrap64 (x4 - 1)))))) else (none)) else (none)) else (spec_PartsValid.j1 k x0 x3 x4 false)) else (spec_PartsValid.j1 k x0 x3 x4 true))) else (none)) else (some (decide (x3 > 0)))
def spec_PartsValid.j1 : Nat → List Int → Int → Int → Bool → Option (Bool)
 | 0, _, _, _, _ => none
 | k + 1, x0, x3, x4, x32 => if x32 = true then (some false) else (if 0 ≤ x4 then (if x4 < (x0.length : Int) then (if (wrap64 (x3 + (rd x0 x4))) > 6 then (some false) else (spec_PartsValid.l0 k x0 (wrap64 (x3 + (rd x0 x4))) (wrap64 (x4 + 1)))) else (none)) else (none))
end
def spec_PartsValid.f (k : Nat) (l0 : List Int) : Option (Bool) := spec_PartsValid.l0 k l0 0 0
theorem spec_PartsValid.mono_l : ∀ k, (∀ y0 y1 y2, LeO (spec_PartsValid.l0 k y0 y1 y2) (spec_PartsValid.l0 (k + 1) y0 y1 y2)) ∧ (∀ y0 y1 y2 y3, LeO (spec_PartsValid.j1 k y0 y1 y2 y3) (spec_PartsValid.j1 (k + 1) y0 y1 y2 y3))
 | 0 => ⟨fun _ _ _ r h => by simp [spec_PartsValid.l0] at h, fun _ _ _ _ r h => by simp [spec_PartsValid.j1] at h⟩
 | k + 1 => by
  obtain ⟨ih0, ih1⟩ := spec_PartsValid.mono_l k
  refine ⟨?_, ?_⟩
  ·
   intro y0 y1 y2
   unfold spec_PartsValid.l0
   repeat' first
   | (with_reducible exact ih0 _ _ _)
   | (with_reducible exact ih1 _ _ _ _)
   | (with_reducible exact LeO.refl _)
   | (with_reducible exact LeO.none _)
   | (with_reducible refine LeO.ite ?_ ?_)
   | (with_reducible refine LeO.bind ?_ (fun _ => ?_))
   | exact ih0 _ _ _
   | exact ih1 _ _ _ _
   | exact LeO.none _
   | refine LeO.ite ?_ ?_
   | refine LeO.bind ?_ (fun _ => ?_)
  ·
   intro y0 y1 y2 y3
   unfold spec_PartsValid.j1
   repeat' first
   | (with_reducible exact ih0 _ _ _)
   | (with_reducible exact ih1 _ _ _ _)
   | (with_reducible exact LeO.refl _)
   | (with_reducible exact LeO.none _)
   | (with_reducible refine LeO.ite ?_ ?_)
   | (with_reducible refine LeO.bind ?_ (fun _ => ?_))
   | exact ih0 _ _ _
   | exact ih1 _ _ _ _
   | exact LeO.none _
   | refine LeO.ite ?_ ?_
   | refine LeO.bind ?_ (fun _ => ?_)
theorem spec_PartsValid.mono : ∀ a0 k, LeO (spec_PartsValid.f k a0) (spec_PartsValid.f (k + 1) a0) := by
 intro a0 k
 obtain ⟨ih0, ih1⟩ := spec_PartsValid.mono_l k
 unfold spec_PartsValid.f
 repeat' first
   | (with_reducible exact ih0 _ _ _)
   | (with_reducible exact ih1 _ _ _ _)
   | (with_reducible exact LeO.refl _)
   | (with_reducible exact LeO.none _)
   | (with_reducible refine LeO.ite ?_ ?_)
   | (with_reducible refine LeO.bind ?_ (fun _ => ?_))
   | exact ih0 _ _ _
   | exact ih1 _ _ _ _
   | exact LeO.none _
   | refine LeO.ite ?_ ?_
   | refine LeO.bind ?_ (fun _ => ?_)
set_option maxHeartbeats 8000000 in
set_option maxRecDepth 100000 in
theorem spec_PartsValid.calls (k : Nat) (A0 : Option Addr) (c0 : Nat) (l0 : List Int) (r : Bool) (w : World) (hr0 : Kd.C (Kd.int .i64) w A0 l0.length l0) (hc0 : l0.length ≤ c0) (h : spec_PartsValid.f k l0 = some r) :
  Calls Try.prog 106 #[.slice A0 l0.length c0] w fun e w' => e = .returned (.bool r) ∧ Drawn0 w w' := by
 have HR0 := Az hr0; have HC0 := Az hc0; clear hr0 hc0; have H : (spec_PartsValid.l0 k l0 0 0) = some r := h; clear h; have H' := Az H; clear H
 go_enter Try.func106, Try.ntmps106
 go_wp2
 repeat (go_quiet (fail); try go_wp2)
 go_loopg [3, 4] k (fun kq v3 v4 w' => ∃ (x3_1 : Int) (x4_1 : Int), v3 = .int .i64 x3_1 ∧ v4 = .int .i64 x4_1 ∧ Aside0 (spec_PartsValid.l0 kq l0 x3_1 x4_1 = some r) ∧ Aside0 (kq ≤ k) ∧ Drawn0 w w')
 case atStart => exact ⟨(0), (0), rS, rS, H', ⟨Nat.le_refl _⟩, by repeat (first | exact Drawn0.refl _ | apply Drawn0.step)⟩
 case round =>
  clear H'; (try clear c1); obtain ⟨x3_1, x4_1, rfl, rfl, HA, HK1, ⟨m1, rfl⟩⟩ := hrel
  cases gk with
  | zero => exact absurd HA.out (by simp [spec_PartsValid.l0])
  | succ k1 =>
   have H := HA.out; clear HA; simp only [spec_PartsValid.l0] at H
   by_cases c2 : x4_1 < (l0.length : Int)
   ·
    rw [if_pos c2] at H; have c2b0 := decide_eq_true c2; clear c2; have HC3 := Az H; clear H
    go_upto_region 5 with (fail)
    repeat (go_quiet (fail); go_upto_region 5 with (fail))
    go_cut [32] (fun v32 wc => ∃ (kq : Nat) (x32_2 : Bool), v32 = .bool x32_2 ∧ Aside0 (spec_PartsValid.j1 kq l0 x3_1 x4_1 x32_2 = some r) ∧ Aside0 (kq ≤ k1) ∧ Drawn0 w wc)
    case first =>
     have H := HC3.out; clear HC3
     by_cases c4 : 0 ≤ x4_1
     ·
      rw [if_pos c4] at H; have c4b0 := decide_eq_true c4; clear c4; (first | rw [c4b0] | (simp only [i64_w, i32_w]; rw [c4b0]) | skip); replace H := Option.bind_eq_some_iff.mp H; obtain ⟨t289, A50, H⟩ := H; replace H : (if t289 = true then (if x4_1 > 0 then (if 0 ≤ (wrap64 (x4_1 - 1)) then (if (wrap64 (x4_1 - 1)) < (l0.length : Int) then (spec_PartsValid.j1 k1 l0 x3_1 x4_1 (decide ((rd l0 x4_1) > (rd l0 (wrap64 (x4_1 - 1)))))) else (none)) else (none)) else (spec_PartsValid.j1 k1 l0 x3_1 x4_1 false)) else (spec_PartsValid.j1 k1 l0 x3_1 x4_1 true)) = some r := H; have A5 := Az A50; clear A50
      by_cases c6 : t289 = true
      ·
       subst c6
       have H1 : (if x4_1 > 0 then (if 0 ≤ (wrap64 (x4_1 - 1)) then (if (wrap64 (x4_1 - 1)) < (l0.length : Int) then (spec_PartsValid.j1 k1 l0 x3_1 x4_1 (decide ((rd l0 x4_1) > (rd l0 (wrap64 (x4_1 - 1)))))) else (none)) else (none)) else (spec_PartsValid.j1 k1 l0 x3_1 x4_1 false)) = some r := by rw [if_pos rfl] at H; exact H
       clear H; have H := H1; clear H1
       by_cases c7 : x4_1 > 0
       ·
        rw [if_pos c7] at H; have c7b0 := decide_eq_true c7; clear c7; obtain ⟨ji8, hji8⟩ : ∃ j_ : Int, (wrap64 (x4_1 - 1)) = j_ := ⟨_, rfl⟩
        replace H : (if 0 ≤ (ji8) then (if (ji8) < (l0.length : Int) then (spec_PartsValid.j1 k1 l0 x3_1 x4_1 (decide ((rd l0 x4_1) > (rd l0 (ji8))))) else (none)) else (none)) = some r := by first | (rw [hji8] at H; exact H) | (simp only [hji8] at H ⊢; exact H)
        (try rw [hji8] at A5); have hji8w : (IntKind.i64.wrap (x4_1 - 1)) = ji8 := (i64_w _).trans hji8
        by_cases c9 : 0 ≤ (ji8)
        ·
         rw [if_pos c9] at H; have c9b0 := decide_eq_true c9; clear c9
         by_cases c10 : (ji8) < (l0.length : Int)
         ·
          rw [if_pos c10] at H; have c10b0 := decide_eq_true c10; clear c10; have H' := Az H; clear H; have p288 : 0 ≤ (x4_1 : Int) := oA; have q288 : x4_1 < (l0.length : Int) := oA; obtain ⟨ad288, e288, hx288_0⟩ := Kd.at_int HR0.out x4_1 p288 q288
          cases e288
          replace p288 := eq_true p288; replace q288 := eq_true q288
          go_wp2_with (first | (go_at_call 118; (with_reducible refine (spec_l6In.calls (rd l0 x4_1) 1 6 true _ A5.out).mono ?_); rintro e w' ⟨rfl, ⟨nd, rfl⟩⟩; (try first | exact ⟨rfl, _, World.drewN_drewN _ _ _⟩ | exact ⟨rfl, _, Eq.trans (World.drewN_drewN _ _ _) (congrArg (World.drewN _) (Nat.add_assoc _ _ _))⟩); have p290 : 0 ≤ (x4_1 : Int) := oA; have q290 : x4_1 < (l0.length : Int) := oA; obtain ⟨ad290, e290, hx290_0⟩ := Kd.at_int HR0.out x4_1 p290 q290; obtain rfl : ad288 = ad290 := (by injection e290); replace p290 := eq_true p290; replace q290 := eq_true q290; have p291 : 0 ≤ ((ji8) : Int) := oA; have q291 : (ji8) < (l0.length : Int) := oA; obtain ⟨ad291, e291, hx291_0⟩ := Kd.at_int HR0.out (ji8) p291 q291; obtain rfl : ad288 = ad291 := (by injection e291); replace p291 := eq_true p291; replace q291 := eq_true q291))
          repeat (go_quiet (first | (go_at_call 118; (try simp only [Go.IntWalk.i64_left]); (with_reducible refine (spec_l6In.calls (rd l0 x4_1) 1 6 true _ A5.out).mono ?_); rintro e w' ⟨rfl, ⟨nd, rfl⟩⟩; (try first | exact ⟨rfl, _, World.drewN_drewN _ _ _⟩ | exact ⟨rfl, _, Eq.trans (World.drewN_drewN _ _ _) (congrArg (World.drewN _) (Nat.add_assoc _ _ _))⟩); have p290 : 0 ≤ (x4_1 : Int) := oA; have q290 : x4_1 < (l0.length : Int) := oA; obtain ⟨ad290, e290, hx290_0⟩ := Kd.at_int HR0.out x4_1 p290 q290; obtain rfl : ad288 = ad290 := (by injection e290); replace p290 := eq_true p290; replace q290 := eq_true q290; have p291 : 0 ≤ ((ji8) : Int) := oA; have q291 : (ji8) < (l0.length : Int) := oA; obtain ⟨ad291, e291, hx291_0⟩ := Kd.at_int HR0.out (ji8) p291 q291; obtain rfl : ad288 = ad291 := (by injection e291); replace p291 := eq_true p291; replace q291 := eq_true q291)); try go_wp2_with (first | (go_at_call 118; (try simp only [Go.IntWalk.i64_left]); (with_reducible refine (spec_l6In.calls (rd l0 x4_1) 1 6 true _ A5.out).mono ?_); rintro e w' ⟨rfl, ⟨nd, rfl⟩⟩; (try first | exact ⟨rfl, _, World.drewN_drewN _ _ _⟩ | exact ⟨rfl, _, Eq.trans (World.drewN_drewN _ _ _) (congrArg (World.drewN _) (Nat.add_assoc _ _ _))⟩); have p290 : 0 ≤ (x4_1 : Int) := oA; have q290 : x4_1 < (l0.length : Int) := oA; obtain ⟨ad290, e290, hx290_0⟩ := Kd.at_int HR0.out x4_1 p290 q290; obtain rfl : ad288 = ad290 := (by injection e290); replace p290 := eq_true p290; replace q290 := eq_true q290; have p291 : 0 ≤ ((ji8) : Int) := oA; have q291 : (ji8) < (l0.length : Int) := oA; obtain ⟨ad291, e291, hx291_0⟩ := Kd.at_int HR0.out (ji8) p291 q291; obtain rfl : ad288 = ad291 := (by injection e291); replace p291 := eq_true p291; replace q291 := eq_true q291)))
          go_meet
          case rel => exact ⟨_, (decide ((rd l0 x4_1) > (rd l0 (ji8)))), (by first | rfl | (simp; done) | (simp only [← hji8] <;> (first | rfl | simp)) | (simp [*]; done)), H', ⟨by have := HK1.out; first | omega | exact Nat.le_refl _⟩, by repeat (first | exact Drawn0.refl _ | apply Drawn0.step)⟩
         ·
          rw [if_neg c10] at H
          exact absurd H (by simp)
        ·
         rw [if_neg c9] at H
         exact absurd H (by simp)
       ·
        rw [if_neg c7] at H; have c7b0 := decide_eq_false c7; clear c7; have H' := Az H; clear H; have p288 : 0 ≤ (x4_1 : Int) := oA; have q288 : x4_1 < (l0.length : Int) := oA; obtain ⟨ad288, e288, hx288_0⟩ := Kd.at_int HR0.out x4_1 p288 q288
        cases e288
        replace p288 := eq_true p288; replace q288 := eq_true q288
        go_wp2_with (first | (go_at_call 118; (with_reducible refine (spec_l6In.calls (rd l0 x4_1) 1 6 true _ A5.out).mono ?_); rintro e w' ⟨rfl, ⟨nd, rfl⟩⟩; (try first | exact ⟨rfl, _, World.drewN_drewN _ _ _⟩ | exact ⟨rfl, _, Eq.trans (World.drewN_drewN _ _ _) (congrArg (World.drewN _) (Nat.add_assoc _ _ _))⟩)))
        repeat (go_quiet (first | (go_at_call 118; (try simp only [Go.IntWalk.i64_left]); (with_reducible refine (spec_l6In.calls (rd l0 x4_1) 1 6 true _ A5.out).mono ?_); rintro e w' ⟨rfl, ⟨nd, rfl⟩⟩; (try first | exact ⟨rfl, _, World.drewN_drewN _ _ _⟩ | exact ⟨rfl, _, Eq.trans (World.drewN_drewN _ _ _) (congrArg (World.drewN _) (Nat.add_assoc _ _ _))⟩))); try go_wp2_with (first | (go_at_call 118; (try simp only [Go.IntWalk.i64_left]); (with_reducible refine (spec_l6In.calls (rd l0 x4_1) 1 6 true _ A5.out).mono ?_); rintro e w' ⟨rfl, ⟨nd, rfl⟩⟩; (try first | exact ⟨rfl, _, World.drewN_drewN _ _ _⟩ | exact ⟨rfl, _, Eq.trans (World.drewN_drewN _ _ _) (congrArg (World.drewN _) (Nat.add_assoc _ _ _))⟩))))
        go_meet
        case rel => exact ⟨_, (false), rS, H', ⟨by have := HK1.out; first | omega | exact Nat.le_refl _⟩, by repeat (first | exact Drawn0.refl _ | apply Drawn0.step)⟩
      ·
       replace c6 := Bool.eq_false_iff.mpr c6; subst c6
       have H1 : (spec_PartsValid.j1 k1 l0 x3_1 x4_1 true) = some r := by rw [if_neg (show ¬ (false = true) by decide)] at H; exact H
       clear H; have H := H1; clear H1; have H' := Az H; clear H; have p288 : 0 ≤ (x4_1 : Int) := oA; have q288 : x4_1 < (l0.length : Int) := oA; obtain ⟨ad288, e288, hx288_0⟩ := Kd.at_int HR0.out x4_1 p288 q288
       cases e288
       replace p288 := eq_true p288; replace q288 := eq_true q288
       go_wp2_with (first | (go_at_call 118; (with_reducible refine (spec_l6In.calls (rd l0 x4_1) 1 6 false _ A5.out).mono ?_); rintro e w' ⟨rfl, ⟨nd, rfl⟩⟩; (try first | exact ⟨rfl, _, World.drewN_drewN _ _ _⟩ | exact ⟨rfl, _, Eq.trans (World.drewN_drewN _ _ _) (congrArg (World.drewN _) (Nat.add_assoc _ _ _))⟩)))
       repeat (go_quiet (first | (go_at_call 118; (try simp only [Go.IntWalk.i64_left]); (with_reducible refine (spec_l6In.calls (rd l0 x4_1) 1 6 false _ A5.out).mono ?_); rintro e w' ⟨rfl, ⟨nd, rfl⟩⟩; (try first | exact ⟨rfl, _, World.drewN_drewN _ _ _⟩ | exact ⟨rfl, _, Eq.trans (World.drewN_drewN _ _ _) (congrArg (World.drewN _) (Nat.add_assoc _ _ _))⟩))); try go_wp2_with (first | (go_at_call 118; (try simp only [Go.IntWalk.i64_left]); (with_reducible refine (spec_l6In.calls (rd l0 x4_1) 1 6 false _ A5.out).mono ?_); rintro e w' ⟨rfl, ⟨nd, rfl⟩⟩; (try first | exact ⟨rfl, _, World.drewN_drewN _ _ _⟩ | exact ⟨rfl, _, Eq.trans (World.drewN_drewN _ _ _) (congrArg (World.drewN _) (Nat.add_assoc _ _ _))⟩))))
       go_meet
       case rel => exact ⟨_, (true), rS, H', ⟨by have := HK1.out; first | omega | exact Nat.le_refl _⟩, by repeat (first | exact Drawn0.refl _ | apply Drawn0.step)⟩
     ·
      rw [if_neg c4] at H
      exact absurd H (by simp)
    case rest =>
     clear HC3; (try clear c1); (try clear c2); (try clear c2b0); (try clear p2); (try clear q2); (try clear hx2); (try clear c4); (try clear c4b0); (try clear c6); (try clear p6); (try clear c7); (try clear c7b0); (try clear c9); (try clear c9b0); (try clear c10); (try clear c10b0); (try clear hx288_0); (try clear hx290_0); (try clear hx291_0); (try clear p288); (try clear p290); (try clear p291); (try clear q288); (try clear q290); (try clear q291); obtain ⟨kq, x32_2, rfl, HA, HJ2, ⟨mc2, rfl⟩⟩ := hcut
     cases kq with
     | zero => exact absurd HA.out (by simp [spec_PartsValid.j1])
     | succ kj2 =>
      have H := HA.out; clear HA; simp only [spec_PartsValid.j1] at H
      by_cases c11 : x32_2 = true
      ·
       subst c11
       have H1 : (some false) = some r := by rw [if_pos rfl] at H; exact H
       clear H; have H := H1; clear H1; obtain rfl := Option.some.inj H
       go_wp2
       repeat (go_quiet (fail); try go_wp2)
       go_ret
       exact ⟨by first | rfl | (simp; done) | (simp [*]; done), by repeat (first | exact Drawn0.refl _ | apply Drawn0.step)⟩
      ·
       replace c11 := Bool.eq_false_iff.mpr c11; subst c11
       have H1 : (if 0 ≤ x4_1 then (if x4_1 < (l0.length : Int) then (if (wrap64 (x3_1 + (rd l0 x4_1))) > 6 then (some false) else (spec_PartsValid.l0 kj2 l0 (wrap64 (x3_1 + (rd l0 x4_1))) (wrap64 (x4_1 + 1)))) else (none)) else (none)) = some r := by rw [if_neg (show ¬ (false = true) by decide)] at H; exact H
       clear H; have H := H1; clear H1
       by_cases c12 : 0 ≤ x4_1
       ·
        rw [if_pos c12] at H; have c12b0 := decide_eq_true c12; clear c12
        by_cases c13 : x4_1 < (l0.length : Int)
        ·
         rw [if_pos c13] at H; have c13b0 := decide_eq_true c13; clear c13
         by_cases c14 : (wrap64 (x3_1 + (rd l0 x4_1))) > 6
         ·
          rw [if_pos c14] at H; have c14b0 := decide_eq_true c14; clear c14; obtain rfl := Option.some.inj H; have p292 : 0 ≤ (x4_1 : Int) := oA; have q292 : x4_1 < (l0.length : Int) := oA; obtain ⟨ad292, e292, hx292_0⟩ := Kd.at_int HR0.out x4_1 p292 q292
          cases e292
          replace p292 := eq_true p292; replace q292 := eq_true q292
          go_wp2
          repeat (go_quiet (fail); try go_wp2)
          go_ret
          exact ⟨by first | rfl | (simp; done) | (simp [*]; done), by repeat (first | exact Drawn0.refl _ | apply Drawn0.step)⟩
         ·
          rw [if_neg c14] at H; have c14b0 := decide_eq_false c14; clear c14; have H' := Az H; clear H; have p292 : 0 ≤ (x4_1 : Int) := oA; have q292 : x4_1 < (l0.length : Int) := oA; obtain ⟨ad292, e292, hx292_0⟩ := Kd.at_int HR0.out x4_1 p292 q292
          cases e292
          replace p292 := eq_true p292; replace q292 := eq_true q292
          go_wp2
          repeat (go_quiet (fail); try go_wp2)
          (first | go_roundg kj2 | (refine Handed.intro kj2 ?measure ?_; rotate_left; go_step; (try simp only [add_plain]); (repeat apply Exists.intro); refine ⟨?rel, rfl⟩))
          case measure => have := HK1.out; have := HJ2.out; omega
          case rel => exact ⟨(wrap64 (x3_1 + (rd l0 x4_1))), (wrap64 (x4_1 + 1)), rS, rS, H', ⟨by have := HK1.out; have := HJ2.out; omega⟩, by repeat (first | exact Drawn0.refl _ | apply Drawn0.step)⟩
        ·
         rw [if_neg c13] at H
         exact absurd H (by simp)
       ·
        rw [if_neg c12] at H
        exact absurd H (by simp)
   ·
    rw [if_neg c2] at H; have c2b0 := decide_eq_false c2; clear c2; obtain rfl := Option.some.inj H
    go_wp2
    repeat (go_quiet (fail); try go_wp2)
    go_ret
    exact ⟨by first | rfl | (simp; done) | (simp [*]; done), by repeat (first | exact Drawn0.refl _ | apply Drawn0.step)⟩
mutual
def spec_l1Cycles.l0 : Nat → List Int → List (List Int) → List Bool → Int → Option ((List (List Int)))
 | 0, _, _, _, _ => none
 | k + 1, x0, x3, x4, x5 => if x5 < (x0.length : Int) then (if 0 ≤ x5 then (if x5 < (x4.length : Int) then (if rdOf false x4 x5 = true then (spec_l1Cycles.l0 k x0 x3 x4 (wrap64 (x5 + 1))) else (spec_l1Cycles.l1 k x0 x3 x4 x5 (([] : List Int)) x5)) else (none)) else (none)) else (some x3)
def spec_l1Cycles.l1 : Nat → List Int → List (List Int) → List Bool → Int → List Int → Int → Option ((List (List Int)))
 | 0, _, _, _, _, _, _ => none
 | k + 1, x0, x3, x4, x5, x6, x7 => if 0 ≤ x7 then (if x7 < (x4.length : Int) then (if rdOf false x4 x7 = true then (if x3.length < 5864062014805 then (spec_l1Cycles.l0 k x0 (x3 ++ [x6]) x4 (wrap64 (x5 + 1))) else (none)) else (if x6.length < 17592186044416 then (if x7 < (x0.length : Int) then (spec_l1Cycles.l1 k x0 x3 (x4.set (x7 : Int).toNat true) x5 (x6 ++ [x7]) (rd x0 x7)) else (none)) else (none))) else (none)) else (none)
end
def spec_l1Cycles.f (k : Nat) (l0 : List Int) : Option ((List (List Int))) := if 0 ≤ (l0.length : Int) then (if ((l0.length : Int) : Int).toNat ≤ 281474976710656 then (spec_l1Cycles.l0 k l0 (([] : List (List Int))) (List.replicate ((l0.length : Int) : Int).toNat false) 0) else (none)) else (none)
set_option maxHeartbeats 8000000 in
set_option maxRecDepth 100000 in
theorem spec_l1Cycles.calls (k : Nat) (A0 : Option Addr) (c0 : Nat) (l0 : List Int) (r : List (List Int)) (w : World) (hr0 : Kd.C (Kd.int .i64) w A0 l0.length l0) (hc0 : l0.length ≤ c0) (h : spec_l1Cycles.f k l0 = some r) :
  Calls Try.prog 133 #[.slice A0 l0.length c0] w fun e w' => ∃ v0_ : Value, e = .returned (v0_) ∧ Kd.S (Kd.slice 3 (Kd.int .i64)) 23 w' w.heap.size (fun _ => True) v0_ r ∧ Below w.heap.size w w' := by
 have HR0 := Az hr0; have HC0 := Az hc0; clear hr0 hc0; have HB := Az (Below.refl w.heap.size w); have H : (if 0 ≤ (l0.length : Int) then (if ((l0.length : Int) : Int).toNat ≤ 281474976710656 then (spec_l1Cycles.l0 k l0 (([] : List (List Int))) (List.replicate ((l0.length : Int) : Int).toNat false) 0) else (none)) else (none)) = some r := h; clear h; obtain ⟨y318, hy318⟩ : ∃ y_ : List (List Int), y_ = (([] : List (List Int))) := ⟨_, rfl⟩; replace H : (if 0 ≤ (l0.length : Int) then (if ((l0.length : Int) : Int).toNat ≤ 281474976710656 then (spec_l1Cycles.l0 k l0 y318 (List.replicate ((l0.length : Int) : Int).toNat false) 0) else (none)) else (none)) = some r := hR hy318 H; have Ny318 := Az hy318; clear hy318
 by_cases c2 : 0 ≤ (l0.length : Int)
 ·
  rw [if_pos c2] at H; have c2b0 := eq_true c2; have c2b1 := decide_eq_true c2; clear c2
  by_cases c3 : ((l0.length : Int) : Int).toNat ≤ 281474976710656
  ·
   rw [if_pos c3] at H; have c3b0 := eq_true c3; have c3b1 := decide_eq_true c3; clear c3; obtain ⟨y321, hy321⟩ : ∃ y_ : List Bool, y_ = (List.replicate ((l0.length : Int) : Int).toNat false) := ⟨_, rfl⟩; replace H : (spec_l1Cycles.l0 k l0 y318 y321 0) = some r := hR hy321 H; have Ny321 := Az hy321; clear hy321; have H' := Az H; clear H
   go_enter Try.func133, Try.ntmps133
   go_wp2_with (first | ((with_reducible refine gate_dst (N := 8) rfl ?_); refine Kd.S_lit (Kd.slice 3 (Kd.int .i64)) _ 23 ?hg (N := 8) ?hd (xs := ([] : List (List Int))) (inner := []) (ok := fun _ => True) (okp := fun _ => True) ?hr ?hp (fun _ hk => hk) trivial (Below.refl _ _) (Nat.le_refl _) (by simp) ?_; (case hd => rfl); (case hg => rfl); (case hr => first | (go_simp; done) | (go_simp; rfl)); (case hp => exact (Reps.none _ _)); intro v319 w4 ho5 hb hg_ hnew_; clear hg_ hnew_; (first | rw [← Ny318.out] at ho5 | (simp only [Int.reduceToNat] at ho5; rw [← Ny318.out] at ho5)); have n0 := Az (Kd.S_lower ho5 (below_size (bU0 HB.out))); have n1 := Az (below_step (bU0 HB.out) hb); clear HB; have HO320 := n0; have HB := n1; clear n0 n1; clear hb ho5) | ((with_reducible refine gate_dst (N := 11) rfl ?_); refine Kd.R_make Kd.bool _ 4 rfl (N := 11) rfl 92 _ _ rfl (l0.length : Int) rfl rfl Try.underlying92 (.bool false) 1 info4 rfl (by decide) (by omega) false (ok := fun _ => True) (okp := fun _ => True) rfl (fun _ hk => hk) trivial (oA) (Nat.le_trans (Nat.mul_le_mul_right _ (oA : (l0.length : Int).toNat ≤ 281474976710656)) (by omega)) (Below.refl _ _) (Nat.le_refl _) ?_; intro v322 w6 ho7 hb hg_ hnew_; clear hg_ hnew_; (first | rw [← Ny321.out] at ho7 | (simp only [Int.reduceToNat] at ho7; rw [← Ny321.out] at ho7)); have n0 := Az (Kd.S_below (sU HO320.out) hb); have n1 := Az (Kd.R_lower ho7 (below_size (bU0 HB.out))); have n2 := Az (below_step (bU0 HB.out) hb); clear HO320 HB; have HO320 := n0; have HO323 := n1; have HB := n2; clear n0 n1 n2; clear hb ho7))
   go_loopg [3, 5] k (fun kq v3 v5 w' => ∃ (x3_1 : List (List Int)) (x4_1 : List Bool) (x5_1 : Int), v5 = .int .i64 x5_1 ∧ Aside0 (spec_l1Cycles.l0 kq l0 x3_1 x4_1 x5_1 = some r) ∧ Aside0 (kq ≤ k) ∧ Aside0 (Kd.S (Kd.slice 3 (Kd.int .i64)) 23 w' w.heap.size (fun _ => True) v3 x3_1) ∧ Aside0 (Kd.R Kd.bool 4 w' w.heap.size (fun _ => True) v322 x4_1) ∧ Aside0 (Below w.heap.size w w'))
   case atStart => exact ⟨(y318), (y321), (0), rS, H', ⟨Nat.le_refl _⟩, ⟨sU HO320.out⟩, ⟨rU HO323.out⟩, ⟨bU0 HB.out⟩⟩
   case round =>
    clear H'; (try clear c1); (try clear c2); (try clear c2b0); (try clear c2b1); (try clear p2); (try clear c3); (try clear c3b0); (try clear c3b1); obtain ⟨x3_1, x4_1, x5_1, rfl, HA, HK1, HO_3, HO_4, HB⟩ := hrel
    cases gk with
    | zero => exact absurd HA.out (by simp [spec_l1Cycles.l0])
    | succ k1 =>
     have H := HA.out; clear HA; simp only [spec_l1Cycles.l0] at H
     by_cases c8 : x5_1 < (l0.length : Int)
     ·
      rw [if_pos c8] at H; have c8b0 := decide_eq_true c8; clear c8
      by_cases c9 : 0 ≤ x5_1
      ·
       rw [if_pos c9] at H; have c9b0 := decide_eq_true c9; clear c9
       by_cases c10 : x5_1 < (x4_1.length : Int)
       ·
        rw [if_pos c10] at H; have c10b0 := decide_eq_true c10; clear c10; obtain ⟨bq11, hbq11⟩ : ∃ b_ : Bool, b_ = (rdOf false x4_1 x5_1) := ⟨_, rfl⟩
        replace H : (if bq11 = true then (spec_l1Cycles.l0 k1 l0 x3_1 x4_1 (wrap64 (x5_1 + 1))) else (spec_l1Cycles.l1 k1 l0 x3_1 x4_1 x5_1 (([] : List Int)) x5_1)) = some r := by rw [← hbq11] at H; exact H
        have Nbq11 := Az hbq11; clear hbq11
        by_cases c12 : bq11 = true
        ·
         subst c12
         have H1 : (spec_l1Cycles.l0 k1 l0 x3_1 x4_1 (wrap64 (x5_1 + 1))) = some r := by rw [if_pos rfl] at H; exact H
         clear H; have H := H1; clear H1; have H' := Az H; clear H; obtain ⟨Ao13, co13, eo13⟩ := Kd.R_slice HO_4.out; subst eo13; have p324 : 0 ≤ (x5_1 : Int) := oA; have q324 : x5_1 < (x4_1.length : Int) := oA; obtain ⟨ad324, e324, hx324_0⟩ := Kd.at_bool (Kd.R_reads' HO_4.out).2.2 x5_1 p324 q324; (try rw [← Nbq11.out] at hx324_0)
         cases e324
         replace p324 := eq_true p324; replace q324 := eq_true q324
         go_wp2
         (first | go_roundg k1 | (refine Handed.intro k1 ?measure ?_; rotate_left; go_step; (try simp only [add_plain]); (repeat apply Exists.intro); refine ⟨?rel, rfl⟩))
         case measure => have := HK1.out; omega
         case rel => exact ⟨(x3_1), (x4_1), (wrap64 (x5_1 + 1)), rS, H', ⟨by have := HK1.out; omega⟩, ⟨sU HO_3.out⟩, ⟨rU HO_4.out⟩, ⟨bU0 HB.out⟩⟩
        ·
         replace c12 := Bool.eq_false_iff.mpr c12; subst c12
         have H1 : (spec_l1Cycles.l1 k1 l0 x3_1 x4_1 x5_1 (([] : List Int)) x5_1) = some r := by rw [if_neg (show ¬ (false = true) by decide)] at H; exact H
         clear H; have H := H1; clear H1; obtain ⟨y325, hy325⟩ : ∃ y_ : List Int, y_ = (([] : List Int)) := ⟨_, rfl⟩; replace H : (spec_l1Cycles.l1 k1 l0 x3_1 x4_1 x5_1 y325 x5_1) = some r := hR hy325 H; have Ny325 := Az hy325; clear hy325; have H' := Az H; clear H; obtain ⟨Ao14, co14, eo14⟩ := Kd.R_slice HO_4.out; subst eo14; have p324 : 0 ≤ (x5_1 : Int) := oA; have q324 : x5_1 < (x4_1.length : Int) := oA; obtain ⟨ad324, e324, hx324_0⟩ := Kd.at_bool (Kd.R_reads' HO_4.out).2.2 x5_1 p324 q324; (try rw [← Nbq11.out] at hx324_0)
         cases e324
         replace p324 := eq_true p324; replace q324 := eq_true q324
         go_wp2_with (first | ((with_reducible refine gate_dst (N := 22) rfl ?_); refine Kd.R_lit (Kd.int .i64) _ 3 ?hg (N := 22) ?hd (xs := ([] : List Int)) (inner := []) (ok := fun _ => True) (okp := fun _ => True) ?hr ?hp (fun _ hk => hk) trivial (Below.refl _ _) (Nat.le_refl _) (by simp) ?_; (case hd => rfl); (case hg => rfl); (case hr => first | (go_simp; done) | (go_simp; rfl)); (case hp => exact (Reps.none _ _)); intro v326 w15 ho16 hb hg_ hnew_; clear hg_ hnew_; (first | rw [← Ny325.out] at ho16 | (simp only [Int.reduceToNat] at ho16; rw [← Ny325.out] at ho16)); have n0 := Az (Kd.S_elder' (sU HO_3.out) (Kd.R_base ho16) hb); have n1 := Az (Kd.R_below (rU HO_4.out) hb); have n2 := Az (Kd.R_lower ho16 (below_size (bU0 HB.out))); have n3 := Az (below_step (bU0 HB.out) hb); clear HO_3 HO_4 HB; have HO_3 := n0; have HO_4 := n1; have HO327 := n2; have HB := n3; clear n0 n1 n2 n3; clear hb ho16))
         go_loopg [6, 7] k1 (fun kq v6 v7 w' => ∃ (x4_2 : List Bool) (x6_2 : List Int) (x7_2 : Int), v7 = .int .i64 x7_2 ∧ Aside0 (spec_l1Cycles.l1 kq l0 x3_1 x4_2 x5_1 x6_2 x7_2 = some r) ∧ Aside0 (kq ≤ k1) ∧ Aside0 (Kd.S (Kd.slice 3 (Kd.int .i64)) 23 w' w.heap.size (fun k_ => some k_ ≠ (v6 : Value).ownBlock) u3 x3_1) ∧ Aside0 (Kd.R Kd.bool 4 w' w.heap.size (fun _ => True) (.slice (some ad324) x4_1.length co14) x4_2) ∧ Aside0 (Kd.R (Kd.int .i64) 3 w' w.heap.size (fun _ => True) v6 x6_2) ∧ Aside0 (Below w.heap.size w w'))
         case atStart => exact ⟨(x4_1), (y325), (x5_1), rS, H', ⟨Nat.le_refl _⟩, ⟨by (with_reducible repeat (first | apply Kd.S_alloc | apply Kd.S_drewN | apply Kd.S_drew)); exact Kd.S_mono HO_3.out (fun _ hk => hk.2)⟩, ⟨rU HO_4.out⟩, ⟨rU HO327.out⟩, ⟨bU0 HB.out⟩⟩
         case round =>
          clear H'; (try clear c1); (try clear q1); (try clear c2); (try clear c2b0); (try clear c2b1); (try clear p2); (try clear c3); (try clear c3b0); (try clear c3b1); (try clear p3); (try clear q3); (try clear hx3); (try clear p6); (try clear c8); (try clear c8b0); (try clear c9); (try clear c9b0); (try clear c10); (try clear c10b0); (try clear q11); (try clear c12); (try clear c13); (try clear hx324_0); (try clear p2); (try clear p324); (try clear q324); obtain ⟨x4_2, x6_2, x7_2, rfl, HA, HK2, HO_3, HO_4, HO_6, HB⟩ := hrel; have hl4_2 := (Kd.R_reads' HO_4.out).1; rw [hl4_2] at HO_4; (try simp only [hl4_2]); (try simp only [hl4_2] at HO_3); (try simp only [hl4_2] at HO_6)
          cases gk with
          | zero => exact absurd HA.out (by simp [spec_l1Cycles.l1])
          | succ k2 =>
           have H := HA.out; clear HA; simp only [spec_l1Cycles.l1] at H
           by_cases c17 : 0 ≤ x7_2
           ·
            rw [if_pos c17] at H; have c17b0 := decide_eq_true c17; clear c17
            by_cases c18 : x7_2 < (x4_2.length : Int)
            ·
             rw [if_pos c18] at H; have c18b0 := decide_eq_true c18; (try (have c18b0hl4_2 := c18b0; rw [hl4_2] at c18b0hl4_2)); clear c18; obtain ⟨bq19, hbq19⟩ : ∃ b_ : Bool, b_ = (rdOf false x4_2 x7_2) := ⟨_, rfl⟩
             replace H : (if bq19 = true then (if x3_1.length < 5864062014805 then (spec_l1Cycles.l0 k2 l0 (x3_1 ++ [x6_2]) x4_2 (wrap64 (x5_1 + 1))) else (none)) else (if x6_2.length < 17592186044416 then (if x7_2 < (l0.length : Int) then (spec_l1Cycles.l1 k2 l0 x3_1 (x4_2.set (x7_2 : Int).toNat true) x5_1 (x6_2 ++ [x7_2]) (rd l0 x7_2)) else (none)) else (none))) = some r := by rw [← hbq19] at H; exact H
             have Nbq19 := Az hbq19; clear hbq19
             by_cases c20 : bq19 = true
             ·
              subst c20
              have H1 : (if x3_1.length < 5864062014805 then (spec_l1Cycles.l0 k2 l0 (x3_1 ++ [x6_2]) x4_2 (wrap64 (x5_1 + 1))) else (none)) = some r := by rw [if_pos rfl] at H; exact H
              clear H; have H := H1; clear H1
              by_cases c21 : x3_1.length < 5864062014805
              ·
               rw [if_pos c21] at H; have LMc21 := Az c21; clear c21; obtain ⟨y329, hy329⟩ : ∃ y_ : List (List Int), y_ = (x3_1 ++ [x6_2]) := ⟨_, rfl⟩; replace H : (spec_l1Cycles.l0 k2 l0 y329 x4_2 (wrap64 (x5_1 + 1))) = some r := hR hy329 H; have Ny329 := Az hy329; clear hy329; have H' := Az H; clear H; have p328 : 0 ≤ (x7_2 : Int) := oA; have q328 : x7_2 < (x4_2.length : Int) := oA; obtain ⟨ad328, e328, hx328_0⟩ := Kd.at_bool (Kd.R_reads' HO_4.out).2.2 x7_2 p328 q328; (try rw [← Nbq11.out] at hx328_0); (try rw [← Nbq19.out] at hx328_0); obtain rfl : ad324 = ad328 := (by injection e328); replace p328 := eq_true p328; replace q328 := eq_true q328; obtain ⟨Ao23, co23, eo23⟩ := Kd.R_slice HO_6.out; subst eo23
               go_wp2_with (first | ((with_reducible refine gate_builtin (b := .append) (xs := #[.tmp 40, .tmp 42]) rfl ?_); at_builtin; refine Kd.S_append (Kd.slice 3 (Kd.int .i64)) (w0 := w) w.heap.size rfl (.tmp 40) (.tmp 42) 45 23 (.slice none 0 0) 24 rfl Try.underlying45 info23 rfl (by decide) (by omega) u3 x3_1 x6_2 [.slice Ao23 x6_2.length co23] (fun _ => True) (fun k_ => some k_ = (.slice Ao23 x6_2.length co23 : Value).ownBlock) rfl rfl ?aP (fun k_ hk_ => ((Kd.R_mono (ok' := fun k_ => ((fun _ => True)) k_ ∧ some k_ ≠ (u3 : Value).ownBlock) (Kd.R_apart' (HO_6.out) (Kd.S_typed HO_3.out) (by decide)) (fun k_ hk => ⟨trivial, hk.2⟩))).1 k_ hk_.symm) ?aF ?aO ?aB ?aS ?aL ?_; (case aP => exact Kd.M_row (Kd.R_mono (Kd.R_tight rfl (Kd.R_mono (ok' := fun k_ => ((fun _ => True)) k_ ∧ some k_ ≠ (u3 : Value).ownBlock) (Kd.R_apart' (HO_6.out) (Kd.S_typed HO_3.out) (by decide)) (fun k_ hk => ⟨trivial, hk.2⟩))) (fun _ h_ => h_))); (case aB => exact (bU0 HB.out)); (case aF => exact (fun _ _ => trivial)); (case aO => exact (by (with_reducible repeat (first | apply Kd.S_alloc | apply Kd.S_drewN | apply Kd.S_drew)); exact Kd.S_mono HO_3.out (fun k_ hk => ⟨trivial, fun e_ => hk e_⟩))); (case aS => exact (below_size (bU0 HB.out))); (case aL => have := LMc21.out; omega); intro v330 w22 ho hb hg hat; rw [← Ny329.out] at ho; have n0 := Az (Kd.R_over' (rU HO_4.out) (Kd.S_typed (sU HO_3.out)) (by decide) hg); have n1 := Az (hb); have n2 := Az (ho); clear HO_4 HB HO_3 HO_6; have HO_4 := n0; have HB := n1; have HO331 := n2; clear n0 n1 n2; clear ho hb hg hat))
               (try simp only [← hl4_2]); (first | go_roundg k2 | (refine Handed.intro k2 ?measure ?_; rotate_left; go_step; (try simp only [add_plain]); (repeat apply Exists.intro); refine ⟨?rel, rfl⟩))
               case measure => have := HK1.out; have := HK2.out; omega
               case rel => exact ⟨(y329), (x4_2), (wrap64 (x5_1 + 1)), rS, H', ⟨by have := HK1.out; have := HK2.out; omega⟩, ⟨by (try simp only [hl4_2]); (with_reducible repeat (first | apply Kd.S_alloc | apply Kd.S_drewN | apply Kd.S_drew)); exact HO331.out⟩, ⟨by (try simp only [hl4_2]); (with_reducible repeat (first | apply Kd.R_alloc | apply Kd.R_drewN | apply Kd.R_drew)); exact HO_4.out⟩, ⟨bU0 HB.out⟩⟩
              ·
               rw [if_neg c21] at H
               exact absurd H (by simp)
             ·
              replace c20 := Bool.eq_false_iff.mpr c20; subst c20
              have H1 : (if x6_2.length < 17592186044416 then (if x7_2 < (l0.length : Int) then (spec_l1Cycles.l1 k2 l0 x3_1 (x4_2.set (x7_2 : Int).toNat true) x5_1 (x6_2 ++ [x7_2]) (rd l0 x7_2)) else (none)) else (none)) = some r := by rw [if_neg (show ¬ (false = true) by decide)] at H; exact H
              clear H; have H := H1; clear H1; obtain ⟨y332, hy332⟩ : ∃ y_ : List Bool, y_ = (x4_2.set (x7_2 : Int).toNat true) := ⟨_, rfl⟩; replace H : (if x6_2.length < 17592186044416 then (if x7_2 < (l0.length : Int) then (spec_l1Cycles.l1 k2 l0 x3_1 y332 x5_1 (x6_2 ++ [x7_2]) (rd l0 x7_2)) else (none)) else (none)) = some r := hR hy332 H; have Ny332 := Az hy332; clear hy332
              by_cases c25 : x6_2.length < 17592186044416
              ·
               rw [if_pos c25] at H; have LMc25 := Az c25; clear c25; obtain ⟨y333, hy333⟩ : ∃ y_ : List Int, y_ = (x6_2 ++ [x7_2]) := ⟨_, rfl⟩; replace H : (if x7_2 < (l0.length : Int) then (spec_l1Cycles.l1 k2 l0 x3_1 y332 x5_1 y333 (rd l0 x7_2)) else (none)) = some r := hR hy333 H; have Ny333 := Az hy333; clear hy333
               by_cases c26 : x7_2 < (l0.length : Int)
               ·
                rw [if_pos c26] at H; have c26b0 := decide_eq_true c26; (try (have c26b0hl4_2 := c26b0; rw [hl4_2] at c26b0hl4_2)); clear c26; have H' := Az H; clear H; have p328 : 0 ≤ (x7_2 : Int) := oA; have q328 : x7_2 < (x4_2.length : Int) := oA; obtain ⟨ad328, e328, hx328_0⟩ := Kd.at_bool (Kd.R_reads' HO_4.out).2.2 x7_2 p328 q328; (try rw [← Nbq11.out] at hx328_0); (try rw [← Nbq19.out] at hx328_0); obtain rfl : ad324 = ad328 := (by injection e328); replace p328 := eq_true p328; replace q328 := eq_true q328; have p24 : 0 ≤ (x7_2 : Int) := oA; have q24 : (x7_2 : Int) < ((x4_2.length : Int) : Int) := oA; obtain ⟨go24, co24, eo24, gb24, gl24, cl24, HG24⟩ := Kd.R_form HO_4.out (by omega); (first | cases eo24 | (injection eo24 with ea_ en_ ec_; (first | subst ea_ | (injection ea_ with ea_; subst ea_)); subst ec_; clear en_)); have GB24 := Az gb24; have GG24 := Az HG24; clear gb24 gl24 HG24; (first | simp only [add_plain] at hx324_0 | skip); (first | simp only [add_plain] at hx328_0 | skip); obtain ⟨hx24_0, hf24_0⟩ := Kd.R_celln false HO_4.out (x7_2 : Int) p24 q24; replace p24 := eq_true p24; replace q24 := eq_true q24; obtain ⟨hy27_, hz27_⟩ := Kd.R_celln false HO_4.out (x7_2 : Int) (oA) (oA); have HP27 := Kd.R_putg HO_4.out (x7_2 : Int) true
                go_wp2_with (first | ((with_reducible refine gate_store (t := 4) (p := 35) rfl ?_); refine store_event (t := 4) (p := 35) (v := ?vo_w28) (w1 := (wr.setCell ⟨go24, (x7_2 : Int).toNat, none⟩ (.bool true))) ?hg ?ho ?hn ?hr ?_; (case ho => rfl); (case hg => rfl); (case hn => rfl); (case hr => first | (go_simp; done) | (go_simp; rfl)); intro w28 hw; have hg : wr.grownBy w28 (some go24) := (by rw [hw]; exact HP27.2); have hp_ : Kd.R Kd.bool 4 w28 w.heap.size (fun _ => True) (.slice (some ⟨go24, 0, none⟩) x4_2.length co14) y332 := (by rw [hw, Ny332.out]; exact HP27.1); clear HP27; have n0 := Az (Kd.S_over' (v := (.slice (some ⟨go24, 0, none⟩) x4_2.length co14)) (sU HO_3.out) (Kd.R_typed HO_4.out) (by decide) hg); have n1 := Az (hp_); have n2 := Az (Kd.R_over' (v := (.slice (some ⟨go24, 0, none⟩) x4_2.length co14)) (rU HO_6.out) (Kd.R_typed HO_4.out) (by decide) hg); have n3 := Az ((by rw [hw]; exact below_set (HB.out) GB24.out : Below w.heap.size w w28)); clear HO_3 HO_4 HO_6 HB; have HO_3 := n0; have HO_4 := n1; have HO_6 := n2; have HB := n3; clear n0 n1 n2 n3; clear hg hw hp_) | ((with_reducible refine gate_builtin (b := .append) (xs := #[.tmp 36, .tmp 38]) rfl ?_); at_builtin; refine Kd.R_append (Kd.int .i64) (w0 := w) w.heap.size rfl (.tmp 36) (.tmp 38) 23 3 (.int .i64 0) 8 rfl Try.underlying23 info3 rfl (by decide) (by omega) u6 x6_2 x7_2 [.int .i64 x7_2] (fun _ => True) (fun _ => False) rfl rfl ?aP (fun _ hk => hk.elim) ?aF ?aO ?aB ?aS ?aL ?_; (case aP => exact rfl); (case aB => exact (bU0 HB.out)); (case aF => exact (fun _ _ => trivial)); (case aO => exact (rU HO_6.out)); (case aS => exact (below_size (bU0 HB.out))); (case aL => have := LMc25.out; omega); intro v334 w29 ho hb hg hat; rw [← Ny333.out] at ho; have n0 := Az (Kd.S_after (ok := (fun _ => True)) (by (with_reducible repeat (first | apply Kd.S_alloc | apply Kd.S_drewN | apply Kd.S_drew)); exact Kd.S_mono HO_3.out (fun _ hk => ⟨trivial, hk⟩)) hg hat); have n1 := Az (Kd.R_over' (rU HO_4.out) (Kd.R_typed (rU HO_6.out)) (by decide) hg); have n2 := Az (hb); have n3 := Az (ho); clear HO_3 HO_4 HB HO_6; have HO_3 := n0; have HO_4 := n1; have HB := n2; have HO335 := n3; clear n0 n1 n2 n3 ho hb hg hat; have p336 : 0 ≤ (x7_2 : Int) := oA; have q336 : x7_2 < (l0.length : Int) := oA; obtain ⟨ad336, e336, hx336_0⟩ := Kd.at_int HR0.out x7_2 p336 q336; cases e336; replace hx336_0 := (HB.out.cell (World.block_lt_of_cell? w _ hx336_0)).trans hx336_0; replace p336 := eq_true p336; replace q336 := eq_true q336))
                (try simp only [← hl4_2]); (first | go_roundg k2 | (refine Handed.intro k2 ?measure ?_; rotate_left; go_step; (try simp only [add_plain]); (repeat apply Exists.intro); refine ⟨?rel, rfl⟩))
                case measure => have := HK1.out; have := HK2.out; omega
                case rel => exact ⟨(y332), (y333), (rd l0 x7_2), rS, H', ⟨by have := HK1.out; have := HK2.out; omega⟩, ⟨by (try simp only [hl4_2]); (with_reducible repeat (first | apply Kd.S_alloc | apply Kd.S_drewN | apply Kd.S_drew)); exact Kd.S_mono HO_3.out (fun _ hk => hk.2)⟩, ⟨by (try simp only [hl4_2]); (with_reducible repeat (first | apply Kd.R_alloc | apply Kd.R_drewN | apply Kd.R_drew)); exact HO_4.out⟩, ⟨by (try simp only [hl4_2]); (with_reducible repeat (first | apply Kd.R_alloc | apply Kd.R_drewN | apply Kd.R_drew)); exact HO335.out⟩, ⟨bU0 HB.out⟩⟩
               ·
                rw [if_neg c26] at H
                exact absurd H (by simp)
              ·
               rw [if_neg c25] at H
               exact absurd H (by simp)
            ·
             rw [if_neg c18] at H
             exact absurd H (by simp)
           ·
            rw [if_neg c17] at H
            exact absurd H (by simp)
       ·
        rw [if_neg c10] at H
        exact absurd H (by simp)
      ·
       rw [if_neg c9] at H
       exact absurd H (by simp)
     ·
      rw [if_neg c8] at H; have c8b0 := decide_eq_false c8; clear c8; obtain rfl := Option.some.inj H
      go_wp2
      go_ret
      exact ⟨_, rE, sU HO_3.out, bU0 HB.out⟩
  ·
   rw [if_neg c3] at H
   exact absurd H (by simp)
 ·
  rw [if_neg c2] at H
  exact absurd H (by simp)
mutual
def spec_l1Type.l0 : Nat → List Int → List (List Int) → Int → Option (List Int)
 | 0, _, _, _ => none
 | k + 1, x3, x4, x5 => if x5 > 0 then (spec_l1Type.l1 k x3 x4 x5 0) else (some x3)
def spec_l1Type.l1 : Nat → List Int → List (List Int) → Int → Int → Option (List Int)
 | 0, _, _, _, _ => none
 | k + 1, x3, x4, x5, x6 => if x6 < (x4.length : Int) then (if 0 ≤ x6 then (if ((rd_L1 x4 x6).length : Int) = x5 then (if x3.length < 17592186044416 then (spec_l1Type.l1 k (x3 ++ [x5]) x4 x5 (wrap64 (x6 + 1))) else (none)) else (spec_l1Type.l1 k x3 x4 x5 (wrap64 (x6 + 1)))) else (none)) else (spec_l1Type.l0 k x3 x4 (wrap64 (x5 - 1)))
end
def spec_l1Type.f (k : Nat) (l0 : List Int) : Option (List Int) := (spec_l1Cycles.f k l0).bind fun t340 => (spec_l1Type.l0 k (([] : List Int)) t340 (l0.length : Int))
set_option maxHeartbeats 8000000 in
set_option maxRecDepth 100000 in
theorem spec_l1Type.calls (k : Nat) (A0 : Option Addr) (c0 : Nat) (l0 : List Int) (r : List Int) (w : World) (hr0 : Kd.C (Kd.int .i64) w A0 l0.length l0) (hc0 : l0.length ≤ c0) (h : spec_l1Type.f k l0 = some r) :
  Calls Try.prog 89 #[.slice A0 l0.length c0] w fun e w' => ∃ v0_ : Value, e = .returned (v0_) ∧ Kd.R (Kd.int .i64) 3 w' w.heap.size (fun _ => True) v0_ r ∧ Below w.heap.size w w' := by
 have HR0 := Az hr0; have HC0 := Az hc0; clear hr0 hc0; have HB := Az (Below.refl w.heap.size w); have H : ((spec_l1Cycles.f k l0).bind fun t340 => (spec_l1Type.l0 k (([] : List Int)) t340 (l0.length : Int))) = some r := h; clear h; obtain ⟨y337, hy337⟩ : ∃ y_ : List Int, y_ = (([] : List Int)) := ⟨_, rfl⟩; replace H : ((spec_l1Cycles.f k l0).bind fun t340 => (spec_l1Type.l0 k y337 t340 (l0.length : Int))) = some r := hR hy337 H; have Ny337 := Az hy337; clear hy337; replace H := Option.bind_eq_some_iff.mp H; obtain ⟨t340, A20, H⟩ := H; replace H : (spec_l1Type.l0 k y337 t340 (l0.length : Int)) = some r := H; have A2 := Az A20; clear A20; have H' := Az H; clear H
 go_enter Try.func89, Try.ntmps89
 go_wp2_with (first | ((with_reducible refine gate_dst (N := 7) rfl ?_); refine Kd.R_lit (Kd.int .i64) _ 3 ?hg (N := 7) ?hd (xs := ([] : List Int)) (inner := []) (ok := fun _ => True) (okp := fun _ => True) ?hr ?hp (fun _ hk => hk) trivial (Below.refl _ _) (Nat.le_refl _) (by simp) ?_; (case hd => rfl); (case hg => rfl); (case hr => first | (go_simp; done) | (go_simp; rfl)); (case hp => exact (Reps.none _ _)); intro v338 w3 ho4 hb hg_ hnew_; clear hg_ hnew_; (first | rw [← Ny337.out] at ho4 | (simp only [Int.reduceToNat] at ho4; rw [← Ny337.out] at ho4)); have n0 := Az (Kd.R_lower ho4 (below_size (bU0 HB.out))); have n1 := Az (below_step (bU0 HB.out) hb); clear HB; have HO339 := n0; have HB := n1; clear n0 n1; clear hb ho4) | ((with_reducible refine gate_callee (f := 133) rfl ?_); refine goesL_ (some 9) rfl rfl Try.func133 (by kernel_rfl) rfl #[.slice A0 l0.length c0] rfl (by (try simp only [List.map_toArray, List.map_cons, List.map_nil]); first | done | rfl | (simp only [List.length_drop, List.length_take]; rfl)) ?_; (with_reducible refine (spec_l1Cycles.calls k _ _ l0 t340 _ ?side1 ?side2 A2.out).mono ?_); (case side1 => exact cU (Kd.C_below HR0.out HB.out)); (case side2 => exact HC0.out); rintro e w5 ⟨v341, rfl, ho0, hb⟩; refine ⟨_, rfl, ?_⟩; have n0 := Az (Kd.R_below (rU HO339.out) hb); have n1 := Az (Kd.S_lower (Kd.S_new' ho0 (Kd.R_lt (rU HO339.out))) (below_size (bU0 HB.out))); have n2 := Az (below_step (bU0 HB.out) hb); clear HO339 HB; have HO339 := n0; have HO342 := n1; have HB := n2; clear n0 n1 n2; (try clear hb); (try clear hb2); (try clear hk); (try clear hi); (try clear ho0)))
 go_loopg [3, 5] k (fun kq v3 v5 w' => ∃ (x3_1 : List Int) (x5_1 : Int), v5 = .int .i64 x5_1 ∧ Aside0 (spec_l1Type.l0 kq x3_1 t340 x5_1 = some r) ∧ Aside0 (kq ≤ k) ∧ Aside0 (Kd.R (Kd.int .i64) 3 w' w.heap.size (fun _ => True) v3 x3_1) ∧ Aside0 (Kd.S (Kd.slice 3 (Kd.int .i64)) 23 w' w.heap.size (fun k_ => some k_ ≠ (v3 : Value).ownBlock) v341 t340) ∧ Aside0 (Below w.heap.size w w'))
 case atStart => exact ⟨(y337), ((l0.length : Int)), rS, H', ⟨Nat.le_refl _⟩, ⟨rU HO339.out⟩, ⟨by (with_reducible repeat (first | apply Kd.S_alloc | apply Kd.S_drewN | apply Kd.S_drew)); exact Kd.S_mono HO342.out (fun _ hk => hk.2)⟩, ⟨bU0 HB.out⟩⟩
 case round =>
  clear H'; (try clear c1); (try clear p2); obtain ⟨x3_1, x5_1, rfl, HA, HK1, HO_3, HO_4, HB⟩ := hrel
  cases gk with
  | zero => exact absurd HA.out (by simp [spec_l1Type.l0])
  | succ k1 =>
   have H := HA.out; clear HA; simp only [spec_l1Type.l0] at H
   by_cases c6 : x5_1 > 0
   ·
    rw [if_pos c6] at H; have c6b0 := decide_eq_true c6; clear c6; have H' := Az H; clear H
    go_wp2
    go_loopg [3, 6] k1 (fun kq v3 v6 w' => ∃ (x3_2 : List Int) (x6_2 : Int), v6 = .int .i64 x6_2 ∧ Aside0 (spec_l1Type.l1 kq x3_2 t340 x5_1 x6_2 = some r) ∧ Aside0 (kq ≤ k1) ∧ Aside0 (Kd.R (Kd.int .i64) 3 w' w.heap.size (fun _ => True) v3 x3_2) ∧ Aside0 (Kd.S (Kd.slice 3 (Kd.int .i64)) 23 w' w.heap.size (fun k_ => some k_ ≠ (v3 : Value).ownBlock) v341 t340) ∧ Aside0 (Below w.heap.size w w'))
    case atStart => exact ⟨(x3_1), (0), rS, H', ⟨Nat.le_refl _⟩, ⟨rU HO_3.out⟩, ⟨sU HO_4.out⟩, ⟨bU0 HB.out⟩⟩
    case round =>
     clear H'; (try clear c1); (try clear p2); (try clear c6); (try clear c6b0); (try clear p2); obtain ⟨x3_2, x6_2, rfl, HA, HK2, HO_3, HO_4, HB⟩ := hrel
     cases gk with
     | zero => exact absurd HA.out (by simp [spec_l1Type.l1])
     | succ k2 =>
      have H := HA.out; clear HA; simp only [spec_l1Type.l1] at H
      by_cases c7 : x6_2 < (t340.length : Int)
      ·
       rw [if_pos c7] at H; have c7b0 := decide_eq_true c7; clear c7
       by_cases c8 : 0 ≤ x6_2
       ·
        rw [if_pos c8] at H; have c8b0 := decide_eq_true c8; clear c8
        by_cases c9 : ((rd_L1 t340 x6_2).length : Int) = x5_1
        ·
         rw [if_pos c9] at H; have c9b0 := beq_iff_eq.mpr c9; have c9b1 := bne_eq_false_iff_eq.mpr c9; clear c9
         by_cases c10 : x3_2.length < 17592186044416
         ·
          rw [if_pos c10] at H; have LMc10 := Az c10; clear c10; obtain ⟨y344, hy344⟩ : ∃ y_ : List Int, y_ = (x3_2 ++ [x5_1]) := ⟨_, rfl⟩; replace H : (spec_l1Type.l1 k2 y344 t340 x5_1 (wrap64 (x6_2 + 1))) = some r := hR hy344 H; have Ny344 := Az hy344; clear hy344; have H' := Az H; clear H; obtain ⟨Ao11, co11, eo11⟩ := Kd.S_slice HO_4.out; subst eo11; have p343 : 0 ≤ (x6_2 : Int) := oA; have q343 : x6_2 < (t340.length : Int) := oA; obtain ⟨ad343, A343_0, c343_0, e343, hx343_0, hl343_0, hi343_0⟩ := at_L1 (Kd.S_reads' HO_4.out).2.2 x6_2 p343 q343
          cases e343
          obtain ⟨ce343, hce343, hMe343, hcc343⟩ := Kd.S_get HO_4.out [] x6_2 p343 (by first | exact q343 | exact oA | (have e_ := (Kd.S_reads' HO_4.out).1; omega)); obtain ⟨ve343_0, rfl, ge343_0⟩ := hMe343; have hv343_0 := hcc343 0 _ rfl; rw [Nat.add_zero, show ((Kd.slice 3 (Kd.int .i64))).sz = 1 from rfl, Nat.mul_one] at hv343_0; replace hv343_0 := Option.some.inj (hv343_0.symm.trans hx343_0); rw [hv343_0] at ge343_0; have HL343_0 := Az (show Kd.R (Kd.int .i64) 3 _ _ _ _ (rd_L1 t340 x6_2) from ge343_0); clear hv343_0 ge343_0 hcc343 hce343; have HR343_0 := Az hi343_0; have HC343_0 := Az hl343_0; clear hi343_0 hl343_0; replace p343 := eq_true p343; replace q343 := eq_true q343
          go_wp2_with (first | ((with_reducible refine gate_builtin (b := .append) (xs := #[.tmp 29, .tmp 31]) rfl ?_); at_builtin; refine Kd.R_append (Kd.int .i64) (w0 := w) w.heap.size rfl (.tmp 29) (.tmp 31) 23 3 (.int .i64 0) 8 rfl Try.underlying23 info3 rfl (by decide) (by omega) u3 x3_2 x5_1 [.int .i64 x5_1] (fun _ => True) (fun _ => False) rfl rfl ?aP (fun _ hk => hk.elim) ?aF ?aO ?aB ?aS ?aL ?_; (case aP => exact rfl); (case aB => exact (bU0 HB.out)); (case aF => exact (fun _ _ => trivial)); (case aO => exact (rU HO_3.out)); (case aS => exact (below_size (bU0 HB.out))); (case aL => have := LMc10.out; omega); intro v345 w12 ho hb hg hat; rw [← Ny344.out] at ho; have n0 := Az (Kd.S_after (ok := (fun _ => True)) (by (with_reducible repeat (first | apply Kd.S_alloc | apply Kd.S_drewN | apply Kd.S_drew)); exact Kd.S_mono HO_4.out (fun _ hk => ⟨trivial, hk⟩)) hg hat); have n1 := Az (Kd.R_after (ok := (fun k_ => some k_ ≠ (.slice (some ad343) t340.length co11 : Value).ownBlock)) (by (with_reducible repeat (first | apply Kd.R_alloc | apply Kd.R_drewN | apply Kd.R_drew)); exact Kd.R_mono HL343_0.out (fun _ hk => ⟨hk.2, hk.1⟩)) hg hat); have n2 := Az (hb); have n3 := Az (ho); clear HO_4 HL343_0 HB HO_3; have HO_4 := n0; have HL343_0 := n1; have HB := n2; have HO346 := n3; clear n0 n1 n2 n3; clear ho hb hg hat))
          (first | go_roundg k2 | (refine Handed.intro k2 ?measure ?_; rotate_left; go_step; (try simp only [add_plain]); (repeat apply Exists.intro); refine ⟨?rel, rfl⟩))
          case measure => have := HK1.out; have := HK2.out; omega
          case rel => exact ⟨(y344), (wrap64 (x6_2 + 1)), rS, H', ⟨by have := HK1.out; have := HK2.out; omega⟩, ⟨rU HO346.out⟩, ⟨by (with_reducible repeat (first | apply Kd.S_alloc | apply Kd.S_drewN | apply Kd.S_drew)); exact Kd.S_mono HO_4.out (fun _ hk => hk.2)⟩, ⟨bU0 HB.out⟩⟩
         ·
          rw [if_neg c10] at H
          exact absurd H (by simp)
        ·
         rw [if_neg c9] at H; have c9b0 := beq_eq_false_iff_ne.mpr c9; have c9b1 := bne_iff_ne.mpr c9; have H' := Az H; clear H; obtain ⟨Ao13, co13, eo13⟩ := Kd.S_slice HO_4.out; subst eo13; have p343 : 0 ≤ (x6_2 : Int) := oA; have q343 : x6_2 < (t340.length : Int) := oA; obtain ⟨ad343, A343_0, c343_0, e343, hx343_0, hl343_0, hi343_0⟩ := at_L1 (Kd.S_reads' HO_4.out).2.2 x6_2 p343 q343
         cases e343
         obtain ⟨ce343, hce343, hMe343, hcc343⟩ := Kd.S_get HO_4.out [] x6_2 p343 (by first | exact q343 | exact oA | (have e_ := (Kd.S_reads' HO_4.out).1; omega)); obtain ⟨ve343_0, rfl, ge343_0⟩ := hMe343; have hv343_0 := hcc343 0 _ rfl; rw [Nat.add_zero, show ((Kd.slice 3 (Kd.int .i64))).sz = 1 from rfl, Nat.mul_one] at hv343_0; replace hv343_0 := Option.some.inj (hv343_0.symm.trans hx343_0); rw [hv343_0] at ge343_0; have HL343_0 := Az (show Kd.R (Kd.int .i64) 3 _ _ _ _ (rd_L1 t340 x6_2) from ge343_0); clear hv343_0 ge343_0 hcc343 hce343; have HR343_0 := Az hi343_0; have HC343_0 := Az hl343_0; clear hi343_0 hl343_0; replace p343 := eq_true p343; replace q343 := eq_true q343
         go_wp2
         (first | go_roundg k2 | (refine Handed.intro k2 ?measure ?_; rotate_left; go_step; (try simp only [add_plain]); (repeat apply Exists.intro); refine ⟨?rel, rfl⟩))
         case measure => have := HK1.out; have := HK2.out; omega
         case rel => exact ⟨(x3_2), (wrap64 (x6_2 + 1)), rS, H', ⟨by have := HK1.out; have := HK2.out; omega⟩, ⟨rU HO_3.out⟩, ⟨sU HO_4.out⟩, ⟨bU0 HB.out⟩⟩
       ·
        rw [if_neg c8] at H
        exact absurd H (by simp)
      ·
       rw [if_neg c7] at H; have c7b0 := decide_eq_false c7; clear c7; have H' := Az H; clear H; obtain ⟨Ao14, co14, eo14⟩ := Kd.S_slice HO_4.out; subst eo14
       go_wp2
       (first | go_roundg k2 | (refine Handed.intro k2 ?measure ?_; rotate_left; go_step; (try simp only [add_plain]); (repeat apply Exists.intro); refine ⟨?rel, rfl⟩))
       case measure => have := HK1.out; have := HK2.out; omega
       case rel => exact ⟨(x3_2), (wrap64 (x5_1 - 1)), rS, H', ⟨by have := HK1.out; have := HK2.out; omega⟩, ⟨rU HO_3.out⟩, ⟨sU HO_4.out⟩, ⟨bU0 HB.out⟩⟩
   ·
    rw [if_neg c6] at H; have c6b0 := decide_eq_false c6; clear c6; obtain rfl := Option.some.inj H
    go_wp2
    go_ret
    exact ⟨_, rE, rU HO_3.out, bU0 HB.out⟩
def spec_l2Order.l0 : Nat → List Int → List Int → Int → Option (Int)
 | 0, _, _, _ => none
 | k + 1, x0, x1, x5 => if x5 < (x0.length : Int) then (if 0 ≤ x5 then (if x5 < (x1.length : Int) then (if (rd x0 x5) < (rd x1 x5) then (some (-1)) else (if (rd x0 x5) > (rd x1 x5) then (some 1) else (spec_l2Order.l0 k x0 x1 (wrap64 (x5 + 1))))) else (none)) else (none)) else (some 0)
def spec_l2Order.f (k : Nat) (l0 : List Int) (l1 : List Int) : Option (Int) := spec_l2Order.l0 k l0 l1 0
set_option maxHeartbeats 8000000 in
set_option maxRecDepth 100000 in
theorem spec_l2Order.calls (k : Nat) (A0 : Option Addr) (c0 : Nat) (l0 : List Int) (A1 : Option Addr) (c1 : Nat) (l1 : List Int) (r : Int) (w : World) (hr0 : Kd.C (Kd.int .i64) w A0 l0.length l0) (hc0 : l0.length ≤ c0) (hr1 : Kd.C (Kd.int .i64) w A1 l1.length l1) (hc1 : l1.length ≤ c1) (h : spec_l2Order.f k l0 l1 = some r) :
  Calls Try.prog 108 #[.slice A0 l0.length c0, .slice A1 l1.length c1] w fun e w' => e = .returned (.int .i64 r) ∧ Drawn0 w w' := by
 have HR0 := Az hr0; have HC0 := Az hc0; clear hr0 hc0; have HR1 := Az hr1; have HC1 := Az hc1; clear hr1 hc1; have H : (spec_l2Order.l0 k l0 l1 0) = some r := h; clear h; have H' := Az H; clear H
 go_enter Try.func108, Try.ntmps108
 go_wp2
 repeat (go_quiet (fail); try go_wp2)
 go_loopg [5] k (fun kq v5 w' => ∃ (x5_1 : Int), v5 = .int .i64 x5_1 ∧ Aside0 (spec_l2Order.l0 kq l0 l1 x5_1 = some r) ∧ Aside0 (kq ≤ k) ∧ Drawn0 w w')
 case atStart => exact ⟨(0), rS, H', ⟨Nat.le_refl _⟩, by repeat (first | exact Drawn0.refl _ | apply Drawn0.step)⟩
 case round =>
  clear H'; (try clear c1); (try clear p2); obtain ⟨x5_1, rfl, HA, HK1, ⟨m1, rfl⟩⟩ := hrel
  cases gk with
  | zero => exact absurd HA.out (by simp [spec_l2Order.l0])
  | succ k1 =>
   have H := HA.out; clear HA; simp only [spec_l2Order.l0] at H
   by_cases c3 : x5_1 < (l0.length : Int)
   ·
    rw [if_pos c3] at H; have c3b0 := decide_eq_true c3; clear c3
    by_cases c4 : 0 ≤ x5_1
    ·
     rw [if_pos c4] at H; have c4b0 := decide_eq_true c4; clear c4
     by_cases c5 : x5_1 < (l1.length : Int)
     ·
      rw [if_pos c5] at H; have c5b0 := decide_eq_true c5; clear c5
      by_cases c6 : (rd l0 x5_1) < (rd l1 x5_1)
      ·
       rw [if_pos c6] at H; have c6b0 := decide_eq_true c6; clear c6; obtain rfl := Option.some.inj H; have p347 : 0 ≤ (x5_1 : Int) := oA; have q347 : x5_1 < (l0.length : Int) := oA; obtain ⟨ad347, e347, hx347_0⟩ := Kd.at_int HR0.out x5_1 p347 q347
       cases e347
       replace p347 := eq_true p347; replace q347 := eq_true q347; have p348 : 0 ≤ (x5_1 : Int) := oA; have q348 : x5_1 < (l1.length : Int) := oA; obtain ⟨ad348, e348, hx348_0⟩ := Kd.at_int HR1.out x5_1 p348 q348
       cases e348
       replace p348 := eq_true p348; replace q348 := eq_true q348
       go_wp2
       repeat (go_quiet (fail); try go_wp2)
       go_ret
       exact ⟨by first | rfl | (simp; done) | (simp [*]; done), by repeat (first | exact Drawn0.refl _ | apply Drawn0.step)⟩
      ·
       rw [if_neg c6] at H; have c6b0 := decide_eq_false c6; clear c6
       by_cases c7 : (rd l0 x5_1) > (rd l1 x5_1)
       ·
        rw [if_pos c7] at H; have c7b0 := decide_eq_true c7; clear c7; obtain rfl := Option.some.inj H; have p347 : 0 ≤ (x5_1 : Int) := oA; have q347 : x5_1 < (l0.length : Int) := oA; obtain ⟨ad347, e347, hx347_0⟩ := Kd.at_int HR0.out x5_1 p347 q347
        cases e347
        replace p347 := eq_true p347; replace q347 := eq_true q347; have p348 : 0 ≤ (x5_1 : Int) := oA; have q348 : x5_1 < (l1.length : Int) := oA; obtain ⟨ad348, e348, hx348_0⟩ := Kd.at_int HR1.out x5_1 p348 q348
        cases e348
        replace p348 := eq_true p348; replace q348 := eq_true q348; have p349 : 0 ≤ (x5_1 : Int) := oA; have q349 : x5_1 < (l0.length : Int) := oA; obtain ⟨ad349, e349, hx349_0⟩ := Kd.at_int HR0.out x5_1 p349 q349; obtain rfl : ad347 = ad349 := (by injection e349); replace p349 := eq_true p349; replace q349 := eq_true q349; have p350 : 0 ≤ (x5_1 : Int) := oA; have q350 : x5_1 < (l1.length : Int) := oA; obtain ⟨ad350, e350, hx350_0⟩ := Kd.at_int HR1.out x5_1 p350 q350; obtain rfl : ad348 = ad350 := (by injection e350); replace p350 := eq_true p350; replace q350 := eq_true q350
        go_wp2
        repeat (go_quiet (fail); try go_wp2)
        go_ret
        exact ⟨by first | rfl | (simp; done) | (simp [*]; done), by repeat (first | exact Drawn0.refl _ | apply Drawn0.step)⟩
       ·
        rw [if_neg c7] at H; have c7b0 := decide_eq_false c7; clear c7; have H' := Az H; clear H; have p347 : 0 ≤ (x5_1 : Int) := oA; have q347 : x5_1 < (l0.length : Int) := oA; obtain ⟨ad347, e347, hx347_0⟩ := Kd.at_int HR0.out x5_1 p347 q347
        cases e347
        replace p347 := eq_true p347; replace q347 := eq_true q347; have p348 : 0 ≤ (x5_1 : Int) := oA; have q348 : x5_1 < (l1.length : Int) := oA; obtain ⟨ad348, e348, hx348_0⟩ := Kd.at_int HR1.out x5_1 p348 q348
        cases e348
        replace p348 := eq_true p348; replace q348 := eq_true q348; have p349 : 0 ≤ (x5_1 : Int) := oA; have q349 : x5_1 < (l0.length : Int) := oA; obtain ⟨ad349, e349, hx349_0⟩ := Kd.at_int HR0.out x5_1 p349 q349; obtain rfl : ad347 = ad349 := (by injection e349); replace p349 := eq_true p349; replace q349 := eq_true q349; have p350 : 0 ≤ (x5_1 : Int) := oA; have q350 : x5_1 < (l1.length : Int) := oA; obtain ⟨ad350, e350, hx350_0⟩ := Kd.at_int HR1.out x5_1 p350 q350; obtain rfl : ad348 = ad350 := (by injection e350); replace p350 := eq_true p350; replace q350 := eq_true q350
        go_wp2
        repeat (go_quiet (fail); try go_wp2)
        (first | go_roundg k1 | (refine Handed.intro k1 ?measure ?_; rotate_left; go_step; (try simp only [add_plain]); (repeat apply Exists.intro); refine ⟨?rel, rfl⟩))
        case measure => have := HK1.out; omega
        case rel => exact ⟨(wrap64 (x5_1 + 1)), rS, H', ⟨by have := HK1.out; omega⟩, by repeat (first | exact Drawn0.refl _ | apply Drawn0.step)⟩
     ·
      rw [if_neg c5] at H
      exact absurd H (by simp)
    ·
     rw [if_neg c4] at H
     exact absurd H (by simp)
   ·
    rw [if_neg c3] at H; have c3b0 := decide_eq_false c3; clear c3; obtain rfl := Option.some.inj H
    go_wp2
    repeat (go_quiet (fail); try go_wp2)
    go_ret
    exact ⟨by first | rfl | (simp; done) | (simp [*]; done), by repeat (first | exact Drawn0.refl _ | apply Drawn0.step)⟩
def spec_l2Copy.f (l0 : List Int) : Option (List Int) := (some (([] : List Int) : List Int)).bind fun y403 => (if y403.length + l0.length < 17592186044416 then (some (y403 ++ l0)) else (none))
set_option maxHeartbeats 8000000 in
set_option maxRecDepth 100000 in
theorem spec_l2Copy.calls (A0 : Option Addr) (c0 : Nat) (l0 : List Int) (r : List Int) (w : World) (hr0 : Kd.C (Kd.int .i64) w A0 l0.length l0) (hc0 : l0.length ≤ c0) (h : spec_l2Copy.f l0 = some r) :
  Calls Try.prog 62 #[.slice A0 l0.length c0] w fun e w' => ∃ v0_ : Value, e = .returned (v0_) ∧ Kd.R (Kd.int .i64) 3 w' w.heap.size (fun _ => True) v0_ r ∧ Below w.heap.size w w' := by
 have HR0 := Az hr0; have HC0 := Az hc0; clear hr0 hc0; have HB := Az (Below.refl w.heap.size w); have H : ((some (([] : List Int) : List Int)).bind fun y403 => (if y403.length + l0.length < 17592186044416 then (some (y403 ++ l0)) else (none))) = some r := h; clear h; obtain ⟨y403, hy403⟩ : ∃ y_ : List Int, y_ = (([] : List Int)) := ⟨_, rfl⟩; replace H : (if y403.length + l0.length < 17592186044416 then (some (y403 ++ l0)) else (none)) = some r := hR hy403 H; have Ny403 := Az hy403; clear hy403
 by_cases c2 : y403.length + l0.length < 17592186044416
 ·
  rw [if_pos c2] at H; have LMc2 := Az c2; clear c2; obtain ⟨y406, hy406⟩ : ∃ y_ : List Int, y_ = (y403 ++ l0) := ⟨_, rfl⟩; replace H : (some y406) = some r := hR hy406 H; have Ny406 := Az hy406; clear hy406; obtain rfl := Option.some.inj H
  go_enter Try.func62, Try.ntmps62
  go_wp2_with (first | ((with_reducible refine gate_dst (N := 3) rfl ?_); refine Kd.R_lit (Kd.int .i64) _ 3 ?hg (N := 3) ?hd (xs := ([] : List Int)) (inner := []) (ok := fun _ => True) (okp := fun _ => True) ?hr ?hp (fun _ hk => hk) trivial (Below.refl _ _) (Nat.le_refl _) (by simp) ?_; (case hd => rfl); (case hg => rfl); (case hr => first | (go_simp; done) | (go_simp; rfl)); (case hp => exact (Reps.none _ _)); intro v404 w3 ho4 hb hg_ hnew_; clear hg_ hnew_; (first | rw [← Ny403.out] at ho4 | (simp only [Int.reduceToNat] at ho4; rw [← Ny403.out] at ho4)); have n0 := Az (Kd.R_lower ho4 (below_size (bU0 HB.out))); have n1 := Az (below_step (bU0 HB.out) hb); clear HB; have HO405 := n0; have HB := n1; clear n0 n1; clear hb ho4) | ((with_reducible refine gate_builtin (b := .append) (xs := #[.tmp 3, .tmp 4]) rfl ?_); at_builtin; refine Kd.R_append_rows (Kd.int .i64) (w0 := w) w.heap.size rfl (.tmp 3) (.tmp 4) 23 3 (.int .i64 0) 8 rfl Try.underlying23 info3 rfl (by decide) (by omega) v404 y403 l0 _ _ _ (fun _ => True) (fun _ => False) rfl rfl ?aO ?aR (fun _ _ h => h) (fun _ h => h.elim) ?aF ?aB ?aS ?aL ?_; (case aR => exact cU (Kd.C_below HR0.out HB.out)); (case aB => exact (bU0 HB.out)); (case aF => exact (fun _ _ => trivial)); (case aO => exact (rU HO405.out)); (case aS => exact (below_size (bU0 HB.out))); (case aL => have := LMc2.out; omega); intro v407 w5 ho hb hg hat; rw [← Ny406.out] at ho; have n0 := Az (hb); have n1 := Az (ho); clear HB HO405; have HB := n0; have HO408 := n1; clear n0 n1; clear ho hb hg hat))
  go_ret
  exact ⟨_, rE, rU HO408.out, bU0 HB.out⟩
 ·
  rw [if_neg c2] at H
  exact absurd H (by simp)
def impl_PartsValid.l0 : Nat → List Int → Int → List Int → Int → Int → Option (Bool)
 | 0, _, _, _, _, _ => none
 | k + 1, x0, x3, x6, x7, x8 => if x8 < x7 then (if 0 ≤ x8 then (if x8 < (x6.length : Int) then (if (rd x6 x8) < 1 then (some false) else (if (rd x6 x8) > 6 then (some false) else (if x8 > 0 then (if 0 ≤ (wrap64 (x8 - 1)) then (if (wrap64 (x8 - 1)) < (x0.length : Int) then (if (rd x6 x8) > (rd x0 (wrap64 (x8 - 1))) then (some false) else (impl_PartsValid.l0 k x0 (wrap64 (x3 + (rd x6 x8))) x6 x7 (wrap64 (x8 + 1)))) else (none)) else (none)) else (impl_PartsValid.l0 k x0 (wrap64 (x3 + (rd x6 x8))) x6 x7 (wrap64 (x8 + 1)))))) else (none)) else (none)) else (if x3 ≥ 1 then (some (decide (x3 ≤ 6))) else (some false))
def impl_PartsValid.f (k : Nat) (l0 : List Int) : Option (Bool) := impl_PartsValid.l0 k l0 0 l0 (l0.length : Int) 0
theorem impl_PartsValid.mono_l : ∀ k, (∀ y0 y1 y2 y3 y4, LeO (impl_PartsValid.l0 k y0 y1 y2 y3 y4) (impl_PartsValid.l0 (k + 1) y0 y1 y2 y3 y4))
 | 0 => fun _ _ _ _ _ r h => by simp [impl_PartsValid.l0] at h
 | k + 1 => by
  have ih0 := impl_PartsValid.mono_l k
  ·
   intro y0 y1 y2 y3 y4
   unfold impl_PartsValid.l0
   repeat' first
   | (with_reducible exact ih0 _ _ _ _ _)
   | (with_reducible exact LeO.refl _)
   | (with_reducible exact LeO.none _)
   | (with_reducible refine LeO.ite ?_ ?_)
   | (with_reducible refine LeO.bind ?_ (fun _ => ?_))
   | exact ih0 _ _ _ _ _
   | exact LeO.none _
   | refine LeO.ite ?_ ?_
   | refine LeO.bind ?_ (fun _ => ?_)
theorem impl_PartsValid.mono : ∀ a0 k, LeO (impl_PartsValid.f k a0) (impl_PartsValid.f (k + 1) a0) := by
 intro a0 k
 have ih0 := impl_PartsValid.mono_l k
 unfold impl_PartsValid.f
 repeat' first
   | (with_reducible exact ih0 _ _ _ _ _)
   | (with_reducible exact LeO.refl _)
   | (with_reducible exact LeO.none _)
   | (with_reducible refine LeO.ite ?_ ?_)
   | (with_reducible refine LeO.bind ?_ (fun _ => ?_))
   | exact ih0 _ _ _ _ _
   | exact LeO.none _
   | refine LeO.ite ?_ ?_
   | refine LeO.bind ?_ (fun _ => ?_)
set_option maxHeartbeats 8000000 in
set_option maxRecDepth 100000 in
theorem impl_PartsValid.calls (k : Nat) (A0 : Option Addr) (c0 : Nat) (l0 : List Int) (r : Bool) (w : World) (hr0 : Kd.C (Kd.int .i64) w A0 l0.length l0) (hc0 : l0.length ≤ c0) (h : impl_PartsValid.f k l0 = some r) :
  Calls Try.prog 102 #[.slice A0 l0.length c0] w fun e w' => e = .returned (.bool r) ∧ Drawn0 w w' := by
 have HR0 := Az hr0; have HC0 := Az hc0; clear hr0 hc0; have H : (impl_PartsValid.l0 k l0 0 l0 (l0.length : Int) 0) = some r := h; clear h; have H' := Az H; clear H
 go_enter Try.func102, Try.ntmps102
 go_wp2
 go_loopg [3, 8] k (fun kq v3 v8 w' => ∃ (x3_1 : Int) (x8_1 : Int), v3 = .int .i64 x3_1 ∧ v8 = .int .i64 x8_1 ∧ Aside0 (impl_PartsValid.l0 kq l0 x3_1 l0 (l0.length : Int) x8_1 = some r) ∧ Aside0 (kq ≤ k) ∧ Drawn0 w w')
 case atStart => exact ⟨(0), (0), rS, rS, H', ⟨Nat.le_refl _⟩, by repeat (first | exact Drawn0.refl _ | apply Drawn0.step)⟩
 case round =>
  clear H'; (try clear c1); obtain ⟨x3_1, x8_1, rfl, rfl, HA, HK1, ⟨m1, rfl⟩⟩ := hrel
  cases gk with
  | zero => exact absurd HA.out (by simp [impl_PartsValid.l0])
  | succ k1 =>
   have H := HA.out; clear HA; simp only [impl_PartsValid.l0] at H
   by_cases c2 : x8_1 < (l0.length : Int)
   ·
    rw [if_pos c2] at H; have c2b0 := decide_eq_true c2; clear c2
    by_cases c3 : 0 ≤ x8_1
    ·
     rw [if_pos c3] at H; have c3b0 := decide_eq_true c3; clear c3
     by_cases c4 : x8_1 < (l0.length : Int)
     ·
      rw [if_pos c4] at H; have c4b0 := decide_eq_true c4; clear c4
      by_cases c5 : (rd l0 x8_1) < 1
      ·
       rw [if_pos c5] at H; have c5b0 := decide_eq_true c5; clear c5; obtain rfl := Option.some.inj H; have p444 : 0 ≤ (x8_1 : Int) := oA; have q444 : x8_1 < (l0.length : Int) := oA; obtain ⟨ad444, e444, hx444_0⟩ := Kd.at_int HR0.out x8_1 p444 q444
       cases e444
       replace p444 := eq_true p444; replace q444 := eq_true q444
       go_wp2
       go_ret
       exact ⟨by first | rfl | (simp; done) | (simp [*]; done), by repeat (first | exact Drawn0.refl _ | apply Drawn0.step)⟩
      ·
       rw [if_neg c5] at H; have c5b0 := decide_eq_false c5; clear c5
       by_cases c6 : (rd l0 x8_1) > 6
       ·
        rw [if_pos c6] at H; have c6b0 := decide_eq_true c6; clear c6; obtain rfl := Option.some.inj H; have p444 : 0 ≤ (x8_1 : Int) := oA; have q444 : x8_1 < (l0.length : Int) := oA; obtain ⟨ad444, e444, hx444_0⟩ := Kd.at_int HR0.out x8_1 p444 q444
        cases e444
        replace p444 := eq_true p444; replace q444 := eq_true q444
        go_wp2
        go_ret
        exact ⟨by first | rfl | (simp; done) | (simp [*]; done), by repeat (first | exact Drawn0.refl _ | apply Drawn0.step)⟩
       ·
        rw [if_neg c6] at H; have c6b0 := decide_eq_false c6; clear c6
        by_cases c7 : x8_1 > 0
        ·
         rw [if_pos c7] at H; have c7b0 := decide_eq_true c7; clear c7; obtain ⟨ji8, hji8⟩ : ∃ j_ : Int, (wrap64 (x8_1 - 1)) = j_ := ⟨_, rfl⟩
         replace H : (if 0 ≤ (ji8) then (if (ji8) < (l0.length : Int) then (if (rd l0 x8_1) > (rd l0 (ji8)) then (some false) else (impl_PartsValid.l0 k1 l0 (wrap64 (x3_1 + (rd l0 x8_1))) l0 (l0.length : Int) (wrap64 (x8_1 + 1)))) else (none)) else (none)) = some r := by first | (rw [hji8] at H; exact H) | (simp only [hji8] at H ⊢; exact H)
         have hji8w : (IntKind.i64.wrap (x8_1 - 1)) = ji8 := (i64_w _).trans hji8
         by_cases c9 : 0 ≤ (ji8)
         ·
          rw [if_pos c9] at H; have c9b0 := decide_eq_true c9; clear c9
          by_cases c10 : (ji8) < (l0.length : Int)
          ·
           rw [if_pos c10] at H; have c10b0 := decide_eq_true c10; clear c10
           by_cases c11 : (rd l0 x8_1) > (rd l0 (ji8))
           ·
            rw [if_pos c11] at H; have c11b0 := decide_eq_true c11; clear c11; obtain rfl := Option.some.inj H; have p444 : 0 ≤ (x8_1 : Int) := oA; have q444 : x8_1 < (l0.length : Int) := oA; obtain ⟨ad444, e444, hx444_0⟩ := Kd.at_int HR0.out x8_1 p444 q444
            cases e444
            replace p444 := eq_true p444; replace q444 := eq_true q444; have p445 : 0 ≤ ((ji8) : Int) := oA; have q445 : (ji8) < (l0.length : Int) := oA; obtain ⟨ad445, e445, hx445_0⟩ := Kd.at_int HR0.out (ji8) p445 q445; obtain rfl : ad444 = ad445 := (by injection e445); replace p445 := eq_true p445; replace q445 := eq_true q445
            go_wp2
            go_ret
            exact ⟨by first | rfl | (simp; done) | (simp only [← hji8] <;> (first | rfl | simp)) | (simp [*]; done), by repeat (first | exact Drawn0.refl _ | apply Drawn0.step)⟩
           ·
            rw [if_neg c11] at H; have c11b0 := decide_eq_false c11; clear c11; have H' := Az H; clear H; have p444 : 0 ≤ (x8_1 : Int) := oA; have q444 : x8_1 < (l0.length : Int) := oA; obtain ⟨ad444, e444, hx444_0⟩ := Kd.at_int HR0.out x8_1 p444 q444
            cases e444
            replace p444 := eq_true p444; replace q444 := eq_true q444; have p445 : 0 ≤ ((ji8) : Int) := oA; have q445 : (ji8) < (l0.length : Int) := oA; obtain ⟨ad445, e445, hx445_0⟩ := Kd.at_int HR0.out (ji8) p445 q445; obtain rfl : ad444 = ad445 := (by injection e445); replace p445 := eq_true p445; replace q445 := eq_true q445
            go_wp2
            (first | go_roundg k1 | (refine Handed.intro k1 ?measure ?_; rotate_left; go_step; (try simp only [add_plain]); (repeat apply Exists.intro); refine ⟨?rel, rfl⟩))
            case measure => have := HK1.out; omega
            case rel => exact ⟨(wrap64 (x3_1 + (rd l0 x8_1))), (wrap64 (x8_1 + 1)), rS, rS, H', ⟨by have := HK1.out; omega⟩, by repeat (first | exact Drawn0.refl _ | apply Drawn0.step)⟩
          ·
           rw [if_neg c10] at H
           exact absurd H (by simp)
         ·
          rw [if_neg c9] at H
          exact absurd H (by simp)
        ·
         rw [if_neg c7] at H; have c7b0 := decide_eq_false c7; clear c7; have H' := Az H; clear H; have p444 : 0 ≤ (x8_1 : Int) := oA; have q444 : x8_1 < (l0.length : Int) := oA; obtain ⟨ad444, e444, hx444_0⟩ := Kd.at_int HR0.out x8_1 p444 q444
         cases e444
         replace p444 := eq_true p444; replace q444 := eq_true q444
         go_wp2
         (first | go_roundg k1 | (refine Handed.intro k1 ?measure ?_; rotate_left; go_step; (try simp only [add_plain]); (repeat apply Exists.intro); refine ⟨?rel, rfl⟩))
         case measure => have := HK1.out; omega
         case rel => exact ⟨(wrap64 (x3_1 + (rd l0 x8_1))), (wrap64 (x8_1 + 1)), rS, rS, H', ⟨by have := HK1.out; omega⟩, by repeat (first | exact Drawn0.refl _ | apply Drawn0.step)⟩
     ·
      rw [if_neg c4] at H
      exact absurd H (by simp)
    ·
     rw [if_neg c3] at H
     exact absurd H (by simp)
   ·
    rw [if_neg c2] at H; have c2b0 := decide_eq_false c2; clear c2
    by_cases c12 : x3_1 ≥ 1
    ·
     rw [if_pos c12] at H; have c12b0 := decide_eq_true c12; clear c12; obtain rfl := Option.some.inj H
     go_wp2
     go_ret
     exact ⟨by first | rfl | (simp; done) | (simp [*]; done), by repeat (first | exact Drawn0.refl _ | apply Drawn0.step)⟩
    ·
     rw [if_neg c12] at H; have c12b0 := decide_eq_false c12; clear c12; obtain rfl := Option.some.inj H
     go_wp2
     go_ret
     exact ⟨by first | rfl | (simp; done) | (simp [*]; done), by repeat (first | exact Drawn0.refl _ | apply Drawn0.step)⟩
def impl_sumOf.l0 : Nat → Int → List Int → Int → Int → Option (Int)
 | 0, _, _, _, _ => none
 | k + 1, x3, x6, x7, x8 => if x8 < x7 then (if 0 ≤ x8 then (if x8 < (x6.length : Int) then (impl_sumOf.l0 k (wrap64 (x3 + (rd x6 x8))) x6 x7 (wrap64 (x8 + 1))) else (none)) else (none)) else (some x3)
def impl_sumOf.f (k : Nat) (l0 : List Int) : Option (Int) := impl_sumOf.l0 k 0 l0 (l0.length : Int) 0
theorem impl_sumOf.mono_l : ∀ k, (∀ y0 y1 y2 y3, LeO (impl_sumOf.l0 k y0 y1 y2 y3) (impl_sumOf.l0 (k + 1) y0 y1 y2 y3))
 | 0 => fun _ _ _ _ r h => by simp [impl_sumOf.l0] at h
 | k + 1 => by
  have ih0 := impl_sumOf.mono_l k
  ·
   intro y0 y1 y2 y3
   unfold impl_sumOf.l0
   repeat' first
   | (with_reducible exact ih0 _ _ _ _)
   | (with_reducible exact LeO.refl _)
   | (with_reducible exact LeO.none _)
   | (with_reducible refine LeO.ite ?_ ?_)
   | (with_reducible refine LeO.bind ?_ (fun _ => ?_))
   | exact ih0 _ _ _ _
   | exact LeO.none _
   | refine LeO.ite ?_ ?_
   | refine LeO.bind ?_ (fun _ => ?_)
theorem impl_sumOf.mono : ∀ a0 k, LeO (impl_sumOf.f k a0) (impl_sumOf.f (k + 1) a0) := by
 intro a0 k
 have ih0 := impl_sumOf.mono_l k
 unfold impl_sumOf.f
 repeat' first
   | (with_reducible exact ih0 _ _ _ _)
   | (with_reducible exact LeO.refl _)
   | (with_reducible exact LeO.none _)
   | (with_reducible refine LeO.ite ?_ ?_)
   | (with_reducible refine LeO.bind ?_ (fun _ => ?_))
   | exact ih0 _ _ _ _
   | exact LeO.none _
   | refine LeO.ite ?_ ?_
   | refine LeO.bind ?_ (fun _ => ?_)
set_option maxHeartbeats 8000000 in
set_option maxRecDepth 100000 in
theorem impl_sumOf.calls (k : Nat) (A0 : Option Addr) (c0 : Nat) (l0 : List Int) (r : Int) (w : World) (hr0 : Kd.C (Kd.int .i64) w A0 l0.length l0) (hc0 : l0.length ≤ c0) (h : impl_sumOf.f k l0 = some r) :
  Calls Try.prog 103 #[.slice A0 l0.length c0] w fun e w' => e = .returned (.int .i64 r) ∧ Drawn0 w w' := by
 have HR0 := Az hr0; have HC0 := Az hc0; clear hr0 hc0; have H : (impl_sumOf.l0 k 0 l0 (l0.length : Int) 0) = some r := h; clear h; have H' := Az H; clear H
 go_enter Try.func103, Try.ntmps103
 go_wp2
 go_loopg [3, 8] k (fun kq v3 v8 w' => ∃ (x3_1 : Int) (x8_1 : Int), v3 = .int .i64 x3_1 ∧ v8 = .int .i64 x8_1 ∧ Aside0 (impl_sumOf.l0 kq x3_1 l0 (l0.length : Int) x8_1 = some r) ∧ Aside0 (kq ≤ k) ∧ Drawn0 w w')
 case atStart => exact ⟨(0), (0), rS, rS, H', ⟨Nat.le_refl _⟩, by repeat (first | exact Drawn0.refl _ | apply Drawn0.step)⟩
 case round =>
  clear H'; (try clear c1); obtain ⟨x3_1, x8_1, rfl, rfl, HA, HK1, ⟨m1, rfl⟩⟩ := hrel
  cases gk with
  | zero => exact absurd HA.out (by simp [impl_sumOf.l0])
  | succ k1 =>
   have H := HA.out; clear HA; simp only [impl_sumOf.l0] at H
   by_cases c2 : x8_1 < (l0.length : Int)
   ·
    rw [if_pos c2] at H; have c2b0 := decide_eq_true c2; clear c2
    by_cases c3 : 0 ≤ x8_1
    ·
     rw [if_pos c3] at H; have c3b0 := decide_eq_true c3; clear c3
     by_cases c4 : x8_1 < (l0.length : Int)
     ·
      rw [if_pos c4] at H; have c4b0 := decide_eq_true c4; clear c4; have H' := Az H; clear H; have p446 : 0 ≤ (x8_1 : Int) := oA; have q446 : x8_1 < (l0.length : Int) := oA; obtain ⟨ad446, e446, hx446_0⟩ := Kd.at_int HR0.out x8_1 p446 q446
      cases e446
      replace p446 := eq_true p446; replace q446 := eq_true q446
      go_wp2
      (first | go_roundg k1 | (refine Handed.intro k1 ?measure ?_; rotate_left; go_step; (try simp only [add_plain]); (repeat apply Exists.intro); refine ⟨?rel, rfl⟩))
      case measure => have := HK1.out; omega
      case rel => exact ⟨(wrap64 (x3_1 + (rd l0 x8_1))), (wrap64 (x8_1 + 1)), rS, rS, H', ⟨by have := HK1.out; omega⟩, by repeat (first | exact Drawn0.refl _ | apply Drawn0.step)⟩
     ·
      rw [if_neg c4] at H
      exact absurd H (by simp)
    ·
     rw [if_neg c3] at H
     exact absurd H (by simp)
   ·
    rw [if_neg c2] at H; have c2b0 := decide_eq_false c2; clear c2; obtain rfl := Option.some.inj H
    go_wp2
    go_ret
    exact ⟨by first | rfl | (simp; done) | (simp [*]; done), by repeat (first | exact Drawn0.refl _ | apply Drawn0.step)⟩
mutual
def impl_typesSum.j0 : Nat → List (List Int) → Bool → Option (Int)
 | 0, _, _ => none
 | k + 1, x0, x12 => if x12 = true then (some (-1)) else (impl_typesSum.l0 k x0 x0 (x0.length : Int) 0)
def impl_typesSum.l0 : Nat → List (List Int) → List (List Int) → Int → Int → Option (Int)
 | 0, _, _, _, _ => none
 | k + 1, x0, x13, x14, x15 => if x15 < x14 then (if 0 ≤ x15 then (if x15 < (x13.length : Int) then ((impl_PartsValid.f k (rd_L1 x13 x15)).bind fun t450 => (if t450 = true then ((impl_sumOf.f k (rd_L1 x13 x15)).bind fun t451 => (if 0 < (x0.length : Int) then ((impl_sumOf.f k (rd_L1 x0 0)).bind fun t453 => (if t451 = t453 then (impl_typesSum.l0 k x0 x13 x14 (wrap64 (x15 + 1))) else (some (-1)))) else (none))) else (some (-1)))) else (none)) else (none)) else (if 0 < (x0.length : Int) then ((impl_sumOf.f k (rd_L1 x0 0)).bind fun t448 => (some t448)) else (none))
end
def impl_typesSum.f (k : Nat) (l0 : List (List Int)) : Option (Int) := if (l0.length : Int) < 1 then (impl_typesSum.j0 k l0 true) else (impl_typesSum.j0 k l0 (decide ((l0.length : Int) > 6)))
set_option maxHeartbeats 8000000 in
set_option maxRecDepth 100000 in
theorem impl_typesSum.calls (k : Nat) (A0 : Option Addr) (c0 : Nat) (l0 : List (List Int)) (r : Int) (w : World) (hr0 : Kd.C (Kd.slice 3 (Kd.int .i64)) w A0 l0.length l0) (hc0 : l0.length ≤ c0) (h : impl_typesSum.f k l0 = some r) :
  Calls Try.prog 94 #[.slice A0 l0.length c0] w fun e w' => e = .returned (.int .i64 r) ∧ Drawn0 w w' := by
 have HR0 := Az hr0; have HC0 := Az hc0; clear hr0 hc0; have H : (if (l0.length : Int) < 1 then (impl_typesSum.j0 k l0 true) else (impl_typesSum.j0 k l0 (decide ((l0.length : Int) > 6)))) = some r := h; clear h; have HC2 := Az H; clear H
 go_enter Try.func94, Try.ntmps94
 go_upto_region 1 with (fail)
 repeat (go_quiet (fail); go_upto_region 1 with (fail))
 go_cut [12] (fun v12 wc => ∃ (kq : Nat) (x12_1 : Bool), v12 = .bool x12_1 ∧ Aside0 (impl_typesSum.j0 kq l0 x12_1 = some r) ∧ Aside0 (kq ≤ k) ∧ Drawn0 w wc)
 case first =>
  have H := HC2.out; clear HC2
  by_cases c3 : (l0.length : Int) < 1
  ·
   rw [if_pos c3] at H; have c3b0 := decide_eq_true c3; have c3b1 : decide (l0.length < 1) = true := decide_eq_true (by omega); clear c3; (first | rw [c3b0] | (simp only [i64_w, i32_w]; rw [c3b0]) | skip); have H' := Az H; clear H
   go_wp2
   repeat (go_quiet (fail); try go_wp2)
   go_meet
   case rel => exact ⟨_, (true), rS, H', ⟨by first | omega | exact Nat.le_refl _⟩, by repeat (first | exact Drawn0.refl _ | apply Drawn0.step)⟩
  ·
   rw [if_neg c3] at H; have c3b0 := decide_eq_false c3; have c3b1 : decide (l0.length < 1) = false := decide_eq_false (by omega); clear c3; (first | rw [c3b0] | (simp only [i64_w, i32_w]; rw [c3b0]) | skip); have H' := Az H; clear H
   go_wp2
   repeat (go_quiet (fail); try go_wp2)
   go_meet
   case rel => exact ⟨_, (decide ((l0.length : Int) > 6)), rS, H', ⟨by first | omega | exact Nat.le_refl _⟩, by repeat (first | exact Drawn0.refl _ | apply Drawn0.step)⟩
 case rest =>
  clear HC2; (try clear p2); (try clear c3); (try clear c3b0); (try clear c3b1); obtain ⟨kq, x12_1, rfl, HA, HJ1, ⟨mc1, rfl⟩⟩ := hcut
  cases kq with
  | zero => exact absurd HA.out (by simp [impl_typesSum.j0])
  | succ kj1 =>
   have H := HA.out; clear HA; simp only [impl_typesSum.j0] at H
   by_cases c4 : x12_1 = true
   ·
    subst c4
    have H1 : (some (-1)) = some r := by rw [if_pos rfl] at H; exact H
    clear H; have H := H1; clear H1; obtain rfl := Option.some.inj H
    go_wp2
    repeat (go_quiet (fail); try go_wp2)
    go_ret
    exact ⟨by first | rfl | (simp; done) | (simp [*]; done), by repeat (first | exact Drawn0.refl _ | apply Drawn0.step)⟩
   ·
    replace c4 := Bool.eq_false_iff.mpr c4; subst c4
    have H1 : (impl_typesSum.l0 kj1 l0 l0 (l0.length : Int) 0) = some r := by rw [if_neg (show ¬ (false = true) by decide)] at H; exact H
    clear H; have H := H1; clear H1; have H' := Az H; clear H
    go_wp2
    repeat (go_quiet (fail); try go_wp2)
    go_loopg [15] kj1 (fun kq v15 w' => ∃ (x15_2 : Int), v15 = .int .i64 x15_2 ∧ Aside0 (impl_typesSum.l0 kq l0 l0 (l0.length : Int) x15_2 = some r) ∧ Aside0 (kq ≤ kj1) ∧ Drawn0 w w')
    case atStart => exact ⟨(0), rS, H', ⟨Nat.le_refl _⟩, by repeat (first | exact Drawn0.refl _ | apply Drawn0.step)⟩
    case round =>
     clear H'; (try clear c1); (try clear p2); (try clear c3); (try clear c3b0); (try clear c3b1); (try clear c4); (try clear p2); obtain ⟨x15_2, rfl, HA, HK2, ⟨m2, rfl⟩⟩ := hrel
     cases gk with
     | zero => exact absurd HA.out (by simp [impl_typesSum.l0])
     | succ k2 =>
      have H := HA.out; clear HA; simp only [impl_typesSum.l0] at H
      by_cases c5 : x15_2 < (l0.length : Int)
      ·
       rw [if_pos c5] at H; have c5b0 := decide_eq_true c5; clear c5
       by_cases c6 : 0 ≤ x15_2
       ·
        rw [if_pos c6] at H; have c6b0 := decide_eq_true c6; clear c6
        by_cases c7 : x15_2 < (l0.length : Int)
        ·
         rw [if_pos c7] at H; have c7b0 := decide_eq_true c7; clear c7; replace H := Option.bind_eq_some_iff.mp H; obtain ⟨t450, A80, H⟩ := H; replace H : (if t450 = true then ((impl_sumOf.f k2 (rd_L1 l0 x15_2)).bind fun t451 => (if 0 < (l0.length : Int) then ((impl_sumOf.f k2 (rd_L1 l0 0)).bind fun t453 => (if t451 = t453 then (impl_typesSum.l0 k2 l0 l0 (l0.length : Int) (wrap64 (x15_2 + 1))) else (some (-1)))) else (none))) else (some (-1))) = some r := H; have A8 := Az A80; clear A80
         by_cases c9 : t450 = true
         ·
          subst c9
          have H1 : ((impl_sumOf.f k2 (rd_L1 l0 x15_2)).bind fun t451 => (if 0 < (l0.length : Int) then ((impl_sumOf.f k2 (rd_L1 l0 0)).bind fun t453 => (if t451 = t453 then (impl_typesSum.l0 k2 l0 l0 (l0.length : Int) (wrap64 (x15_2 + 1))) else (some (-1)))) else (none))) = some r := by rw [if_pos rfl] at H; exact H
          clear H; have H := H1; clear H1; replace H := Option.bind_eq_some_iff.mp H; obtain ⟨t451, A100, H⟩ := H; replace H : (if 0 < (l0.length : Int) then ((impl_sumOf.f k2 (rd_L1 l0 0)).bind fun t453 => (if t451 = t453 then (impl_typesSum.l0 k2 l0 l0 (l0.length : Int) (wrap64 (x15_2 + 1))) else (some (-1)))) else (none)) = some r := H; have A10 := Az A100; clear A100
          by_cases c11 : 0 < (l0.length : Int)
          ·
           rw [if_pos c11] at H; have c11b0 := decide_eq_true c11; have c11b1 : decide (0 < l0.length) = true := decide_eq_true (by omega); clear c11; replace H := Option.bind_eq_some_iff.mp H; obtain ⟨t453, A120, H⟩ := H; replace H : (if t451 = t453 then (impl_typesSum.l0 k2 l0 l0 (l0.length : Int) (wrap64 (x15_2 + 1))) else (some (-1))) = some r := H; have A12 := Az A120; clear A120
           by_cases c13 : t451 = t453
           ·
            rw [if_pos c13] at H; have c13b0 := beq_iff_eq.mpr c13; have c13b1 := bne_eq_false_iff_eq.mpr c13; clear c13; have H' := Az H; clear H; have p449 : 0 ≤ (x15_2 : Int) := oA; have q449 : x15_2 < (l0.length : Int) := oA; obtain ⟨ad449, A449_0, c449_0, e449, hx449_0, hl449_0, hi449_0⟩ := at_L1 HR0.out x15_2 p449 q449
            cases e449
            have HR449_0 := Az hi449_0; have HC449_0 := Az hl449_0; clear hi449_0 hl449_0; replace p449 := eq_true p449; replace q449 := eq_true q449
            go_wp2_with (first | (go_at_call 102; (with_reducible refine (impl_PartsValid.calls k2 _ _ (rd_L1 l0 x15_2) true _ ?side1 ?side2 A8.out).mono ?_); (case side1 => exact cU (HR449_0.out)); (case side2 => exact HC449_0.out); rintro e w' ⟨rfl, ⟨nd, rfl⟩⟩; (try first | exact ⟨rfl, _, World.drewN_drewN _ _ _⟩ | exact ⟨rfl, _, Eq.trans (World.drewN_drewN _ _ _) (congrArg (World.drewN _) (Nat.add_assoc _ _ _))⟩)) | (go_at_call 103; (with_reducible refine (impl_sumOf.calls k2 _ _ (rd_L1 l0 x15_2) t451 _ ?side1 ?side2 A10.out).mono ?_); (case side1 => exact cU (HR449_0.out)); (case side2 => exact HC449_0.out); rintro e w' ⟨rfl, ⟨nd, rfl⟩⟩; (try first | exact ⟨rfl, _, World.drewN_drewN _ _ _⟩ | exact ⟨rfl, _, Eq.trans (World.drewN_drewN _ _ _) (congrArg (World.drewN _) (Nat.add_assoc _ _ _))⟩); have p452 : 0 ≤ (0 : Int) := (by omega); have q452 : 0 < (l0.length : Int) := oA; obtain ⟨ad452, A452_0, c452_0, e452, hx452_0, hl452_0, hi452_0⟩ := at_L1 HR0.out 0 p452 q452; obtain rfl : ad449 = ad452 := (by injection e452); have qi452 : (0 < l0.length) = True := eq_true (by omega); (try rw [show ((0 : Int)).toNat = 0 from rfl] at hx452_0); (try rw [Addr.add_zero'] at hx452_0); have HR452_0 := Az hi452_0; have HC452_0 := Az hl452_0; clear hi452_0 hl452_0; replace p452 := eq_true p452; replace q452 := eq_true q452) | (go_at_call 103; (with_reducible refine (impl_sumOf.calls k2 _ _ (rd_L1 l0 0) t453 _ ?side1 ?side2 A12.out).mono ?_); (case side1 => exact cU (HR452_0.out)); (case side2 => exact HC452_0.out); rintro e w' ⟨rfl, ⟨nd, rfl⟩⟩; (try first | exact ⟨rfl, _, World.drewN_drewN _ _ _⟩ | exact ⟨rfl, _, Eq.trans (World.drewN_drewN _ _ _) (congrArg (World.drewN _) (Nat.add_assoc _ _ _))⟩)))
            repeat (go_quiet (first | (go_at_call 102; (try simp only [Go.IntWalk.i64_left]); (with_reducible refine (impl_PartsValid.calls k2 _ _ (rd_L1 l0 x15_2) true _ ?side1 ?side2 A8.out).mono ?_); (case side1 => exact cU (HR449_0.out)); (case side2 => exact HC449_0.out); rintro e w' ⟨rfl, ⟨nd, rfl⟩⟩; (try first | exact ⟨rfl, _, World.drewN_drewN _ _ _⟩ | exact ⟨rfl, _, Eq.trans (World.drewN_drewN _ _ _) (congrArg (World.drewN _) (Nat.add_assoc _ _ _))⟩)) | (go_at_call 103; (try simp only [Go.IntWalk.i64_left]); (with_reducible refine (impl_sumOf.calls k2 _ _ (rd_L1 l0 x15_2) t451 _ ?side1 ?side2 A10.out).mono ?_); (case side1 => exact cU (HR449_0.out)); (case side2 => exact HC449_0.out); rintro e w' ⟨rfl, ⟨nd, rfl⟩⟩; (try first | exact ⟨rfl, _, World.drewN_drewN _ _ _⟩ | exact ⟨rfl, _, Eq.trans (World.drewN_drewN _ _ _) (congrArg (World.drewN _) (Nat.add_assoc _ _ _))⟩); have p452 : 0 ≤ (0 : Int) := (by omega); have q452 : 0 < (l0.length : Int) := oA; obtain ⟨ad452, A452_0, c452_0, e452, hx452_0, hl452_0, hi452_0⟩ := at_L1 HR0.out 0 p452 q452; obtain rfl : ad449 = ad452 := (by injection e452); have qi452 : (0 < l0.length) = True := eq_true (by omega); (try rw [show ((0 : Int)).toNat = 0 from rfl] at hx452_0); (try rw [Addr.add_zero'] at hx452_0); have HR452_0 := Az hi452_0; have HC452_0 := Az hl452_0; clear hi452_0 hl452_0; replace p452 := eq_true p452; replace q452 := eq_true q452) | (go_at_call 103; (try simp only [Go.IntWalk.i64_left]); (with_reducible refine (impl_sumOf.calls k2 _ _ (rd_L1 l0 0) t453 _ ?side1 ?side2 A12.out).mono ?_); (case side1 => exact cU (HR452_0.out)); (case side2 => exact HC452_0.out); rintro e w' ⟨rfl, ⟨nd, rfl⟩⟩; (try first | exact ⟨rfl, _, World.drewN_drewN _ _ _⟩ | exact ⟨rfl, _, Eq.trans (World.drewN_drewN _ _ _) (congrArg (World.drewN _) (Nat.add_assoc _ _ _))⟩))); try go_wp2_with (first | (go_at_call 102; (try simp only [Go.IntWalk.i64_left]); (with_reducible refine (impl_PartsValid.calls k2 _ _ (rd_L1 l0 x15_2) true _ ?side1 ?side2 A8.out).mono ?_); (case side1 => exact cU (HR449_0.out)); (case side2 => exact HC449_0.out); rintro e w' ⟨rfl, ⟨nd, rfl⟩⟩; (try first | exact ⟨rfl, _, World.drewN_drewN _ _ _⟩ | exact ⟨rfl, _, Eq.trans (World.drewN_drewN _ _ _) (congrArg (World.drewN _) (Nat.add_assoc _ _ _))⟩)) | (go_at_call 103; (try simp only [Go.IntWalk.i64_left]); (with_reducible refine (impl_sumOf.calls k2 _ _ (rd_L1 l0 x15_2) t451 _ ?side1 ?side2 A10.out).mono ?_); (case side1 => exact cU (HR449_0.out)); (case side2 => exact HC449_0.out); rintro e w' ⟨rfl, ⟨nd, rfl⟩⟩; (try first | exact ⟨rfl, _, World.drewN_drewN _ _ _⟩ | exact ⟨rfl, _, Eq.trans (World.drewN_drewN _ _ _) (congrArg (World.drewN _) (Nat.add_assoc _ _ _))⟩); have p452 : 0 ≤ (0 : Int) := (by omega); have q452 : 0 < (l0.length : Int) := oA; obtain ⟨ad452, A452_0, c452_0, e452, hx452_0, hl452_0, hi452_0⟩ := at_L1 HR0.out 0 p452 q452; obtain rfl : ad449 = ad452 := (by injection e452); have qi452 : (0 < l0.length) = True := eq_true (by omega); (try rw [show ((0 : Int)).toNat = 0 from rfl] at hx452_0); (try rw [Addr.add_zero'] at hx452_0); have HR452_0 := Az hi452_0; have HC452_0 := Az hl452_0; clear hi452_0 hl452_0; replace p452 := eq_true p452; replace q452 := eq_true q452) | (go_at_call 103; (try simp only [Go.IntWalk.i64_left]); (with_reducible refine (impl_sumOf.calls k2 _ _ (rd_L1 l0 0) t453 _ ?side1 ?side2 A12.out).mono ?_); (case side1 => exact cU (HR452_0.out)); (case side2 => exact HC452_0.out); rintro e w' ⟨rfl, ⟨nd, rfl⟩⟩; (try first | exact ⟨rfl, _, World.drewN_drewN _ _ _⟩ | exact ⟨rfl, _, Eq.trans (World.drewN_drewN _ _ _) (congrArg (World.drewN _) (Nat.add_assoc _ _ _))⟩))))
            (first | go_roundg k2 | (refine Handed.intro k2 ?measure ?_; rotate_left; go_step; (try simp only [add_plain]); (repeat apply Exists.intro); refine ⟨?rel, rfl⟩))
            case measure => have := HJ1.out; have := HK2.out; omega
            case rel => exact ⟨(wrap64 (x15_2 + 1)), rS, H', ⟨by have := HJ1.out; have := HK2.out; omega⟩, by repeat (first | exact Drawn0.refl _ | apply Drawn0.step)⟩
           ·
            rw [if_neg c13] at H; have c13b0 := beq_eq_false_iff_ne.mpr c13; have c13b1 := bne_iff_ne.mpr c13; obtain rfl := Option.some.inj H; have p449 : 0 ≤ (x15_2 : Int) := oA; have q449 : x15_2 < (l0.length : Int) := oA; obtain ⟨ad449, A449_0, c449_0, e449, hx449_0, hl449_0, hi449_0⟩ := at_L1 HR0.out x15_2 p449 q449
            cases e449
            have HR449_0 := Az hi449_0; have HC449_0 := Az hl449_0; clear hi449_0 hl449_0; replace p449 := eq_true p449; replace q449 := eq_true q449
            go_wp2_with (first | (go_at_call 102; (with_reducible refine (impl_PartsValid.calls k2 _ _ (rd_L1 l0 x15_2) true _ ?side1 ?side2 A8.out).mono ?_); (case side1 => exact cU (HR449_0.out)); (case side2 => exact HC449_0.out); rintro e w' ⟨rfl, ⟨nd, rfl⟩⟩; (try first | exact ⟨rfl, _, World.drewN_drewN _ _ _⟩ | exact ⟨rfl, _, Eq.trans (World.drewN_drewN _ _ _) (congrArg (World.drewN _) (Nat.add_assoc _ _ _))⟩)) | (go_at_call 103; (with_reducible refine (impl_sumOf.calls k2 _ _ (rd_L1 l0 x15_2) t451 _ ?side1 ?side2 A10.out).mono ?_); (case side1 => exact cU (HR449_0.out)); (case side2 => exact HC449_0.out); rintro e w' ⟨rfl, ⟨nd, rfl⟩⟩; (try first | exact ⟨rfl, _, World.drewN_drewN _ _ _⟩ | exact ⟨rfl, _, Eq.trans (World.drewN_drewN _ _ _) (congrArg (World.drewN _) (Nat.add_assoc _ _ _))⟩); have p452 : 0 ≤ (0 : Int) := (by omega); have q452 : 0 < (l0.length : Int) := oA; obtain ⟨ad452, A452_0, c452_0, e452, hx452_0, hl452_0, hi452_0⟩ := at_L1 HR0.out 0 p452 q452; obtain rfl : ad449 = ad452 := (by injection e452); have qi452 : (0 < l0.length) = True := eq_true (by omega); (try rw [show ((0 : Int)).toNat = 0 from rfl] at hx452_0); (try rw [Addr.add_zero'] at hx452_0); have HR452_0 := Az hi452_0; have HC452_0 := Az hl452_0; clear hi452_0 hl452_0; replace p452 := eq_true p452; replace q452 := eq_true q452) | (go_at_call 103; (with_reducible refine (impl_sumOf.calls k2 _ _ (rd_L1 l0 0) t453 _ ?side1 ?side2 A12.out).mono ?_); (case side1 => exact cU (HR452_0.out)); (case side2 => exact HC452_0.out); rintro e w' ⟨rfl, ⟨nd, rfl⟩⟩; (try first | exact ⟨rfl, _, World.drewN_drewN _ _ _⟩ | exact ⟨rfl, _, Eq.trans (World.drewN_drewN _ _ _) (congrArg (World.drewN _) (Nat.add_assoc _ _ _))⟩)))
            repeat (go_quiet (first | (go_at_call 102; (try simp only [Go.IntWalk.i64_left]); (with_reducible refine (impl_PartsValid.calls k2 _ _ (rd_L1 l0 x15_2) true _ ?side1 ?side2 A8.out).mono ?_); (case side1 => exact cU (HR449_0.out)); (case side2 => exact HC449_0.out); rintro e w' ⟨rfl, ⟨nd, rfl⟩⟩; (try first | exact ⟨rfl, _, World.drewN_drewN _ _ _⟩ | exact ⟨rfl, _, Eq.trans (World.drewN_drewN _ _ _) (congrArg (World.drewN _) (Nat.add_assoc _ _ _))⟩)) | (go_at_call 103; (try simp only [Go.IntWalk.i64_left]); (with_reducible refine (impl_sumOf.calls k2 _ _ (rd_L1 l0 x15_2) t451 _ ?side1 ?side2 A10.out).mono ?_); (case side1 => exact cU (HR449_0.out)); (case side2 => exact HC449_0.out); rintro e w' ⟨rfl, ⟨nd, rfl⟩⟩; (try first | exact ⟨rfl, _, World.drewN_drewN _ _ _⟩ | exact ⟨rfl, _, Eq.trans (World.drewN_drewN _ _ _) (congrArg (World.drewN _) (Nat.add_assoc _ _ _))⟩); have p452 : 0 ≤ (0 : Int) := (by omega); have q452 : 0 < (l0.length : Int) := oA; obtain ⟨ad452, A452_0, c452_0, e452, hx452_0, hl452_0, hi452_0⟩ := at_L1 HR0.out 0 p452 q452; obtain rfl : ad449 = ad452 := (by injection e452); have qi452 : (0 < l0.length) = True := eq_true (by omega); (try rw [show ((0 : Int)).toNat = 0 from rfl] at hx452_0); (try rw [Addr.add_zero'] at hx452_0); have HR452_0 := Az hi452_0; have HC452_0 := Az hl452_0; clear hi452_0 hl452_0; replace p452 := eq_true p452; replace q452 := eq_true q452) | (go_at_call 103; (try simp only [Go.IntWalk.i64_left]); (with_reducible refine (impl_sumOf.calls k2 _ _ (rd_L1 l0 0) t453 _ ?side1 ?side2 A12.out).mono ?_); (case side1 => exact cU (HR452_0.out)); (case side2 => exact HC452_0.out); rintro e w' ⟨rfl, ⟨nd, rfl⟩⟩; (try first | exact ⟨rfl, _, World.drewN_drewN _ _ _⟩ | exact ⟨rfl, _, Eq.trans (World.drewN_drewN _ _ _) (congrArg (World.drewN _) (Nat.add_assoc _ _ _))⟩))); try go_wp2_with (first | (go_at_call 102; (try simp only [Go.IntWalk.i64_left]); (with_reducible refine (impl_PartsValid.calls k2 _ _ (rd_L1 l0 x15_2) true _ ?side1 ?side2 A8.out).mono ?_); (case side1 => exact cU (HR449_0.out)); (case side2 => exact HC449_0.out); rintro e w' ⟨rfl, ⟨nd, rfl⟩⟩; (try first | exact ⟨rfl, _, World.drewN_drewN _ _ _⟩ | exact ⟨rfl, _, Eq.trans (World.drewN_drewN _ _ _) (congrArg (World.drewN _) (Nat.add_assoc _ _ _))⟩)) | (go_at_call 103; (try simp only [Go.IntWalk.i64_left]); (with_reducible refine (impl_sumOf.calls k2 _ _ (rd_L1 l0 x15_2) t451 _ ?side1 ?side2 A10.out).mono ?_); (case side1 => exact cU (HR449_0.out)); (case side2 => exact HC449_0.out); rintro e w' ⟨rfl, ⟨nd, rfl⟩⟩; (try first | exact ⟨rfl, _, World.drewN_drewN _ _ _⟩ | exact ⟨rfl, _, Eq.trans (World.drewN_drewN _ _ _) (congrArg (World.drewN _) (Nat.add_assoc _ _ _))⟩); have p452 : 0 ≤ (0 : Int) := (by omega); have q452 : 0 < (l0.length : Int) := oA; obtain ⟨ad452, A452_0, c452_0, e452, hx452_0, hl452_0, hi452_0⟩ := at_L1 HR0.out 0 p452 q452; obtain rfl : ad449 = ad452 := (by injection e452); have qi452 : (0 < l0.length) = True := eq_true (by omega); (try rw [show ((0 : Int)).toNat = 0 from rfl] at hx452_0); (try rw [Addr.add_zero'] at hx452_0); have HR452_0 := Az hi452_0; have HC452_0 := Az hl452_0; clear hi452_0 hl452_0; replace p452 := eq_true p452; replace q452 := eq_true q452) | (go_at_call 103; (try simp only [Go.IntWalk.i64_left]); (with_reducible refine (impl_sumOf.calls k2 _ _ (rd_L1 l0 0) t453 _ ?side1 ?side2 A12.out).mono ?_); (case side1 => exact cU (HR452_0.out)); (case side2 => exact HC452_0.out); rintro e w' ⟨rfl, ⟨nd, rfl⟩⟩; (try first | exact ⟨rfl, _, World.drewN_drewN _ _ _⟩ | exact ⟨rfl, _, Eq.trans (World.drewN_drewN _ _ _) (congrArg (World.drewN _) (Nat.add_assoc _ _ _))⟩))))
            go_ret
            exact ⟨by first | rfl | (simp; done) | (simp [*]; done), by repeat (first | exact Drawn0.refl _ | apply Drawn0.step)⟩
          ·
           rw [if_neg c11] at H
           exact absurd H (by simp)
         ·
          replace c9 := Bool.eq_false_iff.mpr c9; subst c9
          have H1 : (some (-1)) = some r := by rw [if_neg (show ¬ (false = true) by decide)] at H; exact H
          clear H; have H := H1; clear H1; obtain rfl := Option.some.inj H; have p449 : 0 ≤ (x15_2 : Int) := oA; have q449 : x15_2 < (l0.length : Int) := oA; obtain ⟨ad449, A449_0, c449_0, e449, hx449_0, hl449_0, hi449_0⟩ := at_L1 HR0.out x15_2 p449 q449
          cases e449
          have HR449_0 := Az hi449_0; have HC449_0 := Az hl449_0; clear hi449_0 hl449_0; replace p449 := eq_true p449; replace q449 := eq_true q449
          go_wp2_with (first | (go_at_call 102; (with_reducible refine (impl_PartsValid.calls k2 _ _ (rd_L1 l0 x15_2) false _ ?side1 ?side2 A8.out).mono ?_); (case side1 => exact cU (HR449_0.out)); (case side2 => exact HC449_0.out); rintro e w' ⟨rfl, ⟨nd, rfl⟩⟩; (try first | exact ⟨rfl, _, World.drewN_drewN _ _ _⟩ | exact ⟨rfl, _, Eq.trans (World.drewN_drewN _ _ _) (congrArg (World.drewN _) (Nat.add_assoc _ _ _))⟩)))
          repeat (go_quiet (first | (go_at_call 102; (try simp only [Go.IntWalk.i64_left]); (with_reducible refine (impl_PartsValid.calls k2 _ _ (rd_L1 l0 x15_2) false _ ?side1 ?side2 A8.out).mono ?_); (case side1 => exact cU (HR449_0.out)); (case side2 => exact HC449_0.out); rintro e w' ⟨rfl, ⟨nd, rfl⟩⟩; (try first | exact ⟨rfl, _, World.drewN_drewN _ _ _⟩ | exact ⟨rfl, _, Eq.trans (World.drewN_drewN _ _ _) (congrArg (World.drewN _) (Nat.add_assoc _ _ _))⟩))); try go_wp2_with (first | (go_at_call 102; (try simp only [Go.IntWalk.i64_left]); (with_reducible refine (impl_PartsValid.calls k2 _ _ (rd_L1 l0 x15_2) false _ ?side1 ?side2 A8.out).mono ?_); (case side1 => exact cU (HR449_0.out)); (case side2 => exact HC449_0.out); rintro e w' ⟨rfl, ⟨nd, rfl⟩⟩; (try first | exact ⟨rfl, _, World.drewN_drewN _ _ _⟩ | exact ⟨rfl, _, Eq.trans (World.drewN_drewN _ _ _) (congrArg (World.drewN _) (Nat.add_assoc _ _ _))⟩))))
          go_ret
          exact ⟨by first | rfl | (simp; done) | (simp [*]; done), by repeat (first | exact Drawn0.refl _ | apply Drawn0.step)⟩
        ·
         rw [if_neg c7] at H
         exact absurd H (by simp)
       ·
        rw [if_neg c6] at H
        exact absurd H (by simp)
      ·
       rw [if_neg c5] at H; have c5b0 := decide_eq_false c5; clear c5
       by_cases c14 : 0 < (l0.length : Int)
       ·
        rw [if_pos c14] at H; have c14b0 := decide_eq_true c14; have c14b1 : decide (0 < l0.length) = true := decide_eq_true (by omega); clear c14; replace H := Option.bind_eq_some_iff.mp H; obtain ⟨t448, A150, H⟩ := H; replace H : (some t448) = some r := H; have A15 := Az A150; clear A150; obtain rfl := Option.some.inj H; have p447 : 0 ≤ (0 : Int) := (by omega); have q447 : 0 < (l0.length : Int) := oA; obtain ⟨ad447, A447_0, c447_0, e447, hx447_0, hl447_0, hi447_0⟩ := at_L1 HR0.out 0 p447 q447
        cases e447
        have qi447 : (0 < l0.length) = True := eq_true (by omega); (try rw [show ((0 : Int)).toNat = 0 from rfl] at hx447_0); (try rw [Addr.add_zero'] at hx447_0); have HR447_0 := Az hi447_0; have HC447_0 := Az hl447_0; clear hi447_0 hl447_0; replace p447 := eq_true p447; replace q447 := eq_true q447
        go_wp2_with (first | (go_at_call 103; (with_reducible refine (impl_sumOf.calls k2 _ _ (rd_L1 l0 0) t448 _ ?side1 ?side2 A15.out).mono ?_); (case side1 => exact cU (HR447_0.out)); (case side2 => exact HC447_0.out); rintro e w' ⟨rfl, ⟨nd, rfl⟩⟩; (try first | exact ⟨rfl, _, World.drewN_drewN _ _ _⟩ | exact ⟨rfl, _, Eq.trans (World.drewN_drewN _ _ _) (congrArg (World.drewN _) (Nat.add_assoc _ _ _))⟩)))
        repeat (go_quiet (first | (go_at_call 103; (try simp only [Go.IntWalk.i64_left]); (with_reducible refine (impl_sumOf.calls k2 _ _ (rd_L1 l0 0) t448 _ ?side1 ?side2 A15.out).mono ?_); (case side1 => exact cU (HR447_0.out)); (case side2 => exact HC447_0.out); rintro e w' ⟨rfl, ⟨nd, rfl⟩⟩; (try first | exact ⟨rfl, _, World.drewN_drewN _ _ _⟩ | exact ⟨rfl, _, Eq.trans (World.drewN_drewN _ _ _) (congrArg (World.drewN _) (Nat.add_assoc _ _ _))⟩))); try go_wp2_with (first | (go_at_call 103; (try simp only [Go.IntWalk.i64_left]); (with_reducible refine (impl_sumOf.calls k2 _ _ (rd_L1 l0 0) t448 _ ?side1 ?side2 A15.out).mono ?_); (case side1 => exact cU (HR447_0.out)); (case side2 => exact HC447_0.out); rintro e w' ⟨rfl, ⟨nd, rfl⟩⟩; (try first | exact ⟨rfl, _, World.drewN_drewN _ _ _⟩ | exact ⟨rfl, _, Eq.trans (World.drewN_drewN _ _ _) (congrArg (World.drewN _) (Nat.add_assoc _ _ _))⟩))))
        go_ret
        exact ⟨by first | rfl | (simp; done) | (simp [*]; done), by repeat (first | exact Drawn0.refl _ | apply Drawn0.step)⟩
       ·
        rw [if_neg c14] at H
        exact absurd H (by simp)
def fac1I (w0 : World) (At : Option Addr) (ct : Nat) (ts : List (List Int)) (g1 g2 : Nat) (v : Value) (s : List (List (List Int))) (W : World) (ok : Nat → Prop) : Prop :=
  Below w0.heap.size w0 W ∧ W.heap[g1]? = some (.cells #[.slice At ts.length ct] 45 (0, 0)) ∧ W.heap[g2]? = some (.cells #[v] 98 (0, 0)) ∧ Kd.S (Kd.slice 23 (Kd.slice 3 (Kd.int .i64))) 45 W w0.heap.size ok v s ∧ (∀ q, ok q → q ≠ g1 ∧ q ≠ g2 ∧ q < W.heap.size) ∧ s.length = ts.length
theorem fac1I.below {w0 W W1 : World} {At : Option Addr} {ct : Nat} {ts : List (List Int)} {g1 g2 : Nat} {v : Value} {s : List (List (List Int))} {ok : Nat → Prop} (h : fac1I w0 At ct ts g1 g2 v s W ok) (hb : Below W.heap.size W W1) : fac1I w0 At ct ts g1 g2 v s W1 ok := by
  obtain ⟨h1, h2, h3, h4, h5, h6⟩ := h
  exact ⟨below_step h1 hb, blk_below h2 hb, blk_below h3 hb, Kd.S_below h4 hb, fun q hq => ⟨(h5 q hq).1, (h5 q hq).2.1, Nat.lt_of_lt_of_le (h5 q hq).2.2 hb.size⟩, h6⟩
def oneI (w0 : World) (g : Nat) (m : Int) (W : World) (ok : Nat → Prop) : Prop := Below w0.heap.size w0 W ∧ W.heap[g]? = some (.cells #[.int .i64 m] 3 (0, 0)) ∧ ok = fun q => q = g
theorem oneI.below {w0 W W1 : World} {g : Nat} {m : Int} {ok : Nat → Prop} (h : oneI w0 g m W ok) (hb : Below W.heap.size W W1) : oneI w0 g m W1 ok := ⟨below_step h.1 hb, blk_below h.2.1 hb, h.2.2⟩
theorem oneI.put {w0 W : World} {g : Nat} {m : Int} {ok : Nat → Prop} (h : oneI w0 g m W ok) (hg : w0.heap.size ≤ g) (m' : Int) : oneI w0 g m' (W.setCell ⟨g, 0, none⟩ (.int .i64 m')) ok ∧ Kept W (W.setCell ⟨g, 0, none⟩ (.int .i64 m')) ok := by
  obtain ⟨h1, h2, rfl⟩ := h
  exact ⟨⟨below_set h1 hg, one_setCell h2, rfl⟩, Kept.setCell (S := fun q => q = g) (p := ⟨g, 0, none⟩) (Kept.refl _ _) (Or.inl rfl) _⟩
def impl_factorial.l0 : Nat → Int → Int → Int → Option (Int)
 | 0, _, _, _ => none
 | k + 1, x0, x3, x4 => if x4 ≤ x0 then (impl_factorial.l0 k x0 (wrap64 (x3 * x4)) (wrap64 (x4 + 1))) else (some x3)
def impl_factorial.f (k : Nat) (a0 : Int) : Option (Int) := impl_factorial.l0 k a0 1 2
theorem impl_factorial.mono_l : ∀ k, (∀ y0 y1 y2, LeO (impl_factorial.l0 k y0 y1 y2) (impl_factorial.l0 (k + 1) y0 y1 y2))
 | 0 => fun _ _ _ r h => by simp [impl_factorial.l0] at h
 | k + 1 => by
  have ih0 := impl_factorial.mono_l k
  ·
   intro y0 y1 y2
   unfold impl_factorial.l0
   repeat' first
   | (with_reducible exact ih0 _ _ _)
   | (with_reducible exact LeO.refl _)
   | (with_reducible exact LeO.none _)
   | (with_reducible refine LeO.ite ?_ ?_)
   | (with_reducible refine LeO.bind ?_ (fun _ => ?_))
   | exact ih0 _ _ _
   | exact LeO.none _
   | refine LeO.ite ?_ ?_
   | refine LeO.bind ?_ (fun _ => ?_)
theorem impl_factorial.mono : ∀ a0 k, LeO (impl_factorial.f k a0) (impl_factorial.f (k + 1) a0) := by
 intro a0 k
 have ih0 := impl_factorial.mono_l k
 unfold impl_factorial.f
 repeat' first
   | (with_reducible exact ih0 _ _ _)
   | (with_reducible exact LeO.refl _)
   | (with_reducible exact LeO.none _)
   | (with_reducible refine LeO.ite ?_ ?_)
   | (with_reducible refine LeO.bind ?_ (fun _ => ?_))
   | exact ih0 _ _ _
   | exact LeO.none _
   | refine LeO.ite ?_ ?_
   | refine LeO.bind ?_ (fun _ => ?_)
set_option maxHeartbeats 8000000 in
set_option maxRecDepth 100000 in
theorem impl_factorial.calls (k : Nat) (a0 : Int) (r : Int) (w : World) (h : impl_factorial.f k a0 = some r) :
  Calls Try.prog 109 #[.int .i64 a0] w fun e w' => e = .returned (.int .i64 r) ∧ Drawn0 w w' := by
 have H : (impl_factorial.l0 k a0 1 2) = some r := h; clear h; have H' := Az H; clear H
 go_enter Try.func109, Try.ntmps109
 go_wp2
 go_loopg [3, 4] k (fun kq v3 v4 w' => ∃ (x3_1 : Int) (x4_1 : Int), v3 = .int .i64 x3_1 ∧ v4 = .int .i64 x4_1 ∧ Aside0 (impl_factorial.l0 kq a0 x3_1 x4_1 = some r) ∧ Aside0 (kq ≤ k) ∧ Drawn0 w w')
 case atStart => exact ⟨(1), (2), rS, rS, H', ⟨Nat.le_refl _⟩, by repeat (first | exact Drawn0.refl _ | apply Drawn0.step)⟩
 case round =>
  clear H'; (try clear c1); obtain ⟨x3_1, x4_1, rfl, rfl, HA, HK1, ⟨m1, rfl⟩⟩ := hrel
  cases gk with
  | zero => exact absurd HA.out (by simp [impl_factorial.l0])
  | succ k1 =>
   have H := HA.out; clear HA; simp only [impl_factorial.l0] at H
   by_cases c2 : x4_1 ≤ a0
   ·
    rw [if_pos c2] at H; have c2b0 := decide_eq_true c2; clear c2; have H' := Az H; clear H
    go_wp2
    (first | go_roundg k1 | (refine Handed.intro k1 ?measure ?_; rotate_left; go_step; (try simp only [add_plain]); (repeat apply Exists.intro); refine ⟨?rel, rfl⟩))
    case measure => have := HK1.out; omega
    case rel => exact ⟨(wrap64 (x3_1 * x4_1)), (wrap64 (x4_1 + 1)), rS, rS, H', ⟨by have := HK1.out; omega⟩, by repeat (first | exact Drawn0.refl _ | apply Drawn0.step)⟩
   ·
    rw [if_neg c2] at H; have c2b0 := decide_eq_false c2; clear c2; obtain rfl := Option.some.inj H
    go_wp2
    go_ret
    exact ⟨by first | rfl | (simp; done) | (simp [*]; done), by repeat (first | exact Drawn0.refl _ | apply Drawn0.step)⟩
theorem lawM3 : Go.Maps.Keyed Try.prog 3 := Go.Maps.int_keyed Try.underlying3
theorem zeroM3 (w : World) : (zeroValue 3).run Try.prog w = .ok (.int .i64 0) w := by kernel_rfl
def mapI (W : World) (b n : Nat) (m : Int → Int) : Prop := ∃ es : List (Lit × DataW Unit), W.ownsMap Try.prog 3 (plainElem Try.prog 3) b n (.map es) ∧ ∀ x : Int, (Lit.int .i64 x).wf = true → (DataW.map es).atKey (.int .i64 x) (.lit (.int .i64 0)) = .lit (.int .i64 (m x))
theorem mapI_new (W : World) : mapI (W.alloc (.map #[] 0)) W.heap.size 0 (fun _ => 0) := ⟨[], World.ownsMap_made W _ _ _, fun _ _ => rfl⟩
theorem mapI_put {W1 : World} {b n : Nat} {m : Int → Int} {es : List (Lit × DataW Unit)} (hm : ∀ x : Int, (Lit.int .i64 x).wf = true → (DataW.map es).atKey (.int .i64 x) (.lit (.int .i64 0)) = .lit (.int .i64 (m x))) (y v : Int) (h : W1.ownsMap Try.prog 3 (plainElem Try.prog 3) b n ((DataW.map es).put (.int .i64 y) (.lit (.int .i64 v)))) : mapI W1 b n (fun x => if x = y then v else m x) := by
  refine ⟨_, h, fun x hx => ?_⟩
  show DataW.atKey _ _ _ = DataW.lit (Lit.int .i64 (if x = y then v else m x))
  by_cases e : x = y
  ·
    subst e; rw [if_pos rfl]
    exact Go.Maps.atKey_put_same (k := .int .i64 x) ⟨es, rfl⟩ trivial _ _
  ·
    rw [if_neg e]
    exact (Go.Maps.atKey_put_other (D := DataW.map es) (fun h2 => e (by injection h2)) _ _).trans (hm x hx)
def classL : Nat → List Int → Int → (Int → Int) → Int → Option Int
  | 0, _, _, _, _ => none
  | k + 1, p, out, m, i => if i < (p.length : Int) then (if 0 ≤ i then (if 0 ≤ rd p i ∧ rd p i ≤ 6 then (if wrap64 (rd p i * wrap64 (m (rd p i) + 1)) = 0 then none else classL k p (wrap64 (Int.tdiv out (wrap64 (rd p i * wrap64 (m (rd p i) + 1))))) (fun x => if x = rd p i then wrap64 (m (rd p i) + 1) else m x) (wrap64 (i + 1))) else none) else none) else some out
def impl_ClassSize.f (k : Nat) (l0 : List Int) : Option Int := (impl_PartsValid.f k l0).bind fun b => (if b = true then ((impl_sumOf.f k l0).bind fun s => ((impl_factorial.f k s).bind fun o => classL k l0 o (fun _ => 0) 0)) else some (-1))
theorem classL.mono : ∀ k p o m i, LeO (classL k p o m i) (classL (k + 1) p o m i)
  | 0 => fun _ _ _ _ r h => by simp [classL] at h
  | k + 1 => by
    have ih0 := classL.mono k
    intro p o m i
    unfold classL
    repeat' first
      | (with_reducible exact ih0 _ _ _ _)
      | (with_reducible exact LeO.refl _)
      | (with_reducible exact LeO.none _)
      | (with_reducible refine LeO.ite ?_ ?_)
theorem impl_ClassSize.mono : ∀ a0 k, LeO (impl_ClassSize.f k a0) (impl_ClassSize.f (k + 1) a0) := by
  intro a0 k
  unfold impl_ClassSize.f
  repeat' first
    | (with_reducible exact impl_PartsValid.mono _ _)
    | (with_reducible exact impl_sumOf.mono _ _)
    | (with_reducible exact impl_factorial.mono _ _)
    | (with_reducible exact classL.mono _ _ _ _ _)
    | (with_reducible exact LeO.refl _)
    | (with_reducible refine LeO.ite ?_ ?_)
    | (with_reducible refine LeO.bind ?_ (fun _ => ?_))
set_option maxHeartbeats 8000000 in
set_option maxRecDepth 100000 in
theorem impl_ClassSize.calls (k : Nat) (A0 : Option Addr) (c0 : Nat) (l0 : List Int) (r : Int) (w : World) (hr0 : Kd.C (Kd.int .i64) w A0 l0.length l0) (hc0 : l0.length ≤ c0) (h : impl_ClassSize.f k l0 = some r) :
    Calls Try.prog 48 #[.slice A0 l0.length c0] w fun e w' => e = .returned (.int .i64 r) ∧ Below w.heap.size w w' := by
  have HR0 := Az hr0; have HC0 := Az hc0; have HML := Az hr0.2.1; have HB := Az (Below.refl w.heap.size w); clear hr0 hc0
  unfold impl_ClassSize.f at h
  obtain ⟨b, A10, h⟩ := Option.bind_eq_some_iff.mp h; have A1 := Az A10; clear A10
  cases b with
  | false =>
    rw [if_neg (by decide)] at h; obtain rfl := Option.some.inj h; clear h
    go_enter Try.func48, Try.ntmps48
    go_wp2_with (first | (go_at_call 102; (with_reducible refine (impl_PartsValid.calls k _ _ l0 _ _ ?side1 ?side2 A1.out).mono ?_); (case side1 => exact Kd.C_below HR0.out (bU0 HB.out)); (case side2 => exact HC0.out); rintro e w1 ⟨rfl, hd⟩; have n0 := Az (below_step (bU0 HB.out) (Drawn0.below hd)); clear HB hd; have HB := n0; clear n0))
    go_ret
    exact ⟨rfl, (bU0 HB.out)⟩
  | true =>
    rw [if_pos rfl] at h; obtain ⟨s, A20, h⟩ := Option.bind_eq_some_iff.mp h; obtain ⟨o, A30, h⟩ := Option.bind_eq_some_iff.mp h; have A2 := Az A20; have A3 := Az A30; have H' := Az h; clear A20 A30 h; have hmm := @run_makeMap Try.prog
    go_enter Try.func48, Try.ntmps48
    go_wp2_with (first | (go_at_call 102; (with_reducible refine (impl_PartsValid.calls k _ _ l0 _ _ ?side1 ?side2 A1.out).mono ?_); (case side1 => exact Kd.C_below HR0.out (bU0 HB.out)); (case side2 => exact HC0.out); rintro e w1 ⟨rfl, hd⟩; have n0 := Az (below_step (bU0 HB.out) (Drawn0.below hd)); clear HB hd; have HB := n0; clear n0) | (go_at_call 103; (with_reducible refine (impl_sumOf.calls k _ _ l0 s _ ?side1 ?side2 A2.out).mono ?_); (case side1 => exact Kd.C_below HR0.out (bU0 HB.out)); (case side2 => exact HC0.out); rintro e w2 ⟨rfl, hd⟩; have n0 := Az (below_step (bU0 HB.out) (Drawn0.below hd)); clear HB hd; have HB := n0; clear n0) | (go_at_call 109; (with_reducible refine (impl_factorial.calls k s o _ A3.out).mono ?_); rintro e w3 ⟨rfl, hd⟩; have n0 := Az (below_step (bU0 HB.out) (Drawn0.below hd)); clear HB hd; have HB := n0; clear n0))
    go_loopg [3, 16] k (fun kq v3 v16 w' => ∃ (out i : Int) (m : Int → Int) (n : Nat), v3 = .int .i64 out ∧ v16 = .int .i64 i ∧ Aside0 (classL kq l0 out m i = some r) ∧ Aside0 (kq ≤ k) ∧ Aside0 (mapI w' w3.heap.size n m) ∧ Aside0 ((n : Int) ≤ i) ∧ Aside0 (Below w.heap.size w w'))
    case atStart => exact ⟨o, 0, fun _ => 0, 0, rfl, rfl, H', ⟨Nat.le_refl _⟩, ⟨mapI_new w3⟩, ⟨by omega⟩, ⟨(bU0 HB.out)⟩⟩
    case round =>
      clear H'; have HW3 := Az (below_size HB.out); clear HB; obtain ⟨out, i, m, n, rfl, rfl, HA, HK1, HM, HNI, HB⟩ := hrel
      cases gk with
      | zero => exact absurd HA.out (by simp [classL])
      | succ k1 =>
        have H := HA.out; clear HA; simp only [classL] at H
        by_cases c1 : i < (l0.length : Int)
        ·
          rw [if_pos c1] at H; have c1b0 := decide_eq_true c1
          by_cases c2 : 0 ≤ i
          ·
            rw [if_pos c2] at H
            by_cases c3 : 0 ≤ rd l0 i ∧ rd l0 i ≤ 6
            ·
              rw [if_pos c3] at H
              by_cases c4 : wrap64 (rd l0 i * wrap64 (m (rd l0 i) + 1)) = 0
              ·
                rw [if_pos c4] at H
                cases H
              ·
                rw [if_neg c4] at H; have H' := Az H
                have hwf : (Lit.int .i64 (rd l0 i)).wf = true := by have h1_ := wrap64_wf (rd l0 i); rwa [Go.IntWalk.wrap64_in (rd l0 i) ⟨by omega, by omega⟩] at h1_
                have hkey : keyOf Try.prog 3 (.int .i64 (rd l0 i)) = some (.int .i64 (rd l0 i)) := Go.Maps.keyOf_int_mk Try.underlying3 hwf; obtain ⟨es, hown, hmx⟩ := HM.out; have hx1 := hmx _ hwf; have HMX := Az hmx; have HNL : Aside0 (n < maxLen) := ⟨by have h1_ := HNI.out; have h2_ := HML.out; have h3_ : (maxLen : Nat) = 9223372036854775807 := rfl; omega⟩; have HI1 : Aside0 (((n + 1 : Nat) : Int) ≤ wrap64 (i + 1)) := ⟨by have h1_ := HNI.out; have h2_ : l0.length ≤ 9223372036854775807 := HML.out; rw [Go.IntWalk.wrap64_in (i + 1) ⟨by omega, by omega⟩]; omega⟩; obtain ⟨ad, eA, hxc⟩ := Kd.at_int (Kd.C_below HR0.out HB.out) i c2 c1
                cases eA
                have p5 := eq_true c2; have q5 := eq_true c1; have c4b0 := beq_eq_false_iff_ne.mpr c4; clear H c1 c2 c3 hmx
                go_wp2_with (first | (at_lookup; refine wpList_lookup_own_int _ rfl _ _ 79 rfl 3 3 .i64 lawM3 Try.underlying79 Try.underlying3 (zeroM3 _) w3.heap.size n _ rfl hown _ _ rfl hkey ?_; intro c hat hwc; have e1 := hat.symm.trans hx1; injection e1 with e2; injection e2 with _ e3; subst e3; clear hat hwc) | (at_mapUpdate; refine wpList_mapUpdate_own _ rfl _ _ _ 79 rfl 3 3 lawM3 Try.underlying79 _ w3.heap.size n _ rfl hown HNL.out _ _ _ rfl rfl hkey _ [] (plainElem_int Try.underlying3 (wrap64_wf _)) ?_; intro w1 hown1 hgrow1; have HG1 := Az hgrow1; clear hgrow1) | (at_lookup; refine wpList_lookup_own_int _ rfl _ _ 79 rfl 3 3 .i64 lawM3 Try.underlying79 Try.underlying3 (zeroM3 _) w3.heap.size (n + 1) _ rfl hown1 _ _ rfl hkey ?_; intro c hat hwc; have e1 := hat.symm.trans (Go.Maps.atKey_put_same (k := .int .i64 (rd l0 i)) ⟨es, rfl⟩ trivial _ _); injection e1 with e2; injection e2 with _ e3; subst e3; clear hat hwc))
                (first | go_roundg k1 | (refine Handed.intro k1 ?measure ?_; rotate_left; go_step; (try simp only [add_plain]); (repeat apply Exists.intro); refine ⟨?rel, rfl⟩))
                case measure => have := HK1.out; omega
                case rel => exact ⟨_, wrap64 (i + 1), _, n + 1, rfl, rfl, H', ⟨by have := HK1.out; omega⟩, ⟨mapI_put HMX.out _ _ hown1⟩, HI1, ⟨pw_below_grown HB.out _ (below_size HB.out) HG1.out (fun q hq => by cases hq; exact HW3.out)⟩⟩
            ·
              rw [if_neg c3] at H
              cases H
          ·
            rw [if_neg c2] at H
            cases H
        ·
          rw [if_neg c1] at H; have c1b0 := decide_eq_false c1; clear c1; obtain rfl := Option.some.inj H
          go_wp2
          go_ret
          exact ⟨rfl, HB.out⟩
theorem goesA_ {P : Program} {ops : Array Oper} {Q : Exit → Act → World → Prop} {oi : Oper} {N : Option Tmp} {a : Act} {w : World} {K : Act → World → Prop} {f : FuncId} {fn : Func} {xs : Array Operand} {ts : Array TypeId} {cp : Array Value} {op : Operand} (hf : P.funcs[f]? = some fn) (hname : (fn.name == "runtime.NumGoroutine") = false) (hb : fn.body.isSome = true) (args : Array Value)
    (hw : Region.wanted oi (yielded ops a.tmps) = true) (hN : oi.dst = N) (hop : oi.op = .call { callee := .value op, args := xs, argTypes := ts }) (hv : a.eval op = .func (.func f) #[] cp) (hargs : xs.map a.eval ++ cp = args)
    (h : Calls P f args w fun e w' => ∃ v, e = .returned v ∧ K (a.put N v) w') : if Region.wanted oi (yielded ops a.tmps) = true then Oper.wp P oi a w K Q else K (a.put N undef) w := by
  refine call_ f args hw hN ?_ h
  have he := enters_ hf hname hb args w
  unfold execOp
  simp [hop, resolve, Deferred.ofValue, invoke, hv, hargs, he]
theorem infoA3 : (Try.prog.info? 3).map (fun i => (i.zero, i.size, i.bytes)) = some (some (.int .i64 0), 1, 8) := by kernel_rfl
theorem infoA23 : (Try.prog.info? 23).map (fun i => (i.zero, i.size, i.bytes)) = some (some (.slice none 0 0), 1, 24) := by kernel_rfl
mutual
def paG : Nat → List (List Int) → List Int → Int → Option (List (List Int))
  | 0, _, _, _ => none
  | k + 1, L, p, left => if left = 0 then (if L.length < 5864062014805 then some (L ++ [p]) else none) else (if (p.length : Int) > 0 then paL k L p left (mn left (rd p ((p.length : Int) - 1))) else paL k L p left left)
def paL : Nat → List (List Int) → List Int → Int → Int → Option (List (List Int))
  | 0, _, _, _, _ => none
  | k + 1, L, p, left, q => if q ≥ 1 then (if p.length + 1 < 17592186044416 then ((paG k L (p ++ [q]) (wrap64 (left - q))).bind fun L' => paL k L' p left (wrap64 (q - 1))) else none) else some L
end
theorem paG.mono_l : ∀ k, (∀ L p left, LeO (paG k L p left) (paG (k + 1) L p left)) ∧ (∀ L p left q, LeO (paL k L p left q) (paL (k + 1) L p left q))
  | 0 => ⟨fun _ _ _ r h => by simp [paG] at h, fun _ _ _ _ r h => by simp [paL] at h⟩
  | k + 1 => by
    obtain ⟨ih0, ih1⟩ := paG.mono_l k
    refine ⟨?_, ?_⟩
    ·
      intro L p left
      unfold paG
      repeat' first
        | (with_reducible exact ih1 _ _ _ _)
        | (with_reducible exact LeO.refl _)
        | (with_reducible refine LeO.ite ?_ ?_)
    ·
      intro L p left q
      unfold paL
      repeat' first
        | (with_reducible exact ih0 _ _ _)
        | (with_reducible exact ih1 _ _ _ _)
        | (with_reducible exact LeO.refl _)
        | (with_reducible exact LeO.none _)
        | (with_reducible refine LeO.ite ?_ ?_)
        | (with_reducible refine LeO.bind ?_ (fun _ => ?_))
def paI (w0 : World) (go gy : Nat) (L : List (List Int)) (W : World) (ok : Nat → Prop) : Prop :=
  Below w0.heap.size w0 W ∧ W.heap[gy]? = some (.cells #[.func (.func 143) #[] #[.pointer (some ⟨go, 0, none⟩), .pointer (some ⟨gy, 0, none⟩)]] 101 (0, 0)) ∧ (∃ v, W.heap[go]? = some (.cells #[v] 45 (0, 0)) ∧ Kd.S (Kd.slice 3 (Kd.int .i64)) 23 W w0.heap.size ok v L) ∧ (∀ k_, ok k_ → k_ ≠ go ∧ k_ ≠ gy ∧ k_ < W.heap.size)
theorem paI.below {w0 W W1 : World} {go gy : Nat} {L : List (List Int)} {ok : Nat → Prop} (h : paI w0 go gy L W ok) (hb : Below W.heap.size W W1) : paI w0 go gy L W1 ok := by
  obtain ⟨h1, h2, ⟨v, h3, h4⟩, h5⟩ := h
  exact ⟨below_step h1 hb, blk_below h2 hb, ⟨v, blk_below h3 hb, Kd.S_below h4 hb⟩, fun q hq => ⟨(h5 q hq).1, (h5 q hq).2.1, Nat.lt_of_lt_of_le (h5 q hq).2.2 hb.size⟩⟩
set_option maxHeartbeats 8000000 in
set_option maxRecDepth 100000 in
theorem part1.calls (w0 : World) (go gy : Nat) (hgo : w0.heap.size ≤ go) : ∀ (k : Nat) (L L' : List (List Int)) (left : Int) (A0 : Option Addr) (c0 : Nat) (p : List Int) (w : World) (ok okp : Nat → Prop) {WB_ : Nat}, paI w0 go gy L w ok → Kd.R (Kd.int .i64) 3 w WB_ okp (.slice A0 p.length c0) p → w0.heap.size ≤ WB_ → (∀ k_, okp k_ → ¬ ok k_ ∧ k_ ≠ go ∧ k_ ≠ gy) → paG k L p left = some L' →
    Calls Try.prog 143 #[.slice A0 p.length c0, .int .i64 left, .pointer (some ⟨go, 0, none⟩), .pointer (some ⟨gy, 0, none⟩)] w fun e w' => e = .returned (.tuple #[]) ∧ ∃ ok', paI w0 go gy L' w' ok' ∧ (∀ k_, ok' k_ → ok k_ ∨ w.heap.size ≤ k_ ∨ okp k_) ∧ Kept w w' (fun k_ => ok k_ ∨ k_ = go) := by
  intro k
  induction k using Nat.strongRecOn with
  | ind k ih =>
  intro L L' left A0 c0 p w ok okp WB_ hI hp0 hpb hpo h
  have hp : Kd.R (Kd.int .i64) 3 w w0.heap.size okp (.slice A0 p.length c0) p := Kd.R_lower hp0 hpb; clear hp0 hpb
  cases k with
  | zero => simp [paG] at h
  | succ k =>
  simp only [paG] at h; have IH := Az ih; have HIV := Az hI; have HP := Az hp; have HPO := Az hpo; have HGO := Az hgo; have HB := Az (Below.refl w.heap.size w); clear ih hI hp hpo
  by_cases c1 : left = 0
  ·
    rw [if_pos c1] at h; have c1b0 := beq_iff_eq.mpr c1; clear c1
    by_cases c2 : L.length < 5864062014805
    ·
      rw [if_pos c2] at h; obtain rfl := Option.some.inj h; have LM := Az c2; clear h c2; obtain ⟨h1, h2, ⟨v, h3, h4⟩, h5⟩ := HIV.out; obtain ⟨Av, cv, ev⟩ := Kd.S_slice h4; subst ev; have HB1 := Az h1; have HY1 := Az h2; have HG1 := Az h3; have HS1 := Az h4; have HO1 := Az h5; have hcz0 : w.cell? ⟨go, 0, none⟩ = some (.slice Av L.length cv) := (blk_cell h3 0).trans rfl; have HLG := Az (blk_lt h3); have HLY := Az (blk_lt h2); clear h1 h2 h3 h4 h5 HIV
      go_enter Try.func143, Try.ntmps143
      go_wp2_with (first | ((with_reducible refine gate_builtin (b := .append) (xs := #[.tmp 10, .tmp 12]) rfl ?_); at_builtin; go_loud (refine Kd.S_append (Kd.slice 3 (Kd.int .i64)) (w0 := w0) w0.heap.size rfl (.tmp 10) (.tmp 12) 45 23 (.slice none 0 0) 24 rfl Try.underlying45 infoA23 rfl (by decide) (by omega) (.slice Av L.length cv) L p [.slice A0 p.length c0] (fun k_ => ok k_ ∨ w.heap.size ≤ k_ ∨ okp k_) okp rfl rfl (Kd.M_row HP.out) ?aP (fun k_ h_ => Or.inr (Or.inl h_)) ?aO HB1.out HB1.out.size (by have := LM.out; omega) ?_; (case aP => exact fun k_ h_ => ⟨Or.inr (Or.inr h_), fun e_ => (HPO.out k_ h_).1 ((Kd.S_R HS1.out).1 k_ e_.symm)⟩); (case aO => exact Kd.S_mono HS1.out (fun k_ h_ => ⟨Or.inl h_, fun h2 => (HPO.out k_ h2).1 h_⟩)); intro v5 w5 ho hb hg hat; obtain ⟨A5, c5, e5⟩ := Kd.S_slice ho; subst e5; have HS5 := Az (Kd.S_bound ho); have HB5 := Az hb; have HK5 : Aside0 (Kept w w5 ok) := ⟨Kept.of_grown hg (Kept.refl w ok) (fun k_ e_ => Or.inl ((Kd.S_R HS1.out).1 k_ e_))⟩; clear ho hb hg hat; have HG5 := Az (blk_kept HG1.out HK5.out (fun h_ => (HO1.out _ h_).1 rfl)); have hcz5 : w5.cell? ⟨go, 0, none⟩ = some (.slice Av L.length cv) := (blk_cell HG5.out 0).trans rfl; have hfz5 := blk_frozen HG5.out 0)) | ((with_reducible refine gate_store (p := 2) (t := 45) rfl ?_); go_loud (refine store_event (w1 := w5.setCell ⟨go, 0, none⟩ (.slice A5 (L ++ [p]).length c5)) rfl rfl rfl ?hr ?_; (case hr => first | (go_simp; done) | (go_simp; rfl)); intro w6 hw6)))
      first | go_end0 | ((try simp only [Exit.inBlock, Exit.then]); refine bodyPost_ret (results_none rfl _ _ _) rfl ?_)
      have hk6 : Kept w w6 (fun k_ => ok k_ ∨ k_ = go) := by rw [hw6]; exact Kept.setCell (S := fun k_ => ok k_ ∨ k_ = go) (p := ⟨go, 0, none⟩) (Kept.mono HK5.out (fun k_ h_ => Or.inl h_)) (Or.inl (Or.inr rfl)) _
      refine ⟨rfl, (fun k_ => (ok k_ ∨ w.heap.size ≤ k_ ∨ okp k_) ∧ (k_ ≠ go ∧ k_ ≠ gy) ∧ k_ < w6.heap.size), ⟨?_, ?_, ⟨.slice A5 (L ++ [p]).length c5, ?_, ?_⟩, fun k_ h_ => ⟨h_.2.1.1, h_.2.1.2, h_.2.2⟩⟩, fun k_ h_ => h_.1, hk6⟩
      ·
        rw [hw6]; exact below_set HB5.out hgo
      ·
        exact blk_kept HY1.out hk6 (fun h_ => h_.elim (fun h2 => (HO1.out _ h2).2.1 rfl) (fun h2 => by
          have e1 := HY1.out; rw [h2, HG1.out] at e1; injection e1 with e2; injection e2 with _ e3; exact absurd e3 (by decide)))
      ·
        rw [hw6]; exact one_setCell HG5.out
      ·
        have hs6 : w6.heap.size = w5.heap.size := by rw [hw6]; simp [World.setCell]
        rw [hw6]
        refine Kd.S_mono (Kd.S_far HS5.out ?_ _) (fun k_ h_ => ⟨h_.1, ?_, by rw [← hw6, hs6]; exact h_.2.2.1⟩)
        ·
          exact fun k_ h_ => h_.1.elim (fun h2 => (HO1.out _ h2).1) (fun h2 => h2.elim (fun h3 h4 => by have := HLG.out; have h4' : k_ = go := h4; omega) (fun h3 => (HPO.out k_ h3).2.1))
        ·
          exact h_.1.elim (fun h2 => ⟨(HO1.out _ h2).1, (HO1.out _ h2).2.1⟩) (fun h2 => h2.elim (fun h3 => ⟨fun h4 => by have := HLG.out; omega, fun h4 => by have := HLY.out; omega⟩) (fun h3 => (HPO.out k_ h3).2))
    ·
      rw [if_neg c2] at h
      exact absurd h (by simp)
  ·
    rw [if_neg c1] at h; have c1b0 := beq_eq_false_iff_ne.mpr c1; clear c1
    by_cases c3 : (p.length : Int) > 0
    ·
      rw [if_pos c3] at h; have H' := Az h; have c3b0 := decide_eq_true c3; have c3b1 : decide (p.length > 0) = true := decide_eq_true (by omega)
      have hq0 : 0 ≤ (p.length : Int) - 1 := by omega
      have hq1 : (p.length : Int) - 1 < (p.length : Int) := by omega
      have hml := (Kd.R_reads' HP.out).2.2.2.1; obtain ⟨ad, eA, hx⟩ := Kd.at_int (Kd.R_reads' HP.out).2.2 ((p.length : Int) - 1) hq0 hq1; subst eA; have hw1 : wrap64 ((p.length : Int) - 1) = (p.length : Int) - 1 := Go.IntWalk.wrap64_in _ ⟨by omega, by omega⟩; have p5 := eq_true hq0; have q5 := eq_true hq1
      have hx2 : w.cell? (ad.add (p.length - 1)) = some (.int .i64 (rd p ((p.length : Int) - 1))) := by rw [← hx]; congr 2; omega
      have hl9 : (p.length - 1 < p.length) = True := eq_true (by omega); obtain ⟨q0, hji⟩ : ∃ j_ : Int, (mn left (rd p ((p.length : Int) - 1))) = j_ := ⟨_, rfl⟩; rw [hji] at H'; have hjiw : (if rd p ((p.length : Int) - 1) < left then rd p ((p.length : Int) - 1) else left) = q0 := hji; clear h c3 hji
      go_enter Try.func143, Try.ntmps143
      go_wp2
      go_loopg [7] k (fun kq v7 w' => ∃ (q : Int) (L1 : List (List Int)) (ok1 : Nat → Prop), v7 = .int .i64 q ∧ Aside0 (paL kq L1 p left q = some L') ∧ Aside0 (kq ≤ k) ∧ Aside0 (paI w0 go gy L1 w' ok1) ∧ Aside0 (∀ k_, ok1 k_ → ok k_ ∨ w.heap.size ≤ k_) ∧ Aside0 (Kept w w' (fun k_ => ok k_ ∨ k_ = go)))
      case atStart => exact ⟨q0, L, ok, rfl, H', ⟨Nat.le_refl _⟩, HIV, ⟨fun k_ h => Or.inl h⟩, ⟨Kept.refl w _⟩⟩
      case round =>
       clear H' HIV HB; obtain ⟨q, L1, ok1, rfl, HA, HK1, HIV, HOK, HKP⟩ := hrel
       cases gk with
       | zero => exact absurd HA.out (by simp [paL])
       | succ k1 =>
        have H := HA.out; clear HA; simp only [paL] at H; obtain ⟨wB, hwB⟩ : ∃ W_ : World, W_ = wr := ⟨wr, rfl⟩; have HB : Aside0 (Below wB.heap.size wB wr) := ⟨by rw [hwB]; exact Below.refl _ _⟩; replace HIV : Aside0 (paI w0 go gy L1 wB ok1) := ⟨by rw [hwB]; exact HIV.out⟩; replace HKP : Aside0 (Kept w wB (fun k_ => ok k_ ∨ k_ = go)) := ⟨by rw [hwB]; exact HKP.out⟩; have HP' : Aside0 (Kd.R (Kd.int .i64) 3 wB w0.heap.size okp (.slice (some ad) p.length c0) p) := ⟨Kd.R_kept HP.out HKP.out (fun k_ h2 h3 => h3.elim (HPO.out k_ h2).1 (HPO.out k_ h2).2.1)⟩; have BY := Az HIV.out.2.1; have LGO : Aside0 (go < wB.heap.size) := ⟨by obtain ⟨v_, h_, _⟩ := HIV.out.2.2.1; exact blk_lt h_⟩; clear hwB
        by_cases c7 : q ≥ 1
        ·
          rw [if_pos c7] at H; have c7b0 := decide_eq_true c7; clear c7
          by_cases c9 : p.length + 1 < 17592186044416
          ·
            rw [if_pos c9] at H; obtain ⟨L2, A110, H⟩ := Option.bind_eq_some_iff.mp H; have A11 := Az A110; clear A110; have H' := Az H; have LM9 := Az c9; clear H c9
            go_wp2
            refine start_ (n := 10) (S := fun w' => w'.cell? ⟨gy, 0, none⟩ = some (.func (.func 143) #[] #[.pointer (some ⟨go, 0, none⟩), .pointer (some ⟨gy, 0, none⟩)])) (ds := []) #[false, false, false, false, false, false, false, false, false, false] (by kernel_rfl) rfl rfl (pw_cell_below (bU0 HB.out) ((blk_cell BY.out 0).trans rfl)) (fun hHeld => ?_)
            refine pure_ (i := 1) (N := some 32) (v := ?_) (a' := ?_) #[false, true, false, false, false, false, false, false, false, false] rfl rfl (by kernel_rfl) (fun _ _ _ h => h) (Or.inl ⟨by rfl, ?_⟩) ?_ ?_
            rotate_left
            ·
             intro w'
             go_simp
             with_reducible rfl
            rotate_left
            ·
             simp only [Act.put, List.setIfInBounds_toArray, List.set_cons_zero, List.set_cons_succ, i64_w, i32_w]
             rfl
            refine pure_ (i := 3) (N := some 34) (v := ?_) (a' := ?_) #[false, true, false, true, false, false, false, false, false, false] rfl rfl (by kernel_rfl) (fun _ _ _ h => h) (Or.inl ⟨by rfl, ?_⟩) ?_ ?_
            rotate_left
            ·
             intro w'
             go_simp
             with_reducible rfl
            rotate_left
            ·
             simp only [Act.put, List.setIfInBounds_toArray, List.set_cons_zero, List.set_cons_succ, i64_w, i32_w]
             rfl
            refine pure_ (i := 6) (N := some 37) (v := ?_) (a' := ?_) #[false, true, false, true, false, false, true, false, false, false] rfl rfl (by kernel_rfl) (fun _ _ _ h => h) (Or.inl ⟨by rfl, ?_⟩) ?_ ?_
            rotate_left
            ·
             intro w'
             go_simp
             with_reducible rfl
            rotate_left
            ·
             simp only [Act.put, List.setIfInBounds_toArray, List.set_cons_zero, List.set_cons_succ, i64_w, i32_w]
             rfl
            refine pure_ (i := 7) (N := some 38) (v := ?_) (a' := ?_) #[false, true, false, true, false, false, true, true, false, false] rfl rfl (by kernel_rfl) (fun _ _ _ h => h) (Or.inl ⟨by rfl, ?_⟩) ?_ ?_
            rotate_left
            ·
             intro w'
             go_simp
             with_reducible rfl
            rotate_left
            ·
             simp only [Act.put, List.setIfInBounds_toArray, List.set_cons_zero, List.set_cons_succ, i64_w, i32_w]
             rfl
            refine pure_ (i := 8) (N := some 39) (v := ?_) (a' := ?_) #[false, true, false, true, false, false, true, true, true, false] rfl rfl (by kernel_rfl) (fun _ _ _ h => h) (Or.inl ⟨by rfl, ?_⟩) ?_ ?_
            rotate_left
            ·
             intro w'
             go_simp
             with_reducible rfl
            rotate_left
            ·
             simp only [Act.put, List.setIfInBounds_toArray, List.set_cons_zero, List.set_cons_succ, i64_w, i32_w]
             rfl
            refine take_ (i := 0) (N := some 31) (v := ?_) (a' := ?_) #[true, true, false, true, false, false, true, true, true, false] rfl rfl (by kernel_rfl) (fun _ _ _ h => h) (Or.inl ⟨by rfl, ?_⟩) hHeld ?_ ?_
            rotate_left
            ·
             intro w' s0
             go_simp
             with_reducible rfl
            rotate_left
            ·
             simp only [Act.put, List.setIfInBounds_toArray, List.set_cons_zero, List.set_cons_succ, i64_w, i32_w]
             rfl
            refine join_ (σ := Value × Value) 2 #[true, true, true, true, true, false, true, true, true, false] (fun s_ => [(33, s_.1), (35, s_.2)]) (fun s_ w' => (w'.cell? ⟨gy, 0, none⟩ = some (.func (.func 143) #[] #[.pointer (some ⟨go, 0, none⟩), .pointer (some ⟨gy, 0, none⟩)])) ∧ (Kd.R (Kd.int .i64) 3 w' wB.heap.size (fun q => some q ≠ (s_.2 : Value).ownBlock) s_.1 p) ∧ (Kd.R (Kd.int .i64) 3 w' wB.heap.size (fun q => some q ≠ (s_.1 : Value).ownBlock) s_.2 [q]) ∧ (Below wB.heap.size wB w')) ?_ ?_
            rotate_left
            ·
             intro hCont
             refine two_ (i := 2) (j := 4) (Ni := some 33) (Nj := some 35) #[true, true, true, true, false, false, true, true, true, false] #[true, true, false, true, true, false, true, true, true, false] rfl rfl rfl rfl (by kernel_rfl) (by decide) (by decide) (fun K hK => ?_) (fun K hK => ?_)
             ·
              refine goes_ Try.func68 (by kernel_rfl) rfl #[.slice (some ad) p.length c0] (by rfl) rfl rfl (by (try simp only [List.map_toArray, List.map_cons, List.map_nil]); first | done | rfl) ?_
              refine (slices_Clone_int_int.calls (some ad) c0 p p _ (Kd.C_below (Kd.R_reads' HP'.out).2.2 (bU0 HB.out)) (Kd.R_reads' HP'.out).2.1 (if_pos (Nat.lt_of_succ_lt LM9.out))).mono ?_
              rintro e w3 ⟨v2, rfl, ho, hb⟩
              refine ⟨_, rfl, ?_⟩
              have HO2 : Aside0 (Kd.R (Kd.int .i64) 3 w3 wB.heap.size (fun _ => True) v2 p) := ⟨Kd.R_lower ho (below_size (bU0 HB.out))⟩; have n0 := Az (below_step (bU0 HB.out) hb); clear HB; have HB := n0; clear n0 ho hb
              refine hK.out _ _ (pw_cell_below (bU0 HB.out) ((blk_cell BY.out 0).trans rfl)) (fun hHeld => ?_)
              clear hK K
              refine norm_ (a' := ?_) ?_ ?_
              rotate_left
              ·
               show Act.put _ (some 33) _ = _
               simp only [Act.put, List.setIfInBounds_toArray, List.set_cons_zero, List.set_cons_succ, i64_w, i32_w]
               rfl
              refine one_ (i := 4) (N := some 35) #[true, true, true, true, true, false, true, true, true, false] rfl rfl (by kernel_rfl) (by decide) (fun K hK => ?_)
              refine Kd.R_lit_step (Kd.int .i64) wB.heap.size 3 (by rfl) (N := 35) rfl (xs := [q]) (inner := [.int .i64 q]) (ok := fun k_ => (wB.heap.size ≤ k_) ∧ some k_ ≠ (v2 : Value).ownBlock) (okp := fun _ => False) ?hr ?hp (fun _ h2 => h2.elim) ?hf (bU0 HB.out) (below_size (bU0 HB.out)) (by simp) ?_
              (case hr => first | (go_simp; done) | (go_simp; rfl))
              (case hp => exact Reps.one (show Kd.M (Kd.int .i64) _ _ _ q [.int .i64 q] from rfl) (Reps.none _ _))
              (case hf => exact ⟨below_size (bU0 HB.out), fun e_ => by have := Kd.R_lt HO2.out _ e_.symm; omega⟩)
              intro v4 w4 ho hb hg_ hnew_
              refine hK.out _ _ (pw_cell_below hb ((blk_cell BY.out 0).trans rfl)) (fun hHeld => ?_)
              clear hK K
              refine norm_ (a' := ?_) ?_ ?_
              rotate_left
              ·
               show Act.put _ (some 35) _ = _
               simp only [Act.put, List.setIfInBounds_toArray, List.set_cons_zero, List.set_cons_succ, i64_w, i32_w]
               rfl
              exact norm_ (by simp only [putAll, Act.put, List.setIfInBounds_toArray, List.set_cons_zero, List.set_cons_succ]) (hCont (v2, v4) _ ⟨hHeld, Kd.R_mono (Kd.R_grown (Kd.R_tight rfl HO2.out) hg_ (fun _ _ h2 => by cases h2)) (fun k_ h2 h3 => (ho.1 k_ h3.symm).2 h2), Kd.R_mono ho (fun k_ h2 => h2.2), hb⟩)
             ·
              refine Kd.R_lit_step (Kd.int .i64) wB.heap.size 3 (by rfl) (N := 35) rfl (xs := [q]) (inner := [.int .i64 q]) (ok := fun k_ => (wB.heap.size ≤ k_) ∧ True) (okp := fun _ => False) ?hr ?hp (fun _ h2 => h2.elim) ?hf (bU0 HB.out) (below_size (bU0 HB.out)) (by simp) ?_
              (case hr => first | (go_simp; done) | (go_simp; rfl))
              (case hp => exact Reps.one (show Kd.M (Kd.int .i64) _ _ _ q [.int .i64 q] from rfl) (Reps.none _ _))
              (case hf => exact ⟨below_size (bU0 HB.out), trivial⟩)
              intro v4 w3 ho hb hg_ hnew_
              have HO4 := Az ho; clear HB; have HB := Az hb; clear ho hb hg_ hnew_
              refine hK.out _ _ (pw_cell_below (bU0 HB.out) ((blk_cell BY.out 0).trans rfl)) (fun hHeld => ?_)
              clear hK K
              refine norm_ (a' := ?_) ?_ ?_
              rotate_left
              ·
               show Act.put _ (some 35) _ = _
               simp only [Act.put, List.setIfInBounds_toArray, List.set_cons_zero, List.set_cons_succ, i64_w, i32_w]
               rfl
              refine one_ (i := 2) (N := some 33) #[true, true, true, true, true, false, true, true, true, false] rfl rfl (by kernel_rfl) (by decide) (fun K hK => ?_)
              refine goes_ Try.func68 (by kernel_rfl) rfl #[.slice (some ad) p.length c0] (by rfl) rfl rfl (by (try simp only [List.map_toArray, List.map_cons, List.map_nil]); first | done | rfl) ?_
              refine (slices_Clone_int_int.calls (some ad) c0 p p _ (Kd.C_below (Kd.R_reads' HP'.out).2.2 (bU0 HB.out)) (Kd.R_reads' HP'.out).2.1 (if_pos (Nat.lt_of_succ_lt LM9.out))).mono ?_
              rintro e w4 ⟨v2, rfl, ho, hb⟩
              refine ⟨_, rfl, ?_⟩
              have HO5 := Az (Kd.R_elder' HO4.out (Kd.R_base ho) hb); have HO2 := Az (Kd.R_lower (Kd.R_new' ho (Kd.R_lt HO4.out)) (below_size (bU0 HB.out))); have n0 := Az (below_step (bU0 HB.out) hb); clear HB; have HB := n0; clear n0 ho hb
              refine hK.out _ _ (pw_cell_below (bU0 HB.out) ((blk_cell BY.out 0).trans rfl)) (fun hHeld => ?_)
              clear hK K
              refine norm_ (a' := ?_) ?_ ?_
              rotate_left
              ·
               show Act.put _ (some 33) _ = _
               simp only [Act.put, List.setIfInBounds_toArray, List.set_cons_zero, List.set_cons_succ, i64_w, i32_w]
               rfl
              exact norm_ (by simp only [putAll, Act.put, List.setIfInBounds_toArray, List.set_cons_zero, List.set_cons_succ]) (hCont (v2, v4) _ ⟨hHeld, Kd.R_mono HO2.out (fun _ h2 => h2.2), Kd.R_mono HO5.out (fun _ h2 => h2.2), HB.out⟩)
            rintro ⟨v2, v4⟩ w5 ⟨hS_, h0_, h1_, hB_⟩
            obtain ⟨A7, c7, e7⟩ := Kd.R_slice h1_; simp only at e7 h0_ h1_ hB_ hS_; subst e7; have HO2 := Az h0_; have HO4 := Az h1_; clear HB; have HB := Az hB_; clear h0_ h1_ hB_
            refine norm_ (a' := ?_) ?_ ?_
            rotate_left
            ·
             simp only [putAll, Act.put, List.setIfInBounds_toArray, List.set_cons_zero, List.set_cons_succ]
             rfl
            obtain ⟨y8, hy8⟩ : ∃ y_ : List Int, y_ = p ++ [q] := ⟨_, rfl⟩; rw [← hy8] at A11; have Ny8 := Az hy8; clear hy8
            refine one_ (i := 5) (N := some 36) #[true, true, true, true, true, true, true, true, true, false] rfl rfl (by kernel_rfl) (by decide) (fun K hK => ?_)
            refine Kd.R_append_rows_step (Kd.int .i64) (w0 := wB) wB.heap.size (by rfl) (.tmp 33) (.tmp 35) 23 3 (.int .i64 0) 8 rfl Try.underlying23 infoA3 rfl (by decide) (by omega) v2 p [q] A7 [q].length c7 (fun k_ => some k_ ≠ (.slice A7 [q].length c7 : Value).ownBlock) (fun _ => False) rfl rfl HO2.out (Kd.R_reads' HO4.out).2.2 (fun _ _ h => h) (fun _ h => h.elim) (fun k_ hk => Kd.fresh' (Kd.R_lt HO4.out) k_ hk) (bU0 HB.out) (below_size (bU0 HB.out)) (by have := LM9.out; simp only [List.length_cons, List.length_nil]; omega) ?_
            intro v8 w6 ho hb hg hat
            rw [← Ny8.out] at ho; obtain ⟨A8, c8, e8⟩ := Kd.R_slice ho; subst e8; have HO8 := Az (Kd.R_bound ho); clear HB HO2 HO4; have HB := Az hb; clear ho hb hg hat
            refine hK.out _ _ (pw_cell_below (bU0 HB.out) ((blk_cell BY.out 0).trans rfl)) (fun hHeld => ?_)
            clear hK K
            refine norm_ (a' := ?_) ?_ ?_
            rotate_left
            ·
             show Act.put _ (some 36) _ = _
             simp only [Act.put, List.setIfInBounds_toArray, List.set_cons_zero, List.set_cons_succ, i64_w, i32_w]
             rfl
            refine one_ (i := 9) (N := some 40) #[true, true, true, true, true, true, true, true, true, true] rfl rfl (by kernel_rfl) (by decide) (fun K hK => ?_)
            refine goesA_ (f := 143) Try.func143 (by kernel_rfl) rfl #[.slice A8 y8.length c8, .int .i64 (wrap64 (left - q)), .pointer (some ⟨go, 0, none⟩), .pointer (some ⟨gy, 0, none⟩)] (by rfl) rfl rfl (by rfl) (by first | rfl | (simp; done) | (simp; exact ⟨rfl, rfl⟩)) ?_
            refine (IH.out k1 (by have := HK1.out; omega) L1 L2 (wrap64 (left - q)) A8 c8 y8 _ ok1 _ (paI.below HIV.out (bU0 HB.out)) HO8.out ?_ ?_ A11.out).mono ?_
            ·
             exact HIV.out.1.size
            ·
             exact fun k_ h2 => ⟨fun h3 => by have := (HIV.out.2.2.2 k_ h3).2.2; have := h2.2.1; omega, fun h3 => by have := LGO.out; have := h2.2.1; omega, fun h3 => by have := blk_lt BY.out; have := h2.2.1; omega⟩
            rintro e w' ⟨rfl, ok2, i1, i2, i3⟩
            refine ⟨_, rfl, ?_⟩
            have R1 := Az i1; have R2 := Az i2; have R3 := Az i3; clear i1 i2 i3
            refine hK.out _ _ ((blk_cell R1.out.2.1 0).trans rfl) (fun hHeld => ?_)
            clear hK K
            refine norm_ (a' := ?_) ?_ ?_
            rotate_left
            ·
             show Act.put _ (some 40) _ = _
             simp only [Act.put, List.setIfInBounds_toArray, List.set_cons_zero, List.set_cons_succ, i64_w, i32_w]
             rfl
            refine done_ (by kernel_rfl) ?_
            clear hHeld
            try go_wp2
            (first | go_roundg k1 | (refine Handed.intro k1 ?measure ?_; rotate_left; go_step; (try simp only [add_plain]); (repeat apply Exists.intro); refine ⟨?rel, rfl⟩))
            case measure => have := HK1.out; omega
            case rel => exact ⟨(wrap64 (q - 1)), L2, ok2, rfl, H', ⟨by have := HK1.out; omega⟩, R1, ⟨fun k_ h2 => (R2.out k_ h2).elim (HOK.out k_) (fun h3 => Or.inr (h3.elim (fun h4 => Nat.le_trans (Nat.le_trans HKP.out.1 HB.out.size) h4) (fun h4 => Nat.le_trans HKP.out.1 h4.2.1)))⟩, ⟨Kept.then_ (Kept.below HKP.out HB.out) R3.out (fun k_ h2 => h2.elim (fun h3 => (HOK.out k_ h3).imp Or.inl id) (fun h3 => Or.inl (Or.inr h3)))⟩⟩
          ·
            rw [if_neg c9] at H
            exact absurd H (by simp)
        ·
          rw [if_neg c7] at H; have c7b0 := decide_eq_false c7; clear c7; obtain rfl := Option.some.inj H
          go_wp2
          first | go_end0 | ((try simp only [Exit.inBlock, Exit.then]); refine bodyPost_ret (results_none rfl _ _ _) rfl ?_)
          exact ⟨rfl, ok1, paI.below HIV.out (bU0 HB.out), fun k_ h2 => (HOK.out k_ h2).imp id Or.inl, Kept.below HKP.out (bU0 HB.out)⟩
    ·
      rw [if_neg c3] at h; have H' := Az h; have c3b0 := decide_eq_false c3; have c3b1 : decide (p.length > 0) = false := decide_eq_false (by omega); clear h c3
      go_enter Try.func143, Try.ntmps143
      go_wp2
      go_loopg [7] k (fun kq v7 w' => ∃ (q : Int) (L1 : List (List Int)) (ok1 : Nat → Prop), v7 = .int .i64 q ∧ Aside0 (paL kq L1 p left q = some L') ∧ Aside0 (kq ≤ k) ∧ Aside0 (paI w0 go gy L1 w' ok1) ∧ Aside0 (∀ k_, ok1 k_ → ok k_ ∨ w.heap.size ≤ k_) ∧ Aside0 (Kept w w' (fun k_ => ok k_ ∨ k_ = go)))
      case atStart => exact ⟨left, L, ok, rfl, H', ⟨Nat.le_refl _⟩, HIV, ⟨fun k_ h => Or.inl h⟩, ⟨Kept.refl w _⟩⟩
      case round =>
       clear H' HIV HB; obtain ⟨q, L1, ok1, rfl, HA, HK1, HIV, HOK, HKP⟩ := hrel
       cases gk with
       | zero => exact absurd HA.out (by simp [paL])
       | succ k1 =>
        have H := HA.out; clear HA; simp only [paL] at H; obtain ⟨wB, hwB⟩ : ∃ W_ : World, W_ = wr := ⟨wr, rfl⟩; have HB : Aside0 (Below wB.heap.size wB wr) := ⟨by rw [hwB]; exact Below.refl _ _⟩; replace HIV : Aside0 (paI w0 go gy L1 wB ok1) := ⟨by rw [hwB]; exact HIV.out⟩; replace HKP : Aside0 (Kept w wB (fun k_ => ok k_ ∨ k_ = go)) := ⟨by rw [hwB]; exact HKP.out⟩; have HP' : Aside0 (Kd.R (Kd.int .i64) 3 wB w0.heap.size okp (.slice A0 p.length c0) p) := ⟨Kd.R_kept HP.out HKP.out (fun k_ h2 h3 => h3.elim (HPO.out k_ h2).1 (HPO.out k_ h2).2.1)⟩; have BY := Az HIV.out.2.1; have LGO : Aside0 (go < wB.heap.size) := ⟨by obtain ⟨v_, h_, _⟩ := HIV.out.2.2.1; exact blk_lt h_⟩; clear hwB
        by_cases c7 : q ≥ 1
        ·
          rw [if_pos c7] at H; have c7b0 := decide_eq_true c7; clear c7
          by_cases c9 : p.length + 1 < 17592186044416
          ·
            rw [if_pos c9] at H; obtain ⟨L2, A110, H⟩ := Option.bind_eq_some_iff.mp H; have A11 := Az A110; clear A110; have H' := Az H; have LM9 := Az c9; clear H c9
            go_wp2
            refine start_ (n := 10) (S := fun w' => w'.cell? ⟨gy, 0, none⟩ = some (.func (.func 143) #[] #[.pointer (some ⟨go, 0, none⟩), .pointer (some ⟨gy, 0, none⟩)])) (ds := []) #[false, false, false, false, false, false, false, false, false, false] (by kernel_rfl) rfl rfl (pw_cell_below (bU0 HB.out) ((blk_cell BY.out 0).trans rfl)) (fun hHeld => ?_)
            refine pure_ (i := 1) (N := some 32) (v := ?_) (a' := ?_) #[false, true, false, false, false, false, false, false, false, false] rfl rfl (by kernel_rfl) (fun _ _ _ h => h) (Or.inl ⟨by rfl, ?_⟩) ?_ ?_
            rotate_left
            ·
             intro w'
             go_simp
             with_reducible rfl
            rotate_left
            ·
             simp only [Act.put, List.setIfInBounds_toArray, List.set_cons_zero, List.set_cons_succ, i64_w, i32_w]
             rfl
            refine pure_ (i := 3) (N := some 34) (v := ?_) (a' := ?_) #[false, true, false, true, false, false, false, false, false, false] rfl rfl (by kernel_rfl) (fun _ _ _ h => h) (Or.inl ⟨by rfl, ?_⟩) ?_ ?_
            rotate_left
            ·
             intro w'
             go_simp
             with_reducible rfl
            rotate_left
            ·
             simp only [Act.put, List.setIfInBounds_toArray, List.set_cons_zero, List.set_cons_succ, i64_w, i32_w]
             rfl
            refine pure_ (i := 6) (N := some 37) (v := ?_) (a' := ?_) #[false, true, false, true, false, false, true, false, false, false] rfl rfl (by kernel_rfl) (fun _ _ _ h => h) (Or.inl ⟨by rfl, ?_⟩) ?_ ?_
            rotate_left
            ·
             intro w'
             go_simp
             with_reducible rfl
            rotate_left
            ·
             simp only [Act.put, List.setIfInBounds_toArray, List.set_cons_zero, List.set_cons_succ, i64_w, i32_w]
             rfl
            refine pure_ (i := 7) (N := some 38) (v := ?_) (a' := ?_) #[false, true, false, true, false, false, true, true, false, false] rfl rfl (by kernel_rfl) (fun _ _ _ h => h) (Or.inl ⟨by rfl, ?_⟩) ?_ ?_
            rotate_left
            ·
             intro w'
             go_simp
             with_reducible rfl
            rotate_left
            ·
             simp only [Act.put, List.setIfInBounds_toArray, List.set_cons_zero, List.set_cons_succ, i64_w, i32_w]
             rfl
            refine pure_ (i := 8) (N := some 39) (v := ?_) (a' := ?_) #[false, true, false, true, false, false, true, true, true, false] rfl rfl (by kernel_rfl) (fun _ _ _ h => h) (Or.inl ⟨by rfl, ?_⟩) ?_ ?_
            rotate_left
            ·
             intro w'
             go_simp
             with_reducible rfl
            rotate_left
            ·
             simp only [Act.put, List.setIfInBounds_toArray, List.set_cons_zero, List.set_cons_succ, i64_w, i32_w]
             rfl
            refine take_ (i := 0) (N := some 31) (v := ?_) (a' := ?_) #[true, true, false, true, false, false, true, true, true, false] rfl rfl (by kernel_rfl) (fun _ _ _ h => h) (Or.inl ⟨by rfl, ?_⟩) hHeld ?_ ?_
            rotate_left
            ·
             intro w' s0
             go_simp
             with_reducible rfl
            rotate_left
            ·
             simp only [Act.put, List.setIfInBounds_toArray, List.set_cons_zero, List.set_cons_succ, i64_w, i32_w]
             rfl
            refine join_ (σ := Value × Value) 2 #[true, true, true, true, true, false, true, true, true, false] (fun s_ => [(33, s_.1), (35, s_.2)]) (fun s_ w' => (w'.cell? ⟨gy, 0, none⟩ = some (.func (.func 143) #[] #[.pointer (some ⟨go, 0, none⟩), .pointer (some ⟨gy, 0, none⟩)])) ∧ (Kd.R (Kd.int .i64) 3 w' wB.heap.size (fun q => some q ≠ (s_.2 : Value).ownBlock) s_.1 p) ∧ (Kd.R (Kd.int .i64) 3 w' wB.heap.size (fun q => some q ≠ (s_.1 : Value).ownBlock) s_.2 [q]) ∧ (Below wB.heap.size wB w')) ?_ ?_
            rotate_left
            ·
             intro hCont
             refine two_ (i := 2) (j := 4) (Ni := some 33) (Nj := some 35) #[true, true, true, true, false, false, true, true, true, false] #[true, true, false, true, true, false, true, true, true, false] rfl rfl rfl rfl (by kernel_rfl) (by decide) (by decide) (fun K hK => ?_) (fun K hK => ?_)
             ·
              refine goes_ Try.func68 (by kernel_rfl) rfl #[.slice A0 p.length c0] (by rfl) rfl rfl (by (try simp only [List.map_toArray, List.map_cons, List.map_nil]); first | done | rfl) ?_
              refine (slices_Clone_int_int.calls A0 c0 p p _ (Kd.C_below (Kd.R_reads' HP'.out).2.2 (bU0 HB.out)) (Kd.R_reads' HP'.out).2.1 (if_pos (Nat.lt_of_succ_lt LM9.out))).mono ?_
              rintro e w3 ⟨v2, rfl, ho, hb⟩
              refine ⟨_, rfl, ?_⟩
              have HO2 : Aside0 (Kd.R (Kd.int .i64) 3 w3 wB.heap.size (fun _ => True) v2 p) := ⟨Kd.R_lower ho (below_size (bU0 HB.out))⟩; have n0 := Az (below_step (bU0 HB.out) hb); clear HB; have HB := n0; clear n0 ho hb
              refine hK.out _ _ (pw_cell_below (bU0 HB.out) ((blk_cell BY.out 0).trans rfl)) (fun hHeld => ?_)
              clear hK K
              refine norm_ (a' := ?_) ?_ ?_
              rotate_left
              ·
               show Act.put _ (some 33) _ = _
               simp only [Act.put, List.setIfInBounds_toArray, List.set_cons_zero, List.set_cons_succ, i64_w, i32_w]
               rfl
              refine one_ (i := 4) (N := some 35) #[true, true, true, true, true, false, true, true, true, false] rfl rfl (by kernel_rfl) (by decide) (fun K hK => ?_)
              refine Kd.R_lit_step (Kd.int .i64) wB.heap.size 3 (by rfl) (N := 35) rfl (xs := [q]) (inner := [.int .i64 q]) (ok := fun k_ => (wB.heap.size ≤ k_) ∧ some k_ ≠ (v2 : Value).ownBlock) (okp := fun _ => False) ?hr ?hp (fun _ h2 => h2.elim) ?hf (bU0 HB.out) (below_size (bU0 HB.out)) (by simp) ?_
              (case hr => first | (go_simp; done) | (go_simp; rfl))
              (case hp => exact Reps.one (show Kd.M (Kd.int .i64) _ _ _ q [.int .i64 q] from rfl) (Reps.none _ _))
              (case hf => exact ⟨below_size (bU0 HB.out), fun e_ => by have := Kd.R_lt HO2.out _ e_.symm; omega⟩)
              intro v4 w4 ho hb hg_ hnew_
              refine hK.out _ _ (pw_cell_below hb ((blk_cell BY.out 0).trans rfl)) (fun hHeld => ?_)
              clear hK K
              refine norm_ (a' := ?_) ?_ ?_
              rotate_left
              ·
               show Act.put _ (some 35) _ = _
               simp only [Act.put, List.setIfInBounds_toArray, List.set_cons_zero, List.set_cons_succ, i64_w, i32_w]
               rfl
              exact norm_ (by simp only [putAll, Act.put, List.setIfInBounds_toArray, List.set_cons_zero, List.set_cons_succ]) (hCont (v2, v4) _ ⟨hHeld, Kd.R_mono (Kd.R_grown (Kd.R_tight rfl HO2.out) hg_ (fun _ _ h2 => by cases h2)) (fun k_ h2 h3 => (ho.1 k_ h3.symm).2 h2), Kd.R_mono ho (fun k_ h2 => h2.2), hb⟩)
             ·
              refine Kd.R_lit_step (Kd.int .i64) wB.heap.size 3 (by rfl) (N := 35) rfl (xs := [q]) (inner := [.int .i64 q]) (ok := fun k_ => (wB.heap.size ≤ k_) ∧ True) (okp := fun _ => False) ?hr ?hp (fun _ h2 => h2.elim) ?hf (bU0 HB.out) (below_size (bU0 HB.out)) (by simp) ?_
              (case hr => first | (go_simp; done) | (go_simp; rfl))
              (case hp => exact Reps.one (show Kd.M (Kd.int .i64) _ _ _ q [.int .i64 q] from rfl) (Reps.none _ _))
              (case hf => exact ⟨below_size (bU0 HB.out), trivial⟩)
              intro v4 w3 ho hb hg_ hnew_
              have HO4 := Az ho; clear HB; have HB := Az hb; clear ho hb hg_ hnew_
              refine hK.out _ _ (pw_cell_below (bU0 HB.out) ((blk_cell BY.out 0).trans rfl)) (fun hHeld => ?_)
              clear hK K
              refine norm_ (a' := ?_) ?_ ?_
              rotate_left
              ·
               show Act.put _ (some 35) _ = _
               simp only [Act.put, List.setIfInBounds_toArray, List.set_cons_zero, List.set_cons_succ, i64_w, i32_w]
               rfl
              refine one_ (i := 2) (N := some 33) #[true, true, true, true, true, false, true, true, true, false] rfl rfl (by kernel_rfl) (by decide) (fun K hK => ?_)
              refine goes_ Try.func68 (by kernel_rfl) rfl #[.slice A0 p.length c0] (by rfl) rfl rfl (by (try simp only [List.map_toArray, List.map_cons, List.map_nil]); first | done | rfl) ?_
              refine (slices_Clone_int_int.calls A0 c0 p p _ (Kd.C_below (Kd.R_reads' HP'.out).2.2 (bU0 HB.out)) (Kd.R_reads' HP'.out).2.1 (if_pos (Nat.lt_of_succ_lt LM9.out))).mono ?_
              rintro e w4 ⟨v2, rfl, ho, hb⟩
              refine ⟨_, rfl, ?_⟩
              have HO5 := Az (Kd.R_elder' HO4.out (Kd.R_base ho) hb); have HO2 := Az (Kd.R_lower (Kd.R_new' ho (Kd.R_lt HO4.out)) (below_size (bU0 HB.out))); have n0 := Az (below_step (bU0 HB.out) hb); clear HB; have HB := n0; clear n0 ho hb
              refine hK.out _ _ (pw_cell_below (bU0 HB.out) ((blk_cell BY.out 0).trans rfl)) (fun hHeld => ?_)
              clear hK K
              refine norm_ (a' := ?_) ?_ ?_
              rotate_left
              ·
               show Act.put _ (some 33) _ = _
               simp only [Act.put, List.setIfInBounds_toArray, List.set_cons_zero, List.set_cons_succ, i64_w, i32_w]
               rfl
              exact norm_ (by simp only [putAll, Act.put, List.setIfInBounds_toArray, List.set_cons_zero, List.set_cons_succ]) (hCont (v2, v4) _ ⟨hHeld, Kd.R_mono HO2.out (fun _ h2 => h2.2), Kd.R_mono HO5.out (fun _ h2 => h2.2), HB.out⟩)
            rintro ⟨v2, v4⟩ w5 ⟨hS_, h0_, h1_, hB_⟩
            obtain ⟨A7, c7, e7⟩ := Kd.R_slice h1_; simp only at e7 h0_ h1_ hB_ hS_; subst e7; have HO2 := Az h0_; have HO4 := Az h1_; clear HB; have HB := Az hB_; clear h0_ h1_ hB_
            refine norm_ (a' := ?_) ?_ ?_
            rotate_left
            ·
             simp only [putAll, Act.put, List.setIfInBounds_toArray, List.set_cons_zero, List.set_cons_succ]
             rfl
            obtain ⟨y8, hy8⟩ : ∃ y_ : List Int, y_ = p ++ [q] := ⟨_, rfl⟩; rw [← hy8] at A11; have Ny8 := Az hy8; clear hy8
            refine one_ (i := 5) (N := some 36) #[true, true, true, true, true, true, true, true, true, false] rfl rfl (by kernel_rfl) (by decide) (fun K hK => ?_)
            refine Kd.R_append_rows_step (Kd.int .i64) (w0 := wB) wB.heap.size (by rfl) (.tmp 33) (.tmp 35) 23 3 (.int .i64 0) 8 rfl Try.underlying23 infoA3 rfl (by decide) (by omega) v2 p [q] A7 [q].length c7 (fun k_ => some k_ ≠ (.slice A7 [q].length c7 : Value).ownBlock) (fun _ => False) rfl rfl HO2.out (Kd.R_reads' HO4.out).2.2 (fun _ _ h => h) (fun _ h => h.elim) (fun k_ hk => Kd.fresh' (Kd.R_lt HO4.out) k_ hk) (bU0 HB.out) (below_size (bU0 HB.out)) (by have := LM9.out; simp only [List.length_cons, List.length_nil]; omega) ?_
            intro v8 w6 ho hb hg hat
            rw [← Ny8.out] at ho; obtain ⟨A8, c8, e8⟩ := Kd.R_slice ho; subst e8; have HO8 := Az (Kd.R_bound ho); clear HB HO2 HO4; have HB := Az hb; clear ho hb hg hat
            refine hK.out _ _ (pw_cell_below (bU0 HB.out) ((blk_cell BY.out 0).trans rfl)) (fun hHeld => ?_)
            clear hK K
            refine norm_ (a' := ?_) ?_ ?_
            rotate_left
            ·
             show Act.put _ (some 36) _ = _
             simp only [Act.put, List.setIfInBounds_toArray, List.set_cons_zero, List.set_cons_succ, i64_w, i32_w]
             rfl
            refine one_ (i := 9) (N := some 40) #[true, true, true, true, true, true, true, true, true, true] rfl rfl (by kernel_rfl) (by decide) (fun K hK => ?_)
            refine goesA_ (f := 143) Try.func143 (by kernel_rfl) rfl #[.slice A8 y8.length c8, .int .i64 (wrap64 (left - q)), .pointer (some ⟨go, 0, none⟩), .pointer (some ⟨gy, 0, none⟩)] (by rfl) rfl rfl (by rfl) (by first | rfl | (simp; done) | (simp; exact ⟨rfl, rfl⟩)) ?_
            refine (IH.out k1 (by have := HK1.out; omega) L1 L2 (wrap64 (left - q)) A8 c8 y8 _ ok1 _ (paI.below HIV.out (bU0 HB.out)) HO8.out ?_ ?_ A11.out).mono ?_
            ·
             exact HIV.out.1.size
            ·
             exact fun k_ h2 => ⟨fun h3 => by have := (HIV.out.2.2.2 k_ h3).2.2; have := h2.2.1; omega, fun h3 => by have := LGO.out; have := h2.2.1; omega, fun h3 => by have := blk_lt BY.out; have := h2.2.1; omega⟩
            rintro e w' ⟨rfl, ok2, i1, i2, i3⟩
            refine ⟨_, rfl, ?_⟩
            have R1 := Az i1; have R2 := Az i2; have R3 := Az i3; clear i1 i2 i3
            refine hK.out _ _ ((blk_cell R1.out.2.1 0).trans rfl) (fun hHeld => ?_)
            clear hK K
            refine norm_ (a' := ?_) ?_ ?_
            rotate_left
            ·
             show Act.put _ (some 40) _ = _
             simp only [Act.put, List.setIfInBounds_toArray, List.set_cons_zero, List.set_cons_succ, i64_w, i32_w]
             rfl
            refine done_ (by kernel_rfl) ?_
            clear hHeld
            try go_wp2
            (first | go_roundg k1 | (refine Handed.intro k1 ?measure ?_; rotate_left; go_step; (try simp only [add_plain]); (repeat apply Exists.intro); refine ⟨?rel, rfl⟩))
            case measure => have := HK1.out; omega
            case rel => exact ⟨(wrap64 (q - 1)), L2, ok2, rfl, H', ⟨by have := HK1.out; omega⟩, R1, ⟨fun k_ h2 => (R2.out k_ h2).elim (HOK.out k_) (fun h3 => Or.inr (h3.elim (fun h4 => Nat.le_trans (Nat.le_trans HKP.out.1 HB.out.size) h4) (fun h4 => Nat.le_trans HKP.out.1 h4.2.1)))⟩, ⟨Kept.then_ (Kept.below HKP.out HB.out) R3.out (fun k_ h2 => h2.elim (fun h3 => (HOK.out k_ h3).imp Or.inl id) (fun h3 => Or.inl (Or.inr h3)))⟩⟩
          ·
            rw [if_neg c9] at H
            exact absurd H (by simp)
        ·
          rw [if_neg c7] at H; have c7b0 := decide_eq_false c7; clear c7; obtain rfl := Option.some.inj H
          go_wp2
          first | go_end0 | ((try simp only [Exit.inBlock, Exit.then]); refine bodyPost_ret (results_none rfl _ _ _) rfl ?_)
          exact ⟨rfl, ok1, paI.below HIV.out (bU0 HB.out), fun k_ h2 => (HOK.out k_ h2).imp id Or.inl, Kept.below HKP.out (bU0 HB.out)⟩
theorem setCellA_new (w : World) (u v : Value) (t : TypeId) : (w.alloc (.cells #[u] t (0, 0))).setCell ⟨w.heap.size, 0, none⟩ v = w.alloc (.cells #[v] t (0, 0)) := (World.setCell_alloc_new _ _ _ _).trans rfl
def impl_PartsAll.f (k : Nat) (a0 : Int) : Option (List (List Int) × Bool) := if a0 < 1 then some ([], false) else (if a0 > 6 then some ([], false) else ((paG k [] [] a0).bind fun L => some (L, true)))
theorem impl_PartsAll.mono : ∀ a0 k, LeO (impl_PartsAll.f k a0) (impl_PartsAll.f (k + 1) a0) := by
  intro a0 k
  unfold impl_PartsAll.f
  repeat' first
    | (with_reducible exact (paG.mono_l k).1 _ _ _)
    | (with_reducible exact LeO.refl _)
    | (with_reducible refine LeO.ite ?_ ?_)
    | (with_reducible refine LeO.bind ?_ (fun _ => ?_))
set_option maxHeartbeats 8000000 in
set_option maxRecDepth 100000 in
theorem impl_PartsAll.calls (k : Nat) (a0 : Int) (r1 : List (List Int)) (r2 : Bool) (w : World) (h : impl_PartsAll.f k a0 = some (r1, r2)) :
    Calls Try.prog 110 #[.int .i64 a0] w fun e w' => ∃ v0_ : Value, e = .returned (.tuple #[v0_, .bool r2]) ∧ Kd.S (Kd.slice 3 (Kd.int .i64)) 23 w' w.heap.size (fun _ => True) v0_ r1 ∧ Below w.heap.size w w' := by
  have HB := Az (Below.refl w.heap.size w)
  unfold impl_PartsAll.f at h
  by_cases c1 : a0 < 1
  ·
    rw [if_pos c1] at h; have c1b0 := decide_eq_true c1; simp only [Option.some.injEq, Prod.mk.injEq] at h; obtain ⟨rfl, rfl⟩ := h; clear c1
    go_enter Try.func110, Try.ntmps110
    go_wp2
    go_ret2
    exact ⟨_, rfl, Kd.S_nil _ _ _ _ _, (bU0 HB.out)⟩
  ·
    rw [if_neg c1] at h; have c1b0 := decide_eq_false c1; clear c1
    by_cases c2 : a0 > 6
    ·
      rw [if_pos c2] at h; have c2b0 := decide_eq_true c2; simp only [Option.some.injEq, Prod.mk.injEq] at h; obtain ⟨rfl, rfl⟩ := h; clear c2
      go_enter Try.func110, Try.ntmps110
      go_wp2
      go_ret2
      exact ⟨_, rfl, Kd.S_nil _ _ _ _ _, (bU0 HB.out)⟩
    ·
      rw [if_neg c2] at h; have c2b0 := decide_eq_false c2; obtain ⟨L, A10, h⟩ := Option.bind_eq_some_iff.mp h; simp only [Option.some.injEq, Prod.mk.injEq] at h; obtain ⟨rfl, rfl⟩ := h; have A1 := Az A10; clear A10 c2
      go_enter Try.func110, Try.ntmps110
      go_wp2_with (first | ((with_reducible refine gate_dst (N := 12) rfl ?_); refine Kd.S_lit (Kd.slice 3 (Kd.int .i64)) _ 23 ?hg (N := 12) ?hd (xs := ([] : List (List Int))) (inner := []) (ok := fun _ => True) (okp := fun _ => True) ?hr ?hp (fun _ hk => hk) trivial (Below.refl _ _) (Nat.le_refl _) (by simp) ?_; (case hd => rfl); (case hg => rfl); (case hr => first | (go_simp; done) | (go_simp; rfl)); (case hp => exact (Reps.none _ _)); intro v1 w2 ho hb hg_ hnew_; have HO := Az (Kd.S_mono (Kd.S_bound ho) (ok' := fun q => w.heap.size ≤ q ∧ q < w2.heap.size) (fun q hq => ⟨hq.2.1, hq.2.2.1⟩)); have n0 := Az (below_step HB.out hb); clear HB ho hb hg_ hnew_; have HB := n0; clear n0) | ((with_reducible refine gate_store (p := 4) (t := 45) rfl ?_); refine store_event (w1 := w2.alloc (.cells #[v1] 45 (0, 0))) rfl rfl rfl ?hr ?_; (case hr => (obtain ⟨Av, cv, ev⟩ := Kd.S_slice HO.out; subst ev; first | (go_simp; done) | (go_simp; first | exact setCellA_new _ _ _ _ | (rw [run_store _ _ _ _ _ rfl]; simp [stored]; exact setCellA_new _ _ _ _)))); intro w4 hw4; have hb4 : Below w2.heap.size w2 w4 := (by rw [hw4]; exact below_alloc (Below.refl _ _) _); have B_go := Az ((by rw [hw4]; exact blk_new w2 _) : w4.heap[w2.heap.size]? = some (.cells #[v1] 45 (0, 0))); have m3 := Az (below_step HB.out hb4); have m4 := Az (Kd.S_below HO.out hb4); have HG0 := Az (below_size HB.out); clear HB HO hb4 hw4; have HB := m3; have HO := m4; clear m3 m4; obtain ⟨go, hgo⟩ : ∃ g_ : Nat, g_ = w2.heap.size := ⟨_, rfl⟩; rw [← hgo] at B_go HO HG0 ⊢; clear hgo) | ((with_reducible refine gate_store (p := 5) (t := 101) rfl ?_); refine store_event (w1 := w4.alloc (.cells #[.func (.func 143) #[] #[.pointer (some ⟨go, 0, none⟩), .pointer (some ⟨w4.heap.size, 0, none⟩)]] 101 (0, 0))) rfl rfl rfl ?hr ?_; (case hr => first | (go_simp; done) | (go_simp; rw [run_store _ _ _ _ _ rfl]; simp [stored]; exact setCellA_new _ _ _ _)); intro w8 hw8; have hb8 : Below w4.heap.size w4 w8 := (by rw [hw8]; exact below_alloc (Below.refl _ _) _); have B_gy0 : w8.heap[w4.heap.size]? = some (.cells #[.func (.func 143) #[] #[.pointer (some ⟨go, 0, none⟩), .pointer (some ⟨w4.heap.size, 0, none⟩)]] 101 (0, 0)) := (by rw [hw8]; exact blk_new w4 _); have LGO := Az (blk_lt B_go.out); clear hw8; obtain ⟨gy, hgy⟩ : ∃ g_ : Nat, g_ = w4.heap.size := ⟨_, rfl⟩; rw [← hgy] at B_gy0 LGO ⊢; have B_gy := Az B_gy0; have m1 := Az (blk_below B_go.out hb8); have m3 := Az (below_step HB.out hb8); have m4 := Az (Kd.S_below HO.out hb8); have HS8 := Az hb8.size; clear B_gy0 hgy hb8 B_go HB HO; have B_go := m1; have HB := m3; have HO := m4; clear m1 m3 m4; have hcz1 : w8.cell? ⟨gy, 0, none⟩ = some (.func (.func 143) #[] #[.pointer (some ⟨go, 0, none⟩), .pointer (some ⟨gy, 0, none⟩)]) := (blk_cell B_gy.out 0).trans rfl) | (go_at_call 143; go_loud (refine (part1.calls w go gy HG0.out k [] L a0 none 0 [] w8 (fun q => w.heap.size ≤ q ∧ q < go) (fun _ => False) ⟨HB.out, B_gy.out, ⟨v1, B_go.out, HO.out⟩, fun q hq => ⟨fun e_ => by have := hq.2; omega, fun e_ => by have := hq.2; have := LGO.out; omega, by have := hq.2; have := blk_lt B_go.out; omega⟩⟩ (Kd.R_nil _ _ _ _ _) (Nat.le_refl w.heap.size) (fun _ h2 => h2.elim) A1.out).mono ?_; rintro e w9 ⟨rfl, ok', ⟨i1, i2, ⟨v9, i3, i4⟩, i5⟩, i6, i7⟩; obtain ⟨A9, c9, e9⟩ := Kd.S_slice i4; subst e9; have R1 := Az i1; have R4 := Az i4; have hcz2 : w9.cell? ⟨go, 0, none⟩ = some (.slice A9 L.length c9) := (blk_cell i3 0).trans rfl; clear i1 i2 i3 i4 i5 i6 i7 hcz1)))
      go_ret2
      exact ⟨_, rfl, Kd.S_mono R4.out (fun _ _ => trivial), R1.out⟩
end Go.Proofs.Ytggghijamfmenaa.PN
