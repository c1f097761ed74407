/- For every tree, TreeQuad of the program answers what TreeQuad of the reference answers, leaves the tree as it was, and hands back memory of its own. There are no conditions. -/
import Derived.Test.YtlpbalebodlipaaProg
import Derived.Below
import Derived.Deep.Draws
import Derived.Deep.AppendLies
import Derived.Maps.AppendAt
import Derived.OwnWalk
import Derived.Laws.BytesArg
import Derived.Laws.MakeOwn
import Derived.Laws.OwnMore
import Derived.Tactics
import Derived.Lib.ConvBytes
import Derived.Laws.Slices
import Derived.WalkKit
import Derived.KernelRfl
import Derived.RowKit3
import Derived.Deep.LoopGhost
import Derived.Deep.QuietTactic
import Derived.BigQuiet
import Derived.WideLaws
import Derived.Deep.DeepCutAuto
import Derived.Deep.CutBlock
import Derived.Deep.RegionHeld3
import Derived.Lib.AppendStr
import Derived.ArgAppend
import Derived.Laws.IdiomCopy
import Derived.OrdersHeld
import Derived.Laws.BitsLemmas
import Derived.RowKit
import Derived.Laws.RangeAny
import Derived.Laws.RangeString
import Derived.ProofKit
import Derived.OpenShut
import Derived.ShutString
import Derived.ChangeOld
import Derived.SizedLaws
import Derived.Lib.SmallJoins
import Derived.ChangeSlices
import Derived.ChangeArms
import Derived.Test.YtlpbalebodlipaaKFnExactTreeQuadCWWords
import Derived.Test.YtlpbalebodlipaaKFnExactTreeQuadCWLast
import Derived.Test.YtlpbalebodlipaaKFnExactTreeQuadCWTab
import Derived.Test.YtlpbalebodlipaaKFnExactTreeQuadCWApart
import Derived.Test.YtlpbalebodlipaaKFnExactTreeQuadCWFoot
import Derived.Test.YtlpbalebodlipaaKFnExactTreeQuadCWKept
import Derived.Test.YtlpbalebodlipaaKFnExactTreeQuadCWShare
import Derived.Test.YtlpbalebodlipaaKFnExactTreeQuadCWN
import Derived.Test.YtlpbalebodlipaaKFnExactTreeQuadCWRepsOne
import Derived.Test.YtlpbalebodlipaaKFnExactTreeQuadCWGuard
import Derived.Test.YtlpbalebodlipaaKFnExactTreeQuadCWMore
namespace Go.Proofs.Ytlpbalebodlipaa.PG
open Go.RowKit Go.Proofs.YtlpbalebodlipaaW.PrintWords Go.Proofs.YtlpbalebodlipaaW.PrintLast Go.Proofs.YtlpbalebodlipaaW.PrintMore
theorem oA {p : Prop} [Decidable p] (h : decide p = true := by first | (with_reducible assumption) | assumption) : p := of_decide_eq_true h
theorem rS {p : Prop} (h : p := by first | rfl | (simp; done) | (simp [*]; done)) : p := h
theorem rE {p : Prop} (h : p := by first | rfl | (simp [errW_none, errW_some] <;> rfl) | (simp [*, errW_none, errW_some] <;> rfl)) : p := h
theorem Az {p : Prop} (h : p) : Aside0 p := Aside0.mk h
theorem rU {p q : Prop} (h : q) (f : q → p := by intro h; (with_reducible repeat (first | apply Kd.R_alloc | apply Kd.R_drewN | apply Kd.R_drew)); exact h) : p := f h
theorem sU {p q : Prop} (h : q) (f : q → p := by intro h; (with_reducible repeat (first | apply Kd.S_alloc | apply Kd.S_drewN | apply Kd.S_drew)); exact h) : p := f h
theorem vU {p q : Prop} (h : q) (f : q → p := by intro h; (with_reducible repeat (first | apply Kd.V_alloc | apply Kd.V_drewN | apply Kd.V_drew)); exact h) : p := f h
theorem nU {p q : Prop} (h : q) (f : q → p := by intro h; (with_reducible repeat (first | apply Kd.N_alloc | apply Kd.N_drewN | apply Kd.N_drew)); exact h) : p := f h
theorem qU {p q : Prop} (h : q) (f : q → p := by intro h; (with_reducible repeat (first | apply Kd.Q_alloc | apply Kd.Q_drewN | apply Kd.Q_drew)); exact h) : p := f h
theorem kU {p q : Prop} (h : q) (f : q → p := by intro h; (with_reducible repeat (first | refine blk_drewN ?_ _ | refine blk_drew ?_ | refine blk_alloc ?_ _)); exact h) : p := f h
theorem cU {p q : Prop} (h : q) (f : q → p := by intro h; repeat (first | exact h | (with_reducible refine Kd.C_alloc ?_ _) | (with_reducible refine Kd.C_drewN ?_ _) | (with_reducible refine Kd.C_drew ?_))) : p := f h
theorem bU0 {p q : Prop} (h : q) (f : q → p := by intro h; repeat (first | (with_reducible first | exact h | apply below_alloc | apply pw_below_drewN | apply below_drew1) | exact h)) : p := f h
theorem bU1 {p q a0 : Prop} (h : q) (g0 : a0) (f : q → a0 → p := by intro h g0; repeat (first | (with_reducible first | exact h | apply below_alloc | apply pw_below_drewN | apply below_drew1 | refine below_set ?_ g0) | exact h)) : p := f h g0
theorem bU2 {p q a0 a1 : Prop} (h : q) (g0 : a0) (g1 : a1) (f : q → a0 → a1 → p := by intro h g0 g1; repeat (first | (with_reducible first | exact h | apply below_alloc | apply pw_below_drewN | apply below_drew1 | refine below_set ?_ g0 | refine below_set ?_ g1) | exact h)) : p := f h g0 g1
theorem bU3 {p q a0 a1 a2 : Prop} (h : q) (g0 : a0) (g1 : a1) (g2 : a2) (f : q → a0 → a1 → a2 → p := by intro h g0 g1 g2; repeat (first | (with_reducible first | exact h | apply below_alloc | apply pw_below_drewN | apply below_drew1 | refine below_set ?_ g0 | refine below_set ?_ g1 | refine below_set ?_ g2) | exact h)) : p := f h g0 g1 g2
theorem bU4 {p q a0 a1 a2 a3 : Prop} (h : q) (g0 : a0) (g1 : a1) (g2 : a2) (g3 : a3) (f : q → a0 → a1 → a2 → a3 → p := by intro h g0 g1 g2 g3; repeat (first | (with_reducible first | exact h | apply below_alloc | apply pw_below_drewN | apply below_drew1 | refine below_set ?_ g0 | refine below_set ?_ g1 | refine below_set ?_ g2 | refine below_set ?_ g3) | exact h)) : p := f h g0 g1 g2 g3
theorem bU5 {p q a0 a1 a2 a3 a4 : Prop} (h : q) (g0 : a0) (g1 : a1) (g2 : a2) (g3 : a3) (g4 : a4) (f : q → a0 → a1 → a2 → a3 → a4 → p := by intro h g0 g1 g2 g3 g4; repeat (first | (with_reducible first | exact h | apply below_alloc | apply pw_below_drewN | apply below_drew1 | refine below_set ?_ g0 | refine below_set ?_ g1 | refine below_set ?_ g2 | refine below_set ?_ g3 | refine below_set ?_ g4) | exact h)) : p := f h g0 g1 g2 g3 g4
theorem hR {α : Type} {a b : α} {p q : Prop} (e : a = b) (h : q) (f : a = b → q → p := by intro e H; first | (rw [e]; with_reducible exact H) | (have H2_ := (Option.bind_some _ _).symm.trans H; rw [e]; with_reducible exact H2_) | (have H2_ := (Option.bind_some _ _).symm.trans H; with_reducible exact H2_) | with_reducible exact H | (rw [e]; exact H) | exact H) : p := f e h
attribute [local go_sem] max2_int min2_int max_two min_two max_three min_three max_four min_four   -- for this text's walks alone
set_option linter.unusedVariables false
set_option linter.unusedSimpArgs false
structure S25 where
 f0 : ByteArray
 f1 : (List Int)
structure S29 where
 f0 : (List Int)
 f1 : (List Int)
end Go.Proofs.Ytlpbalebodlipaa.PG
