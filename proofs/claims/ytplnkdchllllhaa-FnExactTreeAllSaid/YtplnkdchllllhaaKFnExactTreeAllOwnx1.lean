/- For every number, TreeAll of the program answers what TreeAll of the reference answers, and hands back memory of its own. There are no conditions. -/
import Derived.Test.YtplnkdchllllhaaProg
import Derived.Below
import Derived.Deep.Draws
import Derived.Deep.AppendLies
import Derived.Maps.AppendAt
import Derived.OwnWalk
import Derived.Laws.BytesArg
import Derived.Laws.MakeOwn
import Derived.Laws.OwnMore
import Derived.Tactics
import Derived.Lib.ConvBytes
import Derived.Laws.Slices
import Derived.WalkKit
import Derived.KernelRfl
import Derived.RowKit3
import Derived.Deep.LoopGhost
import Derived.Deep.QuietTactic
import Derived.BigQuiet
import Derived.WideLaws
import Derived.Deep.DeepCutAuto
import Derived.Deep.CutBlock
import Derived.Deep.RegionHeld3
import Derived.Lib.AppendStr
import Derived.ArgAppend
import Derived.Laws.IdiomCopy
import Derived.OrdersHeld
import Derived.Laws.BitsLemmas
import Derived.RowKit
import Derived.Laws.RangeAny
import Derived.Laws.RangeString
import Derived.ProofKit
import Derived.OpenShut
import Derived.ShutString
import Derived.ChangeOld
import Derived.SizedLaws
import Derived.Test.YtplnkdchllllhaaKTAWWords
import Derived.Test.YtplnkdchllllhaaKTAWLast
import Derived.Test.YtplnkdchllllhaaKTAWTab
import Derived.Test.YtplnkdchllllhaaKTAWApart
import Derived.Test.YtplnkdchllllhaaKTAWFoot
import Derived.Test.YtplnkdchllllhaaKTAWKept
import Derived.Test.YtplnkdchllllhaaKTAWShare
import Derived.Test.YtplnkdchllllhaaKTAWN
import Derived.Test.YtplnkdchllllhaaKTAWRepsOne
import Derived.Test.YtplnkdchllllhaaKTAWMore
import Derived.Deep.OwnRows
import Derived.Laws.Rows
import Derived.Test.YtplnkdchllllhaaRows
namespace Go.Proofs.Ytplnkdchllllhaa.PC
open Go.RowKit Go.Proofs.YtplnkdchllllhaaW.PrintWords Go.Proofs.YtplnkdchllllhaaW.PrintLast Go.Proofs.YtplnkdchllllhaaW.PrintMore
theorem oA {p : Prop} [Decidable p] (h : decide p = true := by first | (with_reducible assumption) | assumption) : p := of_decide_eq_true h
theorem rS {p : Prop} (h : p := by first | rfl | (simp; done) | (simp [*]; done)) : p := h
theorem rE {p : Prop} (h : p := by first | rfl | (simp [errW_none, errW_some] <;> rfl) | (simp [*, errW_none, errW_some] <;> rfl)) : p := h
theorem Az {p : Prop} (h : p) : Aside0 p := Aside0.mk h
theorem rU {p q : Prop} (h : q) (f : q → p := by intro h; (with_reducible repeat (first | apply Kd.R_alloc | apply Kd.R_drewN | apply Kd.R_drew)); exact h) : p := f h
theorem sU {p q : Prop} (h : q) (f : q → p := by intro h; (with_reducible repeat (first | apply Kd.S_alloc | apply Kd.S_drewN | apply Kd.S_drew)); exact h) : p := f h
theorem vU {p q : Prop} (h : q) (f : q → p := by intro h; (with_reducible repeat (first | apply Kd.V_alloc | apply Kd.V_drewN | apply Kd.V_drew)); exact h) : p := f h
theorem nU {p q : Prop} (h : q) (f : q → p := by intro h; (with_reducible repeat (first | apply Kd.N_alloc | apply Kd.N_drewN | apply Kd.N_drew)); exact h) : p := f h
theorem qU {p q : Prop} (h : q) (f : q → p := by intro h; (with_reducible repeat (first | apply Kd.Q_alloc | apply Kd.Q_drewN | apply Kd.Q_drew)); exact h) : p := f h
theorem kU {p q : Prop} (h : q) (f : q → p := by intro h; (with_reducible repeat (first | refine blk_drewN ?_ _ | refine blk_drew ?_ | refine blk_alloc ?_ _)); exact h) : p := f h
theorem cU {p q : Prop} (h : q) (f : q → p := by intro h; repeat (first | exact h | (with_reducible refine Kd.C_alloc ?_ _) | (with_reducible refine Kd.C_drewN ?_ _) | (with_reducible refine Kd.C_drew ?_))) : p := f h
theorem bU0 {p q : Prop} (h : q) (f : q → p := by intro h; repeat (first | (with_reducible first | exact h | apply below_alloc | apply pw_below_drewN | apply below_drew1) | exact h)) : p := f h
theorem bU1 {p q a0 : Prop} (h : q) (g0 : a0) (f : q → a0 → p := by intro h g0; repeat (first | (with_reducible first | exact h | apply below_alloc | apply pw_below_drewN | apply below_drew1 | refine below_set ?_ g0) | exact h)) : p := f h g0
theorem bU2 {p q a0 a1 : Prop} (h : q) (g0 : a0) (g1 : a1) (f : q → a0 → a1 → p := by intro h g0 g1; repeat (first | (with_reducible first | exact h | apply below_alloc | apply pw_below_drewN | apply below_drew1 | refine below_set ?_ g0 | refine below_set ?_ g1) | exact h)) : p := f h g0 g1
theorem bU3 {p q a0 a1 a2 : Prop} (h : q) (g0 : a0) (g1 : a1) (g2 : a2) (f : q → a0 → a1 → a2 → p := by intro h g0 g1 g2; repeat (first | (with_reducible first | exact h | apply below_alloc | apply pw_below_drewN | apply below_drew1 | refine below_set ?_ g0 | refine below_set ?_ g1 | refine below_set ?_ g2) | exact h)) : p := f h g0 g1 g2
theorem bU4 {p q a0 a1 a2 a3 : Prop} (h : q) (g0 : a0) (g1 : a1) (g2 : a2) (g3 : a3) (f : q → a0 → a1 → a2 → a3 → p := by intro h g0 g1 g2 g3; repeat (first | (with_reducible first | exact h | apply below_alloc | apply pw_below_drewN | apply below_drew1 | refine below_set ?_ g0 | refine below_set ?_ g1 | refine below_set ?_ g2 | refine below_set ?_ g3) | exact h)) : p := f h g0 g1 g2 g3
theorem bU5 {p q a0 a1 a2 a3 a4 : Prop} (h : q) (g0 : a0) (g1 : a1) (g2 : a2) (g3 : a3) (g4 : a4) (f : q → a0 → a1 → a2 → a3 → a4 → p := by intro h g0 g1 g2 g3 g4; repeat (first | (with_reducible first | exact h | apply below_alloc | apply pw_below_drewN | apply below_drew1 | refine below_set ?_ g0 | refine below_set ?_ g1 | refine below_set ?_ g2 | refine below_set ?_ g3 | refine below_set ?_ g4) | exact h)) : p := f h g0 g1 g2 g3 g4
theorem hR {α : Type} {a b : α} {p q : Prop} (e : a = b) (h : q) (f : a = b → q → p := by intro e H; first | (rw [e]; with_reducible exact H) | (have H2_ := (Option.bind_some _ _).symm.trans H; rw [e]; with_reducible exact H2_) | (have H2_ := (Option.bind_some _ _).symm.trans H; with_reducible exact H2_) | with_reducible exact H | (rw [e]; exact H) | exact H) : p := f e h
attribute [local go_sem] max2_int min2_int max_two min_two max_three min_three max_four min_four   -- for this text's walks alone
set_option linter.unusedVariables false
set_option linter.unusedSimpArgs false
def errW : Option Int → Value
 | none => .nilIface
 | some c => .iface 0 (.int .i64 c)
theorem errW_none : errW none = .nilIface := rfl
theorem errW_some (c : Int) : errW (some c) = .iface 0 (.int .i64 c) := rfl
theorem info31 : (Try.prog.info? 31).map (fun i => (i.zero, i.size, i.bytes)) = some (some (.agg #[(.string ⟨#[]⟩), (.slice none 0 0)]), 2, 40) := by kernel_rfl
structure S31 where
 f0 : ByteArray
 f1 : (List Int)
def z31 : S31 := ⟨(⟨#[]⟩ : ByteArray), ([] : List Int)⟩
def k31 : Kd S31 := Kd.iso (Kd.pair Kd.string (Kd.slice 3 (Kd.int .i64))) (fun x : S31 => (x.f0, x.f1))
theorem k31_open {w : World} {x : S31} {cs : List Value} (h : k31.K w x cs) : ∃ A1 c1, cs = [.string x.f0, .slice A1 x.f1.length c1] ∧ x.f1.length ≤ c1 ∧ (Kd.int .i64).C w A1 x.f1.length x.f1 := by
 obtain ⟨_, _, rfl, rfl, ⟨A1, c1, rfl, l1, g1⟩⟩ := h
 exact ⟨A1, c1, rfl, l1, g1⟩
theorem k31_openM {w : World} {base : Nat} {ok : Nat → Prop} {x : S31} {cs : List Value} (h : k31.M w base ok x cs) : ∃ v1, cs = [.string x.f0, v1] ∧ (Kd.int .i64).R 3 w base ok v1 x.f1 := by
 obtain ⟨_, _, rfl, rfl, ⟨v1, rfl, g1⟩⟩ := h
 exact ⟨v1, rfl, g1⟩
theorem k31_mkM (w : World) (base : Nat) (ok : Nat → Prop) (x : S31) {v1 : Value} (g1 : (Kd.int .i64).R 3 w base ok v1 x.f1) : k31.M w base ok x [.string x.f0, v1] := ⟨[.string x.f0], [v1], rfl, rfl, ⟨v1, rfl, g1⟩⟩
def rd_T31 (xs : List S31) (i : Int) : S31 := xs.getD i.toNat z31
theorem at_T31 {w : World} {A : Option Addr} {n : Nat} {xs : List S31} (h : Kd.C k31 w A n xs) (i : Int) (h0 : 0 ≤ i) (h1 : i < n) : ∃ ad A1 c1, A = some ad ∧ w.cell? (ad.add (i.toNat * 2)) = some (.string (rd_T31 xs i).f0) ∧ w.cell? ⟨(ad.add (i.toNat * 2)).block, (ad.add (i.toNat * 2)).off + 1, none⟩ = some (.slice A1 (rd_T31 xs i).f1.length c1) ∧ (rd_T31 xs i).f1.length ≤ c1 ∧ (Kd.int .i64).C w A1 (rd_T31 xs i).f1.length (rd_T31 xs i).f1 := by
 obtain ⟨ad, c, e, _, hK, hc0⟩ := Kd.C_get h z31 i h0 h1; have hc : ∀ j u, c[j]? = some u → w.cell? (ad.add (i.toNat * 2 + j)) = some u := hc0; obtain ⟨A1, c1, rfl, l1, g1⟩ := k31_open hK
 exact ⟨ad, A1, c1, e, hc 0 _ rfl, by rw [← add_field _ _ 1 (by omega)]; exact hc 1 _ rfl, l1, g1⟩
end Go.Proofs.Ytplnkdchllllhaa.PC

namespace Go.Proofs.Ytplnkdchllllhaa.PC
open Go.RowKit Go.Proofs.YtplnkdchllllhaaW.PrintWords Go.Proofs.YtplnkdchllllhaaW.PrintLast Go.Proofs.YtplnkdchllllhaaW.PrintMore
attribute [local go_sem] max2_int min2_int max_two min_two max_three min_three max_four min_four   -- for this text's walks alone
set_option linter.unusedVariables false
set_option linter.unusedSimpArgs false
mutual
def spec_TreeAll.j0 : Nat → Int → List (S31) → List ByteArray → Option ((List (S31)) × Bool)
 | 0, _, _, _ => none
 | k + 1, x0, x4, x5 => spec_TreeAll.l0 k x0 x4 x5 0
def spec_TreeAll.l0 : Nat → Int → List (S31) → List ByteArray → Int → Option ((List (S31)) × Bool)
 | 0, _, _, _, _ => none
 | k + 1, x0, x4, x5, x6 => if x6 < (x5.length : Int) then (spec_TreeAll.l1 k x0 x4 x5 x6 (-1)) else (some (x4, true))
def spec_TreeAll.l1 : Nat → Int → List (S31) → List ByteArray → Int → Int → Option ((List (S31)) × Bool)
 | 0, _, _, _, _, _ => none
 | k + 1, x0, x4, x5, x6, x7 => if x7 ≤ 1 then (spec_TreeAll.l2 k x0 x4 x5 x6 x7 (-1)) else (spec_TreeAll.l0 k x0 x4 x5 (wrap64 (x6 + 1)))
def spec_TreeAll.l2 : Nat → Int → List (S31) → List ByteArray → Int → Int → Int → Option ((List (S31)) × Bool)
 | 0, _, _, _, _, _, _ => none
 | k + 1, x0, x4, x5, x6, x7, x8 => if x8 ≤ 1 then (if x0 = 2 then (if 0 ≤ x6 then (if x6 < (x5.length : Int) then (if x4.length < 3518437208883 then (spec_TreeAll.l2 k x0 (x4 ++ [(⟨rdOf ByteArray.empty x5 x6, (([x7, x8] : List Int))⟩ : S31)]) x5 x6 x7 (wrap64 (x8 + 1))) else (none)) else (none)) else (none)) else (spec_TreeAll.l2 k x0 x4 x5 x6 x7 (wrap64 (x8 + 1)))) else (if x0 = 1 then (if 0 ≤ x6 then (if x6 < (x5.length : Int) then (if x4.length < 3518437208883 then (spec_TreeAll.l1 k x0 (x4 ++ [(⟨rdOf ByteArray.empty x5 x6, (([x7] : List Int))⟩ : S31)]) x5 x6 (wrap64 (x7 + 1))) else (none)) else (none)) else (none)) else (spec_TreeAll.l1 k x0 x4 x5 x6 (wrap64 (x7 + 1))))
end
def spec_TreeAll.f (k : Nat) (a0 : Int) : Option ((List (S31)) × Bool) := (some (([] : List (S31)) : List (S31))).bind fun y101 => (if a0 = 1 then (spec_TreeAll.j0 k a0 y101 (([(⟨#[40, 41]⟩ : ByteArray)] : List ByteArray))) else (if a0 = 2 then (spec_TreeAll.j0 k a0 y101 (([(⟨#[40, 40, 41, 41]⟩ : ByteArray), (⟨#[40, 41, 40, 41]⟩ : ByteArray)] : List ByteArray))) else (some (y101, false))))
set_option maxHeartbeats 8000000 in
set_option maxRecDepth 100000 in
theorem spec_TreeAll.calls (k : Nat) (a0 : Int) (r1 : List (S31)) (r2 : Bool) (w : World) (h : spec_TreeAll.f k a0 = some (r1, r2)) :
  Calls Try.prog 4 #[.int .i64 a0] w fun e w' => ∃ v0_ : Value, e = .returned (.tuple #[v0_, .bool r2]) ∧ Kd.S k31 31 w' w.heap.size (fun _ => True) v0_ r1 ∧ Below w.heap.size w w' := by
 have hu31 := Try.underlying31; have HB := Az (Below.refl w.heap.size w); have H : ((some (([] : List (S31)) : List (S31))).bind fun y101 => (if a0 = 1 then (spec_TreeAll.j0 k a0 y101 (([(⟨#[40, 41]⟩ : ByteArray)] : List ByteArray))) else (if a0 = 2 then (spec_TreeAll.j0 k a0 y101 (([(⟨#[40, 40, 41, 41]⟩ : ByteArray), (⟨#[40, 41, 40, 41]⟩ : ByteArray)] : List ByteArray))) else (some (y101, false))))) = some (r1, r2) := h; clear h; obtain ⟨y101, hy101⟩ : ∃ y_ : List (S31), y_ = (([] : List (S31))) := ⟨_, rfl⟩; replace H : (if a0 = 1 then (spec_TreeAll.j0 k a0 y101 (([(⟨#[40, 41]⟩ : ByteArray)] : List ByteArray))) else (if a0 = 2 then (spec_TreeAll.j0 k a0 y101 (([(⟨#[40, 40, 41, 41]⟩ : ByteArray), (⟨#[40, 41, 40, 41]⟩ : ByteArray)] : List ByteArray))) else (some (y101, false)))) = some (r1, r2) := hR hy101 H; have Ny101 := Az hy101; clear hy101; obtain ⟨y104, hy104⟩ : ∃ y_ : List ByteArray, y_ = (([(⟨#[40, 41]⟩ : ByteArray)] : List ByteArray)) := ⟨_, rfl⟩; replace H : (if a0 = 1 then (spec_TreeAll.j0 k a0 y101 y104) else (if a0 = 2 then (spec_TreeAll.j0 k a0 y101 (([(⟨#[40, 40, 41, 41]⟩ : ByteArray), (⟨#[40, 41, 40, 41]⟩ : ByteArray)] : List ByteArray))) else (some (y101, false)))) = some (r1, r2) := hR hy104 H; have Ny104 := Az hy104; clear hy104; have HC2 := Az H; clear H
 go_enter Try.func4, Try.ntmps4
 go_upto_block 0 with (first | ((with_reducible refine gate_dst (N := 9) rfl ?_); refine Kd.S_lit k31 _ 31 ?hg (N := 9) ?hd (xs := ([] : List (S31))) (inner := []) (ok := fun _ => True) (okp := fun _ => True) ?hr ?hp (fun _ hk => hk) trivial (Below.refl _ _) (Nat.le_refl _) (by simp) ?_; (case hd => rfl); (case hg => rfl); (case hr => first | (go_simp; done) | (go_simp; rfl)); (case hp => exact (Reps.none _ _)); intro v102 w3 ho4 hb hg_ hnew_; clear hg_ hnew_; (first | rw [← Ny101.out] at ho4 | (simp only [Int.reduceToNat] at ho4; rw [← Ny101.out] at ho4)); have n0 := Az (Kd.S_lower ho4 (below_size (bU0 HB.out))); have n1 := Az (below_step (bU0 HB.out) hb); clear HB; have HO103 := n0; have HB := n1; clear n0 n1; clear hb ho4) | ((with_reducible refine gate_dst (N := 10) rfl ?_); refine Kd.R_lit Kd.string _ 9 ?hg (N := 10) ?hd (xs := ([(⟨#[40, 41]⟩ : ByteArray)] : List ByteArray)) (inner := [.string (⟨#[40, 41]⟩ : ByteArray)]) (ok := fun _ => True) (okp := fun _ => True) ?hr ?hp (fun _ hk => hk) trivial (Below.refl _ _) (Nat.le_refl _) (by simp) ?_; (case hd => rfl); (case hg => rfl); (case hr => first | (go_simp; done) | (go_simp; rfl)); (case hp => exact (Reps.one (show Kd.M Kd.string _ _ _ (⟨#[40, 41]⟩ : ByteArray) [.string (⟨#[40, 41]⟩ : ByteArray)] from rfl) (Reps.none _ _))); intro v105 w5 ho6 hb hg_ hnew_; clear hg_ hnew_; (first | rw [← Ny104.out] at ho6 | (simp only [Int.reduceToNat] at ho6; rw [← Ny104.out] at ho6)); have n0 := Az (Kd.S_below (sU HO103.out) hb); have n1 := Az (Kd.R_lower ho6 (below_size (bU0 HB.out))); have n2 := Az (below_step (bU0 HB.out) hb); clear HO103 HB; have HO103 := n0; have HO106 := n1; have HB := n2; clear n0 n1 n2; clear hb ho6))
 (try simp only [Act.put, List.setIfInBounds_toArray, List.set_cons_zero, List.set_cons_succ])
 go_cut [5] (fun v5 wc => ∃ (kq : Nat) (x5_1 : List ByteArray), Aside0 (spec_TreeAll.j0 kq a0 y101 x5_1 = some (r1, r2)) ∧ Aside0 (kq ≤ k) ∧ Aside0 (Kd.S k31 31 wc w.heap.size (fun _ => True) v102 y101) ∧ Aside0 (Kd.R Kd.string 9 wc w.heap.size (fun _ => True) v5 x5_1) ∧ Aside0 (Below w.heap.size w wc))
 case first =>
  have H := HC2.out; clear HC2
  by_cases c7 : a0 = 1
  ·
   rw [if_pos c7] at H; have c7b0 := beq_iff_eq.mpr c7; have c7b1 := bne_eq_false_iff_eq.mpr c7; clear c7; (first | rw [c7b0] | (simp only [i64_w, i32_w]; rw [c7b0]) | skip); have H' := Az H; clear H
   go_wp2
   go_meet
   case rel => exact ⟨_, (y104), H', ⟨by first | omega | exact Nat.le_refl _⟩, ⟨sU HO103.out⟩, ⟨rU HO106.out⟩, ⟨bU0 HB.out⟩⟩
  ·
   rw [if_neg c7] at H; have c7b0 := beq_eq_false_iff_ne.mpr c7; have c7b1 := bne_iff_ne.mpr c7; (first | rw [c7b0] | (simp only [i64_w, i32_w]; rw [c7b0]) | skip)
   by_cases c8 : a0 = 2
   ·
    rw [if_pos c8] at H; have c8b0 := beq_iff_eq.mpr c8; have c8b1 := bne_eq_false_iff_eq.mpr c8; clear c8; obtain ⟨y107, hy107⟩ : ∃ y_ : List ByteArray, y_ = (([(⟨#[40, 40, 41, 41]⟩ : ByteArray), (⟨#[40, 41, 40, 41]⟩ : ByteArray)] : List ByteArray)) := ⟨_, rfl⟩; replace H : (spec_TreeAll.j0 k a0 y101 y107) = some (r1, r2) := hR hy107 H; have Ny107 := Az hy107; clear hy107; have H' := Az H; clear H
    go_wp2_with (first | ((with_reducible refine gate_dst (N := 17) rfl ?_); refine Kd.R_lit Kd.string _ 9 ?hg (N := 17) ?hd (xs := ([(⟨#[40, 40, 41, 41]⟩ : ByteArray), (⟨#[40, 41, 40, 41]⟩ : ByteArray)] : List ByteArray)) (inner := [.string (⟨#[40, 40, 41, 41]⟩ : ByteArray), .string (⟨#[40, 41, 40, 41]⟩ : ByteArray)]) (ok := fun _ => True) (okp := fun _ => True) ?hr ?hp (fun _ hk => hk) trivial (Below.refl _ _) (Nat.le_refl _) (by simp) ?_; (case hd => rfl); (case hg => rfl); (case hr => first | (go_simp; done) | (go_simp; rfl)); (case hp => exact (Reps.one (show Kd.M Kd.string _ _ _ (⟨#[40, 40, 41, 41]⟩ : ByteArray) [.string (⟨#[40, 40, 41, 41]⟩ : ByteArray)] from rfl) (Reps.one (show Kd.M Kd.string _ _ _ (⟨#[40, 41, 40, 41]⟩ : ByteArray) [.string (⟨#[40, 41, 40, 41]⟩ : ByteArray)] from rfl) (Reps.none _ _)))); intro v108 w9 ho10 hb hg_ hnew_; clear hg_ hnew_; (first | rw [← Ny107.out] at ho10 | (simp only [Int.reduceToNat] at ho10; rw [← Ny107.out] at ho10)); have n0 := Az (Kd.S_below (sU HO103.out) hb); have n1 := Az (Kd.R_elder' (rU HO106.out) (Kd.R_base ho10) hb); have n2 := Az (Kd.R_lower (Kd.R_new' ho10 (Kd.R_lt (rU HO106.out))) (below_size (bU0 HB.out))); have n3 := Az (below_step (bU0 HB.out) hb); clear HO103 HO106 HB; have HO103 := n0; have HO106 := n1; have HO109 := n2; have HB := n3; clear n0 n1 n2 n3; clear hb ho10))
    go_meet
    case rel => exact ⟨_, (y107), H', ⟨by first | omega | exact Nat.le_refl _⟩, ⟨sU HO103.out⟩, ⟨by (with_reducible repeat (first | apply Kd.R_alloc | apply Kd.R_drewN | apply Kd.R_drew)); exact Kd.R_mono HO109.out (fun _ hk => trivial)⟩, ⟨bU0 HB.out⟩⟩
   ·
    rw [if_neg c8] at H; have c8b0 := beq_eq_false_iff_ne.mpr c8; have c8b1 := bne_iff_ne.mpr c8; simp only [Option.some.injEq, Prod.mk.injEq] at H; obtain ⟨rfl, rfl⟩ := H
    go_wp2
    go_ret2
    exact ⟨_, rE, sU HO103.out, bU0 HB.out⟩
 case rest =>
  clear HC2; (try clear p2); (try clear c4); (try clear c7); (try clear c7b0); (try clear c7b1); (try clear c8); (try clear c8b0); (try clear c8b1); obtain ⟨kq, x5_1, HA, HJ1, HO_4, HO_5, HB⟩ := hcut
  cases kq with
  | zero => exact absurd HA.out (by simp [spec_TreeAll.j0])
  | succ kj1 =>
   have H := HA.out; clear HA; simp only [spec_TreeAll.j0] at H; have H' := Az H; clear H
   go_wp2
   go_loopg [4, 6] kj1 (fun kq v4 v6 w' => ∃ (x4_2 : List (S31)) (x6_2 : Int), v6 = .int .i64 x6_2 ∧ Aside0 (spec_TreeAll.l0 kq a0 x4_2 x5_1 x6_2 = some (r1, r2)) ∧ Aside0 (kq ≤ kj1) ∧ Aside0 (Kd.S k31 31 w' w.heap.size (fun _ => True) v4 x4_2) ∧ Aside0 (Kd.R Kd.string 9 w' w.heap.size (fun _ => True) u5 x5_1) ∧ Aside0 (Below w.heap.size w w'))
   case atStart => exact ⟨(y101), (0), rS, H', ⟨Nat.le_refl _⟩, ⟨sU HO_4.out⟩, ⟨rU HO_5.out⟩, ⟨bU0 HB.out⟩⟩
   case round =>
    clear H'; (try clear p2); (try clear c4); (try clear c7); (try clear c7b0); (try clear c7b1); (try clear c8); (try clear c8b0); (try clear c8b1); (try clear p2); obtain ⟨x4_2, x6_2, rfl, HA, HK2, HO_4, HO_5, HB⟩ := hrel
    cases gk with
    | zero => exact absurd HA.out (by simp [spec_TreeAll.l0])
    | succ k2 =>
     have H := HA.out; clear HA; simp only [spec_TreeAll.l0] at H
     by_cases c11 : x6_2 < (x5_1.length : Int)
     ·
      rw [if_pos c11] at H; have c11b0 := decide_eq_true c11; clear c11; have H' := Az H; clear H; obtain ⟨Ao12, co12, eo12⟩ := Kd.R_slice HO_5.out; subst eo12
      go_wp2
      go_loopg [4, 7] k2 (fun kq v4 v7 w' => ∃ (x4_3 : List (S31)) (x7_3 : Int), v7 = .int .i64 x7_3 ∧ Aside0 (spec_TreeAll.l1 kq a0 x4_3 x5_1 x6_2 x7_3 = some (r1, r2)) ∧ Aside0 (kq ≤ k2) ∧ Aside0 (Kd.S k31 31 w' w.heap.size (fun _ => True) v4 x4_3) ∧ Aside0 (Kd.R Kd.string 9 w' w.heap.size (fun _ => True) (.slice Ao12 x5_1.length co12) x5_1) ∧ Aside0 (Below w.heap.size w w'))
      case atStart => exact ⟨(x4_2), ((-1)), rS, H', ⟨Nat.le_refl _⟩, ⟨sU HO_4.out⟩, ⟨rU HO_5.out⟩, ⟨bU0 HB.out⟩⟩
      case round =>
       clear H'; (try clear c1); (try clear p2); (try clear c4); (try clear c7); (try clear c7b0); (try clear c7b1); (try clear c8); (try clear c8b0); (try clear c8b1); (try clear c11); (try clear c11b0); (try clear p2); obtain ⟨x4_3, x7_3, rfl, HA, HK3, HO_4, HO_5, HB⟩ := hrel
       cases gk with
       | zero => exact absurd HA.out (by simp [spec_TreeAll.l1])
       | succ k3 =>
        have H := HA.out; clear HA; simp only [spec_TreeAll.l1] at H
        by_cases c13 : x7_3 ≤ 1
        ·
         rw [if_pos c13] at H; have c13b0 := decide_eq_true c13; clear c13; have H' := Az H; clear H
         go_wp2
         go_loopg [4, 8] k3 (fun kq v4 v8 w' => ∃ (x4_4 : List (S31)) (x8_4 : Int), v8 = .int .i64 x8_4 ∧ Aside0 (spec_TreeAll.l2 kq a0 x4_4 x5_1 x6_2 x7_3 x8_4 = some (r1, r2)) ∧ Aside0 (kq ≤ k3) ∧ Aside0 (Kd.S k31 31 w' w.heap.size (fun _ => True) v4 x4_4) ∧ Aside0 (Kd.R Kd.string 9 w' w.heap.size (fun _ => True) (.slice Ao12 x5_1.length co12) x5_1) ∧ Aside0 (Below w.heap.size w w'))
         case atStart => exact ⟨(x4_3), ((-1)), rS, H', ⟨Nat.le_refl _⟩, ⟨sU HO_4.out⟩, ⟨rU HO_5.out⟩, ⟨bU0 HB.out⟩⟩
         case round =>
          clear H'; (try clear c1); (try clear p2); (try clear c4); (try clear c7); (try clear c7b0); (try clear c7b1); (try clear c8); (try clear c8b0); (try clear c8b1); (try clear c11); (try clear c11b0); (try clear c13); (try clear c13b0); (try clear p2); obtain ⟨x4_4, x8_4, rfl, HA, HK4, HO_4, HO_5, HB⟩ := hrel
          cases gk with
          | zero => exact absurd HA.out (by simp [spec_TreeAll.l2])
          | succ k4 =>
           have H := HA.out; clear HA; simp only [spec_TreeAll.l2] at H
           by_cases c14 : x8_4 ≤ 1
           ·
            rw [if_pos c14] at H; have c14b0 := decide_eq_true c14; clear c14
            by_cases c15 : a0 = 2
            ·
             rw [if_pos c15] at H; have c15b0 := beq_iff_eq.mpr c15; have c15b1 := bne_eq_false_iff_eq.mpr c15; clear c15
             by_cases c16 : 0 ≤ x6_2
             ·
              rw [if_pos c16] at H; have c16b0 := decide_eq_true c16; clear c16
              by_cases c17 : x6_2 < (x5_1.length : Int)
              ·
               rw [if_pos c17] at H; have c17b0 := decide_eq_true c17; clear c17; obtain ⟨y111, hy111⟩ : ∃ y_ : List Int, y_ = (([x7_3, x8_4] : List Int)) := ⟨_, rfl⟩; replace H : (if x4_4.length < 3518437208883 then (spec_TreeAll.l2 k4 a0 (x4_4 ++ [(⟨rdOf ByteArray.empty x5_1 x6_2, y111⟩ : S31)]) x5_1 x6_2 x7_3 (wrap64 (x8_4 + 1))) else (none)) = some (r1, r2) := hR hy111 H; have Ny111 := Az hy111; clear hy111
               by_cases c18 : x4_4.length < 3518437208883
               ·
                rw [if_pos c18] at H; have LMc18 := Az c18; clear c18; obtain ⟨y114, hy114⟩ : ∃ y_ : List (S31), y_ = (x4_4 ++ [(⟨rdOf ByteArray.empty x5_1 x6_2, y111⟩ : S31)]) := ⟨_, rfl⟩; replace H : (spec_TreeAll.l2 k4 a0 y114 x5_1 x6_2 x7_3 (wrap64 (x8_4 + 1))) = some (r1, r2) := hR hy114 H; have Ny114 := Az hy114; clear hy114; have H' := Az H; clear H; have p110 : 0 ≤ (x6_2 : Int) := oA; have q110 : x6_2 < (x5_1.length : Int) := oA; obtain ⟨ad110, e110, hx110_0⟩ := Kd.at_string (Kd.R_reads' HO_5.out).2.2 x6_2 p110 q110
                cases e110
                replace p110 := eq_true p110; replace q110 := eq_true q110
                go_wp2_with (first | ((with_reducible refine gate_dst (N := 41) rfl ?_); refine Kd.R_lit (Kd.int .i64) _ 3 ?hg (N := 41) ?hd (xs := ([x7_3, x8_4] : List Int)) (inner := [.int .i64 x7_3, .int .i64 x8_4]) (ok := fun _ => True) (okp := fun _ => True) ?hr ?hp (fun _ hk => hk) trivial (Below.refl _ _) (Nat.le_refl _) (by simp) ?_; (case hd => rfl); (case hg => rfl); (case hr => first | (go_simp; done) | (go_simp; rfl)); (case hp => exact (Reps.one (show Kd.M (Kd.int .i64) _ _ _ x7_3 [.int .i64 x7_3] from rfl) (Reps.one (show Kd.M (Kd.int .i64) _ _ _ x8_4 [.int .i64 x8_4] from rfl) (Reps.none _ _)))); intro v112 w19 ho20 hb hg_ hnew_; clear hg_ hnew_; (first | rw [← Ny111.out] at ho20 | (simp only [Int.reduceToNat] at ho20; rw [← Ny111.out] at ho20)); have n0 := Az (Kd.S_elder' (sU HO_4.out) (Kd.R_base ho20) hb); have n1 := Az (Kd.R_below (rU HO_5.out) hb); have n2 := Az (Kd.R_lower ho20 (below_size (bU0 HB.out))); have n3 := Az (below_step (bU0 HB.out) hb); clear HO_4 HO_5 HB; have HO_4 := n0; have HO_5 := n1; have HO113 := n2; have HB := n3; clear n0 n1 n2 n3 hb ho20; obtain ⟨Ao21, co21, eo21⟩ := Kd.R_slice HO113.out; subst eo21) | ((with_reducible refine gate_builtin (b := .append) (xs := #[.tmp 34, .tmp 43]) rfl ?_); at_builtin; refine Kd.S_append k31 (w0 := w) w.heap.size rfl (.tmp 34) (.tmp 43) 22 31 (.agg #[(.string ⟨#[]⟩), (.slice none 0 0)]) 40 rfl Try.underlying22 info31 rfl (by decide) (by omega) u4 x4_4 (⟨rdOf ByteArray.empty x5_1 x6_2, y111⟩ : S31) [.string (rdOf ByteArray.empty x5_1 x6_2), .slice Ao21 y111.length co21] (fun _ => True) (fun k_ => some k_ = (.slice Ao21 y111.length co21 : Value).ownBlock) rfl rfl ?aP (fun k_ hk_ => ((Kd.R_mono (ok' := fun k_ => ((fun _ => True)) k_ ∧ some k_ ≠ (u4 : Value).ownBlock) (Kd.R_apart' (HO113.out) (Kd.S_typed HO_4.out) (by decide)) (fun k_ hk => ⟨trivial, hk.2⟩))).1 k_ hk_.symm) ?aF ?aO ?aB ?aS ?aL ?_; (case aP => exact k31_mkM _ _ _ (⟨rdOf ByteArray.empty x5_1 x6_2, y111⟩ : S31) (Kd.R_mono (Kd.R_tight rfl (Kd.R_mono (ok' := fun k_ => ((fun _ => True)) k_ ∧ some k_ ≠ (u4 : Value).ownBlock) (Kd.R_apart' (HO113.out) (Kd.S_typed HO_4.out) (by decide)) (fun k_ hk => ⟨trivial, hk.2⟩))) (fun _ h_ => h_))); (case aB => exact (bU0 HB.out)); (case aF => exact (fun _ _ => trivial)); (case aO => exact (by (with_reducible repeat (first | apply Kd.S_alloc | apply Kd.S_drewN | apply Kd.S_drew)); exact Kd.S_mono HO_4.out (fun k_ hk => ⟨trivial, fun e_ => hk.2 e_⟩))); (case aS => exact (below_size (bU0 HB.out))); (case aL => have := LMc18.out; omega); intro v115 w22 ho hb hg hat; rw [← Ny114.out] at ho; have n0 := Az (Kd.R_over' (rU HO_5.out) (Kd.S_typed (sU HO_4.out)) (by decide) hg); have n1 := Az (hb); have n2 := Az (ho); clear HO_5 HB HO_4 HO113; have HO_5 := n0; have HB := n1; have HO116 := n2; clear n0 n1 n2; clear ho hb hg hat))
                (first | go_roundg k4 | (refine Handed.intro k4 ?measure ?_; rotate_left; go_step; (try simp only [add_plain]); (repeat apply Exists.intro); refine ⟨?rel, rfl⟩))
                case measure => have := HJ1.out; have := HK2.out; have := HK3.out; have := HK4.out; omega
                case rel => exact ⟨(y114), (wrap64 (x8_4 + 1)), rS, H', ⟨by have := HJ1.out; have := HK2.out; have := HK3.out; have := HK4.out; omega⟩, ⟨sU HO116.out⟩, ⟨rU HO_5.out⟩, ⟨bU0 HB.out⟩⟩
               ·
                rw [if_neg c18] at H
                exact absurd H (by simp)
              ·
               rw [if_neg c17] at H
               exact absurd H (by simp)
             ·
              rw [if_neg c16] at H
              exact absurd H (by simp)
            ·
             rw [if_neg c15] at H; have c15b0 := beq_eq_false_iff_ne.mpr c15; have c15b1 := bne_iff_ne.mpr c15; have H' := Az H; clear H
             go_wp2
             (first | go_roundg k4 | (refine Handed.intro k4 ?measure ?_; rotate_left; go_step; (try simp only [add_plain]); (repeat apply Exists.intro); refine ⟨?rel, rfl⟩))
             case measure => have := HJ1.out; have := HK2.out; have := HK3.out; have := HK4.out; omega
             case rel => exact ⟨(x4_4), (wrap64 (x8_4 + 1)), rS, H', ⟨by have := HJ1.out; have := HK2.out; have := HK3.out; have := HK4.out; omega⟩, ⟨sU HO_4.out⟩, ⟨rU HO_5.out⟩, ⟨bU0 HB.out⟩⟩
           ·
            rw [if_neg c14] at H; have c14b0 := decide_eq_false c14; clear c14
            by_cases c23 : a0 = 1
            ·
             rw [if_pos c23] at H; have c23b0 := beq_iff_eq.mpr c23; have c23b1 := bne_eq_false_iff_eq.mpr c23; clear c23
             by_cases c24 : 0 ≤ x6_2
             ·
              rw [if_pos c24] at H; have c24b0 := decide_eq_true c24; clear c24
              by_cases c25 : x6_2 < (x5_1.length : Int)
              ·
               rw [if_pos c25] at H; have c25b0 := decide_eq_true c25; clear c25; obtain ⟨y118, hy118⟩ : ∃ y_ : List Int, y_ = (([x7_3] : List Int)) := ⟨_, rfl⟩; replace H : (if x4_4.length < 3518437208883 then (spec_TreeAll.l1 k4 a0 (x4_4 ++ [(⟨rdOf ByteArray.empty x5_1 x6_2, y118⟩ : S31)]) x5_1 x6_2 (wrap64 (x7_3 + 1))) else (none)) = some (r1, r2) := hR hy118 H; have Ny118 := Az hy118; clear hy118
               by_cases c26 : x4_4.length < 3518437208883
               ·
                rw [if_pos c26] at H; have LMc26 := Az c26; clear c26; obtain ⟨y121, hy121⟩ : ∃ y_ : List (S31), y_ = (x4_4 ++ [(⟨rdOf ByteArray.empty x5_1 x6_2, y118⟩ : S31)]) := ⟨_, rfl⟩; replace H : (spec_TreeAll.l1 k4 a0 y121 x5_1 x6_2 (wrap64 (x7_3 + 1))) = some (r1, r2) := hR hy121 H; have Ny121 := Az hy121; clear hy121; have H' := Az H; clear H; have p117 : 0 ≤ (x6_2 : Int) := oA; have q117 : x6_2 < (x5_1.length : Int) := oA; obtain ⟨ad117, e117, hx117_0⟩ := Kd.at_string (Kd.R_reads' HO_5.out).2.2 x6_2 p117 q117
                cases e117
                replace p117 := eq_true p117; replace q117 := eq_true q117
                go_wp2_with (first | ((with_reducible refine gate_dst (N := 53) rfl ?_); refine Kd.R_lit (Kd.int .i64) _ 3 ?hg (N := 53) ?hd (xs := ([x7_3] : List Int)) (inner := [.int .i64 x7_3]) (ok := fun _ => True) (okp := fun _ => True) ?hr ?hp (fun _ hk => hk) trivial (Below.refl _ _) (Nat.le_refl _) (by simp) ?_; (case hd => rfl); (case hg => rfl); (case hr => first | (go_simp; done) | (go_simp; rfl)); (case hp => exact (Reps.one (show Kd.M (Kd.int .i64) _ _ _ x7_3 [.int .i64 x7_3] from rfl) (Reps.none _ _))); intro v119 w27 ho28 hb hg_ hnew_; clear hg_ hnew_; (first | rw [← Ny118.out] at ho28 | (simp only [Int.reduceToNat] at ho28; rw [← Ny118.out] at ho28)); have n0 := Az (Kd.S_elder' (sU HO_4.out) (Kd.R_base ho28) hb); have n1 := Az (Kd.R_below (rU HO_5.out) hb); have n2 := Az (Kd.R_lower ho28 (below_size (bU0 HB.out))); have n3 := Az (below_step (bU0 HB.out) hb); clear HO_4 HO_5 HB; have HO_4 := n0; have HO_5 := n1; have HO120 := n2; have HB := n3; clear n0 n1 n2 n3 hb ho28; obtain ⟨Ao29, co29, eo29⟩ := Kd.R_slice HO120.out; subst eo29) | ((with_reducible refine gate_builtin (b := .append) (xs := #[.tmp 47, .tmp 55]) rfl ?_); at_builtin; refine Kd.S_append k31 (w0 := w) w.heap.size rfl (.tmp 47) (.tmp 55) 22 31 (.agg #[(.string ⟨#[]⟩), (.slice none 0 0)]) 40 rfl Try.underlying22 info31 rfl (by decide) (by omega) u4 x4_4 (⟨rdOf ByteArray.empty x5_1 x6_2, y118⟩ : S31) [.string (rdOf ByteArray.empty x5_1 x6_2), .slice Ao29 y118.length co29] (fun _ => True) (fun k_ => some k_ = (.slice Ao29 y118.length co29 : Value).ownBlock) rfl rfl ?aP (fun k_ hk_ => ((Kd.R_mono (ok' := fun k_ => ((fun _ => True)) k_ ∧ some k_ ≠ (u4 : Value).ownBlock) (Kd.R_apart' (HO120.out) (Kd.S_typed HO_4.out) (by decide)) (fun k_ hk => ⟨trivial, hk.2⟩))).1 k_ hk_.symm) ?aF ?aO ?aB ?aS ?aL ?_; (case aP => exact k31_mkM _ _ _ (⟨rdOf ByteArray.empty x5_1 x6_2, y118⟩ : S31) (Kd.R_mono (Kd.R_tight rfl (Kd.R_mono (ok' := fun k_ => ((fun _ => True)) k_ ∧ some k_ ≠ (u4 : Value).ownBlock) (Kd.R_apart' (HO120.out) (Kd.S_typed HO_4.out) (by decide)) (fun k_ hk => ⟨trivial, hk.2⟩))) (fun _ h_ => h_))); (case aB => exact (bU0 HB.out)); (case aF => exact (fun _ _ => trivial)); (case aO => exact (by (with_reducible repeat (first | apply Kd.S_alloc | apply Kd.S_drewN | apply Kd.S_drew)); exact Kd.S_mono HO_4.out (fun k_ hk => ⟨trivial, fun e_ => hk.2 e_⟩))); (case aS => exact (below_size (bU0 HB.out))); (case aL => have := LMc26.out; omega); intro v122 w30 ho hb hg hat; rw [← Ny121.out] at ho; have n0 := Az (Kd.R_over' (rU HO_5.out) (Kd.S_typed (sU HO_4.out)) (by decide) hg); have n1 := Az (hb); have n2 := Az (ho); clear HO_5 HB HO_4 HO120; have HO_5 := n0; have HB := n1; have HO123 := n2; clear n0 n1 n2; clear ho hb hg hat))
                (first | go_roundg k4 | (refine Handed.intro k4 ?measure ?_; rotate_left; go_step; (try simp only [add_plain]); (repeat apply Exists.intro); refine ⟨?rel, rfl⟩))
                case measure => have := HJ1.out; have := HK2.out; have := HK3.out; have := HK4.out; omega
                case rel => exact ⟨(y121), (wrap64 (x7_3 + 1)), rS, H', ⟨by have := HJ1.out; have := HK2.out; have := HK3.out; have := HK4.out; omega⟩, ⟨sU HO123.out⟩, ⟨rU HO_5.out⟩, ⟨bU0 HB.out⟩⟩
               ·
                rw [if_neg c26] at H
                exact absurd H (by simp)
              ·
               rw [if_neg c25] at H
               exact absurd H (by simp)
             ·
              rw [if_neg c24] at H
              exact absurd H (by simp)
            ·
             rw [if_neg c23] at H; have c23b0 := beq_eq_false_iff_ne.mpr c23; have c23b1 := bne_iff_ne.mpr c23; have H' := Az H; clear H
             go_wp2
             (first | go_roundg k4 | (refine Handed.intro k4 ?measure ?_; rotate_left; go_step; (try simp only [add_plain]); (repeat apply Exists.intro); refine ⟨?rel, rfl⟩))
             case measure => have := HJ1.out; have := HK2.out; have := HK3.out; have := HK4.out; omega
             case rel => exact ⟨(x4_4), (wrap64 (x7_3 + 1)), rS, H', ⟨by have := HJ1.out; have := HK2.out; have := HK3.out; have := HK4.out; omega⟩, ⟨sU HO_4.out⟩, ⟨rU HO_5.out⟩, ⟨bU0 HB.out⟩⟩
        ·
         rw [if_neg c13] at H; have c13b0 := decide_eq_false c13; clear c13; have H' := Az H; clear H
         go_wp2
         (first | go_roundg k3 | (refine Handed.intro k3 ?measure ?_; rotate_left; go_step; (try simp only [add_plain]); (repeat apply Exists.intro); refine ⟨?rel, rfl⟩))
         case measure => have := HJ1.out; have := HK2.out; have := HK3.out; omega
         case rel => exact ⟨(x4_3), (wrap64 (x6_2 + 1)), rS, H', ⟨by have := HJ1.out; have := HK2.out; have := HK3.out; omega⟩, ⟨sU HO_4.out⟩, ⟨rU HO_5.out⟩, ⟨bU0 HB.out⟩⟩
     ·
      rw [if_neg c11] at H; have c11b0 := decide_eq_false c11; clear c11; simp only [Option.some.injEq, Prod.mk.injEq] at H; obtain ⟨rfl, rfl⟩ := H; obtain ⟨Ao31, co31, eo31⟩ := Kd.R_slice HO_5.out; subst eo31
      go_wp2
      go_ret2
      exact ⟨_, rE, sU HO_4.out, bU0 HB.out⟩
mutual
def impl_TreeAll.j0 : Nat → Int → Bool → Option ((List (S31)) × Bool)
 | 0, _, _ => none
 | k + 1, x0, x15 => if x15 = true then (some (([] : List (S31)), false)) else (if x0 = 2 then (impl_TreeAll.j1 k x0 (([(⟨#[40, 40, 41, 41]⟩ : ByteArray), (⟨#[40, 41, 40, 41]⟩ : ByteArray)] : List ByteArray))) else (impl_TreeAll.j1 k x0 (([(⟨#[40, 41]⟩ : ByteArray)] : List ByteArray))))
def impl_TreeAll.j1 : Nat → Int → List ByteArray → Option ((List (S31)) × Bool)
 | 0, _, _ => none
 | k + 1, x0, x4 => impl_TreeAll.l0 k x0 (([] : List (S31))) x4 (x4.length : Int) 0
def impl_TreeAll.l0 : Nat → Int → List (S31) → List ByteArray → Int → Int → Option ((List (S31)) × Bool)
 | 0, _, _, _, _, _ => none
 | k + 1, x0, x5, x21, x22, x23 => if x23 < x22 then (if 0 ≤ x23 then (if x23 < (x21.length : Int) then (impl_TreeAll.l1 k x0 x5 (rdOf ByteArray.empty x21 x23) (-1) x21 x22 x23) else (none)) else (none)) else (some (x5, true))
def impl_TreeAll.l1 : Nat → Int → List (S31) → ByteArray → Int → List ByteArray → Int → Int → Option ((List (S31)) × Bool)
 | 0, _, _, _, _, _, _, _ => none
 | k + 1, x0, x5, x7, x8, x21, x22, x23 => if x8 ≤ 1 then (if x0 = 1 then (if x5.length < 3518437208883 then (impl_TreeAll.l1 k x0 (x5 ++ [(⟨x7, (([x8] : List Int))⟩ : S31)]) x7 (wrap64 (x8 + 1)) x21 x22 x23) else (none)) else (impl_TreeAll.l2 k x0 x5 x7 x8 (-1) x21 x22 x23)) else (impl_TreeAll.l0 k x0 x5 x21 x22 (wrap64 (x23 + 1)))
def impl_TreeAll.l2 : Nat → Int → List (S31) → ByteArray → Int → Int → List ByteArray → Int → Int → Option ((List (S31)) × Bool)
 | 0, _, _, _, _, _, _, _, _ => none
 | k + 1, x0, x5, x7, x8, x9, x21, x22, x23 => if x9 ≤ 1 then (if x5.length < 3518437208883 then (impl_TreeAll.l2 k x0 (x5 ++ [(⟨x7, (([x8, x9] : List Int))⟩ : S31)]) x7 x8 (wrap64 (x9 + 1)) x21 x22 x23) else (none)) else (impl_TreeAll.l1 k x0 x5 x7 (wrap64 (x8 + 1)) x21 x22 x23)
end
def impl_TreeAll.f (k : Nat) (a0 : Int) : Option ((List (S31)) × Bool) := if a0 < 1 then (impl_TreeAll.j0 k a0 true) else (impl_TreeAll.j0 k a0 (decide (a0 > 2)))
set_option maxHeartbeats 8000000 in
set_option maxRecDepth 100000 in
theorem impl_TreeAll.calls (k : Nat) (a0 : Int) (r1 : List (S31)) (r2 : Bool) (w : World) (h : impl_TreeAll.f k a0 = some (r1, r2)) :
  Calls Try.prog 5 #[.int .i64 a0] w fun e w' => ∃ v0_ : Value, e = .returned (.tuple #[v0_, .bool r2]) ∧ Kd.S k31 31 w' w.heap.size (fun _ => True) v0_ r1 ∧ Below w.heap.size w w' := by
 have hu31 := Try.underlying31; have HB := Az (Below.refl w.heap.size w); have H : (if a0 < 1 then (impl_TreeAll.j0 k a0 true) else (impl_TreeAll.j0 k a0 (decide (a0 > 2)))) = some (r1, r2) := h; clear h; have HC2 := Az H; clear H
 go_enter Try.func5, Try.ntmps5
 go_upto_region 1 with (fail)
 go_cut [15] (fun v15 wc => ∃ (kq : Nat) (x15_1 : Bool), v15 = .bool x15_1 ∧ Aside0 (impl_TreeAll.j0 kq a0 x15_1 = some (r1, r2)) ∧ Aside0 (kq ≤ k) ∧ Aside0 (Below w.heap.size w wc))
 case first =>
  have H := HC2.out; clear HC2
  by_cases c3 : a0 < 1
  ·
   rw [if_pos c3] at H; have c3b0 := decide_eq_true c3; clear c3; (first | rw [c3b0] | (simp only [i64_w, i32_w]; rw [c3b0]) | skip); have H' := Az H; clear H
   go_wp2
   go_meet
   case rel => exact ⟨_, (true), rS, H', ⟨by first | omega | exact Nat.le_refl _⟩, ⟨bU0 HB.out⟩⟩
  ·
   rw [if_neg c3] at H; have c3b0 := decide_eq_false c3; clear c3; (first | rw [c3b0] | (simp only [i64_w, i32_w]; rw [c3b0]) | skip); have H' := Az H; clear H
   go_wp2
   go_meet
   case rel => exact ⟨_, (decide (a0 > 2)), rS, H', ⟨by first | omega | exact Nat.le_refl _⟩, ⟨bU0 HB.out⟩⟩
 case rest =>
  clear HC2; (try clear p2); (try clear c3); (try clear c3b0); obtain ⟨kq, x15_1, rfl, HA, HJ1, HB⟩ := hcut
  cases kq with
  | zero => exact absurd HA.out (by simp [impl_TreeAll.j0])
  | succ kj1 =>
   have H := HA.out; clear HA; simp only [impl_TreeAll.j0] at H
   by_cases c4 : x15_1 = true
   ·
    subst c4
    have H1 : (some (([] : List (S31)), false)) = some (r1, r2) := by rw [if_pos rfl] at H; exact H
    clear H; have H := H1; clear H1; simp only [Option.some.injEq, Prod.mk.injEq] at H; obtain ⟨rfl, rfl⟩ := H
    go_wp2
    go_ret2
    exact ⟨_, rE, by first | exact Kd.S_nil _ _ _ _ _ | exact Kd.N_nil _ _ _ _ _ | exact Kd.V_nil _ _ _ _ _ | exact Kd.Q_nil _ _ _ _ _ | exact Kd.R_nil _ _ _ _ _, bU0 HB.out⟩
   ·
    replace c4 := Bool.eq_false_iff.mpr c4; subst c4
    have H1 : (if a0 = 2 then (impl_TreeAll.j1 kj1 a0 (([(⟨#[40, 40, 41, 41]⟩ : ByteArray), (⟨#[40, 41, 40, 41]⟩ : ByteArray)] : List ByteArray))) else (impl_TreeAll.j1 kj1 a0 (([(⟨#[40, 41]⟩ : ByteArray)] : List ByteArray)))) = some (r1, r2) := by rw [if_neg (show ¬ (false = true) by decide)] at H; exact H
    clear H; have H := H1; clear H1; obtain ⟨y124, hy124⟩ : ∃ y_ : List ByteArray, y_ = (([(⟨#[40, 41]⟩ : ByteArray)] : List ByteArray)) := ⟨_, rfl⟩; replace H : (if a0 = 2 then (impl_TreeAll.j1 kj1 a0 (([(⟨#[40, 40, 41, 41]⟩ : ByteArray), (⟨#[40, 41, 40, 41]⟩ : ByteArray)] : List ByteArray))) else (impl_TreeAll.j1 kj1 a0 y124)) = some (r1, r2) := hR hy124 H; have Ny124 := Az hy124; clear hy124; have HC5 := Az H; clear H
    go_upto_if 18 with (first | ((with_reducible refine gate_dst (N := 16) rfl ?_); refine Kd.R_lit Kd.string _ 9 ?hg (N := 16) ?hd (xs := ([(⟨#[40, 41]⟩ : ByteArray)] : List ByteArray)) (inner := [.string (⟨#[40, 41]⟩ : ByteArray)]) (ok := fun _ => True) (okp := fun _ => True) ?hr ?hp (fun _ hk => hk) trivial (Below.refl _ _) (Nat.le_refl _) (by simp) ?_; (case hd => rfl); (case hg => rfl); (case hr => first | (go_simp; done) | (go_simp; rfl)); (case hp => exact (Reps.one (show Kd.M Kd.string _ _ _ (⟨#[40, 41]⟩ : ByteArray) [.string (⟨#[40, 41]⟩ : ByteArray)] from rfl) (Reps.none _ _))); intro v125 w6 ho7 hb hg_ hnew_; clear hg_ hnew_; (first | rw [← Ny124.out] at ho7 | (simp only [Int.reduceToNat] at ho7; rw [← Ny124.out] at ho7)); have n0 := Az (Kd.R_lower ho7 (below_size (bU0 HB.out))); have n1 := Az (below_step (bU0 HB.out) hb); clear HB; have HO126 := n0; have HB := n1; clear n0 n1; clear hb ho7))
    (try simp only [Act.put, List.setIfInBounds_toArray, List.set_cons_zero, List.set_cons_succ])
    go_cut [4] (fun v4 wc => ∃ (kq : Nat) (x4_4 : List ByteArray), Aside0 (impl_TreeAll.j1 kq a0 x4_4 = some (r1, r2)) ∧ Aside0 (kq ≤ kj1) ∧ Aside0 (Kd.R Kd.string 9 wc w.heap.size (fun _ => True) v4 x4_4) ∧ Aside0 (Below w.heap.size w wc))
    case first =>
     have H := HC5.out; clear HC5
     by_cases c8 : a0 = 2
     ·
      rw [if_pos c8] at H; have c8b0 := beq_iff_eq.mpr c8; have c8b1 := bne_eq_false_iff_eq.mpr c8; clear c8; (first | rw [c8b0] | (simp only [i64_w, i32_w]; rw [c8b0]) | skip); obtain ⟨y127, hy127⟩ : ∃ y_ : List ByteArray, y_ = (([(⟨#[40, 40, 41, 41]⟩ : ByteArray), (⟨#[40, 41, 40, 41]⟩ : ByteArray)] : List ByteArray)) := ⟨_, rfl⟩; replace H : (impl_TreeAll.j1 kj1 a0 y127) = some (r1, r2) := hR hy127 H; have Ny127 := Az hy127; clear hy127; have H' := Az H; clear H
      go_wp2_with (first | ((with_reducible refine gate_dst (N := 19) rfl ?_); refine Kd.R_lit Kd.string _ 9 ?hg (N := 19) ?hd (xs := ([(⟨#[40, 40, 41, 41]⟩ : ByteArray), (⟨#[40, 41, 40, 41]⟩ : ByteArray)] : List ByteArray)) (inner := [.string (⟨#[40, 40, 41, 41]⟩ : ByteArray), .string (⟨#[40, 41, 40, 41]⟩ : ByteArray)]) (ok := fun _ => True) (okp := fun _ => True) ?hr ?hp (fun _ hk => hk) trivial (Below.refl _ _) (Nat.le_refl _) (by simp) ?_; (case hd => rfl); (case hg => rfl); (case hr => first | (go_simp; done) | (go_simp; rfl)); (case hp => exact (Reps.one (show Kd.M Kd.string _ _ _ (⟨#[40, 40, 41, 41]⟩ : ByteArray) [.string (⟨#[40, 40, 41, 41]⟩ : ByteArray)] from rfl) (Reps.one (show Kd.M Kd.string _ _ _ (⟨#[40, 41, 40, 41]⟩ : ByteArray) [.string (⟨#[40, 41, 40, 41]⟩ : ByteArray)] from rfl) (Reps.none _ _)))); intro v128 w9 ho10 hb hg_ hnew_; clear hg_ hnew_; (first | rw [← Ny127.out] at ho10 | (simp only [Int.reduceToNat] at ho10; rw [← Ny127.out] at ho10)); have n0 := Az (Kd.R_elder' (rU HO126.out) (Kd.R_base ho10) hb); have n1 := Az (Kd.R_lower (Kd.R_new' ho10 (Kd.R_lt (rU HO126.out))) (below_size (bU0 HB.out))); have n2 := Az (below_step (bU0 HB.out) hb); clear HO126 HB; have HO126 := n0; have HO129 := n1; have HB := n2; clear n0 n1 n2; clear hb ho10))
      go_meet
      case rel => exact ⟨_, (y127), H', ⟨by have := HJ1.out; first | omega | exact Nat.le_refl _⟩, ⟨by (with_reducible repeat (first | apply Kd.R_alloc | apply Kd.R_drewN | apply Kd.R_drew)); exact Kd.R_mono HO129.out (fun _ hk => trivial)⟩, ⟨bU0 HB.out⟩⟩
     ·
      rw [if_neg c8] at H; have c8b0 := beq_eq_false_iff_ne.mpr c8; have c8b1 := bne_iff_ne.mpr c8; (first | rw [c8b0] | (simp only [i64_w, i32_w]; rw [c8b0]) | skip); have H' := Az H; clear H
      go_wp2
      go_meet
      case rel => exact ⟨_, (y124), H', ⟨by have := HJ1.out; first | omega | exact Nat.le_refl _⟩, ⟨rU HO126.out⟩, ⟨bU0 HB.out⟩⟩
    case rest =>
     clear HC5; (try clear p2); (try clear c3); (try clear c3b0); (try clear c4); (try clear c5); (try clear c8); (try clear c8b0); (try clear c8b1); (try clear p2); obtain ⟨kq, x4_4, HA, HJ4, HO_4, HB⟩ := hcut
     cases kq with
     | zero => exact absurd HA.out (by simp [impl_TreeAll.j1])
     | succ kj4 =>
      have H := HA.out; clear HA; simp only [impl_TreeAll.j1] at H; obtain ⟨y130, hy130⟩ : ∃ y_ : List (S31), y_ = (([] : List (S31))) := ⟨_, rfl⟩; replace H : (impl_TreeAll.l0 kj4 a0 y130 x4_4 (x4_4.length : Int) 0) = some (r1, r2) := hR hy130 H; have Ny130 := Az hy130; clear hy130; have H' := Az H; clear H
      go_wp2_with (first | ((with_reducible refine gate_dst (N := 20) rfl ?_); refine Kd.S_lit k31 _ 31 ?hg (N := 20) ?hd (xs := ([] : List (S31))) (inner := []) (ok := fun _ => True) (okp := fun _ => True) ?hr ?hp (fun _ hk => hk) trivial (Below.refl _ _) (Nat.le_refl _) (by simp) ?_; (case hd => rfl); (case hg => rfl); (case hr => first | (go_simp; done) | (go_simp; rfl)); (case hp => exact (Reps.none _ _)); intro v131 w11 ho12 hb hg_ hnew_; clear hg_ hnew_; (first | rw [← Ny130.out] at ho12 | (simp only [Int.reduceToNat] at ho12; rw [← Ny130.out] at ho12)); have n0 := Az (Kd.R_below (rU HO_4.out) hb); have n1 := Az (Kd.S_lower ho12 (below_size (bU0 HB.out))); have n2 := Az (below_step (bU0 HB.out) hb); clear HO_4 HB; have HO_4 := n0; have HO132 := n1; have HB := n2; clear n0 n1 n2 hb ho12; obtain ⟨Ao13, co13, eo13⟩ := Kd.R_slice HO_4.out; subst eo13))
      go_loopg [5, 23] kj4 (fun kq v5 v23 w' => ∃ (x5_3 : List (S31)) (x23_3 : Int), v23 = .int .i64 x23_3 ∧ Aside0 (impl_TreeAll.l0 kq a0 x5_3 x4_4 (x4_4.length : Int) x23_3 = some (r1, r2)) ∧ Aside0 (kq ≤ kj4) ∧ Aside0 (Kd.S k31 31 w' w.heap.size (fun _ => True) v5 x5_3) ∧ Aside0 (Kd.R Kd.string 9 w' w.heap.size (fun _ => True) (.slice Ao13 x4_4.length co13) x4_4) ∧ Aside0 (Below w.heap.size w w'))
      case atStart => exact ⟨(y130), (0), rS, H', ⟨Nat.le_refl _⟩, ⟨sU HO132.out⟩, ⟨rU HO_4.out⟩, ⟨bU0 HB.out⟩⟩
      case round =>
       clear H'; (try clear p2); (try clear c3); (try clear c3b0); (try clear c4); (try clear c5); (try clear c8); (try clear c8b0); (try clear c8b1); (try clear p2); obtain ⟨x5_3, x23_3, rfl, HA, HK3, HO_5, HO_21, HB⟩ := hrel
       cases gk with
       | zero => exact absurd HA.out (by simp [impl_TreeAll.l0])
       | succ k3 =>
        have H := HA.out; clear HA; simp only [impl_TreeAll.l0] at H
        by_cases c14 : x23_3 < (x4_4.length : Int)
        ·
         rw [if_pos c14] at H; have c14b0 := decide_eq_true c14; clear c14
         by_cases c15 : 0 ≤ x23_3
         ·
          rw [if_pos c15] at H; have c15b0 := decide_eq_true c15; clear c15
          by_cases c16 : x23_3 < (x4_4.length : Int)
          ·
           rw [if_pos c16] at H; have c16b0 := decide_eq_true c16; clear c16; have H' := Az H; clear H; have p133 : 0 ≤ (x23_3 : Int) := oA; have q133 : x23_3 < (x4_4.length : Int) := oA; obtain ⟨ad133, e133, hx133_0⟩ := Kd.at_string (Kd.R_reads' HO_21.out).2.2 x23_3 p133 q133
           cases e133
           replace p133 := eq_true p133; replace q133 := eq_true q133
           go_wp2
           go_loopg [5, 8] k3 (fun kq v5 v8 w' => ∃ (x5_4 : List (S31)) (x8_4 : Int), v8 = .int .i64 x8_4 ∧ Aside0 (impl_TreeAll.l1 kq a0 x5_4 (rdOf ByteArray.empty x4_4 x23_3) x8_4 x4_4 (x4_4.length : Int) x23_3 = some (r1, r2)) ∧ Aside0 (kq ≤ k3) ∧ Aside0 (Kd.S k31 31 w' w.heap.size (fun _ => True) v5 x5_4) ∧ Aside0 (Kd.R Kd.string 9 w' w.heap.size (fun _ => True) (.slice (some ad133) x4_4.length co13) x4_4) ∧ Aside0 (Below w.heap.size w w'))
           case atStart => exact ⟨(x5_3), ((-1)), rS, H', ⟨Nat.le_refl _⟩, ⟨sU HO_5.out⟩, ⟨rU HO_21.out⟩, ⟨bU0 HB.out⟩⟩
           case round =>
            clear H'; (try clear c1); (try clear p1); (try clear q1); (try clear hx1); (try clear p2); (try clear c3); (try clear c3b0); (try clear c4); (try clear c5); (try clear c8); (try clear c8b0); (try clear c8b1); (try clear p13); (try clear q13); (try clear hx13); (try clear c14); (try clear c14b0); (try clear c15); (try clear c15b0); (try clear c16); (try clear c16b0); (try clear hx133_0); (try clear p133); (try clear p2); (try clear q133); obtain ⟨x5_4, x8_4, rfl, HA, HK4, HO_5, HO_21, HB⟩ := hrel
            cases gk with
            | zero => exact absurd HA.out (by simp [impl_TreeAll.l1])
            | succ k4 =>
             have H := HA.out; clear HA; simp only [impl_TreeAll.l1] at H
             by_cases c17 : x8_4 ≤ 1
             ·
              rw [if_pos c17] at H; have c17b0 := decide_eq_true c17; clear c17
              by_cases c18 : a0 = 1
              ·
               rw [if_pos c18] at H; have c18b0 := beq_iff_eq.mpr c18; have c18b1 := bne_eq_false_iff_eq.mpr c18; clear c18; obtain ⟨y134, hy134⟩ : ∃ y_ : List Int, y_ = (([x8_4] : List Int)) := ⟨_, rfl⟩; replace H : (if x5_4.length < 3518437208883 then (impl_TreeAll.l1 k4 a0 (x5_4 ++ [(⟨(rdOf ByteArray.empty x4_4 x23_3), y134⟩ : S31)]) (rdOf ByteArray.empty x4_4 x23_3) (wrap64 (x8_4 + 1)) x4_4 (x4_4.length : Int) x23_3) else (none)) = some (r1, r2) := hR hy134 H; have Ny134 := Az hy134; clear hy134
               by_cases c19 : x5_4.length < 3518437208883
               ·
                rw [if_pos c19] at H; have LMc19 := Az c19; clear c19; obtain ⟨y137, hy137⟩ : ∃ y_ : List (S31), y_ = (x5_4 ++ [(⟨(rdOf ByteArray.empty x4_4 x23_3), y134⟩ : S31)]) := ⟨_, rfl⟩; replace H : (impl_TreeAll.l1 k4 a0 y137 (rdOf ByteArray.empty x4_4 x23_3) (wrap64 (x8_4 + 1)) x4_4 (x4_4.length : Int) x23_3) = some (r1, r2) := hR hy137 H; have Ny137 := Az hy137; clear hy137; have H' := Az H; clear H
                go_wp2_with (first | ((with_reducible refine gate_dst (N := 36) rfl ?_); refine Kd.R_lit (Kd.int .i64) _ 3 ?hg (N := 36) ?hd (xs := ([x8_4] : List Int)) (inner := [.int .i64 x8_4]) (ok := fun _ => True) (okp := fun _ => True) ?hr ?hp (fun _ hk => hk) trivial (Below.refl _ _) (Nat.le_refl _) (by simp) ?_; (case hd => rfl); (case hg => rfl); (case hr => first | (go_simp; done) | (go_simp; rfl)); (case hp => exact (Reps.one (show Kd.M (Kd.int .i64) _ _ _ x8_4 [.int .i64 x8_4] from rfl) (Reps.none _ _))); intro v135 w20 ho21 hb hg_ hnew_; clear hg_ hnew_; (first | rw [← Ny134.out] at ho21 | (simp only [Int.reduceToNat] at ho21; rw [← Ny134.out] at ho21)); have n0 := Az (Kd.S_elder' (sU HO_5.out) (Kd.R_base ho21) hb); have n1 := Az (Kd.R_below (rU HO_21.out) hb); have n2 := Az (Kd.R_lower ho21 (below_size (bU0 HB.out))); have n3 := Az (below_step (bU0 HB.out) hb); clear HO_5 HO_21 HB; have HO_5 := n0; have HO_21 := n1; have HO136 := n2; have HB := n3; clear n0 n1 n2 n3 hb ho21; obtain ⟨Ao22, co22, eo22⟩ := Kd.R_slice HO136.out; subst eo22) | ((with_reducible refine gate_builtin (b := .append) (xs := #[.tmp 33, .tmp 38]) rfl ?_); at_builtin; refine Kd.S_append k31 (w0 := w) w.heap.size rfl (.tmp 33) (.tmp 38) 22 31 (.agg #[(.string ⟨#[]⟩), (.slice none 0 0)]) 40 rfl Try.underlying22 info31 rfl (by decide) (by omega) u5 x5_4 (⟨(rdOf ByteArray.empty x4_4 x23_3), y134⟩ : S31) [.string (rdOf ByteArray.empty x4_4 x23_3), .slice Ao22 y134.length co22] (fun _ => True) (fun k_ => some k_ = (.slice Ao22 y134.length co22 : Value).ownBlock) rfl rfl ?aP (fun k_ hk_ => ((Kd.R_mono (ok' := fun k_ => ((fun _ => True)) k_ ∧ some k_ ≠ (u5 : Value).ownBlock) (Kd.R_apart' (HO136.out) (Kd.S_typed HO_5.out) (by decide)) (fun k_ hk => ⟨trivial, hk.2⟩))).1 k_ hk_.symm) ?aF ?aO ?aB ?aS ?aL ?_; (case aP => exact k31_mkM _ _ _ (⟨(rdOf ByteArray.empty x4_4 x23_3), y134⟩ : S31) (Kd.R_mono (Kd.R_tight rfl (Kd.R_mono (ok' := fun k_ => ((fun _ => True)) k_ ∧ some k_ ≠ (u5 : Value).ownBlock) (Kd.R_apart' (HO136.out) (Kd.S_typed HO_5.out) (by decide)) (fun k_ hk => ⟨trivial, hk.2⟩))) (fun _ h_ => h_))); (case aB => exact (bU0 HB.out)); (case aF => exact (fun _ _ => trivial)); (case aO => exact (by (with_reducible repeat (first | apply Kd.S_alloc | apply Kd.S_drewN | apply Kd.S_drew)); exact Kd.S_mono HO_5.out (fun k_ hk => ⟨trivial, fun e_ => hk.2 e_⟩))); (case aS => exact (below_size (bU0 HB.out))); (case aL => have := LMc19.out; omega); intro v138 w23 ho hb hg hat; rw [← Ny137.out] at ho; have n0 := Az (Kd.R_over' (rU HO_21.out) (Kd.S_typed (sU HO_5.out)) (by decide) hg); have n1 := Az (hb); have n2 := Az (ho); clear HO_21 HB HO_5 HO136; have HO_21 := n0; have HB := n1; have HO139 := n2; clear n0 n1 n2; clear ho hb hg hat))
                (first | go_roundg k4 | (refine Handed.intro k4 ?measure ?_; rotate_left; go_step; (try simp only [add_plain]); (repeat apply Exists.intro); refine ⟨?rel, rfl⟩))
                case measure => have := HJ1.out; have := HJ4.out; have := HK3.out; have := HK4.out; omega
                case rel => exact ⟨(y137), (wrap64 (x8_4 + 1)), rS, H', ⟨by have := HJ1.out; have := HJ4.out; have := HK3.out; have := HK4.out; omega⟩, ⟨sU HO139.out⟩, ⟨rU HO_21.out⟩, ⟨bU0 HB.out⟩⟩
               ·
                rw [if_neg c19] at H
                exact absurd H (by simp)
              ·
               rw [if_neg c18] at H; have c18b0 := beq_eq_false_iff_ne.mpr c18; have c18b1 := bne_iff_ne.mpr c18; have H' := Az H; clear H
               go_wp2
               go_loopg [5, 9] k4 (fun kq v5 v9 w' => ∃ (x5_5 : List (S31)) (x9_5 : Int), v9 = .int .i64 x9_5 ∧ Aside0 (impl_TreeAll.l2 kq a0 x5_5 (rdOf ByteArray.empty x4_4 x23_3) x8_4 x9_5 x4_4 (x4_4.length : Int) x23_3 = some (r1, r2)) ∧ Aside0 (kq ≤ k4) ∧ Aside0 (Kd.S k31 31 w' w.heap.size (fun _ => True) v5 x5_5) ∧ Aside0 (Kd.R Kd.string 9 w' w.heap.size (fun _ => True) (.slice (some ad133) x4_4.length co13) x4_4) ∧ Aside0 (Below w.heap.size w w'))
               case atStart => exact ⟨(x5_4), ((-1)), rS, H', ⟨Nat.le_refl _⟩, ⟨sU HO_5.out⟩, ⟨rU HO_21.out⟩, ⟨bU0 HB.out⟩⟩
               case round =>
                clear H'; (try clear c1); (try clear p1); (try clear q1); (try clear hx1); (try clear p2); (try clear c3); (try clear c3b0); (try clear c4); (try clear c5); (try clear p6); (try clear c8); (try clear c8b0); (try clear c8b1); (try clear p13); (try clear q13); (try clear hx13); (try clear c14); (try clear c14b0); (try clear c15); (try clear c15b0); (try clear c16); (try clear c16b0); (try clear c17); (try clear c17b0); (try clear c18); (try clear c18b0); (try clear c18b1); (try clear c19); (try clear hx133_0); (try clear p1); (try clear p13); (try clear p133); (try clear p2); (try clear q1); (try clear q13); (try clear q133); obtain ⟨x5_5, x9_5, rfl, HA, HK5, HO_5, HO_21, HB⟩ := hrel
                cases gk with
                | zero => exact absurd HA.out (by simp [impl_TreeAll.l2])
                | succ k5 =>
                 have H := HA.out; clear HA; simp only [impl_TreeAll.l2] at H
                 by_cases c24 : x9_5 ≤ 1
                 ·
                  rw [if_pos c24] at H; have c24b0 := decide_eq_true c24; clear c24; obtain ⟨y140, hy140⟩ : ∃ y_ : List Int, y_ = (([x8_4, x9_5] : List Int)) := ⟨_, rfl⟩; replace H : (if x5_5.length < 3518437208883 then (impl_TreeAll.l2 k5 a0 (x5_5 ++ [(⟨(rdOf ByteArray.empty x4_4 x23_3), y140⟩ : S31)]) (rdOf ByteArray.empty x4_4 x23_3) x8_4 (wrap64 (x9_5 + 1)) x4_4 (x4_4.length : Int) x23_3) else (none)) = some (r1, r2) := hR hy140 H; have Ny140 := Az hy140; clear hy140
                  by_cases c25 : x5_5.length < 3518437208883
                  ·
                   rw [if_pos c25] at H; have LMc25 := Az c25; clear c25; obtain ⟨y143, hy143⟩ : ∃ y_ : List (S31), y_ = (x5_5 ++ [(⟨(rdOf ByteArray.empty x4_4 x23_3), y140⟩ : S31)]) := ⟨_, rfl⟩; replace H : (impl_TreeAll.l2 k5 a0 y143 (rdOf ByteArray.empty x4_4 x23_3) x8_4 (wrap64 (x9_5 + 1)) x4_4 (x4_4.length : Int) x23_3) = some (r1, r2) := hR hy143 H; have Ny143 := Az hy143; clear hy143; have H' := Az H; clear H
                   go_wp2_with (first | ((with_reducible refine gate_dst (N := 48) rfl ?_); refine Kd.R_lit (Kd.int .i64) _ 3 ?hg (N := 48) ?hd (xs := ([x8_4, x9_5] : List Int)) (inner := [.int .i64 x8_4, .int .i64 x9_5]) (ok := fun _ => True) (okp := fun _ => True) ?hr ?hp (fun _ hk => hk) trivial (Below.refl _ _) (Nat.le_refl _) (by simp) ?_; (case hd => rfl); (case hg => rfl); (case hr => first | (go_simp; done) | (go_simp; rfl)); (case hp => exact (Reps.one (show Kd.M (Kd.int .i64) _ _ _ x8_4 [.int .i64 x8_4] from rfl) (Reps.one (show Kd.M (Kd.int .i64) _ _ _ x9_5 [.int .i64 x9_5] from rfl) (Reps.none _ _)))); intro v141 w26 ho27 hb hg_ hnew_; clear hg_ hnew_; (first | rw [← Ny140.out] at ho27 | (simp only [Int.reduceToNat] at ho27; rw [← Ny140.out] at ho27)); have n0 := Az (Kd.S_elder' (sU HO_5.out) (Kd.R_base ho27) hb); have n1 := Az (Kd.R_below (rU HO_21.out) hb); have n2 := Az (Kd.R_lower ho27 (below_size (bU0 HB.out))); have n3 := Az (below_step (bU0 HB.out) hb); clear HO_5 HO_21 HB; have HO_5 := n0; have HO_21 := n1; have HO142 := n2; have HB := n3; clear n0 n1 n2 n3 hb ho27; obtain ⟨Ao28, co28, eo28⟩ := Kd.R_slice HO142.out; subst eo28) | ((with_reducible refine gate_builtin (b := .append) (xs := #[.tmp 44, .tmp 50]) rfl ?_); at_builtin; refine Kd.S_append k31 (w0 := w) w.heap.size rfl (.tmp 44) (.tmp 50) 22 31 (.agg #[(.string ⟨#[]⟩), (.slice none 0 0)]) 40 rfl Try.underlying22 info31 rfl (by decide) (by omega) u5 x5_5 (⟨(rdOf ByteArray.empty x4_4 x23_3), y140⟩ : S31) [.string (rdOf ByteArray.empty x4_4 x23_3), .slice Ao28 y140.length co28] (fun _ => True) (fun k_ => some k_ = (.slice Ao28 y140.length co28 : Value).ownBlock) rfl rfl ?aP (fun k_ hk_ => ((Kd.R_mono (ok' := fun k_ => ((fun _ => True)) k_ ∧ some k_ ≠ (u5 : Value).ownBlock) (Kd.R_apart' (HO142.out) (Kd.S_typed HO_5.out) (by decide)) (fun k_ hk => ⟨trivial, hk.2⟩))).1 k_ hk_.symm) ?aF ?aO ?aB ?aS ?aL ?_; (case aP => exact k31_mkM _ _ _ (⟨(rdOf ByteArray.empty x4_4 x23_3), y140⟩ : S31) (Kd.R_mono (Kd.R_tight rfl (Kd.R_mono (ok' := fun k_ => ((fun _ => True)) k_ ∧ some k_ ≠ (u5 : Value).ownBlock) (Kd.R_apart' (HO142.out) (Kd.S_typed HO_5.out) (by decide)) (fun k_ hk => ⟨trivial, hk.2⟩))) (fun _ h_ => h_))); (case aB => exact (bU0 HB.out)); (case aF => exact (fun _ _ => trivial)); (case aO => exact (by (with_reducible repeat (first | apply Kd.S_alloc | apply Kd.S_drewN | apply Kd.S_drew)); exact Kd.S_mono HO_5.out (fun k_ hk => ⟨trivial, fun e_ => hk.2 e_⟩))); (case aS => exact (below_size (bU0 HB.out))); (case aL => have := LMc25.out; omega); intro v144 w29 ho hb hg hat; rw [← Ny143.out] at ho; have n0 := Az (Kd.R_over' (rU HO_21.out) (Kd.S_typed (sU HO_5.out)) (by decide) hg); have n1 := Az (hb); have n2 := Az (ho); clear HO_21 HB HO_5 HO142; have HO_21 := n0; have HB := n1; have HO145 := n2; clear n0 n1 n2; clear ho hb hg hat))
                   (first | go_roundg k5 | (refine Handed.intro k5 ?measure ?_; rotate_left; go_step; (try simp only [add_plain]); (repeat apply Exists.intro); refine ⟨?rel, rfl⟩))
                   case measure => have := HJ1.out; have := HJ4.out; have := HK3.out; have := HK4.out; have := HK5.out; omega
                   case rel => exact ⟨(y143), (wrap64 (x9_5 + 1)), rS, H', ⟨by have := HJ1.out; have := HJ4.out; have := HK3.out; have := HK4.out; have := HK5.out; omega⟩, ⟨sU HO145.out⟩, ⟨rU HO_21.out⟩, ⟨bU0 HB.out⟩⟩
                  ·
                   rw [if_neg c25] at H
                   exact absurd H (by simp)
                 ·
                  rw [if_neg c24] at H; have c24b0 := decide_eq_false c24; clear c24; have H' := Az H; clear H
                  go_wp2
                  (first | go_roundg k5 | (refine Handed.intro k5 ?measure ?_; rotate_left; go_step; (try simp only [add_plain]); (repeat apply Exists.intro); refine ⟨?rel, rfl⟩))
                  case measure => have := HJ1.out; have := HJ4.out; have := HK3.out; have := HK4.out; have := HK5.out; omega
                  case rel => exact ⟨(x5_5), (wrap64 (x8_4 + 1)), rS, H', ⟨by have := HJ1.out; have := HJ4.out; have := HK3.out; have := HK4.out; have := HK5.out; omega⟩, ⟨sU HO_5.out⟩, ⟨rU HO_21.out⟩, ⟨bU0 HB.out⟩⟩
             ·
              rw [if_neg c17] at H; have c17b0 := decide_eq_false c17; clear c17; have H' := Az H; clear H
              go_wp2
              (first | go_roundg k4 | (refine Handed.intro k4 ?measure ?_; rotate_left; go_step; (try simp only [add_plain]); (repeat apply Exists.intro); refine ⟨?rel, rfl⟩))
              case measure => have := HJ1.out; have := HJ4.out; have := HK3.out; have := HK4.out; omega
              case rel => exact ⟨(x5_4), (wrap64 (x23_3 + 1)), rS, H', ⟨by have := HJ1.out; have := HJ4.out; have := HK3.out; have := HK4.out; omega⟩, ⟨sU HO_5.out⟩, ⟨rU HO_21.out⟩, ⟨bU0 HB.out⟩⟩
          ·
           rw [if_neg c16] at H
           exact absurd H (by simp)
         ·
          rw [if_neg c15] at H
          exact absurd H (by simp)
        ·
         rw [if_neg c14] at H; have c14b0 := decide_eq_false c14; clear c14; simp only [Option.some.injEq, Prod.mk.injEq] at H; obtain ⟨rfl, rfl⟩ := H
         go_wp2
         go_ret2
         exact ⟨_, rE, sU HO_5.out, bU0 HB.out⟩
def laws_eqIntS.l0 : Nat → List Int → List Int → Int → Option (Bool)
 | 0, _, _, _ => none
 | k + 1, x0, x1, x5 => if x5 < (x0.length : Int) then (if 0 ≤ x5 then (if x5 < (x1.length : Int) then (if (rd x0 x5) = (rd x1 x5) then (laws_eqIntS.l0 k x0 x1 (wrap64 (x5 + 1))) else (some false)) else (none)) else (none)) else (some true)
def laws_eqIntS.f (k : Nat) (l0 : List Int) (l1 : List Int) : Option (Bool) := if (l0.length : Int) = (l1.length : Int) then (laws_eqIntS.l0 k l0 l1 0) else (some false)
set_option maxHeartbeats 8000000 in
set_option maxRecDepth 100000 in
theorem laws_eqIntS.calls (k : Nat) (A0 : Option Addr) (c0 : Nat) (l0 : List Int) (A1 : Option Addr) (c1 : Nat) (l1 : List Int) (r : Bool) (w : World) (hr0 : Kd.C (Kd.int .i64) w A0 l0.length l0) (hc0 : l0.length ≤ c0) (hr1 : Kd.C (Kd.int .i64) w A1 l1.length l1) (hc1 : l1.length ≤ c1) (h : laws_eqIntS.f k l0 l1 = some r) :
  Calls Try.prog 13 #[.slice A0 l0.length c0, .slice A1 l1.length c1] w fun e w' => e = .returned (.bool r) ∧ Drawn0 w w' := by
 have HR0 := Az hr0; have HC0 := Az hc0; clear hr0 hc0; have HR1 := Az hr1; have HC1 := Az hc1; clear hr1 hc1; have H : (if (l0.length : Int) = (l1.length : Int) then (laws_eqIntS.l0 k l0 l1 0) else (some false)) = some r := h; clear h
 by_cases c3 : (l0.length : Int) = (l1.length : Int)
 ·
  rw [if_pos c3] at H; have c3b0 := beq_iff_eq.mpr c3; have c3b1 := bne_eq_false_iff_eq.mpr c3
  have c3b2 : (l0.length == l1.length) = true := by first | simpa using c3 | (simp at c3 ⊢; omega)
  clear c3; have H' := Az H; clear H
  go_enter Try.func13, Try.ntmps13
  go_wp2
  repeat (go_quiet (fail); try go_wp2)
  go_loopg [5] k (fun kq v5 w' => ∃ (x5_1 : Int), v5 = .int .i64 x5_1 ∧ Aside0 (laws_eqIntS.l0 kq l0 l1 x5_1 = some r) ∧ Aside0 (kq ≤ k) ∧ Drawn0 w w')
  case atStart => exact ⟨(0), rS, H', ⟨Nat.le_refl _⟩, by repeat (first | exact Drawn0.refl _ | apply Drawn0.step)⟩
  case round =>
   clear H'; (try clear c1); (try clear p2); (try clear c3); (try clear c3b0); (try clear c3b1); (try clear c3b2); obtain ⟨x5_1, rfl, HA, HK1, ⟨m1, rfl⟩⟩ := hrel
   cases gk with
   | zero => exact absurd HA.out (by simp [laws_eqIntS.l0])
   | succ k1 =>
    have H := HA.out; clear HA; simp only [laws_eqIntS.l0] at H
    by_cases c4 : x5_1 < (l0.length : Int)
    ·
     rw [if_pos c4] at H; have c4b0 := decide_eq_true c4; clear c4
     by_cases c5 : 0 ≤ x5_1
     ·
      rw [if_pos c5] at H; have c5b0 := decide_eq_true c5; clear c5
      by_cases c6 : x5_1 < (l1.length : Int)
      ·
       rw [if_pos c6] at H; have c6b0 := decide_eq_true c6; clear c6
       by_cases c7 : (rd l0 x5_1) = (rd l1 x5_1)
       ·
        rw [if_pos c7] at H; have c7b0 := beq_iff_eq.mpr c7; have c7b1 := bne_eq_false_iff_eq.mpr c7; clear c7; have H' := Az H; clear H; have p146 : 0 ≤ (x5_1 : Int) := oA; have q146 : x5_1 < (l0.length : Int) := oA; obtain ⟨ad146, e146, hx146_0⟩ := Kd.at_int HR0.out x5_1 p146 q146
        cases e146
        replace p146 := eq_true p146; replace q146 := eq_true q146; have p147 : 0 ≤ (x5_1 : Int) := oA; have q147 : x5_1 < (l1.length : Int) := oA; obtain ⟨ad147, e147, hx147_0⟩ := Kd.at_int HR1.out x5_1 p147 q147
        cases e147
        replace p147 := eq_true p147; replace q147 := eq_true q147
        go_wp2
        repeat (go_quiet (fail); try go_wp2)
        (first | go_roundg k1 | (refine Handed.intro k1 ?measure ?_; rotate_left; go_step; (try simp only [add_plain]); (repeat apply Exists.intro); refine ⟨?rel, rfl⟩))
        case measure => have := HK1.out; omega
        case rel => exact ⟨(wrap64 (x5_1 + 1)), rS, H', ⟨by have := HK1.out; omega⟩, by repeat (first | exact Drawn0.refl _ | apply Drawn0.step)⟩
       ·
        rw [if_neg c7] at H; have c7b0 := beq_eq_false_iff_ne.mpr c7; have c7b1 := bne_iff_ne.mpr c7; obtain rfl := Option.some.inj H; have p146 : 0 ≤ (x5_1 : Int) := oA; have q146 : x5_1 < (l0.length : Int) := oA; obtain ⟨ad146, e146, hx146_0⟩ := Kd.at_int HR0.out x5_1 p146 q146
        cases e146
        replace p146 := eq_true p146; replace q146 := eq_true q146; have p147 : 0 ≤ (x5_1 : Int) := oA; have q147 : x5_1 < (l1.length : Int) := oA; obtain ⟨ad147, e147, hx147_0⟩ := Kd.at_int HR1.out x5_1 p147 q147
        cases e147
        replace p147 := eq_true p147; replace q147 := eq_true q147
        go_wp2
        repeat (go_quiet (fail); try go_wp2)
        go_ret
        exact ⟨by first | rfl | (simp; done) | (simp [*]; done), by repeat (first | exact Drawn0.refl _ | apply Drawn0.step)⟩
      ·
       rw [if_neg c6] at H
       exact absurd H (by simp)
     ·
      rw [if_neg c5] at H
      exact absurd H (by simp)
    ·
     rw [if_neg c4] at H; have c4b0 := decide_eq_false c4; clear c4; obtain rfl := Option.some.inj H
     go_wp2
     repeat (go_quiet (fail); try go_wp2)
     go_ret
     exact ⟨by first | rfl | (simp; done) | (simp [*]; done), by repeat (first | exact Drawn0.refl _ | apply Drawn0.step)⟩
 ·
  rw [if_neg c3] at H; have c3b0 := beq_eq_false_iff_ne.mpr c3; have c3b1 := bne_iff_ne.mpr c3
  have c3b2 : (l0.length == l1.length) = false := by first | simpa using c3 | (simp at c3 ⊢; omega)
  obtain rfl := Option.some.inj H
  go_enter Try.func13, Try.ntmps13
  go_wp2
  repeat (go_quiet (fail); try go_wp2)
  go_ret
  exact ⟨by first | rfl | (simp; done) | (simp [*]; done), by repeat (first | exact Drawn0.refl _ | apply Drawn0.step)⟩
def laws_eqTree.f (k : Nat) (a0_0 : ByteArray) (l0_1 : List Int) (a1_0 : ByteArray) (l1_1 : List Int) : Option (Bool) := if a0_0.toList = a1_0.toList then ((laws_eqIntS.f k l0_1 l1_1).bind fun t150 => (if t150 = true then (some true) else (some false))) else (some false)
set_option maxHeartbeats 8000000 in
set_option maxRecDepth 100000 in
theorem laws_eqTree.calls (k : Nat) (a0_0 : ByteArray) (A0_1 : Option Addr) (c0_1 : Nat) (l0_1 : List Int) (a1_0 : ByteArray) (A1_1 : Option Addr) (c1_1 : Nat) (l1_1 : List Int) (r : Bool) (w : World) (hr0_1 : Kd.C (Kd.int .i64) w A0_1 l0_1.length l0_1) (hc0_1 : l0_1.length ≤ c0_1) (hr1_1 : Kd.C (Kd.int .i64) w A1_1 l1_1.length l1_1) (hc1_1 : l1_1.length ≤ c1_1) (h : laws_eqTree.f k a0_0 l0_1 a1_0 l1_1 = some r) :
  Calls Try.prog 9 #[.agg #[.string a0_0, .slice A0_1 l0_1.length c0_1], .agg #[.string a1_0, .slice A1_1 l1_1.length c1_1]] w fun e w' => e = .returned (.bool r) ∧ Below w.heap.size w w' := by
 have hu31 := Try.underlying31; have HR0_1 := Az hr0_1; have HC0_1 := Az hc0_1; clear hr0_1 hc0_1; have HR1_1 := Az hr1_1; have HC1_1 := Az hc1_1; clear hr1_1 hc1_1; have HB := Az (Below.refl w.heap.size w); have H : (if a0_0.toList = a1_0.toList then ((laws_eqIntS.f k l0_1 l1_1).bind fun t150 => (if t150 = true then (some true) else (some false))) else (some false)) = some r := h; clear h
 by_cases c3 : a0_0.toList = a1_0.toList
 ·
  rw [if_pos c3] at H; have c3b0 := beq_iff_eq.mpr c3; have c3b1 := bne_eq_false_iff_eq.mpr c3; clear c3; replace H := Option.bind_eq_some_iff.mp H; obtain ⟨t150, A40, H⟩ := H; replace H : (if t150 = true then (some true) else (some false)) = some r := H; have A4 := Az A40; clear A40
  by_cases c5 : t150 = true
  ·
   subst c5
   have H1 : (some true) = some r := by rw [if_pos rfl] at H; exact H
   clear H; have H := H1; clear H1; obtain rfl := Option.some.inj H
   go_enter Try.func9, Try.ntmps9
   go_wp2_with (first | ((with_reducible refine gate_dst (N := 2) rfl ?_); refine box_event ?hg (N := 2) ?hd (cs := #[.string a0_0, .slice A0_1 l0_1.length c0_1]) (t := 31) ?hr ?_; (case hd => rfl); (case hg => rfl); (case hr => first | (go_simp; done) | (go_simp; rfl)); intro gb148 hg w6 hbox hb; have n0 := Az (below_step (bU0 HB.out) hb); have n1 := Az (hbox); have n2 := Az ((by rw [hg]; exact (below_size (bU0 HB.out)) : w.heap.size ≤ gb148)); have n3 := n2; clear HB; have HB := n0; have BK148 := n1; have GW148 := n2; have GE148 := n3; clear n0 n1 n2 n3; clear hb hbox hg) | ((with_reducible refine gate_dst (N := 3) rfl ?_); refine box_event ?hg (N := 3) ?hd (cs := #[.string a1_0, .slice A1_1 l1_1.length c1_1]) (t := 31) ?hr ?_; (case hd => rfl); (case hg => rfl); (case hr => first | (go_simp; done) | (go_simp; rfl)); intro gb149 hg w7 hbox hb; have n0 := Az (blk_below (g := gb148) (o := .cells #[.string a0_0, .slice A0_1 l0_1.length c0_1] 31 (0, 0)) (kU BK148.out) hb); have n1 := Az (below_step (bU1 HB.out GE148.out) hb); have n2 := Az (hbox); have n3 := Az ((by rw [hg]; exact (below_size (bU1 HB.out GE148.out)) : w.heap.size ≤ gb149)); have n4 := n3; have n5 := Az ((by rw [hg]; exact Nat.ne_of_lt (blk_lt (g := gb148) (o := .cells #[.string a0_0, .slice A0_1 l0_1.length c0_1] 31 (0, 0)) (kU BK148.out)) : gb148 ≠ gb149)); have n6 := Az ((by rw [hg]; exact Nat.ne_of_gt (blk_lt (g := gb148) (o := .cells #[.string a0_0, .slice A0_1 l0_1.length c0_1] 31 (0, 0)) (kU BK148.out)) : gb149 ≠ gb148)); clear BK148 HB; have BK148 := n0; have HB := n1; have BK149 := n2; have GW149 := n3; have GE149 := n4; have NB148_149 := n5; have NB149_148 := n6; clear n0 n1 n2 n3 n4 n5 n6 hb hbox hg; have hnb8 := NB148_149.out; have hnc8 := NB149_148.out; have hcz9_0 : w7.cell? ⟨gb148, 0, none⟩ = some (.string a0_0) := (blk_cell BK148.out 0).trans rfl; have hcz9_1 : w7.cell? ⟨gb148, 1, none⟩ = some (.slice A0_1 l0_1.length c0_1) := (blk_cell BK148.out 1).trans rfl; have hfz9_0 := blk_frozen BK148.out 0; have hfz9_1 := blk_frozen BK148.out 1; have hcz10_0 : w7.cell? ⟨gb149, 0, none⟩ = some (.string a1_0) := (blk_cell BK149.out 0).trans rfl; have hcz10_1 : w7.cell? ⟨gb149, 1, none⟩ = some (.slice A1_1 l1_1.length c1_1) := (blk_cell BK149.out 1).trans rfl; have hfz10_0 := blk_frozen BK149.out 0; have hfz10_1 := blk_frozen BK149.out 1) | ((with_reducible refine gate_callee (f := 13) rfl ?_); refine goesL_ (some 14) rfl rfl Try.func13 (by kernel_rfl) rfl #[.slice A0_1 l0_1.length c0_1, .slice A1_1 l1_1.length c1_1] rfl (by (try simp only [List.map_toArray, List.map_cons, List.map_nil]); first | done | rfl | (simp only [List.length_drop, List.length_take]; rfl)) ?_; (with_reducible refine (laws_eqIntS.calls k _ _ l0_1 _ _ l1_1 true _ ?side1 ?side2 ?side3 ?side4 A4.out).mono ?_); (case side1 => exact cU (Kd.C_below HR0_1.out HB.out)); (case side2 => exact HC0_1.out); (case side3 => exact cU (Kd.C_below HR1_1.out HB.out)); (case side4 => exact HC1_1.out); rintro e w' ⟨rfl, ⟨nd, rfl⟩⟩; refine ⟨_, rfl, ?_⟩))
   go_ret
   exact ⟨rE, bU2 HB.out GE148.out GE149.out⟩
  ·
   replace c5 := Bool.eq_false_iff.mpr c5; subst c5
   have H1 : (some false) = some r := by rw [if_neg (show ¬ (false = true) by decide)] at H; exact H
   clear H; have H := H1; clear H1; obtain rfl := Option.some.inj H
   go_enter Try.func9, Try.ntmps9
   go_wp2_with (first | ((with_reducible refine gate_dst (N := 2) rfl ?_); refine box_event ?hg (N := 2) ?hd (cs := #[.string a0_0, .slice A0_1 l0_1.length c0_1]) (t := 31) ?hr ?_; (case hd => rfl); (case hg => rfl); (case hr => first | (go_simp; done) | (go_simp; rfl)); intro gb148 hg w11 hbox hb; have n0 := Az (below_step (bU0 HB.out) hb); have n1 := Az (hbox); have n2 := Az ((by rw [hg]; exact (below_size (bU0 HB.out)) : w.heap.size ≤ gb148)); have n3 := n2; clear HB; have HB := n0; have BK148 := n1; have GW148 := n2; have GE148 := n3; clear n0 n1 n2 n3; clear hb hbox hg) | ((with_reducible refine gate_dst (N := 3) rfl ?_); refine box_event ?hg (N := 3) ?hd (cs := #[.string a1_0, .slice A1_1 l1_1.length c1_1]) (t := 31) ?hr ?_; (case hd => rfl); (case hg => rfl); (case hr => first | (go_simp; done) | (go_simp; rfl)); intro gb149 hg w12 hbox hb; have n0 := Az (blk_below (g := gb148) (o := .cells #[.string a0_0, .slice A0_1 l0_1.length c0_1] 31 (0, 0)) (kU BK148.out) hb); have n1 := Az (below_step (bU1 HB.out GE148.out) hb); have n2 := Az (hbox); have n3 := Az ((by rw [hg]; exact (below_size (bU1 HB.out GE148.out)) : w.heap.size ≤ gb149)); have n4 := n3; have n5 := Az ((by rw [hg]; exact Nat.ne_of_lt (blk_lt (g := gb148) (o := .cells #[.string a0_0, .slice A0_1 l0_1.length c0_1] 31 (0, 0)) (kU BK148.out)) : gb148 ≠ gb149)); have n6 := Az ((by rw [hg]; exact Nat.ne_of_gt (blk_lt (g := gb148) (o := .cells #[.string a0_0, .slice A0_1 l0_1.length c0_1] 31 (0, 0)) (kU BK148.out)) : gb149 ≠ gb148)); clear BK148 HB; have BK148 := n0; have HB := n1; have BK149 := n2; have GW149 := n3; have GE149 := n4; have NB148_149 := n5; have NB149_148 := n6; clear n0 n1 n2 n3 n4 n5 n6 hb hbox hg; have hnb13 := NB148_149.out; have hnc13 := NB149_148.out; have hcz14_0 : w12.cell? ⟨gb148, 0, none⟩ = some (.string a0_0) := (blk_cell BK148.out 0).trans rfl; have hcz14_1 : w12.cell? ⟨gb148, 1, none⟩ = some (.slice A0_1 l0_1.length c0_1) := (blk_cell BK148.out 1).trans rfl; have hfz14_0 := blk_frozen BK148.out 0; have hfz14_1 := blk_frozen BK148.out 1; have hcz15_0 : w12.cell? ⟨gb149, 0, none⟩ = some (.string a1_0) := (blk_cell BK149.out 0).trans rfl; have hcz15_1 : w12.cell? ⟨gb149, 1, none⟩ = some (.slice A1_1 l1_1.length c1_1) := (blk_cell BK149.out 1).trans rfl; have hfz15_0 := blk_frozen BK149.out 0; have hfz15_1 := blk_frozen BK149.out 1) | ((with_reducible refine gate_callee (f := 13) rfl ?_); refine goesL_ (some 14) rfl rfl Try.func13 (by kernel_rfl) rfl #[.slice A0_1 l0_1.length c0_1, .slice A1_1 l1_1.length c1_1] rfl (by (try simp only [List.map_toArray, List.map_cons, List.map_nil]); first | done | rfl | (simp only [List.length_drop, List.length_take]; rfl)) ?_; (with_reducible refine (laws_eqIntS.calls k _ _ l0_1 _ _ l1_1 false _ ?side1 ?side2 ?side3 ?side4 A4.out).mono ?_); (case side1 => exact cU (Kd.C_below HR0_1.out HB.out)); (case side2 => exact HC0_1.out); (case side3 => exact cU (Kd.C_below HR1_1.out HB.out)); (case side4 => exact HC1_1.out); rintro e w' ⟨rfl, ⟨nd, rfl⟩⟩; refine ⟨_, rfl, ?_⟩))
   go_ret
   exact ⟨rE, bU2 HB.out GE148.out GE149.out⟩
 ·
  rw [if_neg c3] at H; have c3b0 := beq_eq_false_iff_ne.mpr c3; have c3b1 := bne_iff_ne.mpr c3; obtain rfl := Option.some.inj H
  go_enter Try.func9, Try.ntmps9
  go_wp2_with (first | ((with_reducible refine gate_dst (N := 2) rfl ?_); refine box_event ?hg (N := 2) ?hd (cs := #[.string a0_0, .slice A0_1 l0_1.length c0_1]) (t := 31) ?hr ?_; (case hd => rfl); (case hg => rfl); (case hr => first | (go_simp; done) | (go_simp; rfl)); intro gb148 hg w16 hbox hb; have n0 := Az (below_step (bU0 HB.out) hb); have n1 := Az (hbox); have n2 := Az ((by rw [hg]; exact (below_size (bU0 HB.out)) : w.heap.size ≤ gb148)); have n3 := n2; clear HB; have HB := n0; have BK148 := n1; have GW148 := n2; have GE148 := n3; clear n0 n1 n2 n3; clear hb hbox hg) | ((with_reducible refine gate_dst (N := 3) rfl ?_); refine box_event ?hg (N := 3) ?hd (cs := #[.string a1_0, .slice A1_1 l1_1.length c1_1]) (t := 31) ?hr ?_; (case hd => rfl); (case hg => rfl); (case hr => first | (go_simp; done) | (go_simp; rfl)); intro gb149 hg w17 hbox hb; have n0 := Az (blk_below (g := gb148) (o := .cells #[.string a0_0, .slice A0_1 l0_1.length c0_1] 31 (0, 0)) (kU BK148.out) hb); have n1 := Az (below_step (bU1 HB.out GE148.out) hb); have n2 := Az (hbox); have n3 := Az ((by rw [hg]; exact (below_size (bU1 HB.out GE148.out)) : w.heap.size ≤ gb149)); have n4 := n3; have n5 := Az ((by rw [hg]; exact Nat.ne_of_lt (blk_lt (g := gb148) (o := .cells #[.string a0_0, .slice A0_1 l0_1.length c0_1] 31 (0, 0)) (kU BK148.out)) : gb148 ≠ gb149)); have n6 := Az ((by rw [hg]; exact Nat.ne_of_gt (blk_lt (g := gb148) (o := .cells #[.string a0_0, .slice A0_1 l0_1.length c0_1] 31 (0, 0)) (kU BK148.out)) : gb149 ≠ gb148)); clear BK148 HB; have BK148 := n0; have HB := n1; have BK149 := n2; have GW149 := n3; have GE149 := n4; have NB148_149 := n5; have NB149_148 := n6; clear n0 n1 n2 n3 n4 n5 n6 hb hbox hg; have hnb18 := NB148_149.out; have hnc18 := NB149_148.out; have hcz19_0 : w17.cell? ⟨gb148, 0, none⟩ = some (.string a0_0) := (blk_cell BK148.out 0).trans rfl; have hcz19_1 : w17.cell? ⟨gb148, 1, none⟩ = some (.slice A0_1 l0_1.length c0_1) := (blk_cell BK148.out 1).trans rfl; have hfz19_0 := blk_frozen BK148.out 0; have hfz19_1 := blk_frozen BK148.out 1; have hcz20_0 : w17.cell? ⟨gb149, 0, none⟩ = some (.string a1_0) := (blk_cell BK149.out 0).trans rfl; have hcz20_1 : w17.cell? ⟨gb149, 1, none⟩ = some (.slice A1_1 l1_1.length c1_1) := (blk_cell BK149.out 1).trans rfl; have hfz20_0 := blk_frozen BK149.out 0; have hfz20_1 := blk_frozen BK149.out 1))
  go_ret
  exact ⟨rE, bU2 HB.out GE148.out GE149.out⟩
def laws_eqTreeS.l0 : Nat → List (S31) → List (S31) → Int → Option (Bool)
 | 0, _, _, _ => none
 | k + 1, x0, x1, x5 => if x5 < (x0.length : Int) then (if 0 ≤ x5 then (if x5 < (x1.length : Int) then ((laws_eqTree.f k ((rd_T31 x0 x5).f0) ((rd_T31 x0 x5).f1) ((rd_T31 x1 x5).f0) ((rd_T31 x1 x5).f1)).bind fun t153 => (if t153 = true then (laws_eqTreeS.l0 k x0 x1 (wrap64 (x5 + 1))) else (some false))) else (none)) else (none)) else (some true)
def laws_eqTreeS.f (k : Nat) (l0 : List (S31)) (l1 : List (S31)) : Option (Bool) := if (l0.length : Int) = (l1.length : Int) then (laws_eqTreeS.l0 k l0 l1 0) else (some false)
def laws_eqTreeS.T6 : Bool × List (List Nat × List Nat) := (true, [([], []), ([], []), ([0, 1], [0, 1]), ([2], [2]), ([], []), ([], []), ([4, 5], [4, 5]), ([6], [6]), ([3, 7], [3, 7]), ([8], [8])])
def laws_eqTreeS.B6 : List Nat := [0, 0, 3, 7, 0, 0, 48, 112, 255, 511]
theorem laws_eqTreeS.tab6 : rtab .any (opsOf Try.f6 6) = laws_eqTreeS.T6 := by kernel_rfl
theorem laws_eqTreeS.bits6 : waitsOk laws_eqTreeS.T6.2 laws_eqTreeS.B6 = true := by kernel_rfl
set_option maxHeartbeats 8000000 in
set_option maxRecDepth 100000 in
theorem laws_eqTreeS.calls (k : Nat) (A0 : Option Addr) (c0 : Nat) (l0 : List (S31)) (A1 : Option Addr) (c1 : Nat) (l1 : List (S31)) (r : Bool) (w : World) (hr0 : Kd.C k31 w A0 l0.length l0) (hc0 : l0.length ≤ c0) (hr1 : Kd.C k31 w A1 l1.length l1) (hc1 : l1.length ≤ c1) (h : laws_eqTreeS.f k l0 l1 = some r) :
  Calls Try.prog 6 #[.slice A0 l0.length c0, .slice A1 l1.length c1] w fun e w' => e = .returned (.bool r) ∧ Below w.heap.size w w' := by
 have hu31 := Try.underlying31; have HR0 := Az hr0; have HC0 := Az hc0; clear hr0 hc0; have HR1 := Az hr1; have HC1 := Az hc1; clear hr1 hc1; have HB := Az (Below.refl w.heap.size w); have H : (if (l0.length : Int) = (l1.length : Int) then (laws_eqTreeS.l0 k l0 l1 0) else (some false)) = some r := h; clear h
 by_cases c3 : (l0.length : Int) = (l1.length : Int)
 ·
  rw [if_pos c3] at H; have c3b0 := beq_iff_eq.mpr c3; have c3b1 := bne_eq_false_iff_eq.mpr c3
  have c3b2 : (l0.length == l1.length) = true := by first | simpa using c3 | (simp at c3 ⊢; omega)
  clear c3; have H' := Az H; clear H
  go_enter Try.func6, Try.ntmps6
  go_wp2
  go_loopg [5] k (fun kq v5 w' => ∃ (x5_1 : Int), v5 = .int .i64 x5_1 ∧ Aside0 (laws_eqTreeS.l0 kq l0 l1 x5_1 = some r) ∧ Aside0 (kq ≤ k) ∧ Aside0 (Below w.heap.size w w'))
  case atStart => exact ⟨(0), rS, H', ⟨Nat.le_refl _⟩, ⟨bU0 HB.out⟩⟩
  case round =>
   clear H'; (try clear c1); (try clear p2); (try clear c3); (try clear c3b0); (try clear c3b1); (try clear c3b2); obtain ⟨x5_1, rfl, HA, HK1, HB⟩ := hrel
   cases gk with
   | zero => exact absurd HA.out (by simp [laws_eqTreeS.l0])
   | succ k1 =>
    have H := HA.out; clear HA; simp only [laws_eqTreeS.l0] at H
    by_cases c4 : x5_1 < (l0.length : Int)
    ·
     rw [if_pos c4] at H; have c4b0 := decide_eq_true c4; clear c4
     by_cases c5 : 0 ≤ x5_1
     ·
      rw [if_pos c5] at H; have c5b0 := decide_eq_true c5; clear c5
      by_cases c6 : x5_1 < (l1.length : Int)
      ·
       rw [if_pos c6] at H; have c6b0 := decide_eq_true c6; clear c6; replace H := Option.bind_eq_some_iff.mp H; obtain ⟨t153, A70, H⟩ := H; replace H : (if t153 = true then (laws_eqTreeS.l0 k1 l0 l1 (wrap64 (x5_1 + 1))) else (some false)) = some r := H; have A7 := Az A70; clear A70
       by_cases c8 : t153 = true
       ·
        subst c8
        have H1 : (laws_eqTreeS.l0 k1 l0 l1 (wrap64 (x5_1 + 1))) = some r := by rw [if_pos rfl] at H; exact H
        clear H; have H := H1; clear H1; have H' := Az H; clear H
        try go_wp2
        have n0 := Az (below_drew1 HB.out); clear HB; have HB := n0; clear n0; have p151 : 0 ≤ (x5_1 : Int) := oA; have q151 : x5_1 < (l0.length : Int) := oA; obtain ⟨ad151, A151_1, c151_1, e151, hx151_0, hx151_1, hl151_1, hi151_1⟩ := at_T31 HR0.out x5_1 p151 q151; have hw151_1 := hx151_1; have hw151_0 := hx151_0
        cases e151
        (try replace hx151_0 := (HB.out.cell (World.block_lt_of_cell? w _ hx151_0)).trans hx151_0); (try replace hx151_1 := (HB.out.cell (World.block_lt_of_cell? w _ hx151_1)).trans hx151_1); have HR151_1 := Az hi151_1; have HC151_1 := Az hl151_1; clear hi151_1 hl151_1; replace p151 := eq_true p151; replace q151 := eq_true q151; have p152 : 0 ≤ (x5_1 : Int) := oA; have q152 : x5_1 < (l1.length : Int) := oA; obtain ⟨ad152, A152_1, c152_1, e152, hx152_0, hx152_1, hl152_1, hi152_1⟩ := at_T31 HR1.out x5_1 p152 q152; have hw152_1 := hx152_1; have hw152_0 := hx152_0
        cases e152
        (try replace hx152_0 := (HB.out.cell (World.block_lt_of_cell? w _ hx152_0)).trans hx152_0); (try replace hx152_1 := (HB.out.cell (World.block_lt_of_cell? w _ hx152_1)).trans hx152_1); have HR152_1 := Az hi152_1; have HC152_1 := Az hl152_1; clear hi152_1 hl152_1; replace p152 := eq_true p152; replace q152 := eq_true q152
        refine start_ (n := 10) (S := fun w' => w'.cell? (ad151.add ((x5_1).toNat * 2)) = some (.string ((rd_T31 l0 x5_1).f0)) ∧ w'.cell? ⟨(ad151.add ((x5_1).toNat * 2)).block, (ad151.add ((x5_1).toNat * 2)).off + 1, none⟩ = some (.slice A151_1 ((rd_T31 l0 x5_1).f1).length c151_1) ∧ w'.cell? (ad152.add ((x5_1).toNat * 2)) = some (.string ((rd_T31 l1 x5_1).f0)) ∧ w'.cell? ⟨(ad152.add ((x5_1).toNat * 2)).block, (ad152.add ((x5_1).toNat * 2)).off + 1, none⟩ = some (.slice A152_1 ((rd_T31 l1 x5_1).f1).length c152_1)) (ds := []) #[false, false, false, false, false, false, false, false, false, false] (by kernel_rfl) rfl rfl ⟨(by first | exact hw151_0 | exact (HB.out.cell (World.block_lt_of_cell? w _ hw151_0)).trans hw151_0), (by first | exact hw151_1 | exact (HB.out.cell (World.block_lt_of_cell? w _ hw151_1)).trans hw151_1), (by first | exact hw152_0 | exact (HB.out.cell (World.block_lt_of_cell? w _ hw152_0)).trans hw152_0), (by first | exact hw152_1 | exact (HB.out.cell (World.block_lt_of_cell? w _ hw152_1)).trans hw152_1)⟩ (fun hHeld => ?_); refine with_tabW laws_eqTreeS.tab6 laws_eqTreeS.bits6 (fun HT_ HW_ => ?_)
        generalize wr.drew = w9 at HB HR151_1 HR152_1 hx151_0 hx151_1 hx152_0 hx152_1 hHeld ⊢
        refine pure_ (i := 0) (N := some 17) (v := ?_) (a' := ?_) #[true, false, false, false, false, false, false, false, false, false] rfl rfl (any_of HT_.out (by kernel_rfl)) (fun _ _ _ h => h) (Or.inl ⟨by rfl, ?_⟩) ?_ ?_
        rotate_left
        ·
         intro w'
         go_simp
         with_reducible rfl
        rotate_left
        ·
         simp only [Act.put, List.setIfInBounds_toArray, List.set_cons_zero, List.set_cons_succ, i64_w, i32_w]
         rfl
        refine pure_ (i := 1) (N := some 18) (v := ?_) (a' := ?_) #[true, true, false, false, false, false, false, false, false, false] rfl rfl (any_of HT_.out (by kernel_rfl)) (fun _ _ _ h => h) (Or.inl ⟨by rfl, ?_⟩) ?_ ?_
        rotate_left
        ·
         intro w'
         go_simp
         with_reducible rfl
        rotate_left
        ·
         simp only [Act.put, List.setIfInBounds_toArray, List.set_cons_zero, List.set_cons_succ, i64_w, i32_w]
         rfl
        refine pure_ (i := 2) (N := some 19) (v := ?_) (a' := ?_) #[true, true, true, false, false, false, false, false, false, false] rfl rfl (any_of HT_.out (by kernel_rfl)) (fun _ _ _ h => h) (Or.inl ⟨by rfl, ?_⟩) ?_ ?_
        rotate_left
        ·
         intro w'
         go_simp
         with_reducible rfl
        rotate_left
        ·
         simp only [Act.put, List.setIfInBounds_toArray, List.set_cons_zero, List.set_cons_succ, i64_w, i32_w]
         rfl
        refine pure_ (i := 4) (N := some 21) (v := ?_) (a' := ?_) #[true, true, true, false, true, false, false, false, false, false] rfl rfl (any_of HT_.out (by kernel_rfl)) (fun _ _ _ h => h) (Or.inl ⟨by rfl, ?_⟩) ?_ ?_
        rotate_left
        ·
         intro w'
         go_simp
         with_reducible rfl
        rotate_left
        ·
         simp only [Act.put, List.setIfInBounds_toArray, List.set_cons_zero, List.set_cons_succ, i64_w, i32_w]
         rfl
        refine pure_ (i := 5) (N := some 22) (v := ?_) (a' := ?_) #[true, true, true, false, true, true, false, false, false, false] rfl rfl (any_of HT_.out (by kernel_rfl)) (fun _ _ _ h => h) (Or.inl ⟨by rfl, ?_⟩) ?_ ?_
        rotate_left
        ·
         intro w'
         go_simp
         with_reducible rfl
        rotate_left
        ·
         simp only [Act.put, List.setIfInBounds_toArray, List.set_cons_zero, List.set_cons_succ, i64_w, i32_w]
         rfl
        refine pure_ (i := 6) (N := some 23) (v := ?_) (a' := ?_) #[true, true, true, false, true, true, true, false, false, false] rfl rfl (any_of HT_.out (by kernel_rfl)) (fun _ _ _ h => h) (Or.inl ⟨by rfl, ?_⟩) ?_ ?_
        rotate_left
        ·
         intro w'
         go_simp
         with_reducible rfl
        rotate_left
        ·
         simp only [Act.put, List.setIfInBounds_toArray, List.set_cons_zero, List.set_cons_succ, i64_w, i32_w]
         rfl
        refine take_ (i := 3) (N := some 20) (v := ?_) (a' := ?_) #[true, true, true, true, true, true, true, false, false, false] rfl rfl (take_ofW HT_.out HW_.out (by kernel_rfl)) (fun _ _ _ h => h) (Or.inl ⟨by rfl, ?_⟩) hHeld ?_ ?_
        rotate_left
        ·
         rintro w' ⟨s0, s1, s2, s3⟩
         go_simp
         with_reducible rfl
        rotate_left
        ·
         simp only [Act.put, List.setIfInBounds_toArray, List.set_cons_zero, List.set_cons_succ, i64_w, i32_w]
         rfl
        refine take_ (i := 7) (N := some 24) (v := ?_) (a' := ?_) #[true, true, true, true, true, true, true, true, false, false] rfl rfl (take_ofW HT_.out HW_.out (by kernel_rfl)) (fun _ _ _ h => h) (Or.inl ⟨by rfl, ?_⟩) hHeld ?_ ?_
        rotate_left
        ·
         rintro w' ⟨s0, s1, s2, s3⟩
         go_simp
         with_reducible rfl
        rotate_left
        ·
         simp only [Act.put, List.setIfInBounds_toArray, List.set_cons_zero, List.set_cons_succ, i64_w, i32_w]
         rfl
        refine one_ (i := 8) (N := some 25) #[true, true, true, true, true, true, true, true, true, false] rfl rfl (one_of HT_.out (by kernel_rfl)) (by decide) (fun K hK => ?_)
        refine goes_ Try.func9 (by kernel_rfl) rfl #[.agg #[.string ((rd_T31 l0 x5_1).f0), .slice A151_1 ((rd_T31 l0 x5_1).f1).length c151_1], .agg #[.string ((rd_T31 l1 x5_1).f0), .slice A152_1 ((rd_T31 l1 x5_1).f1).length c152_1]] (by rfl) rfl rfl (by (try simp only [List.map_toArray, List.map_cons, List.map_nil]); first | done | rfl | (simp only [List.length_drop, List.length_take]; rfl)) ?_
        with_reducible refine (laws_eqTree.calls k1 ((rd_T31 l0 x5_1).f0) _ _ ((rd_T31 l0 x5_1).f1) ((rd_T31 l1 x5_1).f0) _ _ ((rd_T31 l1 x5_1).f1) true _ ?side1 ?side2 ?side3 ?side4 A7.out).mono ?_
        (case side1 => exact cU (Kd.C_below HR151_1.out HB.out))
        (case side2 => exact HC151_1.out)
        (case side3 => exact cU (Kd.C_below HR152_1.out HB.out))
        (case side4 => exact HC152_1.out)
        rintro e w10 ⟨rfl, hb⟩
        refine ⟨_, rfl, ?_⟩
        have n0 := Az (below_step (bU0 HB.out) hb); clear HB; have HB := n0; clear n0; (try clear hb); (try clear hb2); (try clear hk); (try clear hi)
        refine hK.out _ _ ⟨(by first | exact hw151_0 | exact (HB.out.cell (World.block_lt_of_cell? w _ hw151_0)).trans hw151_0), (by first | exact hw151_1 | exact (HB.out.cell (World.block_lt_of_cell? w _ hw151_1)).trans hw151_1), (by first | exact hw152_0 | exact (HB.out.cell (World.block_lt_of_cell? w _ hw152_0)).trans hw152_0), (by first | exact hw152_1 | exact (HB.out.cell (World.block_lt_of_cell? w _ hw152_1)).trans hw152_1)⟩ (fun hHeld => ?_)
        clear hK K
        refine norm_ (a' := ?_) ?_ ?_
        rotate_left
        ·
         show Act.put _ (some 25) _ = _
         simp only [Act.put, List.setIfInBounds_toArray, List.set_cons_zero, List.set_cons_succ, i64_w, i32_w]
         rfl
        refine pure_ (i := 9) (N := some 26) (v := ?_) (a' := ?_) #[true, true, true, true, true, true, true, true, true, true] rfl rfl (any_of HT_.out (by kernel_rfl)) (fun _ _ _ h => h) (Or.inl ⟨by rfl, ?_⟩) ?_ ?_
        rotate_left
        ·
         intro w'
         go_simp
         with_reducible rfl
        rotate_left
        ·
         simp only [Act.put, List.setIfInBounds_toArray, List.set_cons_zero, List.set_cons_succ, i64_w, i32_w]
         rfl
        refine done_ (done_of HT_.out (by kernel_rfl)) ?_
        try go_wp2
        (first | go_roundg k1 | (refine Handed.intro k1 ?measure ?_; rotate_left; go_step; (try simp only [add_plain]); (repeat apply Exists.intro); refine ⟨?rel, rfl⟩))
        case measure => have := HK1.out; omega
        case rel => exact ⟨(wrap64 (x5_1 + 1)), rS, H', ⟨by have := HK1.out; omega⟩, ⟨bU0 HB.out⟩⟩
       ·
        replace c8 := Bool.eq_false_iff.mpr c8; subst c8
        have H1 : (some false) = some r := by rw [if_neg (show ¬ (false = true) by decide)] at H; exact H
        clear H; have H := H1; clear H1; obtain rfl := Option.some.inj H
        try go_wp2
        have n0 := Az (below_drew1 HB.out); clear HB; have HB := n0; clear n0; have p151 : 0 ≤ (x5_1 : Int) := oA; have q151 : x5_1 < (l0.length : Int) := oA; obtain ⟨ad151, A151_1, c151_1, e151, hx151_0, hx151_1, hl151_1, hi151_1⟩ := at_T31 HR0.out x5_1 p151 q151; have hw151_1 := hx151_1; have hw151_0 := hx151_0
        cases e151
        (try replace hx151_0 := (HB.out.cell (World.block_lt_of_cell? w _ hx151_0)).trans hx151_0); (try replace hx151_1 := (HB.out.cell (World.block_lt_of_cell? w _ hx151_1)).trans hx151_1); have HR151_1 := Az hi151_1; have HC151_1 := Az hl151_1; clear hi151_1 hl151_1; replace p151 := eq_true p151; replace q151 := eq_true q151; have p152 : 0 ≤ (x5_1 : Int) := oA; have q152 : x5_1 < (l1.length : Int) := oA; obtain ⟨ad152, A152_1, c152_1, e152, hx152_0, hx152_1, hl152_1, hi152_1⟩ := at_T31 HR1.out x5_1 p152 q152; have hw152_1 := hx152_1; have hw152_0 := hx152_0
        cases e152
        (try replace hx152_0 := (HB.out.cell (World.block_lt_of_cell? w _ hx152_0)).trans hx152_0); (try replace hx152_1 := (HB.out.cell (World.block_lt_of_cell? w _ hx152_1)).trans hx152_1); have HR152_1 := Az hi152_1; have HC152_1 := Az hl152_1; clear hi152_1 hl152_1; replace p152 := eq_true p152; replace q152 := eq_true q152
        refine start_ (n := 10) (S := fun w' => w'.cell? (ad151.add ((x5_1).toNat * 2)) = some (.string ((rd_T31 l0 x5_1).f0)) ∧ w'.cell? ⟨(ad151.add ((x5_1).toNat * 2)).block, (ad151.add ((x5_1).toNat * 2)).off + 1, none⟩ = some (.slice A151_1 ((rd_T31 l0 x5_1).f1).length c151_1) ∧ w'.cell? (ad152.add ((x5_1).toNat * 2)) = some (.string ((rd_T31 l1 x5_1).f0)) ∧ w'.cell? ⟨(ad152.add ((x5_1).toNat * 2)).block, (ad152.add ((x5_1).toNat * 2)).off + 1, none⟩ = some (.slice A152_1 ((rd_T31 l1 x5_1).f1).length c152_1)) (ds := []) #[false, false, false, false, false, false, false, false, false, false] (by kernel_rfl) rfl rfl ⟨(by first | exact hw151_0 | exact (HB.out.cell (World.block_lt_of_cell? w _ hw151_0)).trans hw151_0), (by first | exact hw151_1 | exact (HB.out.cell (World.block_lt_of_cell? w _ hw151_1)).trans hw151_1), (by first | exact hw152_0 | exact (HB.out.cell (World.block_lt_of_cell? w _ hw152_0)).trans hw152_0), (by first | exact hw152_1 | exact (HB.out.cell (World.block_lt_of_cell? w _ hw152_1)).trans hw152_1)⟩ (fun hHeld => ?_); refine with_tabW laws_eqTreeS.tab6 laws_eqTreeS.bits6 (fun HT_ HW_ => ?_)
        generalize wr.drew = w11 at HB HR151_1 HR152_1 hx151_0 hx151_1 hx152_0 hx152_1 hHeld ⊢
        refine pure_ (i := 0) (N := some 17) (v := ?_) (a' := ?_) #[true, false, false, false, false, false, false, false, false, false] rfl rfl (any_of HT_.out (by kernel_rfl)) (fun _ _ _ h => h) (Or.inl ⟨by rfl, ?_⟩) ?_ ?_
        rotate_left
        ·
         intro w'
         go_simp
         with_reducible rfl
        rotate_left
        ·
         simp only [Act.put, List.setIfInBounds_toArray, List.set_cons_zero, List.set_cons_succ, i64_w, i32_w]
         rfl
        refine pure_ (i := 1) (N := some 18) (v := ?_) (a' := ?_) #[true, true, false, false, false, false, false, false, false, false] rfl rfl (any_of HT_.out (by kernel_rfl)) (fun _ _ _ h => h) (Or.inl ⟨by rfl, ?_⟩) ?_ ?_
        rotate_left
        ·
         intro w'
         go_simp
         with_reducible rfl
        rotate_left
        ·
         simp only [Act.put, List.setIfInBounds_toArray, List.set_cons_zero, List.set_cons_succ, i64_w, i32_w]
         rfl
        refine pure_ (i := 2) (N := some 19) (v := ?_) (a' := ?_) #[true, true, true, false, false, false, false, false, false, false] rfl rfl (any_of HT_.out (by kernel_rfl)) (fun _ _ _ h => h) (Or.inl ⟨by rfl, ?_⟩) ?_ ?_
        rotate_left
        ·
         intro w'
         go_simp
         with_reducible rfl
        rotate_left
        ·
         simp only [Act.put, List.setIfInBounds_toArray, List.set_cons_zero, List.set_cons_succ, i64_w, i32_w]
         rfl
        refine pure_ (i := 4) (N := some 21) (v := ?_) (a' := ?_) #[true, true, true, false, true, false, false, false, false, false] rfl rfl (any_of HT_.out (by kernel_rfl)) (fun _ _ _ h => h) (Or.inl ⟨by rfl, ?_⟩) ?_ ?_
        rotate_left
        ·
         intro w'
         go_simp
         with_reducible rfl
        rotate_left
        ·
         simp only [Act.put, List.setIfInBounds_toArray, List.set_cons_zero, List.set_cons_succ, i64_w, i32_w]
         rfl
        refine pure_ (i := 5) (N := some 22) (v := ?_) (a' := ?_) #[true, true, true, false, true, true, false, false, false, false] rfl rfl (any_of HT_.out (by kernel_rfl)) (fun _ _ _ h => h) (Or.inl ⟨by rfl, ?_⟩) ?_ ?_
        rotate_left
        ·
         intro w'
         go_simp
         with_reducible rfl
        rotate_left
        ·
         simp only [Act.put, List.setIfInBounds_toArray, List.set_cons_zero, List.set_cons_succ, i64_w, i32_w]
         rfl
        refine pure_ (i := 6) (N := some 23) (v := ?_) (a' := ?_) #[true, true, true, false, true, true, true, false, false, false] rfl rfl (any_of HT_.out (by kernel_rfl)) (fun _ _ _ h => h) (Or.inl ⟨by rfl, ?_⟩) ?_ ?_
        rotate_left
        ·
         intro w'
         go_simp
         with_reducible rfl
        rotate_left
        ·
         simp only [Act.put, List.setIfInBounds_toArray, List.set_cons_zero, List.set_cons_succ, i64_w, i32_w]
         rfl
        refine take_ (i := 3) (N := some 20) (v := ?_) (a' := ?_) #[true, true, true, true, true, true, true, false, false, false] rfl rfl (take_ofW HT_.out HW_.out (by kernel_rfl)) (fun _ _ _ h => h) (Or.inl ⟨by rfl, ?_⟩) hHeld ?_ ?_
        rotate_left
        ·
         rintro w' ⟨s0, s1, s2, s3⟩
         go_simp
         with_reducible rfl
        rotate_left
        ·
         simp only [Act.put, List.setIfInBounds_toArray, List.set_cons_zero, List.set_cons_succ, i64_w, i32_w]
         rfl
        refine take_ (i := 7) (N := some 24) (v := ?_) (a' := ?_) #[true, true, true, true, true, true, true, true, false, false] rfl rfl (take_ofW HT_.out HW_.out (by kernel_rfl)) (fun _ _ _ h => h) (Or.inl ⟨by rfl, ?_⟩) hHeld ?_ ?_
        rotate_left
        ·
         rintro w' ⟨s0, s1, s2, s3⟩
         go_simp
         with_reducible rfl
        rotate_left
        ·
         simp only [Act.put, List.setIfInBounds_toArray, List.set_cons_zero, List.set_cons_succ, i64_w, i32_w]
         rfl
        refine one_ (i := 8) (N := some 25) #[true, true, true, true, true, true, true, true, true, false] rfl rfl (one_of HT_.out (by kernel_rfl)) (by decide) (fun K hK => ?_)
        refine goes_ Try.func9 (by kernel_rfl) rfl #[.agg #[.string ((rd_T31 l0 x5_1).f0), .slice A151_1 ((rd_T31 l0 x5_1).f1).length c151_1], .agg #[.string ((rd_T31 l1 x5_1).f0), .slice A152_1 ((rd_T31 l1 x5_1).f1).length c152_1]] (by rfl) rfl rfl (by (try simp only [List.map_toArray, List.map_cons, List.map_nil]); first | done | rfl | (simp only [List.length_drop, List.length_take]; rfl)) ?_
        with_reducible refine (laws_eqTree.calls k1 ((rd_T31 l0 x5_1).f0) _ _ ((rd_T31 l0 x5_1).f1) ((rd_T31 l1 x5_1).f0) _ _ ((rd_T31 l1 x5_1).f1) false _ ?side1 ?side2 ?side3 ?side4 A7.out).mono ?_
        (case side1 => exact cU (Kd.C_below HR151_1.out HB.out))
        (case side2 => exact HC151_1.out)
        (case side3 => exact cU (Kd.C_below HR152_1.out HB.out))
        (case side4 => exact HC152_1.out)
        rintro e w12 ⟨rfl, hb⟩
        refine ⟨_, rfl, ?_⟩
        have n0 := Az (below_step (bU0 HB.out) hb); clear HB; have HB := n0; clear n0; (try clear hb); (try clear hb2); (try clear hk); (try clear hi)
        refine hK.out _ _ ⟨(by first | exact hw151_0 | exact (HB.out.cell (World.block_lt_of_cell? w _ hw151_0)).trans hw151_0), (by first | exact hw151_1 | exact (HB.out.cell (World.block_lt_of_cell? w _ hw151_1)).trans hw151_1), (by first | exact hw152_0 | exact (HB.out.cell (World.block_lt_of_cell? w _ hw152_0)).trans hw152_0), (by first | exact hw152_1 | exact (HB.out.cell (World.block_lt_of_cell? w _ hw152_1)).trans hw152_1)⟩ (fun hHeld => ?_)
        clear hK K
        refine norm_ (a' := ?_) ?_ ?_
        rotate_left
        ·
         show Act.put _ (some 25) _ = _
         simp only [Act.put, List.setIfInBounds_toArray, List.set_cons_zero, List.set_cons_succ, i64_w, i32_w]
         rfl
        refine pure_ (i := 9) (N := some 26) (v := ?_) (a' := ?_) #[true, true, true, true, true, true, true, true, true, true] rfl rfl (any_of HT_.out (by kernel_rfl)) (fun _ _ _ h => h) (Or.inl ⟨by rfl, ?_⟩) ?_ ?_
        rotate_left
        ·
         intro w'
         go_simp
         with_reducible rfl
        rotate_left
        ·
         simp only [Act.put, List.setIfInBounds_toArray, List.set_cons_zero, List.set_cons_succ, i64_w, i32_w]
         rfl
        refine done_ (done_of HT_.out (by kernel_rfl)) ?_
        try go_wp2
        go_ret
        exact ⟨rE, bU0 HB.out⟩
      ·
       rw [if_neg c6] at H
       exact absurd H (by simp)
     ·
      rw [if_neg c5] at H
      exact absurd H (by simp)
    ·
     rw [if_neg c4] at H; have c4b0 := decide_eq_false c4; clear c4; obtain rfl := Option.some.inj H
     go_wp2
     go_ret
     exact ⟨rE, bU0 HB.out⟩
 ·
  rw [if_neg c3] at H; have c3b0 := beq_eq_false_iff_ne.mpr c3; have c3b1 := bne_iff_ne.mpr c3
  have c3b2 : (l0.length == l1.length) = false := by first | simpa using c3 | (simp at c3 ⊢; omega)
  obtain rfl := Option.some.inj H
  go_enter Try.func6, Try.ntmps6
  go_wp2
  go_ret
  exact ⟨rE, bU0 HB.out⟩
def laws_markText.l0 : Nat → Int → ByteArray → Option (ByteArray)
 | 0, _, _ => none
 | k + 1, x0, x3 => if x0 > 0 then ((some (([(wrap64 (48 + (Int.tmod x0 10))) % 256] : List Int) : List Int)).bind fun y154 => (if (strOfNums y154).size + x3.size ≤ 9223372036854775807 then (laws_markText.l0 k (wrap64 (Int.tdiv x0 10)) ((strOfNums y154) ++ x3)) else (none))) else (if 1 + x3.size ≤ 9223372036854775807 then (some ((⟨#[109]⟩ : ByteArray) ++ x3)) else (none))
def laws_markText.f (k : Nat) (a0 : Int) : Option (ByteArray) := if a0 ≤ 0 then (some (⟨#[109, 48]⟩ : ByteArray)) else (laws_markText.l0 k a0 (⟨#[]⟩ : ByteArray))
set_option maxHeartbeats 8000000 in
set_option maxRecDepth 100000 in
theorem laws_markText.calls (k : Nat) (a0 : Int) (r : ByteArray) (w : World) (h : laws_markText.f k a0 = some r) :
  Calls Try.prog 10 #[.int .i64 a0] w fun e w' => e = .returned (.string r) ∧ Below w.heap.size w w' := by
 have HB := Az (Below.refl w.heap.size w); have H : (if a0 ≤ 0 then (some (⟨#[109, 48]⟩ : ByteArray)) else (laws_markText.l0 k a0 (⟨#[]⟩ : ByteArray))) = some r := h; clear h
 by_cases c2 : a0 ≤ 0
 ·
  rw [if_pos c2] at H; have c2b0 := decide_eq_true c2; clear c2; obtain rfl := Option.some.inj H
  go_enter Try.func10, Try.ntmps10
  go_wp2
  go_ret
  exact ⟨rE, bU0 HB.out⟩
 ·
  rw [if_neg c2] at H; have c2b0 := decide_eq_false c2; clear c2; have H' := Az H; clear H
  go_enter Try.func10, Try.ntmps10
  go_wp2
  go_loopg [0, 3] k (fun kq v0 v3 w' => ∃ (x0_1 : Int) (x3_1 : ByteArray), v0 = .int .i64 x0_1 ∧ v3 = .string x3_1 ∧ Aside0 (laws_markText.l0 kq x0_1 x3_1 = some r) ∧ Aside0 (kq ≤ k) ∧ Aside0 (Below w.heap.size w w'))
  case atStart => exact ⟨(a0), ((⟨#[]⟩ : ByteArray)), rS, rS, H', ⟨Nat.le_refl _⟩, ⟨bU0 HB.out⟩⟩
  case round =>
   clear H'; (try clear c1); (try clear c2); (try clear c2b0); (try clear p2); obtain ⟨x0_1, x3_1, rfl, rfl, HA, HK1, HB⟩ := hrel
   cases gk with
   | zero => exact absurd HA.out (by simp [laws_markText.l0])
   | succ k1 =>
    have H := HA.out; clear HA; simp only [laws_markText.l0] at H
    by_cases c3 : x0_1 > 0
    ·
     rw [if_pos c3] at H; have c3b0 := decide_eq_true c3; clear c3; obtain ⟨y154, hy154⟩ : ∃ y_ : List Int, y_ = (([(wrap64 (48 + (Int.tmod x0_1 10))) % 256] : List Int)) := ⟨_, rfl⟩; replace H : (if (strOfNums y154).size + x3_1.size ≤ 9223372036854775807 then (laws_markText.l0 k1 (wrap64 (Int.tdiv x0_1 10)) ((strOfNums y154) ++ x3_1)) else (none)) = some r := hR hy154 H; have Ny154 := Az hy154; clear hy154
     by_cases c4 : (strOfNums y154).size + x3_1.size ≤ 9223372036854775807
     ·
      rw [if_pos c4] at H; have c4b0 := eq_true c4; have c4b1 := decide_eq_true c4
      try have c4b2 : (9223372036854775807 < (strOfNums y154).size + x3_1.size) = False := eq_false (Nat.not_lt.2 c4)
      have H' := Az H; clear H
      go_wp2_with (first | ((with_reducible refine gate_dst (N := 12) rfl ?_); refine Kd.R_lit (Kd.int .u8) _ 5 ?hg (N := 12) ?hd (xs := ([(wrap64 (48 + (Int.tmod x0_1 10))) % 256] : List Int)) (inner := [.int .u8 ((wrap64 (48 + (Int.tmod x0_1 10))) % 256)]) (ok := fun _ => True) (okp := fun _ => True) ?hr ?hp (fun _ hk => hk) trivial (Below.refl _ _) (Nat.le_refl _) (by simp) ?_; (case hd => rfl); (case hg => rfl); (case hr => first | (go_simp; done) | (go_simp; rfl)); (case hp => exact (Reps.one (show Kd.M (Kd.int .u8) _ _ _ ((wrap64 (48 + (Int.tmod x0_1 10))) % 256) [.int .u8 ((wrap64 (48 + (Int.tmod x0_1 10))) % 256)] from rfl) (Reps.none _ _))); intro v155 w5 ho6 hb hg_ hnew_; clear hg_ hnew_; (first | rw [← Ny154.out] at ho6 | (simp only [Int.reduceToNat] at ho6; rw [← Ny154.out] at ho6)); have n0 := Az (Kd.R_lower ho6 (below_size (bU0 HB.out))); have n1 := Az (below_step (bU0 HB.out) hb); clear HB; have HO156 := n0; have HB := n1; clear n0 n1 hb ho6; have hcv7 := own_string (P := Try.prog) Try.underlying36 Try.underlying5 Try.underlying9 (Kd.own_of_R HO156.out)))
      (first | go_roundg k1 | (refine Handed.intro k1 ?measure ?_; rotate_left; go_step; (try simp only [add_plain]); (repeat apply Exists.intro); refine ⟨?rel, rfl⟩))
      case measure => have := HK1.out; omega
      case rel => exact ⟨(wrap64 (Int.tdiv x0_1 10)), ((strOfNums y154) ++ x3_1), rS, rS, H', ⟨by have := HK1.out; omega⟩, ⟨bU0 HB.out⟩⟩
     ·
      rw [if_neg c4] at H
      exact absurd H (by simp)
    ·
     rw [if_neg c3] at H; have c3b0 := decide_eq_false c3; clear c3
     by_cases c8 : 1 + x3_1.size ≤ 9223372036854775807
     ·
      rw [if_pos c8] at H; have c8b0 := eq_true c8; have c8b1 := decide_eq_true c8
      try have c8b2 : (9223372036854775807 < 1 + x3_1.size) = False := eq_false (Nat.not_lt.2 c8)
      obtain rfl := Option.some.inj H
      go_wp2
      go_ret
      exact ⟨rE, bU0 HB.out⟩
     ·
      rw [if_neg c8] at H
      exact absurd H (by simp)
def laws_markIntS.l0 : Nat → List Int → Int → Int → Option (Int × List Int)
 | 0, _, _, _ => none
 | k + 1, x0, x1, x5 => if x5 < (x0.length : Int) then (if 0 ≤ x5 then (laws_markIntS.l0 k (x0.set (x5 : Int).toNat x1) (wrap64 (x1 + 1)) (wrap64 (x5 + 1))) else (none)) else (some (x1, x0))
def laws_markIntS.f (k : Nat) (l0 : List Int) (a1 : Int) : Option (Int × List Int) := laws_markIntS.l0 k l0 a1 0
set_option maxHeartbeats 8000000 in
set_option maxRecDepth 100000 in
theorem laws_markIntS.calls (k : Nat) (P0_ : Nat → Prop) (u9000_ : Value) (l0 : List Int) (a1 : Int) (r1 : Int) (r2 : List Int) (w0 w : World) (hB : Below w0.heap.size w0 w) (ho0 : Kd.R (Kd.int .i64) 3 w w0.heap.size P0_ u9000_ l0) (h : laws_markIntS.f k l0 a1 = some (r1, r2)) :
  Calls Try.prog 11 #[u9000_, .int .i64 a1] w fun e w' => e = .returned (.int .i64 r1) ∧ Kd.R (Kd.int .i64) 3 w' w0.heap.size (fun k_ => (P0_ k_ ∨ w.heap.size ≤ k_)) u9000_ r2 ∧ Below w0.heap.size w0 w' ∧ Kept w w' (fun k_ => P0_ k_) := by
 have HO0 := Az (show Kd.R (Kd.int .i64) 3 w w0.heap.size (fun k_ => (P0_ k_ ∨ w.heap.size ≤ k_)) u9000_ l0 from Kd.R_mono ho0 (fun k_ hk => (.inl hk))); have HK := Az (Kept.refl w (fun k_ => P0_ k_)); have HW0 := Az hB.size; have HB := Az hB; clear hB; have H : (laws_markIntS.l0 k l0 a1 0) = some (r1, r2) := h; clear h; have H' := Az H; clear H
 go_enter Try.func11, Try.ntmps11
 go_wp2
 go_loopg [1, 5] k (fun kq v1 v5 w' => ∃ (x0_1 : List Int) (x1_1 : Int) (x5_1 : Int), v1 = .int .i64 x1_1 ∧ v5 = .int .i64 x5_1 ∧ Aside0 (laws_markIntS.l0 kq x0_1 x1_1 x5_1 = some (r1, r2)) ∧ Aside0 (kq ≤ k) ∧ Aside0 (Kd.R (Kd.int .i64) 3 w' w0.heap.size (fun k_ => (P0_ k_ ∨ w.heap.size ≤ k_)) u9000_ x0_1) ∧ Aside0 (Kept w w' (fun k_ => P0_ k_)) ∧ Aside0 (Below w0.heap.size w0 w'))
 case atStart => exact ⟨(l0), (a1), (0), rS, rS, H', ⟨Nat.le_refl _⟩, ⟨rU HO0.out⟩, ⟨by repeat (first | (with_reducible first | exact HK.out | apply Kept.alloc | apply Kept.drewN | apply Kept.drew) | exact HK.out)⟩, ⟨bU0 HB.out⟩⟩
 case round =>
  clear H'; (try clear c1); (try clear p2); obtain ⟨x0_1, x1_1, x5_1, rfl, rfl, HA, HK1, HO_0, HK, HB⟩ := hrel
  cases gk with
  | zero => exact absurd HA.out (by simp [laws_markIntS.l0])
  | succ k1 =>
   have H := HA.out; clear HA; simp only [laws_markIntS.l0] at H
   by_cases c3 : x5_1 < (x0_1.length : Int)
   ·
    rw [if_pos c3] at H; have c3b0 := decide_eq_true c3; clear c3
    by_cases c4 : 0 ≤ x5_1
    ·
     rw [if_pos c4] at H; have c4b0 := decide_eq_true c4; clear c4; obtain ⟨y157, hy157⟩ : ∃ y_ : List Int, y_ = (x0_1.set (x5_1 : Int).toNat x1_1) := ⟨_, rfl⟩; replace H : (laws_markIntS.l0 k1 y157 (wrap64 (x1_1 + 1)) (wrap64 (x5_1 + 1))) = some (r1, r2) := hR hy157 H; have Ny157 := Az hy157; clear hy157; have H' := Az H; clear H; obtain ⟨Ao6, co6, eo6⟩ := Kd.R_slice HO_0.out; subst eo6; have p5 : 0 ≤ (x5_1 : Int) := oA; have q5 : (x5_1 : Int) < ((x0_1.length : Int) : Int) := oA; obtain ⟨go5, co5, eo5, gb5, gl5, cl5, HG5⟩ := Kd.R_form HO_0.out (by omega); (first | cases eo5 | (injection eo5 with ea_ en_ ec_; (first | subst ea_ | (injection ea_ with ea_; subst ea_)); subst ec_; clear en_)); have GB5 := Az gb5; have GG5 := Az HG5; clear gb5 gl5 HG5; have HMgo5 := Az (show (P0_ go5 ∨ w.heap.size ≤ go5) from (HO_0.out.1 _ rfl)); obtain ⟨hx5_0, hf5_0⟩ := Kd.R_celln 0 HO_0.out (x5_1 : Int) p5 q5; replace p5 := eq_true p5; replace q5 := eq_true q5; obtain ⟨hy7_, hz7_⟩ := Kd.R_celln 0 HO_0.out (x5_1 : Int) (oA) (oA); have HP7 := Kd.R_putg HO_0.out (x5_1 : Int) x1_1
     go_wp2_with (first | ((with_reducible refine gate_store (t := 3) (p := 15) rfl ?_); refine store_event (t := 3) (p := 15) (v := ?vo_w8) (w1 := (wr.setCell ⟨go5, (x5_1 : Int).toNat, none⟩ (.int .i64 x1_1))) ?hg ?ho ?hn ?hr ?_; (case ho => rfl); (case hg => rfl); (case hn => rfl); (case hr => first | (go_simp; done) | (go_simp; rfl)); intro w8 hw; have hg : wr.grownBy w8 (some go5) := (by rw [hw]; exact HP7.2); have hp_ : Kd.R (Kd.int .i64) 3 w8 w0.heap.size (fun k_ => (P0_ k_ ∨ w.heap.size ≤ k_)) (.slice (some ⟨go5, 0, none⟩) x0_1.length co6) y157 := (by rw [hw, Ny157.out]; exact HP7.1); clear HP7; have n0 := Az (hp_); have n1 := Az ((by rw [hw]; exact below_set (HB.out) GB5.out : Below w0.heap.size w0 w8)); have n2 := Az (Kept.of_grown (S := (fun k_ => P0_ k_)) hg (by repeat (first | (with_reducible first | exact HK.out | apply Kept.alloc | apply Kept.drewN | apply Kept.drew) | exact HK.out)) (fun k_ e_ => (HO_0.out.1 k_ e_))); clear HO_0 HB HK; have HO_0 := n0; have HB := n1; have HK := n2; clear n0 n1 n2; clear hg hw hp_))
     (first | go_roundg k1 | (refine Handed.intro k1 ?measure ?_; rotate_left; go_step; (try simp only [add_plain]); (repeat apply Exists.intro); refine ⟨?rel, rfl⟩))
     case measure => have := HK1.out; omega
     case rel => exact ⟨(y157), (wrap64 (x1_1 + 1)), (wrap64 (x5_1 + 1)), rS, rS, H', ⟨by have := HK1.out; omega⟩, ⟨rU HO_0.out⟩, ⟨by repeat (first | (with_reducible first | exact HK.out | apply Kept.alloc | apply Kept.drewN | apply Kept.drew) | exact HK.out)⟩, ⟨bU0 HB.out⟩⟩
    ·
     rw [if_neg c4] at H
     exact absurd H (by simp)
   ·
    rw [if_neg c3] at H; have c3b0 := decide_eq_false c3; clear c3; simp only [Option.some.injEq, Prod.mk.injEq] at H; obtain ⟨rfl, rfl⟩ := H; obtain ⟨Ao9, co9, eo9⟩ := Kd.R_slice HO_0.out; subst eo9
    go_wp2
    go_ret
    exact ⟨rE, rU HO_0.out, bU0 HB.out, by repeat (first | (with_reducible first | exact HK.out | apply Kept.alloc | apply Kept.drewN | apply Kept.drew) | exact HK.out)⟩
def laws_markTreeS.l0 : Nat → List (S31) → Int → Int → Option (Int × (List (S31)))
 | 0, _, _, _ => none
 | k + 1, x0, x1, x5 => if x5 < (x0.length : Int) then ((laws_markText.f k x1).bind fun t157 => (if 0 ≤ x5 then ((some (x0.set (x5 : Int).toNat (⟨t157, (rd_T31 x0 x5).f1⟩ : S31) : List (S31))).bind fun y158 => ((laws_markIntS.f k ((rd_T31 y158 x5).f1) (wrap64 (x1 + 1))).bind fun bt160 => (laws_markTreeS.l0 k (y158.set (x5 : Int).toNat (⟨(rd_T31 y158 x5).f0, bt160.2⟩ : S31)) bt160.1 (wrap64 (x5 + 1))))) else (none))) else (some (x1, x0))
def laws_markTreeS.f (k : Nat) (l0 : List (S31)) (a1 : Int) : Option (Int × (List (S31))) := laws_markTreeS.l0 k l0 a1 0
theorem laws_markTreeS.len_l : ∀ (k : Nat) (x0 : List (S31)) (x1 x5 r1 : Int) (r2 : List (S31)), laws_markTreeS.l0 k x0 x1 x5 = some (r1, r2) → r2.length = x0.length
 | 0, x0, x1, x5, r1, r2, h => by simp [laws_markTreeS.l0] at h
 | k + 1, x0, x1, x5, r1, r2, h => by
  unfold laws_markTreeS.l0 at h
  split at h
  ·
   obtain ⟨t1, _, h⟩ := Option.bind_eq_some_iff.mp h
   split at h
   ·
    obtain ⟨y, hy, h⟩ := Option.bind_eq_some_iff.mp h; obtain ⟨b, _, h⟩ := Option.bind_eq_some_iff.mp h; have := laws_markTreeS.len_l k _ _ _ _ _ h; obtain rfl := Option.some.inj hy; rw [this, List.length_set, List.length_set]
   ·
    cases h
  ·
   obtain ⟨_, rfl⟩ := Prod.mk.inj (Option.some.inj h)
   rfl
theorem laws_markTreeS.len (k : Nat) (l0 : List (S31)) (a1 r1 : Int) (r2 : List (S31)) (h : laws_markTreeS.f k l0 a1 = some (r1, r2)) : r2.length = l0.length := laws_markTreeS.len_l k _ _ _ _ _ h
set_option maxHeartbeats 8000000 in
set_option maxRecDepth 100000 in
theorem laws_markTreeS.calls (k : Nat) (P0_ : Nat → Prop) (u9000_ : Value) (l0 : List (S31)) (a1 : Int) (r1 : Int) (r2 : List (S31)) (w0 w : World) (hB : Below w0.heap.size w0 w) (ho0 : Kd.S k31 31 w w0.heap.size P0_ u9000_ l0) (h : laws_markTreeS.f k l0 a1 = some (r1, r2)) :
  Calls Try.prog 7 #[u9000_, .int .i64 a1] w fun e w' => e = .returned (.int .i64 r1) ∧ Kd.S k31 31 w' w0.heap.size (fun k_ => (P0_ k_ ∨ w.heap.size ≤ k_)) u9000_ r2 ∧ Below w0.heap.size w0 w' ∧ Kept w w' (fun k_ => P0_ k_) := by
 have HO0 := Az (show Kd.S k31 31 w w0.heap.size (fun k_ => (P0_ k_ ∨ w.heap.size ≤ k_)) u9000_ l0 from Kd.S_mono ho0 (fun k_ hk => (.inl hk))); have HK := Az (Kept.refl w (fun k_ => P0_ k_)); have HW0 := Az hB.size; have HB := Az hB; clear hB; have H : (laws_markTreeS.l0 k l0 a1 0) = some (r1, r2) := h; clear h; have H' := Az H; clear H
 go_enter Try.func7, Try.ntmps7
 go_wp2
 go_loopg [1, 5] k (fun kq v1 v5 w' => ∃ (x0_1 : List (S31)) (x1_1 : Int) (x5_1 : Int), v1 = .int .i64 x1_1 ∧ v5 = .int .i64 x5_1 ∧ Aside0 (laws_markTreeS.l0 kq x0_1 x1_1 x5_1 = some (r1, r2)) ∧ Aside0 (kq ≤ k) ∧ Aside0 (Kd.S k31 31 w' w0.heap.size (fun k_ => (P0_ k_ ∨ w.heap.size ≤ k_)) u9000_ x0_1) ∧ Aside0 (Kept w w' (fun k_ => P0_ k_)) ∧ Aside0 (Below w0.heap.size w0 w'))
 case atStart => exact ⟨(l0), (a1), (0), rS, rS, H', ⟨Nat.le_refl _⟩, ⟨sU HO0.out⟩, ⟨by repeat (first | (with_reducible first | exact HK.out | apply Kept.alloc | apply Kept.drewN | apply Kept.drew) | exact HK.out)⟩, ⟨bU0 HB.out⟩⟩
 case round =>
  clear H'; (try clear p2); obtain ⟨x0_1, x1_1, x5_1, rfl, rfl, HA, HK1, HO_0, HK, HB⟩ := hrel
  cases gk with
  | zero => exact absurd HA.out (by simp [laws_markTreeS.l0])
  | succ k1 =>
   have H := HA.out; clear HA; simp only [laws_markTreeS.l0] at H
   by_cases c3 : x5_1 < (x0_1.length : Int)
   ·
    rw [if_pos c3] at H; have c3b0 := decide_eq_true c3; clear c3; replace H := Option.bind_eq_some_iff.mp H; obtain ⟨t157, A40, H⟩ := H; replace H : (if 0 ≤ x5_1 then ((some (x0_1.set (x5_1 : Int).toNat (⟨t157, (rd_T31 x0_1 x5_1).f1⟩ : S31) : List (S31))).bind fun y158 => ((laws_markIntS.f k1 ((rd_T31 y158 x5_1).f1) (wrap64 (x1_1 + 1))).bind fun bt160 => (laws_markTreeS.l0 k1 (y158.set (x5_1 : Int).toNat (⟨(rd_T31 y158 x5_1).f0, bt160.2⟩ : S31)) bt160.1 (wrap64 (x5_1 + 1))))) else (none)) = some (r1, r2) := H; have A4 := Az A40; clear A40
    by_cases c5 : 0 ≤ x5_1
    ·
     rw [if_pos c5] at H; have c5b0 := decide_eq_true c5; clear c5; obtain ⟨y158, hy158⟩ : ∃ y_ : List (S31), y_ = (x0_1.set (x5_1 : Int).toNat (⟨t157, (rd_T31 x0_1 x5_1).f1⟩ : S31)) := ⟨_, rfl⟩; replace H : ((laws_markIntS.f k1 ((rd_T31 y158 x5_1).f1) (wrap64 (x1_1 + 1))).bind fun bt160 => (laws_markTreeS.l0 k1 (y158.set (x5_1 : Int).toNat (⟨(rd_T31 y158 x5_1).f0, bt160.2⟩ : S31)) bt160.1 (wrap64 (x5_1 + 1)))) = some (r1, r2) := hR hy158 H; have Ny158 := Az hy158; clear hy158; replace H := Option.bind_eq_some_iff.mp H; obtain ⟨⟨t160, t161⟩, A70, H⟩ := H; replace H : (laws_markTreeS.l0 k1 (y158.set (x5_1 : Int).toNat (⟨(rd_T31 y158 x5_1).f0, t161⟩ : S31)) t160 (wrap64 (x5_1 + 1))) = some (r1, r2) := H; have A7 := Az A70; clear A70; have H' := Az H; clear H; obtain ⟨Ao8, co8, eo8⟩ := Kd.S_slice HO_0.out; subst eo8
     go_wp2_with (first | ((with_reducible refine gate_callee (f := 10) rfl ?_); refine goesL_ (some 15) rfl rfl Try.func10 (by kernel_rfl) rfl #[.int .i64 x1_1] rfl (by (try simp only [List.map_toArray, List.map_cons, List.map_nil]); first | done | rfl | (simp only [List.length_drop, List.length_take]; rfl)) ?_; (with_reducible refine (laws_markText.calls k1 x1_1 t157 _ A4.out).mono ?_); rintro e w9 ⟨rfl, hb⟩; refine ⟨_, rfl, ?_⟩; have n0 := Az (Kd.S_below (sU HO_0.out) hb); have n1 := Az (Kept.below (S := (fun k_ => P0_ k_)) (by repeat (first | (with_reducible first | exact HK.out | apply Kept.alloc | apply Kept.drewN | apply Kept.drew) | exact HK.out)) hb); have n2 := Az (below_step (bU0 HB.out) hb); clear HO_0 HK HB; have HO_0 := n0; have HK := n1; have HB := n2; clear n0 n1 n2; (try clear hb); (try clear hb2); (try clear hk); (try clear hi); have p6 : 0 ≤ (x5_1 : Int) := oA; have q6 : (x5_1 : Int) < ((x0_1.length : Int) : Int) := oA; obtain ⟨go6, co6, eo6, gb6, gl6, cl6, HG6⟩ := Kd.S_form HO_0.out (by omega); (first | cases eo6 | (injection eo6 with ea_ en_ ec_; (first | subst ea_ | (injection ea_ with ea_; subst ea_)); subst ec_; clear en_)); have GB6 := Az gb6; have GG6 := Az HG6; clear gb6 gl6 HG6; have HMgo6 := Az (show (P0_ go6 ∨ w.heap.size ≤ go6) from ((Kd.S_R HO_0.out).1 _ rfl)); obtain ⟨_, ce6, hcl6, hM6, hcc6, hfr6, _, _⟩ := Kd.S_elem HO_0.out z31 (x5_1 : Int) p6 q6; obtain ⟨ve6_1, rfl, ge6_1⟩ := k31_openM hM6; have hx6_0 : w9.cell? ⟨go6, (x5_1 : Int).toNat * 2, none⟩ = some (.string ((rd_T31 x0_1 x5_1).f0)) := hcc6 0 _ rfl; have hx6_1 : w9.cell? ⟨go6, (x5_1 : Int).toNat * 2 + 1, none⟩ = some (ve6_1) := hcc6 1 _ rfl; have hf6_0 : w9.frozen? ⟨go6, (x5_1 : Int).toNat * 2, none⟩ = false := hfr6 0; have hf6_1 : w9.frozen? ⟨go6, (x5_1 : Int).toNat * 2 + 1, none⟩ = false := hfr6 1; (try clear hM6); clear hcl6 hcc6 hfr6; replace p6 := eq_true p6; replace q6 := eq_true q6; have HX10 := Az (show Kd.S k31 31 w9 w0.heap.size (fun k_ => ((fun k_ => (P0_ k_ ∨ w.heap.size ≤ k_))) k_ ∧ ¬ ((fun _ => False)) k_) (.slice (some ⟨go6, 0, none⟩) x0_1.length co8) x0_1 from (by (with_reducible repeat (first | apply Kd.S_alloc | apply Kd.S_drewN | apply Kd.S_drew)); exact Kd.S_mono HO_0.out (fun k_ hk => ⟨hk, fun e_ => e_⟩))); obtain ⟨oki10, ce10, hcl10, hM10, hcc10, hfr10, hoki10, hH10⟩ := Kd.S_elem HX10.out z31 (x5_1 : Int) (oA) (by have h_ : (x5_1 : Int) < ((x0_1.length : Int) : Int) := oA; first | exact h_ | (have e_ := (Kd.S_reads' HO_0.out).1; omega) | simpa using h_); obtain ⟨ve10_1, rfl, ge10_1⟩ := k31_openM hM10; have HP10 := Kd.S_seg hH10 (oA) (by have h_ : (x5_1 : Int) < ((x0_1.length : Int) : Int) := oA; first | exact h_ | (have e_ := (Kd.S_reads' HO_0.out).1; omega) | simpa using h_) (seg := [.string t157]) (j := 0) (show 1 ≤ 2 from by decide) (x' := (⟨t157, (rd_T31 x0_1 x5_1).f1⟩ : S31)) (k31_mkM _ _ _ (⟨t157, (rd_T31 x0_1 x5_1).f1⟩ : S31) (Kd.R_mono ge10_1 (fun _ h_ => Or.inl h_))) (fun _ hk => hk) (fun k_ hk_ => hk_.elim); have hx10_0 := hcc10 0 _ rfl; (try simp only [show (k31).sz = 2 from rfl, Nat.mul_one, Nat.add_zero] at hx10_0); have hf10_0 := hfr10 0; (try simp only [show (k31).sz = 2 from rfl, Nat.mul_one, Nat.add_zero] at hf10_0); (try clear hM10); clear hcl10 hcc10 hfr10 hoki10 hH10) | ((with_reducible refine gate_store (t := 9) (p := 17) rfl ?_); refine store_event (t := 9) (p := 17) (v := ?vo_w11) (w1 := (w9.setCell ⟨go6, (x5_1 : Int).toNat * 2, none⟩ (.string t157))) ?hg ?ho ?hn ?hr ?_; (case ho => rfl); (case hg => rfl); (case hn => rfl); (case hr => first | (go_simp; done) | (go_simp; rfl)); intro w11 hw; have hg : w9.grownBy w11 (some go6) := (by rw [hw]; exact HP10.2); have hp_ : Kd.S k31 31 w11 w0.heap.size (fun k_ => (P0_ k_ ∨ w.heap.size ≤ k_)) (.slice (some ⟨go6, 0, none⟩) x0_1.length co8) y158 := (by rw [hw, Ny158.out]; exact HP10.1); clear HP10; have n0 := Az (hp_); have n1 := Az ((by rw [hw]; exact below_set (HB.out) GB6.out : Below w0.heap.size w0 w11)); have n2 := Az (Kept.of_grown (S := (fun k_ => P0_ k_)) hg (by repeat (first | (with_reducible first | exact HK.out | apply Kept.alloc | apply Kept.drewN | apply Kept.drew) | exact HK.out)) (fun k_ e_ => ((Kd.S_R HO_0.out).1 k_ e_))); clear HO_0 HB HK; have HO_0 := n0; have HB := n1; have HK := n2; clear n0 n1 n2 hg hw hp_; have p159 : 0 ≤ (x5_1 : Int) := oA; have q159 : x5_1 < (y158.length : Int) := (by have h_ : (x5_1 : Int) < ((x0_1.length : Int) : Int) := oA; first | (have e_ := (Kd.S_reads' HO_0.out).1; omega) | simpa only [Ny158.out, List.length_set] using h_); have ql159 : ((x5_1 : Int) < ((x0_1.length : Int) : Int)) = True := eq_true (oA); obtain ⟨ad159, A159_1, c159_1, e159, hx159_0, hx159_1, hl159_1, hi159_1⟩ := at_T31 (Kd.S_reads' HO_0.out).2.2 x5_1 p159 q159; obtain rfl : (⟨go6, 0, none⟩ : Addr) = ad159 := (by injection e159); obtain ⟨ce159, hce159, hMe159, hcc159⟩ := Kd.S_get HO_0.out z31 x5_1 p159 (by first | exact q159 | exact oA | (have e_ := (Kd.S_reads' HO_0.out).1; omega)); obtain ⟨ve159_1, rfl, ge159_1⟩ := k31_openM hMe159; have hv159_1 := hcc159 1 _ rfl; rw [add_field _ _ 1 (by omega)] at hv159_1; replace hv159_1 := Option.some.inj (hv159_1.symm.trans hx159_1); rw [hv159_1] at ge159_1; have HL159_1 := Az (show Kd.R (Kd.int .i64) 3 _ _ _ _ ((rd_T31 y158 x5_1).f1) from ge159_1); clear hv159_1 ge159_1 hcc159 hce159; (first | simp only [add_plain] at hx159_0 | simp only [add_at] at hx159_0 | simp only [Addr.add, Nat.zero_add] at hx159_0 | skip); (first | simp only [add_plain] at hx159_1 | simp only [add_at] at hx159_1 | simp only [Addr.add, Nat.zero_add] at hx159_1 | skip); have HR159_1 := Az hi159_1; have HC159_1 := Az hl159_1; clear hi159_1 hl159_1; replace p159 := eq_true p159; replace q159 := eq_true q159) | ((with_reducible refine gate_callee (f := 11) rfl ?_); refine goesL_ (some 26) rfl rfl Try.func11 (by kernel_rfl) rfl #[.slice A159_1 ((rd_T31 y158 x5_1).f1).length c159_1, .int .i64 (wrap64 (x1_1 + 1))] rfl (by (try simp only [List.map_toArray, List.map_cons, List.map_nil]); first | done | rfl | (simp only [List.length_drop, List.length_take]; rfl)) ?_; obtain ⟨okj_, cej_, hclj_, hMj_, hccj_, hfrj_, hokj_, hHj_⟩ := Kd.S_elem HO_0.out z31 (x5_1 : Int) (of_eq_true p159) (by have e_ := (Kd.S_reads' HO_0.out).1; have h_ := of_eq_true q159; omega); obtain ⟨vej_, rfl, gej_⟩ := k31_openM hMj_; have hvj_ := hccj_ 1 _ rfl; have hvk_ := Option.some.inj (hvj_.symm.trans hx159_1); subst hvk_; have HG_ := Az gej_; have HE_ := Az hHj_; have HP_ := Az hokj_; clear hMj_ hclj_ hccj_ hfrj_ hvj_ gej_ hHj_ hokj_; (with_reducible refine (laws_markIntS.calls k1 okj_ _ ((rd_T31 y158 x5_1).f1) (wrap64 (x1_1 + 1)) t160 t161 w0 _ ?side1 ?side2 A7.out).mono ?_); (case side1 => exact HB.out); (case side2 => exact HG_.out); rintro e w12 ⟨rfl, hoj_, hb, hkp⟩; refine ⟨_, rfl, ?_⟩; have n0 := Az (Kd.H_back (Kd.H_kept (Kd.H_widen HE_.out) hkp (fun k_ _ hn_ => fun hs_ => hn_ (Or.inl hs_))) (k31_mkM _ _ _ (⟨(rd_T31 y158 x5_1).f0, t161⟩ : S31) hoj_) (fun k_ hk_ => hk_.elim (fun h_ => Or.inl h_) (fun h_ => Or.inr ⟨Or.inr (Nat.le_trans HK.out.1 h_), h_⟩))); have n1 := Az (Kept.then_ (S := (fun k_ => P0_ k_)) HK.out hkp (fun k_ hk_ => (HP_.out k_ hk_).1)); have n2 := Az hb; clear HO_0 HL159_1 HR159_1 HK HB HG_ HE_ HP_; have HO_0 := n0; have HK := n1; have HB := n2; clear n0 n1 n2; (try clear hb); (try clear hkp); (try clear hoj_)))
     (first | go_roundg k1 | (refine Handed.intro k1 ?measure ?_; rotate_left; go_step; (try simp only [add_plain]); (repeat apply Exists.intro); refine ⟨?rel, rfl⟩))
     case measure => have := HK1.out; omega
     case rel => exact ⟨(y158.set (x5_1 : Int).toNat (⟨(rd_T31 y158 x5_1).f0, t161⟩ : S31)), (t160), (wrap64 (x5_1 + 1)), rS, rS, H', ⟨by have := HK1.out; omega⟩, ⟨sU HO_0.out⟩, ⟨by repeat (first | (with_reducible first | exact HK.out | apply Kept.alloc | apply Kept.drewN | apply Kept.drew) | exact HK.out)⟩, ⟨bU0 HB.out⟩⟩
    ·
     rw [if_neg c5] at H
     exact absurd H (by simp)
   ·
    rw [if_neg c3] at H; have c3b0 := decide_eq_false c3; clear c3; simp only [Option.some.injEq, Prod.mk.injEq] at H; obtain ⟨rfl, rfl⟩ := H; obtain ⟨Ao13, co13, eo13⟩ := Kd.S_slice HO_0.out; subst eo13
    go_wp2
    go_ret
    exact ⟨rE, sU HO_0.out, bU0 HB.out, by repeat (first | (with_reducible first | exact HK.out | apply Kept.alloc | apply Kept.drewN | apply Kept.drew) | exact HK.out)⟩
def laws_heldIntS.l0 : Nat → List Int → Int → Int → Option (Int)
 | 0, _, _, _ => none
 | k + 1, x0, x1, x5 => if x5 < (x0.length : Int) then (if 0 ≤ x5 then (if (rd x0 x5) = x1 then (laws_heldIntS.l0 k x0 (wrap64 (x1 + 1)) (wrap64 (x5 + 1))) else (some (-1))) else (none)) else (some x1)
def laws_heldIntS.f (k : Nat) (l0 : List Int) (a1 : Int) : Option (Int) := laws_heldIntS.l0 k l0 a1 0
set_option maxHeartbeats 8000000 in
set_option maxRecDepth 100000 in
theorem laws_heldIntS.calls (k : Nat) (A0 : Option Addr) (c0 : Nat) (l0 : List Int) (a1 : Int) (r : Int) (w : World) (hr0 : Kd.C (Kd.int .i64) w A0 l0.length l0) (hc0 : l0.length ≤ c0) (h : laws_heldIntS.f k l0 a1 = some r) :
  Calls Try.prog 12 #[.slice A0 l0.length c0, .int .i64 a1] w fun e w' => e = .returned (.int .i64 r) ∧ Drawn0 w w' := by
 have HR0 := Az hr0; have HC0 := Az hc0; clear hr0 hc0; have H : (laws_heldIntS.l0 k l0 a1 0) = some r := h; clear h; have H' := Az H; clear H
 go_enter Try.func12, Try.ntmps12
 go_wp2
 go_loopg [1, 5] k (fun kq v1 v5 w' => ∃ (x1_1 : Int) (x5_1 : Int), v1 = .int .i64 x1_1 ∧ v5 = .int .i64 x5_1 ∧ Aside0 (laws_heldIntS.l0 kq l0 x1_1 x5_1 = some r) ∧ Aside0 (kq ≤ k) ∧ Drawn0 w w')
 case atStart => exact ⟨(a1), (0), rS, rS, H', ⟨Nat.le_refl _⟩, by repeat (first | exact Drawn0.refl _ | apply Drawn0.step)⟩
 case round =>
  clear H'; (try clear c1); (try clear p2); obtain ⟨x1_1, x5_1, rfl, rfl, HA, HK1, ⟨m1, rfl⟩⟩ := hrel
  cases gk with
  | zero => exact absurd HA.out (by simp [laws_heldIntS.l0])
  | succ k1 =>
   have H := HA.out; clear HA; simp only [laws_heldIntS.l0] at H
   by_cases c3 : x5_1 < (l0.length : Int)
   ·
    rw [if_pos c3] at H; have c3b0 := decide_eq_true c3; clear c3
    by_cases c4 : 0 ≤ x5_1
    ·
     rw [if_pos c4] at H; have c4b0 := decide_eq_true c4; clear c4
     by_cases c5 : (rd l0 x5_1) = x1_1
     ·
      rw [if_pos c5] at H; have c5b0 := beq_iff_eq.mpr c5; have c5b1 := bne_eq_false_iff_eq.mpr c5; clear c5; have H' := Az H; clear H; have p158 : 0 ≤ (x5_1 : Int) := oA; have q158 : x5_1 < (l0.length : Int) := oA; obtain ⟨ad158, e158, hx158_0⟩ := Kd.at_int HR0.out x5_1 p158 q158
      cases e158
      replace p158 := eq_true p158; replace q158 := eq_true q158
      go_wp2
      (first | go_roundg k1 | (refine Handed.intro k1 ?measure ?_; rotate_left; go_step; (try simp only [add_plain]); (repeat apply Exists.intro); refine ⟨?rel, rfl⟩))
      case measure => have := HK1.out; omega
      case rel => exact ⟨(wrap64 (x1_1 + 1)), (wrap64 (x5_1 + 1)), rS, rS, H', ⟨by have := HK1.out; omega⟩, by repeat (first | exact Drawn0.refl _ | apply Drawn0.step)⟩
     ·
      rw [if_neg c5] at H; have c5b0 := beq_eq_false_iff_ne.mpr c5; have c5b1 := bne_iff_ne.mpr c5; obtain rfl := Option.some.inj H; have p158 : 0 ≤ (x5_1 : Int) := oA; have q158 : x5_1 < (l0.length : Int) := oA; obtain ⟨ad158, e158, hx158_0⟩ := Kd.at_int HR0.out x5_1 p158 q158
      cases e158
      replace p158 := eq_true p158; replace q158 := eq_true q158
      go_wp2
      go_ret
      exact ⟨by first | rfl | (simp; done) | (simp [*]; done), by repeat (first | exact Drawn0.refl _ | apply Drawn0.step)⟩
    ·
     rw [if_neg c4] at H
     exact absurd H (by simp)
   ·
    rw [if_neg c3] at H; have c3b0 := decide_eq_false c3; clear c3; obtain rfl := Option.some.inj H
    go_wp2
    go_ret
    exact ⟨by first | rfl | (simp; done) | (simp [*]; done), by repeat (first | exact Drawn0.refl _ | apply Drawn0.step)⟩
def laws_heldTreeS.l0 : Nat → List (S31) → Int → Int → Option (Int)
 | 0, _, _, _ => none
 | k + 1, x0, x1, x5 => if x5 < (x0.length : Int) then (if 0 ≤ x5 then ((laws_markText.f k x1).bind fun t160 => (if ((rd_T31 x0 x5).f0).toList = t160.toList then ((laws_heldIntS.f k ((rd_T31 x0 x5).f1) (wrap64 (x1 + 1))).bind fun t162 => (if t162 < 0 then (some (-1)) else (laws_heldTreeS.l0 k x0 t162 (wrap64 (x5 + 1))))) else (some (-1)))) else (none)) else (some x1)
def laws_heldTreeS.f (k : Nat) (l0 : List (S31)) (a1 : Int) : Option (Int) := laws_heldTreeS.l0 k l0 a1 0
def laws_heldTreeS.T4 : Bool × List (List Nat × List Nat) := (true, [([], []), ([], []), ([0, 1], [0, 1]), ([2], [2]), ([3], [3]), ([], []), ([5], [5]), ([4, 6], [4, 6])])
def laws_heldTreeS.B4 : List Nat := [0, 0, 3, 7, 15, 0, 32, 127]
theorem laws_heldTreeS.tab4 : rtab .any (opsOf Try.f8 4) = laws_heldTreeS.T4 := by kernel_rfl
theorem laws_heldTreeS.bits4 : waitsOk laws_heldTreeS.T4.2 laws_heldTreeS.B4 = true := by kernel_rfl
set_option maxHeartbeats 8000000 in
set_option maxRecDepth 100000 in
theorem laws_heldTreeS.calls (k : Nat) (A0 : Option Addr) (c0 : Nat) (l0 : List (S31)) (a1 : Int) (r : Int) (w : World) (hr0 : Kd.C k31 w A0 l0.length l0) (hc0 : l0.length ≤ c0) (h : laws_heldTreeS.f k l0 a1 = some r) :
  Calls Try.prog 8 #[.slice A0 l0.length c0, .int .i64 a1] w fun e w' => e = .returned (.int .i64 r) ∧ Below w.heap.size w w' := by
 have HR0 := Az hr0; have HC0 := Az hc0; clear hr0 hc0; have HB := Az (Below.refl w.heap.size w); have H : (laws_heldTreeS.l0 k l0 a1 0) = some r := h; clear h; have H' := Az H; clear H
 go_enter Try.func8, Try.ntmps8
 go_wp2
 go_loopg [1, 5] k (fun kq v1 v5 w' => ∃ (x1_1 : Int) (x5_1 : Int), v1 = .int .i64 x1_1 ∧ v5 = .int .i64 x5_1 ∧ Aside0 (laws_heldTreeS.l0 kq l0 x1_1 x5_1 = some r) ∧ Aside0 (kq ≤ k) ∧ Aside0 (Below w.heap.size w w'))
 case atStart => exact ⟨(a1), (0), rS, rS, H', ⟨Nat.le_refl _⟩, ⟨bU0 HB.out⟩⟩
 case round =>
  clear H'; (try clear p2); obtain ⟨x1_1, x5_1, rfl, rfl, HA, HK1, HB⟩ := hrel
  cases gk with
  | zero => exact absurd HA.out (by simp [laws_heldTreeS.l0])
  | succ k1 =>
   have H := HA.out; clear HA; simp only [laws_heldTreeS.l0] at H
   by_cases c3 : x5_1 < (l0.length : Int)
   ·
    rw [if_pos c3] at H; have c3b0 := decide_eq_true c3; clear c3
    by_cases c4 : 0 ≤ x5_1
    ·
     rw [if_pos c4] at H; have c4b0 := decide_eq_true c4; clear c4; replace H := Option.bind_eq_some_iff.mp H; obtain ⟨t160, A50, H⟩ := H; replace H : (if ((rd_T31 l0 x5_1).f0).toList = t160.toList then ((laws_heldIntS.f k1 ((rd_T31 l0 x5_1).f1) (wrap64 (x1_1 + 1))).bind fun t162 => (if t162 < 0 then (some (-1)) else (laws_heldTreeS.l0 k1 l0 t162 (wrap64 (x5_1 + 1))))) else (some (-1))) = some r := H; have A5 := Az A50; clear A50
     by_cases c6 : ((rd_T31 l0 x5_1).f0).toList = t160.toList
     ·
      rw [if_pos c6] at H; have c6b0 := beq_iff_eq.mpr c6; have c6b1 := bne_eq_false_iff_eq.mpr c6; clear c6; replace H := Option.bind_eq_some_iff.mp H; obtain ⟨t162, A70, H⟩ := H; replace H : (if t162 < 0 then (some (-1)) else (laws_heldTreeS.l0 k1 l0 t162 (wrap64 (x5_1 + 1)))) = some r := H; have A7 := Az A70; clear A70
      by_cases c8 : t162 < 0
      ·
       rw [if_pos c8] at H; have c8b0 := decide_eq_true c8; clear c8; obtain rfl := Option.some.inj H
       try go_wp2
       have n0 := Az (below_drew1 HB.out); clear HB; have HB := n0; clear n0; have p159 : 0 ≤ (x5_1 : Int) := oA; have q159 : x5_1 < (l0.length : Int) := oA; obtain ⟨ad159, A159_1, c159_1, e159, hx159_0, hx159_1, hl159_1, hi159_1⟩ := at_T31 HR0.out x5_1 p159 q159; have hw159_1 := hx159_1; have hw159_0 := hx159_0
       cases e159
       (try replace hx159_0 := (HB.out.cell (World.block_lt_of_cell? w _ hx159_0)).trans hx159_0); (try replace hx159_1 := (HB.out.cell (World.block_lt_of_cell? w _ hx159_1)).trans hx159_1); have HR159_1 := Az hi159_1; have HC159_1 := Az hl159_1; clear hi159_1 hl159_1; replace p159 := eq_true p159; replace q159 := eq_true q159
       refine start_ (n := 8) (S := fun w' => w'.cell? (ad159.add ((x5_1).toNat * 2)) = some (.string ((rd_T31 l0 x5_1).f0)) ∧ w'.cell? ⟨(ad159.add ((x5_1).toNat * 2)).block, (ad159.add ((x5_1).toNat * 2)).off + 1, none⟩ = some (.slice A159_1 ((rd_T31 l0 x5_1).f1).length c159_1)) (ds := []) #[false, false, false, false, false, false, false, false] (by kernel_rfl) rfl rfl ⟨(by first | exact hw159_0 | exact (HB.out.cell (World.block_lt_of_cell? w _ hw159_0)).trans hw159_0), (by first | exact hw159_1 | exact (HB.out.cell (World.block_lt_of_cell? w _ hw159_1)).trans hw159_1)⟩ (fun hHeld => ?_); refine with_tabW laws_heldTreeS.tab4 laws_heldTreeS.bits4 (fun HT_ HW_ => ?_)
       generalize wr.drew = w9 at HB HR159_1 hx159_0 hx159_1 hHeld ⊢
       refine pure_ (i := 0) (N := some 12) (v := ?_) (a' := ?_) #[true, false, false, false, false, false, false, false] rfl rfl (any_of HT_.out (by kernel_rfl)) (fun _ _ _ h => h) (Or.inl ⟨by rfl, ?_⟩) ?_ ?_
       rotate_left
       ·
        intro w'
        go_simp
        with_reducible rfl
       rotate_left
       ·
        simp only [Act.put, List.setIfInBounds_toArray, List.set_cons_zero, List.set_cons_succ, i64_w, i32_w]
        rfl
       refine pure_ (i := 1) (N := some 13) (v := ?_) (a' := ?_) #[true, true, false, false, false, false, false, false] rfl rfl (any_of HT_.out (by kernel_rfl)) (fun _ _ _ h => h) (Or.inl ⟨by rfl, ?_⟩) ?_ ?_
       rotate_left
       ·
        intro w'
        go_simp
        with_reducible rfl
       rotate_left
       ·
        simp only [Act.put, List.setIfInBounds_toArray, List.set_cons_zero, List.set_cons_succ, i64_w, i32_w]
        rfl
       refine pure_ (i := 2) (N := some 14) (v := ?_) (a' := ?_) #[true, true, true, false, false, false, false, false] rfl rfl (any_of HT_.out (by kernel_rfl)) (fun _ _ _ h => h) (Or.inl ⟨by rfl, ?_⟩) ?_ ?_
       rotate_left
       ·
        intro w'
        go_simp
        with_reducible rfl
       rotate_left
       ·
        simp only [Act.put, List.setIfInBounds_toArray, List.set_cons_zero, List.set_cons_succ, i64_w, i32_w]
        rfl
       refine pure_ (i := 3) (N := some 15) (v := ?_) (a' := ?_) #[true, true, true, true, false, false, false, false] rfl rfl (any_of HT_.out (by kernel_rfl)) (fun _ _ _ h => h) (Or.inl ⟨by rfl, ?_⟩) ?_ ?_
       rotate_left
       ·
        intro w'
        go_simp
        with_reducible rfl
       rotate_left
       ·
        simp only [Act.put, List.setIfInBounds_toArray, List.set_cons_zero, List.set_cons_succ, i64_w, i32_w]
        rfl
       refine pure_ (i := 5) (N := some 17) (v := ?_) (a' := ?_) #[true, true, true, true, false, true, false, false] rfl rfl (any_of HT_.out (by kernel_rfl)) (fun _ _ _ h => h) (Or.inl ⟨by rfl, ?_⟩) ?_ ?_
       rotate_left
       ·
        intro w'
        go_simp
        with_reducible rfl
       rotate_left
       ·
        simp only [Act.put, List.setIfInBounds_toArray, List.set_cons_zero, List.set_cons_succ, i64_w, i32_w]
        rfl
       refine take_ (i := 4) (N := some 16) (v := ?_) (a' := ?_) #[true, true, true, true, true, true, false, false] rfl rfl (take_ofW HT_.out HW_.out (by kernel_rfl)) (fun _ _ _ h => h) (Or.inl ⟨by rfl, ?_⟩) hHeld ?_ ?_
       rotate_left
       ·
        rintro w' ⟨s0, s1⟩
        go_simp
        with_reducible rfl
       rotate_left
       ·
        simp only [Act.put, List.setIfInBounds_toArray, List.set_cons_zero, List.set_cons_succ, i64_w, i32_w]
        rfl
       refine one_ (i := 6) (N := some 18) #[true, true, true, true, true, true, true, false] rfl rfl (one_of HT_.out (by kernel_rfl)) (by decide) (fun K hK => ?_)
       refine goes_ Try.func10 (by kernel_rfl) rfl #[.int .i64 x1_1] (by rfl) rfl rfl (by (try simp only [List.map_toArray, List.map_cons, List.map_nil]); first | done | rfl | (simp only [List.length_drop, List.length_take]; rfl)) ?_
       with_reducible refine (laws_markText.calls k1 x1_1 t160 _ A5.out).mono ?_
       rintro e w10 ⟨rfl, hb⟩
       refine ⟨_, rfl, ?_⟩
       have n0 := Az (below_step (bU0 HB.out) hb); clear HB; have HB := n0; clear n0; (try clear hb); (try clear hb2); (try clear hk); (try clear hi)
       refine hK.out _ _ ⟨(by first | exact hw159_0 | exact (HB.out.cell (World.block_lt_of_cell? w _ hw159_0)).trans hw159_0), (by first | exact hw159_1 | exact (HB.out.cell (World.block_lt_of_cell? w _ hw159_1)).trans hw159_1)⟩ (fun hHeld => ?_)
       clear hK K
       refine norm_ (a' := ?_) ?_ ?_
       rotate_left
       ·
        show Act.put _ (some 18) _ = _
        simp only [Act.put, List.setIfInBounds_toArray, List.set_cons_zero, List.set_cons_succ, i64_w, i32_w]
        rfl
       refine pure_ (i := 7) (N := some 19) (v := ?_) (a' := ?_) #[true, true, true, true, true, true, true, true] rfl rfl (any_of HT_.out (by kernel_rfl)) (fun _ _ _ h => h) (Or.inl ⟨by rfl, ?_⟩) ?_ ?_
       rotate_left
       ·
        intro w'
        go_simp
        with_reducible rfl
       rotate_left
       ·
        simp only [Act.put, List.setIfInBounds_toArray, List.set_cons_zero, List.set_cons_succ, i64_w, i32_w]
        rfl
       refine done_ (done_of HT_.out (by kernel_rfl)) ?_
       have p161 : 0 ≤ (x5_1 : Int) := oA; have q161 : x5_1 < (l0.length : Int) := oA; obtain ⟨ad161, A161_1, c161_1, e161, hx161_0, hx161_1, hl161_1, hi161_1⟩ := at_T31 HR0.out x5_1 p161 q161; obtain rfl : ad159 = ad161 := (by injection e161); (try (have ez_ := Option.some.inj (hx161_1.symm.trans hw159_1); injection ez_ with ez1_ ez2_ ez3_; subst ez1_; subst ez3_)); (try replace hx161_0 := (HB.out.cell (World.block_lt_of_cell? w _ hx161_0)).trans hx161_0); (try replace hx161_1 := (HB.out.cell (World.block_lt_of_cell? w _ hx161_1)).trans hx161_1); have HR161_1 := Az hi161_1; have HC161_1 := Az hl161_1; clear hi161_1 hl161_1; replace p161 := eq_true p161; replace q161 := eq_true q161
       try go_wp2_with (first | ((with_reducible refine gate_callee (f := 12) rfl ?_); refine goesL_ (some 28) rfl rfl Try.func12 (by kernel_rfl) rfl #[.slice A161_1 ((rd_T31 l0 x5_1).f1).length c161_1, .int .i64 (wrap64 (x1_1 + 1))] rfl (by (try simp only [List.map_toArray, List.map_cons, List.map_nil]); first | done | rfl | (simp only [List.length_drop, List.length_take]; rfl)) ?_; (with_reducible refine (laws_heldIntS.calls k1 _ _ ((rd_T31 l0 x5_1).f1) (wrap64 (x1_1 + 1)) t162 _ ?side1 ?side2 A7.out).mono ?_); (case side1 => exact cU (Kd.C_below HR161_1.out HB.out)); (case side2 => exact HC161_1.out); rintro e w' ⟨rfl, ⟨nd, rfl⟩⟩; refine ⟨_, rfl, ?_⟩))
       go_ret
       exact ⟨rE, bU0 HB.out⟩
      ·
       rw [if_neg c8] at H; have c8b0 := decide_eq_false c8; clear c8; have H' := Az H; clear H
       try go_wp2
       have n0 := Az (below_drew1 HB.out); clear HB; have HB := n0; clear n0; have p159 : 0 ≤ (x5_1 : Int) := oA; have q159 : x5_1 < (l0.length : Int) := oA; obtain ⟨ad159, A159_1, c159_1, e159, hx159_0, hx159_1, hl159_1, hi159_1⟩ := at_T31 HR0.out x5_1 p159 q159; have hw159_1 := hx159_1; have hw159_0 := hx159_0
       cases e159
       (try replace hx159_0 := (HB.out.cell (World.block_lt_of_cell? w _ hx159_0)).trans hx159_0); (try replace hx159_1 := (HB.out.cell (World.block_lt_of_cell? w _ hx159_1)).trans hx159_1); have HR159_1 := Az hi159_1; have HC159_1 := Az hl159_1; clear hi159_1 hl159_1; replace p159 := eq_true p159; replace q159 := eq_true q159
       refine start_ (n := 8) (S := fun w' => w'.cell? (ad159.add ((x5_1).toNat * 2)) = some (.string ((rd_T31 l0 x5_1).f0)) ∧ w'.cell? ⟨(ad159.add ((x5_1).toNat * 2)).block, (ad159.add ((x5_1).toNat * 2)).off + 1, none⟩ = some (.slice A159_1 ((rd_T31 l0 x5_1).f1).length c159_1)) (ds := []) #[false, false, false, false, false, false, false, false] (by kernel_rfl) rfl rfl ⟨(by first | exact hw159_0 | exact (HB.out.cell (World.block_lt_of_cell? w _ hw159_0)).trans hw159_0), (by first | exact hw159_1 | exact (HB.out.cell (World.block_lt_of_cell? w _ hw159_1)).trans hw159_1)⟩ (fun hHeld => ?_); refine with_tabW laws_heldTreeS.tab4 laws_heldTreeS.bits4 (fun HT_ HW_ => ?_)
       generalize wr.drew = w11 at HB HR159_1 hx159_0 hx159_1 hHeld ⊢
       refine pure_ (i := 0) (N := some 12) (v := ?_) (a' := ?_) #[true, false, false, false, false, false, false, false] rfl rfl (any_of HT_.out (by kernel_rfl)) (fun _ _ _ h => h) (Or.inl ⟨by rfl, ?_⟩) ?_ ?_
       rotate_left
       ·
        intro w'
        go_simp
        with_reducible rfl
       rotate_left
       ·
        simp only [Act.put, List.setIfInBounds_toArray, List.set_cons_zero, List.set_cons_succ, i64_w, i32_w]
        rfl
       refine pure_ (i := 1) (N := some 13) (v := ?_) (a' := ?_) #[true, true, false, false, false, false, false, false] rfl rfl (any_of HT_.out (by kernel_rfl)) (fun _ _ _ h => h) (Or.inl ⟨by rfl, ?_⟩) ?_ ?_
       rotate_left
       ·
        intro w'
        go_simp
        with_reducible rfl
       rotate_left
       ·
        simp only [Act.put, List.setIfInBounds_toArray, List.set_cons_zero, List.set_cons_succ, i64_w, i32_w]
        rfl
       refine pure_ (i := 2) (N := some 14) (v := ?_) (a' := ?_) #[true, true, true, false, false, false, false, false] rfl rfl (any_of HT_.out (by kernel_rfl)) (fun _ _ _ h => h) (Or.inl ⟨by rfl, ?_⟩) ?_ ?_
       rotate_left
       ·
        intro w'
        go_simp
        with_reducible rfl
       rotate_left
       ·
        simp only [Act.put, List.setIfInBounds_toArray, List.set_cons_zero, List.set_cons_succ, i64_w, i32_w]
        rfl
       refine pure_ (i := 3) (N := some 15) (v := ?_) (a' := ?_) #[true, true, true, true, false, false, false, false] rfl rfl (any_of HT_.out (by kernel_rfl)) (fun _ _ _ h => h) (Or.inl ⟨by rfl, ?_⟩) ?_ ?_
       rotate_left
       ·
        intro w'
        go_simp
        with_reducible rfl
       rotate_left
       ·
        simp only [Act.put, List.setIfInBounds_toArray, List.set_cons_zero, List.set_cons_succ, i64_w, i32_w]
        rfl
       refine pure_ (i := 5) (N := some 17) (v := ?_) (a' := ?_) #[true, true, true, true, false, true, false, false] rfl rfl (any_of HT_.out (by kernel_rfl)) (fun _ _ _ h => h) (Or.inl ⟨by rfl, ?_⟩) ?_ ?_
       rotate_left
       ·
        intro w'
        go_simp
        with_reducible rfl
       rotate_left
       ·
        simp only [Act.put, List.setIfInBounds_toArray, List.set_cons_zero, List.set_cons_succ, i64_w, i32_w]
        rfl
       refine take_ (i := 4) (N := some 16) (v := ?_) (a' := ?_) #[true, true, true, true, true, true, false, false] rfl rfl (take_ofW HT_.out HW_.out (by kernel_rfl)) (fun _ _ _ h => h) (Or.inl ⟨by rfl, ?_⟩) hHeld ?_ ?_
       rotate_left
       ·
        rintro w' ⟨s0, s1⟩
        go_simp
        with_reducible rfl
       rotate_left
       ·
        simp only [Act.put, List.setIfInBounds_toArray, List.set_cons_zero, List.set_cons_succ, i64_w, i32_w]
        rfl
       refine one_ (i := 6) (N := some 18) #[true, true, true, true, true, true, true, false] rfl rfl (one_of HT_.out (by kernel_rfl)) (by decide) (fun K hK => ?_)
       refine goes_ Try.func10 (by kernel_rfl) rfl #[.int .i64 x1_1] (by rfl) rfl rfl (by (try simp only [List.map_toArray, List.map_cons, List.map_nil]); first | done | rfl | (simp only [List.length_drop, List.length_take]; rfl)) ?_
       with_reducible refine (laws_markText.calls k1 x1_1 t160 _ A5.out).mono ?_
       rintro e w12 ⟨rfl, hb⟩
       refine ⟨_, rfl, ?_⟩
       have n0 := Az (below_step (bU0 HB.out) hb); clear HB; have HB := n0; clear n0; (try clear hb); (try clear hb2); (try clear hk); (try clear hi)
       refine hK.out _ _ ⟨(by first | exact hw159_0 | exact (HB.out.cell (World.block_lt_of_cell? w _ hw159_0)).trans hw159_0), (by first | exact hw159_1 | exact (HB.out.cell (World.block_lt_of_cell? w _ hw159_1)).trans hw159_1)⟩ (fun hHeld => ?_)
       clear hK K
       refine norm_ (a' := ?_) ?_ ?_
       rotate_left
       ·
        show Act.put _ (some 18) _ = _
        simp only [Act.put, List.setIfInBounds_toArray, List.set_cons_zero, List.set_cons_succ, i64_w, i32_w]
        rfl
       refine pure_ (i := 7) (N := some 19) (v := ?_) (a' := ?_) #[true, true, true, true, true, true, true, true] rfl rfl (any_of HT_.out (by kernel_rfl)) (fun _ _ _ h => h) (Or.inl ⟨by rfl, ?_⟩) ?_ ?_
       rotate_left
       ·
        intro w'
        go_simp
        with_reducible rfl
       rotate_left
       ·
        simp only [Act.put, List.setIfInBounds_toArray, List.set_cons_zero, List.set_cons_succ, i64_w, i32_w]
        rfl
       refine done_ (done_of HT_.out (by kernel_rfl)) ?_
       have p161 : 0 ≤ (x5_1 : Int) := oA; have q161 : x5_1 < (l0.length : Int) := oA; obtain ⟨ad161, A161_1, c161_1, e161, hx161_0, hx161_1, hl161_1, hi161_1⟩ := at_T31 HR0.out x5_1 p161 q161; obtain rfl : ad159 = ad161 := (by injection e161); (try (have ez_ := Option.some.inj (hx161_1.symm.trans hw159_1); injection ez_ with ez1_ ez2_ ez3_; subst ez1_; subst ez3_)); (try replace hx161_0 := (HB.out.cell (World.block_lt_of_cell? w _ hx161_0)).trans hx161_0); (try replace hx161_1 := (HB.out.cell (World.block_lt_of_cell? w _ hx161_1)).trans hx161_1); have HR161_1 := Az hi161_1; have HC161_1 := Az hl161_1; clear hi161_1 hl161_1; replace p161 := eq_true p161; replace q161 := eq_true q161
       try go_wp2_with (first | ((with_reducible refine gate_callee (f := 12) rfl ?_); refine goesL_ (some 28) rfl rfl Try.func12 (by kernel_rfl) rfl #[.slice A161_1 ((rd_T31 l0 x5_1).f1).length c161_1, .int .i64 (wrap64 (x1_1 + 1))] rfl (by (try simp only [List.map_toArray, List.map_cons, List.map_nil]); first | done | rfl | (simp only [List.length_drop, List.length_take]; rfl)) ?_; (with_reducible refine (laws_heldIntS.calls k1 _ _ ((rd_T31 l0 x5_1).f1) (wrap64 (x1_1 + 1)) t162 _ ?side1 ?side2 A7.out).mono ?_); (case side1 => exact cU (Kd.C_below HR161_1.out HB.out)); (case side2 => exact HC161_1.out); rintro e w' ⟨rfl, ⟨nd, rfl⟩⟩; refine ⟨_, rfl, ?_⟩))
       (first | go_roundg k1 | (refine Handed.intro k1 ?measure ?_; rotate_left; go_step; (try simp only [add_plain]); (repeat apply Exists.intro); refine ⟨?rel, rfl⟩))
       case measure => have := HK1.out; omega
       case rel => exact ⟨(t162), (wrap64 (x5_1 + 1)), rS, rS, H', ⟨by have := HK1.out; omega⟩, ⟨bU0 HB.out⟩⟩
     ·
      rw [if_neg c6] at H; have c6b0 := beq_eq_false_iff_ne.mpr c6; have c6b1 := bne_iff_ne.mpr c6; obtain rfl := Option.some.inj H
      try go_wp2
      have n0 := Az (below_drew1 HB.out); clear HB; have HB := n0; clear n0; have p159 : 0 ≤ (x5_1 : Int) := oA; have q159 : x5_1 < (l0.length : Int) := oA; obtain ⟨ad159, A159_1, c159_1, e159, hx159_0, hx159_1, hl159_1, hi159_1⟩ := at_T31 HR0.out x5_1 p159 q159; have hw159_1 := hx159_1; have hw159_0 := hx159_0
      cases e159
      (try replace hx159_0 := (HB.out.cell (World.block_lt_of_cell? w _ hx159_0)).trans hx159_0); (try replace hx159_1 := (HB.out.cell (World.block_lt_of_cell? w _ hx159_1)).trans hx159_1); have HR159_1 := Az hi159_1; have HC159_1 := Az hl159_1; clear hi159_1 hl159_1; replace p159 := eq_true p159; replace q159 := eq_true q159
      refine start_ (n := 8) (S := fun w' => w'.cell? (ad159.add ((x5_1).toNat * 2)) = some (.string ((rd_T31 l0 x5_1).f0)) ∧ w'.cell? ⟨(ad159.add ((x5_1).toNat * 2)).block, (ad159.add ((x5_1).toNat * 2)).off + 1, none⟩ = some (.slice A159_1 ((rd_T31 l0 x5_1).f1).length c159_1)) (ds := []) #[false, false, false, false, false, false, false, false] (by kernel_rfl) rfl rfl ⟨(by first | exact hw159_0 | exact (HB.out.cell (World.block_lt_of_cell? w _ hw159_0)).trans hw159_0), (by first | exact hw159_1 | exact (HB.out.cell (World.block_lt_of_cell? w _ hw159_1)).trans hw159_1)⟩ (fun hHeld => ?_); refine with_tabW laws_heldTreeS.tab4 laws_heldTreeS.bits4 (fun HT_ HW_ => ?_)
      generalize wr.drew = w13 at HB HR159_1 hx159_0 hx159_1 hHeld ⊢
      refine pure_ (i := 0) (N := some 12) (v := ?_) (a' := ?_) #[true, false, false, false, false, false, false, false] rfl rfl (any_of HT_.out (by kernel_rfl)) (fun _ _ _ h => h) (Or.inl ⟨by rfl, ?_⟩) ?_ ?_
      rotate_left
      ·
       intro w'
       go_simp
       with_reducible rfl
      rotate_left
      ·
       simp only [Act.put, List.setIfInBounds_toArray, List.set_cons_zero, List.set_cons_succ, i64_w, i32_w]
       rfl
      refine pure_ (i := 1) (N := some 13) (v := ?_) (a' := ?_) #[true, true, false, false, false, false, false, false] rfl rfl (any_of HT_.out (by kernel_rfl)) (fun _ _ _ h => h) (Or.inl ⟨by rfl, ?_⟩) ?_ ?_
      rotate_left
      ·
       intro w'
       go_simp
       with_reducible rfl
      rotate_left
      ·
       simp only [Act.put, List.setIfInBounds_toArray, List.set_cons_zero, List.set_cons_succ, i64_w, i32_w]
       rfl
      refine pure_ (i := 2) (N := some 14) (v := ?_) (a' := ?_) #[true, true, true, false, false, false, false, false] rfl rfl (any_of HT_.out (by kernel_rfl)) (fun _ _ _ h => h) (Or.inl ⟨by rfl, ?_⟩) ?_ ?_
      rotate_left
      ·
       intro w'
       go_simp
       with_reducible rfl
      rotate_left
      ·
       simp only [Act.put, List.setIfInBounds_toArray, List.set_cons_zero, List.set_cons_succ, i64_w, i32_w]
       rfl
      refine pure_ (i := 3) (N := some 15) (v := ?_) (a' := ?_) #[true, true, true, true, false, false, false, false] rfl rfl (any_of HT_.out (by kernel_rfl)) (fun _ _ _ h => h) (Or.inl ⟨by rfl, ?_⟩) ?_ ?_
      rotate_left
      ·
       intro w'
       go_simp
       with_reducible rfl
      rotate_left
      ·
       simp only [Act.put, List.setIfInBounds_toArray, List.set_cons_zero, List.set_cons_succ, i64_w, i32_w]
       rfl
      refine pure_ (i := 5) (N := some 17) (v := ?_) (a' := ?_) #[true, true, true, true, false, true, false, false] rfl rfl (any_of HT_.out (by kernel_rfl)) (fun _ _ _ h => h) (Or.inl ⟨by rfl, ?_⟩) ?_ ?_
      rotate_left
      ·
       intro w'
       go_simp
       with_reducible rfl
      rotate_left
      ·
       simp only [Act.put, List.setIfInBounds_toArray, List.set_cons_zero, List.set_cons_succ, i64_w, i32_w]
       rfl
      refine take_ (i := 4) (N := some 16) (v := ?_) (a' := ?_) #[true, true, true, true, true, true, false, false] rfl rfl (take_ofW HT_.out HW_.out (by kernel_rfl)) (fun _ _ _ h => h) (Or.inl ⟨by rfl, ?_⟩) hHeld ?_ ?_
      rotate_left
      ·
       rintro w' ⟨s0, s1⟩
       go_simp
       with_reducible rfl
      rotate_left
      ·
       simp only [Act.put, List.setIfInBounds_toArray, List.set_cons_zero, List.set_cons_succ, i64_w, i32_w]
       rfl
      refine one_ (i := 6) (N := some 18) #[true, true, true, true, true, true, true, false] rfl rfl (one_of HT_.out (by kernel_rfl)) (by decide) (fun K hK => ?_)
      refine goes_ Try.func10 (by kernel_rfl) rfl #[.int .i64 x1_1] (by rfl) rfl rfl (by (try simp only [List.map_toArray, List.map_cons, List.map_nil]); first | done | rfl | (simp only [List.length_drop, List.length_take]; rfl)) ?_
      with_reducible refine (laws_markText.calls k1 x1_1 t160 _ A5.out).mono ?_
      rintro e w14 ⟨rfl, hb⟩
      refine ⟨_, rfl, ?_⟩
      have n0 := Az (below_step (bU0 HB.out) hb); clear HB; have HB := n0; clear n0; (try clear hb); (try clear hb2); (try clear hk); (try clear hi)
      refine hK.out _ _ ⟨(by first | exact hw159_0 | exact (HB.out.cell (World.block_lt_of_cell? w _ hw159_0)).trans hw159_0), (by first | exact hw159_1 | exact (HB.out.cell (World.block_lt_of_cell? w _ hw159_1)).trans hw159_1)⟩ (fun hHeld => ?_)
      clear hK K
      refine norm_ (a' := ?_) ?_ ?_
      rotate_left
      ·
       show Act.put _ (some 18) _ = _
       simp only [Act.put, List.setIfInBounds_toArray, List.set_cons_zero, List.set_cons_succ, i64_w, i32_w]
       rfl
      refine pure_ (i := 7) (N := some 19) (v := ?_) (a' := ?_) #[true, true, true, true, true, true, true, true] rfl rfl (any_of HT_.out (by kernel_rfl)) (fun _ _ _ h => h) (Or.inl ⟨by rfl, ?_⟩) ?_ ?_
      rotate_left
      ·
       intro w'
       go_simp
       with_reducible rfl
      rotate_left
      ·
       simp only [Act.put, List.setIfInBounds_toArray, List.set_cons_zero, List.set_cons_succ, i64_w, i32_w]
       rfl
      refine done_ (done_of HT_.out (by kernel_rfl)) ?_
      try go_wp2
      go_ret
      exact ⟨rE, bU0 HB.out⟩
    ·
     rw [if_neg c4] at H
     exact absurd H (by simp)
   ·
    rw [if_neg c3] at H; have c3b0 := decide_eq_false c3; clear c3; obtain rfl := Option.some.inj H
    go_wp2
    go_ret
    exact ⟨rE, bU0 HB.out⟩
mutual
def laws_FnExactTreeAll.j0 : Nat → Int → List (S31) → Bool → List (S31) → Bool → Option (Bool)
 | 0, _, _, _, _, _ => none
 | k + 1, x0, x3, x4, x5, x29 => if x29 = true then (some false) else ((laws_markTreeS.f k x5 1).bind fun bt172 => ((laws_heldTreeS.f k bt172.2 1).bind fun t173 => (if t173 < 0 then (some false) else (if t173 = bt172.1 then ((impl_TreeAll.f k x0).bind fun bt174 => ((laws_eqTreeS.f k bt174.1 x3).bind fun t178 => (if t178 = true then (laws_FnExactTreeAll.j1 k bt172.2 bt172.1 (bt174.2 != x4)) else (laws_FnExactTreeAll.j1 k bt172.2 bt172.1 true)))) else (some false)))))
def laws_FnExactTreeAll.j1 : Nat → List (S31) → Int → Bool → Option (Bool)
 | 0, _, _, _ => none
 | k + 1, x5, x7, x54 => if x54 = true then (some false) else ((laws_heldTreeS.f k x5 1).bind fun t179 => (if t179 < 0 then (some false) else (if t179 = x7 then (some true) else (some false))))
end
def laws_FnExactTreeAll.f (k : Nat) (a0 : Int) : Option (Bool) := (spec_TreeAll.f k a0).bind fun bt163 => ((impl_TreeAll.f k a0).bind fun bt167 => ((laws_eqTreeS.f k bt167.1 bt163.1).bind fun t171 => (if t171 = true then (laws_FnExactTreeAll.j0 k a0 bt163.1 bt163.2 bt167.1 (bt167.2 != bt163.2)) else (laws_FnExactTreeAll.j0 k a0 bt163.1 bt163.2 bt167.1 true))))
set_option maxHeartbeats 8000000 in
set_option maxRecDepth 100000 in
theorem laws_FnExactTreeAll.calls (k : Nat) (a0 : Int) (r : Bool) (w : World) (h : laws_FnExactTreeAll.f k a0 = some r) :
  Calls Try.prog 3 #[.int .i64 a0] w fun e w' => e = .returned (.bool r) ∧ Below w.heap.size w w' := by
 have HB := Az (Below.refl w.heap.size w); have H : ((spec_TreeAll.f k a0).bind fun bt163 => ((impl_TreeAll.f k a0).bind fun bt167 => ((laws_eqTreeS.f k bt167.1 bt163.1).bind fun t171 => (if t171 = true then (laws_FnExactTreeAll.j0 k a0 bt163.1 bt163.2 bt167.1 (bt167.2 != bt163.2)) else (laws_FnExactTreeAll.j0 k a0 bt163.1 bt163.2 bt167.1 true))))) = some r := h; clear h; replace H := Option.bind_eq_some_iff.mp H; obtain ⟨⟨t163, t164⟩, A20, H⟩ := H; replace H : ((impl_TreeAll.f k a0).bind fun bt167 => ((laws_eqTreeS.f k bt167.1 t163).bind fun t171 => (if t171 = true then (laws_FnExactTreeAll.j0 k a0 t163 t164 bt167.1 (bt167.2 != t164)) else (laws_FnExactTreeAll.j0 k a0 t163 t164 bt167.1 true)))) = some r := H; have A2 := Az A20; clear A20; replace H := Option.bind_eq_some_iff.mp H; obtain ⟨⟨t167, t168⟩, A30, H⟩ := H; replace H : ((laws_eqTreeS.f k t167 t163).bind fun t171 => (if t171 = true then (laws_FnExactTreeAll.j0 k a0 t163 t164 t167 (t168 != t164)) else (laws_FnExactTreeAll.j0 k a0 t163 t164 t167 true))) = some r := H; have A3 := Az A30; clear A30; have HC4 := Az H; clear H
 go_enter Try.func3, Try.ntmps3
 go_upto_region 3 with (first | ((with_reducible refine gate_callee (f := 4) rfl ?_); refine goesL_ (some 13) rfl rfl Try.func4 (by kernel_rfl) rfl #[.int .i64 a0] rfl (by (try simp only [List.map_toArray, List.map_cons, List.map_nil]); first | done | rfl | (simp only [List.length_drop, List.length_take]; rfl)) ?_; (with_reducible refine (spec_TreeAll.calls k a0 t163 t164 _ A2.out).mono ?_); rintro e w5 ⟨v165, rfl, ho0, hb⟩; refine ⟨_, rfl, ?_⟩; have n0 := Az (Kd.S_lower ho0 (below_size (bU0 HB.out))); have n1 := Az (below_step (bU0 HB.out) hb); clear HB; have HO166 := n0; have HB := n1; clear n0 n1; (try clear hb); (try clear hb2); (try clear hk); (try clear hi); (try clear ho0)) | ((with_reducible refine gate_callee (f := 5) rfl ?_); refine goesL_ (some 18) rfl rfl Try.func5 (by kernel_rfl) rfl #[.int .i64 a0] rfl (by (try simp only [List.map_toArray, List.map_cons, List.map_nil]); first | done | rfl | (simp only [List.length_drop, List.length_take]; rfl)) ?_; (with_reducible refine (impl_TreeAll.calls k a0 t167 t168 _ A3.out).mono ?_); rintro e w6 ⟨v169, rfl, ho0, hb⟩; refine ⟨_, rfl, ?_⟩; have hs5_ := Kd.S_mono (ok' := (fun k_ => k_ < w5.heap.size)) (Kd.S_bound HO166.out) (fun k_ hk_ => hk_.2.2.1); have n0 := Az (Kd.S_below (by (with_reducible repeat (first | apply Kd.S_alloc | apply Kd.S_drewN | apply Kd.S_drew)); exact hs5_) hb); clear hs5_; have n1 := Az (Kd.S_lower (Kd.S_mono (ok' := (fun k_ => w5.heap.size ≤ k_)) (Kd.S_bound ho0) (fun k_ hk_ => hk_.2.1)) (below_size (bU0 HB.out))); have n2 := Az (below_step (bU0 HB.out) hb); clear HO166 HB; have HO166 := n0; have HO170 := n1; have HB := n2; clear n0 n1 n2; (try clear hb); (try clear hb2); (try clear hk); (try clear hi); (try clear ho0)))
 (try simp only [Act.put, List.setIfInBounds_toArray, List.set_cons_zero, List.set_cons_succ])
 go_cut [29] (fun v29 wc => ∃ (kq : Nat) (x29_3 : Bool), v29 = .bool x29_3 ∧ Aside0 (laws_FnExactTreeAll.j0 kq a0 t163 t164 t167 x29_3 = some r) ∧ Aside0 (kq ≤ k) ∧ Aside0 (Kd.S k31 31 wc w.heap.size (fun k_ => k_ < w5.heap.size) v165 t163) ∧ Aside0 (Kd.S k31 31 wc w.heap.size (fun k_ => w5.heap.size ≤ k_) v169 t167) ∧ Aside0 (Below w.heap.size w wc))
 case first =>
  have H := HC4.out; clear HC4; replace H := Option.bind_eq_some_iff.mp H; obtain ⟨t171, A70, H⟩ := H; replace H : (if t171 = true then (laws_FnExactTreeAll.j0 k a0 t163 t164 t167 (t168 != t164)) else (laws_FnExactTreeAll.j0 k a0 t163 t164 t167 true)) = some r := H; have A7 := Az A70; clear A70
  by_cases c8 : t171 = true
  ·
   subst c8
   have H1 : (laws_FnExactTreeAll.j0 k a0 t163 t164 t167 (t168 != t164)) = some r := by rw [if_pos rfl] at H; exact H
   clear H; have H := H1; clear H1; have H' := Az H; clear H; obtain ⟨Ao9, co9, eo9⟩ := Kd.S_slice HO170.out; subst eo9; obtain ⟨Ao10, co10, eo10⟩ := Kd.S_slice HO166.out; subst eo10
   go_wp2_with (first | ((with_reducible refine gate_callee (f := 6) rfl ?_); refine goesL_ (some 23) rfl rfl Try.func6 (by kernel_rfl) rfl #[.slice Ao9 t167.length co9, .slice Ao10 t163.length co10] rfl (by (try simp only [List.map_toArray, List.map_cons, List.map_nil]); first | done | rfl | (simp only [List.length_drop, List.length_take]; rfl)) ?_; (with_reducible refine (laws_eqTreeS.calls k _ _ t167 _ _ t163 true _ ?side1 ?side2 ?side3 ?side4 A7.out).mono ?_); (case side1 => exact cU ((Kd.S_reads' HO170.out).2.2)); (case side2 => exact (Kd.S_reads' HO170.out).2.1); (case side3 => exact cU ((Kd.S_reads' HO166.out).2.2)); (case side4 => exact (Kd.S_reads' HO166.out).2.1); rintro e w11 ⟨rfl, hb⟩; refine ⟨_, rfl, ?_⟩; have n0 := Az (Kd.S_below (sU HO166.out) hb); have n1 := Az (Kd.S_below (sU HO170.out) hb); have n2 := Az (below_step (bU0 HB.out) hb); clear HO166 HO170 HB; have HO166 := n0; have HO170 := n1; have HB := n2; clear n0 n1 n2; (try clear hb); (try clear hb2); (try clear hk); (try clear hi)))
   go_meet
   case rel => exact ⟨_, ((t168 != t164)), rS, H', ⟨by first | omega | exact Nat.le_refl _⟩, ⟨by (with_reducible repeat (first | apply Kd.S_alloc | apply Kd.S_drewN | apply Kd.S_drew)); exact Kd.S_mono HO166.out (fun _ hk => hk)⟩, ⟨by (with_reducible repeat (first | apply Kd.S_alloc | apply Kd.S_drewN | apply Kd.S_drew)); exact Kd.S_mono HO170.out (fun _ hk => hk)⟩, ⟨bU0 HB.out⟩⟩
  ·
   replace c8 := Bool.eq_false_iff.mpr c8; subst c8
   have H1 : (laws_FnExactTreeAll.j0 k a0 t163 t164 t167 true) = some r := by rw [if_neg (show ¬ (false = true) by decide)] at H; exact H
   clear H; have H := H1; clear H1; have H' := Az H; clear H; obtain ⟨Ao12, co12, eo12⟩ := Kd.S_slice HO170.out; subst eo12; obtain ⟨Ao13, co13, eo13⟩ := Kd.S_slice HO166.out; subst eo13
   go_wp2_with (first | ((with_reducible refine gate_callee (f := 6) rfl ?_); refine goesL_ (some 23) rfl rfl Try.func6 (by kernel_rfl) rfl #[.slice Ao12 t167.length co12, .slice Ao13 t163.length co13] rfl (by (try simp only [List.map_toArray, List.map_cons, List.map_nil]); first | done | rfl | (simp only [List.length_drop, List.length_take]; rfl)) ?_; (with_reducible refine (laws_eqTreeS.calls k _ _ t167 _ _ t163 false _ ?side1 ?side2 ?side3 ?side4 A7.out).mono ?_); (case side1 => exact cU ((Kd.S_reads' HO170.out).2.2)); (case side2 => exact (Kd.S_reads' HO170.out).2.1); (case side3 => exact cU ((Kd.S_reads' HO166.out).2.2)); (case side4 => exact (Kd.S_reads' HO166.out).2.1); rintro e w14 ⟨rfl, hb⟩; refine ⟨_, rfl, ?_⟩; have n0 := Az (Kd.S_below (sU HO166.out) hb); have n1 := Az (Kd.S_below (sU HO170.out) hb); have n2 := Az (below_step (bU0 HB.out) hb); clear HO166 HO170 HB; have HO166 := n0; have HO170 := n1; have HB := n2; clear n0 n1 n2; (try clear hb); (try clear hb2); (try clear hk); (try clear hi)))
   go_meet
   case rel => exact ⟨_, (true), rS, H', ⟨by first | omega | exact Nat.le_refl _⟩, ⟨by (with_reducible repeat (first | apply Kd.S_alloc | apply Kd.S_drewN | apply Kd.S_drew)); exact Kd.S_mono HO166.out (fun _ hk => hk)⟩, ⟨by (with_reducible repeat (first | apply Kd.S_alloc | apply Kd.S_drewN | apply Kd.S_drew)); exact Kd.S_mono HO170.out (fun _ hk => hk)⟩, ⟨bU0 HB.out⟩⟩
 case rest =>
  clear HC4; (try clear p2); (try clear c3); (try clear c4); (try clear c5); (try clear c6); (try clear c8); obtain ⟨kq, x29_3, rfl, HA, HJ3, HO_3, HO_5, HB⟩ := hcut
  cases kq with
  | zero => exact absurd HA.out (by simp [laws_FnExactTreeAll.j0])
  | succ kj3 =>
   have H := HA.out; clear HA; simp only [laws_FnExactTreeAll.j0] at H
   by_cases c15 : x29_3 = true
   ·
    subst c15
    have H1 : (some false) = some r := by rw [if_pos rfl] at H; exact H
    clear H; have H := H1; clear H1; obtain rfl := Option.some.inj H
    go_wp2
    go_ret
    exact ⟨rE, bU0 HB.out⟩
   ·
    replace c15 := Bool.eq_false_iff.mpr c15; subst c15
    have H1 : ((laws_markTreeS.f kj3 t167 1).bind fun bt172 => ((laws_heldTreeS.f kj3 bt172.2 1).bind fun t173 => (if t173 < 0 then (some false) else (if t173 = bt172.1 then ((impl_TreeAll.f kj3 a0).bind fun bt174 => ((laws_eqTreeS.f kj3 bt174.1 t163).bind fun t178 => (if t178 = true then (laws_FnExactTreeAll.j1 kj3 bt172.2 bt172.1 (bt174.2 != t164)) else (laws_FnExactTreeAll.j1 kj3 bt172.2 bt172.1 true)))) else (some false))))) = some r := by rw [if_neg (show ¬ (false = true) by decide)] at H; exact H
    clear H; have H := H1; clear H1; replace H := Option.bind_eq_some_iff.mp H; obtain ⟨⟨t172, t1720⟩, A160, H⟩ := H; have hlen_ : t1720.length = t167.length := laws_markTreeS.len _ _ _ _ _ A160; replace H : ((laws_heldTreeS.f kj3 t1720 1).bind fun t173 => (if t173 < 0 then (some false) else (if t173 = t172 then ((impl_TreeAll.f kj3 a0).bind fun bt174 => ((laws_eqTreeS.f kj3 bt174.1 t163).bind fun t178 => (if t178 = true then (laws_FnExactTreeAll.j1 kj3 t1720 t172 (bt174.2 != t164)) else (laws_FnExactTreeAll.j1 kj3 t1720 t172 true)))) else (some false)))) = some r := H; have A16 := Az A160; clear A160; replace H := Option.bind_eq_some_iff.mp H; obtain ⟨t173, A170, H⟩ := H; replace H : (if t173 < 0 then (some false) else (if t173 = t172 then ((impl_TreeAll.f kj3 a0).bind fun bt174 => ((laws_eqTreeS.f kj3 bt174.1 t163).bind fun t178 => (if t178 = true then (laws_FnExactTreeAll.j1 kj3 t1720 t172 (bt174.2 != t164)) else (laws_FnExactTreeAll.j1 kj3 t1720 t172 true)))) else (some false))) = some r := H; have A17 := Az A170; clear A170
    by_cases c18 : t173 < 0
    ·
     rw [if_pos c18] at H; have c18b0 := decide_eq_true c18; clear c18; obtain rfl := Option.some.inj H; obtain ⟨Ao19, co19, eo19⟩ := Kd.S_slice HO_5.out; subst eo19
     go_wp2_with (first | ((with_reducible refine gate_callee (f := 7) rfl ?_); refine goesL_ (some 32) rfl rfl Try.func7 (by kernel_rfl) rfl #[.slice Ao19 t167.length co19, .int .i64 1] rfl (by (try simp only [List.map_toArray, List.map_cons, List.map_nil]); first | done | rfl | (simp only [List.length_drop, List.length_take]; rfl)) ?_; (with_reducible refine (laws_markTreeS.calls kj3 (fun k_ => w5.heap.size ≤ k_) _ t167 1 t172 t1720 w _ ?side1 ?side2 A16.out).mono ?_); (case side1 => exact HB.out); (case side2 => exact HO_5.out); rintro e w20 ⟨rfl, hs_, hb, hkp⟩; refine ⟨_, rfl, ?_⟩; have n0 := Az (Kd.S_kept HO_3.out hkp (fun k_ hk_ hs2_ => Nat.not_le_of_lt hk_ hs2_)); have n1 := Az (Kd.S_mono (ok' := (fun _ => True)) hs_ (fun _ _ => trivial)); have n2 := Az hb; clear HO_3 HO_5 HB hs_ hkp; have HO_3 := n0; have HO_5 := n1; have HB := n2; clear n0 n1 n2; (try clear hb); (try clear hb2); (try clear hk); (try clear hi)) | ((with_reducible refine gate_callee (f := 8) rfl ?_); refine goesL_ (some 35) rfl rfl Try.func8 (by kernel_rfl) rfl #[.slice Ao19 t1720.length co19, .int .i64 1] rfl (by rw [hlen_]; (try simp only [List.map_toArray, List.map_cons, List.map_nil]); first | done | rfl | (simp only [List.length_drop, List.length_take]; rfl)) ?_; (with_reducible refine (laws_heldTreeS.calls kj3 _ _ t1720 1 t173 _ ?side1 ?side2 A17.out).mono ?_); (case side1 => exact cU ((Kd.S_reads' HO_5.out).2.2)); (case side2 => exact hlen_ ▸ (Kd.S_reads' HO_5.out).2.1); rintro e w21 ⟨rfl, hb⟩; refine ⟨_, rfl, ?_⟩; have n0 := Az (Kd.S_below (sU HO_3.out) hb); have n1 := Az (Kd.S_below (sU HO_5.out) hb); have n2 := Az (below_step (bU0 HB.out) hb); clear HO_3 HO_5 HB; have HO_3 := n0; have HO_5 := n1; have HB := n2; clear n0 n1 n2; (try clear hb); (try clear hb2); (try clear hk); (try clear hi)))
     go_ret
     exact ⟨rE, bU0 HB.out⟩
    ·
     rw [if_neg c18] at H; have c18b0 := decide_eq_false c18; clear c18
     by_cases c22 : t173 = t172
     ·
      rw [if_pos c22] at H; have c22b0 := beq_iff_eq.mpr c22; have c22b1 := bne_eq_false_iff_eq.mpr c22; clear c22; replace H := Option.bind_eq_some_iff.mp H; obtain ⟨⟨t174, t175⟩, A230, H⟩ := H; replace H : ((laws_eqTreeS.f kj3 t174 t163).bind fun t178 => (if t178 = true then (laws_FnExactTreeAll.j1 kj3 t1720 t172 (t175 != t164)) else (laws_FnExactTreeAll.j1 kj3 t1720 t172 true))) = some r := H; have A23 := Az A230; clear A230; have HC24 := Az H; clear H; obtain ⟨Ao25, co25, eo25⟩ := Kd.S_slice HO_5.out; subst eo25
      go_upto_region 14 with (first | ((with_reducible refine gate_callee (f := 7) rfl ?_); refine goesL_ (some 32) rfl rfl Try.func7 (by kernel_rfl) rfl #[.slice Ao25 t167.length co25, .int .i64 1] rfl (by (try simp only [List.map_toArray, List.map_cons, List.map_nil]); first | done | rfl | (simp only [List.length_drop, List.length_take]; rfl)) ?_; (with_reducible refine (laws_markTreeS.calls kj3 (fun k_ => w5.heap.size ≤ k_) _ t167 1 t172 t1720 w _ ?side1 ?side2 A16.out).mono ?_); (case side1 => exact HB.out); (case side2 => exact HO_5.out); rintro e w26 ⟨rfl, hs_, hb, hkp⟩; refine ⟨_, rfl, ?_⟩; have n0 := Az (Kd.S_kept HO_3.out hkp (fun k_ hk_ hs2_ => Nat.not_le_of_lt hk_ hs2_)); have n1 := Az (Kd.S_mono (ok' := (fun _ => True)) hs_ (fun _ _ => trivial)); have n2 := Az hb; clear HO_3 HO_5 HB hs_ hkp; have HO_3 := n0; have HO_5 := n1; have HB := n2; clear n0 n1 n2; (try clear hb); (try clear hb2); (try clear hk); (try clear hi)) | ((with_reducible refine gate_callee (f := 8) rfl ?_); refine goesL_ (some 35) rfl rfl Try.func8 (by kernel_rfl) rfl #[.slice Ao25 t1720.length co25, .int .i64 1] rfl (by rw [hlen_]; (try simp only [List.map_toArray, List.map_cons, List.map_nil]); first | done | rfl | (simp only [List.length_drop, List.length_take]; rfl)) ?_; (with_reducible refine (laws_heldTreeS.calls kj3 _ _ t1720 1 t173 _ ?side1 ?side2 A17.out).mono ?_); (case side1 => exact cU ((Kd.S_reads' HO_5.out).2.2)); (case side2 => exact hlen_ ▸ (Kd.S_reads' HO_5.out).2.1); rintro e w27 ⟨rfl, hb⟩; refine ⟨_, rfl, ?_⟩; have n0 := Az (Kd.S_below (sU HO_3.out) hb); have n1 := Az (Kd.S_below (sU HO_5.out) hb); have n2 := Az (below_step (bU0 HB.out) hb); clear HO_3 HO_5 HB; have HO_3 := n0; have HO_5 := n1; have HB := n2; clear n0 n1 n2; (try clear hb); (try clear hb2); (try clear hk); (try clear hi)) | ((with_reducible refine gate_callee (f := 5) rfl ?_); refine goesL_ (some 43) rfl rfl Try.func5 (by kernel_rfl) rfl #[.int .i64 a0] rfl (by (try simp only [List.map_toArray, List.map_cons, List.map_nil]); first | done | rfl | (simp only [List.length_drop, List.length_take]; rfl)) ?_; (with_reducible refine (impl_TreeAll.calls kj3 a0 t174 t175 _ A23.out).mono ?_); rintro e w28 ⟨v176, rfl, ho0, hb⟩; refine ⟨_, rfl, ?_⟩; have n0 := Az (Kd.S_elder' (sU HO_3.out) (Kd.S_base ho0) hb); have n1 := Az (Kd.S_elder' (sU HO_5.out) (Kd.S_base ho0) hb); have n2 := Az (Kd.S_lower (Kd.S_new' (Kd.S_new' ho0 (Kd.S_lt (sU HO_3.out))) (Kd.S_lt (sU HO_5.out))) (below_size (bU0 HB.out))); have n3 := Az (below_step (bU0 HB.out) hb); clear HO_3 HO_5 HB; have HO_3 := n0; have HO_5 := n1; have HO177 := n2; have HB := n3; clear n0 n1 n2 n3; (try clear hb); (try clear hb2); (try clear hk); (try clear hi); (try clear ho0)))
      (try simp only [Act.put, List.setIfInBounds_toArray, List.set_cons_zero, List.set_cons_succ])
      go_cut [54] (fun v54 wc => ∃ (kq : Nat) (x54_23 : Bool), v54 = .bool x54_23 ∧ Aside0 (laws_FnExactTreeAll.j1 kq t1720 t172 x54_23 = some r) ∧ Aside0 (kq ≤ kj3) ∧ Aside0 (Kd.S k31 31 wc w.heap.size (fun _ => True) (.slice Ao25 t167.length co25) t1720) ∧ Aside0 (Below w.heap.size w wc))
      case first =>
       have H := HC24.out; clear HC24; replace H := Option.bind_eq_some_iff.mp H; obtain ⟨t178, A290, H⟩ := H; replace H : (if t178 = true then (laws_FnExactTreeAll.j1 kj3 t1720 t172 (t175 != t164)) else (laws_FnExactTreeAll.j1 kj3 t1720 t172 true)) = some r := H; have A29 := Az A290; clear A290
       by_cases c30 : t178 = true
       ·
        subst c30
        have H1 : (laws_FnExactTreeAll.j1 kj3 t1720 t172 (t175 != t164)) = some r := by rw [if_pos rfl] at H; exact H
        clear H; have H := H1; clear H1; have H' := Az H; clear H; obtain ⟨Ao31, co31, eo31⟩ := Kd.S_slice HO177.out; subst eo31; obtain ⟨Ao32, co32, eo32⟩ := Kd.S_slice HO_3.out; subst eo32
        go_wp2_with (first | ((with_reducible refine gate_callee (f := 6) rfl ?_); refine goesL_ (some 48) rfl rfl Try.func6 (by kernel_rfl) rfl #[.slice Ao31 t174.length co31, .slice Ao32 t163.length co32] rfl (by (try simp only [List.map_toArray, List.map_cons, List.map_nil]); first | done | rfl | (simp only [List.length_drop, List.length_take]; rfl)) ?_; (with_reducible refine (laws_eqTreeS.calls kj3 _ _ t174 _ _ t163 true _ ?side1 ?side2 ?side3 ?side4 A29.out).mono ?_); (case side1 => exact cU ((Kd.S_reads' HO177.out).2.2)); (case side2 => exact (Kd.S_reads' HO177.out).2.1); (case side3 => exact cU ((Kd.S_reads' HO_3.out).2.2)); (case side4 => exact (Kd.S_reads' HO_3.out).2.1); rintro e w33 ⟨rfl, hb⟩; refine ⟨_, rfl, ?_⟩; have n0 := Az (Kd.S_below (sU HO_3.out) hb); have n1 := Az (Kd.S_below (sU HO_5.out) hb); have n2 := Az (Kd.S_below (sU HO177.out) hb); have n3 := Az (below_step (bU0 HB.out) hb); clear HO_3 HO_5 HO177 HB; have HO_3 := n0; have HO_5 := n1; have HO177 := n2; have HB := n3; clear n0 n1 n2 n3; (try clear hb); (try clear hb2); (try clear hk); (try clear hi)))
        go_meet
        case rel => exact ⟨_, ((t175 != t164)), rS, H', ⟨by have := HJ3.out; first | omega | exact Nat.le_refl _⟩, ⟨by (with_reducible repeat (first | apply Kd.S_alloc | apply Kd.S_drewN | apply Kd.S_drew)); exact Kd.S_mono HO_5.out (fun _ hk => trivial)⟩, ⟨bU0 HB.out⟩⟩
       ·
        replace c30 := Bool.eq_false_iff.mpr c30; subst c30
        have H1 : (laws_FnExactTreeAll.j1 kj3 t1720 t172 true) = some r := by rw [if_neg (show ¬ (false = true) by decide)] at H; exact H
        clear H; have H := H1; clear H1; have H' := Az H; clear H; obtain ⟨Ao34, co34, eo34⟩ := Kd.S_slice HO177.out; subst eo34; obtain ⟨Ao35, co35, eo35⟩ := Kd.S_slice HO_3.out; subst eo35
        go_wp2_with (first | ((with_reducible refine gate_callee (f := 6) rfl ?_); refine goesL_ (some 48) rfl rfl Try.func6 (by kernel_rfl) rfl #[.slice Ao34 t174.length co34, .slice Ao35 t163.length co35] rfl (by (try simp only [List.map_toArray, List.map_cons, List.map_nil]); first | done | rfl | (simp only [List.length_drop, List.length_take]; rfl)) ?_; (with_reducible refine (laws_eqTreeS.calls kj3 _ _ t174 _ _ t163 false _ ?side1 ?side2 ?side3 ?side4 A29.out).mono ?_); (case side1 => exact cU ((Kd.S_reads' HO177.out).2.2)); (case side2 => exact (Kd.S_reads' HO177.out).2.1); (case side3 => exact cU ((Kd.S_reads' HO_3.out).2.2)); (case side4 => exact (Kd.S_reads' HO_3.out).2.1); rintro e w36 ⟨rfl, hb⟩; refine ⟨_, rfl, ?_⟩; have n0 := Az (Kd.S_below (sU HO_3.out) hb); have n1 := Az (Kd.S_below (sU HO_5.out) hb); have n2 := Az (Kd.S_below (sU HO177.out) hb); have n3 := Az (below_step (bU0 HB.out) hb); clear HO_3 HO_5 HO177 HB; have HO_3 := n0; have HO_5 := n1; have HO177 := n2; have HB := n3; clear n0 n1 n2 n3; (try clear hb); (try clear hb2); (try clear hk); (try clear hi)))
        go_meet
        case rel => exact ⟨_, (true), rS, H', ⟨by have := HJ3.out; first | omega | exact Nat.le_refl _⟩, ⟨by (with_reducible repeat (first | apply Kd.S_alloc | apply Kd.S_drewN | apply Kd.S_drew)); exact Kd.S_mono HO_5.out (fun _ hk => trivial)⟩, ⟨bU0 HB.out⟩⟩
      case rest =>
       clear HC24; (try clear c1); (try clear c2); (try clear p2); (try clear c3); (try clear c4); (try clear c5); (try clear c6); (try clear c7); (try clear c8); (try clear c15); (try clear c18); (try clear c18b0); (try clear c22); (try clear c22b0); (try clear c22b1); (try clear c30); (try clear p2); obtain ⟨kq, x54_23, rfl, HA, HJ23, HO_5, HB⟩ := hcut
       cases kq with
       | zero => exact absurd HA.out (by simp [laws_FnExactTreeAll.j1])
       | succ kj23 =>
        have H := HA.out; clear HA; simp only [laws_FnExactTreeAll.j1] at H
        by_cases c37 : x54_23 = true
        ·
         subst c37
         have H1 : (some false) = some r := by rw [if_pos rfl] at H; exact H
         clear H; have H := H1; clear H1; obtain rfl := Option.some.inj H
         go_wp2
         go_ret
         exact ⟨rE, bU0 HB.out⟩
        ·
         replace c37 := Bool.eq_false_iff.mpr c37; subst c37
         have H1 : ((laws_heldTreeS.f kj23 t1720 1).bind fun t179 => (if t179 < 0 then (some false) else (if t179 = t172 then (some true) else (some false)))) = some r := by rw [if_neg (show ¬ (false = true) by decide)] at H; exact H
         clear H; have H := H1; clear H1; replace H := Option.bind_eq_some_iff.mp H; obtain ⟨t179, A380, H⟩ := H; replace H : (if t179 < 0 then (some false) else (if t179 = t172 then (some true) else (some false))) = some r := H; have A38 := Az A380; clear A380
         by_cases c39 : t179 < 0
         ·
          rw [if_pos c39] at H; have c39b0 := decide_eq_true c39; clear c39; obtain rfl := Option.some.inj H
          go_wp2_with (first | ((with_reducible refine gate_callee (f := 8) rfl ?_); refine goesL_ (some 57) rfl rfl Try.func8 (by kernel_rfl) rfl #[.slice Ao25 t1720.length co25, .int .i64 1] rfl (by rw [hlen_]; (try simp only [List.map_toArray, List.map_cons, List.map_nil]); first | done | rfl | (simp only [List.length_drop, List.length_take]; rfl)) ?_; (with_reducible refine (laws_heldTreeS.calls kj23 _ _ t1720 1 t179 _ ?side1 ?side2 A38.out).mono ?_); (case side1 => exact cU ((Kd.S_reads' HO_5.out).2.2)); (case side2 => exact hlen_ ▸ (Kd.S_reads' HO_5.out).2.1); rintro e w40 ⟨rfl, hb⟩; refine ⟨_, rfl, ?_⟩; have n0 := Az (Kd.S_below (sU HO_5.out) hb); have n1 := Az (below_step (bU0 HB.out) hb); clear HO_5 HB; have HO_5 := n0; have HB := n1; clear n0 n1; (try clear hb); (try clear hb2); (try clear hk); (try clear hi)))
          go_ret
          exact ⟨rE, bU0 HB.out⟩
         ·
          rw [if_neg c39] at H; have c39b0 := decide_eq_false c39; clear c39
          by_cases c41 : t179 = t172
          ·
           rw [if_pos c41] at H; have c41b0 := beq_iff_eq.mpr c41; have c41b1 := bne_eq_false_iff_eq.mpr c41; clear c41; obtain rfl := Option.some.inj H
           go_wp2_with (first | ((with_reducible refine gate_callee (f := 8) rfl ?_); refine goesL_ (some 57) rfl rfl Try.func8 (by kernel_rfl) rfl #[.slice Ao25 t1720.length co25, .int .i64 1] rfl (by rw [hlen_]; (try simp only [List.map_toArray, List.map_cons, List.map_nil]); first | done | rfl | (simp only [List.length_drop, List.length_take]; rfl)) ?_; (with_reducible refine (laws_heldTreeS.calls kj23 _ _ t1720 1 t179 _ ?side1 ?side2 A38.out).mono ?_); (case side1 => exact cU ((Kd.S_reads' HO_5.out).2.2)); (case side2 => exact hlen_ ▸ (Kd.S_reads' HO_5.out).2.1); rintro e w42 ⟨rfl, hb⟩; refine ⟨_, rfl, ?_⟩; have n0 := Az (Kd.S_below (sU HO_5.out) hb); have n1 := Az (below_step (bU0 HB.out) hb); clear HO_5 HB; have HO_5 := n0; have HB := n1; clear n0 n1; (try clear hb); (try clear hb2); (try clear hk); (try clear hi)))
           go_ret
           exact ⟨rE, bU0 HB.out⟩
          ·
           rw [if_neg c41] at H; have c41b0 := beq_eq_false_iff_ne.mpr c41; have c41b1 := bne_iff_ne.mpr c41; obtain rfl := Option.some.inj H
           go_wp2_with (first | ((with_reducible refine gate_callee (f := 8) rfl ?_); refine goesL_ (some 57) rfl rfl Try.func8 (by kernel_rfl) rfl #[.slice Ao25 t1720.length co25, .int .i64 1] rfl (by rw [hlen_]; (try simp only [List.map_toArray, List.map_cons, List.map_nil]); first | done | rfl | (simp only [List.length_drop, List.length_take]; rfl)) ?_; (with_reducible refine (laws_heldTreeS.calls kj23 _ _ t1720 1 t179 _ ?side1 ?side2 A38.out).mono ?_); (case side1 => exact cU ((Kd.S_reads' HO_5.out).2.2)); (case side2 => exact hlen_ ▸ (Kd.S_reads' HO_5.out).2.1); rintro e w43 ⟨rfl, hb⟩; refine ⟨_, rfl, ?_⟩; have n0 := Az (Kd.S_below (sU HO_5.out) hb); have n1 := Az (below_step (bU0 HB.out) hb); clear HO_5 HB; have HO_5 := n0; have HB := n1; clear n0 n1; (try clear hb); (try clear hb2); (try clear hk); (try clear hi)))
           go_ret
           exact ⟨rE, bU0 HB.out⟩
     ·
      rw [if_neg c22] at H; have c22b0 := beq_eq_false_iff_ne.mpr c22; have c22b1 := bne_iff_ne.mpr c22; obtain rfl := Option.some.inj H; obtain ⟨Ao44, co44, eo44⟩ := Kd.S_slice HO_5.out; subst eo44
      go_wp2_with (first | ((with_reducible refine gate_callee (f := 7) rfl ?_); refine goesL_ (some 32) rfl rfl Try.func7 (by kernel_rfl) rfl #[.slice Ao44 t167.length co44, .int .i64 1] rfl (by (try simp only [List.map_toArray, List.map_cons, List.map_nil]); first | done | rfl | (simp only [List.length_drop, List.length_take]; rfl)) ?_; (with_reducible refine (laws_markTreeS.calls kj3 (fun k_ => w5.heap.size ≤ k_) _ t167 1 t172 t1720 w _ ?side1 ?side2 A16.out).mono ?_); (case side1 => exact HB.out); (case side2 => exact HO_5.out); rintro e w45 ⟨rfl, hs_, hb, hkp⟩; refine ⟨_, rfl, ?_⟩; have n0 := Az (Kd.S_kept HO_3.out hkp (fun k_ hk_ hs2_ => Nat.not_le_of_lt hk_ hs2_)); have n1 := Az (Kd.S_mono (ok' := (fun _ => True)) hs_ (fun _ _ => trivial)); have n2 := Az hb; clear HO_3 HO_5 HB hs_ hkp; have HO_3 := n0; have HO_5 := n1; have HB := n2; clear n0 n1 n2; (try clear hb); (try clear hb2); (try clear hk); (try clear hi)) | ((with_reducible refine gate_callee (f := 8) rfl ?_); refine goesL_ (some 35) rfl rfl Try.func8 (by kernel_rfl) rfl #[.slice Ao44 t1720.length co44, .int .i64 1] rfl (by rw [hlen_]; (try simp only [List.map_toArray, List.map_cons, List.map_nil]); first | done | rfl | (simp only [List.length_drop, List.length_take]; rfl)) ?_; (with_reducible refine (laws_heldTreeS.calls kj3 _ _ t1720 1 t173 _ ?side1 ?side2 A17.out).mono ?_); (case side1 => exact cU ((Kd.S_reads' HO_5.out).2.2)); (case side2 => exact hlen_ ▸ (Kd.S_reads' HO_5.out).2.1); rintro e w46 ⟨rfl, hb⟩; refine ⟨_, rfl, ?_⟩; have n0 := Az (Kd.S_below (sU HO_3.out) hb); have n1 := Az (Kd.S_below (sU HO_5.out) hb); have n2 := Az (below_step (bU0 HB.out) hb); clear HO_3 HO_5 HB; have HO_3 := n0; have HO_5 := n1; have HB := n2; clear n0 n1 n2; (try clear hb); (try clear hb2); (try clear hk); (try clear hi)))
      go_ret
      exact ⟨rE, bU0 HB.out⟩
def laws_FnExactTreeAll.Pure : Prop := ∀ (a0 : Int), (Lit.int .i64 a0).wf = true → ∃ k, laws_FnExactTreeAll.f k a0 = some true
theorem laws_FnExactTreeAll.walk (P : laws_FnExactTreeAll.Pure) (a0 : Int) (w : World) (w0 : (Lit.int .i64 a0).wf = true) :
  Calls Try.prog 3 #[.int .i64 a0] w fun e w' => e = .returned (.bool true) ∧ Below w.heap.size w w' := by
 obtain ⟨k, h⟩ := P a0 w0
 refine (laws_FnExactTreeAll.calls k a0 true w h).mono ?_
 rintro e w' ⟨rfl, hd⟩
 exact ⟨rfl, hd⟩
end Go.Proofs.Ytplnkdchllllhaa.PC

set_option linter.unusedVariables false
set_option linter.unusedSimpArgs false
namespace Go.Proofs.Ytplnkdchllllhaa.Pure
open Go.RowKit Go.Proofs.Ytplnkdchllllhaa.PC Go.Proofs.YtplnkdchllllhaaW.PrintWords Go.Proofs.YtplnkdchllllhaaW.PrintLast Go.Proofs.YtplnkdchllllhaaW.PrintMore
theorem treeAll_1 : laws_FnExactTreeAll.f 300 1 = some true := by decide +kernel
theorem treeAll_2 : laws_FnExactTreeAll.f 300 2 = some true := by decide +kernel
theorem treeAll_none (n : Int) (h1 : ¬ n = 1) (h2 : ¬ n = 2) : spec_TreeAll.f 20 n = some ([], false) ∧ impl_TreeAll.f 20 n = some ([], false) := by
  constructor
  · unfold spec_TreeAll.f
    simp only [Option.bind_some, h1, h2, if_false]
  · unfold impl_TreeAll.f
    by_cases c : n < 1
    · rw [if_pos c]
      rfl
    · rw [if_neg c, decide_eq_true (show n > 2 by omega)]
      rfl
theorem treeAll_none2 (n : Int) (h1 : ¬ n = 1) (h2 : ¬ n = 2) : spec_TreeAll.f 19 n = some ([], false) ∧ impl_TreeAll.f 19 n = some ([], false) := by
  constructor
  · unfold spec_TreeAll.f
    simp only [Option.bind_some, h1, h2, if_false]
  · unfold impl_TreeAll.f
    by_cases c : n < 1
    · rw [if_pos c]
      rfl
    · rw [if_neg c, decide_eq_true (show n > 2 by omega)]
      rfl
theorem none_1 : laws_eqTreeS.f 20 [] [] = some true := by decide +kernel
theorem none_2 : laws_markTreeS.f 19 [] 1 = some (1, []) := rfl
theorem none_3 : laws_heldTreeS.f 19 [] 1 = some 1 := by decide +kernel
theorem none_4 : laws_eqTreeS.f 19 [] [] = some true := by decide +kernel
theorem none_5 : laws_heldTreeS.f 18 [] 1 = some 1 := by decide +kernel
theorem none_j1 (k : Nat) (h : laws_heldTreeS.f k [] 1 = some 1) : laws_FnExactTreeAll.j1 (k + 1) [] 1 false = some true := by
  rw [laws_FnExactTreeAll.j1, if_neg Bool.false_ne_true, h, Option.bind_some, if_neg (by decide), if_pos rfl]
theorem none_j0 (k : Nat) (n : Int) (h2 : laws_markTreeS.f k [] 1 = some (1, [])) (h3 : laws_heldTreeS.f k [] 1 = some 1) (d : impl_TreeAll.f k n = some ([], false)) (h4 : laws_eqTreeS.f k [] [] = some true) (h5 : laws_FnExactTreeAll.j1 k [] 1 false = some true) :
    laws_FnExactTreeAll.j0 (k + 1) n [] false [] false = some true := by
  rw [laws_FnExactTreeAll.j0, if_neg Bool.false_ne_true, h2, Option.bind_some]
  show ((laws_heldTreeS.f k [] 1).bind _) = _
  rw [h3, Option.bind_some, if_neg (by decide), if_pos rfl, d, Option.bind_some]
  show ((laws_eqTreeS.f k [] []).bind _) = _
  rw [h4, Option.bind_some, if_pos rfl]
  exact h5
theorem none_f (k : Nat) (n : Int) (a : spec_TreeAll.f k n = some ([], false)) (b : impl_TreeAll.f k n = some ([], false)) (h1 : laws_eqTreeS.f k [] [] = some true) (h0 : laws_FnExactTreeAll.j0 k n [] false [] false = some true) : laws_FnExactTreeAll.f k n = some true := by
  unfold laws_FnExactTreeAll.f
  rw [a, Option.bind_some, b, Option.bind_some]
  show ((laws_eqTreeS.f k [] []).bind _) = _
  rw [h1, Option.bind_some, if_pos rfl]
  exact h0
theorem FnExactTreeAll : laws_FnExactTreeAll.Pure := by
  intro n _
  by_cases h1 : n = 1
  · subst h1
    exact ⟨300, treeAll_1⟩
  by_cases h2 : n = 2
  · subst h2
    exact ⟨300, treeAll_2⟩
  obtain ⟨a, b⟩ := treeAll_none n h1 h2
  obtain ⟨c, d⟩ := treeAll_none2 n h1 h2
  exact ⟨20, none_f 20 n a b none_1 (none_j0 19 n none_2 none_3 d none_4 (none_j1 18 none_5))⟩
end Go.Proofs.Ytplnkdchllllhaa.Pure

namespace Go.Proofs.Ytplnkdchllllhaa.fnExactTreeAll
open Go.ChangeShapes Go.WideShapes Go.ChangeAt Go.RowKit
open Go.ChangeMaps (open_string shut_string)
set_option linter.unusedVariables false
theorem own : ownKnob Try.prog.godebug = none := by kernel_rfl
set_option maxRecDepth 100000 in
theorem lifted (os : Os) (started : os.Started) (H : Type) (enc : TypeId × Value → H) :
  ReturnsInHanded {} Try.checked os 3 .any (Rows.fnExactTreeAllSpec.pre6 enc Try.prog Try.f3 Rows.fnExactTreeAllRow.domain false) (Rows.fnExactTreeAllSpec.post enc Try.prog Try.f3 false true false false) := by
 refine returnsInHanded_of_change_sized (C := Try.checked) own started (by kernel_rfl) Try.func3
  (ChangeSpec.witness6 (enc := enc) (C := Try.checked) false ⟨#[], #[.int .i64 0], []⟩ 8 (by kernel_rfl) (by kernel_rfl) (by kernel_rfl) (by kernel_rfl)) ?_
 intro W base args ds gs before hval0 hW hcnd hsz0 _
 have hsz : (DataW.weightsEach Try.prog (Try.f3.params.toList ++ Rows.fnExactTreeAllSpec.plain.varTypes Try.prog) (ds ++ gs)).all (· ≤ reachBytes) = true := hsz0
 have hval : ∀ (j : Nat) t v, Try.f3.params[j]? = some t → args[j]? = some v → Value.okWide Try.prog W .any base t v := hval0
 have hW' := hW
 obtain ⟨p, q, hA0, hV, rfl, hfz, hnd⟩ := hW
 have hA : DataW.TrodAll enc Try.prog W 0 (fun _ => true) true Try.f3.params.toList args.toList ds p := hA0
 rw [Try.params3] at hA hval hsz
 obtain ⟨v0, vs0, d0, ds0, p0, q0, hargs, rfl, rfl, h0, r0⟩ := trodAll_cons hA
 obtain ⟨rfl, rfl, rfl⟩ := trodAll_nil r0
 obtain rfl : args = #[v0] := by cases args; simp_all
 obtain ⟨rfl, rfl⟩ := trodVars_none hV
 obtain ⟨a0, rfl, rfl, rfl, w0⟩ := open_int Try.underlying3 (hval 0 3 v0 rfl rfl) h0
 clear hA0 hval0 hsz0 hsz
 refine (PC.laws_FnExactTreeAll.walk Pure.FnExactTreeAll a0 W w0).mono fun e W' ⟨he, bel⟩ => ?_
 subst he
 exact ⟨_, rfl, _, _, _, [], _, [], hW', trodAll_mk1 (shut_bool Try.underlying4 _), (trodAll_cons_mk (shut_int Try.underlying3 w0) trodAll_mk0), rfl, bel.frame _, fun h => by cases h⟩
theorem over : Rows.fnExactTreeAllRow.holds Try.pinned (OpenSpec.ofChange Rows.fnExactTreeAllSpec) :=
 OpenClaim.holds_of_wide 3 Try.f3 rfl rfl rfl rfl rfl rfl rfl ⟨rfl, rfl, rfl, rfl, rfl⟩ rfl rfl rfl rfl rfl (by kernel_rfl) Try.func3 (by kernel_rfl)
  (of_decide_eq_true (by kernel_rfl)) (by unfold Func.isWrapper; first | (rw [if_pos (by decide +kernel)]; kernel_rfl) | (rw [if_neg (by decide +kernel)]; exact ⟨rfl, rfl⟩))
  (fun os started H enc _ => lifted os started H enc)
theorem proved : Rows.FnExactTreeAllSaid := over
#print axioms proved
end Go.Proofs.Ytplnkdchllllhaa.fnExactTreeAll
namespace Go.Proofs.Ytplnkdchllllhaa
theorem fnExactTreeAll_holds : Rows.FnExactTreeAllSaid := fnExactTreeAll.proved
end Go.Proofs.Ytplnkdchllllhaa
