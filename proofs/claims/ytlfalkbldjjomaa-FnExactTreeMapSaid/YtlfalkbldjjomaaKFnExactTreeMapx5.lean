/- For every tree, TreeMap of the program answers what TreeMap of the reference answers, leaves the tree as it was, and hands back memory of its own. There are no conditions. -/
import Derived.Test.YtlfalkbldjjomaaKFnExactTreeMapx4
import Derived.Deep.OwnRows
import Derived.Laws.Rows
import Derived.Test.YtlfalkbldjjomaaRows
set_option linter.unusedVariables false
set_option linter.unusedSimpArgs false
namespace Go.Proofs.Ytlfalkbldjjomaa.PB
open Go.RowKit Go.Proofs.YtlfalkbldjjomaaW.PrintWords Go.Proofs.YtlfalkbldjjomaaW.PrintLast Go.Proofs.YtlfalkbldjjomaaW.PrintMore
def marks (n : Nat) (m : Int) : List Int := (List.range n).map fun (i : Nat) => m + (i : Int)
theorem marks_length (n : Nat) (m : Int) : (marks n m).length = n := by simp [marks]
theorem marks_rd (n : Nat) (m : Int) (i : Nat) (h : i < n) : rd (marks n m) i = m + i := by
  rw [rd_lt _ _ (by rw [marks_length]; exact h)]
  simp [marks]
theorem mark_run (m : Int) (hm : 0 ≤ m) (hm' : m ≤ 4611686018427387904) : ∀ (d : Nat) (l : List Int) (i : Nat), l.length ≤ 4194304 → l.length - i = d → i ≤ l.length → l.take i = (marks l.length m).take i → Ev (fun k => laws_markIntS.l0 k l (m + i) i) (m + l.length, marks l.length m)
  | 0, l, i, hl, hd, hi, ht => by
    refine Ev.s ?_
    simp only [laws_markIntS.l0, show ¬ (i : Int) < (l.length : Int) by omega, if_false]
    have hi' : i = l.length := by omega
    subst hi'
    rw [List.take_length] at ht
    have e : (marks l.length m).take l.length = marks l.length m := by
      rw [List.take_of_length_le]; rw [marks_length]; exact Nat.le_refl _
    rw [e] at ht
    refine Ev.const ?_
    rw [← ht]
  | d + 1, l, i, hl, hd, hi, ht => by
    have hlt : i < l.length := by omega
    refine Ev.s ?_
    simp only [laws_markIntS.l0, show (i : Int) < (l.length : Int) by omega, show (0 : Int) ≤ i by omega, if_true]
    rw [w64 (x := (i : Int) + 1) (by omega) (by omega), w64 (x := m + (i : Int) + 1) (by omega) (by omega), show ((i : Int) + 1) = ((i + 1 : Nat) : Int) by omega, show m + (i : Int) + 1 = m + ((i + 1 : Nat) : Int) by omega]
    have hL : (l.set i (m + (i : Int))).length = l.length := by simp
    have ih := mark_run m hm hm' d (l.set i (m + (i : Int))) (i + 1) (by omega) (by omega) (by omega) ?_
    · rw [hL] at ih
      rw [Int.toNat_natCast]
      exact ih
    · rw [hL]
      have h2 : i < (marks l.length m).length := by rw [marks_length]; exact hlt
      rw [List.take_succ_eq_append_getElem (by simpa using hlt), List.take_succ_eq_append_getElem h2, List.take_set_of_le (Nat.le_refl _), ht]
      simp [marks]
theorem mark_ev (l : List Int) (m : Int) (hm : 0 ≤ m) (hm' : m ≤ 4611686018427387904) (hl : l.length ≤ 4194304) : Ev (fun k => laws_markIntS.f k l m) (m + l.length, marks l.length m) := by
  have := mark_run m hm hm' l.length l 0 hl (by omega) (by omega) (by simp)
  unfold laws_markIntS.f
  simpa using this
theorem held_run (n : Nat) (m : Int) (hn : n ≤ 4194304) (hm : 0 ≤ m) (hm' : m ≤ 4611686018427387904) : ∀ (d i : Nat), n - i = d → i ≤ n → Ev (fun k => laws_heldIntS.l0 k (marks n m) (m + i) i) (m + n)
  | 0, i, hd, hi => by
    refine Ev.s ?_
    simp only [laws_heldIntS.l0, marks_length, show ¬ (i : Int) < (n : Int) by omega, if_false]
    have : i = n := by omega
    subst this
    exact Ev.const rfl
  | d + 1, i, hd, hi => by
    refine Ev.s ?_
    simp only [laws_heldIntS.l0, marks_length, show (i : Int) < (n : Int) by omega, show (0 : Int) ≤ i by omega, if_true, marks_rd n m i (by omega)]
    rw [w64 (x := (i : Int) + 1) (by omega) (by omega), w64 (x := m + (i : Int) + 1) (by omega) (by omega), show ((i : Int) + 1) = ((i + 1 : Nat) : Int) by omega, show m + (i : Int) + 1 = m + ((i + 1 : Nat) : Int) by omega]
    exact held_run n m hn hm hm' d (i + 1) (by omega) (by omega)
theorem held_ev (n : Nat) (m : Int) (hn : n ≤ 4194304) (hm : 0 ≤ m) (hm' : m ≤ 4611686018427387904) : Ev (fun k => laws_heldIntS.f k (marks n m) m) (m + n) := by
  have := held_run n m hn hm hm' n 0 (by omega) (by omega)
  unfold laws_heldIntS.f
  simpa using this
end Go.Proofs.Ytlfalkbldjjomaa.PB

namespace Go.Proofs.Ytlfalkbldjjomaa.PB
open Go.RowKit Go.Proofs.YtlfalkbldjjomaaW.PrintWords Go.Proofs.YtlfalkbldjjomaaW.PrintLast Go.Proofs.YtlfalkbldjjomaaW.PrintMore
attribute [local go_sem] max2_int min2_int max_two min_two max_three min_three max_four min_four   -- for this text's walks alone
set_option linter.unusedVariables false
set_option linter.unusedSimpArgs false
mutual
def impl_successors.l0 : Nat → List Int → Int → List Int → List Int → Int → Int → Option (List Int)
 | 0, _, _, _, _, _, _ => none
 | k + 1, x0, x3, x4, x12, x13, x14 => if x14 < x13 then (if 0 ≤ x14 then (if x14 < (x12.length : Int) then (if x14 < (x4.length : Int) then (impl_successors.l1 k x0 x3 (x4.set (x14 : Int).toNat (-1)) x14 (rd x12 x14) (wrap64 (x3 - 1)) x12 x13 x14) else (none)) else (none)) else (none)) else (some x4)
def impl_successors.l1 : Nat → List Int → Int → List Int → Int → Int → Int → List Int → Int → Int → Option (List Int)
 | 0, _, _, _, _, _, _, _, _, _ => none
 | k + 1, x0, x3, x4, x5, x6, x7, x12, x13, x14 => if x7 ≥ 1 then (if x3 = 0 then (none) else (if 0 ≤ (Int.tmod (wrap64 (x5 + x7)) x3) then (if (Int.tmod (wrap64 (x5 + x7)) x3) < (x0.length : Int) then (if (rd x0 (Int.tmod (wrap64 (x5 + x7)) x3)) = (wrap64 (x6 - 1)) then (if 0 ≤ x5 then (if x5 < (x4.length : Int) then (impl_successors.l1 k x0 x3 (x4.set (x5 : Int).toNat (Int.tmod (wrap64 (x5 + x7)) x3)) x5 x6 (wrap64 (x7 - 1)) x12 x13 x14) else (none)) else (none)) else (impl_successors.l1 k x0 x3 x4 x5 x6 (wrap64 (x7 - 1)) x12 x13 x14)) else (none)) else (none))) else (impl_successors.l0 k x0 x3 x4 x12 x13 (wrap64 (x14 + 1)))
end
def impl_successors.f (k : Nat) (l0 : List Int) : Option (List Int) := if 0 ≤ (l0.length : Int) then (if ((l0.length : Int) : Int).toNat ≤ 35184372088832 then (impl_successors.l0 k l0 (l0.length : Int) (List.replicate ((l0.length : Int) : Int).toNat 0) l0 (l0.length : Int) 0) else (none)) else (none)
theorem impl_successors.mono_l : ∀ k, (∀ y0 y1 y2 y3 y4 y5, LeO (impl_successors.l0 k y0 y1 y2 y3 y4 y5) (impl_successors.l0 (k + 1) y0 y1 y2 y3 y4 y5)) ∧ (∀ y0 y1 y2 y3 y4 y5 y6 y7 y8, LeO (impl_successors.l1 k y0 y1 y2 y3 y4 y5 y6 y7 y8) (impl_successors.l1 (k + 1) y0 y1 y2 y3 y4 y5 y6 y7 y8))
 | 0 => ⟨fun _ _ _ _ _ _ r h => by simp [impl_successors.l0] at h, fun _ _ _ _ _ _ _ _ _ r h => by simp [impl_successors.l1] at h⟩
 | k + 1 => by
  obtain ⟨ih0, ih1⟩ := impl_successors.mono_l k
  refine ⟨?_, ?_⟩
  ·
   intro y0 y1 y2 y3 y4 y5
   unfold impl_successors.l0
   repeat' first
   | (with_reducible exact ih0 _ _ _ _ _ _)
   | (with_reducible exact ih1 _ _ _ _ _ _ _ _ _)
   | (with_reducible exact LeO.refl _)
   | (with_reducible exact LeO.none _)
   | (with_reducible refine LeO.ite ?_ ?_)
   | (with_reducible refine LeO.bind ?_ (fun _ => ?_))
   | exact ih0 _ _ _ _ _ _
   | exact ih1 _ _ _ _ _ _ _ _ _
   | exact LeO.none _
   | refine LeO.ite ?_ ?_
   | refine LeO.bind ?_ (fun _ => ?_)
  ·
   intro y0 y1 y2 y3 y4 y5 y6 y7 y8
   unfold impl_successors.l1
   repeat' first
   | (with_reducible exact ih0 _ _ _ _ _ _)
   | (with_reducible exact ih1 _ _ _ _ _ _ _ _ _)
   | (with_reducible exact LeO.refl _)
   | (with_reducible exact LeO.none _)
   | (with_reducible refine LeO.ite ?_ ?_)
   | (with_reducible refine LeO.bind ?_ (fun _ => ?_))
   | exact ih0 _ _ _ _ _ _
   | exact ih1 _ _ _ _ _ _ _ _ _
   | exact LeO.none _
   | refine LeO.ite ?_ ?_
   | refine LeO.bind ?_ (fun _ => ?_)
theorem impl_successors.mono : ∀ a0 k, LeO (impl_successors.f k a0) (impl_successors.f (k + 1) a0) := by
 intro a0 k
 obtain ⟨ih0, ih1⟩ := impl_successors.mono_l k
 unfold impl_successors.f
 repeat' first
   | (with_reducible exact ih0 _ _ _ _ _ _)
   | (with_reducible exact ih1 _ _ _ _ _ _ _ _ _)
   | (with_reducible exact LeO.refl _)
   | (with_reducible exact LeO.none _)
   | (with_reducible refine LeO.ite ?_ ?_)
   | (with_reducible refine LeO.bind ?_ (fun _ => ?_))
   | exact ih0 _ _ _ _ _ _
   | exact ih1 _ _ _ _ _ _ _ _ _
   | exact LeO.none _
   | refine LeO.ite ?_ ?_
   | refine LeO.bind ?_ (fun _ => ?_)
mutual
def spec_l6qNext.l0 : Nat → List Int → List Int → Int → Option (List Int)
 | 0, _, _, _ => none
 | k + 1, x0, x3, x4 => if x4 < (x0.length : Int) then (spec_l6qNext.l1 k x0 x3 x4 (-1) 1) else (some x3)
def spec_l6qNext.l1 : Nat → List Int → List Int → Int → Int → Int → Option (List Int)
 | 0, _, _, _, _, _ => none
 | k + 1, x0, x3, x4, x5, x6 => if x6 < (x0.length : Int) then (spec_l6qNext.j2 k x0 x3 x4 x5 x6 (decide (x5 < 0))) else (spec_l6qNext.j2 k x0 x3 x4 x5 x6 false)
def spec_l6qNext.j2 : Nat → List Int → List Int → Int → Int → Int → Bool → Option (List Int)
 | 0, _, _, _, _, _, _ => none
 | k + 1, x0, x3, x4, x5, x6, x22 => if x22 = true then (if (x0.length : Int) = 0 then (none) else (if 0 ≤ (Int.tmod (wrap64 (x4 + x6)) (x0.length : Int)) then (if (Int.tmod (wrap64 (x4 + x6)) (x0.length : Int)) < (x0.length : Int) then (if 0 ≤ x4 then (if x4 < (x0.length : Int) then (if (rd x0 (Int.tmod (wrap64 (x4 + x6)) (x0.length : Int))) = (wrap64 ((rd x0 x4) - 1)) then (spec_l6qNext.l1 k x0 x3 x4 (Int.tmod (wrap64 (x4 + x6)) (x0.length : Int)) (wrap64 (x6 + 1))) else (spec_l6qNext.l1 k x0 x3 x4 x5 (wrap64 (x6 + 1)))) else (none)) else (none)) else (none)) else (none))) else (if x3.length < 17592186044416 then (spec_l6qNext.l0 k x0 (x3 ++ [x5]) (wrap64 (x4 + 1))) else (none))
end
def spec_l6qNext.f (k : Nat) (l0 : List Int) : Option (List Int) := spec_l6qNext.l0 k l0 (([] : List Int)) 0
theorem spec_l6qNext.mono_l : ∀ k, (∀ y0 y1 y2, LeO (spec_l6qNext.l0 k y0 y1 y2) (spec_l6qNext.l0 (k + 1) y0 y1 y2)) ∧ (∀ y0 y1 y2 y3 y4, LeO (spec_l6qNext.l1 k y0 y1 y2 y3 y4) (spec_l6qNext.l1 (k + 1) y0 y1 y2 y3 y4)) ∧ (∀ y0 y1 y2 y3 y4 y5, LeO (spec_l6qNext.j2 k y0 y1 y2 y3 y4 y5) (spec_l6qNext.j2 (k + 1) y0 y1 y2 y3 y4 y5))
 | 0 => ⟨fun _ _ _ r h => by simp [spec_l6qNext.l0] at h, fun _ _ _ _ _ r h => by simp [spec_l6qNext.l1] at h, fun _ _ _ _ _ _ r h => by simp [spec_l6qNext.j2] at h⟩
 | k + 1 => by
  obtain ⟨ih0, ih1, ih2⟩ := spec_l6qNext.mono_l k
  refine ⟨?_, ?_, ?_⟩
  ·
   intro y0 y1 y2
   unfold spec_l6qNext.l0
   repeat' first
   | (with_reducible exact ih0 _ _ _)
   | (with_reducible exact ih1 _ _ _ _ _)
   | (with_reducible exact ih2 _ _ _ _ _ _)
   | (with_reducible exact LeO.refl _)
   | (with_reducible exact LeO.none _)
   | (with_reducible refine LeO.ite ?_ ?_)
   | (with_reducible refine LeO.bind ?_ (fun _ => ?_))
   | exact ih0 _ _ _
   | exact ih1 _ _ _ _ _
   | exact ih2 _ _ _ _ _ _
   | exact LeO.none _
   | refine LeO.ite ?_ ?_
   | refine LeO.bind ?_ (fun _ => ?_)
  ·
   intro y0 y1 y2 y3 y4
   unfold spec_l6qNext.l1
   repeat' first
   | (with_reducible exact ih0 _ _ _)
   | (with_reducible exact ih1 _ _ _ _ _)
   | (with_reducible exact ih2 _ _ _ _ _ _)
   | (with_reducible exact LeO.refl _)
   | (with_reducible exact LeO.none _)
   | (with_reducible refine LeO.ite ?_ ?_)
   | (with_reducible refine LeO.bind ?_ (fun _ => ?_))
   | exact ih0 _ _ _
   | exact ih1 _ _ _ _ _
   | exact ih2 _ _ _ _ _ _
   | exact LeO.none _
   | refine LeO.ite ?_ ?_
   | refine LeO.bind ?_ (fun _ => ?_)
  ·
   intro y0 y1 y2 y3 y4 y5
   unfold spec_l6qNext.j2
   repeat' first
   | (with_reducible exact ih0 _ _ _)
   | (with_reducible exact ih1 _ _ _ _ _)
   | (with_reducible exact ih2 _ _ _ _ _ _)
   | (with_reducible exact LeO.refl _)
   | (with_reducible exact LeO.none _)
   | (with_reducible refine LeO.ite ?_ ?_)
   | (with_reducible refine LeO.bind ?_ (fun _ => ?_))
   | exact ih0 _ _ _
   | exact ih1 _ _ _ _ _
   | exact ih2 _ _ _ _ _ _
   | exact LeO.none _
   | refine LeO.ite ?_ ?_
   | refine LeO.bind ?_ (fun _ => ?_)
theorem spec_l6qNext.mono : ∀ a0 k, LeO (spec_l6qNext.f k a0) (spec_l6qNext.f (k + 1) a0) := by
 intro a0 k
 obtain ⟨ih0, ih1, ih2⟩ := spec_l6qNext.mono_l k
 unfold spec_l6qNext.f
 repeat' first
   | (with_reducible exact ih0 _ _ _)
   | (with_reducible exact ih1 _ _ _ _ _)
   | (with_reducible exact ih2 _ _ _ _ _ _)
   | (with_reducible exact LeO.refl _)
   | (with_reducible exact LeO.none _)
   | (with_reducible refine LeO.ite ?_ ?_)
   | (with_reducible refine LeO.bind ?_ (fun _ => ?_))
   | exact ih0 _ _ _
   | exact ih1 _ _ _ _ _
   | exact ih2 _ _ _ _ _ _
   | exact LeO.none _
   | refine LeO.ite ?_ ?_
   | refine LeO.bind ?_ (fun _ => ?_)
end Go.Proofs.Ytlfalkbldjjomaa.PB

set_option linter.unusedVariables false
set_option linter.unusedSimpArgs false
namespace Go.Proofs.Ytlfalkbldjjomaa.PB
open Go.RowKit Go.Proofs.YtlfalkbldjjomaaW.PrintWords Go.Proofs.YtlfalkbldjjomaaW.PrintLast Go.Proofs.YtlfalkbldjjomaaW.PrintMore
def walkP (s : ByteArray) (l : List Int) : Bool :=
  match spec_l6qWalk.f 30 s l with
  | none => false
  | some (v, lb, fl) => decide (impl_walked.f 30 s l = some (v, lb, fl)) && decide (v.length = s.size) && decide (lb.length = s.size) && decide (fl.length = s.size)
def nextP (s : ByteArray) (l : List Int) : Bool :=
  match spec_l6qWalk.f 30 s l with
  | none => false
  | some (v, lb, fl) => match spec_l6qNext.f 200 lb with
    | none => false
    | some nx => decide (impl_successors.f 200 lb = some nx) && decide (nx.length = s.size)
def turnP (s : ByteArray) (l : List Int) : Bool :=
  match spec_l6qWalk.f 30 s l with
  | none => false
  | some (v, lb, fl) => match spec_l4Corners.f 30 fl with
    | none => false
    | some tn => decide (impl_turnOf.f 30 fl = some tn) && decide (tn.length = s.size)
theorem walkP_all (s : ByteArray) (l : List Int) (h : treeOk s l) : walkP s l = true := chk_all walkP (by decide +kernel) (by decide +kernel) (by decide +kernel) s l h
theorem nextP_all (s : ByteArray) (l : List Int) (h : treeOk s l) : nextP s l = true := chk_all nextP (by decide +kernel) (by decide +kernel) (by decide +kernel) s l h
theorem turnP_all (s : ByteArray) (l : List Int) (h : treeOk s l) : turnP s l = true := chk_all turnP (by decide +kernel) (by decide +kernel) (by decide +kernel) s l h
theorem walk_both (s : ByteArray) (l : List Int) (h : treeOk s l) : ∃ v lb fl nx tn, spec_l6qWalk.f 30 s l = some (v, lb, fl) ∧ Ev (fun k => spec_l6qWalk.f k s l) (v, lb, fl) ∧ Ev (fun k => impl_walked.f k s l) (v, lb, fl) ∧
    Ev (fun k => spec_l6qNext.f k lb) nx ∧ Ev (fun k => impl_successors.f k lb) nx ∧ Ev (fun k => spec_l4Corners.f k fl) tn ∧ Ev (fun k => impl_turnOf.f k fl) tn ∧ lb.length = s.size ∧ fl.length = s.size ∧ nx.length = s.size ∧ tn.length = s.size := by
  have h1 := walkP_all s l h
  have h2 := nextP_all s l h
  have h3 := turnP_all s l h
  unfold walkP at h1
  unfold nextP at h2
  unfold turnP at h3
  cases e : spec_l6qWalk.f 30 s l with
  | none => rw [e] at h1; cases h1
  | some p =>
    obtain ⟨v, lb, fl⟩ := p
    rw [e] at h1 h2 h3
    simp only [Bool.and_eq_true, decide_eq_true_eq] at h1 h2 h3
    obtain ⟨⟨⟨i1, _⟩, i2⟩, i3⟩ := h1
    cases e2 : spec_l6qNext.f 200 lb with
    | none => rw [e2] at h2; cases h2
    | some nx =>
      rw [e2] at h2
      simp only [Bool.and_eq_true, decide_eq_true_eq] at h2
      cases e3 : spec_l4Corners.f 30 fl with
      | none => rw [e3] at h3; cases h3
      | some tn =>
        rw [e3] at h3
        simp only [Bool.and_eq_true, decide_eq_true_eq] at h3
        exact ⟨v, lb, fl, nx, tn, rfl, Ev.of (spec_l6qWalk.mono _ _) e, Ev.of (impl_walked.mono _ _) i1, Ev.of (spec_l6qNext.mono _) e2, Ev.of (impl_successors.mono _) h2.1, Ev.of (spec_l4Corners.mono _) e3, Ev.of (impl_turnOf.mono _) h3.1, i2, i3, h2.2, h3.2⟩
theorem toTree_ev (s : ByteArray) (l : List Int) (hl : l.length ≤ 1048576) : Ev (fun k => laws_toTree.f k s l) (s, l) := by
  unfold laws_toTree.f
  exact Ev.bind (toIntS_ev l hl) (Ev.const rfl)
theorem eqTree_same (s : ByteArray) (l : List Int) (hl : l.length ≤ 1048576) : Ev (fun k => laws_eqTree.f k s l s l) true := by
  unfold laws_eqTree.f
  simp only [if_true]
  exact Ev.bind (eqIntS_same l hl) (Ev.const rfl)
theorem markTree_ev (s : ByteArray) (l : List Int) (hl : l.length ≤ 1048576) : Ev (fun k => laws_markTree.f k s l 1) (1 + (l.length : Int), marks l.length 1) := by
  unfold laws_markTree.f
  exact Ev.bind (mark_ev l 1 (by omega) (by omega) (by omega)) (Ev.const rfl)
theorem szTree_cases (s : ByteArray) (l : List Int) (hs : s.size ≤ maxLen) (hl : l.length ≤ maxLen) : ∃ t, laws_szTree.f s l 1048576 = some t ∧ (t < 0 ∨ s.size ≤ 1048576 ∧ l.length ≤ 1048576 ∧ ¬ t < 0) := by
  unfold maxLen at hs hl
  have h1 : wrap64 (1048576 - (s.size : Int)) = 1048576 - (s.size : Int) := w64 (by omega) (by omega)
  by_cases c1 : (1048576 - (s.size : Int)) < 0
  · refine ⟨-1, ?_, .inl (by decide)⟩
    unfold laws_szTree.f
    simp [h1, c1]
  · have h2 : wrap64 (1048576 - (s.size : Int) - (l.length : Int)) = 1048576 - (s.size : Int) - (l.length : Int) := w64 (by omega) (by omega)
    by_cases c2 : (1048576 - (s.size : Int) - (l.length : Int)) < 0
    · refine ⟨-1, ?_, .inl (by decide)⟩
      unfold laws_szTree.f laws_szIntS.f
      simp [h1, c1, h2, c2]
    · refine ⟨1048576 - (s.size : Int) - (l.length : Int), ?_, .inr ⟨by omega, by omega, c2⟩⟩
      unfold laws_szTree.f laws_szIntS.f
      simp [h1, c1, h2, c2]
end Go.Proofs.Ytlfalkbldjjomaa.PB

set_option linter.unusedVariables false
set_option linter.unusedSimpArgs false
namespace Go.Proofs.Ytlfalkbldjjomaa.PB
open Go.RowKit Go.Proofs.YtlfalkbldjjomaaW.PrintWords Go.Proofs.YtlfalkbldjjomaaW.PrintLast Go.Proofs.YtlfalkbldjjomaaW.PrintMore
theorem eqMap_same (t f : List Int) (ht : t.length ≤ 1048576) (hf : f.length ≤ 1048576) : Ev (fun k => laws_eqMap.f k t f t f) true := by
  unfold laws_eqMap.f
  refine Ev.bind (eqIntS_same t ht) ?_
  simp only [if_true]
  exact Ev.bind (eqIntS_same f hf) (Ev.const rfl)
theorem markMap_ev (t f : List Int) (ht : t.length ≤ 1048576) (hf : f.length ≤ 1048576) : Ev (fun k => laws_markMap.f k t f 1) (1 + (t.length : Int) + (f.length : Int), marks t.length 1, marks f.length (1 + (t.length : Int))) := by
  unfold laws_markMap.f
  refine Ev.bind (mark_ev t 1 (by omega) (by omega) (by omega)) ?_
  exact Ev.bind (mark_ev f (1 + (t.length : Int)) (by omega) (by omega) (by omega)) (Ev.const rfl)
theorem heldMap_ev (n m : Nat) (hn : n ≤ 1048576) (hm : m ≤ 1048576) : Ev (fun k => laws_heldMap.f k (marks n 1) (marks m (1 + (n : Int))) 1) (1 + (n : Int) + (m : Int)) := by
  unfold laws_heldMap.f
  refine Ev.bind (held_ev n 1 (by omega) (by omega) (by omega)) ?_
  simp only [show ¬ 1 + (n : Int) < 0 by omega, if_false]
  refine Ev.bind (held_ev m (1 + (n : Int)) (by omega) (by omega) (by omega)) ?_
  simp only [show ¬ 1 + (n : Int) + (m : Int) < 0 by omega, if_false]
  exact Ev.const rfl
end Go.Proofs.Ytlfalkbldjjomaa.PB

set_option linter.unusedVariables false
set_option linter.unusedSimpArgs false
namespace Go.Proofs.Ytlfalkbldjjomaa.Pure
open Go.RowKit Go.Proofs.Ytlfalkbldjjomaa.PB Go.Proofs.YtlfalkbldjjomaaW.PrintWords Go.Proofs.YtlfalkbldjjomaaW.PrintLast Go.Proofs.YtlfalkbldjjomaaW.PrintMore
theorem bothTreeMap (s : ByteArray) (hs : s.size ≤ 1048576) (l : List Int) (hl : l.length ≤ 1048576) : ∃ (t f : List Int) (b : Bool), Ev (fun k => spec_TreeMap.f k s l) (t, f, b) ∧ Ev (fun k => impl_TreeMap.f k s l) (t, f, b) ∧ t.length ≤ 1048576 ∧ f.length ≤ 1048576 := by
  obtain ⟨b, b1, b2, b3⟩ := treeValid_both s hs l hl
  cases b with
  | false =>
    refine ⟨[], [], false, ?_, ?_, by simp, by simp⟩
    · unfold spec_TreeMap.f
      exact Ev.bind b1 (Ev.const rfl)
    · unfold impl_TreeMap.f
      exact Ev.bind b2 (Ev.const rfl)
  | true =>
    obtain ⟨v, lb, fl, nx, tn, _, w1, w2, n1, n2, t1, t2, z1, z2, z3, z4⟩ := walk_both s l (b3 rfl)
    refine ⟨tn, fl, true, ?_, ?_, by omega, by omega⟩
    · unfold spec_TreeMap.f
      refine Ev.bind b1 ?_
      simp only [if_true]
      refine Ev.bind w1 ?_
      exact Ev.bind t1 (Ev.const rfl)
    · unfold impl_TreeMap.f
      refine Ev.bind b2 ?_
      simp only [if_true]
      refine Ev.bind w2 ?_
      exact Ev.bind t2 (Ev.const rfl)
theorem FnExactTreeMap : laws_FnExactTreeMap.Pure := by
  intro s l hs hl _
  obtain ⟨t, ht, h0 | ⟨hs', hl', h0⟩⟩ := szTree_cases s l hs hl
  · refine ⟨0, ?_⟩
    unfold laws_FnExactTreeMap.f
    rw [ht, Option.bind_some, if_pos h0]
  · refine Ev.rounds (r := true) ?_
    unfold laws_FnExactTreeMap.f
    simp only [ht, Option.bind_some, h0, if_false]
    obtain ⟨r, f, b, e1, e2, hr, hf⟩ := bothTreeMap s hs' l hl'
    have hb : (b != b) = false := by simp
    refine Ev.bind (toTree_ev s l hl') ?_
    refine Ev.bind e1 ?_
    refine Ev.bind (toTree_ev s l hl') ?_
    refine Ev.bind e2 ?_
    refine Ev.bind (eqMap_same r f hr hf) ?_
    simp only [if_true, hb]
    refine Ev.s ?_
    simp only [laws_FnExactTreeMap.j0, Bool.false_eq_true, if_false]
    refine Ev.bind (toTree_ev s l hl') ?_
    refine Ev.bind (eqTree_same s l hl') ?_
    simp only [if_true]
    refine Ev.bind (markTree_ev s l hl') ?_
    simp only [show ¬ 1 + (l.length : Int) < 0 by omega, if_false]
    refine Ev.bind (eqMap_same r f hr hf) ?_
    simp only [if_true, hb]
    refine Ev.s ?_
    simp only [laws_FnExactTreeMap.j1, Bool.false_eq_true, if_false]
    refine Ev.bind (markMap_ev r f hr hf) ?_
    refine Ev.bind (heldMap_ev r.length f.length hr hf) ?_
    simp only [show ¬ 1 + (r.length : Int) + (f.length : Int) < 0 by omega, if_false, if_true]
    refine Ev.bind (toTree_ev s l hl') ?_
    refine Ev.bind e2 ?_
    refine Ev.bind (eqMap_same r f hr hf) ?_
    simp only [if_true, hb]
    refine Ev.s ?_
    simp only [laws_FnExactTreeMap.j2, Bool.false_eq_true, if_false]
    refine Ev.bind (heldMap_ev r.length f.length hr hf) ?_
    simp only [show ¬ 1 + (r.length : Int) + (f.length : Int) < 0 by omega, if_false, if_true]
    exact Ev.const rfl
end Go.Proofs.Ytlfalkbldjjomaa.Pure

namespace Go.Proofs.Ytlfalkbldjjomaa.fnExactTreeMap
open Go.ChangeShapes Go.WideShapes Go.ChangeAt Go.RowKit Go.Joins Go.Proofs.YtlfalkbldjjomaaW.PrintWords Go.Proofs.YtlfalkbldjjomaaW.PrintLast
open Go.ChangeMaps (open_string shut_string)
set_option linter.unusedVariables false
theorem own : ownKnob Try.prog.godebug = none := by kernel_rfl
theorem laidOut : laidOutB Try.prog = true := by kernel_rfl
def IsRow (k : IntKind) (w : World) (a : Option Addr) (len cap : Nat) (zs : List Int) : Prop :=
  (a = none ∧ len = 0 ∧ cap = 0 ∧ zs = []) ∨
  ∃ x, a = some x ∧ len ≤ cap ∧ cap ≤ maxLen ∧ zs.length = cap ∧ (∀ i, i < zs.length → w.cell? (x.add i) = some (.int k (zs.getD i 0))) ∧ ∀ n ∈ zs, (Lit.int k n).wf = true
theorem cells32 : Try.prog.cellsOf 32 = 2 := by kernel_rfl
set_option maxRecDepth 100000 in
theorem lifted (os : Os) (started : os.Started) (H : Type) (enc : TypeId × Value → H) :
    ReturnsInHanded {} Try.checked os 14 .any (Rows.fnExactTreeMapSpec.pre6 enc Try.prog Try.f14 Rows.fnExactTreeMapRow.domain false) (Rows.fnExactTreeMapSpec.post enc Try.prog Try.f14 false true false false) := by
  refine returnsInHanded_of_change_sized (C := Try.checked) own started (by kernel_rfl) Try.func14
    (ChangeSpec.witness6 (enc := enc) (C := Try.checked) false ⟨#[], #[.agg #[.string ByteArray.empty, .slice none 0 0]], []⟩ 8 (by kernel_rfl) (by kernel_rfl) (by kernel_rfl) (by kernel_rfl)) ?_
  intro W base args ds gs before hval0 hW hcnd hsz0 _
  have hval : ∀ (j : Nat) t v, Try.f14.params[j]? = some t → args[j]? = some v → Value.okWide Try.prog W .any base t v := hval0
  have hW' := hW
  obtain ⟨p, q, hA0, hV, rfl, hfz, hnd⟩ := hW
  have hA : DataW.TrodAll enc Try.prog W 0 (fun _ => true) true Try.f14.params.toList args.toList ds p := hA0
  rw [Try.params14] at hA hval
  obtain ⟨v0, vs0, d0, ds0, p0, q0, hargs, rfl, rfl, h0, r0⟩ := trodAll_cons hA
  obtain ⟨rfl, rfl, rfl⟩ := trodAll_nil r0
  obtain rfl : args = #[v0] := by cases args; simp_all
  obtain ⟨rfl, rfl⟩ := trodVars_none hV
  have k0 := h0
  have lt0 : ∀ x ∈ p0, x.block < W.heap.size := by obtain ⟨m, hm⟩ := k0; exact DataW.trod_lt m _ _ _ hm
  obtain ⟨c0_0, c0_1, y0_0, y0_1, m0, e0, _, _, hy0_0, hy0_1⟩ := open_agg2 Try.underlying32 (by kernel_rfl) cells32 (hval 0 32 v0 rfl rfl) h0
  subst e0
  obtain ⟨a0_0, ea0_0, _, w0_0⟩ := DataW.trod_string Try.underlying9 hy0_0
  obtain rfl : c0_0 = .string a0_0 := by simpa using ea0_0
  obtain ⟨a0_1, len0_1, cap0_1, z0_1, ec0_1, w0_1⟩ : ∃ a len cap zs, c0_1 = .slice a len cap ∧ IsRow .i64 W a len cap zs := by
    rcases open_ints Try.underlying30 Try.underlying3 (by kernel_rfl) hy0_1 with ⟨hcs, _⟩ | ⟨x, l, c, zs, hcs, _, hl, hm, hz, _, hcell, hwz⟩
    · simp at hcs; exact ⟨none, 0, 0, [], hcs, .inl ⟨rfl, rfl, rfl, rfl⟩⟩
    · simp at hcs; exact ⟨_, _, _, zs, hcs, .inr ⟨_, rfl, hl, hm, by simpa using hz, hcell, hwz⟩⟩
  subst ec0_1
  obtain ⟨l0_1, el0_1, hr0_1, hm0_1, hw0_1, hc0_1⟩ := ReadsInt.ofRowC w0_1
  subst el0_1
  clear hA0 hval0 hsz0
  obtain ⟨k, h⟩ := Pure.FnExactTreeMap a0_0 l0_1 w0_0 hm0_1 hw0_1
  refine (PB.laws_FnExactTreeMap.calls k a0_0 _ _ l0_1 true W (Kd.C_of_reads (d := (0 : Int)) (h1 := fun _ => rfl) hr0_1) hc0_1 h).mono fun e W' ⟨he, bel0⟩ => ?_
  have bel : Below W.heap.size W W' := bel0
  subst he
  exact ⟨_, rfl, _, _, _, [], _, [], hW', trodAll_mk1 (shut_bool Try.underlying4 _), (trodAll_cons_mk (Below.trod laidOut (by kernel_rfl) (of_decide_eq_true (by kernel_rfl)) k0 bel lt0) trodAll_mk0), rfl, bel.frame _, fun h => by cases h⟩
theorem over : Rows.fnExactTreeMapRow.holds Try.pinned (OpenSpec.ofChange Rows.fnExactTreeMapSpec) :=
  OpenClaim.holds_of_wide 14 Try.f14 rfl rfl rfl rfl rfl rfl rfl ⟨rfl, rfl, rfl, rfl, rfl⟩ rfl rfl rfl rfl rfl (by kernel_rfl) Try.func14 (by kernel_rfl)
    (of_decide_eq_true (by kernel_rfl)) (by unfold Func.isWrapper; first | (rw [if_pos (by decide +kernel)]; kernel_rfl) | (rw [if_neg (by decide +kernel)]; exact ⟨rfl, rfl⟩))
    (fun os started H enc _ => lifted os started H enc)
theorem proved : Rows.FnExactTreeMapSaid := over
#print axioms proved
end Go.Proofs.Ytlfalkbldjjomaa.fnExactTreeMap
namespace Go.Proofs.Ytlfalkbldjjomaa
theorem fnExactTreeMap_holds : Rows.FnExactTreeMapSaid := fnExactTreeMap.proved
end Go.Proofs.Ytlfalkbldjjomaa
