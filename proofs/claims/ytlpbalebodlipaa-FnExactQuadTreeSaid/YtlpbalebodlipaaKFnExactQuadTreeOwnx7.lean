/- For every map, root and point, QuadTree of the program answers what QuadTree of the reference answers, leaves the map as it was, and hands back memory of its own. There are no conditions. -/
import Derived.Test.YtlpbalebodlipaaKFnExactQuadTreeOwnx6
set_option linter.unusedVariables false
set_option linter.unusedSimpArgs false
namespace Go.Proofs.Ytlpbalebodlipaa.PL
open Go.RowKit Go.Proofs.YtlpbalebodlipaaW.PrintWords Go.Proofs.YtlpbalebodlipaaW.PrintLast Go.Proofs.YtlpbalebodlipaaW.PrintMore
def marks (n : Nat) (m : Int) : List Int := (List.range n).map fun (i : Nat) => m + (i : Int)
theorem marks_length (n : Nat) (m : Int) : (marks n m).length = n := by simp [marks]
theorem marks_rd (n : Nat) (m : Int) (i : Nat) (h : i < n) : rd (marks n m) i = m + i := by
  rw [rd_lt _ _ (by rw [marks_length]; exact h)]
  simp [marks]
theorem mark_run (m : Int) (hm : 0 ≤ m) (hm' : m ≤ 4611686018427387904) : ∀ (d : Nat) (l : List Int) (i : Nat), l.length ≤ 4194304 → l.length - i = d → i ≤ l.length → l.take i = (marks l.length m).take i → Ev (fun k => laws_markIntS.l0 k l (m + i) i) (m + l.length, marks l.length m)
  | 0, l, i, hl, hd, hi, ht => by
    refine Ev.s ?_
    simp only [laws_markIntS.l0, show ¬ (i : Int) < (l.length : Int) by omega, if_false]
    have hi' : i = l.length := by omega
    subst hi'
    rw [List.take_length] at ht
    have e : (marks l.length m).take l.length = marks l.length m := by
      rw [List.take_of_length_le]; rw [marks_length]; exact Nat.le_refl _
    rw [e] at ht
    refine Ev.const ?_
    rw [← ht]
  | d + 1, l, i, hl, hd, hi, ht => by
    have hlt : i < l.length := by omega
    refine Ev.s ?_
    simp only [laws_markIntS.l0, show (i : Int) < (l.length : Int) by omega, show (0 : Int) ≤ i by omega, if_true]
    rw [w64 (x := (i : Int) + 1) (by omega) (by omega), w64 (x := m + (i : Int) + 1) (by omega) (by omega), show ((i : Int) + 1) = ((i + 1 : Nat) : Int) by omega, show m + (i : Int) + 1 = m + ((i + 1 : Nat) : Int) by omega]
    have hL : (l.set i (m + (i : Int))).length = l.length := by simp
    have ih := mark_run m hm hm' d (l.set i (m + (i : Int))) (i + 1) (by omega) (by omega) (by omega) ?_
    · rw [hL] at ih
      rw [Int.toNat_natCast]
      exact ih
    · rw [hL]
      have h2 : i < (marks l.length m).length := by rw [marks_length]; exact hlt
      rw [List.take_succ_eq_append_getElem (by simpa using hlt), List.take_succ_eq_append_getElem h2, List.take_set_of_le (Nat.le_refl _), ht]
      simp [marks]
theorem mark_ev (l : List Int) (m : Int) (hm : 0 ≤ m) (hm' : m ≤ 4611686018427387904) (hl : l.length ≤ 4194304) : Ev (fun k => laws_markIntS.f k l m) (m + l.length, marks l.length m) := by
  have := mark_run m hm hm' l.length l 0 hl (by omega) (by omega) (by simp)
  unfold laws_markIntS.f
  simpa using this
theorem held_run (n : Nat) (m : Int) (hn : n ≤ 4194304) (hm : 0 ≤ m) (hm' : m ≤ 4611686018427387904) : ∀ (d i : Nat), n - i = d → i ≤ n → Ev (fun k => laws_heldIntS.l0 k (marks n m) (m + i) i) (m + n)
  | 0, i, hd, hi => by
    refine Ev.s ?_
    simp only [laws_heldIntS.l0, marks_length, show ¬ (i : Int) < (n : Int) by omega, if_false]
    have : i = n := by omega
    subst this
    exact Ev.const rfl
  | d + 1, i, hd, hi => by
    refine Ev.s ?_
    simp only [laws_heldIntS.l0, marks_length, show (i : Int) < (n : Int) by omega, show (0 : Int) ≤ i by omega, if_true, marks_rd n m i (by omega)]
    rw [w64 (x := (i : Int) + 1) (by omega) (by omega), w64 (x := m + (i : Int) + 1) (by omega) (by omega), show ((i : Int) + 1) = ((i + 1 : Nat) : Int) by omega, show m + (i : Int) + 1 = m + ((i + 1 : Nat) : Int) by omega]
    exact held_run n m hn hm hm' d (i + 1) (by omega) (by omega)
theorem held_ev (n : Nat) (m : Int) (hn : n ≤ 4194304) (hm : 0 ≤ m) (hm' : m ≤ 4611686018427387904) : Ev (fun k => laws_heldIntS.f k (marks n m) m) (m + n) := by
  have := held_run n m hn hm hm' n 0 (by omega) (by omega)
  unfold laws_heldIntS.f
  simpa using this
theorem szMap_cases (t f : List Int) (ht : t.length ≤ maxLen) (hf : f.length ≤ maxLen) : ∃ s, laws_szMap.f t f 1048576 = some s ∧ (s < 0 ∨ t.length ≤ 1048576 ∧ f.length ≤ 1048576 ∧ ¬ s < 0) := by
  unfold maxLen at ht hf
  have h1 : wrap64 (1048576 - (t.length : Int)) = 1048576 - (t.length : Int) := w64 (by omega) (by omega)
  by_cases c1 : (1048576 - (t.length : Int)) < 0
  · refine ⟨-1, ?_, .inl (by decide)⟩
    unfold laws_szMap.f laws_szIntS.f
    simp [h1, c1]
  · have h2 : wrap64 (1048576 - (t.length : Int) - (f.length : Int)) = 1048576 - (t.length : Int) - (f.length : Int) := w64 (by omega) (by omega)
    by_cases c2 : (1048576 - (t.length : Int) - (f.length : Int)) < 0
    · refine ⟨-1, ?_, .inl (by decide)⟩
      unfold laws_szMap.f laws_szIntS.f
      simp [h1, c1, h2, c2]
    · refine ⟨1048576 - (t.length : Int) - (f.length : Int), ?_, .inr ⟨by omega, by omega, c2⟩⟩
      unfold laws_szMap.f laws_szIntS.f
      simp [h1, c1, h2, c2]
theorem toMap_ev (t f : List Int) (ht : t.length ≤ 1048576) (hf : f.length ≤ 1048576) : Ev (fun k => laws_toMap.f k t f) (t, f) := by
  unfold laws_toMap.f
  refine Ev.bind (toIntS_ev t ht) ?_
  exact Ev.bind (toIntS_ev f hf) (Ev.const rfl)
end Go.Proofs.Ytlpbalebodlipaa.PL

set_option linter.unusedVariables false
set_option linter.unusedSimpArgs false
namespace Go.Proofs.Ytlpbalebodlipaa.Pure
open Go.RowKit Go.Proofs.Ytlpbalebodlipaa.PL Go.Proofs.YtlpbalebodlipaaW.PrintWords Go.Proofs.YtlpbalebodlipaaW.PrintLast Go.Proofs.YtlpbalebodlipaaW.PrintMore
theorem eqTree_sm (s : ByteArray) (l : List Int) (hl : l.length ≤ 1048576) : Ev (fun k => laws_eqTree.f k s l s l) true := by
  unfold laws_eqTree.f
  simp only [if_true]
  exact Ev.bind (eqIntS_same l hl) (Ev.const rfl)
theorem markTree_at (s : ByteArray) (l : List Int) (hl : l.length ≤ 1048576) : Ev (fun k => laws_markTree.f k s l 1) (1 + (l.length : Int), marks l.length 1) := by
  unfold laws_markTree.f
  exact Ev.bind (mark_ev l 1 (by omega) (by omega) (by omega)) (Ev.const rfl)
theorem heldTree_at (s : ByteArray) (n : Nat) (hn : n ≤ 1048576) : Ev (fun k => laws_heldTree.f k s (marks n 1) 1) (1 + (n : Int)) := by
  unfold laws_heldTree.f
  refine Ev.bind (held_ev n 1 (by omega) (by omega) (by omega)) ?_
  simp only [show ¬ 1 + (n : Int) < 0 by omega, if_false]
  exact Ev.const rfl
theorem eqMap_sm (t f : List Int) (ht : t.length ≤ 1048576) (hf : f.length ≤ 1048576) : Ev (fun k => laws_eqMap.f k t f t f) true := by
  unfold laws_eqMap.f
  refine Ev.bind (eqIntS_same t ht) ?_
  simp only [if_true]
  exact Ev.bind (eqIntS_same f hf) (Ev.const rfl)
theorem markMap_at (t f : List Int) (ht : t.length ≤ 1048576) (hf : f.length ≤ 1048576) : Ev (fun k => laws_markMap.f k t f 1) (1 + (t.length : Int) + (f.length : Int), marks t.length 1, marks f.length (1 + (t.length : Int))) := by
  unfold laws_markMap.f
  refine Ev.bind (mark_ev t 1 (by omega) (by omega) (by omega)) ?_
  exact Ev.bind (mark_ev f (1 + (t.length : Int)) (by omega) (by omega) (by omega)) (Ev.const rfl)
theorem FnExactQuadTree : laws_FnExactQuadTree.Pure := by
  intro t f root point ht _ hf _ _ _
  obtain ⟨z, hz, h0 | ⟨ht', hf', h0⟩⟩ := szMap_cases t f ht hf
  · refine ⟨0, ?_⟩
    unfold laws_FnExactQuadTree.f
    rw [hz, Option.bind_some, if_pos h0]
  · refine Ev.rounds (r := true) ?_
    unfold laws_FnExactQuadTree.f
    simp only [hz, Option.bind_some, h0, if_false]
    obtain ⟨s, l, b, e1, e2, hs, hl, _⟩ := quadTree_both t f ht' hf' root point
    have hb : (b != b) = false := by simp
    refine Ev.bind (toMap_ev t f ht' hf') ?_
    refine Ev.bind e1 ?_
    refine Ev.bind (toMap_ev t f ht' hf') ?_
    refine Ev.bind e2 ?_
    refine Ev.bind (eqTree_sm s l hl) ?_
    simp only [if_true, hb]
    refine Ev.s ?_
    simp only [laws_FnExactQuadTree.j0, Bool.false_eq_true, if_false]
    refine Ev.bind (toMap_ev t f ht' hf') ?_
    refine Ev.bind (eqMap_sm t f ht' hf') ?_
    simp only [if_true]
    refine Ev.bind (markMap_at t f ht' hf') ?_
    simp only [show ¬ 1 + (t.length : Int) + (f.length : Int) < 0 by omega, if_false]
    refine Ev.bind (eqTree_sm s l hl) ?_
    simp only [if_true, hb]
    refine Ev.s ?_
    simp only [laws_FnExactQuadTree.j1, Bool.false_eq_true, if_false]
    refine Ev.bind (markTree_at s l hl) ?_
    refine Ev.bind (heldTree_at s l.length hl) ?_
    simp only [show ¬ 1 + (l.length : Int) < 0 by omega, if_false, if_true]
    refine Ev.bind (toMap_ev t f ht' hf') ?_
    refine Ev.bind e2 ?_
    refine Ev.bind (eqTree_sm s l hl) ?_
    simp only [if_true, hb]
    refine Ev.s ?_
    simp only [laws_FnExactQuadTree.j2, Bool.false_eq_true, if_false]
    refine Ev.bind (heldTree_at s l.length hl) ?_
    simp only [show ¬ 1 + (l.length : Int) < 0 by omega, if_false, if_true]
    exact Ev.const rfl
end Go.Proofs.Ytlpbalebodlipaa.Pure

namespace Go.Proofs.Ytlpbalebodlipaa.fnExactQuadTree
open Go.ChangeShapes Go.WideShapes Go.ChangeAt Go.RowKit Go.Joins Go.Proofs.YtlpbalebodlipaaW.PrintWords Go.Proofs.YtlpbalebodlipaaW.PrintLast
open Go.ChangeMaps (open_string shut_string)
set_option linter.unusedVariables false
theorem own : ownKnob Try.prog.godebug = none := by kernel_rfl
theorem laidOut : laidOutB Try.prog = true := by kernel_rfl
def IsRow (k : IntKind) (w : World) (a : Option Addr) (len cap : Nat) (zs : List Int) : Prop :=
  (a = none ∧ len = 0 ∧ cap = 0 ∧ zs = []) ∨
  ∃ x, a = some x ∧ len ≤ cap ∧ cap ≤ maxLen ∧ zs.length = cap ∧ (∀ i, i < zs.length → w.cell? (x.add i) = some (.int k (zs.getD i 0))) ∧ ∀ n ∈ zs, (Lit.int k n).wf = true
theorem cells62 : Try.prog.cellsOf 62 = 2 := by kernel_rfl
set_option maxRecDepth 100000 in
theorem lifted (os : Os) (started : os.Started) (H : Type) (enc : TypeId × Value → H) :
    ReturnsInHanded {} Try.checked os 14 .any (Rows.fnExactQuadTreeSpec.pre6 enc Try.prog Try.f14 Rows.fnExactQuadTreeRow.domain false) (Rows.fnExactQuadTreeSpec.post enc Try.prog Try.f14 false true false false) := by
  refine returnsInHanded_of_change_sized (C := Try.checked) own started (by kernel_rfl) Try.func14
    (ChangeSpec.witness6 (enc := enc) (C := Try.checked) false ⟨#[], #[.agg #[.slice none 0 0, .slice none 0 0], .int .i64 0, .int .i64 0], []⟩ 8 (by kernel_rfl) (by kernel_rfl) (by kernel_rfl) (by kernel_rfl)) ?_
  intro W base args ds gs before hval0 hW hcnd hsz0 _
  have hval : ∀ (j : Nat) t v, Try.f14.params[j]? = some t → args[j]? = some v → Value.okWide Try.prog W .any base t v := hval0
  have hW' := hW
  obtain ⟨p, q, hA0, hV, rfl, hfz, hnd⟩ := hW
  have hA : DataW.TrodAll enc Try.prog W 0 (fun _ => true) true Try.f14.params.toList args.toList ds p := hA0
  rw [Try.params14] at hA hval
  obtain ⟨v0, vs0, d0, ds0, p0, q0, hargs, rfl, rfl, h0, r0⟩ := trodAll_cons hA
  obtain ⟨v1, vs1, d1, ds1, p1, q1, rfl, rfl, rfl, h1, r1⟩ := trodAll_cons r0
  obtain ⟨v2, vs2, d2, ds2, p2, q2, rfl, rfl, rfl, h2, r2⟩ := trodAll_cons r1
  obtain ⟨rfl, rfl, rfl⟩ := trodAll_nil r2
  obtain rfl : args = #[v0, v1, v2] := by cases args; simp_all
  obtain ⟨rfl, rfl⟩ := trodVars_none hV
  have k0 := h0
  have lt0 : ∀ x ∈ p0, x.block < W.heap.size := by obtain ⟨m, hm⟩ := k0; exact DataW.trod_lt m _ _ _ hm
  obtain ⟨c0_0, c0_1, y0_0, y0_1, m0, e0, _, _, hy0_0, hy0_1⟩ := open_agg2 Try.underlying62 (by kernel_rfl) cells62 (hval 0 62 v0 rfl rfl) h0
  subst e0
  obtain ⟨a0_0, len0_0, cap0_0, z0_0, ec0_0, w0_0⟩ : ∃ a len cap zs, c0_0 = .slice a len cap ∧ IsRow .i64 W a len cap zs := by
    rcases open_ints Try.underlying23 Try.underlying3 (by kernel_rfl) hy0_0 with ⟨hcs, _⟩ | ⟨x, l, c, zs, hcs, _, hl, hm, hz, _, hcell, hwz⟩
    · simp at hcs; exact ⟨none, 0, 0, [], hcs, .inl ⟨rfl, rfl, rfl, rfl⟩⟩
    · simp at hcs; exact ⟨_, _, _, zs, hcs, .inr ⟨_, rfl, hl, hm, by simpa using hz, hcell, hwz⟩⟩
  subst ec0_0
  obtain ⟨l0_0, el0_0, hr0_0, hm0_0, hw0_0, hc0_0⟩ := ReadsInt.ofRowC w0_0
  subst el0_0
  obtain ⟨a0_1, len0_1, cap0_1, z0_1, ec0_1, w0_1⟩ : ∃ a len cap zs, c0_1 = .slice a len cap ∧ IsRow .i64 W a len cap zs := by
    rcases open_ints Try.underlying23 Try.underlying3 (by kernel_rfl) hy0_1 with ⟨hcs, _⟩ | ⟨x, l, c, zs, hcs, _, hl, hm, hz, _, hcell, hwz⟩
    · simp at hcs; exact ⟨none, 0, 0, [], hcs, .inl ⟨rfl, rfl, rfl, rfl⟩⟩
    · simp at hcs; exact ⟨_, _, _, zs, hcs, .inr ⟨_, rfl, hl, hm, by simpa using hz, hcell, hwz⟩⟩
  subst ec0_1
  obtain ⟨l0_1, el0_1, hr0_1, hm0_1, hw0_1, hc0_1⟩ := ReadsInt.ofRowC w0_1
  subst el0_1
  obtain ⟨a1, rfl, rfl, rfl, w1⟩ := open_int Try.underlying3 (hval 1 3 v1 rfl rfl) h1
  obtain ⟨a2, rfl, rfl, rfl, w2⟩ := open_int Try.underlying3 (hval 2 3 v2 rfl rfl) h2
  clear hA0 hval0 hsz0
  obtain ⟨k, h⟩ := Pure.FnExactQuadTree l0_0 l0_1 a1 a2 hm0_0 hw0_0 hm0_1 hw0_1 w1 w2
  refine (PL.laws_FnExactQuadTree.calls k _ _ l0_0 _ _ l0_1 a1 a2 true W (Kd.C_of_reads (d := (0 : Int)) (h1 := fun _ => rfl) hr0_0) hc0_0 (Kd.C_of_reads (d := (0 : Int)) (h1 := fun _ => rfl) hr0_1) hc0_1 h).mono fun e W' ⟨he, bel0⟩ => ?_
  have bel : Below W.heap.size W W' := bel0
  subst he
  exact ⟨_, rfl, _, _, _, [], _, [], hW', trodAll_mk1 (shut_bool Try.underlying4 _), (trodAll_cons_mk (Below.trod laidOut (by kernel_rfl) (of_decide_eq_true (by kernel_rfl)) k0 bel lt0) (trodAll_cons_mk (shut_int Try.underlying3 w1) (trodAll_cons_mk (shut_int Try.underlying3 w2) trodAll_mk0))), rfl, bel.frame _, fun h => by cases h⟩
theorem over : Rows.fnExactQuadTreeRow.holds Try.pinned (OpenSpec.ofChange Rows.fnExactQuadTreeSpec) :=
  OpenClaim.holds_of_wide 14 Try.f14 rfl rfl rfl rfl rfl rfl rfl ⟨rfl, rfl, rfl, rfl, rfl⟩ rfl rfl rfl rfl rfl (by kernel_rfl) Try.func14 (by kernel_rfl)
    (of_decide_eq_true (by kernel_rfl)) (by unfold Func.isWrapper; first | (rw [if_pos (by decide +kernel)]; kernel_rfl) | (rw [if_neg (by decide +kernel)]; exact ⟨rfl, rfl⟩))
    (fun os started H enc _ => lifted os started H enc)
theorem proved : Rows.FnExactQuadTreeSaid := over
#print axioms proved
end Go.Proofs.Ytlpbalebodlipaa.fnExactQuadTree
namespace Go.Proofs.Ytlpbalebodlipaa
theorem fnExactQuadTree_holds : Rows.FnExactQuadTreeSaid := fnExactQuadTree.proved
end Go.Proofs.Ytlpbalebodlipaa
