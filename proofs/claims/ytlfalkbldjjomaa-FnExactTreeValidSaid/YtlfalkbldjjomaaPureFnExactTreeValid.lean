/- For every tree, TreeValid of the program answers what TreeValid of the reference answers and leaves the tree as it was. There are no conditions. -/
import Derived.Test.YtlfalkbldjjomaaLibTreeValid
import Derived.Test.YtlfalkbldjjomaaPAx3
set_option linter.unusedVariables false
set_option linter.unusedSimpArgs false
namespace Go.Proofs.Ytlfalkbldjjomaa.Pure
open Go.RowKit Go.Proofs.Ytlfalkbldjjomaa.PA Go.Proofs.YtlfalkbldjjomaaW.PrintWords Go.Proofs.YtlfalkbldjjomaaW.PrintLast Go.Proofs.YtlfalkbldjjomaaW.PrintMore
theorem FnExactTreeValid : laws_FnExactTreeValid.Pure := by
  intro s l hs hl _
  unfold maxLen at hs hl
  have h1 : wrap64 (1048576 - (s.size : Int)) = 1048576 - (s.size : Int) := w64 (by omega) (by omega)
  by_cases c1 : (1048576 - (s.size : Int)) < 0
  · refine ⟨0, ?_⟩
    unfold laws_FnExactTreeValid.f laws_szTree.f
    simp [h1, c1]
  · have h2 : wrap64 (1048576 - (s.size : Int) - (l.length : Int)) = 1048576 - (s.size : Int) - (l.length : Int) := w64 (by omega) (by omega)
    by_cases c2 : (1048576 - (s.size : Int) - (l.length : Int)) < 0
    · refine ⟨0, ?_⟩
      unfold laws_FnExactTreeValid.f laws_szTree.f laws_szIntS.f
      simp [h1, c1, h2, c2]
    · have hz : laws_szTree.f s l 1048576 = some (1048576 - (s.size : Int) - (l.length : Int)) := by
        unfold laws_szTree.f laws_szIntS.f
        simp [h1, c1, h2, c2]
      refine Ev.rounds (r := true) ?_
      unfold laws_FnExactTreeValid.f
      simp only [hz, Option.bind_some, c2, if_false]
      have ht : Ev (fun k => laws_toTree.f k s l) (s, l) := by
        unfold laws_toTree.f
        exact Ev.bind (toIntS_ev l (by omega)) (Ev.const rfl)
      obtain ⟨b, b1, b2, _⟩ := treeValid_both s (by omega) l (by omega)
      refine Ev.bind ht ?_
      refine Ev.bind b1 ?_
      refine Ev.bind ht ?_
      refine Ev.bind b2 ?_
      have hb : ¬ (b != b) = true := by simp
      simp only [hb, if_false]
      refine Ev.bind ht ?_
      have he : Ev (fun k => laws_eqTree.f k s l s l) true := by
        unfold laws_eqTree.f
        simp only [if_true]
        exact Ev.bind (eqIntS_same l (by omega)) (Ev.const rfl)
      exact Ev.bind he (Ev.const rfl)
end Go.Proofs.Ytlfalkbldjjomaa.Pure
