/- For every text, WordValid of the program answers what WordValid of the reference answers. There are no conditions. -/
import Derived.Test.YtlfalkbldjjomaaLibWord
import Derived.Test.YtlfalkbldjjomaaPAx1
set_option linter.unusedVariables false
set_option linter.unusedSimpArgs false
namespace Go.Proofs.Ytlfalkbldjjomaa.Pure
open Go.RowKit Go.Proofs.Ytlfalkbldjjomaa.PA Go.Proofs.YtlfalkbldjjomaaW.PrintWords Go.Proofs.YtlfalkbldjjomaaW.PrintLast Go.Proofs.YtlfalkbldjjomaaW.PrintMore
theorem FnExactWordValid : laws_FnExactWordValid.Pure := by
  intro s _
  by_cases hs : (s.size : Int) > 1048576
  · exact ⟨0, by unfold laws_FnExactWordValid.f; rw [if_pos hs]⟩
  · obtain ⟨b, h1, h2, _⟩ := wordValid_both s (by omega)
    refine Ev.rounds (r := true) ?_
    unfold laws_FnExactWordValid.f
    simp only [hs, if_false]
    refine Ev.bind h1 ?_
    refine Ev.bind h2 ?_
    exact Ev.const (by cases b <;> rfl)
end Go.Proofs.Ytlfalkbldjjomaa.Pure
