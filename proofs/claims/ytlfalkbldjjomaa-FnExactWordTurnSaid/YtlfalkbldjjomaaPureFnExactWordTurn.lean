/- For every text, WordTurn of the program answers what WordTurn of the reference answers. There are no conditions. -/
import Derived.Test.YtlfalkbldjjomaaLibWord
import Derived.Test.YtlfalkbldjjomaaPAx1
set_option linter.unusedVariables false
set_option linter.unusedSimpArgs false
namespace Go.Proofs.Ytlfalkbldjjomaa.Pure
open Go.RowKit Go.Proofs.Ytlfalkbldjjomaa.PA Go.Proofs.YtlfalkbldjjomaaW.PrintWords Go.Proofs.YtlfalkbldjjomaaW.PrintLast Go.Proofs.YtlfalkbldjjomaaW.PrintMore
theorem FnExactWordTurn : laws_FnExactWordTurn.Pure := by
  intro s _
  by_cases hs : (s.size : Int) > 1048576
  · exact ⟨0, by unfold laws_FnExactWordTurn.f; rw [if_pos hs]⟩
  · obtain ⟨b, h1, h2, h3⟩ := wordValid_both s (by omega)
    refine Ev.rounds (r := true) ?_
    unfold laws_FnExactWordTurn.f
    simp only [hs, if_false]
    cases b with
    | false =>
      have e1 : Ev (fun k => spec_WordTurn.f k s) ((⟨#[]⟩ : ByteArray), false) := by
        unfold spec_WordTurn.f
        exact Ev.bind h1 (Ev.const rfl)
      have e2 : Ev (fun k => impl_WordTurn.f k s) ((⟨#[]⟩ : ByteArray), false) := by
        unfold impl_WordTurn.f
        exact Ev.bind h2 (Ev.const rfl)
      exact Ev.bind e1 (Ev.bind e2 (Ev.const (by simp)))
    | true =>
      obtain ⟨g1, g2, _⟩ := h3 rfl
      have hz : (s.extract 1 s.size).size + (s.extract 0 1).size ≤ 9223372036854775807 := by simp; omega
      have e1 : Ev (fun k => spec_WordTurn.f k s) ((s.extract 1 s.size) ++ (s.extract 0 1), true) := by
        unfold spec_WordTurn.f
        refine Ev.bind h1 (Ev.const ?_)
        rw [if_pos rfl, if_pos (by omega), if_pos (by omega), if_pos hz]
      have e2 : Ev (fun k => impl_WordTurn.f k s) ((s.extract 1 s.size) ++ (s.extract 0 1), true) := by
        unfold impl_WordTurn.f
        refine Ev.bind h2 (Ev.const ?_)
        rw [if_pos rfl, if_pos (by omega), if_pos (by omega), if_pos hz]
      exact Ev.bind e1 (Ev.bind e2 (Ev.const (by simp)))
end Go.Proofs.Ytlfalkbldjjomaa.Pure
