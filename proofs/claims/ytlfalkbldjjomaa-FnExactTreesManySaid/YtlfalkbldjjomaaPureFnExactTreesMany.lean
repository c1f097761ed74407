/- For every integer n, TreesMany of the program answers what TreesMany of the reference answers. There are no conditions. -/
import Derived.Test.YtlfalkbldjjomaaPFnExactTreesManyx1
namespace Go.Proofs.Ytlfalkbldjjomaa.Pure
open Go.RowKit Go.Proofs.Ytlfalkbldjjomaa.PFnExactTreesMany Go.Proofs.YtlfalkbldjjomaaW.PrintWords Go.Proofs.YtlfalkbldjjomaaW.PrintLast

theorem FnExactTreesMany : laws_FnExactTreesMany.Pure := by
  intro a _
  by_cases h1 : 1 ≤ a
  · by_cases h3 : a ≤ 3
    · have hc : a = 1 ∨ a = 2 ∨ a = 3 := by omega
      rcases hc with rfl | rfl | rfl
      · exact ⟨20, by decide +kernel⟩
      · exact ⟨20, by decide +kernel⟩
      · exact ⟨20, by decide +kernel⟩
    · refine ⟨1, ?_⟩
      unfold laws_FnExactTreesMany.f spec_TreesMany.f impl_TreesMany.f spec_l6In.f
      rw [if_pos (show a ≥ 1 from h1), if_neg (show ¬ a < 1 by omega)]
      simp [impl_TreesMany.j0, show ¬ a ≤ 3 from h3, show 3 < a by omega]
  · refine ⟨1, ?_⟩
    unfold laws_FnExactTreesMany.f spec_TreesMany.f impl_TreesMany.f spec_l6In.f
    rw [if_neg (show ¬ a ≥ 1 by omega), if_pos (show a < 1 by omega)]
    simp [impl_TreesMany.j0]

end Go.Proofs.Ytlfalkbldjjomaa.Pure
