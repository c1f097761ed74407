/- For every list of bytes, the law FnTreesMany answers true: TreesMany of the drawn number is that of the reference, and twice it is RootedPlane times two more than the number. There are no conditions. -/
import Derived.Test.YtlfalkbldjjomaaPFnTreesManyx2
import Derived.Test.YtlfalkbldjjomaaWSized
namespace Go.Proofs.Ytlfalkbldjjomaa.Pure
open Go.RowKit Go.Proofs.Ytlfalkbldjjomaa.PFnTreesMany Go.Proofs.YtlfalkbldjjomaaW.PrintWords Go.Proofs.YtlfalkbldjjomaaW.PrintLast

theorem tm_back (n : Int) : ∃ k, ((impl_TreesMany.f k n).bind fun t120 => ((spec_TreesMany.f k n).bind fun t121 => (if t120 = t121 then (if t120 < 0 then (some (t120 == t121)) else ((impl_RootedPlane.f k n).bind fun t122 => (some ((wrap64 (2 * t120)) == (wrap64 (t122 * (wrap64 (n + 2)))))))) else (some (t120 == t121))))) = some true := by
  by_cases h1 : 1 ≤ n
  · by_cases h3 : n ≤ 3
    · have hc : n = 1 ∨ n = 2 ∨ n = 3 := by omega
      rcases hc with rfl | rfl | rfl
      · exact ⟨20, by decide +kernel⟩
      · exact ⟨20, by decide +kernel⟩
      · exact ⟨20, by decide +kernel⟩
    · refine ⟨1, ?_⟩
      unfold spec_TreesMany.f impl_TreesMany.f spec_l6In.f
      rw [if_pos (show n ≥ 1 from h1), if_neg (show ¬ n < 1 by omega)]
      simp [impl_TreesMany.j0, show ¬ n ≤ 3 from h3, show 3 < n by omega]
  · refine ⟨1, ?_⟩
    unfold spec_TreesMany.f impl_TreesMany.f spec_l6In.f
    rw [if_neg (show ¬ n ≥ 1 by omega), if_pos (show n < 1 by omega)]
    simp [impl_TreesMany.j0]

theorem tm_ev (n : Int) : ∃ r : Bool, r = true ∧ Ev (fun k => ((impl_TreesMany.f k n).bind fun t120 => ((spec_TreesMany.f k n).bind fun t121 => (if t120 = t121 then (if t120 < 0 then (some (t120 == t121)) else ((impl_RootedPlane.f k n).bind fun t122 => (some ((wrap64 (2 * t120)) == (wrap64 (t122 * (wrap64 (n + 2)))))))) else (some (t120 == t121)))))) r := by
  obtain ⟨k, hk⟩ := tm_back n
  refine ⟨true, rfl, Ev.of (fun k => ?_) hk⟩
  exact LeO.bind (impl_TreesMany.mono n k) fun _ => LeO.bind (spec_TreesMany.mono n k) fun _ => LeO.ite (LeO.ite (LeO.refl _) (LeO.bind (impl_RootedPlane.mono n k) fun _ => LeO.refl _)) (LeO.refl _)

theorem pick_first (l : List Int) (k : Nat) : ∃ v, spec_l6Rd_pick.f (k + 1) l 0 5 = some (v, 1) := by
  have e1 : wrap64 (0 + 1) = 1 := by unfold wrap64; omega
  have e0 : wrap64 (1 - 1) = 0 := by unfold wrap64; omega
  unfold spec_l6Rd_pick.f
  rw [if_neg (by omega), e1]
  cases l with
  | nil => exact ⟨0, by simp [spec_l6Rd_pick.j0]⟩
  | cons x xs =>
    have hb : (((x :: xs).length : Int) == 0) = false := by rw [beq_eq_false_iff_ne]; simp only [List.length_cons]; omega
    rw [hb]
    simp only [spec_l6Rd_pick.j0, e0]
    rw [if_neg (by decide), if_pos (by simp only [List.length_cons]; omega), if_pos (by decide), if_neg (by decide)]
    exact ⟨_, rfl⟩

theorem draw_some (l : List Int) (k : Nat) : ∃ v, spec_DrawTreesMany.f (k + 1) l = some v := by
  unfold spec_DrawTreesMany.f spec_l6Open.f
  by_cases h : (l.length : Int) > 2000
  · rw [if_pos h, if_pos (by omega)]
    obtain ⟨v, hv⟩ := pick_first (l.take 2000) k
    exact ⟨v, by simp only [Option.bind_some]; rw [hv]; rfl⟩
  · rw [if_neg h]
    obtain ⟨v, hv⟩ := pick_first l k
    exact ⟨v, by simp only [Option.bind_some]; rw [hv]; rfl⟩

theorem FnTreesMany : laws_FnTreesMany.Pure := by
  intro l _ _ _
  by_cases h : (l.length : Int) > 1048576
  · exact ⟨1, by unfold laws_FnTreesMany.f; rw [if_pos h]⟩
  · obtain ⟨v, hv⟩ := draw_some l 0
    obtain ⟨_, rfl, K, hK⟩ := tm_ev v
    refine ⟨K + 1, ?_⟩
    unfold laws_FnTreesMany.f
    rw [if_neg h]
    obtain ⟨v', hv'⟩ := draw_some l K
    have e : v' = v := by
      have := at_rounds (spec_DrawTreesMany.mono l) (show 0 + 1 ≤ K + 1 by omega) hv
      rw [hv'] at this; exact Option.some.inj this
    rw [hv']; simp only [Option.bind_some]; rw [e]; exact hK (K + 1) (by omega)

end Go.Proofs.Ytlfalkbldjjomaa.Pure

namespace Go.Proofs.Ytlfalkbldjjomaa
open Go.ChangeShapes Go.WideShapes
/-- The word of the sizes, under the name that the row calls it by. -/
theorem PrintWords.sized_ints {H : Type} {enc : TypeId × Value → H} {P : Program} {W : World} {base : Nat} {spare : Nat → Bool} {held : Bool} {t e : TypeId} {k : IntKind} {a : Option Addr} {len cap : Nat} {d : DataW H} {ps : List MemPlace} {ts : List TypeId} {ds : List (DataW H)} {j : Nat}
    (hsz : (DataW.weightsEach P ts ds).all (· ≤ reachBytes) = true) (ht : ts[j]? = some t) (hd : ds[j]? = some d) (hu : P.underlying t = some (.slice e)) (he : P.underlying e = some (.int k)) (hc : P.cellsOf e = 1) {B : Nat} (hB : P.bytesOf e = B)
    (h : DataW.Trod enc P W base spare held t (.slice a len cap) d ps) : len * B ≤ 140737488351232 :=
  Go.Proofs.YtlfalkbldjjomaaW.PrintWords.sized_ints hsz ht hd hu he hc hB h
end Go.Proofs.Ytlfalkbldjjomaa
