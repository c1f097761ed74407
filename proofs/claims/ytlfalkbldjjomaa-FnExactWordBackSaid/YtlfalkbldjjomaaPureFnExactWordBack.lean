/- For every text, WordBack of the program answers what WordBack of the reference answers. There are no conditions. -/
import Derived.Test.YtlfalkbldjjomaaLibWord
import Derived.Test.YtlfalkbldjjomaaPAx2
set_option linter.unusedVariables false
set_option linter.unusedSimpArgs false
namespace Go.Proofs.Ytlfalkbldjjomaa.Pure
open Go.RowKit Go.Proofs.Ytlfalkbldjjomaa.PA Go.Proofs.YtlfalkbldjjomaaW.PrintWords Go.Proofs.YtlfalkbldjjomaaW.PrintLast Go.Proofs.YtlfalkbldjjomaaW.PrintMore
theorem other_nat : ∀ n : Fin 256, 0 ≤ ltr n.val → ((spec_l8Small.f (n.val : Int)).bind fun t119 => ((spec_l8Name.f (ltr n.val) (!t119)).bind fun t120 => (some t120))) = some (strOfNums [Go.bits .xor .u8 (n.val : Int) 32]) := by decide +kernel
theorem other_bt (s : ByteArray) (i : Int) (h0 : 0 ≤ ltr (bt s i)) : Ev (fun k => spec_l8Other.f k (bt s i)) (strOfNums [Go.bits .xor .u8 (bt s i) 32]) := by
  unfold spec_l8Other.f
  refine Ev.bind (l8Letter_bt s i) (Ev.const ?_)
  have h := bt_range s i
  have e : ((bt s i).toNat : Int) = bt s i := by omega
  have := other_nat ⟨(bt s i).toNat, by omega⟩ (by simpa [e] using h0)
  simpa [e] using this
theorem str_append (a b : List Int) : strOfNums (a ++ b) = strOfNums a ++ strOfNums b := by
  unfold strOfNums
  apply ByteArray.ext
  simp [ByteArray.data_append]
theorem str_size (a : List Int) : (strOfNums a).size = a.length := by
  unfold strOfNums
  show (List.toArray _).size = _
  simp
theorem back_both (s : ByteArray) (hs : s.size ≤ 10) (hl : ∀ p : Int, 0 ≤ p → p < s.size → 0 ≤ ltr (bt s p)) : ∀ (d : Nat) (m : List Int), m.length + d ≤ 20 → d ≤ s.size →
    ∃ r, Ev (fun k => spec_l8Back.l0 k s (strOfNums m) ((d : Int) - 1)) r ∧ Ev (fun k => impl_reversed.l0 k s m ((d : Int) - 1)) r
  | 0, m, hm, hd => by
    refine ⟨strOfNums m, Ev.s ?_, Ev.s ?_⟩
    · simp only [spec_l8Back.l0]
      exact Ev.const rfl
    · simp only [impl_reversed.l0]
      exact Ev.const rfl
  | d + 1, m, hm, hd => by
    have e1 : ((d + 1 : Nat) : Int) - 1 = d := by omega
    have e2 : wrap64 ((d : Int) - 1) = (d : Int) - 1 := w64 (by omega) (by omega)
    obtain ⟨r, h1, h2⟩ := back_both s hs hl d (m ++ [Go.bits .xor .u8 (bt s d) 32]) (by simp; omega) (by omega)
    rw [e1]
    refine ⟨r, Ev.s ?_, Ev.s ?_⟩
    · simp only [spec_l8Back.l0, show ((d : Int)) ≥ 0 by omega, show (0 : Int) ≤ d by omega, show (d : Int) < (s.size : Int) by omega, if_true]
      refine Ev.bind (other_bt s d (hl d (by omega) (by omega))) ?_
      have hz : (strOfNums m).size + (strOfNums [Go.bits .xor .u8 (bt s d) 32]).size ≤ 9223372036854775807 := by rw [str_size, str_size]; simp; omega
      simp only [hz, if_true, e2]
      rw [← str_append]
      exact h1
    · simp only [impl_reversed.l0, show ((d : Int)) ≥ 0 by omega, show (0 : Int) ≤ d by omega, show (d : Int) < (s.size : Int) by omega, show m.length < 140737488355328 by omega, if_true, e2]
      exact h2
theorem FnExactWordBack : laws_FnExactWordBack.Pure := by
  intro s _
  by_cases hs : (s.size : Int) > 1048576
  · exact ⟨0, by unfold laws_FnExactWordBack.f; rw [if_pos hs]⟩
  · obtain ⟨b, h1, h2, h3⟩ := wordValid_both s (by omega)
    refine Ev.rounds (r := true) ?_
    unfold laws_FnExactWordBack.f
    simp only [hs, if_false]
    cases b with
    | false =>
      have e1 : Ev (fun k => spec_WordBack.f k s) ((⟨#[]⟩ : ByteArray), false) := by
        unfold spec_WordBack.f
        exact Ev.bind h1 (Ev.const rfl)
      have e2 : Ev (fun k => impl_WordBack.f k s) ((⟨#[]⟩ : ByteArray), false) := by
        unfold impl_WordBack.f
        exact Ev.bind h2 (Ev.const rfl)
      exact Ev.bind e1 (Ev.bind e2 (Ev.const (by simp)))
    | true =>
      obtain ⟨g1, g2, g3⟩ := h3 rfl
      obtain ⟨r, r1, r2⟩ := back_both s g1 g3 s.size [] (by simp; omega) (Nat.le_refl _)
      have ew : wrap64 ((s.size : Int) - 1) = (s.size : Int) - 1 := w64 (by omega) (by omega)
      have e1 : Ev (fun k => spec_WordBack.f k s) (r, true) := by
        unfold spec_WordBack.f
        refine Ev.bind h1 ?_
        simp only [if_true]
        refine Ev.bind ?_ (Ev.const rfl)
        unfold spec_l8Back.f
        rw [ew]
        exact r1
      have e2 : Ev (fun k => impl_WordBack.f k s) (r, true) := by
        unfold impl_WordBack.f
        refine Ev.bind h2 ?_
        simp only [if_true]
        refine Ev.bind ?_ (Ev.const rfl)
        unfold impl_reversed.f
        rw [ew]
        exact r2
      exact Ev.bind e1 (Ev.bind e2 (Ev.const (by simp)))
end Go.Proofs.Ytlfalkbldjjomaa.Pure
