/- For every code: of the map and the edge that the statement draws, EdgeKind of the program answers what the reference answers; the mirror's edge is of the same kind; an edge is a bridge just where two parts are left without it; and on the sphere bridges are the dual's loops, loops the dual's bridges. There are no conditions. -/
import Derived.Test.YtjgknblneokhlaaKFnKindOwnx5
set_option linter.unusedVariables false
set_option linter.unusedSimpArgs false
namespace Go.Proofs.Ytjgknblneokhlaa.Pure
open Go.RowKit Go.Proofs.Ytjgknblneokhlaa.PF Go.Proofs.YtjgknblneokhlaaW.PrintWords Go.Proofs.YtjgknblneokhlaaW.PrintLast Go.Proofs.YtjgknblneokhlaaW.PrintMore
theorem at_ev (l : List Int) (h : bytesOk l) (p : Int) (hp : 0 ≤ p) (hp' : p ≤ 500) (n : Int) (h0 : 0 ≤ n) (hn : n ≤ 100) : ∃ v q, Ev (fun k => spec_l91At.f k l p n) (v, q) := by
  have yes : ∀ p : Int, 0 ≤ p → p ≤ 600 → ∃ v q, Ev (fun k => spec_l91At.j0 k n true l p) (v, q) := by
    intro p hp hp'
    obtain ⟨v, hv, v0, v1⟩ := pick_ev l h p hp (by omega) 2 (by omega) (by omega)
    refine ⟨rd [(-1), n] v, p + 1, Ev.s ?_⟩
    simp only [spec_l91At.j0, if_true, Option.bind_some]
    refine Ev.bind hv ?_
    simp only [v0, show v < (([(-1), n] : List Int).length : Int) from v1, if_true]
    exact Ev.const rfl
  unfold spec_l91At.f
  by_cases z : n = 0
  · simp only [z, if_true]
    subst z
    exact yes p hp (by omega)
  · simp only [z, if_false]
    obtain ⟨v, hv, v0, v1⟩ := pick_ev l h p hp (by omega) 20 (by omega) (by omega)
    by_cases c : v = 0
    · obtain ⟨x, q, e⟩ := yes (p + 1) (by omega) (by omega)
      refine ⟨x, q, Ev.bind hv ?_⟩
      have : (v == 0) = true := by rw [c]; rfl
      simp only [this]
      exact e
    · obtain ⟨x, hx, x0, x1⟩ := pick_ev l h (p + 1) (by omega) (by omega) n (by omega) (by omega)
      refine ⟨x, p + 1 + 1, Ev.bind hv ?_⟩
      have : (v == 0) = false := by rw [beq_eq_false_iff_ne]; exact c
      simp only [this]
      refine Ev.s ?_
      simp only [spec_l91At.j0, Bool.false_eq_true, if_false]
      exact Ev.bind hx (Ev.const rfl)
theorem drawKind_ev (l : List Int) (hb : ∀ x ∈ l, (Lit.int .u8 x).wf = true) : ∃ (t f : List Int) (e : Int), Ev (fun k => spec_DrawEdgeKind.f k l) (t, f, e) ∧ t.length ≤ 12 ∧ f.length ≤ 12 := by
  obtain ⟨l', eo, h⟩ := open_ev l hb
  obtain ⟨t, f, p, e1, e2, e3, e4, e5⟩ := l91Map_ev l' h 5 (by omega) (by omega)
  obtain ⟨v, q, e6⟩ := at_ev l' h p e4 (by omega) ((f.length : Int) / 2) (by omega) (by omega)
  refine ⟨t, f, v, ?_, e2, e3⟩
  unfold spec_DrawEdgeKind.f
  simp only [eo, Option.bind_some]
  refine Ev.bind (r := (t, f, v)) (a := (t, f, v, q)) ?_ (Ev.const rfl)
  unfold spec_l92Edge.f
  refine Ev.bind e1 ?_
  rw [w64 (x := (f.length : Int) / 2) (by omega) (by omega)]
  exact Ev.bind e6 (Ev.const rfl)
theorem mapDual_ev' (t f : List Int) (hm : isMap t f) (ht : t.length ≤ 1048576) (hf : f.length ≤ 1048576) : Ev (fun k => impl_MapDual.f k t f) (faces t f t.length, f, true) := by
  obtain ⟨hn, h1, ht', hti, hf', hfl, hcon⟩ := mapOk_of t f hm
  obtain ⟨b, _, b2, b3⟩ := mapValid_both t f ht hf
  have hb : b = true := b3.2 hm
  subst hb
  have hc : slices_Clone_int_int.f f = some f := by
    unfold slices_Clone_int_int.f
    rw [if_pos (by omega)]
  unfold impl_MapDual.f
  refine Ev.bind b2 ?_
  simp only [if_true]
  refine Ev.bind (mulF_ev t f t.length hn ht' hf') ?_
  simp only [hc, Option.bind_some]
  exact Ev.const rfl
theorem back_run (t : List Int) (n : Nat) (hn : n ≤ 12) (ht : inR n t) (hti : injR n t) : ∀ (d i : Nat) (b : List Int), n - i = d → i ≤ n → b.length = n → (∀ j : Nat, j < i → rd b (rd t j) = j) → ∃ b', Ev (fun k => impl_back.l0 k b t n i) b' ∧ leadsBack n b' t
  | 0, i, b, hd, hi, hb, hj => by
    have : i = n := by omega
    subst this
    refine ⟨b, Ev.s ?_, hb, hj⟩
    simp only [impl_back.l0, show ¬ (i : Int) < (i : Int) by omega, if_false]
    exact Ev.const rfl
  | d + 1, i, b, hd, hi, hb, hj => by
    have tr := ht.2 i (by omega)
    obtain ⟨b', e, h⟩ := back_run t n hn ht hti d (i + 1) (b.set (rd t i).toNat (i : Int)) (by omega) (by omega) (by simpa using hb) (fun j hj' => by
      have tj := ht.2 j (by omega)
      have ej : (((rd t j).toNat : Nat) : Int) = rd t j := by omega
      by_cases z : j = i
      · subst z
        have h0 := rd_set_self b (rd t j).toNat (j : Int) (by omega)
        rw [ej] at h0
        exact h0
      · have ne : (rd t i).toNat ≠ (rd t j).toNat := fun e => by
          have := hti i j (by omega) (by omega) (by omega)
          omega
        rw [← ej, rd_set_ne _ _ _ _ ne, ej]
        exact hj j (by omega))
    refine ⟨b', Ev.s ?_, h⟩
    simp only [impl_back.l0, ht.1, hb, show (i : Int) < (n : Int) by omega, show (0 : Int) ≤ (i : Int) by omega, tr.1, tr.2, if_true, w64n (show i < 4611686018427387904 by omega)]
    exact e
theorem mapMirror_ev (t f : List Int) (hm : isMap t f) (ht : t.length ≤ 1048576) (hf : f.length ≤ 1048576) : ∃ b : List Int, Ev (fun k => impl_MapMirror.f k t f) (b, f, true) ∧ leadsBack t.length b t := by
  obtain ⟨hn, h1, ht', hti, hf', hfl, hcon⟩ := mapOk_of t f hm
  obtain ⟨b, _, b2, b3⟩ := mapValid_both t f ht hf
  have hb : b = true := b3.2 hm
  subst hb
  have hc : slices_Clone_int_int.f f = some f := by
    unfold slices_Clone_int_int.f
    rw [if_pos (by omega)]
  obtain ⟨q, q1, q2⟩ := back_run t t.length hn ht' hti t.length 0 (List.replicate t.length 0) (by omega) (by omega) (by simp) (fun j hj => by omega)
  refine ⟨q, ?_, q2⟩
  unfold impl_MapMirror.f
  refine Ev.bind b2 ?_
  simp only [if_true]
  refine Ev.bind (a := q) ?_ ?_
  · unfold impl_back.f
    simp only [show (0 : Int) ≤ (t.length : Int) by omega, Int.toNat_natCast, show t.length ≤ 35184372088832 by omega, if_true]
    exact q1
  · simp only [hc, Option.bind_some]
    exact Ev.const rfl
theorem genus_ev (t f : List Int) (hm : isMap t f) (ht : t.length ≤ 1048576) (hf : f.length ≤ 1048576) : ∃ V F G : Nat, Cl t.length (Go.Proofs.Ytjgknblneokhlaa.PF.Reach [t] t.length) V ∧ Cl t.length (Go.Proofs.Ytjgknblneokhlaa.PF.Reach [faces t f t.length] t.length) F ∧ 2 + (edL f t.length).length = V + F + 2 * G ∧ Ev (fun k => impl_MapGenus.f k t f) (G : Int) := by
  have H := mapOk_of t f hm
  obtain ⟨hn, h1, ht', hti, hf', hfl, hcon⟩ := id H
  obtain ⟨b, _, b2, b3⟩ := mapValid_both t f ht hf
  have hb : b = true := b3.2 hm
  subst hb
  have hFi := faces_inR t f t.length ht' hf'
  have hV := cyS_cl t t.length ht' hti
  have hF := cyS_cl _ _ hFi (faces_inj t f t.length ht' hti hf' hfl)
  have v1 := cyS_many t t.length t.length
  have v2 := cyS_many (faces t f t.length) t.length t.length
  obtain ⟨P, hP, _⟩ := Cl.ex t.length (Go.Proofs.Ytjgknblneokhlaa.PF.Reach [t, flC f t.length []] t.length)
  obtain ⟨S, hS, _⟩ := Cl.ex t.length (Go.Proofs.Ytjgknblneokhlaa.PF.Reach [sgL t f t.length []] t.length)
  obtain ⟨g, G, m1, m2, m3, m4⟩ := five_math t f [] t.length H (fun i hi => by simp at hi) P S _ _ hP hS hV hF
  have hh := edL_half f t.length hf' hfl
  have hlen := hf'.1
  refine ⟨_, _, G, hV, hF, m4, ?_⟩
  unfold impl_MapGenus.f
  refine Ev.bind b2 ?_
  simp only [if_true]
  refine Ev.bind (a := (G : Int)) ?_ (Ev.const rfl)
  unfold impl_genusOf.f
  refine Ev.bind (implCyc_ev t t.length (by omega) ht') ?_
  refine Ev.bind (mulF_ev t f t.length hn ht' hf') ?_
  refine Ev.bind (implCyc_ev _ t.length (by omega) hFi) (Ev.const ?_)
  generalize (cyS t t.length t.length).2.length = V at m4 v1
  generalize (cyS (faces t f t.length) t.length t.length).2.length = F at m4 v2
  congr 1
  rw [w64 (x := 2 - (V : Int)) (by omega) (by omega), w64 (x := (f.length : Int) / 2) (by omega) (by omega), w64 (x := 2 - (V : Int) + (f.length : Int) / 2) (by omega) (by omega), w64 (x := 2 - (V : Int) + (f.length : Int) / 2 - F) (by omega) (by omega)]
  rw [show 2 - (V : Int) + (f.length : Int) / 2 - F = (G : Int) * 2 by omega, Int.mul_tdiv_cancel _ (by decide), w64 (by omega) (by omega)]
theorem FnKind : laws_FnKind.Pure := by
  intro l hl _ hb
  by_cases c0 : (l.length : Int) > 1048576
  · exact ⟨0, by unfold laws_FnKind.f; rw [if_pos c0]⟩
  obtain ⟨t, f, e, d1, d2, d3⟩ := drawKind_ev l hb
  have tl : t.length ≤ 1048576 := by omega
  have fl' : f.length ≤ 1048576 := by omega
  refine Ev.rounds (r := true) ?_
  unfold laws_FnKind.f
  simp only [c0, if_false]
  refine Ev.bind d1 ?_
  obtain ⟨r, e1, e2⟩ := edgeKind_both t f tl fl' e
  refine Ev.bind e2 ?_
  refine Ev.bind e1 ?_
  simp only [if_true]
  by_cases hr : r < 0
  · simp only [hr, decide_true]
    refine Ev.s ?_
    simp only [laws_FnKind.j0, if_true, beq_self_eq_true]
    exact Ev.const rfl
  simp only [hr, decide_false]
  -- the map is valid and the edge is one of its
  have wf : wrap64 ((f.length : Int) / 2) = (f.length : Int) / 2 := w64 (by omega) (by omega)
  have good : isMap t f ∧ 0 ≤ e ∧ e < (f.length : Int) / 2 := by
    obtain ⟨b, _, b2, b3⟩ := mapValid_both t f tl fl'
    cases b with
    | false =>
      have : Ev (fun k => impl_EdgeKind.f k t f e) (-1) := by
        unfold impl_EdgeKind.f
        refine Ev.bind b2 ?_
        simp only [Bool.false_eq_true, if_false]
        refine Ev.s ?_
        simp only [impl_EdgeKind.j0, if_true]
        exact Ev.const rfl
      have := Ev.uniq e2 this
      omega
    | true =>
      refine ⟨b3.1 rfl, ?_⟩
      by_cases he : 0 ≤ e ∧ e < (f.length : Int) / 2
      · exact he
      · exfalso
        have : Ev (fun k => impl_EdgeKind.f k t f e) (-1) := by
          unfold impl_EdgeKind.f
          refine Ev.bind b2 ?_
          simp only [if_true]
          by_cases e0 : e < 0
          · simp only [e0, if_true]
            refine Ev.s ?_
            simp only [impl_EdgeKind.j0, if_true]
            exact Ev.const rfl
          · simp only [e0, if_false, wf, show e ≥ (f.length : Int) / 2 by omega, decide_true]
            refine Ev.s ?_
            simp only [impl_EdgeKind.j0, if_true]
            exact Ev.const rfl
        have := Ev.uniq e2 this
        omega
  obtain ⟨hm, he0, he1⟩ := good
  have H := mapOk_of t f hm
  obtain ⟨hn, h1, ht', hti, hf', hfl, hcon⟩ := id H
  have hh := edL_half f t.length hf' hfl
  have hlen := hf'.1
  obtain ⟨E, rfl⟩ : ∃ E : Nat, e = (E : Int) := ⟨e.toNat, by omega⟩
  have hE : E < (edL f t.length).length := by omega
  obtain ⟨a, b, hab⟩ : ∃ a b, EdgeAt f t.length E a b := edge_at f t.length hf' hfl E hE
  have hf2 := faces_len t f t.length
  have hDm := isMap_of (dual_ok H)
  -- the map itself
  obtain ⟨P, hP, p12, k1, k2⟩ := kindI_ev t f hm E a b hE hab
  -- the dual
  obtain ⟨Pd, hPd, pd12, kd1, kd2⟩ := kindI_ev (faces t f t.length) f hDm E a b (by rw [hf2]; exact hE) (by rw [hf2]; exact hab)
  rw [hf2] at hPd kd1 kd2
  -- the mirror
  obtain ⟨bk, bk1, bk2⟩ := mapMirror_ev t f hm tl fl'
  have hBm := isMap_of (back_ok H bk2)
  obtain ⟨Pb, hPb, _, kb1, kb2⟩ := kindI_ev bk f hBm E a b (by rw [bk2.1]; exact hE) (by rw [bk2.1]; exact hab)
  rw [bk2.1] at hPb kb1 kb2
  have hPP : Pb = P := Cnt.same hPb hP fun x hx => ⟨fun z i hi hr => z i hi ((back_reach2 bk t _ t.length ht' hti bk2 i x).2 hr), fun z i hi hr => z i hi ((back_reach2 bk t _ t.length ht' hti bk2 i x).1 hr)⟩
  subst hPP
  have hRb := back_reach1 bk t t.length ht' hti bk2 a b
  obtain ⟨V, F, G, hV, hF, m4, gev⟩ := genus_ev t f hm tl fl'
  obtain ⟨F', _, hMC⟩ := mapCounts_ev t f hm tl fl'
  obtain ⟨pb1, pb2⟩ := plane_bridge t f t.length H E a b hE hab Pb V F hP hV hF
  obtain ⟨pd1, pd2⟩ := plane_bridge (faces t f t.length) f t.length (dual_ok H) E a b hE hab Pd F V hPd hF (by rw [faces_faces t f t.length H]; exact hV)
  rw [faces_faces t f t.length H] at pd2
  -- the rest and its numbers
  have hch : isChoice [(E : Int)] ((f.length : Int) / 2) := choice_of _ _ (by simp; omega) (by simp)
  obtain ⟨rr, rb, r1, r2, r3, r4, r5⟩ := choiceRest_both t f [(E : Int)] tl fl' (by simp)
  have hrb : rb = true := r5 ⟨hm, hch⟩
  subst hrb
  have hrr := (r4 rfl).1
  have hHalf : f.length / 2 = (edL f t.length).length := by omega
  rw [hHalf] at hrr
  subst hrr
  have hrc : isChoice (restL [(E : Int)] (edL f t.length).length) ((edL f t.length).length : Int) := restL_choice _ _
  obtain ⟨P2, S2, hP2, hS2, _, h5⟩ := five_ev t f _ hm hrc r3
  have hPP2 : P2 = Pb := Cl.uniq hP2 hP
  subst hPP2
  obtain ⟨bv, _, v2, v3⟩ := choiceValid_both t f (restL [(E : Int)] (edL f t.length).length) tl fl' r3
  have hbv : bv = true := v3.2 ⟨hm, (choice_half t f _ hm).2 hrc⟩
  subst hbv
  have hK : ∃ rd' : Int, Ev (fun k => impl_EdgeKind.f k (faces t f t.length) f E) rd' ∧ (rd' = 2 ↔ Go.Proofs.Ytjgknblneokhlaa.PF.Reach [faces t f t.length] t.length a b) ∧ (rd' = 1 ↔ (¬ Go.Proofs.Ytjgknblneokhlaa.PF.Reach [faces t f t.length] t.length a b ∧ Pd = 2)) := by
    by_cases z : Go.Proofs.Ytjgknblneokhlaa.PF.Reach [faces t f t.length] t.length a b
    · exact ⟨2, kd1 z, ⟨fun _ => z, fun _ => rfl⟩, ⟨fun q => by omega, fun q => absurd z q.1⟩⟩
    · refine ⟨(Pd : Int) - 1, kd2 z, ⟨fun q => by omega, fun q => absurd q z⟩, ⟨fun q => ⟨z, by omega⟩, fun q => by omega⟩⟩
  obtain ⟨rD, kD, kD2, kD1⟩ := hK
  have hO : Ev (fun k => impl_EdgeKind.f k bk f E) r ∧ (r = 2 ↔ Go.Proofs.Ytjgknblneokhlaa.PF.Reach [t] t.length a b) ∧ (r = 1 ↔ (¬ Go.Proofs.Ytjgknblneokhlaa.PF.Reach [t] t.length a b ∧ P2 = 2)) := by
    by_cases z : Go.Proofs.Ytjgknblneokhlaa.PF.Reach [t] t.length a b
    · have er := Ev.uniq e2 (k1 z)
      subst er
      exact ⟨kb1 (hRb.2 z), ⟨fun _ => z, fun _ => rfl⟩, ⟨fun q => by omega, fun q => absurd z q.1⟩⟩
    · have er := Ev.uniq e2 (k2 z)
      subst er
      refine ⟨kb2 (fun q => z (hRb.1 q)), ⟨fun q => by omega, fun q => absurd q z⟩, ⟨fun q => ⟨z, by omega⟩, fun q => by omega⟩⟩
  obtain ⟨kO, kO2, kO1⟩ := hO
  have c2 : ((r == 1) == ((P2 : Int) == 2)) = true := by
    rw [beq_iff_eq, Bool.eq_iff_iff, beq_iff_eq, beq_iff_eq, kO1]
    constructor
    · rintro ⟨_, q⟩; omega
    · intro q
      exact ⟨fun z => by have := pb1 z; omega, by omega⟩
  refine Ev.s ?_
  simp only [laws_FnKind.j0, Bool.false_eq_true, if_false]
  refine Ev.bind (mapDual_ev' t f hm tl fl') ?_
  refine Ev.bind bk1 ?_
  refine Ev.bind hMC ?_
  refine Ev.bind kD ?_
  refine Ev.bind r2 ?_
  refine Ev.bind (implCounts_ev v2 h5) ?_
  refine Ev.bind gev ?_
  simp only [if_true]
  refine Ev.bind kO ?_
  have e0 : rd (fiveN P2 S2 ((cyS t t.length t.length).2.length : Int) (restL [(E : Int)] (edL f t.length).length).length) 0 = (P2 : Int) := rfl
  have e3 : rd (threeN (cyS t t.length t.length).2.length (edL f t.length).length F') 1 = ((edL f t.length).length : Int) := rfl
  simp only [if_true, five_len, show (0 : Int) < ((5 : Nat) : Int) by omega, e0, c2, show (threeN (cyS t t.length t.length).2.length (edL f t.length).length F').length = 3 from rfl, show (1 : Int) < ((3 : Nat) : Int) by omega, e3, show ((edL f t.length).length : Int) ≥ 1 by omega]
  by_cases g0 : (G : Int) = 0
  · have hg : V + F = 2 + (edL f t.length).length := by omega
    have q1 := pb2 hg
    have q2 := pd2 (by omega)
    have c3 : ((r == 1) == (rD == 2)) = true := by
      rw [beq_iff_eq, Bool.eq_iff_iff, beq_iff_eq, beq_iff_eq, kO1, kD2]
      exact ⟨fun z => q1.1 z.2, fun z => ⟨fun y => by have := pb1 y; have := q1.2 z; omega, q1.2 z⟩⟩
    have c4 : ((r == 2) == (rD == 1)) = true := by
      rw [beq_iff_eq, Bool.eq_iff_iff, beq_iff_eq, beq_iff_eq, kO2, kD1]
      exact ⟨fun z => ⟨fun y => by have := pd1 y; have := q2.2 z; omega, q2.2 z⟩, fun z => q2.1 z.2⟩
    simp only [g0, if_true, c3, c4]
    exact Ev.const rfl
  · simp only [g0, if_false]
    exact Ev.const rfl
end Go.Proofs.Ytjgknblneokhlaa.Pure

namespace Go.Proofs.Ytjgknblneokhlaa.fnKind
open Go.ChangeShapes Go.WideShapes Go.ChangeAt Go.RowKit
open Go.ChangeMaps (open_string shut_string)
set_option linter.unusedVariables false
theorem own : ownKnob Try.prog.godebug = none := by kernel_rfl
theorem laidOut : laidOutB Try.prog = true := by kernel_rfl
def IsRow (k : IntKind) (w : World) (a : Option Addr) (len cap : Nat) (zs : List Int) : Prop :=
 (a = none ∧ len = 0 ∧ cap = 0 ∧ zs = []) ∨
 ∃ x, a = some x ∧ len ≤ cap ∧ cap ≤ maxLen ∧ zs.length = cap ∧ (∀ i, i < zs.length → w.cell? (x.add i) = some (.int k (zs.getD i 0))) ∧ ∀ n ∈ zs, (Lit.int k n).wf = true
set_option maxRecDepth 100000 in
theorem lifted (os : Os) (started : os.Started) (H : Type) (enc : TypeId × Value → H) :
  ReturnsInHanded {} Try.checked os 10 .any (Rows.fnKindSpec.pre6 enc Try.prog Try.f10 Rows.fnKindRow.domain false) (Rows.fnKindSpec.post enc Try.prog Try.f10 false true false false) := by
 refine returnsInHanded_of_change_sized (C := Try.checked) own started (by kernel_rfl) Try.func10
  (ChangeSpec.witness6 (enc := enc) (C := Try.checked) false ⟨#[], #[.slice none 0 0], []⟩ 8 (by kernel_rfl) (by kernel_rfl) (by kernel_rfl) (by kernel_rfl)) ?_
 intro W base args ds gs before hval0 hW hcnd hsz0 _
 have hsz : (DataW.weightsEach Try.prog (Try.f10.params.toList ++ Rows.fnKindSpec.plain.varTypes Try.prog) (ds ++ gs)).all (· ≤ reachBytes) = true := hsz0
 have hval : ∀ (j : Nat) t v, Try.f10.params[j]? = some t → args[j]? = some v → Value.okWide Try.prog W .any base t v := hval0
 have hW' := hW
 obtain ⟨p, q, hA0, hV, rfl, hfz, hnd⟩ := hW
 have hA : DataW.TrodAll enc Try.prog W 0 (fun _ => true) true Try.f10.params.toList args.toList ds p := hA0
 rw [Try.params10] at hA hval hsz
 obtain ⟨v0, vs0, d0, ds0, p0, q0, hargs, rfl, rfl, h0, r0⟩ := trodAll_cons hA
 obtain ⟨rfl, rfl, rfl⟩ := trodAll_nil r0
 obtain rfl : args = #[v0] := by cases args; simp_all
 obtain ⟨rfl, rfl⟩ := trodVars_none hV
 obtain ⟨a0, len0, cap0, rfl⟩ := okWide_slice Try.underlying22 (hval 0 22 v0 rfl rfl)
 have k0 := h0
 have lt0 : ∀ x ∈ p0, x.block < W.heap.size := by obtain ⟨m, hm⟩ := k0; exact DataW.trod_lt m _ _ _ hm
 obtain ⟨z0, w0⟩ : ∃ zs, IsRow .u8 W a0 len0 cap0 zs := by
  obtain ⟨fuel, hf⟩ := h0
  rcases open_ints Try.underlying22 Try.underlying5 (by kernel_rfl) hf with ⟨hcs, _⟩ | ⟨x, l, c, zs, hcs, _, hl, hm, hz, _, hcell, hwz⟩
  ·
   simp [Value.cells] at hcs
   obtain ⟨rfl, rfl, rfl⟩ := hcs
   exact ⟨[], .inl ⟨rfl, rfl, rfl, rfl⟩⟩
  ·
   simp [Value.cells] at hcs
   obtain ⟨rfl, rfl, rfl⟩ := hcs
   exact ⟨zs, .inr ⟨_, rfl, hl, hm, by simpa using hz, hcell, hwz⟩⟩
 have y0 : len0 * 1 ≤ 140737488351232 := Go.Proofs.YtjgknblneokhlaaW.PrintWords.sized_ints hsz (j := 0) (t := 22) rfl rfl Try.underlying22 Try.underlying5 (by kernel_rfl) (by kernel_rfl) h0
 clear hA0 hval0 hsz0 hsz
 refine (PF.laws_FnKind.walk Pure.FnKind a0 len0 cap0 z0 W w0 y0).mono fun e W' ⟨he, bel⟩ => ?_
 subst he
 exact ⟨_, rfl, _, _, _, [], _, [], hW', trodAll_mk1 (shut_bool Try.underlying4 _), (trodAll_cons_mk (Below.trod laidOut (by kernel_rfl) (of_decide_eq_true (by kernel_rfl)) k0 bel lt0) trodAll_mk0), rfl, bel.frame _, fun h => by cases h⟩
theorem over : Rows.fnKindRow.holds Try.pinned (OpenSpec.ofChange Rows.fnKindSpec) :=
 OpenClaim.holds_of_wide 10 Try.f10 rfl rfl rfl rfl rfl rfl rfl ⟨rfl, rfl, rfl, rfl, rfl⟩ rfl rfl rfl rfl rfl (by kernel_rfl) Try.func10 (by kernel_rfl)
  (of_decide_eq_true (by kernel_rfl)) (by unfold Func.isWrapper; first | (rw [if_pos (by decide +kernel)]; kernel_rfl) | (rw [if_neg (by decide +kernel)]; exact ⟨rfl, rfl⟩))
  (fun os started H enc _ => lifted os started H enc)
theorem proved : Rows.FnKindSaid := over
#print axioms proved
end Go.Proofs.Ytjgknblneokhlaa.fnKind
namespace Go.Proofs.Ytjgknblneokhlaa
theorem fnKind_holds : Rows.FnKindSaid := fnKind.proved
end Go.Proofs.Ytjgknblneokhlaa
