/- A part of the proof of FnTreeQuad. There are no conditions. -/
import Derived.Test.YtlpbalebodlipaaProg
import Derived.Below
import Derived.Deep.Draws
import Derived.Deep.AppendLies
import Derived.Maps.AppendAt
import Derived.OwnWalk
import Derived.Laws.BytesArg
import Derived.Laws.MakeOwn
import Derived.Laws.OwnMore
import Derived.Tactics
import Derived.Lib.ConvBytes
import Derived.Laws.Slices
import Derived.WalkKit
import Derived.KernelRfl
import Derived.RowKit3
import Derived.Deep.LoopGhost
import Derived.Deep.QuietTactic
import Derived.BigQuiet
import Derived.WideLaws
import Derived.Deep.DeepCutAuto
import Derived.Deep.CutBlock
import Derived.Deep.RegionHeld3
import Derived.Lib.AppendStr
import Derived.ArgAppend
import Derived.Laws.IdiomCopy
import Derived.OrdersHeld
import Derived.Laws.BitsLemmas
import Derived.RowKit
import Derived.Laws.RangeAny
import Derived.Laws.RangeString
import Derived.Shelf.Sort.Plain
import Derived.Shelf.Lay
import Derived.Sort.OwnSortedInts
import Derived.ProofKit
import Derived.OpenShut
import Derived.ShutString
import Derived.ChangeOld
import Derived.SizedLaws
import Derived.Test.YtlpbalebodlipaaKTQWWords
import Derived.Test.YtlpbalebodlipaaKTQWLast
import Derived.Test.YtlpbalebodlipaaKTQWTab
import Derived.Test.YtlpbalebodlipaaKTQWQPut
import Derived.Test.YtlpbalebodlipaaKTQWApart
import Derived.Test.YtlpbalebodlipaaKTQWFoot
import Derived.Test.YtlpbalebodlipaaKTQWKept
import Derived.Test.YtlpbalebodlipaaKTQWShare
import Derived.Test.YtlpbalebodlipaaKTQWN
import Derived.Test.YtlpbalebodlipaaKTQWAt
import Derived.Test.YtlpbalebodlipaaKTQWRepsOne
import Derived.Test.YtlpbalebodlipaaKTQWInv
import Derived.Test.YtlpbalebodlipaaKTQWGuard
import Derived.Test.YtlpbalebodlipaaKTQWNEv
import Derived.Test.YtlpbalebodlipaaKTQWMore
import Derived.Test.YtlpbalebodlipaaKTQWSized
import Derived.Deep.OwnRows
import Derived.Laws.Rows
import Derived.Test.YtlpbalebodlipaaRows
namespace Go.Proofs.Ytlpbalebodlipaa.PK
open Go.RowKit Go.Proofs.YtlpbalebodlipaaW.PrintWords Go.Proofs.YtlpbalebodlipaaW.PrintLast Go.Proofs.YtlpbalebodlipaaW.PrintMore
theorem oA {p : Prop} [Decidable p] (h : decide p = true := by first | (with_reducible assumption) | assumption) : p := of_decide_eq_true h
theorem rS {p : Prop} (h : p := by first | rfl | (simp; done) | (simp [*]; done)) : p := h
theorem rE {p : Prop} (h : p := by first | rfl | (simp [errW_none, errW_some] <;> rfl) | (simp [*, errW_none, errW_some] <;> rfl)) : p := h
theorem Az {p : Prop} (h : p) : Aside0 p := Aside0.mk h
theorem rU {p q : Prop} (h : q) (f : q → p := by intro h; (with_reducible repeat (first | apply Kd.R_alloc | apply Kd.R_drewN | apply Kd.R_drew)); exact h) : p := f h
theorem sU {p q : Prop} (h : q) (f : q → p := by intro h; (with_reducible repeat (first | apply Kd.S_alloc | apply Kd.S_drewN | apply Kd.S_drew)); exact h) : p := f h
theorem vU {p q : Prop} (h : q) (f : q → p := by intro h; (with_reducible repeat (first | apply Kd.V_alloc | apply Kd.V_drewN | apply Kd.V_drew)); exact h) : p := f h
theorem nU {p q : Prop} (h : q) (f : q → p := by intro h; (with_reducible repeat (first | apply Kd.N_alloc | apply Kd.N_drewN | apply Kd.N_drew)); exact h) : p := f h
theorem qU {p q : Prop} (h : q) (f : q → p := by intro h; (with_reducible repeat (first | apply Kd.Q_alloc | apply Kd.Q_drewN | apply Kd.Q_drew)); exact h) : p := f h
theorem kU {p q : Prop} (h : q) (f : q → p := by intro h; (with_reducible repeat (first | refine blk_drewN ?_ _ | refine blk_drew ?_ | refine blk_alloc ?_ _)); exact h) : p := f h
theorem cU {p q : Prop} (h : q) (f : q → p := by intro h; repeat (first | exact h | (with_reducible refine Kd.C_alloc ?_ _) | (with_reducible refine Kd.C_drewN ?_ _) | (with_reducible refine Kd.C_drew ?_))) : p := f h
theorem bU0 {p q : Prop} (h : q) (f : q → p := by intro h; repeat (first | (with_reducible first | exact h | apply below_alloc | apply pw_below_drewN | apply below_drew1) | exact h)) : p := f h
theorem bU1 {p q a0 : Prop} (h : q) (g0 : a0) (f : q → a0 → p := by intro h g0; repeat (first | (with_reducible first | exact h | apply below_alloc | apply pw_below_drewN | apply below_drew1 | refine below_set ?_ g0) | exact h)) : p := f h g0
theorem bU2 {p q a0 a1 : Prop} (h : q) (g0 : a0) (g1 : a1) (f : q → a0 → a1 → p := by intro h g0 g1; repeat (first | (with_reducible first | exact h | apply below_alloc | apply pw_below_drewN | apply below_drew1 | refine below_set ?_ g0 | refine below_set ?_ g1) | exact h)) : p := f h g0 g1
theorem bU3 {p q a0 a1 a2 : Prop} (h : q) (g0 : a0) (g1 : a1) (g2 : a2) (f : q → a0 → a1 → a2 → p := by intro h g0 g1 g2; repeat (first | (with_reducible first | exact h | apply below_alloc | apply pw_below_drewN | apply below_drew1 | refine below_set ?_ g0 | refine below_set ?_ g1 | refine below_set ?_ g2) | exact h)) : p := f h g0 g1 g2
theorem bU4 {p q a0 a1 a2 a3 : Prop} (h : q) (g0 : a0) (g1 : a1) (g2 : a2) (g3 : a3) (f : q → a0 → a1 → a2 → a3 → p := by intro h g0 g1 g2 g3; repeat (first | (with_reducible first | exact h | apply below_alloc | apply pw_below_drewN | apply below_drew1 | refine below_set ?_ g0 | refine below_set ?_ g1 | refine below_set ?_ g2 | refine below_set ?_ g3) | exact h)) : p := f h g0 g1 g2 g3
theorem bU5 {p q a0 a1 a2 a3 a4 : Prop} (h : q) (g0 : a0) (g1 : a1) (g2 : a2) (g3 : a3) (g4 : a4) (f : q → a0 → a1 → a2 → a3 → a4 → p := by intro h g0 g1 g2 g3 g4; repeat (first | (with_reducible first | exact h | apply below_alloc | apply pw_below_drewN | apply below_drew1 | refine below_set ?_ g0 | refine below_set ?_ g1 | refine below_set ?_ g2 | refine below_set ?_ g3 | refine below_set ?_ g4) | exact h)) : p := f h g0 g1 g2 g3 g4
theorem hR {α : Type} {a b : α} {p q : Prop} (e : a = b) (h : q) (f : a = b → q → p := by intro e H; first | (rw [e]; with_reducible exact H) | (have H2_ := (Option.bind_some _ _).symm.trans H; rw [e]; with_reducible exact H2_) | (have H2_ := (Option.bind_some _ _).symm.trans H; with_reducible exact H2_) | with_reducible exact H | (rw [e]; exact H) | exact H) : p := f e h
theorem z1_0 {p : Prop} (h : p := by (with_reducible repeat (first | apply Kd.R_alloc | apply Kd.R_drewN | apply Kd.R_drew)); exact Kd.R_mono HO_7.out (fun _ hk => ⟨⟨hk.1.2.1, ⟨hk.1.2.2.1, ⟨hk.1.2.2.2, hk.2⟩⟩⟩, hk.1.1⟩)) : p := h
theorem z1_1 {p : Prop} (h : p := by exact (below_size (bU1 HB.out GW105.out))) : p := h
theorem z1_2 {p : Prop} (h : p := by exact (Kd.R_after (ok := (fun k_ => oV k_ u6 ∧ oV k_ v113 ∧ oV k_ u9 ∧ oV k_ u10)) (by (with_reducible repeat (first | apply Kd.R_alloc | apply Kd.R_drewN | apply Kd.R_drew)); exact Kd.R_mono HO_8.out (fun _ hk => ⟨⟨hk.2.1, ⟨hk.2.2.1, ⟨hk.2.2.2.1, hk.2.2.2.2⟩⟩⟩, hk.1⟩)) hg hat)) : p := h
theorem z1_3 {p : Prop} (h : p := by (with_reducible repeat (first | apply Kd.R_alloc | apply Kd.R_drewN | apply Kd.R_drew)); exact Kd.R_mono HO_10.out (fun _ hk => ⟨⟨hk.2.1, ⟨hk.2.2.1, ⟨hk.2.2.2.1, hk.2.2.2.2⟩⟩⟩, hk.1⟩)) : p := h
theorem z1_4 {p : Prop} (h : p := by (with_reducible repeat (first | apply Kd.R_alloc | apply Kd.R_drewN | apply Kd.R_drew)); exact Kd.R_mono HO_10.out (fun _ hk => ⟨⟨hk.1.2.1, ⟨hk.1.2.2.1, ⟨hk.1.2.2.2, hk.2⟩⟩⟩, hk.1.1⟩)) : p := h
theorem z1_5 {p : Prop} (h : p := by (with_reducible repeat (first | apply Kd.R_alloc | apply Kd.R_drewN | apply Kd.R_drew)); exact Kd.R_mono HO127.out (fun _ hk => ⟨⟨hk.2.1, ⟨hk.2.2.1, ⟨hk.2.2.2.1, hk.2.2.2.2⟩⟩⟩, hk.1⟩)) : p := h
theorem z1_6 {p : Prop} (h : p := by (with_reducible repeat (first | apply Kd.R_alloc | apply Kd.R_drewN | apply Kd.R_drew)); exact Kd.R_mono HO127.out (fun _ hk => ⟨⟨hk.1.1, ⟨hk.1.2.2.1, ⟨hk.1.2.2.2, hk.2⟩⟩⟩, hk.1.2.1⟩)) : p := h
theorem z1_7 {p : Prop} (h : p := by (with_reducible repeat (first | apply Kd.R_alloc | apply Kd.R_drewN | apply Kd.R_drew)); exact Kd.R_mono HO131.out (fun _ hk => ⟨⟨hk.1.1, ⟨hk.1.2.2.1, ⟨hk.1.2.2.2, hk.2⟩⟩⟩, hk.1.2.1⟩)) : p := h
theorem z1_8 {p : Prop} (h : p := by (with_reducible repeat (first | apply Kd.R_alloc | apply Kd.R_drewN | apply Kd.R_drew)); exact Kd.R_mono HO_6.out (fun _ hk => ⟨⟨hk.2.1, ⟨hk.2.2.1, ⟨hk.2.2.2.1, hk.2.2.2.2⟩⟩⟩, hk.1⟩)) : p := h
theorem z1_9 {p : Prop} (h : p := by (with_reducible repeat (first | apply Kd.R_alloc | apply Kd.R_drewN | apply Kd.R_drew)); exact Kd.R_mono HO_7.out (fun _ hk => ⟨⟨hk.2.1, ⟨hk.2.2.1, ⟨hk.2.2.2.1, hk.2.2.2.2⟩⟩⟩, hk.1⟩)) : p := h
theorem z1_10 {p : Prop} (h : p := by (with_reducible repeat (first | apply Kd.R_alloc | apply Kd.R_drewN | apply Kd.R_drew)); exact Kd.R_mono HO_9.out (fun _ hk => ⟨⟨hk.2.1, ⟨hk.2.2.1, ⟨hk.2.2.2.1, hk.2.2.2.2⟩⟩⟩, hk.1⟩)) : p := h
theorem z1_11 {p : Prop} (h : p := by (with_reducible repeat (first | apply Kd.R_alloc | apply Kd.R_drewN | apply Kd.R_drew)); exact Kd.R_mono HO_6.out (fun _ hk => ⟨hk.1.1, ⟨hk.1.2.1, ⟨hk.1.2.2.1, ⟨hk.1.2.2.2, hk.2⟩⟩⟩⟩)) : p := h
theorem z1_12 {p : Prop} (h : p := by (with_reducible repeat (first | apply Kd.R_alloc | apply Kd.R_drewN | apply Kd.R_drew)); exact Kd.R_mono HO_8.out (fun _ hk => ⟨⟨hk.1.2.1, ⟨hk.1.2.2.1, ⟨hk.1.2.2.2, hk.2⟩⟩⟩, hk.1.1⟩)) : p := h
theorem z1_13 {p : Prop} (h : p := by (with_reducible repeat (first | apply Kd.R_alloc | apply Kd.R_drewN | apply Kd.R_drew)); exact Kd.R_mono HO_9.out (fun _ hk => ⟨⟨hk.1.2.1, ⟨hk.1.2.2.1, ⟨hk.1.2.2.2, hk.2⟩⟩⟩, hk.1.1⟩)) : p := h
theorem z1_14 {p : Prop} (h : p := by exact (below_step (bU1 HB.out GW105.out) hb)) : p := h
theorem lQ {p : Prop} (h : p := by (try simp only [List.map_toArray, List.map_cons, List.map_nil]); first | done | rfl | (simp only [List.length_drop, List.length_take]; rfl)) : p := h
theorem rB {q b r : Prop} (h : q) (hb : b) (f : q → b → r := by intro h hb; exact Kd.R_below (rU h) hb) : Aside0 r := Aside0.mk (f h hb)
theorem sB {q b r : Prop} (h : q) (hb : b) (f : q → b → r := by intro h hb; exact Kd.S_below (sU h) hb) : Aside0 r := Aside0.mk (f h hb)
theorem vB {q b r : Prop} (h : q) (hb : b) (f : q → b → r := by intro h hb; exact Kd.V_below (vU h) hb) : Aside0 r := Aside0.mk (f h hb)
theorem nB {q b r : Prop} (h : q) (hb : b) (f : q → b → r := by intro h hb; exact Kd.N_below (nU h) hb) : Aside0 r := Aside0.mk (f h hb)
theorem qB {q b r : Prop} (h : q) (hb : b) (f : q → b → r := by intro h hb; exact Kd.Q_below (qU h) hb) : Aside0 r := Aside0.mk (f h hb)
theorem kF1 {p q a0 : Prop} (h : q) (n0 : a0) (f : q → a0 → p := by intro h n0; repeat (first | exact h | refine blk_drewN ?_ _ | refine blk_drew ?_ | refine blk_alloc ?_ _ | refine blk_far ?_ n0 _)) : p := f h n0
theorem rW2 {p q b : Prop} (h : q) (bk : b) (f : q → b → p := by intro h bk; (with_reducible repeat (first | apply Kd.R_alloc | apply Kd.R_drewN | apply Kd.R_drew)); exact (Kd.R_mono (Kd.R_far (Kd.R_far (Kd.R_types h bk (by decide)) (fun _ hk => hk.2) _) (fun _ hk => hk.2) _) (fun _ h_ => h_.1))) : p := f h bk
theorem sW2 {p q b : Prop} (h : q) (bk : b) (f : q → b → p := by intro h bk; (with_reducible repeat (first | apply Kd.S_alloc | apply Kd.S_drewN | apply Kd.S_drew)); exact (Kd.S_mono (Kd.S_far (Kd.S_far (Kd.S_types h bk (by decide)) (fun _ hk => hk.2) _) (fun _ hk => hk.2) _) (fun _ h_ => h_.1))) : p := f h bk
theorem qW2 {p q b : Prop} (h : q) (bk : b) (f : q → b → p := by intro h bk; (with_reducible repeat (first | apply Kd.Q_alloc | apply Kd.Q_drewN | apply Kd.Q_drew)); exact (Kd.Q_mono (Kd.Q_far (Kd.Q_far (Kd.Q_types h bk (by decide)) (fun _ hk => hk.2) _) (fun _ hk => hk.2) _) (fun _ h_ => h_.1))) : p := f h bk
theorem yP {p : Prop} (h : p := by intro w'; go_simp; with_reducible rfl) : p := h
def bv (n m : Nat) : Array Bool := ((List.range n).map (fun i => m.testBit i)).toArray
theorem kG {q b c r : Prop} (h : q) (hb : b) (hc : c) (f : q → b → c → r := by intro h hb hc; exact blk_grown (kU h) hb hc) : r := f h hb hc
theorem kB {q b r : Prop} (h : q) (hb : b) (f : q → b → r := by intro h hb; exact blk_below (kU h) hb) : Aside0 r := Aside0.mk (f h hb)
theorem aP {p : Prop} (h : p := by simp only [Act.put, List.setIfInBounds_toArray, List.set_cons_zero, List.set_cons_succ, i64_w, i32_w]; rfl) : p := h
theorem cz {w : World} {g : Nat} {t : TypeId} {cs : Array Value} {v : Value} (h : w.heap[g]? = some (.cells cs t (0, 0))) (i : Nat) (e : cs[i]? = some v := by rfl) : w.cell? ⟨g, i, none⟩ = some v := (blk_cell h i).trans e
theorem gD1 {α : Type} {p0 : Prop} {a : Option α} {r : α} {d0 : Decidable p0} (h : (if p0 then a else none) = some r) : @decide p0 d0 = true ∧ a = some r := by split at h; (exact ⟨decide_eq_true (by assumption), h⟩); (cases h)
theorem gD2 {α : Type} {p0 p1 : Prop} {a : Option α} {r : α} {d0 : Decidable p0} {d1 : Decidable p1} (h : (if p0 then (if p1 then a else none) else none) = some r) : @decide p0 d0 = true ∧ @decide p1 d1 = true ∧ a = some r := ⟨(gD1 h).1, gD1 (gD1 h).2⟩
theorem gD3 {α : Type} {p0 p1 p2 : Prop} {a : Option α} {r : α} {d0 : Decidable p0} {d1 : Decidable p1} {d2 : Decidable p2} (h : (if p0 then (if p1 then (if p2 then a else none) else none) else none) = some r) : @decide p0 d0 = true ∧ @decide p1 d1 = true ∧ @decide p2 d2 = true ∧ a = some r := ⟨(gD1 h).1, gD2 (gD1 h).2⟩
theorem gD4 {α : Type} {p0 p1 p2 p3 : Prop} {a : Option α} {r : α} {d0 : Decidable p0} {d1 : Decidable p1} {d2 : Decidable p2} {d3 : Decidable p3} (h : (if p0 then (if p1 then (if p2 then (if p3 then a else none) else none) else none) else none) = some r) : @decide p0 d0 = true ∧ @decide p1 d1 = true ∧ @decide p2 d2 = true ∧ @decide p3 d3 = true ∧ a = some r := ⟨(gD1 h).1, gD3 (gD1 h).2⟩
theorem gD5 {α : Type} {p0 p1 p2 p3 p4 : Prop} {a : Option α} {r : α} {d0 : Decidable p0} {d1 : Decidable p1} {d2 : Decidable p2} {d3 : Decidable p3} {d4 : Decidable p4} (h : (if p0 then (if p1 then (if p2 then (if p3 then (if p4 then a else none) else none) else none) else none) else none) = some r) : @decide p0 d0 = true ∧ @decide p1 d1 = true ∧ @decide p2 d2 = true ∧ @decide p3 d3 = true ∧ @decide p4 d4 = true ∧ a = some r := ⟨(gD1 h).1, gD4 (gD1 h).2⟩
theorem gP {α : Type} {p : Prop} {a : Option α} {r : α} {d : Decidable p} (h : (if p then a else none) = some r) : p ∧ a = some r := by split at h; (exact ⟨by assumption, h⟩); (cases h)
theorem gE {α : Type} {p : Prop} {a : Option α} {r : α} {d : Decidable p} (h : (if p then a else none) = some r) : (p = True) ∧ @decide p d = true ∧ a = some r := ⟨eq_true (gP h).1, gD1 h⟩
theorem gB {α : Type} {p : Prop} {a b : Option α} {r : α} {d : Decidable p} (h : (if p then a else b) = some r) : (@decide p d = true ∧ a = some r) ∨ (@decide p d = false ∧ b = some r) := by split at h; (exact .inl ⟨decide_eq_true (by assumption), h⟩); (exact .inr ⟨decide_eq_false (by assumption), h⟩)
theorem gQ {α β : Type} [BEq β] [LawfulBEq β] {x y : β} {a b : Option α} {r : α} {d : Decidable (x = y)} (h : (if x = y then a else b) = some r) : ((x == y) = true ∧ (x != y) = false ∧ a = some r) ∨ ((x == y) = false ∧ (x != y) = true ∧ b = some r) := by split at h; exact .inl ⟨beq_iff_eq.mpr (by assumption), bne_eq_false_iff_eq.mpr (by assumption), h⟩; exact .inr ⟨beq_eq_false_iff_ne.mpr (by assumption), bne_iff_ne.mpr (by assumption), h⟩
theorem bZ (w : World) : Aside0 (Below w.heap.size w w) := Aside0.mk (Below.refl w.heap.size w)
theorem nS {a b : Nat} (h : Aside0 (a ≠ b)) : Aside0 (b ≠ a) := Aside0.mk h.out.symm
theorem hS {p : Prop} (h : p := by first | (go_simp; done) | (go_simp; rfl)) : p := h
def oV (k : Nat) (v : Value) : Prop := some k ≠ v.ownBlock
def oS (k : Nat) (A : Option Addr) (n c : Nat) : Prop := some k ≠ (Value.slice A n c).ownBlock
theorem bd {α β : Type} {x : Option α} {f : α → Option β} {r : β} (h : x.bind f = some r) : ∃ t, Aside0 (x = some t) ∧ f t = some r := by obtain ⟨t, a, b⟩ := Option.bind_eq_some_iff.mp h; exact ⟨t, Aside0.mk a, b⟩
theorem Ay {α : Type} {a b : α} (h : a = b) : Aside0 (b = a) := Aside0.mk h.symm
theorem nN {α : Type} {x : Option α} {r : α} (h : x = some r) (e : x = none := by rfl) : False := by rw [e] at h; cases h
theorem nT : ¬ (false = true) := by decide
theorem aI {kd : IntKind} {w : World} {A : Option Addr} {n : Nat} {xs : List Int} (h : (Kd.int kd).C w A n xs) (i : Int) (h0 : 0 ≤ i := by exact oA) (h1 : i < n := by exact oA) : ∃ ad, A = some ad ∧ ((0 ≤ i) = True) ∧ ((i < n) = True) ∧ w.cell? (ad.add i.toNat) = some (.int kd (rd xs i)) := by obtain ⟨ad, e, hx⟩ := Kd.at_int h i h0 h1; exact ⟨ad, e, eq_true h0, eq_true h1, hx⟩
theorem aB {w : World} {A : Option Addr} {n : Nat} {xs : List Bool} (h : Kd.bool.C w A n xs) (i : Int) (h0 : 0 ≤ i := by exact oA) (h1 : i < n := by exact oA) : ∃ ad, A = some ad ∧ ((0 ≤ i) = True) ∧ ((i < n) = True) ∧ w.cell? (ad.add i.toNat) = some (.bool (rdOf false xs i)) := by obtain ⟨ad, e, hx⟩ := Kd.at_bool h i h0 h1; exact ⟨ad, e, eq_true h0, eq_true h1, hx⟩
theorem aJ {kd : IntKind} {w : World} {ad : Addr} {n : Nat} {xs : List Int} (h : (Kd.int kd).C w (some ad) n xs) (i : Int) (h0 : 0 ≤ i := by exact oA) (h1 : i < n := by exact oA) : ((0 ≤ i) = True) ∧ ((i < n) = True) ∧ w.cell? (ad.add i.toNat) = some (.int kd (rd xs i)) := by obtain ⟨ad, e, hx⟩ := Kd.at_int h i h0 h1; cases e; exact ⟨eq_true h0, eq_true h1, hx⟩
theorem hT {w w' : World} {a : Addr} {v : Value} (hb : Below w.heap.size w w') (h : w.cell? a = some v) : w'.cell? a = some v := (hb.cell (World.block_lt_of_cell? w _ h)).trans h
theorem mO {p : Prop} (h : p := by (try have h1_ := HK1.out); (try have h2_ := HK2.out); (try have h3_ := HK3.out); (try have h4_ := HK4.out); (try have h5_ := HK5.out); (try have h6_ := HK6.out); first | omega | exact Nat.le_refl _) : p := h
theorem gW {w W : World} {g : Nat} (hg : g = W.heap.size) (h : Below w.heap.size w W) : Aside0 (w.heap.size ≤ g) := Aside0.mk (by rw [hg]; exact below_size h)
theorem nL {W : World} {g g' : Nat} {o : Obj} (hg : g' = W.heap.size) (h : W.heap[g]? = some o) : Aside0 (g ≠ g') := Aside0.mk (by rw [hg]; exact Nat.ne_of_lt (blk_lt h))
theorem nP {a b : Nat} (h : Aside0 (a ≠ b)) : a ≠ b ∧ b ≠ a := ⟨h.out, h.out.symm⟩
theorem bc2 {w : World} {g : Nat} {t : TypeId} {a0 a1 : Value} (h : w.heap[g]? = some (.cells #[a0, a1] t (0, 0))) : w.cell? ⟨g, 0, none⟩ = some a0 ∧ w.cell? ⟨g, 1, none⟩ = some a1 ∧ w.frozen? ⟨g, 0, none⟩ = false ∧ w.frozen? ⟨g, 1, none⟩ = false := ⟨(blk_cell h 0).trans rfl, (blk_cell h 1).trans rfl, blk_frozen h 0, blk_frozen h 1⟩
theorem gK {P : Program} {ops : Array Oper} {o : Oper} {a : Act} {Q : Exit → Act → World → Prop} {rest : List Oper} {W : World} (f : FuncId) {ops_ : Array Operand} {ts : Array TypeId} (_ho : o.op = .call { callee := .value (.func f), args := ops_, argTypes := ts }) (h : wpList P ops Q (o :: rest) a W) : wpList P ops Q (o :: rest) a W := h
theorem gd {P : Program} {ops : Array Oper} {o : Oper} {a : Act} {Q : Exit → Act → World → Prop} {rest : List Oper} {W : World} (N : Tmp) (_hN : o.dst = some N) (h : wpList P ops Q (o :: rest) a W) : wpList P ops Q (o :: rest) a W := h
theorem gs {P : Program} {ops : Array Oper} {o : Oper} {a : Act} {Q : Exit → Act → World → Prop} {rest : List Oper} {W : World} (t : TypeId) (p : Tmp) {v : Operand} (_ho : o.op = .store t (.tmp p) v) (h : wpList P ops Q (o :: rest) a W) : wpList P ops Q (o :: rest) a W := h
theorem gC {P : Program} {ops : Array Oper} {o : Oper} {a : Act} {Q : Exit → Act → World → Prop} {rest : List Oper} {W : World} (N : Option Tmp) {f : FuncId} {fn : Func} {ops_ : Array Operand} {ts : Array TypeId} (hf : P.funcs[f]? = some fn) (args : Array Value) (h : Calls P f args W fun e w' => ∃ v, e = .returned v ∧ wpList P ops Q rest (a.put N v) w') (hd : o.dst = N := by rfl) (hg : o.guard = none := by rfl) (hname : (fn.name == "runtime.NumGoroutine") = false := by kernel_rfl) (hb : fn.body.isSome = true := by rfl) (hop : o.op = .call { callee := .value (.func f), args := ops_, argTypes := ts } := by rfl) (hargs : ops_.map a.eval = args := by exact lQ) : wpList P ops Q (o :: rest) a W := goesL_ N hd hg hf hname hb args hop hargs h
theorem bE {P : Program} {ops : Array Oper} {o : Oper} {a : Act} {Q : Exit → Act → World → Prop} {rest : List Oper} {W : World} (N : Tmp) (cs : Array Value) (t : TypeId) (h : ∀ g, g = W.heap.size → ∀ w1, w1.heap[g]? = some (.cells cs t (0, 0)) → Below W.heap.size W w1 → wpList P ops Q rest (a.put o.dst (.pointer (some ⟨g, 0, none⟩))) w1) (hgd : o.guard = none := by rfl) (hd : o.dst = some N := by rfl) (hrun : (execOp a.eval o).run P W = .ok (.value (.pointer (some ⟨W.heap.size, 0, none⟩))) (W.alloc (.cells cs t (0, 0))) := by first | (go_simp; done) | (go_simp; rfl)) : wpList P ops Q (o :: rest) a W := box_event hgd hd hrun h
theorem sE {P : Program} {ops : Array Oper} {o : Oper} {a : Act} {Q : Exit → Act → World → Prop} {rest : List Oper} {W : World} (t : TypeId) (p : Tmp) {v : Operand} (w1 : World) (h : ∀ w', w' = w1 → wpList P ops Q rest a w') (ho : o.op = .store t (.tmp p) v := by rfl) (hgd : o.guard = none := by rfl) (hN : o.dst = none := by rfl) (hrun : (execOp a.eval o).run P W = .ok .skip w1 := by first | (go_simp; done) | (go_simp; rfl)) : wpList P ops Q (o :: rest) a W := store_event hgd ho hN hrun h
theorem rM {p q : Prop} (h : q) (f : q → p := by intro h; (with_reducible repeat (first | apply Kd.R_alloc | apply Kd.R_drewN | apply Kd.R_drew)); exact Kd.R_mono h (fun _ hk => by first | trivial | exact hk.1 | (simp only [hk, and_self, ne_eq, not_false_eq_true, true_and, and_true, true_or, or_true]; done) | ((try simp only [oS, oV] at hk ⊢); simp only [hk, and_self, ne_eq, not_false_eq_true, true_and, and_true, true_or, or_true]))) : p := f h
theorem sM {p q : Prop} (h : q) (f : q → p := by intro h; (with_reducible repeat (first | apply Kd.S_alloc | apply Kd.S_drewN | apply Kd.S_drew)); exact Kd.S_mono h (fun _ hk => by first | trivial | exact hk.1 | (simp only [hk, and_self, ne_eq, not_false_eq_true, true_and, and_true, true_or, or_true]; done) | ((try simp only [oS, oV] at hk ⊢); simp only [hk, and_self, ne_eq, not_false_eq_true, true_and, and_true, true_or, or_true]))) : p := f h
theorem qM {p q : Prop} (h : q) (f : q → p := by intro h; (with_reducible repeat (first | apply Kd.Q_alloc | apply Kd.Q_drewN | apply Kd.Q_drew)); exact Kd.Q_mono h (fun _ hk => by first | trivial | exact hk.1 | (simp only [hk, and_self, ne_eq, not_false_eq_true, true_and, and_true, true_or, or_true]; done) | ((try simp only [oS, oV] at hk ⊢); simp only [hk, and_self, ne_eq, not_false_eq_true, true_and, and_true, true_or, or_true]))) : p := f h
attribute [local go_sem] max2_int min2_int max_two min_two max_three min_three max_four min_four   -- for this text's walks alone
set_option linter.unusedVariables false
set_option linter.unusedSimpArgs false
def errW : Option Int → Value
 | none => .nilIface
 | some c => .iface 0 (.int .i64 c)
theorem errW_none : errW none = .nilIface := rfl
theorem errW_some (c : Int) : errW (some c) = .iface 0 (.int .i64 c) := rfl
theorem info3 : (Try.prog.info? 3).map (fun i => (i.zero, i.size, i.bytes)) = some (some (.int .i64 0), 1, 8) := by kernel_rfl
theorem info4 : (Try.prog.info? 4).map (fun i => (i.zero, i.size, i.bytes)) = some (some (.bool false), 1, 1) := by kernel_rfl
theorem info5 : (Try.prog.info? 5).map (fun i => (i.zero, i.size, i.bytes)) = some (some (.int .u8 0), 1, 1) := by kernel_rfl
theorem info23 : (Try.prog.info? 23).map (fun i => (i.zero, i.size, i.bytes)) = some (some (.slice none 0 0), 1, 24) := by kernel_rfl
def rd_L1 (xs : List (List Int)) (i : Int) : (List Int) := xs.getD i.toNat ([] : List Int)
theorem at_L1 {w : World} {A : Option Addr} {n : Nat} {xs : List (List Int)} (h : Kd.C (Kd.slice 3 (Kd.int .i64)) w A n xs) (i : Int) (h0 : 0 ≤ i) (h1 : i < n) : ∃ ad A0 c0, A = some ad ∧ w.cell? (ad.add i.toNat) = some (.slice A0 (rd_L1 xs i).length c0) ∧ (rd_L1 xs i).length ≤ c0 ∧ (Kd.int .i64).C w A0 (rd_L1 xs i).length (rd_L1 xs i) := by
 obtain ⟨ad, c, e, _, hK, hc0⟩ := Kd.C_get h ([] : List Int) i h0 h1; have hc : ∀ j u, c[j]? = some u → w.cell? (ad.add (i.toNat * 1 + j)) = some u := hc0; obtain ⟨A0, c0, rfl, l0, g0⟩ := hK; exact ⟨ad, A0, c0, e, by have hq := hc 0 _ rfl; rwa [Nat.mul_one, Nat.add_zero] at hq, l0, g0⟩
end Go.Proofs.Ytlpbalebodlipaa.PK

namespace Go.Proofs.Ytlpbalebodlipaa.PK
open Go.RowKit Go.Proofs.YtlpbalebodlipaaW.PrintWords Go.Proofs.YtlpbalebodlipaaW.PrintLast Go.Proofs.YtlpbalebodlipaaW.PrintMore
attribute [local go_sem] max2_int min2_int max_two min_two max_three min_three max_four min_four   -- for this text's walks alone
set_option linter.unusedVariables false
set_option linter.unusedSimpArgs false
theorem seen_far {α : Type} {enc : α → Value} {d : α} {h1 : ∀ x, (enc x).oneCell' = true} {w : World} {p : Addr} {A : Option Addr} {n : Nat} {xs : List α} (h : (Kd.scalar enc h1).C w A n xs) (hne : ∀ ad, A = some ad → 0 < n → ad.block ≠ p.block) (u : Value) : (Kd.scalar enc h1).C (w.setCell p u) A n xs := by
 have h' := Kd.reads_of_C (d := d) h; refine Kd.C_of_reads (d := d) ⟨h'.1, h'.2.1, fun hn => ?_⟩; obtain ⟨ad, e, hc⟩ := h'.2.2 hn; exact ⟨ad, e, fun j hj => (cell_far (by rw [add_block]; exact hne ad e hn) u).trans (hc j hj)⟩
def spec_l6In.f (a0 : Int) (a1 : Int) (a2 : Int) : Option (Bool) := if a0 ≥ a1 then (some (decide (a0 ≤ a2))) else (some false)
set_option maxHeartbeats 8000000 in
set_option maxRecDepth 100000 in
theorem spec_l6In.calls (a0 : Int) (a1 : Int) (a2 : Int) (r : Bool) (w : World) (h : spec_l6In.f a0 a1 a2 = some r) :
  Calls Try.prog 63 #[.int .i64 a0, .int .i64 a1, .int .i64 a2] w fun e w' => e = .returned (.bool r) ∧ Drawn0 w w' := by
 have H := h; clear h; unfold spec_l6In.f at H
 replace H := gB H; rcases H with ⟨c4b0, H⟩ | ⟨c4b0, H⟩
 · obtain rfl := Option.some.inj H; go_enter Try.func63, Try.ntmps63; go_wp2; go_ret; exact ⟨by first | rfl | (simp; done) | (simp [*]; done), by repeat (first | exact Drawn0.refl _ | apply Drawn0.step)⟩
 · obtain rfl := Option.some.inj H; go_enter Try.func63, Try.ntmps63; go_wp2; go_ret; exact ⟨by first | rfl | (simp; done) | (simp [*]; done), by repeat (first | exact Drawn0.refl _ | apply Drawn0.step)⟩
mutual
def spec_TreeValid.l0 : Nat → Int → Int → Int → ByteArray → List Int → Option (Bool)
 | 0, _, _, _, _, _ => none
 | k + 1, x3, x4, x5, xZ0, xZ1 => if x5 < (xZ0.size : Int) then (if 0 ≤ x5 then (if (bt xZ0 x5) = 40 then (if (wrap64 (x3 + 1)) < 0 then (some false) else (spec_TreeValid.l0 k (wrap64 (x3 + 1)) (wrap64 (x4 + 1)) (wrap64 (x5 + 1)) xZ0 xZ1)) else (if (bt xZ0 x5) = 41 then (if (wrap64 (x3 - 1)) < 0 then (some false) else (spec_TreeValid.l0 k (wrap64 (x3 - 1)) x4 (wrap64 (x5 + 1)) xZ0 xZ1)) else (some false))) else (none)) else (spec_TreeValid.l1 k x3 x4 0 xZ0 xZ1)
def spec_TreeValid.l1 : Nat → Int → Int → Int → ByteArray → List Int → Option (Bool)
 | 0, _, _, _, _, _ => none
 | k + 1, x3, x4, x6, xZ0, xZ1 => if x6 < (xZ1.length : Int) then (if 0 ≤ x6 then ((spec_l6In.f (rd xZ1 x6) (-1) 1).bind fun t103 => (if t103 = true then (spec_TreeValid.l1 k x3 x4 (wrap64 (x6 + 1)) xZ0 xZ1) else (some false))) else (none)) else (if x3 = 0 then ((spec_l6In.f x4 1 3).bind fun t104 => (if t104 = true then (some ((xZ1.length : Int) == x4)) else (some false))) else (some false))
end
def spec_TreeValid.f (k : Nat) (a0_0 : ByteArray) (l0_1 : List Int) : Option (Bool) := spec_TreeValid.l0 k 0 0 0 a0_0 l0_1
theorem spec_TreeValid.mono_l : ∀ k, (∀ y0 y1 y2 y3 y4, LeO (spec_TreeValid.l0 k y0 y1 y2 y3 y4) (spec_TreeValid.l0 (k + 1) y0 y1 y2 y3 y4)) ∧ (∀ y0 y1 y2 y3 y4, LeO (spec_TreeValid.l1 k y0 y1 y2 y3 y4) (spec_TreeValid.l1 (k + 1) y0 y1 y2 y3 y4))
 | 0 => ⟨fun _ _ _ _ _ r h => by simp [spec_TreeValid.l0] at h, fun _ _ _ _ _ r h => by simp [spec_TreeValid.l1] at h⟩
 | k + 1 => by
  obtain ⟨ih0, ih1⟩ := spec_TreeValid.mono_l k; refine ⟨?_, ?_⟩
  ·
   intro y0 y1 y2 y3 y4
   unfold spec_TreeValid.l0
   repeat' first
   | (with_reducible exact ih0 _ _ _ _ _)
   | (with_reducible exact ih1 _ _ _ _ _)
   | (with_reducible exact LeO.refl _)
   | (with_reducible exact LeO.none _)
   | (with_reducible refine LeO.ite ?_ ?_)
   | (with_reducible refine LeO.bind ?_ (fun _ => ?_))
   | exact ih0 _ _ _ _ _
   | exact ih1 _ _ _ _ _
   | exact LeO.none _
   | refine LeO.ite ?_ ?_
   | refine LeO.bind ?_ (fun _ => ?_)
  ·
   intro y0 y1 y2 y3 y4
   unfold spec_TreeValid.l1
   repeat' first
   | (with_reducible exact ih0 _ _ _ _ _)
   | (with_reducible exact ih1 _ _ _ _ _)
   | (with_reducible exact LeO.refl _)
   | (with_reducible exact LeO.none _)
   | (with_reducible refine LeO.ite ?_ ?_)
   | (with_reducible refine LeO.bind ?_ (fun _ => ?_))
   | exact ih0 _ _ _ _ _
   | exact ih1 _ _ _ _ _
   | exact LeO.none _
   | refine LeO.ite ?_ ?_
   | refine LeO.bind ?_ (fun _ => ?_)
theorem spec_TreeValid.mono : ∀ a0 a1 k, LeO (spec_TreeValid.f k a0 a1) (spec_TreeValid.f (k + 1) a0 a1) := by
 intro a0 a1 k; obtain ⟨ih0, ih1⟩ := spec_TreeValid.mono_l k
 unfold spec_TreeValid.f
 repeat' first
   | (with_reducible exact ih0 _ _ _ _ _)
   | (with_reducible exact ih1 _ _ _ _ _)
   | (with_reducible exact LeO.refl _)
   | (with_reducible exact LeO.none _)
   | (with_reducible refine LeO.ite ?_ ?_)
   | (with_reducible refine LeO.bind ?_ (fun _ => ?_))
   | exact ih0 _ _ _ _ _
   | exact ih1 _ _ _ _ _
   | exact LeO.none _
   | refine LeO.ite ?_ ?_
   | refine LeO.bind ?_ (fun _ => ?_)
set_option maxHeartbeats 8000000 in
set_option maxRecDepth 100000 in
theorem spec_TreeValid.calls (k : Nat) (a0_0 : ByteArray) (A0_1 : Option Addr) (c0_1 : Nat) (l0_1 : List Int) (r : Bool) (w : World) (hr0_1 : Kd.C (Kd.int .i64) w A0_1 l0_1.length l0_1) (hc0_1 : l0_1.length ≤ c0_1) (h : spec_TreeValid.f k a0_0 l0_1 = some r) :
  Calls Try.prog 17 #[.agg #[.string a0_0, .slice A0_1 l0_1.length c0_1]] w fun e w' => e = .returned (.bool r) ∧ Below w.heap.size w w' := by
 have hu25 := Try.underlying25; have HR0_1 := Az hr0_1; have HC0_1 := Az hc0_1; clear hr0_1 hc0_1; have HB := bZ w; have H := h; clear h; unfold spec_TreeValid.f at H; have H' := Az H; clear H; go_enter Try.func17, Try.ntmps17
 go_wp2_with (first | ((with_reducible refine gd 1 rfl ?_); (refine gate_guard (by rfl) ?_; dsimp only); refine bE 1 #[.string a0_0, .slice A0_1 l0_1.length c0_1] 25 ?_; intro gb101 hg w2 hbox hb; have BK101 := Az (hbox); have GW101 := gW hg (bU0 HB.out); replace HB := Az (below_step (bU0 HB.out) hb); clear hb hbox hg))
 go_loopg [3, 4, 5] k (fun kq v3 v4 v5 w' => ∃ (x3_1 : Int) (x4_1 : Int) (x5_1 : Int), v3 = .int .i64 x3_1 ∧ v4 = .int .i64 x4_1 ∧ v5 = .int .i64 x5_1 ∧ Aside0 (spec_TreeValid.l0 kq x3_1 x4_1 x5_1 a0_0 l0_1 = some r) ∧ Aside0 (kq ≤ k) ∧ Aside0 (w'.heap[gb101]? = some (.cells #[.string a0_0, (.slice A0_1 l0_1.length c0_1)] 25 (0, 0))) ∧ Aside0 (Below w.heap.size w w'))
 case atStart => exact ⟨(0), (0), (0), rS, rS, rS, H', ⟨Nat.le_refl _⟩, ⟨kU BK101.out⟩, ⟨bU1 HB.out GW101.out⟩⟩
 case round =>
  clear H'; obtain ⟨x3_1, x4_1, x5_1, rfl, rfl, rfl, HA, HK1, BK101, HB⟩ := hrel
  rcases gk with _ | k1
  exact (nN HA.out).elim; have H := HA.out; clear HA; simp only [spec_TreeValid.l0] at H
  by_cases c3 : x5_1 < (a0_0.size : Int)
  ·
   rw [if_pos c3] at H; have c3b0 := decide_eq_true c3; clear c3; replace H := gD1 H; obtain ⟨c4b0, H⟩ := H
   replace H := gQ H; rcases H with ⟨c6b0, c6b1, H⟩ | ⟨c6b0, c6b1, H⟩
   ·
    replace H := gB H; rcases H with ⟨c7b0, H⟩ | ⟨c7b0, H⟩
    · obtain rfl := Option.some.inj H; have hz8 := bc2 BK101.out; have p5 : 0 ≤ (x5_1 : Int) := oA; have q5 : x5_1 < (a0_0.size : Int) := oA; have hx5 := bt_at a0_0 x5_1; replace p5 := eq_true p5; replace q5 := eq_true q5; go_wp2; go_ret; exact ⟨rE, bU1 HB.out GW101.out⟩
    ·
     have H' := Az H; clear H; have hz9 := bc2 BK101.out; have p5 : 0 ≤ (x5_1 : Int) := oA; have q5 : x5_1 < (a0_0.size : Int) := oA; have hx5 := bt_at a0_0 x5_1; replace p5 := eq_true p5; replace q5 := eq_true q5; go_wp2; go_roundg k1
     case measure => exact mO
     case rel => exact ⟨(wrap64 (x3_1 + 1)), (wrap64 (x4_1 + 1)), (wrap64 (x5_1 + 1)), rS, rS, rS, H', ⟨mO⟩, ⟨kU BK101.out⟩, ⟨bU1 HB.out GW101.out⟩⟩
   ·
    replace H := gQ H; rcases H with ⟨c10b0, c10b1, H⟩ | ⟨c10b0, c10b1, H⟩
    ·
     replace H := gB H; rcases H with ⟨c11b0, H⟩ | ⟨c11b0, H⟩
     · obtain rfl := Option.some.inj H; have hz12 := bc2 BK101.out; have p5 : 0 ≤ (x5_1 : Int) := oA; have q5 : x5_1 < (a0_0.size : Int) := oA; have hx5 := bt_at a0_0 x5_1; replace p5 := eq_true p5; replace q5 := eq_true q5; go_wp2; go_ret; exact ⟨rE, bU1 HB.out GW101.out⟩
     ·
      have H' := Az H; clear H; have hz13 := bc2 BK101.out; have p5 : 0 ≤ (x5_1 : Int) := oA; have q5 : x5_1 < (a0_0.size : Int) := oA; have hx5 := bt_at a0_0 x5_1; replace p5 := eq_true p5; replace q5 := eq_true q5; go_wp2; go_roundg k1
      case measure => exact mO
      case rel => exact ⟨(wrap64 (x3_1 - 1)), (x4_1), (wrap64 (x5_1 + 1)), rS, rS, rS, H', ⟨mO⟩, ⟨kU BK101.out⟩, ⟨bU1 HB.out GW101.out⟩⟩
    · obtain rfl := Option.some.inj H; have hz14 := bc2 BK101.out; have p5 : 0 ≤ (x5_1 : Int) := oA; have q5 : x5_1 < (a0_0.size : Int) := oA; have hx5 := bt_at a0_0 x5_1; replace p5 := eq_true p5; replace q5 := eq_true q5; go_wp2; go_ret; exact ⟨rE, bU1 HB.out GW101.out⟩
  ·
   rw [if_neg c3] at H; have c3b0 := decide_eq_false c3; clear c3; have H' := Az H; clear H; have hz15 := bc2 BK101.out; go_wp2
   go_loopg [6] k1 (fun kq v6 w' => ∃ (x6_2 : Int), v6 = .int .i64 x6_2 ∧ Aside0 (spec_TreeValid.l1 kq x3_1 x4_1 x6_2 a0_0 l0_1 = some r) ∧ Aside0 (kq ≤ k1) ∧ Aside0 (w'.heap[gb101]? = some (.cells #[.string a0_0, (.slice A0_1 l0_1.length c0_1)] 25 (0, 0))) ∧ Aside0 (Below w.heap.size w w'))
   case atStart => exact ⟨(0), rS, H', ⟨Nat.le_refl _⟩, ⟨kU BK101.out⟩, ⟨bU1 HB.out GW101.out⟩⟩
   case round =>
    clear H'; obtain ⟨x6_2, rfl, HA, HK2, BK101, HB⟩ := hrel
    rcases gk with _ | k2
    exact (nN HA.out).elim; have H := HA.out; clear HA; simp only [spec_TreeValid.l1] at H
    replace H := gB H; rcases H with ⟨c16b0, H⟩ | ⟨c16b0, H⟩
    ·
     replace H := gD1 H; obtain ⟨c17b0, H⟩ := H; replace H := bd H; obtain ⟨t103, A18, H⟩ := H
     by_cases c19 : t103 = true
     ·
      subst c19; rw [if_pos rfl] at H; have H' := Az H; clear H; have hz20 := bc2 BK101.out; obtain ⟨ad102, e102, p102, q102, hx102_0⟩ := aI HR0_1.out x6_2
      cases e102
      replace hx102_0 := hT HB.out hx102_0
      go_wp2_with (first | ((with_reducible refine gK 63 rfl ?_); refine gC (some 42) Try.func63 #[.int .i64 (rd l0_1 x6_2), .int .i64 (-1), .int .i64 1] ?_; (with_reducible refine (spec_l6In.calls (rd l0_1 x6_2) (-1) 1 true _ A18.out).mono ?_); rintro e w' ⟨rfl, ⟨nd, rfl⟩⟩; refine ⟨_, rfl, ?_⟩))
      go_roundg k2
      case measure => exact mO
      case rel => exact ⟨(wrap64 (x6_2 + 1)), rS, H', ⟨mO⟩, ⟨kU BK101.out⟩, ⟨bU1 HB.out GW101.out⟩⟩
     ·
      replace c19 := Bool.eq_false_iff.mpr c19; subst c19; rw [if_neg nT] at H; obtain rfl := Option.some.inj H; have hz21 := bc2 BK101.out; obtain ⟨ad102, e102, p102, q102, hx102_0⟩ := aI HR0_1.out x6_2
      cases e102
      replace hx102_0 := hT HB.out hx102_0
      go_wp2_with (first | ((with_reducible refine gK 63 rfl ?_); refine gC (some 42) Try.func63 #[.int .i64 (rd l0_1 x6_2), .int .i64 (-1), .int .i64 1] ?_; (with_reducible refine (spec_l6In.calls (rd l0_1 x6_2) (-1) 1 false _ A18.out).mono ?_); rintro e w' ⟨rfl, ⟨nd, rfl⟩⟩; refine ⟨_, rfl, ?_⟩))
      go_ret; exact ⟨rE, bU1 HB.out GW101.out⟩
    ·
     replace H := gQ H; rcases H with ⟨c22b0, c22b1, H⟩ | ⟨c22b0, c22b1, H⟩
     ·
      replace H := bd H; obtain ⟨t104, A23, H⟩ := H
      by_cases c24 : t104 = true
      ·
       subst c24; rw [if_pos rfl] at H; obtain rfl := Option.some.inj H; have hz25 := bc2 BK101.out
       go_wp2_with (first | (go_at_call 63; (with_reducible refine (spec_l6In.calls x4_1 1 3 true _ A23.out).mono ?_); rintro e w' ⟨rfl, ⟨nd, rfl⟩⟩))
       go_ret; exact ⟨rE, bU1 HB.out GW101.out⟩
      ·
       replace c24 := Bool.eq_false_iff.mpr c24; subst c24; rw [if_neg nT] at H; obtain rfl := Option.some.inj H; have hz26 := bc2 BK101.out
       go_wp2_with (first | (go_at_call 63; (with_reducible refine (spec_l6In.calls x4_1 1 3 false _ A23.out).mono ?_); rintro e w' ⟨rfl, ⟨nd, rfl⟩⟩))
       go_ret; exact ⟨rE, bU1 HB.out GW101.out⟩
     · obtain rfl := Option.some.inj H; have hz27 := bc2 BK101.out; go_wp2; go_ret; exact ⟨rE, bU1 HB.out GW101.out⟩
def spec_l6qWalk.l0 : Nat → List Int → List Int → List Int → List Int → List Int → List Int → Int → Int → ByteArray → List Int → Option (List Int × List Int × List Int)
 | 0, _, _, _, _, _, _, _, _, _, _ => none
 | k + 1, x5, x6, x7, x8, x9, x10, x11, x12, xZ0, xZ1 => if x12 < (xZ0.size : Int) then (if 0 ≤ (wrap64 ((x8.length : Int) - 1)) then (if (wrap64 ((x8.length : Int) - 1)) < (x8.length : Int) then (if x5.length < 17592186044416 then ((some (x5 ++ [rd x8 (wrap64 ((x8.length : Int) - 1))] : List Int)).bind fun y125 => (if 0 ≤ (wrap64 ((x9.length : Int) - 1)) then (if (wrap64 ((x9.length : Int) - 1)) < (x9.length : Int) then (if x6.length < 17592186044416 then ((some (x6 ++ [rd x9 (wrap64 ((x9.length : Int) - 1))] : List Int)).bind fun y129 => (if 0 ≤ x12 then (if (bt xZ0 x12) = 40 then (if 0 ≤ x11 then (if x11 < (xZ1.length : Int) then (if x9.length < 17592186044416 then (if x8.length < 17592186044416 then (if x10.length < 17592186044416 then (spec_l6qWalk.l0 k y125 y129 x7 (x8 ++ [wrap64 (x11 + 1)]) (x9 ++ [wrap64 ((rd x9 (wrap64 ((x9.length : Int) - 1))) + (rd xZ1 x11))]) (x10 ++ [x12]) (wrap64 (x11 + 1)) (wrap64 (x12 + 1)) xZ0 xZ1) else (none)) else (none)) else (none)) else (none)) else (none)) else (if (wrap64 ((x8.length : Int) - 1)) ≤ (x8.length : Int) then (if (wrap64 ((x9.length : Int) - 1)) ≤ (x9.length : Int) then (if 0 ≤ (wrap64 ((x10.length : Int) - 1)) then (if (wrap64 ((x10.length : Int) - 1)) < (x10.length : Int) then (if (wrap64 ((x10.length : Int) - 1)) ≤ (x10.length : Int) then (if x12 < (x7.length : Int) then (if 0 ≤ (rd x10 (wrap64 ((x10.length : Int) - 1))) then (if (rd x10 (wrap64 ((x10.length : Int) - 1))) < (x7.length : Int) then (spec_l6qWalk.l0 k y125 y129 ((x7.set (x12 : Int).toNat (rd x10 (wrap64 ((x10.length : Int) - 1)))).set ((rd x10 (wrap64 ((x10.length : Int) - 1))) : Int).toNat x12) (x8.take ((wrap64 ((x8.length : Int) - 1)) : Int).toNat) (x9.take ((wrap64 ((x9.length : Int) - 1)) : Int).toNat) (x10.take ((wrap64 ((x10.length : Int) - 1)) : Int).toNat) x11 (wrap64 (x12 + 1)) xZ0 xZ1) else (none)) else (none)) else (none)) else (none)) else (none)) else (none)) else (none)) else (none))) else (none))) else (none)) else (none)) else (none))) else (none)) else (none)) else (none)) else (some (x5, x6, x7))
def spec_l6qWalk.f (k : Nat) (a0_0 : ByteArray) (l0_1 : List Int) : Option (List Int × List Int × List Int) := if 0 ≤ (a0_0.size : Int) then (if ((a0_0.size : Int) : Int).toNat ≤ 35184372088832 then (spec_l6qWalk.l0 k (([] : List Int)) (([] : List Int)) (List.replicate ((a0_0.size : Int) : Int).toNat 0) (([0] : List Int)) (([0] : List Int)) (([] : List Int)) 0 0 a0_0 l0_1) else (none)) else (none)
theorem spec_l6qWalk.mono_l : ∀ k, (∀ y0 y1 y2 y3 y4 y5 y6 y7 y8 y9, LeO (spec_l6qWalk.l0 k y0 y1 y2 y3 y4 y5 y6 y7 y8 y9) (spec_l6qWalk.l0 (k + 1) y0 y1 y2 y3 y4 y5 y6 y7 y8 y9))
 | 0 => fun _ _ _ _ _ _ _ _ _ _ r h => by simp [spec_l6qWalk.l0] at h
 | k + 1 => by
  have ih0 := spec_l6qWalk.mono_l k
  ·
   intro y0 y1 y2 y3 y4 y5 y6 y7 y8 y9
   unfold spec_l6qWalk.l0
   repeat' first
   | (with_reducible exact ih0 _ _ _ _ _ _ _ _ _ _)
   | (with_reducible exact LeO.refl _)
   | (with_reducible exact LeO.none _)
   | (with_reducible refine LeO.ite ?_ ?_)
   | (with_reducible refine LeO.bind ?_ (fun _ => ?_))
   | exact ih0 _ _ _ _ _ _ _ _ _ _
   | exact LeO.none _
   | refine LeO.ite ?_ ?_
   | refine LeO.bind ?_ (fun _ => ?_)
theorem spec_l6qWalk.mono : ∀ a0 a1 k, LeO (spec_l6qWalk.f k a0 a1) (spec_l6qWalk.f (k + 1) a0 a1) := by
 intro a0 a1 k; have ih0 := spec_l6qWalk.mono_l k
 unfold spec_l6qWalk.f
 repeat' first
   | (with_reducible exact ih0 _ _ _ _ _ _ _ _ _ _)
   | (with_reducible exact LeO.refl _)
   | (with_reducible exact LeO.none _)
   | (with_reducible refine LeO.ite ?_ ?_)
   | (with_reducible refine LeO.bind ?_ (fun _ => ?_))
   | exact ih0 _ _ _ _ _ _ _ _ _ _
   | exact LeO.none _
   | refine LeO.ite ?_ ?_
   | refine LeO.bind ?_ (fun _ => ?_)
def spec_l6qWalk.T14 : Bool × List (List Nat × List Nat) := (true, [([], []), ([], []), ([], []), ([2], [2]), ([3], [3]), ([1, 4], [1, 4]), ([5], [5]), ([], []), ([7], [7]), ([], []), ([8, 9], [8, 9]), ([10], [10]), ([6, 11], [6, 11]), ([12], [12]), ([0, 13], [0, 13]), ([14, 14, 0, 1, 2, 3, 4, 5, 6, 7, 8, 9, 10, 11, 12, 13, 14], [0, 1, 2, 14])])
def spec_l6qWalk.B14 : List Nat := [0, 0, 0, 4, 12, 30, 62, 0, 128, 0, 896, 1920, 4094, 8190, 16383, 32767]
theorem spec_l6qWalk.tab14 : rtab .any (opsOf Try.f70 14) = spec_l6qWalk.T14 := by kernel_rfl
theorem spec_l6qWalk.bits14 : waitsOk spec_l6qWalk.T14.2 spec_l6qWalk.B14 = true := by kernel_rfl
set_option maxHeartbeats 8000000 in
set_option maxRecDepth 100000 in
theorem spec_l6qWalk.calls (k : Nat) (a0_0 : ByteArray) (A0_1 : Option Addr) (c0_1 : Nat) (l0_1 : List Int) (r1 : List Int) (r2 : List Int) (r3 : List Int) (w : World) (hr0_1 : Kd.C (Kd.int .i64) w A0_1 l0_1.length l0_1) (hc0_1 : l0_1.length ≤ c0_1) (h : spec_l6qWalk.f k a0_0 l0_1 = some (r1, r2, r3)) :
  Calls Try.prog 70 #[.agg #[.string a0_0, .slice A0_1 l0_1.length c0_1]] w fun e w' => ∃ v0_ v1_ v2_ : Value, e = .returned (.tuple #[v0_, v1_, v2_]) ∧ Kd.R (Kd.int .i64) 3 w' w.heap.size (fun k_ => oV k_ v1_ ∧ oV k_ v2_) v0_ r1 ∧ Kd.R (Kd.int .i64) 3 w' w.heap.size (fun k_ => oV k_ v0_ ∧ oV k_ v2_) v1_ r2 ∧ Kd.R (Kd.int .i64) 3 w' w.heap.size (fun k_ => oV k_ v0_ ∧ oV k_ v1_) v2_ r3 ∧ Below w.heap.size w w' := by
 have hu25 := Try.underlying25; have HR0_1 := Az hr0_1; have HC0_1 := Az hc0_1; clear hr0_1 hc0_1; have HB := bZ w; have H := h; clear h; unfold spec_l6qWalk.f at H; obtain ⟨y106, hy106⟩ : ∃ y_ : List Int, y_ = (([] : List Int)) := ⟨_, rfl⟩; replace H : (if 0 ≤ (a0_0.size : Int) then (if ((a0_0.size : Int) : Int).toNat ≤ 35184372088832 then (spec_l6qWalk.l0 k y106 (([] : List Int)) (List.replicate ((a0_0.size : Int) : Int).toNat 0) (([0] : List Int)) (([0] : List Int)) (([] : List Int)) 0 0 a0_0 l0_1) else (none)) else (none)) = some (r1, r2, r3) := hR hy106 H; have Ny106 := Az hy106; clear hy106; obtain ⟨y109, hy109⟩ : ∃ y_ : List Int, y_ = (([] : List Int)) := ⟨_, rfl⟩; replace H : (if 0 ≤ (a0_0.size : Int) then (if ((a0_0.size : Int) : Int).toNat ≤ 35184372088832 then (spec_l6qWalk.l0 k y106 y109 (List.replicate ((a0_0.size : Int) : Int).toNat 0) (([0] : List Int)) (([0] : List Int)) (([] : List Int)) 0 0 a0_0 l0_1) else (none)) else (none)) = some (r1, r2, r3) := hR hy109 H; have Ny109 := Az hy109; clear hy109; replace H := gE H; obtain ⟨c2b0, c2b1, H⟩ := H; replace H := gE H; obtain ⟨c3b0, c3b1, H⟩ := H; generalize Ny112 : (List.replicate ((a0_0.size : Int) : Int).toNat 0 : List Int) = y112 at H; replace Ny112 := Ay Ny112; obtain ⟨y115, hy115⟩ : ∃ y_ : List Int, y_ = (([0] : List Int)) := ⟨_, rfl⟩; replace H : (spec_l6qWalk.l0 k y106 y109 y112 y115 (([0] : List Int)) (([] : List Int)) 0 0 a0_0 l0_1) = some (r1, r2, r3) := hR hy115 H; have Ny115 := Az hy115; clear hy115; generalize Ny118 : (([0] : List Int) : List Int) = y118 at H; replace Ny118 := Ay Ny118; generalize Ny121 : (([] : List Int) : List Int) = y121 at H; replace Ny121 := Ay Ny121; have H' := Az H; clear H; go_enter Try.func70, Try.ntmps70
 go_wp2_with (first | ((with_reducible refine gd 1 rfl ?_); refine bE 1 #[.string a0_0, .slice A0_1 l0_1.length c0_1] 25 ?_; intro gb105 hg w4 hbox hb; have BK105 := Az (hbox); have GW105 := gW hg (bU0 HB.out); replace HB := Az (below_step (bU0 HB.out) hb); clear hb hbox hg) | ((with_reducible refine gd 14 rfl ?_); refine Kd.R_lit (Kd.int .i64) _ 3 rfl (N := 14) rfl (xs := ([] : List Int)) (inner := []) (ok := fun _ => True) (okp := fun _ => True) hS ?hp (fun _ hk => hk) trivial (Below.refl _ _) (Nat.le_refl _) (by simp) ?_; (case hp => exact (Reps.none _ _)); intro v107 w5 ho6 hb hg_ hnew_; clear hg_ hnew_; (first | rw [← Ny106.out] at ho6 | (simp only [Int.reduceToNat] at ho6; rw [← Ny106.out] at ho6)); have HO108 := Az (Kd.R_lower ho6 z1_1); replace BK105 := kB BK105.out hb; replace HB := Az z1_14; clear hb ho6) | ((with_reducible refine gd 15 rfl ?_); refine Kd.R_lit (Kd.int .i64) _ 3 rfl (N := 15) rfl (xs := ([] : List Int)) (inner := []) (ok := fun _ => True) (okp := fun _ => True) hS ?hp (fun _ hk => hk) trivial (Below.refl _ _) (Nat.le_refl _) (by simp) ?_; (case hp => exact (Reps.none _ _)); intro v110 w7 ho8 hb hg_ hnew_; clear hg_ hnew_; (first | rw [← Ny109.out] at ho8 | (simp only [Int.reduceToNat] at ho8; rw [← Ny109.out] at ho8)); have HO111 := Az (Kd.R_lower (Kd.R_new' ho8 (Kd.R_lt (rU HO108.out))) z1_1); replace HO108 := Az (Kd.R_elder' (rU HO108.out) (Kd.R_base ho8) hb); replace BK105 := kB BK105.out hb; replace HB := Az z1_14; clear hb ho8; have hz9 := bc2 BK105.out) | ((with_reducible refine gd 19 rfl ?_); refine Kd.R_make (Kd.int .i64) _ 3 rfl (N := 19) rfl 23 _ _ rfl (a0_0.size : Int) rfl rfl Try.underlying23 (.int .i64 0) 8 info3 rfl (by decide) (by omega) 0 (ok := fun _ => True) (okp := fun _ => True) rfl (fun _ hk => hk) trivial (oA) (Nat.le_trans (Nat.mul_le_mul_right _ (oA : (a0_0.size : Int).toNat ≤ 35184372088832)) (by omega)) (Below.refl _ _) (Nat.le_refl _) ?_; intro v113 w10 ho11 hb hg_ hnew_; clear hg_ hnew_; (first | rw [← Ny112.out] at ho11 | (simp only [Int.reduceToNat] at ho11; rw [← Ny112.out] at ho11)); have HO114 := Az (Kd.R_lower (Kd.R_new' (Kd.R_new' ho11 (Kd.R_lt (rU HO108.out))) (Kd.R_lt (rU HO111.out))) z1_1); replace HO108 := Az (Kd.R_elder' (rU HO108.out) (Kd.R_base ho11) hb); replace HO111 := Az (Kd.R_elder' (rU HO111.out) (Kd.R_base ho11) hb); replace BK105 := kB BK105.out hb; replace HB := Az z1_14; clear hb ho11) | ((with_reducible refine gd 20 rfl ?_); refine Kd.R_lit (Kd.int .i64) _ 3 rfl (N := 20) rfl (xs := ([0] : List Int)) (inner := [.int .i64 0]) (ok := fun _ => True) (okp := fun _ => True) hS ?hp (fun _ hk => hk) trivial (Below.refl _ _) (Nat.le_refl _) (by simp) ?_; (case hp => exact (Reps.one (show Kd.M (Kd.int .i64) _ _ _ 0 [.int .i64 0] from rfl) (Reps.none _ _))); intro v116 w12 ho13 hb hg_ hnew_; clear hg_ hnew_; (first | rw [← Ny115.out] at ho13 | (simp only [Int.reduceToNat] at ho13; rw [← Ny115.out] at ho13)); have HO117 := Az (Kd.R_lower (Kd.R_new' (Kd.R_new' (Kd.R_new' ho13 (Kd.R_lt (rU HO108.out))) (Kd.R_lt (rU HO111.out))) (Kd.R_lt (rU HO114.out))) z1_1); replace HO108 := Az (Kd.R_elder' (rU HO108.out) (Kd.R_base ho13) hb); replace HO111 := Az (Kd.R_elder' (rU HO111.out) (Kd.R_base ho13) hb); replace HO114 := Az (Kd.R_elder' (rU HO114.out) (Kd.R_base ho13) hb); replace BK105 := kB BK105.out hb; replace HB := Az z1_14; clear hb ho13) | ((with_reducible refine gd 21 rfl ?_); refine Kd.R_lit (Kd.int .i64) _ 3 rfl (N := 21) rfl (xs := ([0] : List Int)) (inner := [.int .i64 0]) (ok := fun _ => True) (okp := fun _ => True) hS ?hp (fun _ hk => hk) trivial (Below.refl _ _) (Nat.le_refl _) (by simp) ?_; (case hp => exact (Reps.one (show Kd.M (Kd.int .i64) _ _ _ 0 [.int .i64 0] from rfl) (Reps.none _ _))); intro v119 w14 ho15 hb hg_ hnew_; clear hg_ hnew_; (first | rw [← Ny118.out] at ho15 | (simp only [Int.reduceToNat] at ho15; rw [← Ny118.out] at ho15)); have HO120 := Az (Kd.R_lower (Kd.R_new' (Kd.R_new' (Kd.R_new' (Kd.R_new' ho15 (Kd.R_lt (rU HO108.out))) (Kd.R_lt (rU HO111.out))) (Kd.R_lt (rU HO114.out))) (Kd.R_lt (rU HO117.out))) z1_1); replace HO108 := Az (Kd.R_elder' (rU HO108.out) (Kd.R_base ho15) hb); replace HO111 := Az (Kd.R_elder' (rU HO111.out) (Kd.R_base ho15) hb); replace HO114 := Az (Kd.R_elder' (rU HO114.out) (Kd.R_base ho15) hb); replace HO117 := Az (Kd.R_elder' (rU HO117.out) (Kd.R_base ho15) hb); replace BK105 := kB BK105.out hb; replace HB := Az z1_14; clear hb ho15) | ((with_reducible refine gd 22 rfl ?_); refine Kd.R_lit (Kd.int .i64) _ 3 rfl (N := 22) rfl (xs := ([] : List Int)) (inner := []) (ok := fun _ => True) (okp := fun _ => True) hS ?hp (fun _ hk => hk) trivial (Below.refl _ _) (Nat.le_refl _) (by simp) ?_; (case hp => exact (Reps.none _ _)); intro v122 w16 ho17 hb hg_ hnew_; clear hg_ hnew_; (first | rw [← Ny121.out] at ho17 | (simp only [Int.reduceToNat] at ho17; rw [← Ny121.out] at ho17)); have HO123 := Az (Kd.R_lower (Kd.R_new' (Kd.R_new' (Kd.R_new' (Kd.R_new' (Kd.R_new' ho17 (Kd.R_lt (rU HO108.out))) (Kd.R_lt (rU HO111.out))) (Kd.R_lt (rU HO114.out))) (Kd.R_lt (rU HO117.out))) (Kd.R_lt (rU HO120.out))) z1_1); replace HO108 := Az (Kd.R_elder' (rU HO108.out) (Kd.R_base ho17) hb); replace HO111 := Az (Kd.R_elder' (rU HO111.out) (Kd.R_base ho17) hb); replace HO114 := Az (Kd.R_elder' (rU HO114.out) (Kd.R_base ho17) hb); replace HO117 := Az (Kd.R_elder' (rU HO117.out) (Kd.R_base ho17) hb); replace HO120 := Az (Kd.R_elder' (rU HO120.out) (Kd.R_base ho17) hb); replace BK105 := kB BK105.out hb; replace HB := Az z1_14; clear hb ho17))
 go_loopg [5, 6, 8, 9, 10, 11, 12] k (fun kq v5 v6 v8 v9 v10 v11 v12 w' => ∃ (x5_1 : List Int) (x6_1 : List Int) (x7_1 : List Int) (x8_1 : List Int) (x9_1 : List Int) (x10_1 : List Int) (x11_1 : Int) (x12_1 : Int), v11 = .int .i64 x11_1 ∧ v12 = .int .i64 x12_1 ∧ Aside0 (spec_l6qWalk.l0 kq x5_1 x6_1 x7_1 x8_1 x9_1 x10_1 x11_1 x12_1 a0_0 l0_1 = some (r1, r2, r3)) ∧ Aside0 (kq ≤ k) ∧ Aside0 (Kd.R (Kd.int .i64) 3 w' w.heap.size (fun k_ => oV k_ v6 ∧ oV k_ v113 ∧ oV k_ v8 ∧ oV k_ v9 ∧ oV k_ v10) v5 x5_1) ∧ Aside0 (Kd.R (Kd.int .i64) 3 w' w.heap.size (fun k_ => oV k_ v5 ∧ oV k_ v113 ∧ oV k_ v8 ∧ oV k_ v9 ∧ oV k_ v10) v6 x6_1) ∧ Aside0 (Kd.R (Kd.int .i64) 3 w' w.heap.size (fun k_ => oV k_ v5 ∧ oV k_ v6 ∧ oV k_ v8 ∧ oV k_ v9 ∧ oV k_ v10) v113 x7_1) ∧ Aside0 (Kd.R (Kd.int .i64) 3 w' w.heap.size (fun k_ => oV k_ v5 ∧ oV k_ v6 ∧ oV k_ v113 ∧ oV k_ v9 ∧ oV k_ v10) v8 x8_1) ∧ Aside0 (Kd.R (Kd.int .i64) 3 w' w.heap.size (fun k_ => oV k_ v5 ∧ oV k_ v6 ∧ oV k_ v113 ∧ oV k_ v8 ∧ oV k_ v10) v9 x9_1) ∧ Aside0 (Kd.R (Kd.int .i64) 3 w' w.heap.size (fun k_ => oV k_ v5 ∧ oV k_ v6 ∧ oV k_ v113 ∧ oV k_ v8 ∧ oV k_ v9) v10 x10_1) ∧ Aside0 (w'.heap[gb105]? = some (.cells #[.string a0_0, (.slice A0_1 l0_1.length c0_1)] 25 (0, 0))) ∧ Aside0 (Below w.heap.size w w'))
 case atStart => exact ⟨(y106), (y109), (y112), (y115), (y118), (y121), (0), (0), rS, rS, H', ⟨Nat.le_refl _⟩, ⟨by (with_reducible repeat (first | apply Kd.R_alloc | apply Kd.R_drewN | apply Kd.R_drew)); exact Kd.R_mono HO108.out (fun _ hk => ⟨hk.1.1.1.1.2, ⟨hk.1.1.1.2, ⟨hk.1.1.2, ⟨hk.1.2, hk.2⟩⟩⟩⟩)⟩, ⟨by (with_reducible repeat (first | apply Kd.R_alloc | apply Kd.R_drewN | apply Kd.R_drew)); exact Kd.R_mono HO111.out (fun _ hk => ⟨hk.1.1.1.1.2, ⟨hk.1.1.1.2, ⟨hk.1.1.2, ⟨hk.1.2, hk.2⟩⟩⟩⟩)⟩, ⟨by (with_reducible repeat (first | apply Kd.R_alloc | apply Kd.R_drewN | apply Kd.R_drew)); exact Kd.R_mono HO114.out (fun _ hk => ⟨hk.1.1.1.1.2, ⟨hk.1.1.1.2, ⟨hk.1.1.2, ⟨hk.1.2, hk.2⟩⟩⟩⟩)⟩, ⟨by (with_reducible repeat (first | apply Kd.R_alloc | apply Kd.R_drewN | apply Kd.R_drew)); exact Kd.R_mono HO117.out (fun _ hk => ⟨hk.1.1.1.1.2, ⟨hk.1.1.1.2, ⟨hk.1.1.2, ⟨hk.1.2, hk.2⟩⟩⟩⟩)⟩, ⟨by (with_reducible repeat (first | apply Kd.R_alloc | apply Kd.R_drewN | apply Kd.R_drew)); exact Kd.R_mono HO120.out (fun _ hk => ⟨hk.1.1.1.1.2, ⟨hk.1.1.1.2, ⟨hk.1.1.2, ⟨hk.1.2, hk.2⟩⟩⟩⟩)⟩, ⟨by (with_reducible repeat (first | apply Kd.R_alloc | apply Kd.R_drewN | apply Kd.R_drew)); exact Kd.R_mono HO123.out (fun _ hk => ⟨hk.1.1.1.1.2, ⟨hk.1.1.1.2, ⟨hk.1.1.2, ⟨hk.1.2, hk.2⟩⟩⟩⟩)⟩, ⟨kU BK105.out⟩, ⟨bU1 HB.out GW105.out⟩⟩
 case round =>
  clear H'; obtain ⟨x5_1, x6_1, x7_1, x8_1, x9_1, x10_1, x11_1, x12_1, rfl, rfl, HA, HK1, HO_5, HO_6, HO_7, HO_8, HO_9, HO_10, BK105, HB⟩ := hrel
  rcases gk with _ | k1
  exact (nN HA.out).elim; have H := HA.out; clear HA; simp only [spec_l6qWalk.l0] at H
  replace H := gB H; rcases H with ⟨c18b0, H⟩ | ⟨c18b0, H⟩
  ·
   obtain ⟨ji19, hji19⟩ : ∃ j_ : Int, (wrap64 ((x8_1.length : Int) - 1)) = j_ := ⟨_, rfl⟩; (first | rw [hji19] at H | simp only [hji19] at H); have hji19w : (IntKind.i64.wrap ((x8_1.length : Int) - 1)) = ji19 := (i64_w _).trans hji19; replace H := gD2 H; obtain ⟨c20b0, c21b0, H⟩ := H; replace H := gP H; obtain ⟨c22, H⟩ := H; have LMc22 := Az c22; clear c22; generalize Ny125 : (x5_1 ++ [rd x8_1 (ji19)] : List Int) = y125 at H; simp only [Option.bind_some] at H; replace Ny125 := Ay Ny125; obtain ⟨ji23, hji23⟩ : ∃ j_ : Int, (wrap64 ((x9_1.length : Int) - 1)) = j_ := ⟨_, rfl⟩; (first | rw [hji23] at H | simp only [hji23] at H); have hji23w : (IntKind.i64.wrap ((x9_1.length : Int) - 1)) = ji23 := (i64_w _).trans hji23; replace H := gD2 H; obtain ⟨c24b0, c25b0, H⟩ := H; replace H := gP H; obtain ⟨c26, H⟩ := H; have LMc26 := Az c26; clear c26; generalize Ny129 : (x6_1 ++ [rd x9_1 (ji23)] : List Int) = y129 at H; replace Ny129 := Ay Ny129; replace H := gD1 H; obtain ⟨c27b0, H⟩ := H
   replace H := gQ H; rcases H with ⟨c29b0, c29b1, H⟩ | ⟨c29b0, c29b1, H⟩
   ·
    replace H := gD2 H; obtain ⟨c30b0, c31b0, H⟩ := H; replace H := gP H; obtain ⟨c32, H⟩ := H; have LMc32 := Az c32; clear c32; generalize Ny134 : (x9_1 ++ [wrap64 ((rd x9_1 (ji23)) + (rd l0_1 x11_1))] : List Int) = y134 at H; replace Ny134 := Ay Ny134; replace H := gP H; obtain ⟨c33, H⟩ := H; have LMc33 := Az c33; clear c33; generalize Ny137 : (x8_1 ++ [wrap64 (x11_1 + 1)] : List Int) = y137 at H; replace Ny137 := Ay Ny137; replace H := gP H; obtain ⟨c34, H⟩ := H; have LMc34 := Az c34; clear c34; generalize Ny140 : (x10_1 ++ [x12_1] : List Int) = y140 at H; replace Ny140 := Ay Ny140; have H' := Az H; clear H; have hz35 := bc2 BK105.out; obtain ⟨Ao36, co36, eo36⟩ := Kd.R_slice HO_8.out; subst eo36; obtain ⟨ad124, e124, p124, q124, hx124_0⟩ := aI (Kd.R_reads' HO_8.out).2.2 (ji19)
    cases e124
    try go_wp2_with (first | ((with_reducible refine gate_builtin (b := .append) (xs := #[.tmp 30, .tmp 37]) rfl ?_); at_builtin; refine Kd.R_append (Kd.int .i64) (w0 := w) w.heap.size rfl (.tmp 30) (.tmp 37) 23 3 (.int .i64 0) 8 rfl Try.underlying23 info3 rfl (by decide) (by omega) u5 x5_1 (rd x8_1 (ji19)) [.int .i64 (rd x8_1 (ji19))] (fun k_ => oV k_ u6 ∧ oV k_ v113 ∧ some k_ ≠ (.slice (some ad124) x8_1.length co36 : Value).ownBlock ∧ oV k_ u9 ∧ oV k_ u10) (fun _ => False) rfl rfl ?aP (fun _ hk => hk.elim) ?aF ?aO ?aB ?aS ?aL ?_; (case aP => exact rfl); (case aB => exact (bU1 HB.out GW105.out)); (case aF => exact (fun k_ hk => ⟨Kd.fresh' (Kd.R_lt (rU HO_6.out)) k_ hk, Kd.fresh' (Kd.R_lt (rU HO_7.out)) k_ hk, Kd.fresh' (Kd.R_lt (rU HO_8.out)) k_ hk, Kd.fresh' (Kd.R_lt (rU HO_9.out)) k_ hk, Kd.fresh' (Kd.R_lt (rU HO_10.out)) k_ hk⟩)); (case aO => exact (rU HO_5.out)); (case aS => exact z1_1); (case aL => have := LMc22.out; omega); intro v126 w37 ho hb hg hat; rw [← Ny125.out] at ho; replace HO_6 := Az (Kd.R_after (ok := (fun k_ => oV k_ v113 ∧ some k_ ≠ (.slice (some ad124) x8_1.length co36 : Value).ownBlock ∧ oV k_ u9 ∧ oV k_ u10)) z1_8 hg hat); replace HO_7 := Az (Kd.R_after (ok := (fun k_ => oV k_ u6 ∧ some k_ ≠ (.slice (some ad124) x8_1.length co36 : Value).ownBlock ∧ oV k_ u9 ∧ oV k_ u10)) z1_9 hg hat); replace HO_8 := Az z1_2; replace HO_9 := Az (Kd.R_after (ok := (fun k_ => oV k_ u6 ∧ oV k_ v113 ∧ some k_ ≠ (.slice (some ad124) x8_1.length co36 : Value).ownBlock ∧ oV k_ u10)) z1_10 hg hat); replace HO_10 := Az (Kd.R_after (ok := (fun k_ => oV k_ u6 ∧ oV k_ v113 ∧ some k_ ≠ (.slice (some ad124) x8_1.length co36 : Value).ownBlock ∧ oV k_ u9)) z1_3 hg hat); replace BK105 := Az (kG BK105.out hg (Kd.R_ne HO_5.out BK105.out (by decide))); replace HB := Az (hb); have HO127 := Az (ho); clear HO_5 ho hb hg hat; obtain ⟨Ao38, co38, eo38⟩ := Kd.R_slice HO_9.out; subst eo38; obtain ⟨ad128, e128, p128, q128, hx128_0⟩ := aI (Kd.R_reads' HO_9.out).2.2 (ji23); cases e128) | ((with_reducible refine gate_builtin (b := .append) (xs := #[.tmp 39, .tmp 46]) rfl ?_); at_builtin; refine Kd.R_append (Kd.int .i64) (w0 := w) w.heap.size rfl (.tmp 39) (.tmp 46) 23 3 (.int .i64 0) 8 rfl Try.underlying23 info3 rfl (by decide) (by omega) u6 x6_1 (rd x9_1 (ji23)) [.int .i64 (rd x9_1 (ji23))] (fun k_ => oV k_ v113 ∧ some k_ ≠ (.slice (some ad124) x8_1.length co36 : Value).ownBlock ∧ some k_ ≠ (.slice (some ad128) x9_1.length co38 : Value).ownBlock ∧ oV k_ u10 ∧ oV k_ v126) (fun _ => False) rfl rfl ?aP (fun _ hk => hk.elim) ?aF ?aO ?aB ?aS ?aL ?_; (case aP => exact rfl); (case aB => exact (bU1 HB.out GW105.out)); (case aF => exact (fun k_ hk => ⟨Kd.fresh' (Kd.R_lt (rU HO_7.out)) k_ hk, Kd.fresh' (Kd.R_lt (rU HO_8.out)) k_ hk, Kd.fresh' (Kd.R_lt (rU HO_9.out)) k_ hk, Kd.fresh' (Kd.R_lt (rU HO_10.out)) k_ hk, Kd.fresh' (Kd.R_lt (rU HO127.out)) k_ hk⟩)); (case aO => exact z1_11); (case aS => exact z1_1); (case aL => have := LMc26.out; omega); intro v130 w39 ho hb hg hat; rw [← Ny129.out] at ho; replace HO_7 := Az (Kd.R_after (ok := (fun k_ => some k_ ≠ (.slice (some ad124) x8_1.length co36 : Value).ownBlock ∧ some k_ ≠ (.slice (some ad128) x9_1.length co38 : Value).ownBlock ∧ oV k_ u10 ∧ oV k_ v126)) z1_0 hg hat); replace HO_8 := Az (Kd.R_after (ok := (fun k_ => oV k_ v113 ∧ some k_ ≠ (.slice (some ad128) x9_1.length co38 : Value).ownBlock ∧ oV k_ u10 ∧ oV k_ v126)) z1_12 hg hat); replace HO_9 := Az (Kd.R_after (ok := (fun k_ => oV k_ v113 ∧ some k_ ≠ (.slice (some ad124) x8_1.length co36 : Value).ownBlock ∧ oV k_ u10 ∧ oV k_ v126)) z1_13 hg hat); replace HO_10 := Az (Kd.R_after (ok := (fun k_ => oV k_ v113 ∧ some k_ ≠ (.slice (some ad124) x8_1.length co36 : Value).ownBlock ∧ some k_ ≠ (.slice (some ad128) x9_1.length co38 : Value).ownBlock ∧ oV k_ v126)) z1_4 hg hat); replace BK105 := Az (kG BK105.out hg (Kd.R_ne HO_6.out BK105.out (by decide))); replace HO127 := Az (Kd.R_after (ok := (fun k_ => oV k_ v113 ∧ some k_ ≠ (.slice (some ad124) x8_1.length co36 : Value).ownBlock ∧ some k_ ≠ (.slice (some ad128) x9_1.length co38 : Value).ownBlock ∧ oV k_ u10)) z1_5 hg hat); replace HB := Az (hb); have HO131 := Az (ho); clear HO_6 ho hb hg hat; have hz40 := bc2 BK105.out; have p28 : 0 ≤ (x12_1 : Int) := oA; have q28 : x12_1 < (a0_0.size : Int) := oA; have hx28 := bt_at a0_0 x12_1; replace p28 := eq_true p28; replace q28 := eq_true q28))
    replace HO_7 := Az (Kd.R_drew HO_7.out); replace HO_8 := Az (Kd.R_drew HO_8.out); replace HO_9 := Az (Kd.R_drew HO_9.out); replace HO_10 := Az (Kd.R_drew HO_10.out); replace HO127 := Az (Kd.R_drew HO127.out); replace HO131 := Az (Kd.R_drew HO131.out); replace BK105 := Az (blk_drew BK105.out); replace HB := Az (below_drew1 HB.out); obtain ⟨_, _, hx132_0⟩ := aJ (Kd.R_reads' HO_9.out).2.2 (ji23); obtain ⟨ad133, e133, _, _, hx133_0⟩ := aI HR0_1.out x11_1; have hw133_0 := hx133_0
    cases e133
    replace hx133_0 := hT HB.out hx133_0; refine start_ (n := 16) (S := fun w' => w'.cell? ⟨gb105, 0, none⟩ = some (.string a0_0) ∧ w'.cell? ⟨gb105, 1, none⟩ = some (.slice (some ad133) l0_1.length c0_1) ∧ w'.cell? (ad128.add ((ji23)).toNat) = some (.int .i64 (rd x9_1 (ji23))) ∧ w'.cell? (ad133.add (x11_1).toNat) = some (.int .i64 (rd l0_1 x11_1))) (ds := [13, 14]) (bv 16 0) (by kernel_rfl) rfl rfl ⟨(blk_cell BK105.out 0).trans rfl, (blk_cell BK105.out 1).trans rfl, hx132_0, (by first | exact hw133_0 | exact (HB.out.cell (World.block_lt_of_cell? w _ hw133_0)).trans hw133_0)⟩ (fun hHeld => ?_); refine with_tabW spec_l6qWalk.tab14 spec_l6qWalk.bits14 (fun HT_ HW_ => ?_); generalize w39.drew = w41 at HO_7 HO_8 HO_9 HO_10 HO127 HO131 BK105 HB hx132_0 hx133_0 hHeld ⊢; refine pure_ (i := 0) (N := some 53) (v := ?_) (a' := ?_) (bv 16 1) rfl rfl (any_of HT_.out (by kernel_rfl)) (fun _ _ _ h => h) (Or.inl ⟨by rfl, ?_⟩) ?_ ?_; rotate_left; (exact yP); rotate_left; (exact aP); refine pure_ (i := 1) (N := some 54) (v := ?_) (a' := ?_) (bv 16 3) rfl rfl (any_of HT_.out (by kernel_rfl)) (fun _ _ _ h => h) (Or.inl ⟨by rfl, ?_⟩) ?_ ?_; rotate_left; (exact yP); rotate_left; (exact aP); refine pure_ (i := 2) (N := some 55) (v := ?_) (a' := ?_) (bv 16 7) rfl rfl (any_of HT_.out (by kernel_rfl)) (fun _ _ _ h => h) (Or.inl ⟨by rfl, ?_⟩) ?_ ?_; rotate_left; (exact yP); rotate_left; (exact aP); refine pure_ (i := 3) (N := some 56) (v := ?_) (a' := ?_) (bv 16 15) rfl rfl (any_of HT_.out (by kernel_rfl)) (fun _ _ _ h => h) (Or.inl ⟨by rfl, ?_⟩) ?_ ?_; rotate_left; (exact yP); rotate_left; (exact aP); refine pure_ (i := 4) (N := some 57) (v := ?_) (a' := ?_) (bv 16 31) rfl rfl (any_of HT_.out (by kernel_rfl)) (fun _ _ _ h => h) (Or.inl ⟨by rfl, ?_⟩) ?_ ?_; rotate_left; (exact yP); rotate_left; (exact aP); refine pure_ (i := 5) (N := some 58) (v := ?_) (a' := ?_) (bv 16 63) rfl rfl (any_of HT_.out (by kernel_rfl)) (fun _ _ _ h => h) (Or.inl ⟨by rfl, ?_⟩) ?_ ?_; rotate_left; (exact yP); rotate_left; (exact aP); refine pure_ (i := 7) (N := some 60) (v := ?_) (a' := ?_) (bv 16 191) rfl rfl (any_of HT_.out (by kernel_rfl)) (fun _ _ _ h => h) (Or.inl ⟨by rfl, ?_⟩) ?_ ?_; rotate_left; (exact yP); rotate_left; (exact aP); refine pure_ (i := 9) (N := some 62) (v := ?_) (a' := ?_) (bv 16 703) rfl rfl (any_of HT_.out (by kernel_rfl)) (fun _ _ _ h => h) (Or.inl ⟨by rfl, ?_⟩) ?_ ?_; rotate_left; (exact yP); rotate_left; (exact aP); refine take_ (i := 6) (N := some 59) (v := ?_) (a' := ?_) (bv 16 767) rfl rfl (take_ofW HT_.out HW_.out (by kernel_rfl)) (fun _ _ _ h => h) (Or.inl ⟨by rfl, ?_⟩) hHeld ?_ ?_; rotate_left
    ·
     rintro w' ⟨s0, s1, s2, s3⟩; go_simp
     with_reducible rfl
    rotate_left; (exact aP); refine take_ (i := 8) (N := some 61) (v := ?_) (a' := ?_) (bv 16 1023) rfl rfl (take_ofW HT_.out HW_.out (by kernel_rfl)) (fun _ _ _ h => h) (Or.inl ⟨by rfl, ?_⟩) hHeld ?_ ?_; rotate_left
    ·
     rintro w' ⟨s0, s1, s2, s3⟩; go_simp
     with_reducible rfl
    rotate_left; (exact aP); refine pure_ (i := 10) (N := some 63) (v := ?_) (a' := ?_) (bv 16 2047) rfl rfl (any_of HT_.out (by kernel_rfl)) (fun _ _ _ h => h) (Or.inl ⟨by rfl, ?_⟩) ?_ ?_; rotate_left; (exact yP); rotate_left; (exact aP); refine take_ (i := 11) (N := some 64) (v := ?_) (a' := ?_) (bv 16 4095) rfl rfl (take_ofW HT_.out HW_.out (by kernel_rfl)) (fun _ _ _ h => h) (Or.inl ⟨by rfl, ?_⟩) hHeld ?_ ?_; rotate_left
    ·
     rintro w' ⟨s0, s1, s2, s3⟩; go_simp
     with_reducible rfl
    rotate_left; (exact aP); refine pure_ (i := 12) (N := some 65) (v := ?_) (a' := ?_) (bv 16 8191) rfl rfl (any_of HT_.out (by kernel_rfl)) (fun _ _ _ h => h) (Or.inl ⟨by rfl, ?_⟩) ?_ ?_; rotate_left; (exact yP); rotate_left; (exact aP); refine last_ (i := 13) (N := some 66) (bv 16 16383) rfl rfl (one_of HT_.out (by kernel_rfl)) (by decide) (fun K hK => ?_); refine value_ (w1 := ?_) (v := ?_) (by rfl) rfl ?_ ?_; rotate_left 2
    ·
     go_simp
     constructor
     · rfl
     · rfl
    refine hK.out _ _ ?_; clear hK K; refine norm_ (a' := ?_) ?_ ?_; rotate_left
    ·
     show Act.put _ (some 66) _ = _
     simp only [Act.put, List.setIfInBounds_toArray, List.set_cons_zero, List.set_cons_succ, i64_w, i32_w]; rfl
    refine last_ (i := 14) (N := some 67) (bv 16 32767) rfl rfl (one_of HT_.out (by kernel_rfl)) (by decide) (fun K hK => ?_); refine Kd.R_append_step (Kd.int .i64) (w0 := w) w.heap.size (by rfl) (.tmp 53) (.tmp 66) 23 3 (.int .i64 0) 8 rfl Try.underlying23 info3 rfl (by decide) (by omega) (.slice (some ad128) x9_1.length co38) x9_1 (wrap64 ((rd x9_1 (ji23)) + (rd l0_1 x11_1))) [.int .i64 (wrap64 ((rd x9_1 (ji23)) + (rd l0_1 x11_1)))] (fun k_ => oV k_ v113 ∧ some k_ ≠ (.slice (some ad124) x8_1.length co36 : Value).ownBlock ∧ oV k_ u10 ∧ oV k_ v126 ∧ oV k_ v130) (fun _ => False) rfl rfl ?aP (fun _ hk => hk.elim) ?aF ?aO ?aB ?aS ?aL ?_
    (case aP => exact rfl)
    (case aB => exact (bU1 HB.out GW105.out))
    (case aF => exact (fun k_ hk => ⟨Kd.fresh' (Kd.R_lt (rU HO_7.out)) k_ hk, Kd.fresh' (Kd.R_lt (rU HO_8.out)) k_ hk, Kd.fresh' (Kd.R_lt (rU HO_10.out)) k_ hk, Kd.fresh' (Kd.R_lt (rU HO127.out)) k_ hk, Kd.fresh' (Kd.R_lt (rU HO131.out)) k_ hk⟩))
    (case aO => exact (by (with_reducible repeat (first | apply Kd.R_alloc | apply Kd.R_drewN | apply Kd.R_drew)); exact Kd.R_mono HO_9.out (fun _ hk => ⟨hk.1.1, ⟨hk.1.2.1, ⟨hk.1.2.2.1, ⟨hk.1.2.2.2, hk.2⟩⟩⟩⟩)))
    (case aS => exact z1_1)
    (case aL => have := LMc32.out; omega)
    intro v135 w42 ho hb hg hat; rw [← Ny134.out] at ho; replace HO_7 := Az (Kd.R_after (ok := (fun k_ => some k_ ≠ (.slice (some ad124) x8_1.length co36 : Value).ownBlock ∧ oV k_ u10 ∧ oV k_ v126 ∧ oV k_ v130)) (by (with_reducible repeat (first | apply Kd.R_alloc | apply Kd.R_drewN | apply Kd.R_drew)); exact Kd.R_mono HO_7.out (fun _ hk => ⟨⟨hk.1.1, ⟨hk.1.2.2.1, ⟨hk.1.2.2.2, hk.2⟩⟩⟩, hk.1.2.1⟩)) hg hat); replace HO_8 := Az (Kd.R_after (ok := (fun k_ => oV k_ v113 ∧ oV k_ u10 ∧ oV k_ v126 ∧ oV k_ v130)) (by (with_reducible repeat (first | apply Kd.R_alloc | apply Kd.R_drewN | apply Kd.R_drew)); exact Kd.R_mono HO_8.out (fun _ hk => ⟨⟨hk.1.1, ⟨hk.1.2.2.1, ⟨hk.1.2.2.2, hk.2⟩⟩⟩, hk.1.2.1⟩)) hg hat); replace HO_10 := Az (Kd.R_after (ok := (fun k_ => oV k_ v113 ∧ some k_ ≠ (.slice (some ad124) x8_1.length co36 : Value).ownBlock ∧ oV k_ v126 ∧ oV k_ v130)) (by (with_reducible repeat (first | apply Kd.R_alloc | apply Kd.R_drewN | apply Kd.R_drew)); exact Kd.R_mono HO_10.out (fun _ hk => ⟨⟨hk.1.1, ⟨hk.1.2.1, ⟨hk.1.2.2.2, hk.2⟩⟩⟩, hk.1.2.2.1⟩)) hg hat); replace BK105 := Az (kG BK105.out hg (Kd.R_ne HO_9.out BK105.out (by decide))); replace HO127 := Az (Kd.R_after (ok := (fun k_ => oV k_ v113 ∧ some k_ ≠ (.slice (some ad124) x8_1.length co36 : Value).ownBlock ∧ oV k_ u10 ∧ oV k_ v130)) (by (with_reducible repeat (first | apply Kd.R_alloc | apply Kd.R_drewN | apply Kd.R_drew)); exact Kd.R_mono HO127.out (fun _ hk => ⟨⟨hk.1.1, ⟨hk.1.2.1, ⟨hk.1.2.2.2, hk.2⟩⟩⟩, hk.1.2.2.1⟩)) hg hat); replace HO131 := Az (Kd.R_after (ok := (fun k_ => oV k_ v113 ∧ some k_ ≠ (.slice (some ad124) x8_1.length co36 : Value).ownBlock ∧ oV k_ u10 ∧ oV k_ v126)) (by (with_reducible repeat (first | apply Kd.R_alloc | apply Kd.R_drewN | apply Kd.R_drew)); exact Kd.R_mono HO131.out (fun _ hk => ⟨⟨hk.1, ⟨hk.2.1, ⟨hk.2.2.2.1, hk.2.2.2.2⟩⟩⟩, hk.2.2.1⟩)) hg hat); replace HB := Az (hb); have HO136 := Az (ho); clear HO_9 ho hb hg hat; refine hK.out _ _ ?_; clear hK K; refine norm_ (a' := ?_) ?_ ?_; rotate_left
    ·
     show Act.put _ (some 67) _ = _
     simp only [Act.put, List.setIfInBounds_toArray, List.set_cons_zero, List.set_cons_succ, i64_w, i32_w]; rfl
    refine pure_ (i := 15) (N := some 9) (v := ?_) (a' := ?_) (bv 16 65535) rfl rfl (any_of HT_.out (by kernel_rfl)) (fun _ _ _ h => h) (Or.inl ⟨by rfl, ?_⟩) ?_ ?_; rotate_left; (exact yP); rotate_left; (exact aP); refine done_ (done_of HT_.out (by kernel_rfl)) ?_
    try go_wp2_with (first | ((with_reducible refine gate_builtin (b := .append) (xs := #[.tmp 70, .tmp 72]) rfl ?_); at_builtin; refine Kd.R_append (Kd.int .i64) (w0 := w) w.heap.size rfl (.tmp 70) (.tmp 72) 23 3 (.int .i64 0) 8 rfl Try.underlying23 info3 rfl (by decide) (by omega) (.slice (some ad124) x8_1.length co36) x8_1 (wrap64 (x11_1 + 1)) [.int .i64 (wrap64 (x11_1 + 1))] (fun k_ => oV k_ v113 ∧ oV k_ u10 ∧ oV k_ v126 ∧ oV k_ v130 ∧ oV k_ v135) (fun _ => False) rfl rfl ?aP (fun _ hk => hk.elim) ?aF ?aO ?aB ?aS ?aL ?_; (case aP => exact rfl); (case aB => exact (bU1 HB.out GW105.out)); (case aF => exact (fun k_ hk => ⟨Kd.fresh' (Kd.R_lt (rU HO_7.out)) k_ hk, Kd.fresh' (Kd.R_lt (rU HO_10.out)) k_ hk, Kd.fresh' (Kd.R_lt (rU HO127.out)) k_ hk, Kd.fresh' (Kd.R_lt (rU HO131.out)) k_ hk, Kd.fresh' (Kd.R_lt (rU HO136.out)) k_ hk⟩)); (case aO => exact (by (with_reducible repeat (first | apply Kd.R_alloc | apply Kd.R_drewN | apply Kd.R_drew)); exact Kd.R_mono HO_8.out (fun _ hk => ⟨hk.1.1, ⟨hk.1.2.1, ⟨hk.1.2.2.1, ⟨hk.1.2.2.2, hk.2⟩⟩⟩⟩))); (case aS => exact z1_1); (case aL => have := LMc33.out; omega); intro v138 w43 ho hb hg hat; rw [← Ny137.out] at ho; replace HO_7 := Az (Kd.R_after (ok := (fun k_ => oV k_ u10 ∧ oV k_ v126 ∧ oV k_ v130 ∧ oV k_ v135)) z1_0 hg hat); replace HO_10 := Az (Kd.R_after (ok := (fun k_ => oV k_ v113 ∧ oV k_ v126 ∧ oV k_ v130 ∧ oV k_ v135)) (by (with_reducible repeat (first | apply Kd.R_alloc | apply Kd.R_drewN | apply Kd.R_drew)); exact Kd.R_mono HO_10.out (fun _ hk => ⟨⟨hk.1.1, ⟨hk.1.2.2.1, ⟨hk.1.2.2.2, hk.2⟩⟩⟩, hk.1.2.1⟩)) hg hat); replace BK105 := Az (kG BK105.out hg (Kd.R_ne HO_8.out BK105.out (by decide))); replace HO127 := Az (Kd.R_after (ok := (fun k_ => oV k_ v113 ∧ oV k_ u10 ∧ oV k_ v130 ∧ oV k_ v135)) z1_6 hg hat); replace HO131 := Az (Kd.R_after (ok := (fun k_ => oV k_ v113 ∧ oV k_ u10 ∧ oV k_ v126 ∧ oV k_ v135)) z1_7 hg hat); replace HO136 := Az (Kd.R_after (ok := (fun k_ => oV k_ v113 ∧ oV k_ u10 ∧ oV k_ v126 ∧ oV k_ v130)) (by (with_reducible repeat (first | apply Kd.R_alloc | apply Kd.R_drewN | apply Kd.R_drew)); exact Kd.R_mono HO136.out (fun _ hk => ⟨⟨hk.1, ⟨hk.2.2.1, ⟨hk.2.2.2.1, hk.2.2.2.2⟩⟩⟩, hk.2.1⟩)) hg hat); replace HB := Az (hb); have HO139 := Az (ho); clear HO_8 ho hb hg hat) | ((with_reducible refine gate_builtin (b := .append) (xs := #[.tmp 74, .tmp 76]) rfl ?_); at_builtin; refine Kd.R_append (Kd.int .i64) (w0 := w) w.heap.size rfl (.tmp 74) (.tmp 76) 23 3 (.int .i64 0) 8 rfl Try.underlying23 info3 rfl (by decide) (by omega) u10 x10_1 x12_1 [.int .i64 x12_1] (fun k_ => oV k_ v113 ∧ oV k_ v126 ∧ oV k_ v130 ∧ oV k_ v135 ∧ oV k_ v138) (fun _ => False) rfl rfl ?aP (fun _ hk => hk.elim) ?aF ?aO ?aB ?aS ?aL ?_; (case aP => exact rfl); (case aB => exact (bU1 HB.out GW105.out)); (case aF => exact (fun k_ hk => ⟨Kd.fresh' (Kd.R_lt (rU HO_7.out)) k_ hk, Kd.fresh' (Kd.R_lt (rU HO127.out)) k_ hk, Kd.fresh' (Kd.R_lt (rU HO131.out)) k_ hk, Kd.fresh' (Kd.R_lt (rU HO136.out)) k_ hk, Kd.fresh' (Kd.R_lt (rU HO139.out)) k_ hk⟩)); (case aO => exact (by (with_reducible repeat (first | apply Kd.R_alloc | apply Kd.R_drewN | apply Kd.R_drew)); exact Kd.R_mono HO_10.out (fun _ hk => ⟨hk.1.1, ⟨hk.1.2.1, ⟨hk.1.2.2.1, ⟨hk.1.2.2.2, hk.2⟩⟩⟩⟩))); (case aS => exact z1_1); (case aL => have := LMc34.out; omega); intro v141 w44 ho hb hg hat; rw [← Ny140.out] at ho; replace HO_7 := Az (Kd.R_after (ok := (fun k_ => oV k_ v126 ∧ oV k_ v130 ∧ oV k_ v135 ∧ oV k_ v138)) z1_0 hg hat); replace BK105 := Az (kG BK105.out hg (Kd.R_ne HO_10.out BK105.out (by decide))); replace HO127 := Az (Kd.R_after (ok := (fun k_ => oV k_ v113 ∧ oV k_ v130 ∧ oV k_ v135 ∧ oV k_ v138)) z1_6 hg hat); replace HO131 := Az (Kd.R_after (ok := (fun k_ => oV k_ v113 ∧ oV k_ v126 ∧ oV k_ v135 ∧ oV k_ v138)) z1_7 hg hat); replace HO136 := Az (Kd.R_after (ok := (fun k_ => oV k_ v113 ∧ oV k_ v126 ∧ oV k_ v130 ∧ oV k_ v138)) (by (with_reducible repeat (first | apply Kd.R_alloc | apply Kd.R_drewN | apply Kd.R_drew)); exact Kd.R_mono HO136.out (fun _ hk => ⟨⟨hk.1.1, ⟨hk.1.2.2.1, ⟨hk.1.2.2.2, hk.2⟩⟩⟩, hk.1.2.1⟩)) hg hat); replace HO139 := Az (Kd.R_after (ok := (fun k_ => oV k_ v113 ∧ oV k_ v126 ∧ oV k_ v130 ∧ oV k_ v135)) (by (with_reducible repeat (first | apply Kd.R_alloc | apply Kd.R_drewN | apply Kd.R_drew)); exact Kd.R_mono HO139.out (fun _ hk => ⟨⟨hk.1, ⟨hk.2.2.1, ⟨hk.2.2.2.1, hk.2.2.2.2⟩⟩⟩, hk.2.1⟩)) hg hat); replace HB := Az (hb); have HO142 := Az (ho); clear HO_10 ho hb hg hat))
    go_roundg k1
    case measure => exact mO
    case rel => exact ⟨(y125), (y129), (x7_1), (y137), (y134), (y140), (wrap64 (x11_1 + 1)), (wrap64 (x12_1 + 1)), rS, rS, H', ⟨mO⟩, ⟨by (with_reducible repeat (first | apply Kd.R_alloc | apply Kd.R_drewN | apply Kd.R_drew)); exact Kd.R_mono HO127.out (fun _ hk => ⟨hk.1.2.1, ⟨hk.1.1, ⟨hk.1.2.2.2, ⟨hk.1.2.2.1, hk.2⟩⟩⟩⟩)⟩, ⟨by (with_reducible repeat (first | apply Kd.R_alloc | apply Kd.R_drewN | apply Kd.R_drew)); exact Kd.R_mono HO131.out (fun _ hk => ⟨hk.1.2.1, ⟨hk.1.1, ⟨hk.1.2.2.2, ⟨hk.1.2.2.1, hk.2⟩⟩⟩⟩)⟩, ⟨by (with_reducible repeat (first | apply Kd.R_alloc | apply Kd.R_drewN | apply Kd.R_drew)); exact Kd.R_mono HO_7.out (fun _ hk => ⟨hk.1.1, ⟨hk.1.2.1, ⟨hk.1.2.2.2, ⟨hk.1.2.2.1, hk.2⟩⟩⟩⟩)⟩, ⟨by (with_reducible repeat (first | apply Kd.R_alloc | apply Kd.R_drewN | apply Kd.R_drew)); exact Kd.R_mono HO139.out (fun _ hk => ⟨hk.1.2.1, ⟨hk.1.2.2.1, ⟨hk.1.1, ⟨hk.1.2.2.2, hk.2⟩⟩⟩⟩)⟩, ⟨by (with_reducible repeat (first | apply Kd.R_alloc | apply Kd.R_drewN | apply Kd.R_drew)); exact Kd.R_mono HO136.out (fun _ hk => ⟨hk.1.2.1, ⟨hk.1.2.2.1, ⟨hk.1.1, ⟨hk.1.2.2.2, hk.2⟩⟩⟩⟩)⟩, ⟨by (with_reducible repeat (first | apply Kd.R_alloc | apply Kd.R_drewN | apply Kd.R_drew)); exact Kd.R_mono HO142.out (fun _ hk => ⟨hk.2.1, ⟨hk.2.2.1, ⟨hk.1, ⟨hk.2.2.2.2, hk.2.2.2.1⟩⟩⟩⟩)⟩, ⟨kU BK105.out⟩, ⟨bU1 HB.out GW105.out⟩⟩
   ·
    replace H := gE H; obtain ⟨c45b0, c45b1, H⟩ := H; generalize Ny143 : (x8_1.take ((ji19) : Int).toNat : List Int) = y143 at H; replace Ny143 := Ay Ny143; replace H := gE H; obtain ⟨c46b0, c46b1, H⟩ := H; generalize Ny146 : (x9_1.take ((ji23) : Int).toNat : List Int) = y146 at H; replace Ny146 := Ay Ny146; obtain ⟨ji47, hji47⟩ : ∃ j_ : Int, (wrap64 ((x10_1.length : Int) - 1)) = j_ := ⟨_, rfl⟩; (first | rw [hji47] at H | simp only [hji47] at H); have hji47w : (IntKind.i64.wrap ((x10_1.length : Int) - 1)) = ji47 := (i64_w _).trans hji47; replace H := gD2 H; obtain ⟨c48b0, c49b0, H⟩ := H; replace H := gE H; obtain ⟨c50b0, c50b1, H⟩ := H; generalize Ny150 : (x10_1.take ((ji47) : Int).toNat : List Int) = y150 at H; replace Ny150 := Ay Ny150; replace H := gD1 H; obtain ⟨c51b0, H⟩ := H; generalize Ny153 : (x7_1.set (x12_1 : Int).toNat (rd x10_1 (ji47)) : List Int) = y153 at H; replace Ny153 := Ay Ny153; replace H := gD2 H; obtain ⟨c53b0, c54b0, H⟩ := H; generalize Ny154 : (y153.set ((rd x10_1 (ji47)) : Int).toNat x12_1 : List Int) = y154 at H; replace Ny154 := Ay Ny154; have H' := Az H; clear H; have hz56 := bc2 BK105.out; obtain ⟨Ao57, co57, eo57⟩ := Kd.R_slice HO_8.out; subst eo57; obtain ⟨ad124, e124, p124, q124, hx124_0⟩ := aI (Kd.R_reads' HO_8.out).2.2 (ji19)
    cases e124
    go_wp2_with (first | ((with_reducible refine gate_builtin (b := .append) (xs := #[.tmp 30, .tmp 37]) rfl ?_); at_builtin; refine Kd.R_append (Kd.int .i64) (w0 := w) w.heap.size rfl (.tmp 30) (.tmp 37) 23 3 (.int .i64 0) 8 rfl Try.underlying23 info3 rfl (by decide) (by omega) u5 x5_1 (rd x8_1 (ji19)) [.int .i64 (rd x8_1 (ji19))] (fun k_ => oV k_ u6 ∧ oV k_ v113 ∧ some k_ ≠ (.slice (some ad124) x8_1.length co57 : Value).ownBlock ∧ oV k_ u9 ∧ oV k_ u10) (fun _ => False) rfl rfl ?aP (fun _ hk => hk.elim) ?aF ?aO ?aB ?aS ?aL ?_; (case aP => exact rfl); (case aB => exact (bU1 HB.out GW105.out)); (case aF => exact (fun k_ hk => ⟨Kd.fresh' (Kd.R_lt (rU HO_6.out)) k_ hk, Kd.fresh' (Kd.R_lt (rU HO_7.out)) k_ hk, Kd.fresh' (Kd.R_lt (rU HO_8.out)) k_ hk, Kd.fresh' (Kd.R_lt (rU HO_9.out)) k_ hk, Kd.fresh' (Kd.R_lt (rU HO_10.out)) k_ hk⟩)); (case aO => exact (rU HO_5.out)); (case aS => exact z1_1); (case aL => have := LMc22.out; omega); intro v126 w58 ho hb hg hat; rw [← Ny125.out] at ho; replace HO_6 := Az (Kd.R_after (ok := (fun k_ => oV k_ v113 ∧ some k_ ≠ (.slice (some ad124) x8_1.length co57 : Value).ownBlock ∧ oV k_ u9 ∧ oV k_ u10)) z1_8 hg hat); replace HO_7 := Az (Kd.R_after (ok := (fun k_ => oV k_ u6 ∧ some k_ ≠ (.slice (some ad124) x8_1.length co57 : Value).ownBlock ∧ oV k_ u9 ∧ oV k_ u10)) z1_9 hg hat); replace HO_8 := Az z1_2; replace HO_9 := Az (Kd.R_after (ok := (fun k_ => oV k_ u6 ∧ oV k_ v113 ∧ some k_ ≠ (.slice (some ad124) x8_1.length co57 : Value).ownBlock ∧ oV k_ u10)) z1_10 hg hat); replace HO_10 := Az (Kd.R_after (ok := (fun k_ => oV k_ u6 ∧ oV k_ v113 ∧ some k_ ≠ (.slice (some ad124) x8_1.length co57 : Value).ownBlock ∧ oV k_ u9)) z1_3 hg hat); replace BK105 := Az (kG BK105.out hg (Kd.R_ne HO_5.out BK105.out (by decide))); replace HB := Az (hb); have HO127 := Az (ho); clear HO_5 ho hb hg hat; obtain ⟨Ao59, co59, eo59⟩ := Kd.R_slice HO_9.out; subst eo59; obtain ⟨ad128, e128, p128, q128, hx128_0⟩ := aI (Kd.R_reads' HO_9.out).2.2 (ji23); cases e128) | ((with_reducible refine gate_builtin (b := .append) (xs := #[.tmp 39, .tmp 46]) rfl ?_); at_builtin; refine Kd.R_append (Kd.int .i64) (w0 := w) w.heap.size rfl (.tmp 39) (.tmp 46) 23 3 (.int .i64 0) 8 rfl Try.underlying23 info3 rfl (by decide) (by omega) u6 x6_1 (rd x9_1 (ji23)) [.int .i64 (rd x9_1 (ji23))] (fun k_ => oV k_ v113 ∧ some k_ ≠ (.slice (some ad124) x8_1.length co57 : Value).ownBlock ∧ some k_ ≠ (.slice (some ad128) x9_1.length co59 : Value).ownBlock ∧ oV k_ u10 ∧ oV k_ v126) (fun _ => False) rfl rfl ?aP (fun _ hk => hk.elim) ?aF ?aO ?aB ?aS ?aL ?_; (case aP => exact rfl); (case aB => exact (bU1 HB.out GW105.out)); (case aF => exact (fun k_ hk => ⟨Kd.fresh' (Kd.R_lt (rU HO_7.out)) k_ hk, Kd.fresh' (Kd.R_lt (rU HO_8.out)) k_ hk, Kd.fresh' (Kd.R_lt (rU HO_9.out)) k_ hk, Kd.fresh' (Kd.R_lt (rU HO_10.out)) k_ hk, Kd.fresh' (Kd.R_lt (rU HO127.out)) k_ hk⟩)); (case aO => exact z1_11); (case aS => exact z1_1); (case aL => have := LMc26.out; omega); intro v130 w60 ho hb hg hat; rw [← Ny129.out] at ho; replace HO_7 := Az (Kd.R_after (ok := (fun k_ => some k_ ≠ (.slice (some ad124) x8_1.length co57 : Value).ownBlock ∧ some k_ ≠ (.slice (some ad128) x9_1.length co59 : Value).ownBlock ∧ oV k_ u10 ∧ oV k_ v126)) z1_0 hg hat); replace HO_8 := Az (Kd.R_after (ok := (fun k_ => oV k_ v113 ∧ some k_ ≠ (.slice (some ad128) x9_1.length co59 : Value).ownBlock ∧ oV k_ u10 ∧ oV k_ v126)) z1_12 hg hat); replace HO_9 := Az (Kd.R_after (ok := (fun k_ => oV k_ v113 ∧ some k_ ≠ (.slice (some ad124) x8_1.length co57 : Value).ownBlock ∧ oV k_ u10 ∧ oV k_ v126)) z1_13 hg hat); replace HO_10 := Az (Kd.R_after (ok := (fun k_ => oV k_ v113 ∧ some k_ ≠ (.slice (some ad124) x8_1.length co57 : Value).ownBlock ∧ some k_ ≠ (.slice (some ad128) x9_1.length co59 : Value).ownBlock ∧ oV k_ v126)) z1_4 hg hat); replace BK105 := Az (kG BK105.out hg (Kd.R_ne HO_6.out BK105.out (by decide))); replace HO127 := Az (Kd.R_after (ok := (fun k_ => oV k_ v113 ∧ some k_ ≠ (.slice (some ad124) x8_1.length co57 : Value).ownBlock ∧ some k_ ≠ (.slice (some ad128) x9_1.length co59 : Value).ownBlock ∧ oV k_ u10)) z1_5 hg hat); replace HB := Az (hb); have HO131 := Az (ho); clear HO_6 ho hb hg hat; have hz61 := bc2 BK105.out; have p28 : 0 ≤ (x12_1 : Int) := oA; have q28 : x12_1 < (a0_0.size : Int) := oA; have hx28 := bt_at a0_0 x12_1; replace p28 := eq_true p28; replace q28 := eq_true q28; have q62 : ((ji19) : Int) ≤ ((x8_1.length : Int) : Int) := oA; obtain ⟨i062, hi062, _, hsz62, _⟩ := info_parts info3; have hcut62 := cut_to (P := Try.prog) 23 3 .i64 Try.underlying23 hi062 (some ad124) x8_1.length co57 (ji19) (oA) q62 (Kd.R_reads' HO_8.out).2.1; have hr62 := Kd.R_take (m := ((ji19) : Int).toNat) HO_8.out (by omega); have hy62 : y143.length = ((ji19) : Int).toNat := (by rw [Ny143.out, List.length_take]; omega); rw [← Ny143.out] at hr62; rw [← hy62] at hr62 hcut62; clear hy62 hi062 hsz62 HO_8; have HO145 := Az hr62; clear hr62; replace q62 := eq_true q62; have q63 : ((ji23) : Int) ≤ ((x9_1.length : Int) : Int) := oA; obtain ⟨i063, hi063, _, hsz63, _⟩ := info_parts info3; have hcut63 := cut_to (P := Try.prog) 23 3 .i64 Try.underlying23 hi063 (some ad128) x9_1.length co59 (ji23) (oA) q63 (Kd.R_reads' HO_9.out).2.1; have hr63 := Kd.R_take (m := ((ji23) : Int).toNat) HO_9.out (by omega); have hy63 : y146.length = ((ji23) : Int).toNat := (by rw [Ny146.out, List.length_take]; omega); rw [← Ny146.out] at hr63; rw [← hy63] at hr63 hcut63; clear hy63 hi063 hsz63 HO_9; have HO148 := Az hr63; clear hr63; replace q63 := eq_true q63; obtain ⟨Ao64, co64, eo64⟩ := Kd.R_slice HO_10.out; subst eo64; obtain ⟨ad149, e149, _, _, hx149_0⟩ := aI (Kd.R_reads' HO_10.out).2.2 (ji47); cases e149; have q65 : ((ji47) : Int) ≤ ((x10_1.length : Int) : Int) := oA; obtain ⟨i065, hi065, _, hsz65, _⟩ := info_parts info3; have hcut65 := cut_to (P := Try.prog) 23 3 .i64 Try.underlying23 hi065 (some ad149) x10_1.length co64 (ji47) (oA) q65 (Kd.R_reads' HO_10.out).2.1; have hr65 := Kd.R_take (m := ((ji47) : Int).toNat) HO_10.out (by omega); have hy65 : y150.length = ((ji47) : Int).toNat := (by rw [Ny150.out, List.length_take]; omega); rw [← Ny150.out] at hr65; rw [← hy65] at hr65 hcut65; clear hy65 hi065 hsz65 HO_10; have HO152 := Az hr65; clear hr65; replace q65 := eq_true q65; have p52 : 0 ≤ (x12_1 : Int) := oA; have q52 : (x12_1 : Int) < ((x7_1.length : Int) : Int) := oA; obtain ⟨go52, co52, eo52, gb52, gl52, cl52, HG52⟩ := Kd.R_form HO_7.out (by omega); (first | cases eo52 | (injection eo52 with ea_ en_ ec_; (first | subst ea_ | (injection ea_ with ea_; subst ea_)); subst ec_; clear en_)); have GB52 := Az gb52; have GG52 := Az HG52; clear gb52 gl52 HG52; obtain ⟨hx52_0, hf52_0⟩ := Kd.R_celln 0 HO_7.out (x12_1 : Int) p52 q52; replace p52 := eq_true p52; replace q52 := eq_true q52; have n_ := Az (Kd.R_mono (ok' := (fun k_ => some k_ ≠ (.slice (some ad124) y143.length co57 : Value).ownBlock ∧ some k_ ≠ (.slice (some ad128) y146.length co59 : Value).ownBlock ∧ some k_ ≠ (.slice (some ad149) y150.length co64 : Value).ownBlock ∧ oV k_ v126 ∧ oV k_ v130)) HO_7.out (fun k_ hk => ⟨hk.1.1, ⟨hk.1.2.1, ⟨hk.1.2.2.1, ⟨hk.1.2.2.2, hk.2⟩⟩⟩⟩)); clear HO_7; have HO_7 := n_; clear n_; obtain ⟨hy66_, hz66_⟩ := Kd.R_celln 0 HO_7.out (x12_1 : Int) (oA) (oA); have HP66 := Kd.R_putg HO_7.out (x12_1 : Int) (rd x10_1 (ji47))) | ((with_reducible refine gs 3 102 rfl ?_); refine sE 3 102 (w60.setCell ⟨go52, (x12_1 : Int).toNat, none⟩ (.int .i64 (rd x10_1 (ji47)))) ?_; intro w67 hw; have hg : w60.grownBy w67 (some go52) := (by rw [hw]; exact HP66.2); have hp_ : Kd.R (Kd.int .i64) 3 w67 w.heap.size (fun k_ => some k_ ≠ (.slice (some ad124) y143.length co57 : Value).ownBlock ∧ some k_ ≠ (.slice (some ad128) y146.length co59 : Value).ownBlock ∧ some k_ ≠ (.slice (some ad149) y150.length co64 : Value).ownBlock ∧ oV k_ v126 ∧ oV k_ v130) (.slice (some ⟨go52, 0, none⟩) x7_1.length co52) y153 := (by rw [hw, Ny153.out]; exact HP66.1); clear HP66; replace HO145 := Az (Kd.R_after (v := (.slice (some ⟨go52, 0, none⟩) x7_1.length co52)) (v1 := (.slice (some ⟨go52, 0, none⟩) x7_1.length co52)) (ok := (fun k_ => some k_ ≠ (.slice (some ad128) y146.length co59 : Value).ownBlock ∧ some k_ ≠ (.slice (some ad149) y150.length co64 : Value).ownBlock ∧ oV k_ v126 ∧ oV k_ v130)) (by (with_reducible repeat (first | apply Kd.R_alloc | apply Kd.R_drewN | apply Kd.R_drew)); exact Kd.R_mono HO145.out (fun _ hk => ⟨⟨hk.1.2.1, ⟨hk.1.2.2.1, ⟨hk.1.2.2.2, hk.2⟩⟩⟩, hk.1.1⟩)) hg (.inl rfl)); replace HO148 := Az (Kd.R_after (v := (.slice (some ⟨go52, 0, none⟩) x7_1.length co52)) (v1 := (.slice (some ⟨go52, 0, none⟩) x7_1.length co52)) (ok := (fun k_ => some k_ ≠ (.slice (some ad124) y143.length co57 : Value).ownBlock ∧ some k_ ≠ (.slice (some ad149) y150.length co64 : Value).ownBlock ∧ oV k_ v126 ∧ oV k_ v130)) (by (with_reducible repeat (first | apply Kd.R_alloc | apply Kd.R_drewN | apply Kd.R_drew)); exact Kd.R_mono HO148.out (fun _ hk => ⟨⟨hk.1.2.1, ⟨hk.1.2.2.1, ⟨hk.1.2.2.2, hk.2⟩⟩⟩, hk.1.1⟩)) hg (.inl rfl)); replace HO152 := Az (Kd.R_after (v := (.slice (some ⟨go52, 0, none⟩) x7_1.length co52)) (v1 := (.slice (some ⟨go52, 0, none⟩) x7_1.length co52)) (ok := (fun k_ => some k_ ≠ (.slice (some ad124) y143.length co57 : Value).ownBlock ∧ some k_ ≠ (.slice (some ad128) y146.length co59 : Value).ownBlock ∧ oV k_ v126 ∧ oV k_ v130)) (by (with_reducible repeat (first | apply Kd.R_alloc | apply Kd.R_drewN | apply Kd.R_drew)); exact Kd.R_mono HO152.out (fun _ hk => ⟨⟨hk.1.2.1, ⟨hk.1.2.2.1, ⟨hk.1.2.2.2, hk.2⟩⟩⟩, hk.1.1⟩)) hg (.inl rfl)); replace BK105 := Az (kG BK105.out hg (Kd.R_ne HO_7.out BK105.out (by decide))); replace HO_7 := Az (hp_); replace HO127 := Az (Kd.R_after (v := (.slice (some ⟨go52, 0, none⟩) x7_1.length co52)) (v1 := (.slice (some ⟨go52, 0, none⟩) x7_1.length co52)) (ok := (fun k_ => some k_ ≠ (.slice (some ad124) y143.length co57 : Value).ownBlock ∧ some k_ ≠ (.slice (some ad128) y146.length co59 : Value).ownBlock ∧ some k_ ≠ (.slice (some ad149) y150.length co64 : Value).ownBlock ∧ oV k_ v130)) (by (with_reducible repeat (first | apply Kd.R_alloc | apply Kd.R_drewN | apply Kd.R_drew)); exact Kd.R_mono HO127.out (fun _ hk => ⟨⟨hk.1.2.1, ⟨hk.1.2.2.1, ⟨hk.1.2.2.2, hk.2⟩⟩⟩, hk.1.1⟩)) hg (.inl rfl)); replace HO131 := Az (Kd.R_after (v := (.slice (some ⟨go52, 0, none⟩) x7_1.length co52)) (v1 := (.slice (some ⟨go52, 0, none⟩) x7_1.length co52)) (ok := (fun k_ => some k_ ≠ (.slice (some ad124) y143.length co57 : Value).ownBlock ∧ some k_ ≠ (.slice (some ad128) y146.length co59 : Value).ownBlock ∧ some k_ ≠ (.slice (some ad149) y150.length co64 : Value).ownBlock ∧ oV k_ v126)) (by (with_reducible repeat (first | apply Kd.R_alloc | apply Kd.R_drewN | apply Kd.R_drew)); exact Kd.R_mono HO131.out (fun _ hk => ⟨⟨hk.2.1, ⟨hk.2.2.1, ⟨hk.2.2.2.1, hk.2.2.2.2⟩⟩⟩, hk.1⟩)) hg (.inl rfl)); replace HB := Az ((by rw [hw]; exact below_set (HB.out) GB52.out : Below w.heap.size w w67)); clear hg hw hp_; have p55 : 0 ≤ ((rd x10_1 (ji47)) : Int) := oA; have q55 : ((rd x10_1 (ji47)) : Int) < ((x7_1.length : Int) : Int) := oA; obtain ⟨hx55_0, hf55_0⟩ := Kd.R_celln 0 HO_7.out ((rd x10_1 (ji47)) : Int) p55 q55; replace p55 := eq_true p55; replace q55 := eq_true q55; obtain ⟨hy68_, hz68_⟩ := Kd.R_celln 0 HO_7.out ((rd x10_1 (ji47)) : Int) (oA) (oA); have HP68 := Kd.R_putg HO_7.out ((rd x10_1 (ji47)) : Int) x12_1) | ((with_reducible refine gs 3 106 rfl ?_); refine sE 3 106 (w67.setCell ⟨go52, ((rd x10_1 (ji47)) : Int).toNat, none⟩ (.int .i64 x12_1)) ?_; intro w69 hw; have hg : w67.grownBy w69 (some go52) := (by rw [hw]; exact HP68.2); have hp_ : Kd.R (Kd.int .i64) 3 w69 w.heap.size (fun k_ => some k_ ≠ (.slice (some ad124) y143.length co57 : Value).ownBlock ∧ some k_ ≠ (.slice (some ad128) y146.length co59 : Value).ownBlock ∧ some k_ ≠ (.slice (some ad149) y150.length co64 : Value).ownBlock ∧ oV k_ v126 ∧ oV k_ v130) (.slice (some ⟨go52, 0, none⟩) x7_1.length co52) y154 := (by rw [hw, Ny154.out]; exact HP68.1); clear HP68; replace HO145 := Az (Kd.R_after (v := (.slice (some ⟨go52, 0, none⟩) x7_1.length co52)) (v1 := (.slice (some ⟨go52, 0, none⟩) x7_1.length co52)) (ok := (fun k_ => some k_ ≠ (.slice (some ad128) y146.length co59 : Value).ownBlock ∧ some k_ ≠ (.slice (some ad149) y150.length co64 : Value).ownBlock ∧ oV k_ v126 ∧ oV k_ v130)) (rU HO145.out) hg (.inl rfl)); replace HO148 := Az (Kd.R_after (v := (.slice (some ⟨go52, 0, none⟩) x7_1.length co52)) (v1 := (.slice (some ⟨go52, 0, none⟩) x7_1.length co52)) (ok := (fun k_ => some k_ ≠ (.slice (some ad124) y143.length co57 : Value).ownBlock ∧ some k_ ≠ (.slice (some ad149) y150.length co64 : Value).ownBlock ∧ oV k_ v126 ∧ oV k_ v130)) (rU HO148.out) hg (.inl rfl)); replace HO152 := Az (Kd.R_after (v := (.slice (some ⟨go52, 0, none⟩) x7_1.length co52)) (v1 := (.slice (some ⟨go52, 0, none⟩) x7_1.length co52)) (ok := (fun k_ => some k_ ≠ (.slice (some ad124) y143.length co57 : Value).ownBlock ∧ some k_ ≠ (.slice (some ad128) y146.length co59 : Value).ownBlock ∧ oV k_ v126 ∧ oV k_ v130)) (rU HO152.out) hg (.inl rfl)); replace BK105 := Az (kG BK105.out hg (Kd.R_ne HO_7.out BK105.out (by decide))); replace HO_7 := Az (hp_); replace HO127 := Az (Kd.R_after (v := (.slice (some ⟨go52, 0, none⟩) x7_1.length co52)) (v1 := (.slice (some ⟨go52, 0, none⟩) x7_1.length co52)) (ok := (fun k_ => some k_ ≠ (.slice (some ad124) y143.length co57 : Value).ownBlock ∧ some k_ ≠ (.slice (some ad128) y146.length co59 : Value).ownBlock ∧ some k_ ≠ (.slice (some ad149) y150.length co64 : Value).ownBlock ∧ oV k_ v130)) (rU HO127.out) hg (.inl rfl)); replace HO131 := Az (Kd.R_after (v := (.slice (some ⟨go52, 0, none⟩) x7_1.length co52)) (v1 := (.slice (some ⟨go52, 0, none⟩) x7_1.length co52)) (ok := (fun k_ => some k_ ≠ (.slice (some ad124) y143.length co57 : Value).ownBlock ∧ some k_ ≠ (.slice (some ad128) y146.length co59 : Value).ownBlock ∧ some k_ ≠ (.slice (some ad149) y150.length co64 : Value).ownBlock ∧ oV k_ v126)) (rU HO131.out) hg (.inl rfl)); replace HB := Az ((by rw [hw]; exact below_set (HB.out) GB52.out : Below w.heap.size w w69)); clear hg hw hp_))
    go_roundg k1
    case measure => exact mO
    case rel => exact ⟨(y125), (y129), (y154), (y143), (y146), (y150), (x11_1), (wrap64 (x12_1 + 1)), rS, rS, H', ⟨mO⟩, ⟨by (with_reducible repeat (first | apply Kd.R_alloc | apply Kd.R_drewN | apply Kd.R_drew)); exact Kd.R_mono HO127.out (fun _ hk => ⟨hk.1.2.2.2, ⟨hk.2, ⟨hk.1.1, ⟨hk.1.2.1, hk.1.2.2.1⟩⟩⟩⟩)⟩, ⟨by (with_reducible repeat (first | apply Kd.R_alloc | apply Kd.R_drewN | apply Kd.R_drew)); exact Kd.R_mono HO131.out (fun _ hk => ⟨hk.1.2.2.2, ⟨hk.2, ⟨hk.1.1, ⟨hk.1.2.1, hk.1.2.2.1⟩⟩⟩⟩)⟩, ⟨by (with_reducible repeat (first | apply Kd.R_alloc | apply Kd.R_drewN | apply Kd.R_drew)); exact Kd.R_mono HO_7.out (fun _ hk => ⟨hk.2.2.2.1, ⟨hk.2.2.2.2, ⟨hk.1, ⟨hk.2.1, hk.2.2.1⟩⟩⟩⟩)⟩, ⟨by (with_reducible repeat (first | apply Kd.R_alloc | apply Kd.R_drewN | apply Kd.R_drew)); exact Kd.R_mono HO145.out (fun _ hk => ⟨hk.1.2.2.1, ⟨hk.1.2.2.2, ⟨hk.2, ⟨hk.1.1, hk.1.2.1⟩⟩⟩⟩)⟩, ⟨by (with_reducible repeat (first | apply Kd.R_alloc | apply Kd.R_drewN | apply Kd.R_drew)); exact Kd.R_mono HO148.out (fun _ hk => ⟨hk.1.2.2.1, ⟨hk.1.2.2.2, ⟨hk.2, ⟨hk.1.1, hk.1.2.1⟩⟩⟩⟩)⟩, ⟨by (with_reducible repeat (first | apply Kd.R_alloc | apply Kd.R_drewN | apply Kd.R_drew)); exact Kd.R_mono HO152.out (fun _ hk => ⟨hk.1.2.2.1, ⟨hk.1.2.2.2, ⟨hk.2, ⟨hk.1.1, hk.1.2.1⟩⟩⟩⟩)⟩, ⟨kU BK105.out⟩, ⟨bU1 HB.out GW105.out⟩⟩
  ·
   simp only [Option.some.injEq, Prod.mk.injEq] at H; obtain ⟨rfl, rfl, rfl⟩ := H; have hz70 := bc2 BK105.out; go_wp2
   go_ret3
   exact ⟨_, _, _, rE, by (with_reducible repeat (first | apply Kd.R_alloc | apply Kd.R_drewN | apply Kd.R_drew)); exact Kd.R_mono HO_5.out (fun _ hk => ⟨hk.1, hk.2.1⟩), by (with_reducible repeat (first | apply Kd.R_alloc | apply Kd.R_drewN | apply Kd.R_drew)); exact Kd.R_mono HO_6.out (fun _ hk => ⟨hk.1, hk.2.1⟩), by (with_reducible repeat (first | apply Kd.R_alloc | apply Kd.R_drewN | apply Kd.R_drew)); exact Kd.R_mono HO_7.out (fun _ hk => ⟨hk.1, hk.2.1⟩), bU1 HB.out GW105.out⟩
mutual
def spec_l6qNext.l0 : Nat → List Int → List Int → Int → Option (List Int)
 | 0, _, _, _ => none
 | k + 1, x0, x3, x4 => if x4 < (x0.length : Int) then (spec_l6qNext.l1 k x0 x3 x4 (-1) 1) else (some x3)
def spec_l6qNext.l1 : Nat → List Int → List Int → Int → Int → Int → Option (List Int)
 | 0, _, _, _, _, _ => none
 | k + 1, x0, x3, x4, x5, x6 => if x6 < (x0.length : Int) then (spec_l6qNext.j2 k x0 x3 x4 x5 x6 (decide (x5 < 0))) else (spec_l6qNext.j2 k x0 x3 x4 x5 x6 false)
def spec_l6qNext.j2 : Nat → List Int → List Int → Int → Int → Int → Bool → Option (List Int)
 | 0, _, _, _, _, _, _ => none
 | k + 1, x0, x3, x4, x5, x6, x22 => if x22 = true then (if (x0.length : Int) = 0 then (none) else (if 0 ≤ (Int.tmod (wrap64 (x4 + x6)) (x0.length : Int)) then (if (Int.tmod (wrap64 (x4 + x6)) (x0.length : Int)) < (x0.length : Int) then (if 0 ≤ x4 then (if x4 < (x0.length : Int) then (if (rd x0 (Int.tmod (wrap64 (x4 + x6)) (x0.length : Int))) = (wrap64 ((rd x0 x4) - 1)) then (spec_l6qNext.l1 k x0 x3 x4 (Int.tmod (wrap64 (x4 + x6)) (x0.length : Int)) (wrap64 (x6 + 1))) else (spec_l6qNext.l1 k x0 x3 x4 x5 (wrap64 (x6 + 1)))) else (none)) else (none)) else (none)) else (none))) else (if x3.length < 17592186044416 then (spec_l6qNext.l0 k x0 (x3 ++ [x5]) (wrap64 (x4 + 1))) else (none))
end
def spec_l6qNext.f (k : Nat) (l0 : List Int) : Option (List Int) := spec_l6qNext.l0 k l0 (([] : List Int)) 0
theorem spec_l6qNext.mono_l : ∀ k, (∀ y0 y1 y2, LeO (spec_l6qNext.l0 k y0 y1 y2) (spec_l6qNext.l0 (k + 1) y0 y1 y2)) ∧ (∀ y0 y1 y2 y3 y4, LeO (spec_l6qNext.l1 k y0 y1 y2 y3 y4) (spec_l6qNext.l1 (k + 1) y0 y1 y2 y3 y4)) ∧ (∀ y0 y1 y2 y3 y4 y5, LeO (spec_l6qNext.j2 k y0 y1 y2 y3 y4 y5) (spec_l6qNext.j2 (k + 1) y0 y1 y2 y3 y4 y5))
 | 0 => ⟨fun _ _ _ r h => by simp [spec_l6qNext.l0] at h, fun _ _ _ _ _ r h => by simp [spec_l6qNext.l1] at h, fun _ _ _ _ _ _ r h => by simp [spec_l6qNext.j2] at h⟩
 | k + 1 => by
  obtain ⟨ih0, ih1, ih2⟩ := spec_l6qNext.mono_l k; refine ⟨?_, ?_, ?_⟩
  ·
   intro y0 y1 y2
   unfold spec_l6qNext.l0
   repeat' first
   | (with_reducible exact ih0 _ _ _)
   | (with_reducible exact ih1 _ _ _ _ _)
   | (with_reducible exact ih2 _ _ _ _ _ _)
   | (with_reducible exact LeO.refl _)
   | (with_reducible exact LeO.none _)
   | (with_reducible refine LeO.ite ?_ ?_)
   | (with_reducible refine LeO.bind ?_ (fun _ => ?_))
   | exact ih0 _ _ _
   | exact ih1 _ _ _ _ _
   | exact ih2 _ _ _ _ _ _
   | exact LeO.none _
   | refine LeO.ite ?_ ?_
   | refine LeO.bind ?_ (fun _ => ?_)
  ·
   intro y0 y1 y2 y3 y4
   unfold spec_l6qNext.l1
   repeat' first
   | (with_reducible exact ih0 _ _ _)
   | (with_reducible exact ih1 _ _ _ _ _)
   | (with_reducible exact ih2 _ _ _ _ _ _)
   | (with_reducible exact LeO.refl _)
   | (with_reducible exact LeO.none _)
   | (with_reducible refine LeO.ite ?_ ?_)
   | (with_reducible refine LeO.bind ?_ (fun _ => ?_))
   | exact ih0 _ _ _
   | exact ih1 _ _ _ _ _
   | exact ih2 _ _ _ _ _ _
   | exact LeO.none _
   | refine LeO.ite ?_ ?_
   | refine LeO.bind ?_ (fun _ => ?_)
  ·
   intro y0 y1 y2 y3 y4 y5
   unfold spec_l6qNext.j2
   repeat' first
   | (with_reducible exact ih0 _ _ _)
   | (with_reducible exact ih1 _ _ _ _ _)
   | (with_reducible exact ih2 _ _ _ _ _ _)
   | (with_reducible exact LeO.refl _)
   | (with_reducible exact LeO.none _)
   | (with_reducible refine LeO.ite ?_ ?_)
   | (with_reducible refine LeO.bind ?_ (fun _ => ?_))
   | exact ih0 _ _ _
   | exact ih1 _ _ _ _ _
   | exact ih2 _ _ _ _ _ _
   | exact LeO.none _
   | refine LeO.ite ?_ ?_
   | refine LeO.bind ?_ (fun _ => ?_)
theorem spec_l6qNext.mono : ∀ a0 k, LeO (spec_l6qNext.f k a0) (spec_l6qNext.f (k + 1) a0) := by
 intro a0 k; obtain ⟨ih0, ih1, ih2⟩ := spec_l6qNext.mono_l k
 unfold spec_l6qNext.f
 repeat' first
   | (with_reducible exact ih0 _ _ _)
   | (with_reducible exact ih1 _ _ _ _ _)
   | (with_reducible exact ih2 _ _ _ _ _ _)
   | (with_reducible exact LeO.refl _)
   | (with_reducible exact LeO.none _)
   | (with_reducible refine LeO.ite ?_ ?_)
   | (with_reducible refine LeO.bind ?_ (fun _ => ?_))
   | exact ih0 _ _ _
   | exact ih1 _ _ _ _ _
   | exact ih2 _ _ _ _ _ _
   | exact LeO.none _
   | refine LeO.ite ?_ ?_
   | refine LeO.bind ?_ (fun _ => ?_)
set_option maxHeartbeats 8000000 in
set_option maxRecDepth 100000 in
theorem spec_l6qNext.calls (k : Nat) (A0 : Option Addr) (c0 : Nat) (l0 : List Int) (r : List Int) (w : World) (hr0 : Kd.C (Kd.int .i64) w A0 l0.length l0) (hc0 : l0.length ≤ c0) (h : spec_l6qNext.f k l0 = some r) :
  Calls Try.prog 71 #[.slice A0 l0.length c0] w fun e w' => ∃ v0_ : Value, e = .returned (v0_) ∧ Kd.R (Kd.int .i64) 3 w' w.heap.size (fun _ => True) v0_ r ∧ Below w.heap.size w w' := by
 have HR0 := Az hr0; have HC0 := Az hc0; clear hr0 hc0; have HB := bZ w; have H := h; clear h; unfold spec_l6qNext.f at H; generalize Ny155 : (([] : List Int) : List Int) = y155 at H; replace Ny155 := Ay Ny155; have H' := Az H; clear H; go_enter Try.func71, Try.ntmps71
 go_wp2_with (first | ((with_reducible refine gd 8 rfl ?_); refine Kd.R_lit (Kd.int .i64) _ 3 rfl (N := 8) rfl (xs := ([] : List Int)) (inner := []) (ok := fun _ => True) (okp := fun _ => True) hS ?hp (fun _ hk => hk) trivial (Below.refl _ _) (Nat.le_refl _) (by simp) ?_; (case hp => exact (Reps.none _ _)); intro v156 w2 ho3 hb hg_ hnew_; clear hg_ hnew_; (first | rw [← Ny155.out] at ho3 | (simp only [Int.reduceToNat] at ho3; rw [← Ny155.out] at ho3)); have HO157 := Az (Kd.R_lower ho3 (below_size (bU0 HB.out))); replace HB := Az (below_step (bU0 HB.out) hb); clear hb ho3))
 repeat (go_quiet (fail); try go_wp2_with (fail))
 go_loopg [3, 4] k (fun kq v3 v4 w' => ∃ (x3_1 : List Int) (x4_1 : Int), v4 = .int .i64 x4_1 ∧ Aside0 (spec_l6qNext.l0 kq l0 x3_1 x4_1 = some r) ∧ Aside0 (kq ≤ k) ∧ Aside0 (Kd.R (Kd.int .i64) 3 w' w.heap.size (fun _ => True) v3 x3_1) ∧ Aside0 (Below w.heap.size w w'))
 case atStart => exact ⟨(y155), (0), rS, H', ⟨Nat.le_refl _⟩, ⟨rU HO157.out⟩, ⟨bU0 HB.out⟩⟩
 case round =>
  clear H'; obtain ⟨x3_1, x4_1, rfl, HA, HK1, HO_3, HB⟩ := hrel
  rcases gk with _ | k1
  exact (nN HA.out).elim; have H := HA.out; clear HA; simp only [spec_l6qNext.l0] at H
  by_cases c4 : x4_1 < (l0.length : Int)
  ·
   rw [if_pos c4] at H; have c4b0 := decide_eq_true c4; clear c4; have H' := Az H; clear H; go_wp2
   repeat (go_quiet (fail); try go_wp2)
   go_loopg [5, 6] k1 (fun kq v5 v6 w' => ∃ (x5_2 : Int) (x6_2 : Int), v5 = .int .i64 x5_2 ∧ v6 = .int .i64 x6_2 ∧ Aside0 (spec_l6qNext.l1 kq l0 x3_1 x4_1 x5_2 x6_2 = some r) ∧ Aside0 (kq ≤ k1) ∧ Aside0 (Kd.R (Kd.int .i64) 3 w' w.heap.size (fun _ => True) u3 x3_1) ∧ Aside0 (Below w.heap.size w w'))
   case atStart => exact ⟨((-1)), (1), rS, rS, H', ⟨Nat.le_refl _⟩, ⟨rU HO_3.out⟩, ⟨bU0 HB.out⟩⟩
   case round =>
    clear H'; obtain ⟨x5_2, x6_2, rfl, rfl, HA, HK2, HO_3, HB⟩ := hrel
    rcases gk with _ | k2
    exact (nN HA.out).elim; have H := HA.out; clear HA; simp only [spec_l6qNext.l1] at H; have HC5 := Az H; clear H
    go_upto_region 7 with (fail)
    repeat (go_quiet (fail); go_upto_region 7 with (fail))
    go_cut [22] (fun v22 wc => ∃ (kq : Nat) (x22_4 : Bool), v22 = .bool x22_4 ∧ Aside0 (spec_l6qNext.j2 kq l0 x3_1 x4_1 x5_2 x6_2 x22_4 = some r) ∧ Aside0 (kq ≤ k2) ∧ Aside0 (Kd.R (Kd.int .i64) 3 wc w.heap.size (fun _ => True) u3 x3_1) ∧ Aside0 (Below w.heap.size w wc))
    case first =>
     have H := HC5.out; clear HC5
     replace H := gB H; rcases H with ⟨c6b0, H⟩ | ⟨c6b0, H⟩
     ·
      have H' := Az H; clear H; go_wp2
      repeat (go_quiet (fail); try go_wp2)
      go_meet
      case rel => exact ⟨_, (decide (x5_2 < 0)), rS, H', ⟨mO⟩, ⟨rU HO_3.out⟩, ⟨bU0 HB.out⟩⟩
     ·
      have H' := Az H; clear H; go_wp2
      repeat (go_quiet (fail); try go_wp2)
      go_meet
      case rel => exact ⟨_, (false), rS, H', ⟨mO⟩, ⟨rU HO_3.out⟩, ⟨bU0 HB.out⟩⟩
    case rest =>
     clear HC5; obtain ⟨kq, x22_4, rfl, HA, HJ4, HO_3, HB⟩ := hcut
     rcases kq with _ | kj4
     exact (nN HA.out).elim; have H := HA.out; clear HA; simp only [spec_l6qNext.j2] at H
     by_cases c7 : x22_4 = true
     ·
      subst c7; rw [if_pos rfl] at H
      by_cases c8 : (l0.length : Int) = 0
      · rw [if_pos c8] at H; exact absurd H (by simp)
      ·
       rw [if_neg c8] at H; have c8b0 := beq_eq_false_iff_ne.mpr c8; have c8b1 := bne_iff_ne.mpr c8
       have c8b2 : ¬ (l0 = []) := fun h_ => c8 (by rw [h_]; rfl)
       obtain ⟨ji9, hji9⟩ : ∃ j_ : Int, (Int.tmod (wrap64 (x4_1 + x6_2)) (l0.length : Int)) = j_ := ⟨_, rfl⟩; (first | rw [hji9] at H | simp only [hji9] at H); replace H := gD4 H; obtain ⟨c10b0, c11b0, c12b0, c13b0, H⟩ := H
       replace H := gQ H; rcases H with ⟨c14b0, c14b1, H⟩ | ⟨c14b0, c14b1, H⟩
       ·
        have H' := Az H; clear H; obtain ⟨ad158, e158, p158, q158, hx158_0⟩ := aI HR0.out (ji9)
        cases e158
        replace hx158_0 := hT HB.out hx158_0; obtain ⟨p159, q159, hx159_0⟩ := aJ HR0.out x4_1; replace hx159_0 := hT HB.out hx159_0; go_wp2
        repeat (go_quiet (fail); try go_wp2)
        go_roundg kj4
        case measure => have := HK1.out; have := HK2.out; have := HJ4.out; omega
        case rel => exact ⟨(ji9), (wrap64 (x6_2 + 1)), (by first | rfl | (simp; done) | (simp only [← hji9] <;> (first | rfl | simp)) | (simp [*]; done)), rS, H', ⟨by have := HK1.out; have := HK2.out; have := HJ4.out; omega⟩, ⟨rU HO_3.out⟩, ⟨bU0 HB.out⟩⟩
       ·
        have H' := Az H; clear H; obtain ⟨ad158, e158, p158, q158, hx158_0⟩ := aI HR0.out (ji9)
        cases e158
        replace hx158_0 := hT HB.out hx158_0; obtain ⟨p159, q159, hx159_0⟩ := aJ HR0.out x4_1; replace hx159_0 := hT HB.out hx159_0; go_wp2
        repeat (go_quiet (fail); try go_wp2)
        go_roundg kj4
        case measure => have := HK1.out; have := HK2.out; have := HJ4.out; omega
        case rel => exact ⟨(x5_2), (wrap64 (x6_2 + 1)), rS, rS, H', ⟨by have := HK1.out; have := HK2.out; have := HJ4.out; omega⟩, ⟨rU HO_3.out⟩, ⟨bU0 HB.out⟩⟩
     ·
      replace c7 := Bool.eq_false_iff.mpr c7; subst c7; rw [if_neg nT] at H; replace H := gP H; obtain ⟨c15, H⟩ := H; have LMc15 := Az c15; clear c15; generalize Ny160 : (x3_1 ++ [x5_2] : List Int) = y160 at H; replace Ny160 := Ay Ny160; have H' := Az H; clear H
      go_wp2_with (first | ((with_reducible refine gate_builtin (b := .append) (xs := #[.tmp 42, .tmp 44]) rfl ?_); at_builtin; refine Kd.R_append (Kd.int .i64) (w0 := w) w.heap.size rfl (.tmp 42) (.tmp 44) 23 3 (.int .i64 0) 8 rfl Try.underlying23 info3 rfl (by decide) (by omega) u3 x3_1 x5_2 [.int .i64 x5_2] (fun _ => True) (fun _ => False) rfl rfl ?aP (fun _ hk => hk.elim) ?aF ?aO ?aB ?aS ?aL ?_; (case aP => exact rfl); (case aB => exact (bU0 HB.out)); (case aF => exact (fun _ _ => trivial)); (case aO => exact (rU HO_3.out)); (case aS => exact (below_size (bU0 HB.out))); (case aL => have := LMc15.out; omega); intro v161 w16 ho hb hg hat; rw [← Ny160.out] at ho; replace HB := Az (hb); have HO162 := Az (ho); clear HO_3 ho hb hg hat))
      repeat (go_quiet (fail); try go_wp2_with (fail))
      go_roundg kj4
      case measure => have := HK1.out; have := HK2.out; have := HJ4.out; omega
      case rel => exact ⟨(y160), (wrap64 (x4_1 + 1)), rS, H', ⟨by have := HK1.out; have := HK2.out; have := HJ4.out; omega⟩, ⟨rU HO162.out⟩, ⟨bU0 HB.out⟩⟩
  ·
   rw [if_neg c4] at H; have c4b0 := decide_eq_false c4; clear c4; obtain rfl := Option.some.inj H; go_wp2
   repeat (go_quiet (fail); try go_wp2)
   go_ret; exact ⟨_, rE, rU HO_3.out, bU0 HB.out⟩
def spec_l3Flip.l0 : Nat → Int → List Int → Int → Option (List Int)
 | 0, _, _, _ => none
 | k + 1, x0, x3, x4 => if x4 < x0 then ((some (([wrap64 ((wrap64 (2 * x4)) + 1), wrap64 (2 * x4)] : List Int) : List Int)).bind fun y166 => (if x3.length + y166.length < 17592186044416 then (spec_l3Flip.l0 k x0 (x3 ++ y166) (wrap64 (x4 + 1))) else (none))) else (some x3)
def spec_l3Flip.f (k : Nat) (a0 : Int) : Option (List Int) := spec_l3Flip.l0 k a0 (([] : List Int)) 0
theorem spec_l3Flip.mono_l : ∀ k, (∀ y0 y1 y2, LeO (spec_l3Flip.l0 k y0 y1 y2) (spec_l3Flip.l0 (k + 1) y0 y1 y2))
 | 0 => fun _ _ _ r h => by simp [spec_l3Flip.l0] at h
 | k + 1 => by
  have ih0 := spec_l3Flip.mono_l k
  ·
   intro y0 y1 y2
   unfold spec_l3Flip.l0
   repeat' first
   | (with_reducible exact ih0 _ _ _)
   | (with_reducible exact LeO.refl _)
   | (with_reducible exact LeO.none _)
   | (with_reducible refine LeO.ite ?_ ?_)
   | (with_reducible refine LeO.bind ?_ (fun _ => ?_))
   | exact ih0 _ _ _
   | exact LeO.none _
   | refine LeO.ite ?_ ?_
   | refine LeO.bind ?_ (fun _ => ?_)
theorem spec_l3Flip.mono : ∀ a0 k, LeO (spec_l3Flip.f k a0) (spec_l3Flip.f (k + 1) a0) := by
 intro a0 k; have ih0 := spec_l3Flip.mono_l k
 unfold spec_l3Flip.f
 repeat' first
   | (with_reducible exact ih0 _ _ _)
   | (with_reducible exact LeO.refl _)
   | (with_reducible exact LeO.none _)
   | (with_reducible refine LeO.ite ?_ ?_)
   | (with_reducible refine LeO.bind ?_ (fun _ => ?_))
   | exact ih0 _ _ _
   | exact LeO.none _
   | refine LeO.ite ?_ ?_
   | refine LeO.bind ?_ (fun _ => ?_)
set_option maxHeartbeats 8000000 in
set_option maxRecDepth 100000 in
theorem spec_l3Flip.calls (k : Nat) (a0 : Int) (r : List Int) (w : World) (h : spec_l3Flip.f k a0 = some r) :
  Calls Try.prog 72 #[.int .i64 a0] w fun e w' => ∃ v0_ : Value, e = .returned (v0_) ∧ Kd.R (Kd.int .i64) 3 w' w.heap.size (fun _ => True) v0_ r ∧ Below w.heap.size w w' := by
 have HB := bZ w; have H := h; clear h; unfold spec_l3Flip.f at H; generalize Ny163 : (([] : List Int) : List Int) = y163 at H; replace Ny163 := Ay Ny163; have H' := Az H; clear H; go_enter Try.func72, Try.ntmps72
 go_wp2_with (first | ((with_reducible refine gd 5 rfl ?_); refine Kd.R_lit (Kd.int .i64) _ 3 rfl (N := 5) rfl (xs := ([] : List Int)) (inner := []) (ok := fun _ => True) (okp := fun _ => True) hS ?hp (fun _ hk => hk) trivial (Below.refl _ _) (Nat.le_refl _) (by simp) ?_; (case hp => exact (Reps.none _ _)); intro v164 w2 ho3 hb hg_ hnew_; clear hg_ hnew_; (first | rw [← Ny163.out] at ho3 | (simp only [Int.reduceToNat] at ho3; rw [← Ny163.out] at ho3)); have HO165 := Az (Kd.R_lower ho3 (below_size (bU0 HB.out))); replace HB := Az (below_step (bU0 HB.out) hb); clear hb ho3))
 go_loopg [3, 4] k (fun kq v3 v4 w' => ∃ (x3_1 : List Int) (x4_1 : Int), v4 = .int .i64 x4_1 ∧ Aside0 (spec_l3Flip.l0 kq a0 x3_1 x4_1 = some r) ∧ Aside0 (kq ≤ k) ∧ Aside0 (Kd.R (Kd.int .i64) 3 w' w.heap.size (fun _ => True) v3 x3_1) ∧ Aside0 (Below w.heap.size w w'))
 case atStart => exact ⟨(y163), (0), rS, H', ⟨Nat.le_refl _⟩, ⟨rU HO165.out⟩, ⟨bU0 HB.out⟩⟩
 case round =>
  clear H'; obtain ⟨x3_1, x4_1, rfl, HA, HK1, HO_3, HB⟩ := hrel
  rcases gk with _ | k1
  exact (nN HA.out).elim; have H := HA.out; clear HA; simp only [spec_l3Flip.l0] at H
  replace H := gB H; rcases H with ⟨c4b0, H⟩ | ⟨c4b0, H⟩
  ·
   generalize Ny166 : (([wrap64 ((wrap64 (2 * x4_1)) + 1), wrap64 (2 * x4_1)] : List Int) : List Int) = y166 at H; simp only [Option.bind_some] at H; replace Ny166 := Ay Ny166; replace H := gP H; obtain ⟨c5, H⟩ := H; have LMc5 := Az c5; clear c5; generalize Ny169 : (x3_1 ++ y166 : List Int) = y169 at H; replace Ny169 := Ay Ny169; have H' := Az H; clear H
   go_wp2_with (first | ((with_reducible refine gd 17 rfl ?_); refine Kd.R_lit (Kd.int .i64) _ 3 rfl (N := 17) rfl (xs := ([wrap64 ((wrap64 (2 * x4_1)) + 1), wrap64 (2 * x4_1)] : List Int)) (inner := [.int .i64 (wrap64 ((wrap64 (2 * x4_1)) + 1)), .int .i64 (wrap64 (2 * x4_1))]) (ok := fun _ => True) (okp := fun _ => True) hS ?hp (fun _ hk => hk) trivial (Below.refl _ _) (Nat.le_refl _) (by simp) ?_; (case hp => exact (Reps.one (show Kd.M (Kd.int .i64) _ _ _ (wrap64 ((wrap64 (2 * x4_1)) + 1)) [.int .i64 (wrap64 ((wrap64 (2 * x4_1)) + 1))] from rfl) (Reps.one (show Kd.M (Kd.int .i64) _ _ _ (wrap64 (2 * x4_1)) [.int .i64 (wrap64 (2 * x4_1))] from rfl) (Reps.none _ _)))); intro v167 w6 ho7 hb hg_ hnew_; clear hg_ hnew_; (first | rw [← Ny166.out] at ho7 | (simp only [Int.reduceToNat] at ho7; rw [← Ny166.out] at ho7)); have HO168 := Az (Kd.R_lower (Kd.R_new' ho7 (Kd.R_lt (rU HO_3.out))) (below_size (bU0 HB.out))); replace HO_3 := Az (Kd.R_elder' (rU HO_3.out) (Kd.R_base ho7) hb); replace HB := Az (below_step (bU0 HB.out) hb); clear hb ho7; obtain ⟨Ao9, co9, eo9⟩ := Kd.R_slice HO168.out; subst eo9) | ((with_reducible refine gate_builtin (b := .append) (xs := #[.tmp 11, .tmp 17]) rfl ?_); at_builtin; refine Kd.R_append_rows (Kd.int .i64) (w0 := w) w.heap.size rfl (.tmp 11) (.tmp 17) 23 3 (.int .i64 0) 8 rfl Try.underlying23 info3 rfl (by decide) (by omega) u3 x3_1 y166 _ _ _ (fun k_ => oS k_ Ao9 y166.length co9) (fun _ => False) rfl rfl ?aO ?aR (fun _ _ h => h) (fun _ h => h.elim) ?aF ?aB ?aS ?aL ?_; (case aR => exact cU ((Kd.R_reads' HO168.out).2.2)); (case aB => exact (bU0 HB.out)); (case aF => exact (fun k_ hk => Kd.fresh' (Kd.R_lt (rU HO168.out)) k_ hk)); (case aO => exact (rU (Kd.R_mono HO_3.out (fun _ hk => hk.2)))); (case aS => exact (below_size (bU0 HB.out))); (case aL => have := LMc5.out; omega); intro v170 w8 ho hb hg hat; rw [← Ny169.out] at ho; replace HO168 := Az (Kd.R_after (ok := (fun _ => True)) (rU HO168.out) hg hat); replace HB := Az (hb); have HO171 := Az (ho); clear HO_3 ho hb hg hat))
   go_roundg k1
   case measure => exact mO
   case rel => exact ⟨(y169), (wrap64 (x4_1 + 1)), rS, H', ⟨mO⟩, ⟨rM HO171.out⟩, ⟨bU0 HB.out⟩⟩
  · obtain rfl := Option.some.inj H; go_wp2; go_ret; exact ⟨_, rE, rU HO_3.out, bU0 HB.out⟩
def spec_l6qRing.l0 : Nat → List Int → List Int → Int → Option (List Int)
 | 0, _, _, _ => none
 | k + 1, x0, x1, x4 => if x4 < (x1.length : Int) then (if 0 ≤ x4 then (if (x1.length : Int) = 0 then (none) else (if 0 ≤ (Int.tmod (wrap64 (x4 + 1)) (x1.length : Int)) then (if (Int.tmod (wrap64 (x4 + 1)) (x1.length : Int)) < (x1.length : Int) then (if 0 ≤ (rd x1 x4) then (if (rd x1 x4) < (x0.length : Int) then (spec_l6qRing.l0 k (x0.set ((rd x1 x4) : Int).toNat (rd x1 (Int.tmod (wrap64 (x4 + 1)) (x1.length : Int)))) x1 (wrap64 (x4 + 1))) else (none)) else (none)) else (none)) else (none))) else (none)) else (some x0)
def spec_l6qRing.f (k : Nat) (l0 : List Int) (l1 : List Int) : Option (List Int) := spec_l6qRing.l0 k l0 l1 0
theorem spec_l6qRing.mono_l : ∀ k, (∀ y0 y1 y2, LeO (spec_l6qRing.l0 k y0 y1 y2) (spec_l6qRing.l0 (k + 1) y0 y1 y2))
 | 0 => fun _ _ _ r h => by simp [spec_l6qRing.l0] at h
 | k + 1 => by
  have ih0 := spec_l6qRing.mono_l k
  ·
   intro y0 y1 y2
   unfold spec_l6qRing.l0
   repeat' first
   | (with_reducible exact ih0 _ _ _)
   | (with_reducible exact LeO.refl _)
   | (with_reducible exact LeO.none _)
   | (with_reducible refine LeO.ite ?_ ?_)
   | (with_reducible refine LeO.bind ?_ (fun _ => ?_))
   | exact ih0 _ _ _
   | exact LeO.none _
   | refine LeO.ite ?_ ?_
   | refine LeO.bind ?_ (fun _ => ?_)
theorem spec_l6qRing.mono : ∀ a0 a1 k, LeO (spec_l6qRing.f k a0 a1) (spec_l6qRing.f (k + 1) a0 a1) := by
 intro a0 a1 k; have ih0 := spec_l6qRing.mono_l k
 unfold spec_l6qRing.f
 repeat' first
   | (with_reducible exact ih0 _ _ _)
   | (with_reducible exact LeO.refl _)
   | (with_reducible exact LeO.none _)
   | (with_reducible refine LeO.ite ?_ ?_)
   | (with_reducible refine LeO.bind ?_ (fun _ => ?_))
   | exact ih0 _ _ _
   | exact LeO.none _
   | refine LeO.ite ?_ ?_
   | refine LeO.bind ?_ (fun _ => ?_)
def spec_l6qRing.T3 : Bool × List (List Nat × List Nat) := (true, [([], []), ([], []), ([], []), ([1, 2], [1, 2]), ([3], [3]), ([], []), ([], []), ([6], [6]), ([], []), ([8], [8]), ([7, 9], [7, 9]), ([5, 10], [5, 10]), ([11], [11]), ([0, 4, 0, 1, 2, 3, 4, 5, 6, 7, 8, 9, 10, 11, 12], [0, 4]), ([13, 12, 0, 1, 2, 3, 4, 5, 6, 7, 8, 9, 10, 11, 12], [12, 13])])
def spec_l6qRing.B3 : List Nat := [0, 0, 0, 6, 14, 0, 0, 64, 0, 256, 960, 2016, 4064, 8191, 16383]
theorem spec_l6qRing.tab3 : rtab .any (opsOf Try.f73 3) = spec_l6qRing.T3 := by kernel_rfl
theorem spec_l6qRing.bits3 : waitsOk spec_l6qRing.T3.2 spec_l6qRing.B3 = true := by kernel_rfl
set_option maxHeartbeats 8000000 in
set_option maxRecDepth 100000 in
theorem spec_l6qRing.calls (k : Nat) (P0_ : Nat → Prop) (u9000_ : Value) (l0 : List Int) (A1 : Option Addr) (c1 : Nat) (l1 : List Int) (r : List Int) (w0 w : World) (hB : Below w0.heap.size w0 w) (ho0 : Kd.R (Kd.int .i64) 3 w w0.heap.size P0_ u9000_ l0) (hr1 : ∀ W_, Kept w W_ (fun k_ => P0_ k_) → Kd.C (Kd.int .i64) W_ A1 l1.length l1) (hc1 : l1.length ≤ c1) (h : spec_l6qRing.f k l0 l1 = some r) :
  Calls Try.prog 73 #[u9000_, .slice A1 l1.length c1] w fun e w' => e = .returned (.tuple #[]) ∧ Kd.R (Kd.int .i64) 3 w' w0.heap.size (fun k_ => (P0_ k_ ∨ w.heap.size ≤ k_)) u9000_ r ∧ Below w0.heap.size w0 w' ∧ Kept w w' (fun k_ => P0_ k_) := by
 have HO0 := Az (show Kd.R (Kd.int .i64) 3 w w0.heap.size (fun k_ => (P0_ k_ ∨ w.heap.size ≤ k_)) u9000_ l0 from Kd.R_mono ho0 (fun k_ hk => (.inl hk))); have HR1 := Az hr1; have HC1 := Az hc1; clear hr1 hc1; have HK := Az (Kept.refl w (fun k_ => P0_ k_)); have HW0 := Az hB.size; have HB := Az hB; clear hB; have H := h; clear h; unfold spec_l6qRing.f at H; have H' := Az H; clear H; go_enter Try.func73, Try.ntmps73; go_wp2
 go_loopg [4] k (fun kq v4 w' => ∃ (x0_1 : List Int) (x4_1 : Int), v4 = .int .i64 x4_1 ∧ Aside0 (spec_l6qRing.l0 kq x0_1 l1 x4_1 = some r) ∧ Aside0 (kq ≤ k) ∧ Aside0 (Kd.R (Kd.int .i64) 3 w' w0.heap.size (fun k_ => (P0_ k_ ∨ w.heap.size ≤ k_)) u9000_ x0_1) ∧ Aside0 (Kept w w' (fun k_ => P0_ k_)) ∧ Aside0 (Below w0.heap.size w0 w'))
 case atStart => exact ⟨(l0), (0), rS, H', ⟨Nat.le_refl _⟩, ⟨rU HO0.out⟩, ⟨by repeat (first | (with_reducible first | exact HK.out | apply Kept.alloc | apply Kept.drewN | apply Kept.drew) | exact HK.out)⟩, ⟨bU0 HB.out⟩⟩
 case round =>
  clear H'; obtain ⟨x0_1, x4_1, rfl, HA, HK1, HO_0, HK, HB⟩ := hrel
  rcases gk with _ | k1
  exact (nN HA.out).elim; have H := HA.out; clear HA; simp only [spec_l6qRing.l0] at H
  replace H := gB H; rcases H with ⟨c3b0, H⟩ | ⟨c3b0, H⟩
  ·
   replace H := gD1 H; obtain ⟨c4b0, H⟩ := H
   by_cases c5 : (l1.length : Int) = 0
   · rw [if_pos c5] at H; exact absurd H (by simp)
   ·
    rw [if_neg c5] at H; have c5b0 := beq_eq_false_iff_ne.mpr c5; have c5b1 := bne_iff_ne.mpr c5
    have c5b2 : ¬ (l1 = []) := fun h_ => c5 (by rw [h_]; rfl)
    obtain ⟨ji6, hji6⟩ : ∃ j_ : Int, (Int.tmod (wrap64 (x4_1 + 1)) (l1.length : Int)) = j_ := ⟨_, rfl⟩; (first | rw [hji6] at H | simp only [hji6] at H); replace H := gD4 H; obtain ⟨c7b0, c8b0, c9b0, c10b0, H⟩ := H; generalize Ny174 : (x0_1.set ((rd l1 x4_1) : Int).toNat (rd l1 (ji6)) : List Int) = y174 at H; replace Ny174 := Ay Ny174; have H' := Az H; clear H
    try go_wp2
    replace HO_0 := Az (Kd.R_drew HO_0.out); replace HK := Az (Kept.drew HK.out); replace HB := Az (below_drew1 HB.out); obtain ⟨ad172, e172, p172, q172, hx172_0⟩ := aI (Kd.C_kept_now HR1.out HK.out) x4_1; have hw172_0 := hx172_0
    cases e172; obtain ⟨ad173, e173, p173, q173, hx173_0⟩ := aI (Kd.C_kept_now HR1.out HK.out) (ji6); have hw173_0 := hx173_0; obtain rfl : ad172 = ad173 := (by injection e173); have p11 : 0 ≤ ((rd l1 x4_1) : Int) := oA; have q11 : ((rd l1 x4_1) : Int) < ((x0_1.length : Int) : Int) := oA; obtain ⟨go11, co11, eo11, gb11, gl11, cl11, HG11⟩ := Kd.R_form HO_0.out (by omega); (first | cases eo11 | (injection eo11 with ea_ en_ ec_; (first | subst ea_ | (injection ea_ with ea_; subst ea_)); subst ec_; clear en_)); have GB11 := Az gb11; have GG11 := Az HG11; clear gb11 gl11 HG11; have HMgo11 := Az (show (P0_ go11 ∨ w.heap.size ≤ go11) from (HO_0.out.1 _ rfl)); obtain ⟨hx11_0, hf11_0⟩ := Kd.R_celln 0 HO_0.out ((rd l1 x4_1) : Int) p11 q11; replace p11 := eq_true p11; replace q11 := eq_true q11; have HP13 := Kd.R_putn HO_0.out ((rd l1 x4_1) : Int) (rd l1 (ji6)); rw [← Ny174.out] at HP13; have HQ13 := Az HP13; clear HP13; refine start_ (n := 15) (S := fun w' => w'.cell? (ad172.add (x4_1).toNat) = some (.int .i64 (rd l1 x4_1)) ∧ w'.cell? (ad172.add ((ji6)).toNat) = some (.int .i64 (rd l1 (ji6)))) (ds := [14]) (bv 15 0) (by kernel_rfl) rfl rfl ⟨(Kd.foot_int (HR1.out _ (by repeat (first | exact HK.out | apply Kept.alloc | apply Kept.drewN | apply Kept.drew | refine Kept.setCell ?_ HMgo11.out _))) x4_1 (of_eq_true p172) (of_eq_true q172)), (Kd.foot_int (HR1.out _ (by repeat (first | exact HK.out | apply Kept.alloc | apply Kept.drewN | apply Kept.drew | refine Kept.setCell ?_ HMgo11.out _))) (ji6) (of_eq_true p173) (of_eq_true q173))⟩ (fun hHeld => ?_); refine with_tabW spec_l6qRing.tab3 spec_l6qRing.bits3 (fun HT_ HW_ => ?_); generalize wr.drew = w12 at HO_0 HK HB GG11 HQ13 hf11_0 hx11_0 hx172_0 hx173_0 hHeld ⊢; refine pure_ (i := 0) (N := some 11) (v := ?_) (a' := ?_) (bv 15 1) rfl rfl (any_of HT_.out (by kernel_rfl)) (fun _ _ _ h => h) (Or.inl ⟨by rfl, ?_⟩) ?_ ?_; rotate_left; (exact yP); rotate_left; (exact aP); refine pure_ (i := 1) (N := some 12) (v := ?_) (a' := ?_) (bv 15 3) rfl rfl (any_of HT_.out (by kernel_rfl)) (fun _ _ _ h => h) (Or.inl ⟨by rfl, ?_⟩) ?_ ?_; rotate_left; (exact yP); rotate_left; (exact aP); refine pure_ (i := 2) (N := some 13) (v := ?_) (a' := ?_) (bv 15 7) rfl rfl (any_of HT_.out (by kernel_rfl)) (fun _ _ _ h => h) (Or.inl ⟨by rfl, ?_⟩) ?_ ?_; rotate_left; (exact yP); rotate_left; (exact aP); refine pure_ (i := 3) (N := some 14) (v := ?_) (a' := ?_) (bv 15 15) rfl rfl (any_of HT_.out (by kernel_rfl)) (fun _ _ _ h => h) (Or.inl ⟨by rfl, ?_⟩) ?_ ?_; rotate_left; (exact yP); rotate_left; (exact aP); refine pure_ (i := 5) (N := some 16) (v := ?_) (a' := ?_) (bv 15 47) rfl rfl (any_of HT_.out (by kernel_rfl)) (fun _ _ _ h => h) (Or.inl ⟨by rfl, ?_⟩) ?_ ?_; rotate_left; (exact yP); rotate_left; (exact aP); refine pure_ (i := 6) (N := some 17) (v := ?_) (a' := ?_) (bv 15 111) rfl rfl (any_of HT_.out (by kernel_rfl)) (fun _ _ _ h => h) (Or.inl ⟨by rfl, ?_⟩) ?_ ?_; rotate_left; (exact yP); rotate_left; (exact aP); refine pure_ (i := 7) (N := some 18) (v := ?_) (a' := ?_) (bv 15 239) rfl rfl (any_of HT_.out (by kernel_rfl)) (fun _ _ _ h => h) (Or.inl ⟨by rfl, ?_⟩) ?_ ?_; rotate_left; (exact yP); rotate_left; (exact aP); refine pure_ (i := 8) (N := some 19) (v := ?_) (a' := ?_) (bv 15 495) rfl rfl (any_of HT_.out (by kernel_rfl)) (fun _ _ _ h => h) (Or.inl ⟨by rfl, ?_⟩) ?_ ?_; rotate_left; (exact yP); rotate_left; (exact aP); refine pure_ (i := 9) (N := some 20) (v := ?_) (a' := ?_) (bv 15 1007) rfl rfl (any_of HT_.out (by kernel_rfl)) (fun _ _ _ h => h) (Or.inl ⟨by rfl, ?_⟩) ?_ ?_; rotate_left; (exact yP); rotate_left; (exact aP); refine pure_ (i := 10) (N := some 21) (v := ?_) (a' := ?_) (bv 15 2031) rfl rfl (any_of HT_.out (by kernel_rfl)) (fun _ _ _ h => h) (Or.inl ⟨by rfl, ?_⟩) ?_ ?_; rotate_left; (exact yP); rotate_left; (exact aP); refine pure_ (i := 11) (N := some 22) (v := ?_) (a' := ?_) (bv 15 4079) rfl rfl (any_of HT_.out (by kernel_rfl)) (fun _ _ _ h => h) (Or.inl ⟨by rfl, ?_⟩) ?_ ?_; rotate_left; (exact yP); rotate_left; (exact aP); refine take_ (i := 4) (N := some 15) (v := ?_) (a' := ?_) (bv 15 4095) rfl rfl (take_ofW HT_.out HW_.out (by kernel_rfl)) (fun _ _ _ h => h) (Or.inl ⟨by rfl, ?_⟩) hHeld ?_ ?_; rotate_left
    ·
     rintro w' ⟨s0, s1⟩; go_simp
     with_reducible rfl
    rotate_left; (exact aP); refine take_ (i := 12) (N := some 23) (v := ?_) (a' := ?_) (bv 15 8191) rfl rfl (take_ofW HT_.out HW_.out (by kernel_rfl)) (fun _ _ _ h => h) (Or.inl ⟨by rfl, ?_⟩) hHeld ?_ ?_; rotate_left
    ·
     rintro w' ⟨s0, s1⟩; go_simp
     with_reducible rfl
    rotate_left; (exact aP); refine pure_ (i := 13) (N := some 24) (v := ?_) (a' := ?_) (bv 15 16383) rfl rfl (any_of HT_.out (by kernel_rfl)) (fun _ _ _ h => h) (Or.inl ⟨by rfl, ?_⟩) ?_ ?_; rotate_left; (exact yP); rotate_left; (exact aP); refine last_ (i := 14) (N := none) (bv 15 32767) rfl rfl (one_of HT_.out (by kernel_rfl)) (by decide) (fun K hK => ?_); refine skip_ (w1 := ?_) (by rfl) rfl ?_ ?_; rotate_left
    · go_simp; rfl
    refine hK.out _ _ ?_; clear hK K; refine done_ (done_of HT_.out (by kernel_rfl)) ?_
    try go_wp2
    go_roundg k1
    case measure => exact mO
    case rel => exact ⟨(y174), (wrap64 (x4_1 + 1)), rS, H', ⟨mO⟩, ⟨rU HQ13.out⟩, ⟨by repeat (first | (with_reducible first | exact HK.out | apply Kept.alloc | apply Kept.drewN | apply Kept.drew | refine Kept.setCell ?_ HMgo11.out _) | exact HK.out)⟩, ⟨bU1 HB.out GB11.out⟩⟩
  ·
   obtain rfl := Option.some.inj H; go_wp2
   first | go_end0 | ((try simp only [Exit.inBlock, Exit.then]); refine bodyPost_ret (results_none rfl _ _ _) rfl ?_)
   exact ⟨rE, rU HO_0.out, bU0 HB.out, by repeat (first | (with_reducible first | exact HK.out | apply Kept.alloc | apply Kept.drewN | apply Kept.drew) | exact HK.out)⟩
end Go.Proofs.Ytlpbalebodlipaa.PK
