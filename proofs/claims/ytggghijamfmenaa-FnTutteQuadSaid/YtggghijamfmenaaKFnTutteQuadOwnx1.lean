/- A part of the proof of FnTutteQuad. There are no conditions. -/
import Derived.Test.YtggghijamfmenaaProg
import Derived.Below
import Derived.Deep.Draws
import Derived.Deep.AppendLies
import Derived.Maps.AppendAt
import Derived.OwnWalk
import Derived.Laws.BytesArg
import Derived.Laws.MakeOwn
import Derived.Laws.OwnMore
import Derived.Tactics
import Derived.Lib.ConvBytes
import Derived.Laws.Slices
import Derived.WalkKit
import Derived.KernelRfl
import Derived.RowKit3
import Derived.Deep.LoopGhost
import Derived.Deep.QuietTactic
import Derived.BigQuiet
import Derived.WideLaws
import Derived.Deep.DeepCutAuto
import Derived.Deep.CutBlock
import Derived.Deep.RegionHeld3
import Derived.Lib.AppendStr
import Derived.ArgAppend
import Derived.Laws.IdiomCopy
import Derived.OrdersHeld
import Derived.Laws.BitsLemmas
import Derived.RowKit
import Derived.Laws.RangeAny
import Derived.Laws.RangeString
import Derived.Shelf.Sort.Plain
import Derived.Shelf.Lay
import Derived.Sort.OwnSortedInts
import Derived.ProofKit
import Derived.OpenShut
import Derived.ShutString
import Derived.ChangeOld
import Derived.SizedLaws
import Derived.Test.YtggghijamfmenaaKTTWWords
import Derived.Test.YtggghijamfmenaaKTTWLast
import Derived.Test.YtggghijamfmenaaKTTWTab
import Derived.Test.YtggghijamfmenaaKTTWQPut
import Derived.Test.YtggghijamfmenaaKTTWApart
import Derived.Test.YtggghijamfmenaaKTTWFoot
import Derived.Test.YtggghijamfmenaaKTTWKept
import Derived.Test.YtggghijamfmenaaKTTWShare
import Derived.Test.YtggghijamfmenaaKTTWN
import Derived.Test.YtggghijamfmenaaKTTWAt
import Derived.Test.YtggghijamfmenaaKTTWRepsOne
import Derived.Test.YtggghijamfmenaaKTTWGuard
import Derived.Test.YtggghijamfmenaaKTTWNEv
import Derived.Test.YtggghijamfmenaaKTTWMore
import Derived.Test.YtggghijamfmenaaKTTWSized
import Derived.Deep.OwnRows
import Derived.Laws.Rows
import Derived.Test.YtggghijamfmenaaRows
namespace Go.Proofs.Ytggghijamfmenaa.PA
open Go.RowKit Go.Proofs.YtggghijamfmenaaW.PrintWords Go.Proofs.YtggghijamfmenaaW.PrintLast Go.Proofs.YtggghijamfmenaaW.PrintMore
theorem oA {p : Prop} [Decidable p] (h : decide p = true := by first | (with_reducible assumption) | assumption) : p := of_decide_eq_true h
theorem rS {p : Prop} (h : p := by first | rfl | (simp; done) | (simp [*]; done)) : p := h
theorem rE {p : Prop} (h : p := by first | rfl | (simp [errW_none, errW_some] <;> rfl) | (simp [*, errW_none, errW_some] <;> rfl)) : p := h
theorem Az {p : Prop} (h : p) : Aside0 p := Aside0.mk h
theorem rU {p q : Prop} (h : q) (f : q → p := by intro h; (with_reducible repeat (first | apply Kd.R_alloc | apply Kd.R_drewN | apply Kd.R_drew)); exact h) : p := f h
theorem sU {p q : Prop} (h : q) (f : q → p := by intro h; (with_reducible repeat (first | apply Kd.S_alloc | apply Kd.S_drewN | apply Kd.S_drew)); exact h) : p := f h
theorem vU {p q : Prop} (h : q) (f : q → p := by intro h; (with_reducible repeat (first | apply Kd.V_alloc | apply Kd.V_drewN | apply Kd.V_drew)); exact h) : p := f h
theorem nU {p q : Prop} (h : q) (f : q → p := by intro h; (with_reducible repeat (first | apply Kd.N_alloc | apply Kd.N_drewN | apply Kd.N_drew)); exact h) : p := f h
theorem qU {p q : Prop} (h : q) (f : q → p := by intro h; (with_reducible repeat (first | apply Kd.Q_alloc | apply Kd.Q_drewN | apply Kd.Q_drew)); exact h) : p := f h
theorem kU {p q : Prop} (h : q) (f : q → p := by intro h; (with_reducible repeat (first | refine blk_drewN ?_ _ | refine blk_drew ?_ | refine blk_alloc ?_ _)); exact h) : p := f h
theorem cU {p q : Prop} (h : q) (f : q → p := by intro h; repeat (first | exact h | (with_reducible refine Kd.C_alloc ?_ _) | (with_reducible refine Kd.C_drewN ?_ _) | (with_reducible refine Kd.C_drew ?_))) : p := f h
theorem bU0 {p q : Prop} (h : q) (f : q → p := by intro h; repeat (first | (with_reducible first | exact h | apply below_alloc | apply pw_below_drewN | apply below_drew1) | exact h)) : p := f h
theorem bU1 {p q a0 : Prop} (h : q) (g0 : a0) (f : q → a0 → p := by intro h g0; repeat (first | (with_reducible first | exact h | apply below_alloc | apply pw_below_drewN | apply below_drew1 | refine below_set ?_ g0) | exact h)) : p := f h g0
theorem bU2 {p q a0 a1 : Prop} (h : q) (g0 : a0) (g1 : a1) (f : q → a0 → a1 → p := by intro h g0 g1; repeat (first | (with_reducible first | exact h | apply below_alloc | apply pw_below_drewN | apply below_drew1 | refine below_set ?_ g0 | refine below_set ?_ g1) | exact h)) : p := f h g0 g1
theorem bU3 {p q a0 a1 a2 : Prop} (h : q) (g0 : a0) (g1 : a1) (g2 : a2) (f : q → a0 → a1 → a2 → p := by intro h g0 g1 g2; repeat (first | (with_reducible first | exact h | apply below_alloc | apply pw_below_drewN | apply below_drew1 | refine below_set ?_ g0 | refine below_set ?_ g1 | refine below_set ?_ g2) | exact h)) : p := f h g0 g1 g2
theorem bU4 {p q a0 a1 a2 a3 : Prop} (h : q) (g0 : a0) (g1 : a1) (g2 : a2) (g3 : a3) (f : q → a0 → a1 → a2 → a3 → p := by intro h g0 g1 g2 g3; repeat (first | (with_reducible first | exact h | apply below_alloc | apply pw_below_drewN | apply below_drew1 | refine below_set ?_ g0 | refine below_set ?_ g1 | refine below_set ?_ g2 | refine below_set ?_ g3) | exact h)) : p := f h g0 g1 g2 g3
theorem bU5 {p q a0 a1 a2 a3 a4 : Prop} (h : q) (g0 : a0) (g1 : a1) (g2 : a2) (g3 : a3) (g4 : a4) (f : q → a0 → a1 → a2 → a3 → a4 → p := by intro h g0 g1 g2 g3 g4; repeat (first | (with_reducible first | exact h | apply below_alloc | apply pw_below_drewN | apply below_drew1 | refine below_set ?_ g0 | refine below_set ?_ g1 | refine below_set ?_ g2 | refine below_set ?_ g3 | refine below_set ?_ g4) | exact h)) : p := f h g0 g1 g2 g3 g4
theorem hR {α : Type} {a b : α} {p q : Prop} (e : a = b) (h : q) (f : a = b → q → p := by intro e H; first | (rw [e]; with_reducible exact H) | (have H2_ := (Option.bind_some _ _).symm.trans H; rw [e]; with_reducible exact H2_) | (have H2_ := (Option.bind_some _ _).symm.trans H; with_reducible exact H2_) | with_reducible exact H | (rw [e]; exact H) | exact H) : p := f e h
theorem z1_0 {p : Prop} (h : p := by repeat (first | (with_reducible first | exact HK.out | apply KeepBut.set_ | apply keep_drewN | apply keep_drew | apply keep_alloc) | exact HK.out)) : p := h
theorem z1_1 {p : Prop} (h : p := by repeat (first | (with_reducible first | exact HI0.out | apply IsS87.alloc | apply IsS87.drewN | apply IsS87.drew | apply IsS87.set_1) | exact HI0.out)) : p := h
theorem z1_2 {p : Prop} (h : p := by exact (below_size (by repeat (first | (with_reducible first | exact HBW.out | apply below_alloc | apply pw_below_drewN | apply below_drew1) | exact HBW.out)))) : p := h
theorem z1_3 {p : Prop} (h : p := by repeat (first | (with_reducible first | exact HB.out | apply below_alloc | apply pw_below_drewN | apply below_drew1 | refine below_set ?_ (IsS87.ge HI0.out)) | exact HB.out)) : p := h
theorem z1_4 {p : Prop} (h : p := by exact (Kd.R_mono (Kd.R_keep (IsS87.apart (show IsS87 w0 _ g s0_0 x1001_1 from by repeat (first | (with_reducible first | exact HI0.out | apply IsS87.alloc | apply IsS87.drewN | apply IsS87.drew | apply IsS87.set_1) | exact HI0.out)) (rU HO_5.out) (by decide)) hk (fun _ h => h.2)) (fun _ h => h.1))) : p := h
theorem z1_5 {p : Prop} (h : p := by exact (bU2 HB.out GW171.out GW172.out)) : p := h
theorem z1_6 {p : Prop} (h : p := by exact (below_step (bU1 HB.out GW121.out) hb)) : p := h
theorem z1_7 {p : Prop} (h : p := by exact (below_step (bU1 HB.out GW157.out) hb)) : p := h
theorem z1_8 {p : Prop} (h : p := by first | exact Kd.N_base ho34 | exact Kd.S_base ho34 | exact Kd.R_base ho34) : p := h
theorem lQ {p : Prop} (h : p := by (try simp only [List.map_toArray, List.map_cons, List.map_nil]); first | done | rfl | (simp only [List.length_drop, List.length_take]; rfl)) : p := h
theorem rB {q b r : Prop} (h : q) (hb : b) (f : q → b → r := by intro h hb; exact Kd.R_below (rU h) hb) : Aside0 r := Aside0.mk (f h hb)
theorem sB {q b r : Prop} (h : q) (hb : b) (f : q → b → r := by intro h hb; exact Kd.S_below (sU h) hb) : Aside0 r := Aside0.mk (f h hb)
theorem vB {q b r : Prop} (h : q) (hb : b) (f : q → b → r := by intro h hb; exact Kd.V_below (vU h) hb) : Aside0 r := Aside0.mk (f h hb)
theorem nB {q b r : Prop} (h : q) (hb : b) (f : q → b → r := by intro h hb; exact Kd.N_below (nU h) hb) : Aside0 r := Aside0.mk (f h hb)
theorem qB {q b r : Prop} (h : q) (hb : b) (f : q → b → r := by intro h hb; exact Kd.Q_below (qU h) hb) : Aside0 r := Aside0.mk (f h hb)
theorem kF1 {p q a0 : Prop} (h : q) (n0 : a0) (f : q → a0 → p := by intro h n0; repeat (first | exact h | refine blk_drewN ?_ _ | refine blk_drew ?_ | refine blk_alloc ?_ _ | refine blk_far ?_ n0 _)) : p := f h n0
theorem rW2 {p q b : Prop} (h : q) (bk : b) (f : q → b → p := by intro h bk; (with_reducible repeat (first | apply Kd.R_alloc | apply Kd.R_drewN | apply Kd.R_drew)); exact (Kd.R_mono (Kd.R_far (Kd.R_far (Kd.R_types h bk (by decide)) (fun _ hk => hk.2) _) (fun _ hk => hk.2) _) (fun _ h_ => h_.1))) : p := f h bk
theorem qW2 {p q b : Prop} (h : q) (bk : b) (f : q → b → p := by intro h bk; (with_reducible repeat (first | apply Kd.Q_alloc | apply Kd.Q_drewN | apply Kd.Q_drew)); exact (Kd.Q_mono (Kd.Q_far (Kd.Q_far (Kd.Q_types h bk (by decide)) (fun _ hk => hk.2) _) (fun _ hk => hk.2) _) (fun _ h_ => h_.1))) : p := f h bk
theorem yP {p : Prop} (h : p := by intro w'; go_simp; with_reducible rfl) : p := h
def bv (n m : Nat) : Array Bool := ((List.range n).map (fun i => m.testBit i)).toArray
theorem kG {q b c r : Prop} (h : q) (hb : b) (hc : c) (f : q → b → c → r := by intro h hb hc; exact blk_grown (kU h) hb hc) : r := f h hb hc
theorem kB {q b r : Prop} (h : q) (hb : b) (f : q → b → r := by intro h hb; exact blk_below (kU h) hb) : Aside0 r := Aside0.mk (f h hb)
theorem aP {p : Prop} (h : p := by simp only [Act.put, List.setIfInBounds_toArray, List.set_cons_zero, List.set_cons_succ, i64_w, i32_w]; rfl) : p := h
theorem cz {w : World} {g : Nat} {t : TypeId} {cs : Array Value} {v : Value} (h : w.heap[g]? = some (.cells cs t (0, 0))) (i : Nat) (e : cs[i]? = some v := by rfl) : w.cell? ⟨g, i, none⟩ = some v := (blk_cell h i).trans e
theorem gD1 {α : Type} {p0 : Prop} {a : Option α} {r : α} {d0 : Decidable p0} (h : (if p0 then a else none) = some r) : @decide p0 d0 = true ∧ a = some r := by split at h; (exact ⟨decide_eq_true (by assumption), h⟩); (cases h)
theorem gD2 {α : Type} {p0 p1 : Prop} {a : Option α} {r : α} {d0 : Decidable p0} {d1 : Decidable p1} (h : (if p0 then (if p1 then a else none) else none) = some r) : @decide p0 d0 = true ∧ @decide p1 d1 = true ∧ a = some r := ⟨(gD1 h).1, gD1 (gD1 h).2⟩
theorem gD3 {α : Type} {p0 p1 p2 : Prop} {a : Option α} {r : α} {d0 : Decidable p0} {d1 : Decidable p1} {d2 : Decidable p2} (h : (if p0 then (if p1 then (if p2 then a else none) else none) else none) = some r) : @decide p0 d0 = true ∧ @decide p1 d1 = true ∧ @decide p2 d2 = true ∧ a = some r := ⟨(gD1 h).1, gD2 (gD1 h).2⟩
theorem gD4 {α : Type} {p0 p1 p2 p3 : Prop} {a : Option α} {r : α} {d0 : Decidable p0} {d1 : Decidable p1} {d2 : Decidable p2} {d3 : Decidable p3} (h : (if p0 then (if p1 then (if p2 then (if p3 then a else none) else none) else none) else none) = some r) : @decide p0 d0 = true ∧ @decide p1 d1 = true ∧ @decide p2 d2 = true ∧ @decide p3 d3 = true ∧ a = some r := ⟨(gD1 h).1, gD3 (gD1 h).2⟩
theorem gD5 {α : Type} {p0 p1 p2 p3 p4 : Prop} {a : Option α} {r : α} {d0 : Decidable p0} {d1 : Decidable p1} {d2 : Decidable p2} {d3 : Decidable p3} {d4 : Decidable p4} (h : (if p0 then (if p1 then (if p2 then (if p3 then (if p4 then a else none) else none) else none) else none) else none) = some r) : @decide p0 d0 = true ∧ @decide p1 d1 = true ∧ @decide p2 d2 = true ∧ @decide p3 d3 = true ∧ @decide p4 d4 = true ∧ a = some r := ⟨(gD1 h).1, gD4 (gD1 h).2⟩
theorem gD6 {α : Type} {p0 p1 p2 p3 p4 p5 : Prop} {a : Option α} {r : α} {d0 : Decidable p0} {d1 : Decidable p1} {d2 : Decidable p2} {d3 : Decidable p3} {d4 : Decidable p4} {d5 : Decidable p5} (h : (if p0 then (if p1 then (if p2 then (if p3 then (if p4 then (if p5 then a else none) else none) else none) else none) else none) else none) = some r) : @decide p0 d0 = true ∧ @decide p1 d1 = true ∧ @decide p2 d2 = true ∧ @decide p3 d3 = true ∧ @decide p4 d4 = true ∧ @decide p5 d5 = true ∧ a = some r := ⟨(gD1 h).1, gD5 (gD1 h).2⟩
theorem gP {α : Type} {p : Prop} {a : Option α} {r : α} {d : Decidable p} (h : (if p then a else none) = some r) : p ∧ a = some r := by split at h; (exact ⟨by assumption, h⟩); (cases h)
theorem gE {α : Type} {p : Prop} {a : Option α} {r : α} {d : Decidable p} (h : (if p then a else none) = some r) : (p = True) ∧ @decide p d = true ∧ a = some r := ⟨eq_true (gP h).1, gD1 h⟩
theorem gB {α : Type} {p : Prop} {a b : Option α} {r : α} {d : Decidable p} (h : (if p then a else b) = some r) : (@decide p d = true ∧ a = some r) ∨ (@decide p d = false ∧ b = some r) := by split at h; (exact .inl ⟨decide_eq_true (by assumption), h⟩); (exact .inr ⟨decide_eq_false (by assumption), h⟩)
theorem gQ {α β : Type} [BEq β] [LawfulBEq β] {x y : β} {a b : Option α} {r : α} {d : Decidable (x = y)} (h : (if x = y then a else b) = some r) : ((x == y) = true ∧ (x != y) = false ∧ a = some r) ∨ ((x == y) = false ∧ (x != y) = true ∧ b = some r) := by split at h; exact .inl ⟨beq_iff_eq.mpr (by assumption), bne_eq_false_iff_eq.mpr (by assumption), h⟩; exact .inr ⟨beq_eq_false_iff_ne.mpr (by assumption), bne_iff_ne.mpr (by assumption), h⟩
theorem bZ (w : World) : Aside0 (Below w.heap.size w w) := Aside0.mk (Below.refl w.heap.size w)
theorem nS {a b : Nat} (h : Aside0 (a ≠ b)) : Aside0 (b ≠ a) := Aside0.mk h.out.symm
theorem hS {p : Prop} (h : p := by first | (go_simp; done) | (go_simp; rfl)) : p := h
def oV (k : Nat) (v : Value) : Prop := some k ≠ v.ownBlock
def oS (k : Nat) (A : Option Addr) (n c : Nat) : Prop := some k ≠ (Value.slice A n c).ownBlock
theorem bd {α β : Type} {x : Option α} {f : α → Option β} {r : β} (h : x.bind f = some r) : ∃ t, Aside0 (x = some t) ∧ f t = some r := by obtain ⟨t, a, b⟩ := Option.bind_eq_some_iff.mp h; exact ⟨t, Aside0.mk a, b⟩
theorem Ay {α : Type} {a b : α} (h : a = b) : Aside0 (b = a) := Aside0.mk h.symm
theorem nN {α : Type} {x : Option α} {r : α} (h : x = some r) (e : x = none := by rfl) : False := by rw [e] at h; cases h
theorem nT : ¬ (false = true) := by decide
theorem aI {kd : IntKind} {w : World} {A : Option Addr} {n : Nat} {xs : List Int} (h : (Kd.int kd).C w A n xs) (i : Int) (h0 : 0 ≤ i := by exact oA) (h1 : i < n := by exact oA) : ∃ ad, A = some ad ∧ ((0 ≤ i) = True) ∧ ((i < n) = True) ∧ w.cell? (ad.add i.toNat) = some (.int kd (rd xs i)) := by obtain ⟨ad, e, hx⟩ := Kd.at_int h i h0 h1; exact ⟨ad, e, eq_true h0, eq_true h1, hx⟩
theorem aB {w : World} {A : Option Addr} {n : Nat} {xs : List Bool} (h : Kd.bool.C w A n xs) (i : Int) (h0 : 0 ≤ i := by exact oA) (h1 : i < n := by exact oA) : ∃ ad, A = some ad ∧ ((0 ≤ i) = True) ∧ ((i < n) = True) ∧ w.cell? (ad.add i.toNat) = some (.bool (rdOf false xs i)) := by obtain ⟨ad, e, hx⟩ := Kd.at_bool h i h0 h1; exact ⟨ad, e, eq_true h0, eq_true h1, hx⟩
theorem aJ {kd : IntKind} {w : World} {ad : Addr} {n : Nat} {xs : List Int} (h : (Kd.int kd).C w (some ad) n xs) (i : Int) (h0 : 0 ≤ i := by exact oA) (h1 : i < n := by exact oA) : ((0 ≤ i) = True) ∧ ((i < n) = True) ∧ w.cell? (ad.add i.toNat) = some (.int kd (rd xs i)) := by obtain ⟨ad, e, hx⟩ := Kd.at_int h i h0 h1; cases e; exact ⟨eq_true h0, eq_true h1, hx⟩
theorem hT {w w' : World} {a : Addr} {v : Value} (hb : Below w.heap.size w w') (h : w.cell? a = some v) : w'.cell? a = some v := (hb.cell (World.block_lt_of_cell? w _ h)).trans h
theorem mO {p : Prop} (h : p := by (try have h1_ := HK1.out); (try have h2_ := HK2.out); (try have h3_ := HK3.out); (try have h4_ := HK4.out); (try have h5_ := HK5.out); (try have h6_ := HK6.out); first | omega | exact Nat.le_refl _) : p := h
theorem gW {w W : World} {g : Nat} (hg : g = W.heap.size) (h : Below w.heap.size w W) : Aside0 (w.heap.size ≤ g) := Aside0.mk (by rw [hg]; exact below_size h)
theorem nL {W : World} {g g' : Nat} {o : Obj} (hg : g' = W.heap.size) (h : W.heap[g]? = some o) : Aside0 (g ≠ g') := Aside0.mk (by rw [hg]; exact Nat.ne_of_lt (blk_lt h))
theorem nP {a b : Nat} (h : Aside0 (a ≠ b)) : a ≠ b ∧ b ≠ a := ⟨h.out, h.out.symm⟩
theorem bc2 {w : World} {g : Nat} {t : TypeId} {a0 a1 : Value} (h : w.heap[g]? = some (.cells #[a0, a1] t (0, 0))) : w.cell? ⟨g, 0, none⟩ = some a0 ∧ w.cell? ⟨g, 1, none⟩ = some a1 ∧ w.frozen? ⟨g, 0, none⟩ = false ∧ w.frozen? ⟨g, 1, none⟩ = false := ⟨(blk_cell h 0).trans rfl, (blk_cell h 1).trans rfl, blk_frozen h 0, blk_frozen h 1⟩
theorem gK {P : Program} {ops : Array Oper} {o : Oper} {a : Act} {Q : Exit → Act → World → Prop} {rest : List Oper} {W : World} (f : FuncId) {ops_ : Array Operand} {ts : Array TypeId} (_ho : o.op = .call { callee := .value (.func f), args := ops_, argTypes := ts }) (h : wpList P ops Q (o :: rest) a W) : wpList P ops Q (o :: rest) a W := h
theorem gd {P : Program} {ops : Array Oper} {o : Oper} {a : Act} {Q : Exit → Act → World → Prop} {rest : List Oper} {W : World} (N : Tmp) (_hN : o.dst = some N) (h : wpList P ops Q (o :: rest) a W) : wpList P ops Q (o :: rest) a W := h
theorem gs {P : Program} {ops : Array Oper} {o : Oper} {a : Act} {Q : Exit → Act → World → Prop} {rest : List Oper} {W : World} (t : TypeId) (p : Tmp) {v : Operand} (_ho : o.op = .store t (.tmp p) v) (h : wpList P ops Q (o :: rest) a W) : wpList P ops Q (o :: rest) a W := h
theorem gC {P : Program} {ops : Array Oper} {o : Oper} {a : Act} {Q : Exit → Act → World → Prop} {rest : List Oper} {W : World} (N : Option Tmp) {f : FuncId} {fn : Func} {ops_ : Array Operand} {ts : Array TypeId} (hf : P.funcs[f]? = some fn) (args : Array Value) (h : Calls P f args W fun e w' => ∃ v, e = .returned v ∧ wpList P ops Q rest (a.put N v) w') (hd : o.dst = N := by rfl) (hg : o.guard = none := by rfl) (hname : (fn.name == "runtime.NumGoroutine") = false := by kernel_rfl) (hb : fn.body.isSome = true := by rfl) (hop : o.op = .call { callee := .value (.func f), args := ops_, argTypes := ts } := by rfl) (hargs : ops_.map a.eval = args := by exact lQ) : wpList P ops Q (o :: rest) a W := goesL_ N hd hg hf hname hb args hop hargs h
theorem bE {P : Program} {ops : Array Oper} {o : Oper} {a : Act} {Q : Exit → Act → World → Prop} {rest : List Oper} {W : World} (N : Tmp) (cs : Array Value) (t : TypeId) (h : ∀ g, g = W.heap.size → ∀ w1, w1.heap[g]? = some (.cells cs t (0, 0)) → Below W.heap.size W w1 → wpList P ops Q rest (a.put o.dst (.pointer (some ⟨g, 0, none⟩))) w1) (hgd : o.guard = none := by rfl) (hd : o.dst = some N := by rfl) (hrun : (execOp a.eval o).run P W = .ok (.value (.pointer (some ⟨W.heap.size, 0, none⟩))) (W.alloc (.cells cs t (0, 0))) := by first | (go_simp; done) | (go_simp; rfl)) : wpList P ops Q (o :: rest) a W := box_event hgd hd hrun h
theorem sE {P : Program} {ops : Array Oper} {o : Oper} {a : Act} {Q : Exit → Act → World → Prop} {rest : List Oper} {W : World} (t : TypeId) (p : Tmp) {v : Operand} (w1 : World) (h : ∀ w', w' = w1 → wpList P ops Q rest a w') (ho : o.op = .store t (.tmp p) v := by rfl) (hgd : o.guard = none := by rfl) (hN : o.dst = none := by rfl) (hrun : (execOp a.eval o).run P W = .ok .skip w1 := by first | (go_simp; done) | (go_simp; rfl)) : wpList P ops Q (o :: rest) a W := store_event hgd ho hN hrun h
theorem rM {p q : Prop} (h : q) (f : q → p := by intro h; (with_reducible repeat (first | apply Kd.R_alloc | apply Kd.R_drewN | apply Kd.R_drew)); exact Kd.R_mono h (fun _ hk => by first | trivial | exact hk.1 | (simp only [hk, and_self, ne_eq, not_false_eq_true, true_and, and_true, true_or, or_true]; done) | ((try simp only [oS, oV] at hk ⊢); simp only [hk, and_self, ne_eq, not_false_eq_true, true_and, and_true, true_or, or_true]))) : p := f h
theorem sM {p q : Prop} (h : q) (f : q → p := by intro h; (with_reducible repeat (first | apply Kd.S_alloc | apply Kd.S_drewN | apply Kd.S_drew)); exact Kd.S_mono h (fun _ hk => by first | trivial | exact hk.1 | (simp only [hk, and_self, ne_eq, not_false_eq_true, true_and, and_true, true_or, or_true]; done) | ((try simp only [oS, oV] at hk ⊢); simp only [hk, and_self, ne_eq, not_false_eq_true, true_and, and_true, true_or, or_true]))) : p := f h
theorem qM {p q : Prop} (h : q) (f : q → p := by intro h; (with_reducible repeat (first | apply Kd.Q_alloc | apply Kd.Q_drewN | apply Kd.Q_drew)); exact Kd.Q_mono h (fun _ hk => by first | trivial | exact hk.1 | (simp only [hk, and_self, ne_eq, not_false_eq_true, true_and, and_true, true_or, or_true]; done) | ((try simp only [oS, oV] at hk ⊢); simp only [hk, and_self, ne_eq, not_false_eq_true, true_and, and_true, true_or, or_true]))) : p := f h
attribute [local go_sem] max2_int min2_int max_two min_two max_three min_three max_four min_four   -- for this text's walks alone
set_option linter.unusedVariables false
set_option linter.unusedSimpArgs false
def errW : Option Int → Value
 | none => .nilIface
 | some c => .iface 0 (.int .i64 c)
theorem errW_none : errW none = .nilIface := rfl
theorem errW_some (c : Int) : errW (some c) = .iface 0 (.int .i64 c) := rfl
theorem info3 : (Try.prog.info? 3).map (fun i => (i.zero, i.size, i.bytes)) = some (some (.int .i64 0), 1, 8) := by kernel_rfl
theorem info4 : (Try.prog.info? 4).map (fun i => (i.zero, i.size, i.bytes)) = some (some (.bool false), 1, 1) := by kernel_rfl
theorem info5 : (Try.prog.info? 5).map (fun i => (i.zero, i.size, i.bytes)) = some (some (.int .u8 0), 1, 1) := by kernel_rfl
theorem info23 : (Try.prog.info? 23).map (fun i => (i.zero, i.size, i.bytes)) = some (some (.slice none 0 0), 1, 24) := by kernel_rfl
def rd_L1 (xs : List (List Int)) (i : Int) : (List Int) := xs.getD i.toNat ([] : List Int)
theorem at_L1 {w : World} {A : Option Addr} {n : Nat} {xs : List (List Int)} (h : Kd.C (Kd.slice 3 (Kd.int .i64)) w A n xs) (i : Int) (h0 : 0 ≤ i) (h1 : i < n) : ∃ ad A0 c0, A = some ad ∧ w.cell? (ad.add i.toNat) = some (.slice A0 (rd_L1 xs i).length c0) ∧ (rd_L1 xs i).length ≤ c0 ∧ (Kd.int .i64).C w A0 (rd_L1 xs i).length (rd_L1 xs i) := by
 obtain ⟨ad, c, e, _, hK, hc0⟩ := Kd.C_get h ([] : List Int) i h0 h1; have hc : ∀ j u, c[j]? = some u → w.cell? (ad.add (i.toNat * 1 + j)) = some u := hc0; obtain ⟨A0, c0, rfl, l0, g0⟩ := hK; exact ⟨ad, A0, c0, e, by have hq := hc 0 _ rfl; rwa [Nat.mul_one, Nat.add_zero] at hq, l0, g0⟩
end Go.Proofs.Ytggghijamfmenaa.PA

namespace Go.Proofs.Ytggghijamfmenaa.PA
open Go.RowKit Go.Proofs.YtggghijamfmenaaW.PrintWords Go.Proofs.YtggghijamfmenaaW.PrintLast Go.Proofs.YtggghijamfmenaaW.PrintMore
attribute [local go_sem] max2_int min2_int max_two min_two max_three min_three max_four min_four   -- for this text's walks alone
set_option linter.unusedVariables false
set_option linter.unusedSimpArgs false
def impl_PermValid.l0 : Nat → List Int → List Bool → Int → Option Bool
 | 0, _, _, _ => none
 | k + 1, l, s, i => if i < (l.length : Int) then (if 0 ≤ i then (if rd l i < 0 then (some false) else (if rd l i ≥ (l.length : Int) then (some false) else (if s.getD (rd l i).toNat false = true then (some false) else (impl_PermValid.l0 k l (s.set (rd l i).toNat true) (wrap64 (i + 1)))))) else none) else (some true)
def impl_PermValid.f (k : Nat) (l0 : List Int) : Option Bool := if (l0.length : Int) < 1 then (some false) else (if (l0.length : Int) > 12 then (some false) else (impl_PermValid.l0 k l0 (List.replicate 12 false) 0))
set_option maxHeartbeats 8000000 in
set_option maxRecDepth 100000 in
theorem impl_PermValid.calls (k : Nat) (A0 : Option Addr) (c0 : Nat) (l0 : List Int) (r : Bool) (w : World) (hr0 : Kd.C (Kd.int .i64) w A0 l0.length l0) (hc0 : l0.length ≤ c0) (h : impl_PermValid.f k l0 = some r) :
  Calls Try.prog 85 #[.slice A0 l0.length c0] w fun e w' => e = .returned (.bool r) ∧ Below w.heap.size w w' := by
 have HR0 := Az hr0; have HC0 := Az hc0; clear hr0 hc0; have HB := bZ w; have H := h; clear h; unfold impl_PermValid.f at H
 replace H := gB H; rcases H with ⟨c3b0, H⟩ | ⟨c3b0, H⟩
 · obtain rfl := Option.some.inj H; go_enter Try.func85, Try.ntmps85; go_wp2; go_ret; exact ⟨rfl, below_alloc HB.out _⟩
 ·
  by_cases c4 : (l0.length : Int) > 12
  · rw [if_pos c4] at H; have c4b0 := decide_eq_true c4; clear c4; obtain rfl := Option.some.inj H; go_enter Try.func85, Try.ntmps85; go_wp2; go_ret; exact ⟨rfl, below_alloc HB.out _⟩
  ·
   rw [if_neg c4] at H; have c4b0 := decide_eq_false c4
   have c4p : (l0.length : Int) ≤ 12 := by omega
   clear c4; have H' := Az H; clear H; go_enter Try.func85, Try.ntmps85; go_wp2
   go_loopg [17] k (fun kq v17 w' => ∃ (s : List Bool) (i : Int), v17 = .int .i64 i ∧ Aside0 (impl_PermValid.l0 kq l0 s i = some r) ∧ Aside0 (kq ≤ k) ∧ Aside0 (s.length = 12) ∧ Aside0 (w'.heap[w.heap.size]? = some (.cells (s.map Value.bool).toArray 95 (0, 0))) ∧ Aside0 (Below w.heap.size w w'))
   case atStart => exact ⟨List.replicate 12 false, 0, rfl, H', ⟨Nat.le_refl _⟩, ⟨rfl⟩, ⟨by simpa using heap_alloc_new w _⟩, ⟨below_alloc HB.out _⟩⟩
   case round =>
    clear H'; obtain ⟨s, i, rfl, HA, HK1, HL, BK, HB⟩ := hrel
    rcases gk with _ | k1
    exact (nN HA.out).elim; have H := HA.out; clear HA; simp only [impl_PermValid.l0] at H
    by_cases c5 : i < (l0.length : Int)
    ·
     rw [if_pos c5] at H; have c5b0 := decide_eq_true c5; replace H := gP H; obtain ⟨c6, H⟩ := H; have c6b0 := decide_eq_true c6; obtain ⟨ad, e, hx⟩ := Kd.at_int HR0.out i c6 c5
     cases e
     replace hx := (HB.out.cell (World.block_lt_of_cell? w _ hx)).trans hx; replace c6 := eq_true c6; replace c5 := eq_true c5
     by_cases c7 : rd l0 i < 0
     · rw [if_pos c7] at H; have c7b0 := decide_eq_true c7; clear c7; obtain rfl := Option.some.inj H; go_wp2; go_ret; exact ⟨rfl, HB.out⟩
     ·
      rw [if_neg c7] at H; have c7b0 := decide_eq_false c7
      have c7p : 0 ≤ rd l0 i := by omega
      clear c7
      by_cases c8 : rd l0 i ≥ (l0.length : Int)
      · rw [if_pos c8] at H; have c8b0 := decide_eq_true c8; clear c8; obtain rfl := Option.some.inj H; go_wp2; go_ret; exact ⟨rfl, HB.out⟩
      ·
       rw [if_neg c8] at H; have c8b0 := decide_eq_false c8
       have c8p : rd l0 i < 12 := by omega
       clear c8; have hcs : wr.cell? ⟨w.heap.size, (rd l0 i).toNat, none⟩ = some (.bool (s.getD (rd l0 i).toNat false)) := (blk_cell BK.out _).trans (by have hl := HL.out; simp [List.getD_eq_getElem?_getD]; rw [List.getElem?_eq_getElem (by omega)]; rfl); have hfs := blk_frozen BK.out (rd l0 i).toNat; generalize hb : s.getD (rd l0 i).toNat false = b at H hcs
       cases b with
       | true =>
        rw [if_pos rfl] at H; obtain rfl := Option.some.inj H; clear hb; go_wp2; go_ret; exact ⟨rfl, HB.out⟩
       | false =>
        rw [if_neg (by decide)] at H; have H' := Az H; clear H hb; go_wp2; go_roundg k1
        case measure => exact mO
        case rel => exact ⟨s.set (rd l0 i).toNat true, wrap64 (i + 1), rS, H', ⟨mO⟩, ⟨by rw [List.length_set]; exact HL.out⟩, ⟨by simpa using blk_set BK.out (rd l0 i).toNat (.bool true)⟩, ⟨below_set HB.out (Nat.le_refl _)⟩⟩
    · rw [if_neg c5] at H; have c5b0 := decide_eq_false c5; clear c5; obtain rfl := Option.some.inj H; go_wp2; go_ret; exact ⟨rfl, HB.out⟩
def slices_Max_int_int.l0 : Nat → List Int → Int → Int → Option (Int)
 | 0, _, _, _ => none
 | k + 1, x0, x3, x4 => if x4 < (x0.length : Int) then (if 0 ≤ x4 then (slices_Max_int_int.l0 k x0 (mx x3 (rd x0 x4)) (wrap64 (x4 + 1))) else (none)) else (some x3)
def slices_Max_int_int.f (k : Nat) (l0 : List Int) : Option (Int) := if (l0.length : Int) < 1 then (none) else (if 0 < (l0.length : Int) then (slices_Max_int_int.l0 k l0 (rd l0 0) 1) else (none))
set_option maxHeartbeats 8000000 in
set_option maxRecDepth 100000 in
theorem slices_Max_int_int.calls (k : Nat) (A0 : Option Addr) (c0 : Nat) (l0 : List Int) (r : Int) (w : World) (hr0 : Kd.C (Kd.int .i64) w A0 l0.length l0) (hc0 : l0.length ≤ c0) (h : slices_Max_int_int.f k l0 = some r) :
  Calls Try.prog 98 #[.slice A0 l0.length c0] w fun e w' => e = .returned (.int .i64 r) ∧ Below w.heap.size w w' := by
 have HR0 := Az hr0; have HC0 := Az hc0; clear hr0 hc0; have HB := bZ w; have H := h; clear h; unfold slices_Max_int_int.f at H
 by_cases c2 : (l0.length : Int) < 1
 · rw [if_pos c2] at H; exact absurd H (by simp)
 ·
  rw [if_neg c2] at H; have c2b0 := decide_eq_false c2; have c2b1 : decide (l0.length < 1) = false := decide_eq_false (by omega); clear c2; replace H := gP H; obtain ⟨c3, H⟩ := H; have c3b0 := decide_eq_true c3; have c3b1 : decide (0 < l0.length) = true := decide_eq_true (by omega); clear c3; have H' := Az H; clear H; have p101 : 0 ≤ (0 : Int) := (by omega); have q101 : 0 < (l0.length : Int) := oA; obtain ⟨ad101, e101, hx101_0⟩ := Kd.at_int HR0.out 0 p101 q101
  cases e101
  have qi101 : (0 < l0.length) = True := eq_true (by omega); rw [show ((0 : Int)).toNat = 0 from rfl] at hx101_0; rw [Addr.add_zero'] at hx101_0; replace p101 := eq_true p101; replace q101 := eq_true q101; go_enter Try.func98, Try.ntmps98; go_wp2
  go_loopg [3, 4] k (fun kq v3 v4 w' => ∃ (x3_1 : Int) (x4_1 : Int), v3 = .int .i64 x3_1 ∧ v4 = .int .i64 x4_1 ∧ Aside0 (slices_Max_int_int.l0 kq l0 x3_1 x4_1 = some r) ∧ Aside0 (kq ≤ k) ∧ Aside0 (Below w.heap.size w w'))
  case atStart => exact ⟨(rd l0 0), (1), rS, rS, H', ⟨Nat.le_refl _⟩, ⟨bU0 HB.out⟩⟩
  case round =>
   clear H'; obtain ⟨x3_1, x4_1, rfl, rfl, HA, HK1, HB⟩ := hrel
   rcases gk with _ | k1
   exact (nN HA.out).elim; have H := HA.out; clear HA; simp only [slices_Max_int_int.l0] at H
   replace H := gB H; rcases H with ⟨c4b0, H⟩ | ⟨c4b0, H⟩
   ·
    replace H := gD1 H; obtain ⟨c5b0, H⟩ := H; obtain ⟨ji6, hji6⟩ : ∃ j_ : Int, (mx x3_1 (rd l0 x4_1)) = j_ := ⟨_, rfl⟩; (first | rw [hji6] at H | simp only [hji6] at H); have hji6_ : (if x3_1 < (rd l0 x4_1) then (rd l0 x4_1) else x3_1) = ji6 := hji6; have H' := Az H; clear H; obtain ⟨_, _, hx102_0⟩ := aJ HR0.out x4_1; replace hx102_0 := hT HB.out hx102_0; go_wp2; go_roundg k1
    case measure => exact mO
    case rel => exact ⟨(ji6), (wrap64 (x4_1 + 1)), (by first | rfl | (simp; done) | (simp only [← hji6] <;> (first | rfl | simp)) | (simp [*]; done)), rS, H', ⟨mO⟩, ⟨bU0 HB.out⟩⟩
   · obtain rfl := Option.some.inj H; go_wp2; go_ret; exact ⟨rE, bU0 HB.out⟩
def impl_still.l0 : Nat → List Int → Int → Int → Option (List Int)
 | 0, _, _, _ => none
 | k + 1, x3, x8, x9 => if x9 < x8 then (if 0 ≤ x9 then (if x9 < (x3.length : Int) then (impl_still.l0 k (x3.set (x9 : Int).toNat x9) x8 (wrap64 (x9 + 1))) else (none)) else (none)) else (some x3)
def impl_still.f (k : Nat) (a0 : Int) : Option (List Int) := if 0 ≤ a0 then (if (a0 : Int).toNat ≤ 35184372088832 then ((some (List.replicate (a0 : Int).toNat 0 : List Int)).bind fun y103 => (impl_still.l0 k y103 (y103.length : Int) 0)) else (none)) else (none)
set_option maxHeartbeats 8000000 in
set_option maxRecDepth 100000 in
theorem impl_still.calls (k : Nat) (a0 : Int) (r : List Int) (w : World) (h : impl_still.f k a0 = some r) :
  Calls Try.prog 104 #[.int .i64 a0] w fun e w' => ∃ v0_ : Value, e = .returned (v0_) ∧ Kd.R (Kd.int .i64) 3 w' w.heap.size (fun _ => True) v0_ r ∧ Below w.heap.size w w' := by
 have HB := bZ w; have H := h; clear h; unfold impl_still.f at H; replace H := gE H; obtain ⟨c2b0, c2b1, H⟩ := H; replace H := gE H; obtain ⟨c3b0, c3b1, H⟩ := H; generalize Ny103 : (List.replicate (a0 : Int).toNat 0 : List Int) = y103 at H; simp only [Option.bind_some] at H; replace Ny103 := Ay Ny103; have H' := Az H; clear H; go_enter Try.func104, Try.ntmps104
 go_wp2_with (first | ((with_reducible refine gd 6 rfl ?_); refine Kd.R_make (Kd.int .i64) _ 3 rfl (N := 6) rfl 23 _ _ rfl a0 rfl rfl Try.underlying23 (.int .i64 0) 8 info3 rfl (by decide) (by omega) 0 (ok := fun _ => True) (okp := fun _ => True) rfl (fun _ hk => hk) trivial (oA) (Nat.le_trans (Nat.mul_le_mul_right _ (oA : a0.toNat ≤ 35184372088832)) (by omega)) (Below.refl _ _) (Nat.le_refl _) ?_; intro v104 w4 ho5 hb hg_ hnew_; clear hg_ hnew_; (first | rw [← Ny103.out] at ho5 | (simp only [Int.reduceToNat] at ho5; rw [← Ny103.out] at ho5)); have HO105 := Az (Kd.R_lower ho5 (below_size (bU0 HB.out))); replace HB := Az (below_step (bU0 HB.out) hb); clear hb ho5; obtain ⟨Ao6, co6, eo6⟩ := Kd.R_slice HO105.out; subst eo6))
 go_loopg [9] k (fun kq v9 w' => ∃ (x3_1 : List Int) (x9_1 : Int), v9 = .int .i64 x9_1 ∧ Aside0 (impl_still.l0 kq x3_1 (y103.length : Int) x9_1 = some r) ∧ Aside0 (kq ≤ k) ∧ Aside0 (Kd.R (Kd.int .i64) 3 w' w.heap.size (fun _ => True) (.slice Ao6 y103.length co6) x3_1) ∧ Aside0 (Below w.heap.size w w'))
 case atStart => exact ⟨(y103), (0), rS, H', ⟨Nat.le_refl _⟩, ⟨rU HO105.out⟩, ⟨bU0 HB.out⟩⟩
 case round =>
  clear H'; obtain ⟨x3_1, x9_1, rfl, HA, HK1, HO_3, HB⟩ := hrel; have hl3_1 := (Kd.R_reads' HO_3.out).1; rw [hl3_1] at HO_3; simp only [hl3_1]
  rcases gk with _ | k1
  exact (nN HA.out).elim; have H := HA.out; clear HA; simp only [impl_still.l0] at H
  by_cases c7 : x9_1 < (y103.length : Int)
  ·
   rw [if_pos c7] at H; have c7b0 := decide_eq_true c7; (have c7b0hl3_1 := c7b0; rw [hl3_1] at c7b0hl3_1); clear c7; replace H := gD1 H; obtain ⟨c8b0, H⟩ := H; replace H := gP H; obtain ⟨c9, H⟩ := H; have c9b0 := decide_eq_true c9; clear c9; generalize Ny106 : (x3_1.set (x9_1 : Int).toNat x9_1 : List Int) = y106 at H; replace Ny106 := Ay Ny106; have H' := Az H; clear H; have p10 : 0 ≤ (x9_1 : Int) := oA; have q10 : (x9_1 : Int) < ((x3_1.length : Int) : Int) := oA; obtain ⟨go10, co10, eo10, gb10, gl10, cl10, HG10⟩ := Kd.R_form HO_3.out (by omega); (first | cases eo10 | (injection eo10 with ea_ en_ ec_; (first | subst ea_ | (injection ea_ with ea_; subst ea_)); subst ec_; clear en_)); have GB10 := Az gb10; have GG10 := Az HG10; clear gb10 gl10 HG10; obtain ⟨hx10_0, hf10_0⟩ := Kd.R_celln 0 HO_3.out (x9_1 : Int) p10 q10; replace p10 := eq_true p10; replace q10 := eq_true q10; obtain ⟨hy11_, hz11_⟩ := Kd.R_celln 0 HO_3.out (x9_1 : Int) (oA) (oA); have HP11 := Kd.R_putg HO_3.out (x9_1 : Int) x9_1
   go_wp2_with (first | ((with_reducible refine gs 3 15 rfl ?_); refine sE 3 15 (wr.setCell ⟨go10, (x9_1 : Int).toNat, none⟩ (.int .i64 x9_1)) ?_; intro w12 hw; have hg : wr.grownBy w12 (some go10) := (by rw [hw]; exact HP11.2); have hp_ : Kd.R (Kd.int .i64) 3 w12 w.heap.size (fun _ => True) (.slice (some ⟨go10, 0, none⟩) x3_1.length co6) y106 := (by rw [hw, Ny106.out]; exact HP11.1); clear HP11; replace HO_3 := Az (hp_); replace HB := Az ((by rw [hw]; exact below_set (HB.out) GB10.out : Below w.heap.size w w12)); clear hg hw hp_))
   simp only [← hl3_1]; go_roundg k1
   case measure => exact mO
   case rel => exact ⟨(y106), (wrap64 (x9_1 + 1)), rS, H', ⟨mO⟩, ⟨by simp only [hl3_1]; (with_reducible repeat (first | apply Kd.R_alloc | apply Kd.R_drewN | apply Kd.R_drew)); exact HO_3.out⟩, ⟨bU0 HB.out⟩⟩
  · rw [if_neg c7] at H; have c7b0 := decide_eq_false c7; (have c7b0hl3_1 := c7b0; rw [hl3_1] at c7b0hl3_1); clear c7; obtain rfl := Option.some.inj H; go_wp2; go_ret; exact ⟨_, rE, rU HO_3.out, bU0 HB.out⟩
mutual
def impl_orbits.l0 : Nat → List (List Int) → List Int → Bool → Option (List Int)
 | 0, _, _, _ => none
 | k + 1, x0, x3, x4 => if x4 = true then (impl_orbits.l1 k x0 x3 false x0 (x0.length : Int) 0) else (some x3)
def impl_orbits.l1 : Nat → List (List Int) → List Int → Bool → List (List Int) → Int → Int → Option (List Int)
 | 0, _, _, _, _, _, _ => none
 | k + 1, x0, x3, x4, x16, x17, x18 => if x18 < x17 then (if 0 ≤ x18 then (if x18 < (x16.length : Int) then (impl_orbits.l2 k x0 x3 x4 x16 x17 x18 (rd_L1 x16 x18) ((rd_L1 x16 x18).length : Int) 0) else (none)) else (none)) else (impl_orbits.l0 k x0 x3 x4)
def impl_orbits.l2 : Nat → List (List Int) → List Int → Bool → List (List Int) → Int → Int → List Int → Int → Int → Option (List Int)
 | 0, _, _, _, _, _, _, _, _, _ => none
 | k + 1, x0, x3, x4, x16, x17, x18, x22, x23, x24 => if x24 < x23 then (if 0 ≤ x24 then (if x24 < (x22.length : Int) then (if x24 < (x3.length : Int) then (if 0 ≤ (rd x22 x24) then (if (rd x22 x24) < (x3.length : Int) then (if (rd x3 x24) = (mn (rd x3 x24) (rd x3 (rd x22 x24))) then (if (rd x3 (rd x22 x24)) = (mn (rd x3 x24) (rd x3 (rd x22 x24))) then (impl_orbits.l2 k x0 x3 x4 x16 x17 x18 x22 x23 (wrap64 (x24 + 1))) else (impl_orbits.l2 k x0 ((x3.set (x24 : Int).toNat (mn (rd x3 x24) (rd x3 (rd x22 x24)))).set ((rd x22 x24) : Int).toNat (mn (rd x3 x24) (rd x3 (rd x22 x24)))) true x16 x17 x18 x22 x23 (wrap64 (x24 + 1)))) else (impl_orbits.l2 k x0 ((x3.set (x24 : Int).toNat (mn (rd x3 x24) (rd x3 (rd x22 x24)))).set ((rd x22 x24) : Int).toNat (mn (rd x3 x24) (rd x3 (rd x22 x24)))) true x16 x17 x18 x22 x23 (wrap64 (x24 + 1)))) else (none)) else (none)) else (none)) else (none)) else (none)) else (impl_orbits.l1 k x0 x3 x4 x16 x17 (wrap64 (x18 + 1)))
end
def impl_orbits.f (k : Nat) (l0 : List (List Int)) : Option (List Int) := if 0 < (l0.length : Int) then ((impl_still.f k ((rd_L1 l0 0).length : Int)).bind fun t108 => (impl_orbits.l0 k l0 t108 true)) else (none)
set_option maxHeartbeats 8000000 in
set_option maxRecDepth 100000 in
theorem impl_orbits.calls (k : Nat) (A0 : Option Addr) (c0 : Nat) (l0 : List (List Int)) (r : List Int) (w : World) (hr0 : Kd.C (Kd.slice 3 (Kd.int .i64)) w A0 l0.length l0) (hc0 : l0.length ≤ c0) (h : impl_orbits.f k l0 = some r) :
  Calls Try.prog 99 #[.slice A0 l0.length c0] w fun e w' => ∃ v0_ : Value, e = .returned (v0_) ∧ Kd.R (Kd.int .i64) 3 w' w.heap.size (fun _ => True) v0_ r ∧ Below w.heap.size w w' := by
 have HR0 := Az hr0; have HC0 := Az hc0; clear hr0 hc0; have HB := bZ w; have H := h; clear h; unfold impl_orbits.f at H; replace H := gP H; obtain ⟨c2, H⟩ := H; have c2b0 := decide_eq_true c2; have c2b1 : decide (0 < l0.length) = true := decide_eq_true (by omega); clear c2; replace H := bd H; obtain ⟨t108, A3, H⟩ := H; have H' := Az H; clear H; have p107 : 0 ≤ (0 : Int) := (by omega); have q107 : 0 < (l0.length : Int) := oA; obtain ⟨ad107, A107_0, c107_0, e107, hx107_0, hl107_0, hi107_0⟩ := at_L1 HR0.out 0 p107 q107
 cases e107
 have qi107 : (0 < l0.length) = True := eq_true (by omega); rw [show ((0 : Int)).toNat = 0 from rfl] at hx107_0; rw [Addr.add_zero'] at hx107_0; have HR107_0 := Az hi107_0; have HC107_0 := Az hl107_0; clear hi107_0 hl107_0; replace p107 := eq_true p107; replace q107 := eq_true q107; go_enter Try.func99, Try.ntmps99
 go_wp2_with (first | (go_at_call 104; (with_reducible refine (impl_still.calls k ((rd_L1 l0 0).length : Int) t108 _ A3.out).mono ?_); rintro e w4 ⟨v109, rfl, ho0, hb⟩; have HO110 := Az (Kd.R_lower ho0 (below_size (bU0 HB.out))); replace HB := Az (below_step (bU0 HB.out) hb); clear hb ho0))
 repeat (go_quiet (fail); try go_wp2_with (fail))
 go_loopg [4] k (fun kq v4 w' => ∃ (x3_1 : List Int) (x4_1 : Bool), v4 = .bool x4_1 ∧ Aside0 (impl_orbits.l0 kq l0 x3_1 x4_1 = some r) ∧ Aside0 (kq ≤ k) ∧ Aside0 (Kd.R (Kd.int .i64) 3 w' w.heap.size (fun _ => True) v109 x3_1) ∧ Aside0 (Below w.heap.size w w'))
 case atStart => exact ⟨(t108), (true), rS, H', ⟨Nat.le_refl _⟩, ⟨rU HO110.out⟩, ⟨bU0 HB.out⟩⟩
 case round =>
  clear H'; obtain ⟨x3_1, x4_1, rfl, HA, HK1, HO_3, HB⟩ := hrel
  rcases gk with _ | k1
  exact (nN HA.out).elim; have H := HA.out; clear HA; simp only [impl_orbits.l0] at H
  by_cases c5 : x4_1 = true
  ·
   subst c5; rw [if_pos rfl] at H; have H' := Az H; clear H; go_wp2
   repeat (go_quiet (fail); try go_wp2)
   go_loopg [4, 18] k1 (fun kq v4 v18 w' => ∃ (x3_2 : List Int) (x4_2 : Bool) (x18_2 : Int), v4 = .bool x4_2 ∧ v18 = .int .i64 x18_2 ∧ Aside0 (impl_orbits.l1 kq l0 x3_2 x4_2 l0 (l0.length : Int) x18_2 = some r) ∧ Aside0 (kq ≤ k1) ∧ Aside0 (Kd.R (Kd.int .i64) 3 w' w.heap.size (fun _ => True) v109 x3_2) ∧ Aside0 (Below w.heap.size w w'))
   case atStart => exact ⟨(x3_1), (false), (0), rS, rS, H', ⟨Nat.le_refl _⟩, ⟨rU HO_3.out⟩, ⟨bU0 HB.out⟩⟩
   case round =>
    clear H'; obtain ⟨x3_2, x4_2, x18_2, rfl, rfl, HA, HK2, HO_3, HB⟩ := hrel
    rcases gk with _ | k2
    exact (nN HA.out).elim; have H := HA.out; clear HA; simp only [impl_orbits.l1] at H
    by_cases c6 : x18_2 < (l0.length : Int)
    ·
     rw [if_pos c6] at H; have c6b0 := decide_eq_true c6; clear c6; replace H := gD2 H; obtain ⟨c7b0, c8b0, H⟩ := H; have H' := Az H; clear H; have p111 : 0 ≤ (x18_2 : Int) := oA; have q111 : x18_2 < (l0.length : Int) := oA; obtain ⟨ad111, A111_0, c111_0, e111, hx111_0, hl111_0, hi111_0⟩ := at_L1 HR0.out x18_2 p111 q111; obtain rfl : ad107 = ad111 := (by injection e111); replace hx111_0 := hT HB.out hx111_0; have HR111_0 := Az hi111_0; have HC111_0 := Az hl111_0; clear hi111_0 hl111_0; replace p111 := eq_true p111; replace q111 := eq_true q111; go_wp2
     repeat (go_quiet (fail); try go_wp2)
     go_loopg [4, 24] k2 (fun kq v4 v24 w' => ∃ (x3_3 : List Int) (x4_3 : Bool) (x24_3 : Int), v4 = .bool x4_3 ∧ v24 = .int .i64 x24_3 ∧ Aside0 (impl_orbits.l2 kq l0 x3_3 x4_3 l0 (l0.length : Int) x18_2 (rd_L1 l0 x18_2) ((rd_L1 l0 x18_2).length : Int) x24_3 = some r) ∧ Aside0 (kq ≤ k2) ∧ Aside0 (Kd.R (Kd.int .i64) 3 w' w.heap.size (fun _ => True) v109 x3_3) ∧ Aside0 (Below w.heap.size w w'))
     case atStart => exact ⟨(x3_2), (x4_2), (0), rS, rS, H', ⟨Nat.le_refl _⟩, ⟨rU HO_3.out⟩, ⟨bU0 HB.out⟩⟩
     case round =>
      clear H'; obtain ⟨x3_3, x4_3, x24_3, rfl, rfl, HA, HK3, HO_3, HB⟩ := hrel
      rcases gk with _ | k3
      exact (nN HA.out).elim; have H := HA.out; clear HA; simp only [impl_orbits.l2] at H
      replace H := gB H; rcases H with ⟨c9b0, H⟩ | ⟨c9b0, H⟩
      ·
       replace H := gD5 H; obtain ⟨c10b0, c11b0, c12b0, c13b0, c14b0, H⟩ := H; obtain ⟨ji15, hji15⟩ : ∃ j_ : Int, (mn (rd x3_3 x24_3) (rd x3_3 (rd (rd_L1 l0 x18_2) x24_3))) = j_ := ⟨_, rfl⟩; (first | rw [hji15] at H | simp only [hji15] at H); have hji15_ : (if (rd x3_3 (rd (rd_L1 l0 x18_2) x24_3)) < (rd x3_3 x24_3) then (rd x3_3 (rd (rd_L1 l0 x18_2) x24_3)) else (rd x3_3 x24_3)) = ji15 := hji15
       replace H := gQ H; rcases H with ⟨c16b0, c16b1, H⟩ | ⟨c16b0, c16b1, H⟩
       ·
        replace H := gQ H; rcases H with ⟨c17b0, c17b1, H⟩ | ⟨c17b0, c17b1, H⟩
        ·
         have H' := Az H; clear H; obtain ⟨ad112, e112, p112, q112, hx112_0⟩ := aI HR111_0.out x24_3
         cases e112
         replace hx112_0 := hT HB.out hx112_0; obtain ⟨Ao18, co18, eo18⟩ := Kd.R_slice HO_3.out; subst eo18; obtain ⟨ad113, e113, p113, q113, hx113_0⟩ := aI (Kd.R_reads' HO_3.out).2.2 x24_3
         cases e113; obtain ⟨p114, q114, hx114_0⟩ := aJ (Kd.R_reads' HO_3.out).2.2 (rd (rd_L1 l0 x18_2) x24_3); obtain ⟨p115, q115, hx115_0⟩ := aJ (Kd.R_reads' HO_3.out).2.2 x24_3; obtain ⟨p116, q116, hx116_0⟩ := aJ (Kd.R_reads' HO_3.out).2.2 (rd (rd_L1 l0 x18_2) x24_3); go_wp2
         repeat (go_quiet (fail); try go_wp2)
         go_roundg k3
         case measure => exact mO
         case rel => exact ⟨(x3_3), (x4_3), (wrap64 (x24_3 + 1)), rS, rS, H', ⟨mO⟩, ⟨rU HO_3.out⟩, ⟨bU0 HB.out⟩⟩
        ·
         generalize Ny117 : (x3_3.set (x24_3 : Int).toNat (ji15) : List Int) = y117 at H; replace Ny117 := Ay Ny117; generalize Ny118 : (y117.set ((rd (rd_L1 l0 x18_2) x24_3) : Int).toNat (ji15) : List Int) = y118 at H; replace Ny118 := Ay Ny118; have H' := Az H; clear H; obtain ⟨ad112, e112, p112, q112, hx112_0⟩ := aI HR111_0.out x24_3
         cases e112
         replace hx112_0 := hT HB.out hx112_0; obtain ⟨Ao21, co21, eo21⟩ := Kd.R_slice HO_3.out; subst eo21; obtain ⟨ad113, e113, p113, q113, hx113_0⟩ := aI (Kd.R_reads' HO_3.out).2.2 x24_3
         cases e113; obtain ⟨p114, q114, hx114_0⟩ := aJ (Kd.R_reads' HO_3.out).2.2 (rd (rd_L1 l0 x18_2) x24_3); obtain ⟨p115, q115, hx115_0⟩ := aJ (Kd.R_reads' HO_3.out).2.2 x24_3; obtain ⟨p116, q116, hx116_0⟩ := aJ (Kd.R_reads' HO_3.out).2.2 (rd (rd_L1 l0 x18_2) x24_3); have p19 : 0 ≤ (x24_3 : Int) := oA; have q19 : (x24_3 : Int) < ((x3_3.length : Int) : Int) := oA; obtain ⟨go19, co19, eo19, gb19, gl19, cl19, HG19⟩ := Kd.R_form HO_3.out (by omega); (first | cases eo19 | (injection eo19 with ea_ en_ ec_; (first | subst ea_ | (injection ea_ with ea_; subst ea_)); subst ec_; clear en_)); have GB19 := Az gb19; have GG19 := Az HG19; clear gb19 gl19 HG19; simp only [add_plain] at hx113_0; simp only [add_plain] at hx114_0; simp only [add_plain] at hx115_0; simp only [add_plain] at hx116_0; obtain ⟨hx19_0, hf19_0⟩ := Kd.R_celln 0 HO_3.out (x24_3 : Int) p19 q19; replace p19 := eq_true p19; replace q19 := eq_true q19; obtain ⟨hy22_, hz22_⟩ := Kd.R_celln 0 HO_3.out (x24_3 : Int) (oA) (oA); have HP22 := Kd.R_putg HO_3.out (x24_3 : Int) ji15
         go_wp2_with (fail)
         repeat (go_quiet (fail); try go_wp2_with (first | ((with_reducible refine gs 3 58 rfl ?_); (rw [drewN_self wr]; generalize hq_ : World.drewN wr _ = wr; replace HO_3 := Az (Kd.R_at hq_ HO_3.out); replace HB := Az (below_at hq_ HB.out); clear hq_; (obtain ⟨hy22_, hz22_⟩ := Kd.R_celln 0 HO_3.out (x24_3 : Int) (oA) (oA)); (have HP22 := Kd.R_putg HO_3.out (x24_3 : Int) ji15)); refine sE 3 58 (wr.setCell ⟨go19, (x24_3 : Int).toNat, none⟩ (.int .i64 ji15)) ?_; intro w23 hw; have hg : wr.grownBy w23 (some go19) := (by rw [hw]; exact HP22.2); have hp_ : Kd.R (Kd.int .i64) 3 w23 w.heap.size (fun _ => True) (.slice (some ⟨go19, 0, none⟩) x3_3.length co21) y117 := (by rw [hw, Ny117.out]; exact HP22.1); clear HP22; replace HO_3 := Az (hp_); replace HB := Az ((by rw [hw]; exact below_set (HB.out) GB19.out : Below w.heap.size w w23)); clear hg hw hp_; have p20 : 0 ≤ ((rd (rd_L1 l0 x18_2) x24_3) : Int) := oA; have q20 : ((rd (rd_L1 l0 x18_2) x24_3) : Int) < ((x3_3.length : Int) : Int) := oA; obtain ⟨hx20_0, hf20_0⟩ := Kd.R_celln 0 HO_3.out ((rd (rd_L1 l0 x18_2) x24_3) : Int) p20 q20; replace p20 := eq_true p20; replace q20 := eq_true q20; obtain ⟨hy24_, hz24_⟩ := Kd.R_celln 0 HO_3.out ((rd (rd_L1 l0 x18_2) x24_3) : Int) (oA) (oA); have HP24 := Kd.R_putg HO_3.out ((rd (rd_L1 l0 x18_2) x24_3) : Int) ji15) | ((with_reducible refine gs 3 59 rfl ?_); refine sE 3 59 (w23.setCell ⟨go19, ((rd (rd_L1 l0 x18_2) x24_3) : Int).toNat, none⟩ (.int .i64 ji15)) ?_; intro w25 hw; have hg : w23.grownBy w25 (some go19) := (by rw [hw]; exact HP24.2); have hp_ : Kd.R (Kd.int .i64) 3 w25 w.heap.size (fun _ => True) (.slice (some ⟨go19, 0, none⟩) x3_3.length co21) y118 := (by rw [hw, Ny118.out]; exact HP24.1); clear HP24; replace HO_3 := Az (hp_); replace HB := Az ((by rw [hw]; exact below_set (HB.out) GB19.out : Below w.heap.size w w25)); clear hg hw hp_)))
         go_roundg k3
         case measure => exact mO
         case rel => exact ⟨(y118), (true), (wrap64 (x24_3 + 1)), rS, rS, H', ⟨mO⟩, ⟨rU HO_3.out⟩, ⟨bU0 HB.out⟩⟩
       ·
        generalize Ny119 : (x3_3.set (x24_3 : Int).toNat (ji15) : List Int) = y119 at H; replace Ny119 := Ay Ny119; generalize Ny120 : (y119.set ((rd (rd_L1 l0 x18_2) x24_3) : Int).toNat (ji15) : List Int) = y120 at H; replace Ny120 := Ay Ny120; have H' := Az H; clear H; obtain ⟨ad112, e112, p112, q112, hx112_0⟩ := aI HR111_0.out x24_3
        cases e112
        replace hx112_0 := hT HB.out hx112_0; obtain ⟨Ao28, co28, eo28⟩ := Kd.R_slice HO_3.out; subst eo28; obtain ⟨ad113, e113, p113, q113, hx113_0⟩ := aI (Kd.R_reads' HO_3.out).2.2 x24_3
        cases e113; obtain ⟨p114, q114, hx114_0⟩ := aJ (Kd.R_reads' HO_3.out).2.2 (rd (rd_L1 l0 x18_2) x24_3); obtain ⟨p115, q115, hx115_0⟩ := aJ (Kd.R_reads' HO_3.out).2.2 x24_3; have p26 : 0 ≤ (x24_3 : Int) := oA; have q26 : (x24_3 : Int) < ((x3_3.length : Int) : Int) := oA; obtain ⟨go26, co26, eo26, gb26, gl26, cl26, HG26⟩ := Kd.R_form HO_3.out (by omega); (first | cases eo26 | (injection eo26 with ea_ en_ ec_; (first | subst ea_ | (injection ea_ with ea_; subst ea_)); subst ec_; clear en_)); have GB26 := Az gb26; have GG26 := Az HG26; clear gb26 gl26 HG26; simp only [add_plain] at hx113_0; simp only [add_plain] at hx114_0; simp only [add_plain] at hx115_0; obtain ⟨hx26_0, hf26_0⟩ := Kd.R_celln 0 HO_3.out (x24_3 : Int) p26 q26; replace p26 := eq_true p26; replace q26 := eq_true q26; obtain ⟨hy29_, hz29_⟩ := Kd.R_celln 0 HO_3.out (x24_3 : Int) (oA) (oA); have HP29 := Kd.R_putg HO_3.out (x24_3 : Int) ji15
        go_wp2_with (fail)
        repeat (go_quiet (fail); try go_wp2_with (first | ((with_reducible refine gs 3 58 rfl ?_); (rw [drewN_self wr]; generalize hq_ : World.drewN wr _ = wr; replace HO_3 := Az (Kd.R_at hq_ HO_3.out); replace HB := Az (below_at hq_ HB.out); clear hq_; (obtain ⟨hy29_, hz29_⟩ := Kd.R_celln 0 HO_3.out (x24_3 : Int) (oA) (oA)); (have HP29 := Kd.R_putg HO_3.out (x24_3 : Int) ji15)); refine sE 3 58 (wr.setCell ⟨go26, (x24_3 : Int).toNat, none⟩ (.int .i64 ji15)) ?_; intro w30 hw; have hg : wr.grownBy w30 (some go26) := (by rw [hw]; exact HP29.2); have hp_ : Kd.R (Kd.int .i64) 3 w30 w.heap.size (fun _ => True) (.slice (some ⟨go26, 0, none⟩) x3_3.length co28) y119 := (by rw [hw, Ny119.out]; exact HP29.1); clear HP29; replace HO_3 := Az (hp_); replace HB := Az ((by rw [hw]; exact below_set (HB.out) GB26.out : Below w.heap.size w w30)); clear hg hw hp_; have p27 : 0 ≤ ((rd (rd_L1 l0 x18_2) x24_3) : Int) := oA; have q27 : ((rd (rd_L1 l0 x18_2) x24_3) : Int) < ((x3_3.length : Int) : Int) := oA; obtain ⟨hx27_0, hf27_0⟩ := Kd.R_celln 0 HO_3.out ((rd (rd_L1 l0 x18_2) x24_3) : Int) p27 q27; replace p27 := eq_true p27; replace q27 := eq_true q27; obtain ⟨hy31_, hz31_⟩ := Kd.R_celln 0 HO_3.out ((rd (rd_L1 l0 x18_2) x24_3) : Int) (oA) (oA); have HP31 := Kd.R_putg HO_3.out ((rd (rd_L1 l0 x18_2) x24_3) : Int) ji15) | ((with_reducible refine gs 3 59 rfl ?_); refine sE 3 59 (w30.setCell ⟨go26, ((rd (rd_L1 l0 x18_2) x24_3) : Int).toNat, none⟩ (.int .i64 ji15)) ?_; intro w32 hw; have hg : w30.grownBy w32 (some go26) := (by rw [hw]; exact HP31.2); have hp_ : Kd.R (Kd.int .i64) 3 w32 w.heap.size (fun _ => True) (.slice (some ⟨go26, 0, none⟩) x3_3.length co28) y120 := (by rw [hw, Ny120.out]; exact HP31.1); clear HP31; replace HO_3 := Az (hp_); replace HB := Az ((by rw [hw]; exact below_set (HB.out) GB26.out : Below w.heap.size w w32)); clear hg hw hp_)))
        go_roundg k3
        case measure => exact mO
        case rel => exact ⟨(y120), (true), (wrap64 (x24_3 + 1)), rS, rS, H', ⟨mO⟩, ⟨rU HO_3.out⟩, ⟨bU0 HB.out⟩⟩
      ·
       have H' := Az H; clear H; go_wp2
       repeat (go_quiet (fail); try go_wp2)
       go_roundg k3
       case measure => exact mO
       case rel => exact ⟨(x3_3), (x4_3), (wrap64 (x18_2 + 1)), rS, rS, H', ⟨mO⟩, ⟨rU HO_3.out⟩, ⟨bU0 HB.out⟩⟩
    ·
     rw [if_neg c6] at H; have c6b0 := decide_eq_false c6; clear c6; have H' := Az H; clear H; go_wp2
     repeat (go_quiet (fail); try go_wp2)
     go_roundg k2
     case measure => exact mO
     case rel => exact ⟨(x3_2), (x4_2), rS, H', ⟨mO⟩, ⟨rU HO_3.out⟩, ⟨bU0 HB.out⟩⟩
  ·
   replace c5 := Bool.eq_false_iff.mpr c5; subst c5; rw [if_neg nT] at H; obtain rfl := Option.some.inj H; go_wp2
   repeat (go_quiet (fail); try go_wp2)
   go_ret; exact ⟨_, rE, rU HO_3.out, bU0 HB.out⟩
mutual
def impl_MapValid.j0 : Nat → Bool → List Int → List Int → Option (Bool)
 | 0, _, _, _ => none
 | k + 1, x23, xZ0, xZ1 => if x23 = true then (some false) else (impl_MapValid.l0 k xZ1 (xZ1.length : Int) 0 xZ0 xZ1)
def impl_MapValid.l0 : Nat → List Int → Int → Int → List Int → List Int → Option (Bool)
 | 0, _, _, _, _, _ => none
 | k + 1, x25, x26, x27, xZ0, xZ1 => if x27 < x26 then (if 0 ≤ x27 then (if x27 < (x25.length : Int) then (if (rd x25 x27) = x27 then (some false) else (if 0 ≤ (rd x25 x27) then (if (rd x25 x27) < (xZ1.length : Int) then (if (rd xZ1 (rd x25 x27)) = x27 then (impl_MapValid.l0 k x25 x26 (wrap64 (x27 + 1)) xZ0 xZ1) else (some false)) else (none)) else (none))) else (none)) else (none)) else ((impl_orbits.f k (([xZ0, xZ1] : List (List Int)))).bind fun t129 => ((slices_Max_int_int.f k t129).bind fun t132 => (some (t132 == 0))))
end
def impl_MapValid.f (k : Nat) (l0_0 : List Int) (l0_1 : List Int) : Option (Bool) := (impl_PermValid.f k l0_0).bind fun t122 => (if t122 = true then ((impl_PermValid.f k l0_1).bind fun t123 => (if t123 = true then (impl_MapValid.j0 k ((l0_0.length : Int) != (l0_1.length : Int)) l0_0 l0_1) else (impl_MapValid.j0 k true l0_0 l0_1))) else (impl_MapValid.j0 k true l0_0 l0_1))
set_option maxHeartbeats 8000000 in
set_option maxRecDepth 100000 in
theorem impl_MapValid.calls (k : Nat) (P0_0_ : Nat → Prop) (A0_0 : Option Addr) (c0_0 : Nat) (l0_0 : List Int) (P0_1_ : Nat → Prop) (A0_1 : Option Addr) (c0_1 : Nat) (l0_1 : List Int) (r : Bool) (w : World) (hs0_0 : Kd.V (Kd.int .i64) 3 w w.heap.size (fun k_ => P0_0_ k_) (.slice A0_0 l0_0.length c0_0) l0_0) (hs0_1 : Kd.V (Kd.int .i64) 3 w w.heap.size (fun k_ => P0_1_ k_) (.slice A0_1 l0_1.length c0_1) l0_1) (h : impl_MapValid.f k l0_0 l0_1 = some r) :
  Calls Try.prog 65 #[.agg #[.slice A0_0 l0_0.length c0_0, .slice A0_1 l0_1.length c0_1]] w fun e w' => e = .returned (.bool r) ∧ Below w.heap.size w w' := by
 have hu25 := Try.underlying25; have HO0_0 := Az (show Kd.V (Kd.int .i64) 3 w w.heap.size (fun k_ => ((P0_0_ k_ ∨ P0_1_ k_) ∨ w.heap.size ≤ k_)) (.slice A0_0 l0_0.length c0_0) l0_0 from Kd.V_mono hs0_0 (fun k_ hk => .inl (.inl hk))); have HO0_1 := Az (show Kd.V (Kd.int .i64) 3 w w.heap.size (fun k_ => ((P0_0_ k_ ∨ P0_1_ k_) ∨ w.heap.size ≤ k_)) (.slice A0_1 l0_1.length c0_1) l0_1 from Kd.V_mono hs0_1 (fun k_ hk => .inl (.inr hk))); have HB := bZ w; have H := h; clear h; unfold impl_MapValid.f at H; have HC2 := Az H; clear H; go_enter Try.func65, Try.ntmps65
 go_upto_region 1 with (first | ((with_reducible refine gd 1 rfl ?_); (refine gate_guard (by rfl) ?_; dsimp only); refine bE 1 #[.slice A0_0 l0_0.length c0_0, .slice A0_1 l0_1.length c0_1] 25 ?_; intro gb121 hg w3 hbox hb; replace HO0_0 := Az (Kd.V_below (Kd.V_elderB (vU HO0_0.out) gb121 (Nat.le_of_eq hg.symm)) hb); replace HO0_1 := Az (Kd.V_below (Kd.V_elderB (vU HO0_1.out) gb121 (Nat.le_of_eq hg.symm)) hb); have BK121 := Az (hbox); have GW121 := gW hg (bU0 HB.out); replace HB := Az (below_step (bU0 HB.out) hb); clear hb hbox hg))
 go_cut [23] (fun v23 wc => ∃ (kq : Nat) (x23_1 : Bool), v23 = .bool x23_1 ∧ Aside0 (impl_MapValid.j0 kq x23_1 l0_0 l0_1 = some r) ∧ Aside0 (kq ≤ k) ∧ Aside0 (Kd.V (Kd.int .i64) 3 wc w.heap.size (fun k_ => ((P0_0_ k_ ∨ P0_1_ k_) ∨ w.heap.size ≤ k_) ∧ k_ ≠ gb121) (.slice A0_0 l0_0.length c0_0) l0_0) ∧ Aside0 (Kd.V (Kd.int .i64) 3 wc w.heap.size (fun k_ => ((P0_0_ k_ ∨ P0_1_ k_) ∨ w.heap.size ≤ k_) ∧ k_ ≠ gb121) (.slice A0_1 l0_1.length c0_1) l0_1) ∧ Aside0 (wc.heap[gb121]? = some (.cells #[(.slice A0_0 l0_0.length c0_0), (.slice A0_1 l0_1.length c0_1)] 25 (0, 0))) ∧ Aside0 (Below w.heap.size w wc))
 case first =>
  have H := HC2.out; clear HC2; replace H := bd H; obtain ⟨t122, A4, H⟩ := H
  by_cases c5 : t122 = true
  ·
   subst c5; rw [if_pos rfl] at H; replace H := bd H; obtain ⟨t123, A6, H⟩ := H
   by_cases c7 : t123 = true
   ·
    subst c7; rw [if_pos rfl] at H; have H' := Az H; clear H; have hz8 := bc2 BK121.out
    go_wp2_with (first | ((with_reducible refine gK 85 rfl ?_); refine gC (some 7) Try.func85 #[.slice A0_0 l0_0.length c0_0] ?_; (with_reducible refine (impl_PermValid.calls k _ _ l0_0 true _ ?_ ?_ A4.out).mono ?_); exact cU ((Kd.V_reads' HO0_0.out).2.2); exact (Kd.V_reads' HO0_0.out).2.1; rintro e w9 ⟨rfl, hb⟩; refine ⟨_, rfl, ?_⟩; replace HO0_0 := vB HO0_0.out hb; replace HO0_1 := vB HO0_1.out hb; replace BK121 := kB BK121.out hb; replace HB := Az z1_6; clear hb; have hz10 := bc2 BK121.out) | (go_at_call 85; (with_reducible refine (impl_PermValid.calls k _ _ l0_1 true _ ?_ ?_ A6.out).mono ?_); exact cU ((Kd.V_reads' HO0_1.out).2.2); exact (Kd.V_reads' HO0_1.out).2.1; rintro e w11 ⟨rfl, hb⟩; replace HO0_0 := vB HO0_0.out hb; replace HO0_1 := vB HO0_1.out hb; replace BK121 := kB BK121.out hb; replace HB := Az z1_6; clear hb; have hz12 := bc2 BK121.out))
    go_meet
    case rel => exact ⟨_, (((l0_0.length : Int) != (l0_1.length : Int))), rS, H', ⟨mO⟩, ⟨vU HO0_0.out⟩, ⟨vU HO0_1.out⟩, ⟨kU BK121.out⟩, ⟨bU1 HB.out GW121.out⟩⟩
   ·
    replace c7 := Bool.eq_false_iff.mpr c7; subst c7; rw [if_neg nT] at H; have H' := Az H; clear H; have hz13 := bc2 BK121.out
    go_wp2_with (first | ((with_reducible refine gK 85 rfl ?_); refine gC (some 7) Try.func85 #[.slice A0_0 l0_0.length c0_0] ?_; (with_reducible refine (impl_PermValid.calls k _ _ l0_0 true _ ?_ ?_ A4.out).mono ?_); exact cU ((Kd.V_reads' HO0_0.out).2.2); exact (Kd.V_reads' HO0_0.out).2.1; rintro e w14 ⟨rfl, hb⟩; refine ⟨_, rfl, ?_⟩; replace HO0_0 := vB HO0_0.out hb; replace HO0_1 := vB HO0_1.out hb; replace BK121 := kB BK121.out hb; replace HB := Az z1_6; clear hb; have hz15 := bc2 BK121.out) | (go_at_call 85; (with_reducible refine (impl_PermValid.calls k _ _ l0_1 false _ ?_ ?_ A6.out).mono ?_); exact cU ((Kd.V_reads' HO0_1.out).2.2); exact (Kd.V_reads' HO0_1.out).2.1; rintro e w16 ⟨rfl, hb⟩; replace HO0_0 := vB HO0_0.out hb; replace HO0_1 := vB HO0_1.out hb; replace BK121 := kB BK121.out hb; replace HB := Az z1_6; clear hb))
    go_meet
    case rel => exact ⟨_, (true), rS, H', ⟨mO⟩, ⟨vU HO0_0.out⟩, ⟨vU HO0_1.out⟩, ⟨kU BK121.out⟩, ⟨bU1 HB.out GW121.out⟩⟩
  ·
   replace c5 := Bool.eq_false_iff.mpr c5; subst c5; rw [if_neg nT] at H; have H' := Az H; clear H; have hz17 := bc2 BK121.out
   go_wp2_with (first | ((with_reducible refine gK 85 rfl ?_); refine gC (some 7) Try.func85 #[.slice A0_0 l0_0.length c0_0] ?_; (with_reducible refine (impl_PermValid.calls k _ _ l0_0 false _ ?_ ?_ A4.out).mono ?_); exact cU ((Kd.V_reads' HO0_0.out).2.2); exact (Kd.V_reads' HO0_0.out).2.1; rintro e w18 ⟨rfl, hb⟩; refine ⟨_, rfl, ?_⟩; replace HO0_0 := vB HO0_0.out hb; replace HO0_1 := vB HO0_1.out hb; replace BK121 := kB BK121.out hb; replace HB := Az z1_6; clear hb))
   go_meet
   case rel => exact ⟨_, (true), rS, H', ⟨mO⟩, ⟨vU HO0_0.out⟩, ⟨vU HO0_1.out⟩, ⟨kU BK121.out⟩, ⟨bU1 HB.out GW121.out⟩⟩
 case rest =>
  clear HC2; obtain ⟨kq, x23_1, rfl, HA, HJ1, HO_Z0, HO_Z1, BK121, HB⟩ := hcut
  rcases kq with _ | kj1
  exact (nN HA.out).elim; have H := HA.out; clear HA; simp only [impl_MapValid.j0] at H
  by_cases c19 : x23_1 = true
  · subst c19; rw [if_pos rfl] at H; obtain rfl := Option.some.inj H; go_wp2; go_ret; exact ⟨rE, bU1 HB.out GW121.out⟩
  ·
   replace c19 := Bool.eq_false_iff.mpr c19; subst c19; rw [if_neg nT] at H; have H' := Az H; clear H; have hz20 := bc2 BK121.out; go_wp2
   go_loopg [27] kj1 (fun kq v27 w' => ∃ (x27_2 : Int), v27 = .int .i64 x27_2 ∧ Aside0 (impl_MapValid.l0 kq l0_1 (l0_1.length : Int) x27_2 l0_0 l0_1 = some r) ∧ Aside0 (kq ≤ kj1) ∧ Aside0 (Kd.V (Kd.int .i64) 3 w' w.heap.size (fun k_ => ((P0_0_ k_ ∨ P0_1_ k_) ∨ w.heap.size ≤ k_) ∧ k_ ≠ gb121) (.slice A0_1 l0_1.length c0_1) l0_1) ∧ Aside0 (Kd.V (Kd.int .i64) 3 w' w.heap.size (fun k_ => ((P0_0_ k_ ∨ P0_1_ k_) ∨ w.heap.size ≤ k_) ∧ k_ ≠ gb121) (.slice A0_0 l0_0.length c0_0) l0_0) ∧ Aside0 (Kd.V (Kd.int .i64) 3 w' w.heap.size (fun k_ => ((P0_0_ k_ ∨ P0_1_ k_) ∨ w.heap.size ≤ k_) ∧ k_ ≠ gb121) (.slice A0_1 l0_1.length c0_1) l0_1) ∧ Aside0 (w'.heap[gb121]? = some (.cells #[(.slice A0_0 l0_0.length c0_0), (.slice A0_1 l0_1.length c0_1)] 25 (0, 0))) ∧ Aside0 (Below w.heap.size w w'))
   case atStart => exact ⟨(0), rS, H', ⟨Nat.le_refl _⟩, ⟨vU HO_Z1.out⟩, ⟨vU HO_Z0.out⟩, ⟨vU HO_Z1.out⟩, ⟨kU BK121.out⟩, ⟨bU1 HB.out GW121.out⟩⟩
   case round =>
    clear H'; obtain ⟨x27_2, rfl, HA, HK2, HO_25, HO_Z0, HO_Z1, BK121, HB⟩ := hrel
    rcases gk with _ | k2
    exact (nN HA.out).elim; have H := HA.out; clear HA; simp only [impl_MapValid.l0] at H
    replace H := gB H; rcases H with ⟨c21b0, H⟩ | ⟨c21b0, H⟩
    ·
     replace H := gD2 H; obtain ⟨c22b0, c23b0, H⟩ := H
     replace H := gQ H; rcases H with ⟨c24b0, c24b1, H⟩ | ⟨c24b0, c24b1, H⟩
     ·
      obtain rfl := Option.some.inj H; obtain ⟨ad124, e124, p124, q124, hx124_0⟩ := aI (Kd.V_reads' HO_25.out).2.2 x27_2
      cases e124; go_wp2; go_ret; exact ⟨rE, bU1 HB.out GW121.out⟩
     ·
      replace H := gD2 H; obtain ⟨c25b0, c26b0, H⟩ := H
      replace H := gQ H; rcases H with ⟨c27b0, c27b1, H⟩ | ⟨c27b0, c27b1, H⟩
      ·
       have H' := Az H; clear H; obtain ⟨ad124, e124, p124, q124, hx124_0⟩ := aI (Kd.V_reads' HO_25.out).2.2 x27_2
       cases e124; have hz28 := bc2 BK121.out; obtain ⟨p125, q125, hx125_0⟩ := aJ (Kd.V_reads' HO_Z1.out).2.2 (rd l0_1 x27_2); go_wp2; go_roundg k2
       case measure => have := HJ1.out; have := HK2.out; omega
       case rel => exact ⟨(wrap64 (x27_2 + 1)), rS, H', ⟨by have := HJ1.out; have := HK2.out; omega⟩, ⟨vU HO_25.out⟩, ⟨vU HO_Z0.out⟩, ⟨vU HO_Z1.out⟩, ⟨kU BK121.out⟩, ⟨bU1 HB.out GW121.out⟩⟩
      ·
       obtain rfl := Option.some.inj H; obtain ⟨ad124, e124, p124, q124, hx124_0⟩ := aI (Kd.V_reads' HO_25.out).2.2 x27_2
       cases e124; have hz29 := bc2 BK121.out; obtain ⟨p125, q125, hx125_0⟩ := aJ (Kd.V_reads' HO_Z1.out).2.2 (rd l0_1 x27_2); go_wp2; go_ret; exact ⟨rE, bU1 HB.out GW121.out⟩
    ·
     generalize Ny126 : (([l0_0, l0_1] : List (List Int)) : List (List Int)) = y126 at H; replace Ny126 := Ay Ny126; replace H := bd H; obtain ⟨t129, A30, H⟩ := H; replace H := bd H; obtain ⟨t132, A31, H⟩ := H; obtain rfl := Option.some.inj H; have hz32 := bc2 BK121.out
     go_wp2_with (first | ((with_reducible refine gd 49 rfl ?_); (refine gate_guard (by rfl) ?_; dsimp only); refine Kd.N_lit (Kd.slice 3 (Kd.int .i64)) _ 23 ?hg (N' := 49) ?hd (xs := ([l0_0, l0_1] : List (List Int))) (inner := [.slice A0_0 l0_0.length c0_0, .slice A0_1 l0_1.length c0_1]) (ok := (fun k_ => ((P0_0_ k_ ∨ P0_1_ k_) ∨ w.heap.size ≤ k_) ∧ k_ ≠ gb121)) (okp := (fun k_ => ((P0_0_ k_ ∨ P0_1_ k_) ∨ w.heap.size ≤ k_) ∧ k_ ≠ gb121)) ?hr ?hp (fun _ hk => hk) ((show ∀ k_, wr.heap.size ≤ k_ → (fun k_ => ((P0_0_ k_ ∨ P0_1_ k_) ∨ w.heap.size ≤ k_) ∧ k_ ≠ gb121) k_ from fun k_ hk => ⟨(.inr (Nat.le_trans (below_size (bU1 HB.out GW121.out)) hk)), Kd.freshB (g := gb121) (o := .cells #[.slice A0_0 l0_0.length c0_0, .slice A0_1 l0_1.length c0_1] 25 (0, 0)) (kU BK121.out) k_ hk⟩) _ (Nat.le_refl _)) (Below.refl _ _) (Nat.le_refl _) (by simp) ?_; (case hd => rfl); (case hg => rfl); (case hr => first | (go_simp; done) | (go_simp; rfl)); (case hp => exact (Reps.one (show Kd.FK (Kd.slice 3 (Kd.int .i64)) _ _ l0_0 [.slice A0_0 l0_0.length c0_0] from (Kd.FK_slice_mk (Kd.V_reads' (Kd.V_mono (ok' := (fun k_ => ((P0_0_ k_ ∨ P0_1_ k_) ∨ w.heap.size ≤ k_) ∧ k_ ≠ gb121)) (HO_Z0.out) (fun k_ hk => ⟨hk.1, hk.2⟩))).2.1 (Kd.V_F (Kd.V_mono (ok' := (fun k_ => ((P0_0_ k_ ∨ P0_1_ k_) ∨ w.heap.size ≤ k_) ∧ k_ ≠ gb121)) (HO_Z0.out) (fun k_ hk => ⟨hk.1, hk.2⟩))))) (Reps.one (show Kd.FK (Kd.slice 3 (Kd.int .i64)) _ _ l0_1 [.slice A0_1 l0_1.length c0_1] from (Kd.FK_slice_mk (Kd.V_reads' (Kd.V_mono (ok' := (fun k_ => ((P0_0_ k_ ∨ P0_1_ k_) ∨ w.heap.size ≤ k_) ∧ k_ ≠ gb121)) (HO_Z1.out) (fun k_ hk => ⟨hk.1, hk.2⟩))).2.1 (Kd.V_F (Kd.V_mono (ok' := (fun k_ => ((P0_0_ k_ ∨ P0_1_ k_) ∨ w.heap.size ≤ k_) ∧ k_ ≠ gb121)) (HO_Z1.out) (fun k_ hk => ⟨hk.1, hk.2⟩))))) (Reps.none _ _)))); intro v127 w33 ho34 hb hg_ hnew_; clear hg_ hnew_; (first | rw [← Ny126.out] at ho34 | (simp only [Int.reduceToNat] at ho34; rw [← Ny126.out] at ho34)); replace HO_25 := Az (Kd.V_elder' (vU HO_25.out) z1_8 hb); replace HO_Z0 := Az (Kd.V_elder' (vU HO_Z0.out) z1_8 hb); replace HO_Z1 := Az (Kd.V_elder' (vU HO_Z1.out) z1_8 hb); have HO128 := Az (Kd.N_lower ho34 (below_size (bU1 HB.out GW121.out))); replace BK121 := kB BK121.out hb; replace HB := Az z1_6; clear hb ho34; obtain ⟨Ao35, co35, eo35⟩ := Kd.N_slice HO128.out; subst eo35) | ((with_reducible refine gK 99 rfl ?_); refine gC (some 50) Try.func99 #[.slice Ao35 y126.length co35] ?_; (with_reducible refine (impl_orbits.calls k2 _ _ y126 t129 _ ?_ ?_ A30.out).mono ?_); exact cU ((Kd.N_reads' HO128.out).2.2); exact (Kd.N_reads' HO128.out).2.1; rintro e w36 ⟨v130, rfl, ho0, hb⟩; refine ⟨_, rfl, ?_⟩; replace HO_25 := Az (Kd.V_elder' (vU HO_25.out) (Kd.R_base ho0) hb); replace HO_Z0 := Az (Kd.V_elder' (vU HO_Z0.out) (Kd.R_base ho0) hb); replace HO_Z1 := Az (Kd.V_elder' (vU HO_Z1.out) (Kd.R_base ho0) hb); replace HO128 := Az (Kd.N_elder' (nU HO128.out) (Kd.R_base ho0) hb); have HO131 := Az (Kd.R_lower (Kd.R_newM (M := fun k_ => (w.heap.size ≤ k_)) ho0 (below_size (bU1 HB.out GW121.out)) (fun k_ h_ => h_)) (below_size (bU1 HB.out GW121.out))); replace BK121 := kB BK121.out hb; replace HB := Az z1_6; clear hb ho0; obtain ⟨Ao37, co37, eo37⟩ := Kd.R_slice HO131.out; subst eo37) | ((with_reducible refine gK 98 rfl ?_); refine gC (some 51) Try.func98 #[.slice Ao37 t129.length co37] ?_; (with_reducible refine (slices_Max_int_int.calls k2 _ _ t129 t132 _ ?_ ?_ A31.out).mono ?_); exact cU ((Kd.R_reads' HO131.out).2.2); exact (Kd.R_reads' HO131.out).2.1; rintro e w38 ⟨rfl, hb⟩; refine ⟨_, rfl, ?_⟩; replace HO_25 := vB HO_25.out hb; replace HO_Z0 := vB HO_Z0.out hb; replace HO_Z1 := vB HO_Z1.out hb; replace HO128 := nB HO128.out hb; replace HO131 := rB HO131.out hb; replace BK121 := kB BK121.out hb; replace HB := Az z1_6; clear hb))
     go_ret; exact ⟨rE, bU1 HB.out GW121.out⟩
mutual
def impl_cyclesOf.l0 : Nat → List Int → List (List Int) → List Bool → Int → Int → Option ((List (List Int)))
 | 0, _, _, _, _, _ => none
 | k + 1, x0, x3, x4, x13, x14 => if x14 < x13 then (impl_cyclesOf.l1 k x0 x3 x4 (([] : List Int)) x14 x13 x14) else (some x3)
def impl_cyclesOf.l1 : Nat → List Int → List (List Int) → List Bool → List Int → Int → Int → Int → Option ((List (List Int)))
 | 0, _, _, _, _, _, _, _ => none
 | k + 1, x0, x3, x4, x6, x7, x13, x14 => if 0 ≤ x7 then (if x7 < (x4.length : Int) then (if rdOf false x4 x7 = true then (if (x6.length : Int) > 0 then (if x3.length < 5864062014805 then (impl_cyclesOf.l0 k x0 (x3 ++ [x6]) x4 x13 (wrap64 (x14 + 1))) else (none)) else (impl_cyclesOf.l0 k x0 x3 x4 x13 (wrap64 (x14 + 1)))) else (if x6.length < 17592186044416 then (if x7 < (x0.length : Int) then (impl_cyclesOf.l1 k x0 x3 (x4.set (x7 : Int).toNat true) (x6 ++ [x7]) (rd x0 x7) x13 x14) else (none)) else (none))) else (none)) else (none)
end
def impl_cyclesOf.f (k : Nat) (l0 : List Int) : Option ((List (List Int))) := if 0 ≤ (l0.length : Int) then (if ((l0.length : Int) : Int).toNat ≤ 281474976710656 then (impl_cyclesOf.l0 k l0 (([] : List (List Int))) (List.replicate ((l0.length : Int) : Int).toNat false) (l0.length : Int) 0) else (none)) else (none)
set_option maxHeartbeats 8000000 in
set_option maxRecDepth 100000 in
theorem impl_cyclesOf.calls (k : Nat) (A0 : Option Addr) (c0 : Nat) (l0 : List Int) (r : List (List Int)) (w : World) (hr0 : Kd.C (Kd.int .i64) w A0 l0.length l0) (hc0 : l0.length ≤ c0) (h : impl_cyclesOf.f k l0 = some r) :
  Calls Try.prog 66 #[.slice A0 l0.length c0] w fun e w' => ∃ v0_ : Value, e = .returned (v0_) ∧ Kd.S (Kd.slice 3 (Kd.int .i64)) 23 w' w.heap.size (fun _ => True) v0_ r ∧ Below w.heap.size w w' := by
 have HR0 := Az hr0; have HC0 := Az hc0; clear hr0 hc0; have HB := bZ w; have H := h; clear h; unfold impl_cyclesOf.f at H; generalize Ny133 : (([] : List (List Int)) : List (List Int)) = y133 at H; replace Ny133 := Ay Ny133; replace H := gE H; obtain ⟨c2b0, c2b1, H⟩ := H; replace H := gE H; obtain ⟨c3b0, c3b1, H⟩ := H; generalize Ny136 : (List.replicate ((l0.length : Int) : Int).toNat false : List Bool) = y136 at H; replace Ny136 := Ay Ny136; have H' := Az H; clear H; go_enter Try.func66, Try.ntmps66
 go_wp2_with (first | ((with_reducible refine gd 8 rfl ?_); refine Kd.S_lit (Kd.slice 3 (Kd.int .i64)) _ 23 rfl (N := 8) rfl (xs := ([] : List (List Int))) (inner := []) (ok := fun _ => True) (okp := fun _ => True) hS ?hp (fun _ hk => hk) trivial (Below.refl _ _) (Nat.le_refl _) (by simp) ?_; (case hp => exact (Reps.none _ _)); intro v134 w4 ho5 hb hg_ hnew_; clear hg_ hnew_; (first | rw [← Ny133.out] at ho5 | (simp only [Int.reduceToNat] at ho5; rw [← Ny133.out] at ho5)); have HO135 := Az (Kd.S_lower ho5 (below_size (bU0 HB.out))); replace HB := Az (below_step (bU0 HB.out) hb); clear hb ho5) | ((with_reducible refine gd 11 rfl ?_); refine Kd.R_make Kd.bool _ 4 rfl (N := 11) rfl 92 _ _ rfl (l0.length : Int) rfl rfl Try.underlying92 (.bool false) 1 info4 rfl (by decide) (by omega) false (ok := fun _ => True) (okp := fun _ => True) rfl (fun _ hk => hk) trivial (oA) (Nat.le_trans (Nat.mul_le_mul_right _ (oA : (l0.length : Int).toNat ≤ 281474976710656)) (by omega)) (Below.refl _ _) (Nat.le_refl _) ?_; intro v137 w6 ho7 hb hg_ hnew_; clear hg_ hnew_; (first | rw [← Ny136.out] at ho7 | (simp only [Int.reduceToNat] at ho7; rw [← Ny136.out] at ho7)); replace HO135 := sB HO135.out hb; have HO138 := Az (Kd.R_lower ho7 (below_size (bU0 HB.out))); replace HB := Az (below_step (bU0 HB.out) hb); clear hb ho7))
 go_loopg [3, 14] k (fun kq v3 v14 w' => ∃ (x3_1 : List (List Int)) (x4_1 : List Bool) (x14_1 : Int), v14 = .int .i64 x14_1 ∧ Aside0 (impl_cyclesOf.l0 kq l0 x3_1 x4_1 (l0.length : Int) x14_1 = some r) ∧ Aside0 (kq ≤ k) ∧ Aside0 (Kd.S (Kd.slice 3 (Kd.int .i64)) 23 w' w.heap.size (fun _ => True) v3 x3_1) ∧ Aside0 (Kd.R Kd.bool 4 w' w.heap.size (fun _ => True) v137 x4_1) ∧ Aside0 (Below w.heap.size w w'))
 case atStart => exact ⟨(y133), (y136), (0), rS, H', ⟨Nat.le_refl _⟩, ⟨sU HO135.out⟩, ⟨rU HO138.out⟩, ⟨bU0 HB.out⟩⟩
 case round =>
  clear H'; obtain ⟨x3_1, x4_1, x14_1, rfl, HA, HK1, HO_3, HO_4, HB⟩ := hrel
  rcases gk with _ | k1
  exact (nN HA.out).elim; have H := HA.out; clear HA; simp only [impl_cyclesOf.l0] at H
  by_cases c8 : x14_1 < (l0.length : Int)
  ·
   rw [if_pos c8] at H; have c8b0 := decide_eq_true c8; clear c8; generalize Ny139 : (([] : List Int) : List Int) = y139 at H; replace Ny139 := Ay Ny139; have H' := Az H; clear H
   go_wp2_with (first | ((with_reducible refine gd 17 rfl ?_); refine Kd.R_lit (Kd.int .i64) _ 3 rfl (N := 17) rfl (xs := ([] : List Int)) (inner := []) (ok := fun _ => True) (okp := fun _ => True) hS ?hp (fun _ hk => hk) trivial (Below.refl _ _) (Nat.le_refl _) (by simp) ?_; (case hp => exact (Reps.none _ _)); intro v140 w9 ho10 hb hg_ hnew_; clear hg_ hnew_; (first | rw [← Ny139.out] at ho10 | (simp only [Int.reduceToNat] at ho10; rw [← Ny139.out] at ho10)); replace HO_3 := Az (Kd.S_elder' (sU HO_3.out) (Kd.R_base ho10) hb); replace HO_4 := rB HO_4.out hb; have HO141 := Az (Kd.R_lower ho10 (below_size (bU0 HB.out))); replace HB := Az (below_step (bU0 HB.out) hb); clear hb ho10))
   go_loopg [6, 7] k1 (fun kq v6 v7 w' => ∃ (x4_2 : List Bool) (x6_2 : List Int) (x7_2 : Int), v7 = .int .i64 x7_2 ∧ Aside0 (impl_cyclesOf.l1 kq l0 x3_1 x4_2 x6_2 x7_2 (l0.length : Int) x14_1 = some r) ∧ Aside0 (kq ≤ k1) ∧ Aside0 (Kd.S (Kd.slice 3 (Kd.int .i64)) 23 w' w.heap.size (fun k_ => oV k_ v6) u3 x3_1) ∧ Aside0 (Kd.R Kd.bool 4 w' w.heap.size (fun _ => True) v137 x4_2) ∧ Aside0 (Kd.R (Kd.int .i64) 3 w' w.heap.size (fun _ => True) v6 x6_2) ∧ Aside0 (Below w.heap.size w w'))
   case atStart => exact ⟨(x4_1), (y139), (x14_1), rS, H', ⟨Nat.le_refl _⟩, ⟨sM HO_3.out⟩, ⟨rU HO_4.out⟩, ⟨rU HO141.out⟩, ⟨bU0 HB.out⟩⟩
   case round =>
    clear H'; obtain ⟨x4_2, x6_2, x7_2, rfl, HA, HK2, HO_3, HO_4, HO_6, HB⟩ := hrel
    rcases gk with _ | k2
    exact (nN HA.out).elim; have H := HA.out; clear HA; simp only [impl_cyclesOf.l1] at H; replace H := gD2 H; obtain ⟨c11b0, c12b0, H⟩ := H; obtain ⟨bq13, hbq13⟩ : ∃ b_ : Bool, b_ = (rdOf false x4_2 x7_2) := ⟨_, rfl⟩
    replace H : (if bq13 = true then (if (x6_2.length : Int) > 0 then (if x3_1.length < 5864062014805 then (impl_cyclesOf.l0 k2 l0 (x3_1 ++ [x6_2]) x4_2 (l0.length : Int) (wrap64 (x14_1 + 1))) else (none)) else (impl_cyclesOf.l0 k2 l0 x3_1 x4_2 (l0.length : Int) (wrap64 (x14_1 + 1)))) else (if x6_2.length < 17592186044416 then (if x7_2 < (l0.length : Int) then (impl_cyclesOf.l1 k2 l0 x3_1 (x4_2.set (x7_2 : Int).toNat true) (x6_2 ++ [x7_2]) (rd l0 x7_2) (l0.length : Int) x14_1) else (none)) else (none))) = some r := by rw [← hbq13] at H; exact H
    have Nbq13 := Az hbq13; clear hbq13
    by_cases c14 : bq13 = true
    ·
     subst c14; rw [if_pos rfl] at H
     by_cases c15 : (x6_2.length : Int) > 0
     ·
      rw [if_pos c15] at H; have c15b0 := decide_eq_true c15; have c15b1 : decide (0 < x6_2.length) = true := decide_eq_true (by omega); clear c15; replace H := gP H; obtain ⟨c16, H⟩ := H; have LMc16 := Az c16; clear c16; generalize Ny143 : (x3_1 ++ [x6_2] : List (List Int)) = y143 at H; replace Ny143 := Ay Ny143; have H' := Az H; clear H; obtain ⟨Ao17, co17, eo17⟩ := Kd.R_slice HO_4.out; subst eo17; obtain ⟨ad142, e142, p142, q142, hx142_0⟩ := aB (Kd.R_reads' HO_4.out).2.2 x7_2; rw [← Nbq13.out] at hx142_0
      cases e142; obtain ⟨Ao18, co18, eo18⟩ := Kd.R_slice HO_6.out; subst eo18
      go_wp2_with (first | ((with_reducible refine gate_builtin (b := .append) (xs := #[.tmp 38, .tmp 40]) rfl ?_); at_builtin; refine Kd.S_append (Kd.slice 3 (Kd.int .i64)) (w0 := w) w.heap.size rfl (.tmp 38) (.tmp 40) 45 23 (.slice none 0 0) 24 rfl Try.underlying45 info23 rfl (by decide) (by omega) u3 x3_1 x6_2 [.slice Ao18 x6_2.length co18] (fun _ => True) (fun k_ => some k_ = (.slice Ao18 x6_2.length co18 : Value).ownBlock) rfl rfl ?aP (fun k_ hk_ => ((Kd.R_mono (ok' := fun k_ => ((fun _ => True)) k_ ∧ oV k_ u3) (Kd.R_apart' (HO_6.out) (Kd.S_typed HO_3.out) (by decide)) (fun k_ hk => ⟨trivial, hk.2⟩))).1 k_ hk_.symm) ?aF ?aO ?aB ?aS ?aL ?_; (case aP => exact Kd.M_row (Kd.R_mono (Kd.R_tight rfl (Kd.R_mono (ok' := fun k_ => ((fun _ => True)) k_ ∧ oV k_ u3) (Kd.R_apart' (HO_6.out) (Kd.S_typed HO_3.out) (by decide)) (fun k_ hk => ⟨trivial, hk.2⟩))) (fun _ h_ => h_))); (case aB => exact (bU0 HB.out)); (case aF => exact (fun _ _ => trivial)); (case aO => exact (by (with_reducible repeat (first | apply Kd.S_alloc | apply Kd.S_drewN | apply Kd.S_drew)); exact Kd.S_mono HO_3.out (fun k_ hk => ⟨trivial, fun e_ => hk e_⟩))); (case aS => exact (below_size (bU0 HB.out))); (case aL => have := LMc16.out; omega); intro v144 w19 ho hb hg hat; rw [← Ny143.out] at ho; replace HO_4 := Az (Kd.R_over' (rU HO_4.out) (Kd.S_typed (sU HO_3.out)) (by decide) hg); replace HB := Az (hb); have HO145 := Az (ho); clear HO_3 HO_6 ho hb hg hat))
      go_roundg k2
      case measure => exact mO
      case rel => exact ⟨(y143), (x4_2), (wrap64 (x14_1 + 1)), rS, H', ⟨mO⟩, ⟨sU HO145.out⟩, ⟨rU HO_4.out⟩, ⟨bU0 HB.out⟩⟩
     ·
      rw [if_neg c15] at H; have c15b0 := decide_eq_false c15; have c15b1 : decide (0 < x6_2.length) = false := decide_eq_false (by omega); clear c15; have H' := Az H; clear H; obtain ⟨Ao20, co20, eo20⟩ := Kd.R_slice HO_4.out; subst eo20; obtain ⟨ad142, e142, p142, q142, hx142_0⟩ := aB (Kd.R_reads' HO_4.out).2.2 x7_2; rw [← Nbq13.out] at hx142_0
      cases e142; obtain ⟨Ao21, co21, eo21⟩ := Kd.R_slice HO_6.out; subst eo21; go_wp2; go_roundg k2
      case measure => exact mO
      case rel => exact ⟨(x3_1), (x4_2), (wrap64 (x14_1 + 1)), rS, H', ⟨mO⟩, ⟨sM HO_3.out⟩, ⟨rU HO_4.out⟩, ⟨bU0 HB.out⟩⟩
    ·
     replace c14 := Bool.eq_false_iff.mpr c14; subst c14; rw [if_neg nT] at H; generalize Ny146 : (x4_2.set (x7_2 : Int).toNat true : List Bool) = y146 at H; replace Ny146 := Ay Ny146; replace H := gP H; obtain ⟨c23, H⟩ := H; have LMc23 := Az c23; clear c23; generalize Ny147 : (x6_2 ++ [x7_2] : List Int) = y147 at H; replace Ny147 := Ay Ny147; replace H := gD1 H; obtain ⟨c24b0, H⟩ := H; have H' := Az H; clear H; obtain ⟨Ao25, co25, eo25⟩ := Kd.R_slice HO_4.out; subst eo25; obtain ⟨ad142, e142, p142, q142, hx142_0⟩ := aB (Kd.R_reads' HO_4.out).2.2 x7_2; rw [← Nbq13.out] at hx142_0
     cases e142; have p22 : 0 ≤ (x7_2 : Int) := oA; have q22 : (x7_2 : Int) < ((x4_2.length : Int) : Int) := oA; obtain ⟨go22, co22, eo22, gb22, gl22, cl22, HG22⟩ := Kd.R_form HO_4.out (by omega); (first | cases eo22 | (injection eo22 with ea_ en_ ec_; (first | subst ea_ | (injection ea_ with ea_; subst ea_)); subst ec_; clear en_)); have GB22 := Az gb22; have GG22 := Az HG22; clear gb22 gl22 HG22; simp only [add_plain] at hx142_0; obtain ⟨hx22_0, hf22_0⟩ := Kd.R_celln false HO_4.out (x7_2 : Int) p22 q22; replace p22 := eq_true p22; replace q22 := eq_true q22; obtain ⟨hy26_, hz26_⟩ := Kd.R_celln false HO_4.out (x7_2 : Int) (oA) (oA); have HP26 := Kd.R_putg HO_4.out (x7_2 : Int) true
     go_wp2_with (first | ((with_reducible refine gs 4 30 rfl ?_); refine sE 4 30 (wr.setCell ⟨go22, (x7_2 : Int).toNat, none⟩ (.bool true)) ?_; intro w27 hw; have hg : wr.grownBy w27 (some go22) := (by rw [hw]; exact HP26.2); have hp_ : Kd.R Kd.bool 4 w27 w.heap.size (fun _ => True) (.slice (some ⟨go22, 0, none⟩) x4_2.length co25) y146 := (by rw [hw, Ny146.out]; exact HP26.1); clear HP26; replace HO_3 := Az (Kd.S_over' (v := (.slice (some ⟨go22, 0, none⟩) x4_2.length co25)) (sU HO_3.out) (Kd.R_typed HO_4.out) (by decide) hg); replace HO_6 := Az (Kd.R_over' (v := (.slice (some ⟨go22, 0, none⟩) x4_2.length co25)) (rU HO_6.out) (Kd.R_typed HO_4.out) (by decide) hg); replace HO_4 := Az (hp_); replace HB := Az ((by rw [hw]; exact below_set (HB.out) GB22.out : Below w.heap.size w w27)); clear hg hw hp_) | ((with_reducible refine gate_builtin (b := .append) (xs := #[.tmp 31, .tmp 33]) rfl ?_); at_builtin; refine Kd.R_append (Kd.int .i64) (w0 := w) w.heap.size rfl (.tmp 31) (.tmp 33) 23 3 (.int .i64 0) 8 rfl Try.underlying23 info3 rfl (by decide) (by omega) u6 x6_2 x7_2 [.int .i64 x7_2] (fun _ => True) (fun _ => False) rfl rfl ?aP (fun _ hk => hk.elim) ?aF ?aO ?aB ?aS ?aL ?_; (case aP => exact rfl); (case aB => exact (bU0 HB.out)); (case aF => exact (fun _ _ => trivial)); (case aO => exact (rU HO_6.out)); (case aS => exact (below_size (bU0 HB.out))); (case aL => have := LMc23.out; omega); intro v148 w28 ho hb hg hat; rw [← Ny147.out] at ho; replace HO_3 := Az (Kd.S_after (ok := (fun _ => True)) (sM HO_3.out) hg hat); replace HO_4 := Az (Kd.R_over' (rU HO_4.out) (Kd.R_typed (rU HO_6.out)) (by decide) hg); replace HB := Az (hb); have HO149 := Az (ho); clear HO_6 ho hb hg hat; obtain ⟨ad150, e150, _, _, hx150_0⟩ := aI HR0.out x7_2; cases e150; replace hx150_0 := hT HB.out hx150_0))
     go_roundg k2
     case measure => exact mO
     case rel => exact ⟨(y146), (y147), (rd l0 x7_2), rS, H', ⟨mO⟩, ⟨sM HO_3.out⟩, ⟨rU HO_4.out⟩, ⟨rU HO149.out⟩, ⟨bU0 HB.out⟩⟩
  · rw [if_neg c8] at H; have c8b0 := decide_eq_false c8; clear c8; obtain rfl := Option.some.inj H; go_wp2; go_ret; exact ⟨_, rE, sU HO_3.out, bU0 HB.out⟩
def impl_mul.l0 : Nat → List Int → List Int → List Int → Int → Int → Option (List Int)
 | 0, _, _, _, _, _ => none
 | k + 1, x1, x5, x11, x12, x13 => if x13 < x12 then (if 0 ≤ x13 then (if x13 < (x11.length : Int) then (if 0 ≤ (rd x11 x13) then (if (rd x11 x13) < (x1.length : Int) then (if x13 < (x5.length : Int) then (impl_mul.l0 k x1 (x5.set (x13 : Int).toNat (rd x1 (rd x11 x13))) x11 x12 (wrap64 (x13 + 1))) else (none)) else (none)) else (none)) else (none)) else (none)) else (some x5)
def impl_mul.f (k : Nat) (l0 : List Int) (l1 : List Int) : Option (List Int) := if 0 ≤ (l0.length : Int) then (if ((l0.length : Int) : Int).toNat ≤ 35184372088832 then (impl_mul.l0 k l1 (List.replicate ((l0.length : Int) : Int).toNat 0) l0 (l0.length : Int) 0) else (none)) else (none)
set_option maxHeartbeats 8000000 in
set_option maxRecDepth 100000 in
theorem impl_mul.calls (k : Nat) (A0 : Option Addr) (c0 : Nat) (l0 : List Int) (A1 : Option Addr) (c1 : Nat) (l1 : List Int) (r : List Int) (w : World) (hr0 : Kd.C (Kd.int .i64) w A0 l0.length l0) (hc0 : l0.length ≤ c0) (hr1 : Kd.C (Kd.int .i64) w A1 l1.length l1) (hc1 : l1.length ≤ c1) (h : impl_mul.f k l0 l1 = some r) :
  Calls Try.prog 67 #[.slice A0 l0.length c0, .slice A1 l1.length c1] w fun e w' => ∃ v0_ : Value, e = .returned (v0_) ∧ Kd.R (Kd.int .i64) 3 w' w.heap.size (fun _ => True) v0_ r ∧ Below w.heap.size w w' := by
 have HR0 := Az hr0; have HC0 := Az hc0; clear hr0 hc0; have HR1 := Az hr1; have HC1 := Az hc1; clear hr1 hc1; have HB := bZ w; have H := h; clear h; unfold impl_mul.f at H; replace H := gE H; obtain ⟨c3b0, c3b1, H⟩ := H; replace H := gE H; obtain ⟨c4b0, c4b1, H⟩ := H; generalize Ny151 : (List.replicate ((l0.length : Int) : Int).toNat 0 : List Int) = y151 at H; replace Ny151 := Ay Ny151; have H' := Az H; clear H; go_enter Try.func67, Try.ntmps67
 go_wp2_with (first | ((with_reducible refine gd 10 rfl ?_); refine Kd.R_make (Kd.int .i64) _ 3 rfl (N := 10) rfl 23 _ _ rfl (l0.length : Int) rfl rfl Try.underlying23 (.int .i64 0) 8 info3 rfl (by decide) (by omega) 0 (ok := fun _ => True) (okp := fun _ => True) rfl (fun _ hk => hk) trivial (oA) (Nat.le_trans (Nat.mul_le_mul_right _ (oA : (l0.length : Int).toNat ≤ 35184372088832)) (by omega)) (Below.refl _ _) (Nat.le_refl _) ?_; intro v152 w5 ho6 hb hg_ hnew_; clear hg_ hnew_; (first | rw [← Ny151.out] at ho6 | (simp only [Int.reduceToNat] at ho6; rw [← Ny151.out] at ho6)); have HO153 := Az (Kd.R_lower ho6 (below_size (bU0 HB.out))); replace HB := Az (below_step (bU0 HB.out) hb); clear hb ho6))
 go_loopg [13] k (fun kq v13 w' => ∃ (x5_1 : List Int) (x13_1 : Int), v13 = .int .i64 x13_1 ∧ Aside0 (impl_mul.l0 kq l1 x5_1 l0 (l0.length : Int) x13_1 = some r) ∧ Aside0 (kq ≤ k) ∧ Aside0 (Kd.R (Kd.int .i64) 3 w' w.heap.size (fun _ => True) v152 x5_1) ∧ Aside0 (Below w.heap.size w w'))
 case atStart => exact ⟨(y151), (0), rS, H', ⟨Nat.le_refl _⟩, ⟨rU HO153.out⟩, ⟨bU0 HB.out⟩⟩
 case round =>
  clear H'; obtain ⟨x5_1, x13_1, rfl, HA, HK1, HO_5, HB⟩ := hrel
  rcases gk with _ | k1
  exact (nN HA.out).elim; have H := HA.out; clear HA; simp only [impl_mul.l0] at H
  replace H := gB H; rcases H with ⟨c7b0, H⟩ | ⟨c7b0, H⟩
  ·
   replace H := gD5 H; obtain ⟨c8b0, c9b0, c10b0, c11b0, c12b0, H⟩ := H; generalize Ny156 : (x5_1.set (x13_1 : Int).toNat (rd l1 (rd l0 x13_1)) : List Int) = y156 at H; replace Ny156 := Ay Ny156; have H' := Az H; clear H; obtain ⟨ad154, e154, _, _, hx154_0⟩ := aI HR0.out x13_1
   cases e154
   replace hx154_0 := hT HB.out hx154_0; obtain ⟨ad155, e155, _, _, hx155_0⟩ := aI HR1.out (rd l0 x13_1)
   cases e155
   replace hx155_0 := hT HB.out hx155_0; have p13 : 0 ≤ (x13_1 : Int) := oA; have q13 : (x13_1 : Int) < ((x5_1.length : Int) : Int) := oA; obtain ⟨go13, co13, eo13, gb13, gl13, cl13, HG13⟩ := Kd.R_form HO_5.out (by omega); (first | cases eo13 | (injection eo13 with ea_ en_ ec_; (first | subst ea_ | (injection ea_ with ea_; subst ea_)); subst ec_; clear en_)); have GB13 := Az gb13; have GG13 := Az HG13; clear gb13 gl13 HG13; obtain ⟨hx13_0, hf13_0⟩ := Kd.R_celln 0 HO_5.out (x13_1 : Int) p13 q13; replace p13 := eq_true p13; replace q13 := eq_true q13; obtain ⟨hy14_, hz14_⟩ := Kd.R_celln 0 HO_5.out (x13_1 : Int) (oA) (oA); have HP14 := Kd.R_putg HO_5.out (x13_1 : Int) (rd l1 (rd l0 x13_1))
   go_wp2_with (first | ((with_reducible refine gs 3 24 rfl ?_); refine sE 3 24 (wr.setCell ⟨go13, (x13_1 : Int).toNat, none⟩ (.int .i64 (rd l1 (rd l0 x13_1)))) ?_; intro w15 hw; have hg : wr.grownBy w15 (some go13) := (by rw [hw]; exact HP14.2); have hp_ : Kd.R (Kd.int .i64) 3 w15 w.heap.size (fun _ => True) (.slice (some ⟨go13, 0, none⟩) x5_1.length co13) y156 := (by rw [hw, Ny156.out]; exact HP14.1); clear HP14; replace HO_5 := Az (hp_); replace HB := Az ((by rw [hw]; exact below_set (HB.out) GB13.out : Below w.heap.size w w15)); clear hg hw hp_))
   go_roundg k1
   case measure => exact mO
   case rel => exact ⟨(y156), (wrap64 (x13_1 + 1)), rS, H', ⟨mO⟩, ⟨rU HO_5.out⟩, ⟨bU0 HB.out⟩⟩
  · obtain rfl := Option.some.inj H; go_wp2; go_ret; exact ⟨_, rE, rU HO_5.out, bU0 HB.out⟩
def impl_MapCounts.f (k : Nat) (l0_0 : List Int) (l0_1 : List Int) : Option (List Int × Bool) := (impl_MapValid.f k l0_0 l0_1).bind fun t158 => (if t158 = true then ((impl_cyclesOf.f k l0_0).bind fun t159 => ((impl_mul.f k l0_1 l0_0).bind fun t162 => ((impl_cyclesOf.f k t162).bind fun t165 => (some ((([(t159.length : Int), wrap64 ((l0_1.length : Int) / 2), (t165.length : Int)] : List Int)), true))))) else (some (([] : List Int), false)))
def impl_MapCounts.T3 : Bool × List (List Nat × List Nat) := (true, [([], []), ([0], [0]), ([1], [1]), ([2], [2]), ([], []), ([4], [4]), ([5], [5]), ([6], [6]), ([], []), ([8], [8]), ([], []), ([10], [10]), ([9, 11, 2], [9, 11]), ([12, 12], [12]), ([13], [13]), ([3, 7, 14], [3, 7, 14]), ([15, 13, 0, 1, 2, 3, 4, 5, 6, 7, 8, 9, 10, 11, 12, 13, 14, 15], [15]), ([16, 0, 1, 2, 3, 4, 5, 6, 7, 8, 9, 10, 11, 12, 13, 14, 15, 16], [])])
def impl_MapCounts.B3 : List Nat := [0, 1, 3, 7, 0, 16, 48, 112, 0, 256, 0, 1024, 3847, 7943, 16135, 32767, 65535, 131071]
theorem impl_MapCounts.tab3 : rtab .any (opsOf Try.f16 3) = impl_MapCounts.T3 := by kernel_rfl
theorem impl_MapCounts.bits3 : waitsOk impl_MapCounts.T3.2 impl_MapCounts.B3 = true := by kernel_rfl
set_option maxHeartbeats 8000000 in
set_option maxRecDepth 100000 in
theorem impl_MapCounts.calls (k : Nat) (A0_0 : Option Addr) (c0_0 : Nat) (l0_0 : List Int) (A0_1 : Option Addr) (c0_1 : Nat) (l0_1 : List Int) (r1 : List Int) (r2 : Bool) (w : World) (hr0_0 : Kd.C (Kd.int .i64) w A0_0 l0_0.length l0_0) (hc0_0 : l0_0.length ≤ c0_0) (hr0_1 : Kd.C (Kd.int .i64) w A0_1 l0_1.length l0_1) (hc0_1 : l0_1.length ≤ c0_1) (h : impl_MapCounts.f k l0_0 l0_1 = some (r1, r2)) :
  Calls Try.prog 16 #[.agg #[.slice A0_0 l0_0.length c0_0, .slice A0_1 l0_1.length c0_1]] w fun e w' => ∃ v0_ : Value, e = .returned (.tuple #[v0_, .bool r2]) ∧ Kd.R (Kd.int .i64) 3 w' w.heap.size (fun _ => True) v0_ r1 ∧ Below w.heap.size w w' := by
 have hu25 := Try.underlying25; have HR0_0 := Az hr0_0; have HC0_0 := Az hc0_0; clear hr0_0 hc0_0; have HR0_1 := Az hr0_1; have HC0_1 := Az hc0_1; clear hr0_1 hc0_1; have HB := bZ w; have H := h; clear h; unfold impl_MapCounts.f at H; replace H := bd H; obtain ⟨t158, A2, H⟩ := H
 by_cases c3 : t158 = true
 ·
  subst c3; rw [if_pos rfl] at H; replace H := bd H; obtain ⟨t159, A4, H⟩ := H; replace H := bd H; obtain ⟨t162, A5, H⟩ := H; replace H := bd H; obtain ⟨t165, A6, H⟩ := H; generalize Ny168 : (([(t159.length : Int), wrap64 ((l0_1.length : Int) / 2), (t165.length : Int)] : List Int) : List Int) = y168 at H; replace Ny168 := Ay Ny168; simp only [Option.some.injEq, Prod.mk.injEq] at H; obtain ⟨rfl, rfl⟩ := H; go_enter Try.func16, Try.ntmps16
  try go_wp2_with (first | ((with_reducible refine gd 1 rfl ?_); refine bE 1 #[.slice A0_0 l0_0.length c0_0, .slice A0_1 l0_1.length c0_1] 25 ?_; intro gb157 hg w7 hbox hb; have BK157 := Az (hbox); have GW157 := gW hg (bU0 HB.out); replace HB := Az (below_step (bU0 HB.out) hb); clear hb hbox hg; have hz8 := bc2 BK157.out) | ((with_reducible refine gK 65 rfl ?_); refine gC (some 5) Try.func65 #[.agg #[.slice A0_0 l0_0.length c0_0, .slice A0_1 l0_1.length c0_1]] ?_; (with_reducible refine (impl_MapValid.calls k (fun k_ => k_ < w.heap.size) _ _ l0_0 (fun k_ => k_ < w.heap.size) _ _ l0_1 true _ ?_ ?_ A2.out).mono ?_); exact Kd.V_mk HC0_0.out (Kd.F_below (Kd.C_F (Kd.heap_int .i64) HR0_0.out) (bU1 HB.out GW157.out)); exact Kd.V_mk HC0_1.out (Kd.F_below (Kd.C_F (Kd.heap_int .i64) HR0_1.out) (bU1 HB.out GW157.out)); rintro e w9 ⟨rfl, hb⟩; refine ⟨_, rfl, ?_⟩; replace BK157 := kB BK157.out hb; replace HB := Az z1_7; clear hb))
  replace BK157 := Az (blk_drew BK157.out); replace HB := Az (below_drew1 HB.out); refine start_ (n := 18) (S := fun w' => w'.cell? ⟨gb157, 0, none⟩ = some (.slice A0_0 l0_0.length c0_0) ∧ w'.cell? ⟨gb157, 1, none⟩ = some (.slice A0_1 l0_1.length c0_1)) (ds := []) (bv 18 0) (by kernel_rfl) rfl rfl ⟨(blk_cell BK157.out 0).trans rfl, (blk_cell BK157.out 1).trans rfl⟩ (fun hHeld => ?_); refine with_tabW impl_MapCounts.tab3 impl_MapCounts.bits3 (fun HT_ HW_ => ?_); generalize w9.drew = w10 at BK157 HB hHeld ⊢; refine pure_ (i := 0) (N := some 7) (v := ?_) (a' := ?_) (bv 18 1) rfl rfl (any_of HT_.out (by kernel_rfl)) (fun _ _ _ h => h) (Or.inl ⟨by rfl, ?_⟩) ?_ ?_; rotate_left; (exact yP); rotate_left; (exact aP); refine pure_ (i := 4) (N := some 11) (v := ?_) (a' := ?_) (bv 18 17) rfl rfl (any_of HT_.out (by kernel_rfl)) (fun _ _ _ h => h) (Or.inl ⟨by rfl, ?_⟩) ?_ ?_; rotate_left; (exact yP); rotate_left; (exact aP); refine pure_ (i := 8) (N := some 15) (v := ?_) (a' := ?_) (bv 18 273) rfl rfl (any_of HT_.out (by kernel_rfl)) (fun _ _ _ h => h) (Or.inl ⟨by rfl, ?_⟩) ?_ ?_; rotate_left; (exact yP); rotate_left; (exact aP); refine pure_ (i := 10) (N := some 17) (v := ?_) (a' := ?_) (bv 18 1297) rfl rfl (any_of HT_.out (by kernel_rfl)) (fun _ _ _ h => h) (Or.inl ⟨by rfl, ?_⟩) ?_ ?_; rotate_left; (exact yP); rotate_left; (exact aP); refine take_ (i := 1) (N := some 8) (v := ?_) (a' := ?_) (bv 18 1299) rfl rfl (take_ofW HT_.out HW_.out (by kernel_rfl)) (fun _ _ _ h => h) (Or.inl ⟨by rfl, ?_⟩) hHeld ?_ ?_; rotate_left
  ·
   rintro w' ⟨s0, s1⟩; go_simp
   with_reducible rfl
  rotate_left; (exact aP); refine take_ (i := 5) (N := some 12) (v := ?_) (a' := ?_) (bv 18 1331) rfl rfl (take_ofW HT_.out HW_.out (by kernel_rfl)) (fun _ _ _ h => h) (Or.inl ⟨by rfl, ?_⟩) hHeld ?_ ?_; rotate_left
  ·
   rintro w' ⟨s0, s1⟩; go_simp
   with_reducible rfl
  rotate_left; (exact aP); refine pure_ (i := 6) (N := some 13) (v := ?_) (a' := ?_) (bv 18 1395) rfl rfl (any_of HT_.out (by kernel_rfl)) (fun _ _ _ h => h) (Or.inl ⟨by rfl, ?_⟩) ?_ ?_; rotate_left; (exact yP); rotate_left; (exact aP); refine pure_ (i := 7) (N := some 14) (v := ?_) (a' := ?_) (bv 18 1523) rfl rfl (any_of HT_.out (by kernel_rfl)) (fun _ _ _ h => h) (Or.inl ⟨by rfl, ?_⟩) ?_ ?_; rotate_left; (exact yP); rotate_left; (exact aP); refine take_ (i := 9) (N := some 16) (v := ?_) (a' := ?_) (bv 18 2035) rfl rfl (take_ofW HT_.out HW_.out (by kernel_rfl)) (fun _ _ _ h => h) (Or.inl ⟨by rfl, ?_⟩) hHeld ?_ ?_; rotate_left
  ·
   rintro w' ⟨s0, s1⟩; go_simp
   with_reducible rfl
  rotate_left; (exact aP); refine take_ (i := 11) (N := some 18) (v := ?_) (a' := ?_) (bv 18 4083) rfl rfl (take_ofW HT_.out HW_.out (by kernel_rfl)) (fun _ _ _ h => h) (Or.inl ⟨by rfl, ?_⟩) hHeld ?_ ?_; rotate_left
  ·
   rintro w' ⟨s0, s1⟩; go_simp
   with_reducible rfl
  rotate_left; (exact aP); refine one_ (i := 2) (N := some 9) (bv 18 4087) rfl rfl (one_of HT_.out (by kernel_rfl)) (by decide) (fun K hK => ?_); refine goes_ Try.func66 (by kernel_rfl) rfl #[.slice A0_0 l0_0.length c0_0] (by rfl) rfl rfl lQ ?_
  with_reducible refine (impl_cyclesOf.calls k _ _ l0_0 t159 _ ?side1 ?side2 A4.out).mono ?_
  (case side1 => exact cU (Kd.C_below HR0_0.out HB.out))
  (case side2 => exact HC0_0.out)
  rintro e w11 ⟨v160, rfl, ho0, hb⟩; refine ⟨_, rfl, ?_⟩; have HO161 := Az (Kd.S_lower ho0 (below_size (bU1 HB.out GW157.out))); replace BK157 := kB BK157.out hb; replace HB := Az z1_7; clear hb ho0; obtain ⟨Ao12, co12, eo12⟩ := Kd.S_slice HO161.out; (first | subst eo12 | (injection eo12 with f1_ f2_ f3_; have f4_ := f1_.symm; have f5_ := f3_.symm; clear f1_ f2_ f3_; subst f4_; subst f5_)); refine hK.out _ _ ⟨(blk_cell BK157.out 0).trans rfl, (blk_cell BK157.out 1).trans rfl⟩ (fun hHeld => ?_); clear hK K; refine norm_ (a' := ?_) ?_ ?_; rotate_left
  ·
   show Act.put _ (some 9) _ = _
   simp only [Act.put, List.setIfInBounds_toArray, List.set_cons_zero, List.set_cons_succ, i64_w, i32_w]; rfl
  refine pure_ (i := 3) (N := some 10) (v := ?_) (a' := ?_) (bv 18 4095) rfl rfl (any_of HT_.out (by kernel_rfl)) (fun _ _ _ h => h) (Or.inl ⟨by rfl, ?_⟩) ?_ ?_; rotate_left; (exact yP); rotate_left; (exact aP); refine one_ (i := 12) (N := some 19) (bv 18 8191) rfl rfl (one_of HT_.out (by kernel_rfl)) (by decide) (fun K hK => ?_); refine goes_ Try.func67 (by kernel_rfl) rfl #[.slice A0_1 l0_1.length c0_1, .slice A0_0 l0_0.length c0_0] (by rfl) rfl rfl lQ ?_
  with_reducible refine (impl_mul.calls k _ _ l0_1 _ _ l0_0 t162 _ ?side1 ?side2 ?side3 ?side4 A5.out).mono ?_
  (case side1 => exact cU (Kd.C_below HR0_1.out HB.out))
  (case side2 => exact HC0_1.out)
  (case side3 => exact cU (Kd.C_below HR0_0.out HB.out))
  (case side4 => exact HC0_0.out)
  rintro e w13 ⟨v163, rfl, ho0, hb⟩; refine ⟨_, rfl, ?_⟩; replace HO161 := Az (Kd.S_elder' (sU HO161.out) (Kd.R_base ho0) hb); have HO164 := Az (Kd.R_lower ho0 (below_size (bU1 HB.out GW157.out))); replace BK157 := kB BK157.out hb; replace HB := Az z1_7; clear hb ho0; obtain ⟨Ao14, co14, eo14⟩ := Kd.R_slice HO164.out; (first | subst eo14 | (injection eo14 with f1_ f2_ f3_; have f4_ := f1_.symm; have f5_ := f3_.symm; clear f1_ f2_ f3_; subst f4_; subst f5_)); refine hK.out _ _ ⟨(blk_cell BK157.out 0).trans rfl, (blk_cell BK157.out 1).trans rfl⟩ (fun hHeld => ?_); clear hK K; refine norm_ (a' := ?_) ?_ ?_; rotate_left
  ·
   show Act.put _ (some 19) _ = _
   simp only [Act.put, List.setIfInBounds_toArray, List.set_cons_zero, List.set_cons_succ, i64_w, i32_w]; rfl
  refine one_ (i := 13) (N := some 20) (bv 18 16383) rfl rfl (one_of HT_.out (by kernel_rfl)) (by decide) (fun K hK => ?_); refine goes_ Try.func66 (by kernel_rfl) rfl #[.slice Ao14 t162.length co14] (by rfl) rfl rfl lQ ?_
  with_reducible refine (impl_cyclesOf.calls k _ _ t162 t165 _ ?side1 ?side2 A6.out).mono ?_
  (case side1 => exact cU ((Kd.R_reads' HO164.out).2.2))
  (case side2 => exact (Kd.R_reads' HO164.out).2.1)
  rintro e w15 ⟨v166, rfl, ho0, hb⟩; refine ⟨_, rfl, ?_⟩; have HO167 := Az (Kd.S_lower (Kd.S_new' (Kd.S_new' ho0 (Kd.S_lt (sU HO161.out))) (Kd.R_lt (rU HO164.out))) (below_size (bU1 HB.out GW157.out))); replace HO161 := Az (Kd.S_elder' (sU HO161.out) (Kd.S_base ho0) hb); replace HO164 := rB HO164.out hb; replace BK157 := kB BK157.out hb; replace HB := Az z1_7; clear hb ho0; obtain ⟨Ao16, co16, eo16⟩ := Kd.S_slice HO167.out; (first | subst eo16 | (injection eo16 with f1_ f2_ f3_; have f4_ := f1_.symm; have f5_ := f3_.symm; clear f1_ f2_ f3_; subst f4_; subst f5_)); refine hK.out _ _ ⟨(blk_cell BK157.out 0).trans rfl, (blk_cell BK157.out 1).trans rfl⟩ (fun hHeld => ?_); clear hK K; refine norm_ (a' := ?_) ?_ ?_; rotate_left
  ·
   show Act.put _ (some 20) _ = _
   simp only [Act.put, List.setIfInBounds_toArray, List.set_cons_zero, List.set_cons_succ, i64_w, i32_w]; rfl
  refine pure_ (i := 14) (N := some 21) (v := ?_) (a' := ?_) (bv 18 32767) rfl rfl (any_of HT_.out (by kernel_rfl)) (fun _ _ _ h => h) (Or.inl ⟨by rfl, ?_⟩) ?_ ?_; rotate_left; (exact yP); rotate_left; (exact aP); refine one_ (i := 15) (N := some 22) (bv 18 65535) rfl rfl (one_of HT_.out (by kernel_rfl)) (by decide) (fun K hK => ?_); refine Kd.R_lit_step (Kd.int .i64) _ 3 ?hg (N := 22) ?hd (xs := ([(t159.length : Int), wrap64 ((l0_1.length : Int) / 2), (t165.length : Int)] : List Int)) (inner := [.int .i64 (t159.length : Int), .int .i64 (wrap64 ((l0_1.length : Int) / 2)), .int .i64 (t165.length : Int)]) (ok := fun _ => True) (okp := fun _ => True) ?hr ?hp (fun _ hk => hk) trivial (Below.refl _ _) (Nat.le_refl _) (by simp) ?_; (case hd => rfl); (case hg => rfl); (case hr => first | (go_simp; done) | (go_simp; rfl)); (case hp => exact (Reps.one (show Kd.M (Kd.int .i64) _ _ _ (t159.length : Int) [.int .i64 (t159.length : Int)] from rfl) (Reps.one (show Kd.M (Kd.int .i64) _ _ _ (wrap64 ((l0_1.length : Int) / 2)) [.int .i64 (wrap64 ((l0_1.length : Int) / 2))] from rfl) (Reps.one (show Kd.M (Kd.int .i64) _ _ _ (t165.length : Int) [.int .i64 (t165.length : Int)] from rfl) (Reps.none _ _))))); intro v169 w17 ho18 hb hg_ hnew_; clear hg_ hnew_; (first | rw [← Ny168.out] at ho18 | (simp only [Int.reduceToNat] at ho18; rw [← Ny168.out] at ho18)); replace HO161 := Az (Kd.S_elder' (sU HO161.out) (Kd.R_base ho18) hb); replace HO167 := Az (Kd.S_elder' (sU HO167.out) (Kd.R_base ho18) hb); have HO170 := Az (Kd.R_lower (Kd.R_new' ho18 (Kd.R_lt (rU HO164.out))) (below_size (bU1 HB.out GW157.out))); replace HO164 := Az (Kd.R_elder' (rU HO164.out) (Kd.R_base ho18) hb); replace BK157 := kB BK157.out hb; replace HB := Az z1_7; clear hb ho18; refine hK.out _ _ ⟨(blk_cell BK157.out 0).trans rfl, (blk_cell BK157.out 1).trans rfl⟩ (fun hHeld => ?_); clear hK K; refine norm_ (a' := ?_) ?_ ?_; rotate_left
  ·
   show Act.put _ (some 22) _ = _
   simp only [Act.put, List.setIfInBounds_toArray, List.set_cons_zero, List.set_cons_succ, i64_w, i32_w]; rfl
  refine pure_ (i := 16) (N := some 2) (v := ?_) (a' := ?_) (bv 18 131071) rfl rfl (any_of HT_.out (by kernel_rfl)) (fun _ _ _ h => h) (Or.inl ⟨by rfl, ?_⟩) ?_ ?_; rotate_left; (exact yP); rotate_left; (exact aP); refine pure_ (i := 17) (N := some 3) (v := ?_) (a' := ?_) (bv 18 262143) rfl rfl (any_of HT_.out (by kernel_rfl)) (fun _ _ _ h => h) (Or.inl ⟨by rfl, ?_⟩) ?_ ?_; rotate_left; (exact yP); rotate_left; (exact aP); refine done_ (done_of HT_.out (by kernel_rfl)) ?_
  try go_wp2
  go_ret2
  exact ⟨_, rE, by (with_reducible repeat (first | apply Kd.R_alloc | apply Kd.R_drewN | apply Kd.R_drew)); exact Kd.R_mono HO170.out (fun _ hk => trivial), bU1 HB.out GW157.out⟩
 ·
  replace c3 := Bool.eq_false_iff.mpr c3; subst c3; rw [if_neg nT] at H; simp only [Option.some.injEq, Prod.mk.injEq] at H; obtain ⟨rfl, rfl⟩ := H; go_enter Try.func16, Try.ntmps16
  go_wp2_with (first | ((with_reducible refine gd 1 rfl ?_); refine bE 1 #[.slice A0_0 l0_0.length c0_0, .slice A0_1 l0_1.length c0_1] 25 ?_; intro gb157 hg w19 hbox hb; have BK157 := Az (hbox); have GW157 := gW hg (bU0 HB.out); replace HB := Az (below_step (bU0 HB.out) hb); clear hb hbox hg; have hz20 := bc2 BK157.out) | ((with_reducible refine gK 65 rfl ?_); refine gC (some 5) Try.func65 #[.agg #[.slice A0_0 l0_0.length c0_0, .slice A0_1 l0_1.length c0_1]] ?_; (with_reducible refine (impl_MapValid.calls k (fun k_ => k_ < w.heap.size) _ _ l0_0 (fun k_ => k_ < w.heap.size) _ _ l0_1 false _ ?_ ?_ A2.out).mono ?_); exact Kd.V_mk HC0_0.out (Kd.F_below (Kd.C_F (Kd.heap_int .i64) HR0_0.out) (bU1 HB.out GW157.out)); exact Kd.V_mk HC0_1.out (Kd.F_below (Kd.C_F (Kd.heap_int .i64) HR0_1.out) (bU1 HB.out GW157.out)); rintro e w21 ⟨rfl, hb⟩; refine ⟨_, rfl, ?_⟩; replace BK157 := kB BK157.out hb; replace HB := Az z1_7; clear hb))
  go_ret2
  exact ⟨_, rE, by first | exact Kd.R_nil _ _ _ _ _ | exact Kd.N_nil _ _ _ _ _ | exact Kd.V_nil _ _ _ _ _ | exact Kd.Q_nil _ _ _ _ _ | exact Kd.S_nil _ _ _ _ _, bU1 HB.out GW157.out⟩
def slices_Clone_int_int.f (l0 : List Int) : Option (List Int) := if l0.length < 17592186044416 then some l0 else none
set_option maxHeartbeats 8000000 in
set_option maxRecDepth 100000 in
theorem slices_Clone_int_int.calls (A0 : Option Addr) (c0 : Nat) (l0 : List Int) (r : List Int) (w : World) (hr0 : Kd.C (Kd.int .i64) w A0 l0.length l0) (hc0 : l0.length ≤ c0) (h : slices_Clone_int_int.f l0 = some r) :
  Calls Try.prog 68 #[.slice A0 l0.length c0] w fun e w' => ∃ v0_ : Value, e = .returned (v0_) ∧ Kd.R (Kd.int .i64) 3 w' w.heap.size (fun _ => True) v0_ r ∧ Below w.heap.size w w' := by
 have HR0 := Az hr0; have HC0 := Az hc0
 have hnil : A0 = none → l0 = [] := by
  intro e; have h' := Kd.reads_of_C (d := (0 : Int)) hr0
  by_cases hn : 0 < l0.length
  ·
   obtain ⟨ad, e2, _⟩ := h'.2.2 hn; rw [e] at e2
   cases e2
  · exact List.eq_nil_of_length_eq_zero (by omega)
 clear hr0 hc0; have HB := bZ w
 unfold slices_Clone_int_int.f at h
 by_cases c2 : l0.length < 17592186044416
 ·
  rw [if_pos c2] at h; have LMc2 := Az c2; clear c2; obtain rfl := Option.some.inj h; clear h
  cases A0 with
  | none =>
   obtain rfl := hnil rfl
   have he : ∀ w : World, (binOp .eql 23 (.slice none 0 c0) (.slice none 0 0)).run Try.prog w = .ok (.bool true) w := fun _ => rfl
   go_enter Try.func68, Try.ntmps68; go_wp2; go_ret; exact ⟨_, rfl, Kd.R_nil _ _ _ _ _, HB.out⟩
  | some ad =>
   clear hnil
   have he : ∀ w : World, (binOp .eql 23 (.slice (some ad) l0.length c0) (.slice none 0 0)).run Try.prog w = .ok (.bool false) w := fun _ => rfl
   obtain ⟨y1, hy1⟩ : ∃ y_ : List Int, y_ = (([] : List Int)) := ⟨_, rfl⟩; obtain ⟨y2, hy2⟩ : ∃ y_ : List Int, y_ = (y1 ++ l0) := ⟨_, rfl⟩
   have e2 : y2 = l0 := by rw [hy2, hy1]; rfl
   have Ny1 := Az hy1; have Ny2 := Az hy2
   have hl1 : y1.length + l0.length < 17592186044416 := by rw [hy1]; have := LMc2.out; simpa using this
   have LMc3 := Az hl1; clear hy1 hy2 hl1; go_enter Try.func68, Try.ntmps68
   go_wp2_with (first | ((with_reducible refine gd 5 rfl ?_); refine Kd.R_lit (Kd.int .i64) _ 3 rfl (N := 5) rfl (xs := ([] : List Int)) (inner := []) (ok := fun _ => True) (okp := fun _ => True) hS ?hp (fun _ hk => hk) trivial (Below.refl _ _) (Nat.le_refl _) (by simp) ?_; (case hp => exact (Reps.none _ _)); intro v189 w3 ho4 hb hg_ hnew_; clear hg_ hnew_; (first | rw [← Ny1.out] at ho4 | (simp only [Int.reduceToNat] at ho4; rw [← Ny1.out] at ho4)); have HO190 := Az (Kd.R_lower ho4 (below_size (bU0 HB.out))); replace HB := Az (below_step (bU0 HB.out) hb); clear hb ho4) | ((with_reducible refine gate_builtin (b := .append) (xs := #[.tmp 5, .tmp 6]) rfl ?_); at_builtin; refine Kd.R_append_rows (Kd.int .i64) (w0 := w) w.heap.size rfl (.tmp 5) (.tmp 6) 23 3 (.int .i64 0) 8 rfl Try.underlying23 info3 rfl (by decide) (by omega) v189 y1 l0 _ _ _ (fun _ => True) (fun _ => False) rfl rfl ?aO ?aR (fun _ _ h => h) (fun _ h => h.elim) ?aF ?aB ?aS ?aL ?_; (case aR => exact cU (Kd.C_below HR0.out HB.out)); (case aB => exact (bU0 HB.out)); (case aF => exact (fun _ _ => trivial)); (case aO => exact (rU HO190.out)); (case aS => exact (below_size (bU0 HB.out))); (case aL => have := LMc3.out; omega); intro v192 w5 ho hb hg hat; rw [← Ny2.out, e2] at ho; replace HB := Az (hb); have HO193 := Az (ho); clear HO190 ho hb hg hat))
   go_ret; exact ⟨_, rE, rU HO193.out, bU0 HB.out⟩
 ·
  rw [if_neg c2] at h
  cases h
def impl_MapDual.f (k : Nat) (l0_0 : List Int) (l0_1 : List Int) : Option (List Int × List Int × Bool) := (impl_MapValid.f k l0_0 l0_1).bind fun t173 => (if t173 = true then ((impl_mul.f k l0_1 l0_0).bind fun t174 => ((slices_Clone_int_int.f l0_1).bind fun t177 => (some (t174, t177, true)))) else (some (([] : List Int), ([] : List Int), false)))
def impl_MapDual.T3 : Bool × List (List Nat × List Nat) := (true, [([], []), ([0], [0]), ([], []), ([2], [2]), ([1, 3], [1, 3]), ([], []), ([5], [5]), ([6, 4], [6]), ([4, 7], [4, 7]), ([8, 7, 0, 1, 2, 3, 4, 5, 6, 7, 8], [8]), ([9, 0, 1, 2, 3, 4, 5, 6, 7, 8, 9], [])])
def impl_MapDual.B3 : List Nat := [0, 1, 0, 4, 15, 0, 32, 127, 255, 511, 1023]
theorem impl_MapDual.tab3 : rtab .any (opsOf Try.f17 3) = impl_MapDual.T3 := by kernel_rfl
theorem impl_MapDual.bits3 : waitsOk impl_MapDual.T3.2 impl_MapDual.B3 = true := by kernel_rfl
set_option maxHeartbeats 8000000 in
set_option maxRecDepth 100000 in
theorem impl_MapDual.calls (k : Nat) (A0_0 : Option Addr) (c0_0 : Nat) (l0_0 : List Int) (A0_1 : Option Addr) (c0_1 : Nat) (l0_1 : List Int) (r1 : List Int) (r2 : List Int) (r3 : Bool) (w : World) (hr0_0 : Kd.C (Kd.int .i64) w A0_0 l0_0.length l0_0) (hc0_0 : l0_0.length ≤ c0_0) (hr0_1 : Kd.C (Kd.int .i64) w A0_1 l0_1.length l0_1) (hc0_1 : l0_1.length ≤ c0_1) (h : impl_MapDual.f k l0_0 l0_1 = some (r1, r2, r3)) :
  Calls Try.prog 17 #[.agg #[.slice A0_0 l0_0.length c0_0, .slice A0_1 l0_1.length c0_1]] w fun e w' => ∃ v0_ v1_ : Value, e = .returned (.tuple #[.agg #[v0_, v1_], .bool r3]) ∧ Kd.R (Kd.int .i64) 3 w' w.heap.size (fun k_ => oV k_ v1_) v0_ r1 ∧ Kd.R (Kd.int .i64) 3 w' w.heap.size (fun k_ => oV k_ v0_) v1_ r2 ∧ Below w.heap.size w w' := by
 have hu25 := Try.underlying25; have HR0_0 := Az hr0_0; have HC0_0 := Az hc0_0; clear hr0_0 hc0_0; have HR0_1 := Az hr0_1; have HC0_1 := Az hc0_1; clear hr0_1 hc0_1; have HB := bZ w; have H := h; clear h; unfold impl_MapDual.f at H; replace H := bd H; obtain ⟨t173, A2, H⟩ := H
 by_cases c3 : t173 = true
 ·
  subst c3; rw [if_pos rfl] at H; replace H := bd H; obtain ⟨t174, A4, H⟩ := H; replace H := bd H; obtain ⟨t177, A5, H⟩ := H; simp only [Option.some.injEq, Prod.mk.injEq] at H; obtain ⟨rfl, rfl, rfl⟩ := H; go_enter Try.func17, Try.ntmps17
  try go_wp2_with (first | ((with_reducible refine gd 1 rfl ?_); refine bE 1 #[.slice A0_0 l0_0.length c0_0, .slice A0_1 l0_1.length c0_1] 25 ?_; intro gb171 hg w6 hbox hb; have BK171 := Az (hbox); have GW171 := gW hg (bU0 HB.out); replace HB := Az (below_step (bU0 HB.out) hb); clear hb hbox hg) | ((with_reducible refine gd 2 rfl ?_); refine bE 2 #[.slice none 0 0, .slice none 0 0] 25 ?_; intro gb172 hg w7 hbox hb; have BK172 := Az (hbox); have GW172 := gW hg (bU1 HB.out GW171.out); replace HB := Az (below_step (bU1 HB.out GW171.out) hb); have NB171_172 := nL hg (kU BK171.out); replace BK171 := kB BK171.out hb; clear hb hbox hg; have hnb8 := NB171_172.out; have hnc8 := (NB171_172.out).symm; have hz9 := bc2 BK171.out) | ((with_reducible refine gK 65 rfl ?_); refine gC (some 5) Try.func65 #[.agg #[.slice A0_0 l0_0.length c0_0, .slice A0_1 l0_1.length c0_1]] ?_; (with_reducible refine (impl_MapValid.calls k (fun k_ => k_ < w.heap.size) _ _ l0_0 (fun k_ => k_ < w.heap.size) _ _ l0_1 true _ ?_ ?_ A2.out).mono ?_); exact Kd.V_mk HC0_0.out (Kd.F_below (Kd.C_F (Kd.heap_int .i64) HR0_0.out) z1_5); exact Kd.V_mk HC0_1.out (Kd.F_below (Kd.C_F (Kd.heap_int .i64) HR0_1.out) z1_5); rintro e w10 ⟨rfl, hb⟩; refine ⟨_, rfl, ?_⟩; replace BK171 := kB BK171.out hb; replace BK172 := kB BK172.out hb; replace HB := Az (below_step z1_5 hb); clear hb))
  replace BK171 := Az (blk_drew BK171.out); replace BK172 := Az (blk_drew BK172.out); replace HB := Az (below_drew1 HB.out); refine start_ (n := 11) (S := fun w' => w'.cell? ⟨gb171, 0, none⟩ = some (.slice A0_0 l0_0.length c0_0) ∧ w'.cell? ⟨gb171, 1, none⟩ = some (.slice A0_1 l0_1.length c0_1)) (ds := []) (bv 11 0) (by kernel_rfl) rfl rfl ⟨(blk_cell BK171.out 0).trans rfl, (blk_cell BK171.out 1).trans rfl⟩ (fun hHeld => ?_); refine with_tabW impl_MapDual.tab3 impl_MapDual.bits3 (fun HT_ HW_ => ?_); generalize w10.drew = w11 at BK171 BK172 HB hHeld ⊢; refine pure_ (i := 0) (N := some 8) (v := ?_) (a' := ?_) (bv 11 1) rfl rfl (any_of HT_.out (by kernel_rfl)) (fun _ _ _ h => h) (Or.inl ⟨by rfl, ?_⟩) ?_ ?_; rotate_left; (exact yP); rotate_left; (exact aP); refine pure_ (i := 2) (N := some 10) (v := ?_) (a' := ?_) (bv 11 5) rfl rfl (any_of HT_.out (by kernel_rfl)) (fun _ _ _ h => h) (Or.inl ⟨by rfl, ?_⟩) ?_ ?_; rotate_left; (exact yP); rotate_left; (exact aP); refine pure_ (i := 5) (N := some 13) (v := ?_) (a' := ?_) (bv 11 37) rfl rfl (any_of HT_.out (by kernel_rfl)) (fun _ _ _ h => h) (Or.inl ⟨by rfl, ?_⟩) ?_ ?_; rotate_left; (exact yP); rotate_left; (exact aP); refine take_ (i := 1) (N := some 9) (v := ?_) (a' := ?_) (bv 11 39) rfl rfl (take_ofW HT_.out HW_.out (by kernel_rfl)) (fun _ _ _ h => h) (Or.inl ⟨by rfl, ?_⟩) hHeld ?_ ?_; rotate_left
  ·
   rintro w' ⟨s0, s1⟩; go_simp
   with_reducible rfl
  rotate_left; (exact aP); refine take_ (i := 3) (N := some 11) (v := ?_) (a' := ?_) (bv 11 47) rfl rfl (take_ofW HT_.out HW_.out (by kernel_rfl)) (fun _ _ _ h => h) (Or.inl ⟨by rfl, ?_⟩) hHeld ?_ ?_; rotate_left
  ·
   rintro w' ⟨s0, s1⟩; go_simp
   with_reducible rfl
  rotate_left; (exact aP); refine take_ (i := 6) (N := some 14) (v := ?_) (a' := ?_) (bv 11 111) rfl rfl (take_ofW HT_.out HW_.out (by kernel_rfl)) (fun _ _ _ h => h) (Or.inl ⟨by rfl, ?_⟩) hHeld ?_ ?_; rotate_left
  ·
   rintro w' ⟨s0, s1⟩; go_simp
   with_reducible rfl
  rotate_left; (exact aP); refine one_ (i := 4) (N := some 12) (bv 11 127) rfl rfl (one_of HT_.out (by kernel_rfl)) (by decide) (fun K hK => ?_); refine goes_ Try.func67 (by kernel_rfl) rfl #[.slice A0_1 l0_1.length c0_1, .slice A0_0 l0_0.length c0_0] (by rfl) rfl rfl lQ ?_
  with_reducible refine (impl_mul.calls k _ _ l0_1 _ _ l0_0 t174 _ ?side1 ?side2 ?side3 ?side4 A4.out).mono ?_
  (case side1 => exact cU (Kd.C_below HR0_1.out HB.out))
  (case side2 => exact HC0_1.out)
  (case side3 => exact cU (Kd.C_below HR0_0.out HB.out))
  (case side4 => exact HC0_0.out)
  rintro e w12 ⟨v175, rfl, ho0, hb⟩; refine ⟨_, rfl, ?_⟩; have HO176 := Az (Kd.R_lower ho0 (below_size z1_5)); replace BK171 := kB BK171.out hb; replace BK172 := kB BK172.out hb; replace HB := Az (below_step z1_5 hb); clear hb ho0; refine hK.out _ _ ⟨(blk_cell BK171.out 0).trans rfl, (blk_cell BK171.out 1).trans rfl⟩ (fun hHeld => ?_); clear hK K; refine norm_ (a' := ?_) ?_ ?_; rotate_left
  ·
   show Act.put _ (some 12) _ = _
   simp only [Act.put, List.setIfInBounds_toArray, List.set_cons_zero, List.set_cons_succ, i64_w, i32_w]; rfl
  refine one_ (i := 7) (N := some 15) (bv 11 255) rfl rfl (one_of HT_.out (by kernel_rfl)) (by decide) (fun K hK => ?_); refine goes_ Try.func68 (by kernel_rfl) rfl #[.slice A0_1 l0_1.length c0_1] (by rfl) rfl rfl lQ ?_
  with_reducible refine (slices_Clone_int_int.calls _ _ l0_1 t177 _ ?side1 ?side2 A5.out).mono ?_
  (case side1 => exact cU (Kd.C_below HR0_1.out HB.out))
  (case side2 => exact HC0_1.out)
  rintro e w13 ⟨v178, rfl, ho0, hb⟩; refine ⟨_, rfl, ?_⟩; have HO179 := Az (Kd.R_lower (Kd.R_new' ho0 (Kd.R_lt (rU HO176.out))) (below_size z1_5)); replace HO176 := Az (Kd.R_elder' (rU HO176.out) (Kd.R_base ho0) hb); replace BK171 := kB BK171.out hb; replace BK172 := kB BK172.out hb; replace HB := Az (below_step z1_5 hb); clear hb ho0; obtain ⟨Ao14, co14, eo14⟩ := Kd.R_slice HO179.out; (first | subst eo14 | (injection eo14 with f1_ f2_ f3_; have f4_ := f1_.symm; have f5_ := f3_.symm; clear f1_ f2_ f3_; subst f4_; subst f5_)); obtain ⟨Ao15, co15, eo15⟩ := Kd.R_slice HO176.out; (first | subst eo15 | (injection eo15 with f1_ f2_ f3_; have f4_ := f1_.symm; have f5_ := f3_.symm; clear f1_ f2_ f3_; subst f4_; subst f5_)); refine hK.out _ _ ⟨(blk_cell BK171.out 0).trans rfl, (blk_cell BK171.out 1).trans rfl⟩ (fun hHeld => ?_); clear hK K; refine norm_ (a' := ?_) ?_ ?_; rotate_left
  ·
   show Act.put _ (some 15) _ = _
   simp only [Act.put, List.setIfInBounds_toArray, List.set_cons_zero, List.set_cons_succ, i64_w, i32_w]; rfl
  refine pure_ (i := 8) (N := some 16) (v := ?_) (a' := ?_) (bv 11 511) rfl rfl (any_of HT_.out (by kernel_rfl)) (fun _ _ _ h => h) (Or.inl ⟨by rfl, ?_⟩) ?_ ?_; rotate_left; (exact yP); rotate_left; (exact aP); refine one_ (i := 9) (N := none) (bv 11 1023) rfl rfl (one_of HT_.out (by kernel_rfl)) (by decide) (fun K hK => ?_); have hs16 : w13.cell? ⟨gb172, 0, none⟩ = some (.slice none 0 0) := (blk_cell BK172.out 0).trans rfl; have hfs16 := blk_frozen BK172.out 0; have hns16_0 := NB171_172.out; have hms16_0 := (NB171_172.out).symm; have hs17 : w13.cell? ⟨gb172, 1, none⟩ = some (.slice none 0 0) := (blk_cell BK172.out 1).trans rfl; have hfs17 := blk_frozen BK172.out 1; have hns17_0 := NB171_172.out; have hms17_0 := (NB171_172.out).symm; refine skip_ (w1 := ?_) (by rfl) rfl ?_ ?_; rotate_left
  · go_simp; rfl
  refine hK.out _ _ ⟨((cell_far (p := ⟨gb172, _, none⟩) NB171_172.out _).trans (((cell_far (p := ⟨gb172, _, none⟩) NB171_172.out _).trans (hHeld.1)))), ((cell_far (p := ⟨gb172, _, none⟩) NB171_172.out _).trans (((cell_far (p := ⟨gb172, _, none⟩) NB171_172.out _).trans (hHeld.2))))⟩ (fun hHeld => ?_); clear hK K; refine pure_ (i := 10) (N := some 3) (v := ?_) (a' := ?_) (bv 11 2047) rfl rfl (any_of HT_.out (by kernel_rfl)) (fun _ _ _ h => h) (Or.inl ⟨by rfl, ?_⟩) ?_ ?_; rotate_left; (exact yP); rotate_left; (exact aP); refine done_ (done_of HT_.out (by kernel_rfl)) ?_
  try go_wp2
  refine bodyPost_ret (results_ct rfl _ _ gb172 25 #[.slice Ao15 t174.length co15, .slice Ao14 t177.length co14] (0, 0) _ rfl (by (with_reducible repeat (first | refine blk_drewN ?_ _ | refine blk_drew ?_ | refine blk_alloc ?_ _)); refine blk_put (cs := #[.slice Ao15 t174.length co15, .slice none 0 0]) ?_ 1 _ rfl; (with_reducible repeat (first | refine blk_drewN ?_ _ | refine blk_drew ?_ | refine blk_alloc ?_ _)); refine blk_put (cs := #[.slice none 0 0, .slice none 0 0]) ?_ 0 _ rfl; (with_reducible repeat (first | refine blk_drewN ?_ _ | refine blk_drew ?_ | refine blk_alloc ?_ _)); exact BK172.out) Try.underlying25 rfl (by kernel_rfl)) rfl ?_; exact ⟨_, _, rE, by (with_reducible repeat (first | apply Kd.R_alloc | apply Kd.R_drewN | apply Kd.R_drew)); exact Kd.R_mono (Kd.R_far (p := ⟨gb172, 1, none⟩) (Kd.R_far (p := ⟨gb172, 0, none⟩) (Kd.R_types HO176.out BK172.out (by decide)) (fun _ hk => hk.2) (.slice Ao15 t174.length co15)) (fun _ hk => hk.2) (.slice Ao14 t177.length co14)) (fun _ hk => hk.1.2), by (with_reducible repeat (first | apply Kd.R_alloc | apply Kd.R_drewN | apply Kd.R_drew)); exact Kd.R_mono (Kd.R_far (p := ⟨gb172, 1, none⟩) (Kd.R_far (p := ⟨gb172, 0, none⟩) (Kd.R_types HO179.out BK172.out (by decide)) (fun _ hk => hk.2) (.slice Ao15 t174.length co15)) (fun _ hk => hk.2) (.slice Ao14 t177.length co14)) (fun _ hk => hk.1.2), bU2 HB.out GW171.out GW172.out⟩
 ·
  replace c3 := Bool.eq_false_iff.mpr c3; subst c3; rw [if_neg nT] at H; simp only [Option.some.injEq, Prod.mk.injEq] at H; obtain ⟨rfl, rfl, rfl⟩ := H; go_enter Try.func17, Try.ntmps17
  go_wp2_with (first | ((with_reducible refine gd 1 rfl ?_); refine bE 1 #[.slice A0_0 l0_0.length c0_0, .slice A0_1 l0_1.length c0_1] 25 ?_; intro gb171 hg w18 hbox hb; have BK171 := Az (hbox); have GW171 := gW hg (bU0 HB.out); replace HB := Az (below_step (bU0 HB.out) hb); clear hb hbox hg) | ((with_reducible refine gd 2 rfl ?_); refine bE 2 #[.slice none 0 0, .slice none 0 0] 25 ?_; intro gb172 hg w19 hbox hb; have BK172 := Az (hbox); have GW172 := gW hg (bU1 HB.out GW171.out); replace HB := Az (below_step (bU1 HB.out GW171.out) hb); have NB171_172 := nL hg (kU BK171.out); replace BK171 := kB BK171.out hb; clear hb hbox hg; have hnb20 := NB171_172.out; have hnc20 := (NB171_172.out).symm; have hz21 := bc2 BK171.out) | ((with_reducible refine gK 65 rfl ?_); refine gC (some 5) Try.func65 #[.agg #[.slice A0_0 l0_0.length c0_0, .slice A0_1 l0_1.length c0_1]] ?_; (with_reducible refine (impl_MapValid.calls k (fun k_ => k_ < w.heap.size) _ _ l0_0 (fun k_ => k_ < w.heap.size) _ _ l0_1 false _ ?_ ?_ A2.out).mono ?_); exact Kd.V_mk HC0_0.out (Kd.F_below (Kd.C_F (Kd.heap_int .i64) HR0_0.out) z1_5); exact Kd.V_mk HC0_1.out (Kd.F_below (Kd.C_F (Kd.heap_int .i64) HR0_1.out) z1_5); rintro e w22 ⟨rfl, hb⟩; refine ⟨_, rfl, ?_⟩; replace BK171 := kB BK171.out hb; replace BK172 := kB BK172.out hb; replace HB := Az (below_step z1_5 hb); clear hb; have hz23 := bc2 BK172.out))
  refine bodyPost_ret (results_ct rfl _ _ gb172 25 #[.slice none 0 0, .slice none 0 0] (0, 0) _ rfl (by (with_reducible repeat (first | refine blk_drewN ?_ _ | refine blk_drew ?_ | refine blk_alloc ?_ _)); refine blk_put (cs := #[.slice none 0 0, .slice none 0 0]) ?_ 1 _ rfl; (with_reducible repeat (first | refine blk_drewN ?_ _ | refine blk_drew ?_ | refine blk_alloc ?_ _)); refine blk_put (cs := #[.slice none 0 0, .slice none 0 0]) ?_ 0 _ rfl; (with_reducible repeat (first | refine blk_drewN ?_ _ | refine blk_drew ?_ | refine blk_alloc ?_ _)); exact BK172.out) Try.underlying25 rfl (by kernel_rfl)) rfl ?_; exact ⟨_, _, rE, by first | exact Kd.R_nil _ _ _ _ _ | exact Kd.N_nil _ _ _ _ _ | exact Kd.V_nil _ _ _ _ _ | exact Kd.Q_nil _ _ _ _ _ | exact Kd.S_nil _ _ _ _ _, by first | exact Kd.R_nil _ _ _ _ _ | exact Kd.N_nil _ _ _ _ _ | exact Kd.V_nil _ _ _ _ _ | exact Kd.Q_nil _ _ _ _ _ | exact Kd.S_nil _ _ _ _ _, bU2 HB.out GW171.out GW172.out⟩
def IsS87 (w0 W : World) (g : Nat) (f0 : List Int) (f1 : Int) : Prop := ∃ A0 c0, W.heap[g]? = some (.cells #[.slice A0 f0.length c0, .int .i64 f1] 87 (0, 0)) ∧ w0.heap.size ≤ g ∧ Kd.C (Kd.int .u8) w0 A0 f0.length f0
theorem IsS87.grown {w0 W : World} {g : Nat} {f0 : List Int} {f1 : Int} {W1 : World} {row : Option Nat} (h : IsS87 w0 W g f0 f1) (hw : W.grownBy W1 row) (hne : some g ≠ row) : IsS87 w0 W1 g f0 f1 := by
 obtain ⟨A0, c0, hb, hg, hr0⟩ := h; exact ⟨A0, c0, blk_grown hb hw hne, hg, hr0⟩
theorem IsS87.fresh {w0 W : World} {g : Nat} {f0 : List Int} {f1 : Int} (h : IsS87 w0 W g f0 f1) : ∀ k, W.heap.size ≤ k → k ≠ g := by
 obtain ⟨A0, c0, hb, hg, hr0⟩ := h; exact Kd.freshB hb
theorem IsS87.kept {w0 W : World} {g : Nat} {f0 : List Int} {f1 : Int} {W1 : World} {S : Nat → Prop} (h : IsS87 w0 W g f0 f1) (hk : Kept W W1 S) (hne : ¬ S g) : IsS87 w0 W1 g f0 f1 := by
 obtain ⟨A0, c0, hb, hg, hr0⟩ := h; exact ⟨A0, c0, blk_kept hb hk hne, hg, hr0⟩
theorem IsS87.below {w0 W : World} {g : Nat} {f0 : List Int} {f1 : Int} {W1 : World} (h : IsS87 w0 W g f0 f1) (hw : Below W.heap.size W W1) : IsS87 w0 W1 g f0 f1 := h.grown (grown_of_below hw none) (by simp)
theorem IsS87.alloc {w0 W : World} {g : Nat} {f0 : List Int} {f1 : Int} (h : IsS87 w0 W g f0 f1) (o : Obj) : IsS87 w0 (W.alloc o) g f0 f1 := h.below (below_alloc (Below.refl _ _) o)
theorem IsS87.drewN {w0 W : World} {g : Nat} {f0 : List Int} {f1 : Int} (h : IsS87 w0 W g f0 f1) (m : Nat) : IsS87 w0 (W.drewN m) g f0 f1 := h
theorem IsS87.drew {w0 W : World} {g : Nat} {f0 : List Int} {f1 : Int} (h : IsS87 w0 W g f0 f1) : IsS87 w0 W.drew g f0 f1 := h
theorem IsS87.at_ {w0 W : World} {g : Nat} {f0 : List Int} {f1 : Int} {w' : World} {m : Nat} (hq : W.drewN m = w') (h : IsS87 w0 W g f0 f1) : IsS87 w0 w' g f0 f1 := by subst hq; exact IsS87.drewN h m
theorem IsS87.apart {w0 W : World} {g : Nat} {f0 : List Int} {f1 : Int} {α : Type} {d : Kd α} {e : Nat} {base : Nat} {ok : Nat → Prop} {v : Value} {xs : List α} (h : IsS87 w0 W g f0 f1) (ho : d.R e W base ok v xs) (ht : ∀ q, q ∈ e :: d.E → q ≠ 87) : d.R e W base (fun k => ok k ∧ k ≠ g) v xs := by
 obtain ⟨A0, c0, hb, hg, hr0⟩ := h; exact Kd.R_types ho hb ht
theorem IsS87.own_ne {w0 W : World} {g : Nat} {f0 : List Int} {f1 : Int} {α : Type} {d : Kd α} {e : Nat} {base : Nat} {ok : Nat → Prop} {v : Value} {xs : List α} (h : IsS87 w0 W g f0 f1) (ho : d.R e W base ok v xs) (ht : e ≠ 87) : some g ≠ v.ownBlock := by
 obtain ⟨A0, c0, hb, hg, hr0⟩ := h; exact Kd.R_ne ho hb ht
theorem IsS87.apartQ {w0 W : World} {g : Nat} {f0 : List Int} {f1 : Int} {α : Type} {d : Kd α} {e : Nat} {base : Nat} {ok : Nat → Prop} {v : Value} {xs : List α} (h : IsS87 w0 W g f0 f1) (ho : d.Q e W base ok v xs) (ht : ∀ q, q ∈ e :: d.E → q ≠ 87) : d.Q e W base (fun k => ok k ∧ k ≠ g) v xs := by
 obtain ⟨A0, c0, hb, hg, hr0⟩ := h; exact Kd.Q_types ho hb ht
theorem IsS87.own_neQ {w0 W : World} {g : Nat} {f0 : List Int} {f1 : Int} {α : Type} {d : Kd α} {e : Nat} {base : Nat} {ok : Nat → Prop} {v : Value} {xs : List α} (h : IsS87 w0 W g f0 f1) (ho : d.Q e W base ok v xs) (ht : e ≠ 87) : some g ≠ v.ownBlock := by
 obtain ⟨A0, c0, hb, hg, hr0⟩ := h; exact Kd.Q_ne ho hb ht
theorem IsS87.lt {w0 W : World} {g : Nat} {f0 : List Int} {f1 : Int} (h : IsS87 w0 W g f0 f1) : g < W.heap.size := by
 obtain ⟨A0, c0, hb, hg, hr0⟩ := h; exact blk_lt hb
theorem IsS87.ge {w0 W : World} {g : Nat} {f0 : List Int} {f1 : Int} (h : IsS87 w0 W g f0 f1) : w0.heap.size ≤ g := by
 obtain ⟨A0, c0, hb, hg, hr0⟩ := h; exact hg
theorem IsS87.ne_blk {w0 W : World} {g : Nat} {f0 : List Int} {f1 : Int} {a : Nat} {cs : Array Value} {t : TypeId} {fr : Nat × Nat} (h : IsS87 w0 W g f0 f1) (hb2 : W.heap[a]? = some (.cells cs t fr)) (ht : t ≠ 87) : g ≠ a := by
 obtain ⟨A0, c0, hb, hg, hr0⟩ := h; rintro rfl; rw [hb] at hb2; injection hb2 with hb2; injection hb2 with _ ht2; exact ht ht2.symm
theorem IsS87.far {w0 W : World} {g : Nat} {f0 : List Int} {f1 : Int} {p : Addr} (h : IsS87 w0 W g f0 f1) (hne : g ≠ p.block) (u : Value) : IsS87 w0 (W.setCell p u) g f0 f1 := by
 obtain ⟨A0, c0, hb, hg, hr0⟩ := h; exact ⟨A0, c0, blk_far hb hne u, hg, hr0⟩
theorem cellS87_0 {W : World} {g : Nat} {A0 : Option Addr} {c0 : Nat} {f0 : List Int} {f1 : Int} (h : W.heap[g]? = some (.cells #[.slice A0 f0.length c0, .int .i64 f1] 87 (0, 0))) : W.cell? ⟨g, 0, none⟩ = some (.slice A0 f0.length c0) := (blk_cell h 0).trans rfl
theorem cellS87_1 {W : World} {g : Nat} {A0 : Option Addr} {c0 : Nat} {f0 : List Int} {f1 : Int} (h : W.heap[g]? = some (.cells #[.slice A0 f0.length c0, .int .i64 f1] 87 (0, 0))) : W.cell? ⟨g, 1, none⟩ = some (.int .i64 f1) := (blk_cell h 1).trans rfl
theorem IsS87.set_1 {w0 W : World} {g : Nat} {f0 : List Int} {f1 : Int} (h : IsS87 w0 W g f0 f1) (x : Int) : IsS87 w0 (W.setCell ⟨g, 1, none⟩ (.int .i64 x)) g f0 x := by
 obtain ⟨A0, c0, hb, hg, hr0⟩ := h; exact ⟨A0, c0, by simpa using blk_set hb 1 (.int .i64 x), hg, hr0⟩
def spec_l6Open.f (l0 : List Int) : Option (List Int × Int) := if (l0.length : Int) > 2000 then (if 2000 ≤ (l0.length : Int) then (some (l0.take 2000, 0)) else (none)) else (some (l0, 0))
set_option maxHeartbeats 8000000 in
set_option maxRecDepth 100000 in
theorem spec_l6Open.calls (A0 : Option Addr) (c0 : Nat) (l0 : List Int) (r1 : List Int) (r2 : Int) (w0 w : World) (hB : Below w0.heap.size w0 w) (hr0 : Kd.C (Kd.int .u8) w0 A0 l0.length l0) (hc0 : l0.length ≤ c0) (h : spec_l6Open.f l0 = some (r1, r2)) :
  Calls Try.prog 55 #[.slice A0 l0.length c0] w fun e w' => ∃ g_ : Nat, e = .returned (.pointer (some ⟨g_, 0, none⟩)) ∧ IsS87 w0 w' g_ r1 r2 ∧ Below w0.heap.size w0 w' ∧ Below w.heap.size w w' := by
 have hu87 := Try.underlying87; have HR0 := Az hr0; have HC0 := Az hc0; clear hr0 hc0; have HBW := bZ w; have HW0 := Az hB.size; have HB := Az hB; clear hB; have H := h; clear h; unfold spec_l6Open.f at H
 by_cases c2 : (l0.length : Int) > 2000
 ·
  rw [if_pos c2] at H; have c2b0 := decide_eq_true c2; have c2b1 : decide (2000 < l0.length) = true := decide_eq_true (by omega); clear c2; replace H := gE H; obtain ⟨c3b0, c3b1, H⟩ := H; simp only [Option.some.injEq, Prod.mk.injEq] at H; obtain ⟨rfl, rfl⟩ := H; obtain ⟨i04, hi04, _, hsz4, _⟩ := info_parts info5; obtain ⟨hcut4, hA4, hC4⟩ := print_take_of (P := Try.prog) (Value.int .u8) 0 22 5 .i64 Try.underlying22 hi04 hsz4 A0 c0 l0 2000 (by omega) (oA) HC0.out; have HR180 := Az (Kd.C_of_reads (h1 := fun _ => rfl) (hA4 _ (Kd.reads_of_C HR0.out))); have HC180 := Az hC4; clear hA4 hC4 hi04 hsz4; go_enter Try.func55, Try.ntmps55
  go_wp2_with (first | ((with_reducible refine gd 10 rfl ?_); refine bE 10 #[.slice A0 (l0.take 2000).length c0, .int .i64 0] 87 ?_; intro gb181 hg w5 hbox hb; replace HB := Az (below_step (bU0 HB.out) hb); have BK181 := Az (hbox); have GW181 := Az ((by rw [hg]; exact z1_2 : w.heap.size ≤ gb181)); have GE181 := Az ((Nat.le_trans HW0.out (by rw [hg]; exact z1_2 : w.heap.size ≤ gb181) : w0.heap.size ≤ gb181)); replace HBW := Az (below_step HBW.out hb); clear hb hbox hg))
  go_ret; exact ⟨_, rfl, (show IsS87 w0 _ gb181 (l0.take 2000) 0 from ⟨_, _, kU BK181.out, GE181.out, HR180.out⟩), bU1 HB.out GE181.out, by repeat (first | (with_reducible first | exact HBW.out | apply below_alloc | apply pw_below_drewN | apply below_drew1 | refine below_set ?_ GW181.out) | exact HBW.out)⟩
 ·
  rw [if_neg c2] at H; have c2b0 := decide_eq_false c2; have c2b1 : decide (2000 < l0.length) = false := decide_eq_false (by omega); clear c2; simp only [Option.some.injEq, Prod.mk.injEq] at H; obtain ⟨rfl, rfl⟩ := H; go_enter Try.func55, Try.ntmps55
  go_wp2_with (first | ((with_reducible refine gd 10 rfl ?_); refine bE 10 #[.slice A0 l0.length c0, .int .i64 0] 87 ?_; intro gb182 hg w6 hbox hb; replace HB := Az (below_step (bU0 HB.out) hb); have BK182 := Az (hbox); have GW182 := Az ((by rw [hg]; exact z1_2 : w.heap.size ≤ gb182)); have GE182 := Az ((Nat.le_trans HW0.out (by rw [hg]; exact z1_2 : w.heap.size ≤ gb182) : w0.heap.size ≤ gb182)); replace HBW := Az (below_step HBW.out hb); clear hb hbox hg))
  go_ret; exact ⟨_, rfl, (show IsS87 w0 _ gb182 l0 0 from ⟨_, _, kU BK182.out, GE182.out, HR0.out⟩), bU1 HB.out GE182.out, by repeat (first | (with_reducible first | exact HBW.out | apply below_alloc | apply pw_below_drewN | apply below_drew1 | refine below_set ?_ GW182.out) | exact HBW.out)⟩
def spec_l6Rd_pick.j0 : Nat → Int → Bool → List Int → Int → Option (Int × Int)
 | 0, _, _, _, _ => none
 | k + 1, x1, x24, x1000, x1001 => if x24 = true then (some (0, x1001)) else (if (wrap64 (x1001 - 1)) < (x1000.length : Int) then (if 0 ≤ (wrap64 (x1001 - 1)) then (if x1 = 0 then (none) else (some (Int.tmod (wrap64 (rd x1000 (wrap64 (x1001 - 1)))) x1, x1001))) else (none)) else (if (x1000.length : Int) = 0 then (none) else (if 0 ≤ (Int.tmod (wrap64 (x1001 - 1)) (x1000.length : Int)) then (if (Int.tmod (wrap64 (x1001 - 1)) (x1000.length : Int)) < (x1000.length : Int) then (if 0 ≤ (Int.tmod (wrap64 ((wrap64 ((wrap64 (x1001 - 1)) * 7)) + 3)) (x1000.length : Int)) then (if (Int.tmod (wrap64 ((wrap64 ((wrap64 (x1001 - 1)) * 7)) + 3)) (x1000.length : Int)) < (x1000.length : Int) then (if x1 = 0 then (none) else (some (Int.tmod (Go.bits .xor .i64 (wrap64 ((wrap64 ((wrap64 ((wrap64 ((wrap64 (rd x1000 (Int.tmod (wrap64 (x1001 - 1)) (x1000.length : Int)))) * 131)) + (wrap64 ((wrap64 (rd x1000 (Int.tmod (wrap64 ((wrap64 ((wrap64 (x1001 - 1)) * 7)) + 3)) (x1000.length : Int)))) * 1117)))) + (wrap64 ((wrap64 (x1001 - 1)) * 29)))) + (wrap64 ((wrap64 (Int.tdiv (wrap64 (x1001 - 1)) (x1000.length : Int))) * 53)))) (wrap64 (Int.tdiv (wrap64 ((wrap64 ((wrap64 ((wrap64 ((wrap64 (rd x1000 (Int.tmod (wrap64 (x1001 - 1)) (x1000.length : Int)))) * 131)) + (wrap64 ((wrap64 (rd x1000 (Int.tmod (wrap64 ((wrap64 ((wrap64 (x1001 - 1)) * 7)) + 3)) (x1000.length : Int)))) * 1117)))) + (wrap64 ((wrap64 (x1001 - 1)) * 29)))) + (wrap64 ((wrap64 (Int.tdiv (wrap64 (x1001 - 1)) (x1000.length : Int))) * 53)))) 64))) x1, x1001))) else (none)) else (none)) else (none)) else (none))))
def spec_l6Rd_pick.f (k : Nat) (s0_0 : List Int) (s0_1 : Int) (a1 : Int) : Option (Int × Int) := if a1 < 1 then (spec_l6Rd_pick.j0 k a1 true s0_0 (wrap64 (s0_1 + 1))) else (spec_l6Rd_pick.j0 k a1 ((s0_0.length : Int) == 0) s0_0 (wrap64 (s0_1 + 1)))
set_option maxHeartbeats 8000000 in
set_option maxRecDepth 100000 in
theorem spec_l6Rd_pick.calls (k : Nat) (g : Nat) (s0_0 : List Int) (s0_1 : Int) (a1 : Int) (r1 : Int) (r2 : Int) (w0 w : World) (hI : IsS87 w0 w g s0_0 s0_1) (hB : Below w0.heap.size w0 w) (h : spec_l6Rd_pick.f k s0_0 s0_1 a1 = some (r1, r2)) :
  Calls Try.prog 76 #[.pointer (some ⟨g, 0, none⟩), .int .i64 a1] w fun e w' => e = .returned (.int .i64 r1) ∧ IsS87 w0 w' g s0_0 r2 ∧ Below w0.heap.size w0 w' ∧ KeepBut w w' g none := by
 have HI0 := Az hI; have HK := Az (KeepBut.refl w g none); have HL := Az hB.size; clear hI; have HW0 := Az hB.size; have HB := Az hB; clear hB; have H := h; clear h; unfold spec_l6Rd_pick.f at H; have HC3 := Az H; clear H; obtain ⟨ASz4_0, cSz4_0, HGz4, hgz4, HSz4_0⟩ := HI0.out; have hcz4_0 := cellS87_0 HGz4; have hcz4_1 := cellS87_1 HGz4; have hfz4_1 := blk_frozen HGz4 1; clear HGz4 hgz4; go_enter Try.func76, Try.ntmps76
 go_upto_region 2 with (fail)
 repeat (go_quiet (fail); go_upto_region 2 with (fail))
 go_cut [24] (fun v24 wc => ∃ (kq : Nat) (x24_2 : Bool), v24 = .bool x24_2 ∧ Aside0 (spec_l6Rd_pick.j0 kq a1 x24_2 s0_0 (wrap64 (s0_1 + 1)) = some (r1, r2)) ∧ Aside0 (kq ≤ k) ∧ Aside0 (IsS87 w0 wc g s0_0 (wrap64 (s0_1 + 1))) ∧ Aside0 (KeepBut w wc g none) ∧ Aside0 (Below w0.heap.size w0 wc))
 case first =>
  have H := HC3.out; clear HC3
  replace H := gB H; rcases H with ⟨c5b0, H⟩ | ⟨c5b0, H⟩
  ·
   have H' := Az H; clear H; go_wp2
   repeat (go_quiet (fail); try go_wp2)
   go_meet
   case rel => exact ⟨_, (true), rS, H', ⟨mO⟩, ⟨by repeat (first | (with_reducible first | exact HI0.out | apply IsS87.alloc | apply IsS87.drewN | apply IsS87.drew | apply IsS87.set_1) | exact HI0.out)⟩, ⟨by repeat (first | (with_reducible first | exact HK.out | apply KeepBut.set_ | apply keep_drewN | apply keep_drew | apply keep_alloc) | exact HK.out)⟩, ⟨by repeat (first | (with_reducible first | exact HB.out | apply below_alloc | apply pw_below_drewN | apply below_drew1 | refine below_set ?_ (IsS87.ge HI0.out)) | exact HB.out)⟩⟩
  ·
   have H' := Az H; clear H; obtain ⟨ASz6_0, cSz6_0, HGz6, hgz6, HSz6_0⟩ := HI0.out; have hcz6_0 := cellS87_0 HGz6; have hcz6_1 := cellS87_1 HGz6; have hfz6_1 := blk_frozen HGz6 1; clear HGz6 hgz6; go_wp2
   repeat (go_quiet (fail); try go_wp2)
   go_meet
   case rel => exact ⟨_, (((s0_0.length : Int) == 0)), rS, H', ⟨mO⟩, ⟨by repeat (first | (with_reducible first | exact HI0.out | apply IsS87.alloc | apply IsS87.drewN | apply IsS87.drew | apply IsS87.set_1) | exact HI0.out)⟩, ⟨by repeat (first | (with_reducible first | exact HK.out | apply KeepBut.set_ | apply keep_drewN | apply keep_drew | apply keep_alloc) | exact HK.out)⟩, ⟨by repeat (first | (with_reducible first | exact HB.out | apply below_alloc | apply pw_below_drewN | apply below_drew1 | refine below_set ?_ (IsS87.ge HI0.out)) | exact HB.out)⟩⟩
 case rest =>
  clear HC3; obtain ⟨kq, x24_2, rfl, HA, HJ2, HI0, HK, HB⟩ := hcut
  rcases kq with _ | kj2
  exact (nN HA.out).elim; have H := HA.out; clear HA; simp only [spec_l6Rd_pick.j0] at H
  by_cases c7 : x24_2 = true
  ·
   subst c7; rw [if_pos rfl] at H; simp only [Option.some.injEq, Prod.mk.injEq] at H; obtain ⟨rfl, rfl⟩ := H; go_wp2
   repeat (go_quiet (fail); try go_wp2)
   go_ret; exact ⟨rE, by repeat (first | (with_reducible first | exact HI0.out | apply IsS87.alloc | apply IsS87.drewN | apply IsS87.drew | apply IsS87.set_1) | exact HI0.out), by repeat (first | (with_reducible first | exact HB.out | apply below_alloc | apply pw_below_drewN | apply below_drew1 | refine below_set ?_ (IsS87.ge HI0.out)) | exact HB.out), by repeat (first | (with_reducible first | exact HK.out | apply KeepBut.set_ | apply keep_drewN | apply keep_drew | apply keep_alloc) | exact HK.out)⟩
  ·
   replace c7 := Bool.eq_false_iff.mpr c7; subst c7; rw [if_neg nT] at H
   replace H := gB H; rcases H with ⟨c8b0, H⟩ | ⟨c8b0, H⟩
   ·
    obtain ⟨ji9, hji9⟩ : ∃ j_ : Int, (wrap64 ((wrap64 (s0_1 + 1)) - 1)) = j_ := ⟨_, rfl⟩; (first | rw [hji9] at H | simp only [hji9] at H); rw [hji9] at c8b0; have hji9w : (IntKind.i64.wrap ((wrap64 (s0_1 + 1)) - 1)) = ji9 := (i64_w _).trans hji9; replace H := gD1 H; obtain ⟨c10b0, H⟩ := H
    by_cases c11 : a1 = 0
    · rw [if_pos c11] at H; exact absurd H (by simp)
    ·
     rw [if_neg c11] at H; have c11b0 := beq_eq_false_iff_ne.mpr c11; have c11b1 := bne_iff_ne.mpr c11; simp only [Option.some.injEq, Prod.mk.injEq] at H; obtain ⟨rfl, rfl⟩ := H; obtain ⟨ASz12_0, cSz12_0, HGz12, hgz12, HSz12_0⟩ := HI0.out; have hcz12_0 := cellS87_0 HGz12; have hcz12_1 := cellS87_1 HGz12; have hfz12_1 := blk_frozen HGz12 1; clear HGz12 hgz12; obtain ⟨ad183, e183, _, _, hx183_0⟩ := aI HSz12_0 (ji9)
     cases e183
     replace hx183_0 := pw_cell_below HB.out hx183_0; go_wp2
     repeat (go_quiet (fail); try go_wp2)
     go_ret; exact ⟨by first | rfl | (simp [errW_none, errW_some] <;> rfl) | (simp only [← hji9]; first | rfl | (simp [errW_none, errW_some] <;> rfl)) | (simp [*, errW_none, errW_some] <;> rfl), by repeat (first | (with_reducible first | exact HI0.out | apply IsS87.alloc | apply IsS87.drewN | apply IsS87.drew | apply IsS87.set_1) | exact HI0.out), by repeat (first | (with_reducible first | exact HB.out | apply below_alloc | apply pw_below_drewN | apply below_drew1 | refine below_set ?_ (IsS87.ge HI0.out)) | exact HB.out), by repeat (first | (with_reducible first | exact HK.out | apply KeepBut.set_ | apply keep_drewN | apply keep_drew | apply keep_alloc) | exact HK.out)⟩
   ·
    by_cases c13 : (s0_0.length : Int) = 0
    · rw [if_pos c13] at H; exact absurd H (by simp)
    ·
     rw [if_neg c13] at H; have c13b0 := beq_eq_false_iff_ne.mpr c13; have c13b1 := bne_iff_ne.mpr c13
     have c13b2 : ¬ (s0_0 = []) := fun h_ => c13 (by rw [h_]; rfl)
     obtain ⟨ji14, hji14⟩ : ∃ j_ : Int, (Int.tmod (wrap64 ((wrap64 (s0_1 + 1)) - 1)) (s0_0.length : Int)) = j_ := ⟨_, rfl⟩; (first | rw [hji14] at H | simp only [hji14] at H); replace H := gD2 H; obtain ⟨c15b0, c16b0, H⟩ := H; obtain ⟨ji17, hji17⟩ : ∃ j_ : Int, (Int.tmod (wrap64 ((wrap64 ((wrap64 ((wrap64 (s0_1 + 1)) - 1)) * 7)) + 3)) (s0_0.length : Int)) = j_ := ⟨_, rfl⟩; (first | rw [hji17] at H | simp only [hji17] at H); replace H := gD2 H; obtain ⟨c18b0, c19b0, H⟩ := H
     by_cases c20 : a1 = 0
     · rw [if_pos c20] at H; exact absurd H (by simp)
     ·
      rw [if_neg c20] at H; have c20b0 := beq_eq_false_iff_ne.mpr c20; have c20b1 := bne_iff_ne.mpr c20; simp only [Option.some.injEq, Prod.mk.injEq] at H; obtain ⟨rfl, rfl⟩ := H; obtain ⟨ASz21_0, cSz21_0, HGz21, hgz21, HSz21_0⟩ := HI0.out; have hcz21_0 := cellS87_0 HGz21; have hcz21_1 := cellS87_1 HGz21; have hfz21_1 := blk_frozen HGz21 1; clear HGz21 hgz21; obtain ⟨ad184, e184, _, _, hx184_0⟩ := aI HSz21_0 (ji14)
      cases e184
      replace hx184_0 := pw_cell_below HB.out hx184_0; obtain ⟨_, _, hx185_0⟩ := aJ HSz21_0 (ji17); replace hx185_0 := pw_cell_below HB.out hx185_0; go_wp2
      repeat (go_quiet (fail); try go_wp2)
      go_ret; exact ⟨by first | rfl | (simp [errW_none, errW_some] <;> rfl) | (simp only [← hji14, ← hji17]; first | rfl | (simp [errW_none, errW_some] <;> rfl)) | (simp [*, errW_none, errW_some] <;> rfl), by repeat (first | (with_reducible first | exact HI0.out | apply IsS87.alloc | apply IsS87.drewN | apply IsS87.drew | apply IsS87.set_1) | exact HI0.out), by repeat (first | (with_reducible first | exact HB.out | apply below_alloc | apply pw_below_drewN | apply below_drew1 | refine below_set ?_ (IsS87.ge HI0.out)) | exact HB.out), by repeat (first | (with_reducible first | exact HK.out | apply KeepBut.set_ | apply keep_drewN | apply keep_drew | apply keep_alloc) | exact HK.out)⟩
def spec_l1Same.l0 : Nat → Int → List Int → Int → Option (List Int)
 | 0, _, _, _ => none
 | k + 1, x0, x3, x4 => if x4 < x0 then (if x3.length < 17592186044416 then (spec_l1Same.l0 k x0 (x3 ++ [x4]) (wrap64 (x4 + 1))) else (none)) else (some x3)
def spec_l1Same.f (k : Nat) (a0 : Int) : Option (List Int) := spec_l1Same.l0 k a0 (([] : List Int)) 0
set_option maxHeartbeats 8000000 in
set_option maxRecDepth 100000 in
theorem spec_l1Same.calls (k : Nat) (a0 : Int) (r : List Int) (w : World) (h : spec_l1Same.f k a0 = some r) :
  Calls Try.prog 91 #[.int .i64 a0] w fun e w' => ∃ v0_ : Value, e = .returned (v0_) ∧ Kd.R (Kd.int .i64) 3 w' w.heap.size (fun _ => True) v0_ r ∧ Below w.heap.size w w' := by
 have HB := bZ w; have H := h; clear h; unfold spec_l1Same.f at H; generalize Ny186 : (([] : List Int) : List Int) = y186 at H; replace Ny186 := Ay Ny186; have H' := Az H; clear H; go_enter Try.func91, Try.ntmps91
 go_wp2_with (first | ((with_reducible refine gd 5 rfl ?_); refine Kd.R_lit (Kd.int .i64) _ 3 rfl (N := 5) rfl (xs := ([] : List Int)) (inner := []) (ok := fun _ => True) (okp := fun _ => True) hS ?hp (fun _ hk => hk) trivial (Below.refl _ _) (Nat.le_refl _) (by simp) ?_; (case hp => exact (Reps.none _ _)); intro v187 w2 ho3 hb hg_ hnew_; clear hg_ hnew_; (first | rw [← Ny186.out] at ho3 | (simp only [Int.reduceToNat] at ho3; rw [← Ny186.out] at ho3)); have HO188 := Az (Kd.R_lower ho3 (below_size (bU0 HB.out))); replace HB := Az (below_step (bU0 HB.out) hb); clear hb ho3))
 go_loopg [3, 4] k (fun kq v3 v4 w' => ∃ (x3_1 : List Int) (x4_1 : Int), v4 = .int .i64 x4_1 ∧ Aside0 (spec_l1Same.l0 kq a0 x3_1 x4_1 = some r) ∧ Aside0 (kq ≤ k) ∧ Aside0 (Kd.R (Kd.int .i64) 3 w' w.heap.size (fun _ => True) v3 x3_1) ∧ Aside0 (Below w.heap.size w w'))
 case atStart => exact ⟨(y186), (0), rS, H', ⟨Nat.le_refl _⟩, ⟨rU HO188.out⟩, ⟨bU0 HB.out⟩⟩
 case round =>
  clear H'; obtain ⟨x3_1, x4_1, rfl, HA, HK1, HO_3, HB⟩ := hrel
  rcases gk with _ | k1
  exact (nN HA.out).elim; have H := HA.out; clear HA; simp only [spec_l1Same.l0] at H
  replace H := gB H; rcases H with ⟨c4b0, H⟩ | ⟨c4b0, H⟩
  ·
   replace H := gP H; obtain ⟨c5, H⟩ := H; have LMc5 := Az c5; clear c5; generalize Ny189 : (x3_1 ++ [x4_1] : List Int) = y189 at H; replace Ny189 := Ay Ny189; have H' := Az H; clear H
   go_wp2_with (first | ((with_reducible refine gate_builtin (b := .append) (xs := #[.tmp 11, .tmp 13]) rfl ?_); at_builtin; refine Kd.R_append (Kd.int .i64) (w0 := w) w.heap.size rfl (.tmp 11) (.tmp 13) 23 3 (.int .i64 0) 8 rfl Try.underlying23 info3 rfl (by decide) (by omega) u3 x3_1 x4_1 [.int .i64 x4_1] (fun _ => True) (fun _ => False) rfl rfl ?aP (fun _ hk => hk.elim) ?aF ?aO ?aB ?aS ?aL ?_; (case aP => exact rfl); (case aB => exact (bU0 HB.out)); (case aF => exact (fun _ _ => trivial)); (case aO => exact (rU HO_3.out)); (case aS => exact (below_size (bU0 HB.out))); (case aL => have := LMc5.out; omega); intro v190 w6 ho hb hg hat; rw [← Ny189.out] at ho; replace HB := Az (hb); have HO191 := Az (ho); clear HO_3 ho hb hg hat))
   go_roundg k1
   case measure => exact mO
   case rel => exact ⟨(y189), (wrap64 (x4_1 + 1)), rS, H', ⟨mO⟩, ⟨rU HO191.out⟩, ⟨bU0 HB.out⟩⟩
  · obtain rfl := Option.some.inj H; go_wp2; go_ret; exact ⟨_, rE, rU HO_3.out, bU0 HB.out⟩
mutual
def spec_l1Orbits.l0 : Nat → List Int → List Int → List Int → Int → Option (List Int)
 | 0, _, _, _, _ => none
 | k + 1, x0, x1, x5, x6 => if x6 < (x0.length : Int) then (spec_l1Orbits.l1 k x0 x1 x5 x6 0) else (some x5)
def spec_l1Orbits.l1 : Nat → List Int → List Int → List Int → Int → Int → Option (List Int)
 | 0, _, _, _, _, _ => none
 | k + 1, x0, x1, x5, x6, x7 => if x7 < (x0.length : Int) then (if 0 ≤ x7 then (if x7 < (x5.length : Int) then (if 0 ≤ (rd x0 x7) then (if (rd x0 x7) < (x5.length : Int) then (if x7 < (x1.length : Int) then (if 0 ≤ (rd x1 x7) then (if (rd x1 x7) < (x5.length : Int) then (spec_l1Orbits.l1 k x0 x1 (((x5.set (x7 : Int).toNat (mn (rd x5 x7) (mn (rd x5 (rd x0 x7)) (rd x5 (rd x1 x7))))).set ((rd x0 x7) : Int).toNat (mn (rd x5 x7) (mn (rd x5 (rd x0 x7)) (rd x5 (rd x1 x7))))).set ((rd x1 x7) : Int).toNat (mn (rd x5 x7) (mn (rd x5 (rd x0 x7)) (rd x5 (rd x1 x7))))) x6 (wrap64 (x7 + 1))) else (none)) else (none)) else (none)) else (none)) else (none)) else (none)) else (none)) else (spec_l1Orbits.l0 k x0 x1 x5 (wrap64 (x6 + 1)))
end
def spec_l1Orbits.f (k : Nat) (l0 : List Int) (l1 : List Int) : Option (List Int) := (spec_l1Same.f k (l0.length : Int)).bind fun t192 => (spec_l1Orbits.l0 k l0 l1 t192 0)
set_option maxHeartbeats 8000000 in
set_option maxRecDepth 100000 in
theorem spec_l1Orbits.calls (k : Nat) (A0 : Option Addr) (c0 : Nat) (l0 : List Int) (A1 : Option Addr) (c1 : Nat) (l1 : List Int) (r : List Int) (w : World) (hr0 : Kd.C (Kd.int .i64) w A0 l0.length l0) (hc0 : l0.length ≤ c0) (hr1 : Kd.C (Kd.int .i64) w A1 l1.length l1) (hc1 : l1.length ≤ c1) (h : spec_l1Orbits.f k l0 l1 = some r) :
  Calls Try.prog 124 #[.slice A0 l0.length c0, .slice A1 l1.length c1] w fun e w' => ∃ v0_ : Value, e = .returned (v0_) ∧ Kd.R (Kd.int .i64) 3 w' w.heap.size (fun _ => True) v0_ r ∧ Below w.heap.size w w' := by
 have HR0 := Az hr0; have HC0 := Az hc0; clear hr0 hc0; have HR1 := Az hr1; have HC1 := Az hc1; clear hr1 hc1; have HB := bZ w; have H := h; clear h; unfold spec_l1Orbits.f at H; replace H := bd H; obtain ⟨t192, A3, H⟩ := H; have H' := Az H; clear H; go_enter Try.func124, Try.ntmps124
 go_wp2_with (first | (go_at_call 91; (with_reducible refine (spec_l1Same.calls k (l0.length : Int) t192 _ A3.out).mono ?_); rintro e w4 ⟨v193, rfl, ho0, hb⟩; have HO194 := Az (Kd.R_lower ho0 (below_size (bU0 HB.out))); replace HB := Az (below_step (bU0 HB.out) hb); clear hb ho0))
 repeat (go_quiet (fail); try go_wp2_with (fail))
 go_loopg [6] k (fun kq v6 w' => ∃ (x5_1 : List Int) (x6_1 : Int), v6 = .int .i64 x6_1 ∧ Aside0 (spec_l1Orbits.l0 kq l0 l1 x5_1 x6_1 = some r) ∧ Aside0 (kq ≤ k) ∧ Aside0 (Kd.R (Kd.int .i64) 3 w' w.heap.size (fun _ => True) v193 x5_1) ∧ Aside0 (Below w.heap.size w w'))
 case atStart => exact ⟨(t192), (0), rS, H', ⟨Nat.le_refl _⟩, ⟨rU HO194.out⟩, ⟨bU0 HB.out⟩⟩
 case round =>
  clear H'; obtain ⟨x5_1, x6_1, rfl, HA, HK1, HO_5, HB⟩ := hrel
  rcases gk with _ | k1
  exact (nN HA.out).elim; have H := HA.out; clear HA; simp only [spec_l1Orbits.l0] at H
  by_cases c5 : x6_1 < (l0.length : Int)
  ·
   rw [if_pos c5] at H; have c5b0 := decide_eq_true c5; clear c5; have H' := Az H; clear H; go_wp2
   repeat (go_quiet (fail); try go_wp2)
   go_loopg [7] k1 (fun kq v7 w' => ∃ (x5_2 : List Int) (x7_2 : Int), v7 = .int .i64 x7_2 ∧ Aside0 (spec_l1Orbits.l1 kq l0 l1 x5_2 x6_1 x7_2 = some r) ∧ Aside0 (kq ≤ k1) ∧ Aside0 (Kd.R (Kd.int .i64) 3 w' w.heap.size (fun _ => True) v193 x5_2) ∧ Aside0 (Below w.heap.size w w'))
   case atStart => exact ⟨(x5_1), (0), rS, H', ⟨Nat.le_refl _⟩, ⟨rU HO_5.out⟩, ⟨bU0 HB.out⟩⟩
   case round =>
    clear H'; obtain ⟨x5_2, x7_2, rfl, HA, HK2, HO_5, HB⟩ := hrel
    rcases gk with _ | k2
    exact (nN HA.out).elim; have H := HA.out; clear HA; simp only [spec_l1Orbits.l1] at H
    replace H := gB H; rcases H with ⟨c6b0, H⟩ | ⟨c6b0, H⟩
    ·
     replace H := gD6 H; obtain ⟨c7b0, c8b0, c9b0, c10b0, c11b0, c12b0, H⟩ := H; replace H := gD1 H; obtain ⟨c13b0, H⟩ := H; obtain ⟨ji14, hji14⟩ : ∃ j_ : Int, (mn (rd x5_2 (rd l0 x7_2)) (rd x5_2 (rd l1 x7_2))) = j_ := ⟨_, rfl⟩; (first | rw [hji14] at H | simp only [hji14] at H); have hji14_ : (if (rd x5_2 (rd l1 x7_2)) < (rd x5_2 (rd l0 x7_2)) then (rd x5_2 (rd l1 x7_2)) else (rd x5_2 (rd l0 x7_2))) = ji14 := hji14; obtain ⟨ji15, hji15⟩ : ∃ j_ : Int, (mn (rd x5_2 x7_2) (ji14)) = j_ := ⟨_, rfl⟩; (first | rw [hji15] at H | simp only [hji15] at H); have hji15_ : (if (ji14) < (rd x5_2 x7_2) then (ji14) else (rd x5_2 x7_2)) = ji15 := hji15; generalize Ny200 : (x5_2.set (x7_2 : Int).toNat (ji15) : List Int) = y200 at H; replace Ny200 := Ay Ny200; generalize Ny202 : (y200.set ((rd l0 x7_2) : Int).toNat (ji15) : List Int) = y202 at H; replace Ny202 := Ay Ny202; generalize Ny204 : (y202.set ((rd l1 x7_2) : Int).toNat (ji15) : List Int) = y204 at H; replace Ny204 := Ay Ny204; have H' := Az H; clear H; obtain ⟨Ao19, co19, eo19⟩ := Kd.R_slice HO_5.out; subst eo19; obtain ⟨ad195, e195, _, _, hx195_0⟩ := aI (Kd.R_reads' HO_5.out).2.2 x7_2
     cases e195; obtain ⟨ad196, e196, _, _, hx196_0⟩ := aI HR0.out x7_2
     cases e196
     replace hx196_0 := hT HB.out hx196_0; obtain ⟨_, _, hx197_0⟩ := aJ (Kd.R_reads' HO_5.out).2.2 (rd l0 x7_2); obtain ⟨ad198, e198, _, _, hx198_0⟩ := aI HR1.out x7_2
     cases e198
     replace hx198_0 := hT HB.out hx198_0; obtain ⟨_, _, hx199_0⟩ := aJ (Kd.R_reads' HO_5.out).2.2 (rd l1 x7_2); have p16 : 0 ≤ (x7_2 : Int) := oA; have q16 : (x7_2 : Int) < ((x5_2.length : Int) : Int) := oA; obtain ⟨go16, co16, eo16, gb16, gl16, cl16, HG16⟩ := Kd.R_form HO_5.out (by omega); (first | cases eo16 | (injection eo16 with ea_ en_ ec_; (first | subst ea_ | (injection ea_ with ea_; subst ea_)); subst ec_; clear en_)); have GB16 := Az gb16; have GG16 := Az HG16; clear gb16 gl16 HG16; simp only [add_plain] at hx195_0; simp only [add_plain] at hx197_0; simp only [add_plain] at hx199_0; obtain ⟨hx16_0, hf16_0⟩ := Kd.R_celln 0 HO_5.out (x7_2 : Int) p16 q16; replace p16 := eq_true p16; replace q16 := eq_true q16; obtain ⟨hy20_, hz20_⟩ := Kd.R_celln 0 HO_5.out (x7_2 : Int) (oA) (oA); have HP20 := Kd.R_putg HO_5.out (x7_2 : Int) ji15
     go_wp2_with (fail)
     repeat (go_quiet (fail); try go_wp2_with (first | ((with_reducible refine gs 3 47 rfl ?_); (rw [drewN_self wr]; generalize hq_ : World.drewN wr _ = wr; replace HO_5 := Az (Kd.R_at hq_ HO_5.out); replace HB := Az (below_at hq_ HB.out); clear hq_; (obtain ⟨hy20_, hz20_⟩ := Kd.R_celln 0 HO_5.out (x7_2 : Int) (oA) (oA)); (have HP20 := Kd.R_putg HO_5.out (x7_2 : Int) ji15)); refine sE 3 47 (wr.setCell ⟨go16, (x7_2 : Int).toNat, none⟩ (.int .i64 ji15)) ?_; intro w21 hw; have hg : wr.grownBy w21 (some go16) := (by rw [hw]; exact HP20.2); have hp_ : Kd.R (Kd.int .i64) 3 w21 w.heap.size (fun _ => True) (.slice (some ⟨go16, 0, none⟩) x5_2.length co19) y200 := (by rw [hw, Ny200.out]; exact HP20.1); clear HP20; replace HO_5 := Az (hp_); replace HB := Az ((by rw [hw]; exact below_set (HB.out) GB16.out : Below w.heap.size w w21)); clear hg hw hp_; obtain ⟨_, _, hx201_0⟩ := aJ HR0.out x7_2; replace hx201_0 := hT HB.out hx201_0; have p17 : 0 ≤ ((rd l0 x7_2) : Int) := oA; have q17 : ((rd l0 x7_2) : Int) < ((x5_2.length : Int) : Int) := oA; obtain ⟨hx17_0, hf17_0⟩ := Kd.R_celln 0 HO_5.out ((rd l0 x7_2) : Int) p17 q17; replace p17 := eq_true p17; replace q17 := eq_true q17; obtain ⟨hy22_, hz22_⟩ := Kd.R_celln 0 HO_5.out ((rd l0 x7_2) : Int) (oA) (oA); have HP22 := Kd.R_putg HO_5.out ((rd l0 x7_2) : Int) ji15) | ((with_reducible refine gs 3 54 rfl ?_); refine sE 3 54 (w21.setCell ⟨go16, ((rd l0 x7_2) : Int).toNat, none⟩ (.int .i64 ji15)) ?_; intro w23 hw; have hg : w21.grownBy w23 (some go16) := (by rw [hw]; exact HP22.2); have hp_ : Kd.R (Kd.int .i64) 3 w23 w.heap.size (fun _ => True) (.slice (some ⟨go16, 0, none⟩) x5_2.length co19) y202 := (by rw [hw, Ny202.out]; exact HP22.1); clear HP22; replace HO_5 := Az (hp_); replace HB := Az ((by rw [hw]; exact below_set (HB.out) GB16.out : Below w.heap.size w w23)); clear hg hw hp_; obtain ⟨_, _, hx203_0⟩ := aJ HR1.out x7_2; replace hx203_0 := hT HB.out hx203_0; have p18 : 0 ≤ ((rd l1 x7_2) : Int) := oA; have q18 : ((rd l1 x7_2) : Int) < ((x5_2.length : Int) : Int) := oA; obtain ⟨hx18_0, hf18_0⟩ := Kd.R_celln 0 HO_5.out ((rd l1 x7_2) : Int) p18 q18; replace p18 := eq_true p18; replace q18 := eq_true q18; obtain ⟨hy24_, hz24_⟩ := Kd.R_celln 0 HO_5.out ((rd l1 x7_2) : Int) (oA) (oA); have HP24 := Kd.R_putg HO_5.out ((rd l1 x7_2) : Int) ji15) | ((with_reducible refine gs 3 61 rfl ?_); refine sE 3 61 (w23.setCell ⟨go16, ((rd l1 x7_2) : Int).toNat, none⟩ (.int .i64 ji15)) ?_; intro w25 hw; have hg : w23.grownBy w25 (some go16) := (by rw [hw]; exact HP24.2); have hp_ : Kd.R (Kd.int .i64) 3 w25 w.heap.size (fun _ => True) (.slice (some ⟨go16, 0, none⟩) x5_2.length co19) y204 := (by rw [hw, Ny204.out]; exact HP24.1); clear HP24; replace HO_5 := Az (hp_); replace HB := Az ((by rw [hw]; exact below_set (HB.out) GB16.out : Below w.heap.size w w25)); clear hg hw hp_)))
     go_roundg k2
     case measure => exact mO
     case rel => exact ⟨(y204), (wrap64 (x7_2 + 1)), rS, H', ⟨mO⟩, ⟨rU HO_5.out⟩, ⟨bU0 HB.out⟩⟩
    ·
     have H' := Az H; clear H; go_wp2
     repeat (go_quiet (fail); try go_wp2)
     go_roundg k2
     case measure => exact mO
     case rel => exact ⟨(x5_2), (wrap64 (x6_1 + 1)), rS, H', ⟨mO⟩, ⟨rU HO_5.out⟩, ⟨bU0 HB.out⟩⟩
  ·
   rw [if_neg c5] at H; have c5b0 := decide_eq_false c5; clear c5; obtain rfl := Option.some.inj H; go_wp2
   repeat (go_quiet (fail); try go_wp2)
   go_ret; exact ⟨_, rE, rU HO_5.out, bU0 HB.out⟩
def spec_l6In.f (a0 : Int) (a1 : Int) (a2 : Int) : Option (Bool) := if a0 ≥ a1 then (some (decide (a0 ≤ a2))) else (some false)
set_option maxHeartbeats 8000000 in
set_option maxRecDepth 100000 in
theorem spec_l6In.calls (a0 : Int) (a1 : Int) (a2 : Int) (r : Bool) (w : World) (h : spec_l6In.f a0 a1 a2 = some r) :
  Calls Try.prog 118 #[.int .i64 a0, .int .i64 a1, .int .i64 a2] w fun e w' => e = .returned (.bool r) ∧ Drawn0 w w' := by
 have H := h; clear h; unfold spec_l6In.f at H
 replace H := gB H; rcases H with ⟨c4b0, H⟩ | ⟨c4b0, H⟩
 · obtain rfl := Option.some.inj H; go_enter Try.func118, Try.ntmps118; go_wp2; go_ret; exact ⟨by first | rfl | (simp; done) | (simp [*]; done), by repeat (first | exact Drawn0.refl _ | apply Drawn0.step)⟩
 · obtain rfl := Option.some.inj H; go_enter Try.func118, Try.ntmps118; go_wp2; go_ret; exact ⟨by first | rfl | (simp; done) | (simp [*]; done), by repeat (first | exact Drawn0.refl _ | apply Drawn0.step)⟩
mutual
def spec_PermValid.l0 : Nat → List Int → Int → Option (Bool)
 | 0, _, _ => none
 | k + 1, x0, x3 => if x3 < (x0.length : Int) then (if 0 ≤ x3 then ((spec_l6In.f (rd x0 x3) 0 (wrap64 ((x0.length : Int) - 1))).bind fun t207 => (if t207 = true then (spec_PermValid.l1 k x0 x3 0) else (some false))) else (none)) else ((spec_l6In.f (x0.length : Int) 1 12).bind fun t205 => (some t205))
def spec_PermValid.l1 : Nat → List Int → Int → Int → Option (Bool)
 | 0, _, _, _ => none
 | k + 1, x0, x3, x4 => if x4 < x3 then (if 0 ≤ x4 then (if x4 < (x0.length : Int) then (if 0 ≤ x3 then (if x3 < (x0.length : Int) then (if (rd x0 x4) = (rd x0 x3) then (some false) else (spec_PermValid.l1 k x0 x3 (wrap64 (x4 + 1)))) else (none)) else (none)) else (none)) else (none)) else (spec_PermValid.l0 k x0 (wrap64 (x3 + 1)))
end
def spec_PermValid.f (k : Nat) (l0 : List Int) : Option (Bool) := spec_PermValid.l0 k l0 0
set_option maxHeartbeats 8000000 in
set_option maxRecDepth 100000 in
theorem spec_PermValid.calls (k : Nat) (A0 : Option Addr) (c0 : Nat) (l0 : List Int) (r : Bool) (w : World) (hr0 : Kd.C (Kd.int .i64) w A0 l0.length l0) (hc0 : l0.length ≤ c0) (h : spec_PermValid.f k l0 = some r) :
  Calls Try.prog 152 #[.slice A0 l0.length c0] w fun e w' => e = .returned (.bool r) ∧ Drawn0 w w' := by
 have HR0 := Az hr0; have HC0 := Az hc0; clear hr0 hc0; have H := h; clear h; unfold spec_PermValid.f at H; have H' := Az H; clear H; go_enter Try.func152, Try.ntmps152; go_wp2
 repeat (go_quiet (fail); try go_wp2)
 go_loopg [3] k (fun kq v3 w' => ∃ (x3_1 : Int), v3 = .int .i64 x3_1 ∧ Aside0 (spec_PermValid.l0 kq l0 x3_1 = some r) ∧ Aside0 (kq ≤ k) ∧ Drawn0 w w')
 case atStart => exact ⟨(0), rS, H', ⟨Nat.le_refl _⟩, by repeat (first | exact Drawn0.refl _ | apply Drawn0.step)⟩
 case round =>
  clear H'; obtain ⟨x3_1, rfl, HA, HK1, ⟨m1, rfl⟩⟩ := hrel
  rcases gk with _ | k1
  exact (nN HA.out).elim; have H := HA.out; clear HA; simp only [spec_PermValid.l0] at H
  by_cases c2 : x3_1 < (l0.length : Int)
  ·
   rw [if_pos c2] at H; have c2b0 := decide_eq_true c2; clear c2; replace H := gD1 H; obtain ⟨c3b0, H⟩ := H; replace H := bd H; obtain ⟨t207, A4, H⟩ := H
   by_cases c5 : t207 = true
   ·
    subst c5; rw [if_pos rfl] at H; have H' := Az H; clear H; obtain ⟨ad206, e206, p206, q206, hx206_0⟩ := aI HR0.out x3_1
    cases e206
    go_wp2_with (first | (go_at_call 118; (with_reducible refine (spec_l6In.calls (rd l0 x3_1) 0 (wrap64 ((l0.length : Int) - 1)) true _ A4.out).mono ?_); rintro e w' ⟨rfl, ⟨nd, rfl⟩⟩))
    repeat (go_quiet (fail); try go_wp2_with (fail))
    go_loopg [4] k1 (fun kq v4 w' => ∃ (x4_2 : Int), v4 = .int .i64 x4_2 ∧ Aside0 (spec_PermValid.l1 kq l0 x3_1 x4_2 = some r) ∧ Aside0 (kq ≤ k1) ∧ Drawn0 w w')
    case atStart => exact ⟨(0), rS, H', ⟨Nat.le_refl _⟩, by repeat (first | exact Drawn0.refl _ | apply Drawn0.step)⟩
    case round =>
     clear H'; obtain ⟨x4_2, rfl, HA, HK2, ⟨m2, rfl⟩⟩ := hrel
     rcases gk with _ | k2
     exact (nN HA.out).elim; have H := HA.out; clear HA; simp only [spec_PermValid.l1] at H
     replace H := gB H; rcases H with ⟨c6b0, H⟩ | ⟨c6b0, H⟩
     ·
      replace H := gD4 H; obtain ⟨c7b0, c8b0, c9b0, c10b0, H⟩ := H
      replace H := gQ H; rcases H with ⟨c11b0, c11b1, H⟩ | ⟨c11b0, c11b1, H⟩
      ·
       obtain rfl := Option.some.inj H; obtain ⟨p208, q208, hx208_0⟩ := aJ HR0.out x4_2; obtain ⟨p209, q209, hx209_0⟩ := aJ HR0.out x3_1; go_wp2
       repeat (go_quiet (fail); try go_wp2)
       go_ret; exact ⟨by first | rfl | (simp; done) | (simp [*]; done), by repeat (first | exact Drawn0.refl _ | apply Drawn0.step)⟩
      ·
       have H' := Az H; clear H; obtain ⟨p208, q208, hx208_0⟩ := aJ HR0.out x4_2; obtain ⟨p209, q209, hx209_0⟩ := aJ HR0.out x3_1; go_wp2
       repeat (go_quiet (fail); try go_wp2)
       go_roundg k2
       case measure => exact mO
       case rel => exact ⟨(wrap64 (x4_2 + 1)), rS, H', ⟨mO⟩, by repeat (first | exact Drawn0.refl _ | apply Drawn0.step)⟩
     ·
      have H' := Az H; clear H; go_wp2
      repeat (go_quiet (fail); try go_wp2)
      go_roundg k2
      case measure => exact mO
      case rel => exact ⟨(wrap64 (x3_1 + 1)), rS, H', ⟨mO⟩, by repeat (first | exact Drawn0.refl _ | apply Drawn0.step)⟩
   ·
    replace c5 := Bool.eq_false_iff.mpr c5; subst c5; rw [if_neg nT] at H; obtain rfl := Option.some.inj H; obtain ⟨ad206, e206, p206, q206, hx206_0⟩ := aI HR0.out x3_1
    cases e206
    go_wp2_with (first | (go_at_call 118; (with_reducible refine (spec_l6In.calls (rd l0 x3_1) 0 (wrap64 ((l0.length : Int) - 1)) false _ A4.out).mono ?_); rintro e w' ⟨rfl, ⟨nd, rfl⟩⟩))
    repeat (go_quiet (fail); try go_wp2_with (fail))
    go_ret; exact ⟨by first | rfl | (simp; done) | (simp [*]; done), by repeat (first | exact Drawn0.refl _ | apply Drawn0.step)⟩
  ·
   rw [if_neg c2] at H; have c2b0 := decide_eq_false c2; clear c2; replace H := bd H; obtain ⟨t205, A12, H⟩ := H; obtain rfl := Option.some.inj H
   go_wp2_with (first | (go_at_call 118; (with_reducible refine (spec_l6In.calls (l0.length : Int) 1 12 t205 _ A12.out).mono ?_); rintro e w' ⟨rfl, ⟨nd, rfl⟩⟩))
   repeat (go_quiet (fail); try go_wp2_with (fail))
   go_ret; exact ⟨by first | rfl | (simp; done) | (simp [*]; done), by repeat (first | exact Drawn0.refl _ | apply Drawn0.step)⟩
def spec_l1Both.f (k : Nat) (l0 : List Int) (l1 : List Int) : Option (Bool) := (spec_PermValid.f k l0).bind fun t210 => (if t210 = true then ((spec_PermValid.f k l1).bind fun t211 => (if t211 = true then (some ((l0.length : Int) == (l1.length : Int))) else (some false))) else (some false))
set_option maxHeartbeats 8000000 in
set_option maxRecDepth 100000 in
theorem spec_l1Both.calls (k : Nat) (A0 : Option Addr) (c0 : Nat) (l0 : List Int) (A1 : Option Addr) (c1 : Nat) (l1 : List Int) (r : Bool) (w : World) (hr0 : Kd.C (Kd.int .i64) w A0 l0.length l0) (hc0 : l0.length ≤ c0) (hr1 : Kd.C (Kd.int .i64) w A1 l1.length l1) (hc1 : l1.length ≤ c1) (h : spec_l1Both.f k l0 l1 = some r) :
  Calls Try.prog 125 #[.slice A0 l0.length c0, .slice A1 l1.length c1] w fun e w' => e = .returned (.bool r) ∧ Drawn0 w w' := by
 have HR0 := Az hr0; have HC0 := Az hc0; clear hr0 hc0; have HR1 := Az hr1; have HC1 := Az hc1; clear hr1 hc1; have H := h; clear h; unfold spec_l1Both.f at H; replace H := bd H; obtain ⟨t210, A3, H⟩ := H
 by_cases c4 : t210 = true
 ·
  subst c4; rw [if_pos rfl] at H; replace H := bd H; obtain ⟨t211, A5, H⟩ := H
  by_cases c6 : t211 = true
  ·
   subst c6; rw [if_pos rfl] at H; obtain rfl := Option.some.inj H; go_enter Try.func125, Try.ntmps125
   go_wp2_with (first | ((with_reducible refine gK 152 rfl ?_); refine gC (some 6) Try.func152 #[.slice A0 l0.length c0] ?_; (with_reducible refine (spec_PermValid.calls k _ _ l0 true _ ?_ ?_ A3.out).mono ?_); exact cU (HR0.out); exact HC0.out; rintro e w' ⟨rfl, ⟨nd, rfl⟩⟩; refine ⟨_, rfl, ?_⟩) | (go_at_call 152; (with_reducible refine (spec_PermValid.calls k _ _ l1 true _ ?_ ?_ A5.out).mono ?_); exact cU (HR1.out); exact HC1.out; rintro e w' ⟨rfl, ⟨nd, rfl⟩⟩))
   go_ret; exact ⟨by first | rfl | (simp; done) | (simp [*]; done), by repeat (first | exact Drawn0.refl _ | apply Drawn0.step)⟩
  ·
   replace c6 := Bool.eq_false_iff.mpr c6; subst c6; rw [if_neg nT] at H; obtain rfl := Option.some.inj H; go_enter Try.func125, Try.ntmps125
   go_wp2_with (first | ((with_reducible refine gK 152 rfl ?_); refine gC (some 6) Try.func152 #[.slice A0 l0.length c0] ?_; (with_reducible refine (spec_PermValid.calls k _ _ l0 true _ ?_ ?_ A3.out).mono ?_); exact cU (HR0.out); exact HC0.out; rintro e w' ⟨rfl, ⟨nd, rfl⟩⟩; refine ⟨_, rfl, ?_⟩) | (go_at_call 152; (with_reducible refine (spec_PermValid.calls k _ _ l1 false _ ?_ ?_ A5.out).mono ?_); exact cU (HR1.out); exact HC1.out; rintro e w' ⟨rfl, ⟨nd, rfl⟩⟩))
   go_ret; exact ⟨by first | rfl | (simp; done) | (simp [*]; done), by repeat (first | exact Drawn0.refl _ | apply Drawn0.step)⟩
 ·
  replace c4 := Bool.eq_false_iff.mpr c4; subst c4; rw [if_neg nT] at H; obtain rfl := Option.some.inj H; go_enter Try.func125, Try.ntmps125
  go_wp2_with (first | ((with_reducible refine gK 152 rfl ?_); refine gC (some 6) Try.func152 #[.slice A0 l0.length c0] ?_; (with_reducible refine (spec_PermValid.calls k _ _ l0 false _ ?_ ?_ A3.out).mono ?_); exact cU (HR0.out); exact HC0.out; rintro e w' ⟨rfl, ⟨nd, rfl⟩⟩; refine ⟨_, rfl, ?_⟩))
  go_ret; exact ⟨by first | rfl | (simp; done) | (simp [*]; done), by repeat (first | exact Drawn0.refl _ | apply Drawn0.step)⟩
mutual
def spec_MapValid.l0 : Nat → Int → List Int → List Int → Option (Bool)
 | 0, _, _, _ => none
 | k + 1, x3, xZ0, xZ1 => if x3 < (xZ1.length : Int) then (if 0 ≤ x3 then (if (rd xZ1 x3) = x3 then (some false) else (if 0 ≤ (rd xZ1 x3) then (if (rd xZ1 x3) < (xZ1.length : Int) then (if (rd xZ1 (rd xZ1 x3)) = x3 then (spec_MapValid.l0 k (wrap64 (x3 + 1)) xZ0 xZ1) else (some false)) else (none)) else (none))) else (none)) else ((spec_l1Orbits.f k xZ0 xZ1).bind fun t217 => (spec_MapValid.l1 k t217 0))
def spec_MapValid.l1 : Nat → List Int → Int → Option (Bool)
 | 0, _, _ => none
 | k + 1, x4, x5 => if x5 < (x4.length : Int) then (if 0 ≤ x5 then (if (rd x4 x5) = 0 then (spec_MapValid.l1 k x4 (wrap64 (x5 + 1))) else (some false)) else (none)) else (some true)
end
def spec_MapValid.f (k : Nat) (l0_0 : List Int) (l0_1 : List Int) : Option (Bool) := (spec_l1Both.f k l0_0 l0_1).bind fun t213 => (if t213 = true then (spec_MapValid.l0 k 0 l0_0 l0_1) else (some false))
set_option maxHeartbeats 8000000 in
set_option maxRecDepth 100000 in
theorem spec_MapValid.calls (k : Nat) (A0_0 : Option Addr) (c0_0 : Nat) (l0_0 : List Int) (A0_1 : Option Addr) (c0_1 : Nat) (l0_1 : List Int) (r : Bool) (w : World) (hr0_0 : Kd.C (Kd.int .i64) w A0_0 l0_0.length l0_0) (hc0_0 : l0_0.length ≤ c0_0) (hr0_1 : Kd.C (Kd.int .i64) w A0_1 l0_1.length l0_1) (hc0_1 : l0_1.length ≤ c0_1) (h : spec_MapValid.f k l0_0 l0_1 = some r) :
  Calls Try.prog 79 #[.agg #[.slice A0_0 l0_0.length c0_0, .slice A0_1 l0_1.length c0_1]] w fun e w' => e = .returned (.bool r) ∧ Below w.heap.size w w' := by
 have hu25 := Try.underlying25; have HR0_0 := Az hr0_0; have HC0_0 := Az hc0_0; clear hr0_0 hc0_0; have HR0_1 := Az hr0_1; have HC0_1 := Az hc0_1; clear hr0_1 hc0_1; have HB := bZ w; have H := h; clear h; unfold spec_MapValid.f at H; replace H := bd H; obtain ⟨t213, A2, H⟩ := H
 by_cases c3 : t213 = true
 ·
  subst c3; rw [if_pos rfl] at H; have H' := Az H; clear H; go_enter Try.func79, Try.ntmps79
  go_wp2_with (first | ((with_reducible refine gd 1 rfl ?_); refine bE 1 #[.slice A0_0 l0_0.length c0_0, .slice A0_1 l0_1.length c0_1] 25 ?_; intro gb212 hg w4 hbox hb; have BK212 := Az (hbox); have GW212 := gW hg (bU0 HB.out); replace HB := Az (below_step (bU0 HB.out) hb); clear hb hbox hg; have hz5 := bc2 BK212.out) | (go_at_call 125; (with_reducible refine (spec_l1Both.calls k _ _ l0_0 _ _ l0_1 true _ ?_ ?_ ?_ ?_ A2.out).mono ?_); exact cU (Kd.C_below HR0_0.out HB.out); exact HC0_0.out; exact cU (Kd.C_below HR0_1.out HB.out); exact HC0_1.out; rintro e w' ⟨rfl, ⟨nd, rfl⟩⟩))
  repeat (go_quiet (fail); try go_wp2_with (fail))
  go_loopg [3] k (fun kq v3 w' => ∃ (x3_1 : Int), v3 = .int .i64 x3_1 ∧ Aside0 (spec_MapValid.l0 kq x3_1 l0_0 l0_1 = some r) ∧ Aside0 (kq ≤ k) ∧ Aside0 (w'.heap[gb212]? = some (.cells #[(.slice A0_0 l0_0.length c0_0), (.slice A0_1 l0_1.length c0_1)] 25 (0, 0))) ∧ Aside0 (Below w.heap.size w w'))
  case atStart => exact ⟨(0), rS, H', ⟨Nat.le_refl _⟩, ⟨kU BK212.out⟩, ⟨bU1 HB.out GW212.out⟩⟩
  case round =>
   clear H'; obtain ⟨x3_1, rfl, HA, HK1, BK212, HB⟩ := hrel
   rcases gk with _ | k1
   exact (nN HA.out).elim; have H := HA.out; clear HA; simp only [spec_MapValid.l0] at H
   by_cases c6 : x3_1 < (l0_1.length : Int)
   ·
    rw [if_pos c6] at H; have c6b0 := decide_eq_true c6; clear c6; replace H := gD1 H; obtain ⟨c7b0, H⟩ := H
    replace H := gQ H; rcases H with ⟨c8b0, c8b1, H⟩ | ⟨c8b0, c8b1, H⟩
    ·
     obtain rfl := Option.some.inj H; have hz9 := bc2 BK212.out; obtain ⟨ad214, e214, p214, q214, hx214_0⟩ := aI HR0_1.out x3_1
     cases e214
     replace hx214_0 := hT HB.out hx214_0; go_wp2
     repeat (go_quiet (fail); try go_wp2)
     go_ret; exact ⟨rE, bU1 HB.out GW212.out⟩
    ·
     replace H := gD2 H; obtain ⟨c10b0, c11b0, H⟩ := H
     replace H := gQ H; rcases H with ⟨c12b0, c12b1, H⟩ | ⟨c12b0, c12b1, H⟩
     ·
      have H' := Az H; clear H; have hz13 := bc2 BK212.out; obtain ⟨ad214, e214, p214, q214, hx214_0⟩ := aI HR0_1.out x3_1
      cases e214
      replace hx214_0 := hT HB.out hx214_0; obtain ⟨p215, q215, hx215_0⟩ := aJ HR0_1.out x3_1; replace hx215_0 := hT HB.out hx215_0; obtain ⟨p216, q216, hx216_0⟩ := aJ HR0_1.out (rd l0_1 x3_1); replace hx216_0 := hT HB.out hx216_0; go_wp2
      repeat (go_quiet (fail); try go_wp2)
      go_roundg k1
      case measure => exact mO
      case rel => exact ⟨(wrap64 (x3_1 + 1)), rS, H', ⟨mO⟩, ⟨kU BK212.out⟩, ⟨bU1 HB.out GW212.out⟩⟩
     ·
      obtain rfl := Option.some.inj H; have hz14 := bc2 BK212.out; obtain ⟨ad214, e214, p214, q214, hx214_0⟩ := aI HR0_1.out x3_1
      cases e214
      replace hx214_0 := hT HB.out hx214_0; obtain ⟨p215, q215, hx215_0⟩ := aJ HR0_1.out x3_1; replace hx215_0 := hT HB.out hx215_0; obtain ⟨p216, q216, hx216_0⟩ := aJ HR0_1.out (rd l0_1 x3_1); replace hx216_0 := hT HB.out hx216_0; go_wp2
      repeat (go_quiet (fail); try go_wp2)
      go_ret; exact ⟨rE, bU1 HB.out GW212.out⟩
   ·
    rw [if_neg c6] at H; have c6b0 := decide_eq_false c6; clear c6; replace H := bd H; obtain ⟨t217, A15, H⟩ := H; have H' := Az H; clear H; have hz16 := bc2 BK212.out
    go_wp2_with (first | (go_at_call 124; (with_reducible refine (spec_l1Orbits.calls k1 _ _ l0_0 _ _ l0_1 t217 _ ?_ ?_ ?_ ?_ A15.out).mono ?_); exact cU (Kd.C_below HR0_0.out HB.out); exact HC0_0.out; exact cU (Kd.C_below HR0_1.out HB.out); exact HC0_1.out; rintro e w17 ⟨v218, rfl, ho0, hb⟩; have HO219 := Az (Kd.R_lower ho0 (below_size (bU1 HB.out GW212.out))); replace BK212 := kB BK212.out hb; replace HB := Az (below_step (bU1 HB.out GW212.out) hb); clear hb ho0))
    repeat (go_quiet (fail); try go_wp2_with (fail))
    go_loopg [5] k1 (fun kq v5 w' => ∃ (x5_2 : Int), v5 = .int .i64 x5_2 ∧ Aside0 (spec_MapValid.l1 kq t217 x5_2 = some r) ∧ Aside0 (kq ≤ k1) ∧ Aside0 (Kd.R (Kd.int .i64) 3 w' w.heap.size (fun _ => True) v218 t217) ∧ Aside0 (w'.heap[gb212]? = some (.cells #[(.slice A0_0 l0_0.length c0_0), (.slice A0_1 l0_1.length c0_1)] 25 (0, 0))) ∧ Aside0 (Below w.heap.size w w'))
    case atStart => exact ⟨(0), rS, H', ⟨Nat.le_refl _⟩, ⟨rU HO219.out⟩, ⟨kU BK212.out⟩, ⟨bU1 HB.out GW212.out⟩⟩
    case round =>
     clear H'; obtain ⟨x5_2, rfl, HA, HK2, HO_4, BK212, HB⟩ := hrel
     rcases gk with _ | k2
     exact (nN HA.out).elim; have H := HA.out; clear HA; simp only [spec_MapValid.l1] at H
     replace H := gB H; rcases H with ⟨c18b0, H⟩ | ⟨c18b0, H⟩
     ·
      replace H := gD1 H; obtain ⟨c19b0, H⟩ := H
      replace H := gQ H; rcases H with ⟨c20b0, c20b1, H⟩ | ⟨c20b0, c20b1, H⟩
      ·
       have H' := Az H; clear H; obtain ⟨Ao21, co21, eo21⟩ := Kd.R_slice HO_4.out; subst eo21; obtain ⟨ad220, e220, p220, q220, hx220_0⟩ := aI (Kd.R_reads' HO_4.out).2.2 x5_2
       cases e220; go_wp2
       repeat (go_quiet (fail); try go_wp2)
       go_roundg k2
       case measure => exact mO
       case rel => exact ⟨(wrap64 (x5_2 + 1)), rS, H', ⟨mO⟩, ⟨rU HO_4.out⟩, ⟨kU BK212.out⟩, ⟨bU1 HB.out GW212.out⟩⟩
      ·
       obtain rfl := Option.some.inj H; obtain ⟨Ao22, co22, eo22⟩ := Kd.R_slice HO_4.out; subst eo22; obtain ⟨ad220, e220, p220, q220, hx220_0⟩ := aI (Kd.R_reads' HO_4.out).2.2 x5_2
       cases e220; go_wp2
       repeat (go_quiet (fail); try go_wp2)
       go_ret; exact ⟨rE, bU1 HB.out GW212.out⟩
     ·
      obtain rfl := Option.some.inj H; obtain ⟨Ao23, co23, eo23⟩ := Kd.R_slice HO_4.out; subst eo23; go_wp2
      repeat (go_quiet (fail); try go_wp2)
      go_ret; exact ⟨rE, bU1 HB.out GW212.out⟩
 ·
  replace c3 := Bool.eq_false_iff.mpr c3; subst c3; rw [if_neg nT] at H; obtain rfl := Option.some.inj H; go_enter Try.func79, Try.ntmps79
  go_wp2_with (first | ((with_reducible refine gd 1 rfl ?_); refine bE 1 #[.slice A0_0 l0_0.length c0_0, .slice A0_1 l0_1.length c0_1] 25 ?_; intro gb212 hg w24 hbox hb; have BK212 := Az (hbox); have GW212 := gW hg (bU0 HB.out); replace HB := Az (below_step (bU0 HB.out) hb); clear hb hbox hg; have hz25 := bc2 BK212.out) | (go_at_call 125; (with_reducible refine (spec_l1Both.calls k _ _ l0_0 _ _ l0_1 false _ ?_ ?_ ?_ ?_ A2.out).mono ?_); exact cU (Kd.C_below HR0_0.out HB.out); exact HC0_0.out; exact cU (Kd.C_below HR0_1.out HB.out); exact HC0_1.out; rintro e w' ⟨rfl, ⟨nd, rfl⟩⟩))
  repeat (go_quiet (fail); try go_wp2_with (fail))
  go_ret; exact ⟨rE, bU1 HB.out GW212.out⟩
def spec_l91Perm.l0 : Nat → Int → List Int → Int → List Int → Int → Option (List Int × Int)
 | 0, _, _, _, _, _ => none
 | k + 1, x1, x5, x6, x1000, x1001 => if x6 < x1 then ((spec_l6Rd_pick.f k x1000 x1001 (wrap64 (x6 + 1))).bind fun bt224 => (if bt224.1 = x6 then (if x5.length < 17592186044416 then (spec_l91Perm.l0 k x1 (x5 ++ [x6]) (wrap64 (x6 + 1)) x1000 bt224.2) else (none)) else (if 0 ≤ bt224.1 then (if bt224.1 < (x5.length : Int) then (if x5.length < 17592186044416 then ((some (x5 ++ [rd x5 bt224.1] : List Int)).bind fun y230 => (if bt224.1 < (y230.length : Int) then (spec_l91Perm.l0 k x1 (y230.set (bt224.1 : Int).toNat x6) (wrap64 (x6 + 1)) x1000 bt224.2) else (none))) else (none)) else (none)) else (none)))) else (some (x5, x1001))
def spec_l91Perm.f (k : Nat) (s0_0 : List Int) (s0_1 : Int) (a1 : Int) : Option (List Int × Int) := spec_l91Perm.l0 k a1 (([] : List Int)) 0 s0_0 s0_1
set_option maxHeartbeats 8000000 in
set_option maxRecDepth 100000 in
theorem spec_l91Perm.calls (k : Nat) (g : Nat) (s0_0 : List Int) (s0_1 : Int) (a1 : Int) (r1 : List Int) (r2 : Int) (w0 w : World) (hI : IsS87 w0 w g s0_0 s0_1) (hB : Below w0.heap.size w0 w) (h : spec_l91Perm.f k s0_0 s0_1 a1 = some (r1, r2)) :
  Calls Try.prog 123 #[.pointer (some ⟨g, 0, none⟩), .int .i64 a1] w fun e w' => ∃ v0_ : Value, e = .returned (v0_) ∧ Kd.R (Kd.int .i64) 3 w' w.heap.size (fun _ => True) v0_ r1 ∧ IsS87 w0 w' g s0_0 r2 ∧ Below w0.heap.size w0 w' ∧ KeepBut w w' g none := by
 have HI0 := Az hI; have HK := Az (KeepBut.refl w g none); have HL := Az hB.size; clear hI; have HW0 := Az hB.size; have HB := Az hB; clear hB; have H := h; clear h; unfold spec_l91Perm.f at H; generalize Ny221 : (([] : List Int) : List Int) = y221 at H; replace Ny221 := Ay Ny221; have H' := Az H; clear H; go_enter Try.func123, Try.ntmps123
 go_wp2_with (first | ((with_reducible refine gd 8 rfl ?_); refine Kd.R_lit (Kd.int .i64) _ 3 rfl (N := 8) rfl (xs := ([] : List Int)) (inner := []) (ok := fun _ => True) (okp := fun _ => True) hS ?hp (fun _ hk => hk) trivial (Below.refl _ _) (Nat.le_refl _) (by simp) ?_; (case hp => exact (Reps.none _ _)); intro v222 w3 ho4 hb hg_ hnew_; clear hg_ hnew_; (first | rw [← Ny221.out] at ho4 | (simp only [Int.reduceToNat] at ho4; rw [← Ny221.out] at ho4)); have HO223 := Az (Kd.R_lower ho4 (keep_size (w := w) (g := g) (row := none) z1_0)); replace HK := Az (KeepBut.trans z1_0 (KeepBut.of_below hb g none) (.inl rfl)); replace HB := Az (below_step z1_3 hb); replace HI0 := Az (IsS87.below z1_1 hb); clear hb ho4))
 go_loopg [5, 6] k (fun kq v5 v6 w' => ∃ (x5_1 : List Int) (x6_1 : Int) (x1001_1 : Int), v6 = .int .i64 x6_1 ∧ Aside0 (spec_l91Perm.l0 kq a1 x5_1 x6_1 s0_0 x1001_1 = some (r1, r2)) ∧ Aside0 (kq ≤ k) ∧ Aside0 (Kd.R (Kd.int .i64) 3 w' w.heap.size (fun _ => True) v5 x5_1) ∧ Aside0 (IsS87 w0 w' g s0_0 x1001_1) ∧ Aside0 (KeepBut w w' g none) ∧ Aside0 (Below w0.heap.size w0 w'))
 case atStart => exact ⟨(y221), (0), (s0_1), rS, H', ⟨Nat.le_refl _⟩, ⟨rU HO223.out⟩, ⟨by repeat (first | (with_reducible first | exact HI0.out | apply IsS87.alloc | apply IsS87.drewN | apply IsS87.drew | apply IsS87.set_1) | exact HI0.out)⟩, ⟨by repeat (first | (with_reducible first | exact HK.out | apply KeepBut.set_ | apply keep_drewN | apply keep_drew | apply keep_alloc) | exact HK.out)⟩, ⟨by repeat (first | (with_reducible first | exact HB.out | apply below_alloc | apply pw_below_drewN | apply below_drew1 | refine below_set ?_ (IsS87.ge HI0.out)) | exact HB.out)⟩⟩
 case round =>
  clear H'; obtain ⟨x5_1, x6_1, x1001_1, rfl, HA, HK1, HO_5, HI0, HK, HB⟩ := hrel
  rcases gk with _ | k1
  exact (nN HA.out).elim; have H := HA.out; clear HA; simp only [spec_l91Perm.l0] at H
  replace H := gB H; rcases H with ⟨c5b0, H⟩ | ⟨c5b0, H⟩
  ·
   replace H := bd H; obtain ⟨⟨t224, t225⟩, A6, H⟩ := H; dsimp only at H
   replace H := gQ H; rcases H with ⟨c7b0, c7b1, H⟩ | ⟨c7b0, c7b1, H⟩
   ·
    replace H := gP H; obtain ⟨c8, H⟩ := H; have LMc8 := Az c8; clear c8; generalize Ny226 : (x5_1 ++ [x6_1] : List Int) = y226 at H; replace Ny226 := Ay Ny226; have H' := Az H; clear H
    go_wp2_with (first | ((with_reducible refine gK 76 rfl ?_); refine gC (some 17) Try.func76 #[.pointer (some ⟨g, 0, none⟩), .int .i64 (wrap64 (x6_1 + 1))] ?_; (with_reducible refine (spec_l6Rd_pick.calls k1 g s0_0 x1001_1 (wrap64 (x6_1 + 1)) t224 t225 w0 _ ?side1 ?side2 A6.out).mono ?_); (case side1 => repeat (first | (with_reducible first | exact HI0.out | apply IsS87.alloc | apply IsS87.drewN | apply IsS87.drew | apply IsS87.set_1) | exact HI0.out)); (case side2 => repeat (first | (with_reducible first | exact HB.out | apply below_alloc | apply pw_below_drewN | apply below_drew1 | refine below_set ?_ (IsS87.ge HI0.out)) | exact HB.out)); rintro e w9 ⟨rfl, hi, hb, hk⟩; refine ⟨_, rfl, ?_⟩; replace HO_5 := Az z1_4; replace HK := Az (KeepBut.trans z1_0 hk (.inl rfl)); replace HB := Az (hb); replace HI0 := Az (hi); clear hb hk hi) | ((with_reducible refine gate_builtin (b := .append) (xs := #[.tmp 21, .tmp 23]) rfl ?_); at_builtin; refine Kd.R_append (Kd.int .i64) w.heap.size rfl (.tmp 21) (.tmp 23) 23 3 (.int .i64 0) 8 rfl Try.underlying23 info3 rfl (by decide) (by omega) u5 x5_1 x6_1 [.int .i64 x6_1] (fun _ => True) (fun _ => False) rfl rfl ?aP (fun _ hk => hk.elim) ?aF ?aO (Below.refl _ _) ?aS ?aL ?_; (case aP => exact rfl); (case aF => exact (fun _ _ => trivial)); (case aO => exact (rU HO_5.out)); (case aS => exact (keep_size (w := w) (g := g) (row := none) z1_0)); (case aL => have := LMc8.out; omega); intro v227 w10 ho hb hg hat; rw [← Ny226.out] at ho; replace HB := Az (below_weaken z1_3 HL.out hb); replace HI0 := Az (IsS87.grown z1_1 hg (IsS87.own_ne HI0.out HO_5.out (by decide))); replace HK := Az (KeepBut.trans z1_0 (KeepBut.of_grown hg g) (Kd.R_base2 HO_5.out)); have HO228 := Az (ho); clear HO_5 ho hb hg hat))
    go_roundg k1
    case measure => exact mO
    case rel => exact ⟨(y226), (wrap64 (x6_1 + 1)), (t225), rS, H', ⟨mO⟩, ⟨rU HO228.out⟩, ⟨by repeat (first | (with_reducible first | exact HI0.out | apply IsS87.alloc | apply IsS87.drewN | apply IsS87.drew | apply IsS87.set_1) | exact HI0.out)⟩, ⟨by repeat (first | (with_reducible first | exact HK.out | apply KeepBut.set_ | apply keep_drewN | apply keep_drew | apply keep_alloc) | exact HK.out)⟩, ⟨by repeat (first | (with_reducible first | exact HB.out | apply below_alloc | apply pw_below_drewN | apply below_drew1 | refine below_set ?_ (IsS87.ge HI0.out)) | exact HB.out)⟩⟩
   ·
    replace H := gD2 H; obtain ⟨c11b0, c12b0, H⟩ := H; replace H := gP H; obtain ⟨c13, H⟩ := H; have LMc13 := Az c13; clear c13; generalize Ny230 : (x5_1 ++ [rd x5_1 t224] : List Int) = y230 at H; simp only [Option.bind_some] at H; replace Ny230 := Ay Ny230; replace H := gD1 H; obtain ⟨c14b0, H⟩ := H; generalize Ny233 : (y230.set (t224 : Int).toNat x6_1 : List Int) = y233 at H; replace Ny233 := Ay Ny233; have H' := Az H; clear H
    go_wp2_with (first | ((with_reducible refine gK 76 rfl ?_); refine gC (some 17) Try.func76 #[.pointer (some ⟨g, 0, none⟩), .int .i64 (wrap64 (x6_1 + 1))] ?_; (with_reducible refine (spec_l6Rd_pick.calls k1 g s0_0 x1001_1 (wrap64 (x6_1 + 1)) t224 t225 w0 _ ?side1 ?side2 A6.out).mono ?_); (case side1 => repeat (first | (with_reducible first | exact HI0.out | apply IsS87.alloc | apply IsS87.drewN | apply IsS87.drew | apply IsS87.set_1) | exact HI0.out)); (case side2 => repeat (first | (with_reducible first | exact HB.out | apply below_alloc | apply pw_below_drewN | apply below_drew1 | refine below_set ?_ (IsS87.ge HI0.out)) | exact HB.out)); rintro e w16 ⟨rfl, hi, hb, hk⟩; refine ⟨_, rfl, ?_⟩; replace HO_5 := Az z1_4; replace HK := Az (KeepBut.trans z1_0 hk (.inl rfl)); replace HB := Az (hb); replace HI0 := Az (hi); clear hb hk hi; obtain ⟨Ao17, co17, eo17⟩ := Kd.R_slice HO_5.out; subst eo17; obtain ⟨ad229, e229, _, _, hx229_0⟩ := aI (Kd.R_reads' HO_5.out).2.2 t224; cases e229) | ((with_reducible refine gate_builtin (b := .append) (xs := #[.tmp 25, .tmp 30]) rfl ?_); at_builtin; refine Kd.R_append (Kd.int .i64) w.heap.size rfl (.tmp 25) (.tmp 30) 23 3 (.int .i64 0) 8 rfl Try.underlying23 info3 rfl (by decide) (by omega) (.slice (some ad229) x5_1.length co17) x5_1 (rd x5_1 t224) [.int .i64 (rd x5_1 t224)] (fun _ => True) (fun _ => False) rfl rfl ?aP (fun _ hk => hk.elim) ?aF ?aO (Below.refl _ _) ?aS ?aL ?_; (case aP => exact rfl); (case aF => exact (fun _ _ => trivial)); (case aO => exact (rU HO_5.out)); (case aS => exact (keep_size (w := w) (g := g) (row := none) z1_0)); (case aL => have := LMc13.out; omega); intro v231 w18 ho hb hg hat; rw [← Ny230.out] at ho; replace HB := Az (below_weaken z1_3 HL.out hb); replace HI0 := Az (IsS87.grown z1_1 hg (IsS87.own_ne HI0.out HO_5.out (by decide))); replace HK := Az (KeepBut.trans z1_0 (KeepBut.of_grown hg g) (Kd.R_base2 HO_5.out)); have HO232 := Az (ho); clear HO_5 ho hb hg hat; have p15 : 0 ≤ (t224 : Int) := oA; have q15 : (t224 : Int) < ((y230.length : Int) : Int) := oA; obtain ⟨go15, co15, eo15, gb15, gl15, cl15, HG15⟩ := Kd.R_form HO232.out (by omega); (first | cases eo15 | (injection eo15 with ea_ en_ ec_; (first | subst ea_ | (injection ea_ with ea_; subst ea_)); subst ec_; clear en_)); have GB15 := Az gb15; have GG15 := Az HG15; clear gb15 gl15 HG15; obtain ⟨hx15_0, hf15_0⟩ := Kd.R_celln 0 HO232.out (t224 : Int) p15 q15; replace p15 := eq_true p15; replace q15 := eq_true q15; obtain ⟨hy19_, hz19_⟩ := Kd.R_celln 0 HO232.out (t224 : Int) (oA) (oA); have HP19 := Kd.R_putg HO232.out (t224 : Int) x6_1) | ((with_reducible refine gs 3 35 rfl ?_); refine sE 3 35 (w18.setCell ⟨go15, (t224 : Int).toNat, none⟩ (.int .i64 x6_1)) ?_; intro w20 hw; have hg : w18.grownBy w20 (some go15) := (by rw [hw]; exact HP19.2); have hp_ : Kd.R (Kd.int .i64) 3 w20 w.heap.size (fun _ => True) (.slice (some ⟨go15, 0, none⟩) y230.length co15) y233 := (by rw [hw, Ny233.out]; exact HP19.1); clear HP19; replace HI0 := Az (IsS87.grown z1_1 hg (IsS87.own_ne HI0.out HO232.out (by decide))); replace HB := Az ((by rw [hw]; exact below_set (HB.out) (Nat.le_trans HL.out GB15.out) : Below w0.heap.size w0 w20)); replace HK := Az (KeepBut.trans z1_0 (KeepBut.of_grown hg g) (Kd.R_base2 HO232.out)); replace HO232 := Az (hp_); clear hg hw hp_))
    go_roundg k1
    case measure => exact mO
    case rel => exact ⟨(y233), (wrap64 (x6_1 + 1)), (t225), rS, H', ⟨mO⟩, ⟨rU HO232.out⟩, ⟨by repeat (first | (with_reducible first | exact HI0.out | apply IsS87.alloc | apply IsS87.drewN | apply IsS87.drew | apply IsS87.set_1) | exact HI0.out)⟩, ⟨by repeat (first | (with_reducible first | exact HK.out | apply KeepBut.set_ | apply keep_drewN | apply keep_drew | apply keep_alloc) | exact HK.out)⟩, ⟨by repeat (first | (with_reducible first | exact HB.out | apply below_alloc | apply pw_below_drewN | apply below_drew1 | refine below_set ?_ (IsS87.ge HI0.out)) | exact HB.out)⟩⟩
  · simp only [Option.some.injEq, Prod.mk.injEq] at H; obtain ⟨rfl, rfl⟩ := H; go_wp2; go_ret; exact ⟨_, rE, rU HO_5.out, by repeat (first | (with_reducible first | exact HI0.out | apply IsS87.alloc | apply IsS87.drewN | apply IsS87.drew | apply IsS87.set_1) | exact HI0.out), by repeat (first | (with_reducible first | exact HB.out | apply below_alloc | apply pw_below_drewN | apply below_drew1 | refine below_set ?_ (IsS87.ge HI0.out)) | exact HB.out), by repeat (first | (with_reducible first | exact HK.out | apply KeepBut.set_ | apply keep_drewN | apply keep_drew | apply keep_alloc) | exact HK.out)⟩
end Go.Proofs.Ytggghijamfmenaa.PA
