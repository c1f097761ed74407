/- A part of the proof of FnQuad. There are no conditions. -/
import Derived.Test.YtlpbalebodlipaaProg
import Derived.Below
import Derived.Deep.Draws
import Derived.Deep.AppendLies
import Derived.Maps.AppendAt
import Derived.OwnWalk
import Derived.Laws.BytesArg
import Derived.Laws.MakeOwn
import Derived.Laws.OwnMore
import Derived.Tactics
import Derived.Lib.ConvBytes
import Derived.Laws.Slices
import Derived.WalkKit
import Derived.KernelRfl
import Derived.RowKit3
import Derived.Deep.LoopGhost
import Derived.Deep.QuietTactic
import Derived.BigQuiet
import Derived.WideLaws
import Derived.Deep.DeepCutAuto
import Derived.Deep.CutBlock
import Derived.Deep.RegionHeld3
import Derived.Lib.AppendStr
import Derived.ArgAppend
import Derived.Laws.IdiomCopy
import Derived.OrdersHeld
import Derived.Laws.BitsLemmas
import Derived.RowKit
import Derived.Laws.RangeAny
import Derived.Laws.RangeString
import Derived.Shelf.Sort.Plain
import Derived.Sort.OwnSortedInts
import Derived.ProofKit
import Derived.OpenShut
import Derived.ShutString
import Derived.ChangeOld
import Derived.SizedLaws
import Derived.Test.YtlpbalebodlipaaKQDWWords
import Derived.Test.YtlpbalebodlipaaKQDWLast
import Derived.Test.YtlpbalebodlipaaKQDWTab
import Derived.Test.YtlpbalebodlipaaKQDWQPut
import Derived.Test.YtlpbalebodlipaaKQDWApart
import Derived.Test.YtlpbalebodlipaaKQDWFoot
import Derived.Test.YtlpbalebodlipaaKQDWKept
import Derived.Test.YtlpbalebodlipaaKQDWShare
import Derived.Test.YtlpbalebodlipaaKQDWN
import Derived.Test.YtlpbalebodlipaaKQDWAt
import Derived.Test.YtlpbalebodlipaaKQDWRepsOne
import Derived.Test.YtlpbalebodlipaaKQDWInv
import Derived.Test.YtlpbalebodlipaaKQDWGuard
import Derived.Test.YtlpbalebodlipaaKQDWNEv
import Derived.Test.YtlpbalebodlipaaKQDWMore
import Derived.Test.YtlpbalebodlipaaKQDWSized
import Derived.Deep.OwnRows
import Derived.Laws.Rows
import Derived.Test.YtlpbalebodlipaaRows
namespace Go.Proofs.Ytlpbalebodlipaa.PL
open Go.RowKit Go.Proofs.YtlpbalebodlipaaW.PrintWords Go.Proofs.YtlpbalebodlipaaW.PrintLast Go.Proofs.YtlpbalebodlipaaW.PrintMore
theorem qj_ {p : Prop} (h : p := by repeat (first | exact fj.refl _ | apply fj.step)) : p := h
theorem qr_ {p : Prop} (h : p := by repeat (first | (with_reducible first | exact HK.out | apply Kept.alloc | apply Kept.drewN | apply Kept.drew) | exact HK.out)) : p := h
theorem oA {p : Prop} [Decidable p] (h : decide p = true := by first | (with_reducible assumption) | assumption) : p := of_decide_eq_true h
theorem rS {p : Prop} (h : p := by first | rfl | (simp; done) | (simp [*]; done)) : p := h
theorem rE {p : Prop} (h : p := by first | rfl | (simp [jA, jz] <;> rfl) | (simp [*, jA, jz] <;> rfl)) : p := h
theorem Az {p : Prop} (h : p) : ae p := ae.mk h
theorem rU {p q : Prop} (h : q) (f : q → p := by intro h; (with_reducible repeat (first | apply Kd.Ii | apply Kd.Hr | apply Kd.ci)); exact h) : p := f h
theorem sU {p q : Prop} (h : q) (f : q → p := by intro h; (with_reducible repeat (first | apply Kd.mX | apply Kd.mQ | apply Kd.mR)); exact h) : p := f h
theorem vU {p q : Prop} (h : q) (f : q → p := by intro h; (with_reducible repeat (first | apply Kd.XY | apply Kd.Zq | apply Kd.YU)); exact h) : p := f h
theorem nU {p q : Prop} (h : q) (f : q → p := by intro h; (with_reducible repeat (first | apply Kd.aaa | apply Kd.Zv | apply Kd.ZC)); exact h) : p := f h
theorem qU {p q : Prop} (h : q) (f : q → p := by intro h; (with_reducible repeat (first | apply Kd.jW | apply Kd.jY | apply Kd.fC)); exact h) : p := f h
theorem kU {p q : Prop} (h : q) (f : q → p := by intro h; (with_reducible repeat (first | refine G9 ?_ _ | refine dk ?_ | refine tZ ?_ _)); exact h) : p := f h
theorem cU {p q : Prop} (h : q) (f : q → p := by intro h; repeat (first | exact h | (with_reducible refine Kd.ZD ?_ _) | (with_reducible refine Kd.YY ?_ _) | (with_reducible refine Kd.aaS ?_))) : p := f h
theorem bU0 {p q : Prop} (h : q) (f : q → p := by intro h; repeat (first | (with_reducible first | exact h | apply bn | apply bz | apply aX) | exact h)) : p := f h
theorem bU1 {p q a0 : Prop} (h : q) (g0 : a0) (f : q → a0 → p := by intro h g0; repeat (first | (with_reducible first | exact h | apply bn | apply bz | apply aX | refine ai ?_ g0) | exact h)) : p := f h g0
theorem bU2 {p q a0 a1 : Prop} (h : q) (g0 : a0) (g1 : a1) (f : q → a0 → a1 → p := by intro h g0 g1; repeat (first | (with_reducible first | exact h | apply bn | apply bz | apply aX | refine ai ?_ g0 | refine ai ?_ g1) | exact h)) : p := f h g0 g1
theorem bU3 {p q a0 a1 a2 : Prop} (h : q) (g0 : a0) (g1 : a1) (g2 : a2) (f : q → a0 → a1 → a2 → p := by intro h g0 g1 g2; repeat (first | (with_reducible first | exact h | apply bn | apply bz | apply aX | refine ai ?_ g0 | refine ai ?_ g1 | refine ai ?_ g2) | exact h)) : p := f h g0 g1 g2
theorem bU4 {p q a0 a1 a2 a3 : Prop} (h : q) (g0 : a0) (g1 : a1) (g2 : a2) (g3 : a3) (f : q → a0 → a1 → a2 → a3 → p := by intro h g0 g1 g2 g3; repeat (first | (with_reducible first | exact h | apply bn | apply bz | apply aX | refine ai ?_ g0 | refine ai ?_ g1 | refine ai ?_ g2 | refine ai ?_ g3) | exact h)) : p := f h g0 g1 g2 g3
theorem hR {α : Type} {a b : α} {p q : Prop} (e : a = b) (h : q) (f : a = b → q → p := by intro e H; first | (rw [e]; with_reducible exact H) | (have Iv := (Option.bind_some _ _).symm.trans H; rw [e]; with_reducible exact Iv) | (have Iv := (Option.bind_some _ _).symm.trans H; with_reducible exact Iv) | with_reducible exact H | (rw [e]; exact H) | exact H) : p := f e h
theorem sA {W W' : World} {g : Nat} {o : Obj} (h : W'.heap[g]? = some o) (k : (W'.heap[g]? = some o) → (W.heap[g]? = some o) := by intro h_; (with_reducible repeat (first | refine G9 ?_ _ | refine dk ?_ | refine tZ ?_ _)); exact h_) : W.heap[g]? = some o := k h
theorem rA {α : Type} {d : Kd α} {e base : Nat} {W W' : World} {ok : Nat → Prop} {v : Value} {xs : List α} (h : d.R e W' base ok v xs) (k : d.R e W' base ok v xs → d.R e W base ok v xs := by intro h_; (with_reducible repeat (first | apply Kd.Ii | apply Kd.Hr | apply Kd.ci)); exact h_) : d.R e W base ok v xs := k h
theorem tW {p : Prop} (h : p := by exact (au (bU1 HB.out nW.out) hb)) : p := h
theorem R9 {p : Prop} (h : p := by exact (Kd.ah (Kd.vo rfl (Kd.ah (ok' := fun k_ => ((fun _ => True)) k_ ∧ oV k_ u3) (Kd.Ie (aN.out) (Kd.Aa aC.out) (by decide)) (fun k_ hk => ⟨trivial, hk.2⟩))) (fun _ h_ => h_))) : p := h
theorem O7 {p : Prop} (h : p := by exact (Kd.Ht (ok := (fun _ => True)) (by (with_reducible repeat (first | apply Kd.mX | apply Kd.mQ | apply Kd.mR)); exact Kd.ml aC.out (fun _ hk => ⟨trivial, hk⟩)) hg hat)) : p := h
theorem OD {p : Prop} (h : p := by (with_reducible repeat (first | apply Kd.mX | apply Kd.mQ | apply Kd.mR)); exact Kd.ml aC.out (fun k_ hk => ⟨trivial, fun e_ => hk e_⟩)) : p := h
theorem G4 {p : Prop} (h : p := by first | exact Kd.aap lw | exact Kd.CF lw | exact Kd.ax lw) : p := h
theorem R8 {p : Prop} (h : p := by exact (Kd.ml (ok' := fun k_ => oS k_ dx aD.length cE) (Kd.Zc (aE.out) hkp (fun k_ hk_ hs_ => (hk_) hs_)) (fun k_ hk_ => hk_.1))) : p := h
theorem lQ {p : Prop} (h : p := by (try simp only [List.map_toArray, List.map_cons, List.map_nil]); first | done | rfl | (simp only [List.length_drop, List.length_take]; rfl)) : p := h
theorem rB {q b r : Prop} (h : q) (hb : b) (f : q → b → r := by intro h hb; exact Kd.xy (rU h) hb) : ae r := ae.mk (f h hb)
theorem sB {q b r : Prop} (h : q) (hb : b) (f : q → b → r := by intro h hb; exact Kd.Cy (sU h) hb) : ae r := ae.mk (f h hb)
theorem vB {q b r : Prop} (h : q) (hb : b) (f : q → b → r := by intro h hb; exact Kd.GU (vU h) hb) : ae r := ae.mk (f h hb)
theorem nB {q b r : Prop} (h : q) (hb : b) (f : q → b → r := by intro h hb; exact Kd.z7 (nU h) hb) : ae r := ae.mk (f h hb)
theorem qB {q b r : Prop} (h : q) (hb : b) (f : q → b → r := by intro h hb; exact Kd.xx (qU h) hb) : ae r := ae.mk (f h hb)
theorem kF1 {p q a0 : Prop} (h : q) (n0 : a0) (f : q → a0 → p := by intro h n0; repeat (first | exact h | refine G9 ?_ _ | refine dk ?_ | refine tZ ?_ _ | refine db ?_ n0 _)) : p := f h n0
theorem rW2 {p q b : Prop} (h : q) (bk : b) (f : q → b → p := by intro h bk; refine rA ?_; exact (Kd.ah (Kd.aT (Kd.aT (Kd.cP h bk (by decide)) (fun _ hk => hk.2) _) (fun _ hk => hk.2) _) (fun _ h_ => h_.1))) : p := f h bk
theorem qW2 {p q b : Prop} (h : q) (bk : b) (f : q → b → p := by intro h bk; (with_reducible repeat (first | apply Kd.jW | apply Kd.jY | apply Kd.fC)); exact (Kd.dI (Kd.eZ (Kd.eZ (Kd.je h bk (by decide)) (fun _ hk => hk.2) _) (fun _ hk => hk.2) _) (fun _ h_ => h_.1))) : p := f h bk
theorem yP {p : Prop} (h : p := by intro w'; go_simp; with_reducible rfl) : p := h
def bv (n m : Nat) : Array Bool := ((List.range n).map (fun i => m.testBit i)).toArray
theorem kG {q b c r : Prop} (h : q) (hb : b) (hc : c) (f : q → b → c → r := by intro h hb hc; exact RP (kU h) hb hc) : r := f h hb hc
theorem kB {q b r : Prop} (h : q) (hb : b) (f : q → b → r := by intro h hb; exact xA (kU h) hb) : ae r := ae.mk (f h hb)
theorem aP {p : Prop} (h : p := by simp only [Act.put, List.setIfInBounds_toArray, List.set_cons_zero, List.set_cons_succ, cr, cK]; rfl) : p := h
theorem cz {w : World} {g : Nat} {t : TypeId} {cs : Array Value} {v : Value} (h : w.heap[g]? = some (.cells cs t (0, 0))) (i : Nat) (e : cs[i]? = some v := by rfl) : w.cell? ⟨g, i, none⟩ = some v := (aM h i).trans e
theorem gD1 {α : Type} {p0 : Prop} {a : Option α} {r : α} {d0 : Decidable p0} (h : (if p0 then a else none) = some r) : @decide p0 d0 = true ∧ a = some r := by split at h; (exact ⟨decide_eq_true (by assumption), h⟩); (cases h)
theorem gD2 {α : Type} {p0 p1 : Prop} {a : Option α} {r : α} {d0 : Decidable p0} {d1 : Decidable p1} (h : (if p0 then (if p1 then a else none) else none) = some r) : @decide p0 d0 = true ∧ @decide p1 d1 = true ∧ a = some r := ⟨(gD1 h).1, gD1 (gD1 h).2⟩
theorem gD3 {α : Type} {p0 p1 p2 : Prop} {a : Option α} {r : α} {d0 : Decidable p0} {d1 : Decidable p1} {d2 : Decidable p2} (h : (if p0 then (if p1 then (if p2 then a else none) else none) else none) = some r) : @decide p0 d0 = true ∧ @decide p1 d1 = true ∧ @decide p2 d2 = true ∧ a = some r := ⟨(gD1 h).1, gD2 (gD1 h).2⟩
theorem gD4 {α : Type} {p0 p1 p2 p3 : Prop} {a : Option α} {r : α} {d0 : Decidable p0} {d1 : Decidable p1} {d2 : Decidable p2} {d3 : Decidable p3} (h : (if p0 then (if p1 then (if p2 then (if p3 then a else none) else none) else none) else none) = some r) : @decide p0 d0 = true ∧ @decide p1 d1 = true ∧ @decide p2 d2 = true ∧ @decide p3 d3 = true ∧ a = some r := ⟨(gD1 h).1, gD3 (gD1 h).2⟩
theorem gD5 {α : Type} {p0 p1 p2 p3 p4 : Prop} {a : Option α} {r : α} {d0 : Decidable p0} {d1 : Decidable p1} {d2 : Decidable p2} {d3 : Decidable p3} {d4 : Decidable p4} (h : (if p0 then (if p1 then (if p2 then (if p3 then (if p4 then a else none) else none) else none) else none) else none) = some r) : @decide p0 d0 = true ∧ @decide p1 d1 = true ∧ @decide p2 d2 = true ∧ @decide p3 d3 = true ∧ @decide p4 d4 = true ∧ a = some r := ⟨(gD1 h).1, gD4 (gD1 h).2⟩
theorem gD6 {α : Type} {p0 p1 p2 p3 p4 p5 : Prop} {a : Option α} {r : α} {d0 : Decidable p0} {d1 : Decidable p1} {d2 : Decidable p2} {d3 : Decidable p3} {d4 : Decidable p4} {d5 : Decidable p5} (h : (if p0 then (if p1 then (if p2 then (if p3 then (if p4 then (if p5 then a else none) else none) else none) else none) else none) else none) = some r) : @decide p0 d0 = true ∧ @decide p1 d1 = true ∧ @decide p2 d2 = true ∧ @decide p3 d3 = true ∧ @decide p4 d4 = true ∧ @decide p5 d5 = true ∧ a = some r := ⟨(gD1 h).1, gD5 (gD1 h).2⟩
theorem gP {α : Type} {p : Prop} {a : Option α} {r : α} {d : Decidable p} (h : (if p then a else none) = some r) : p ∧ a = some r := by split at h; (exact ⟨by assumption, h⟩); (cases h)
theorem gE {α : Type} {p : Prop} {a : Option α} {r : α} {d : Decidable p} (h : (if p then a else none) = some r) : (p = True) ∧ @decide p d = true ∧ a = some r := ⟨eq_true (gP h).1, gD1 h⟩
theorem gB {α : Type} {p : Prop} {a b : Option α} {r : α} {d : Decidable p} (h : (if p then a else b) = some r) : (@decide p d = true ∧ a = some r) ∨ (@decide p d = false ∧ b = some r) := by split at h; (exact .inl ⟨decide_eq_true (by assumption), h⟩); (exact .inr ⟨decide_eq_false (by assumption), h⟩)
theorem gQ {α β : Type} [BEq β] [LawfulBEq β] {x y : β} {a b : Option α} {r : α} {d : Decidable (x = y)} (h : (if x = y then a else b) = some r) : ((x == y) = true ∧ (x != y) = false ∧ a = some r) ∨ ((x == y) = false ∧ (x != y) = true ∧ b = some r) := by split at h; exact .inl ⟨beq_iff_eq.mpr (by assumption), bne_eq_false_iff_eq.mpr (by assumption), h⟩; exact .inr ⟨beq_eq_false_iff_ne.mpr (by assumption), bne_iff_ne.mpr (by assumption), h⟩
theorem bZ (w : World) : ae (Below w.heap.size w w) := ae.mk (Below.refl w.heap.size w)
theorem nS {a b : Nat} (h : ae (a ≠ b)) : ae (b ≠ a) := ae.mk h.out.symm
theorem hS {p : Prop} (h : p := by first | (go_simp; done) | (go_simp; rfl)) : p := h
def oV (k : Nat) (v : Value) : Prop := some k ≠ v.ownBlock
def oS (k : Nat) (A : Option Addr) (n c : Nat) : Prop := some k ≠ (Value.slice A n c).ownBlock
theorem bd {α β : Type} {x : Option α} {f : α → Option β} {r : β} (h : x.bind f = some r) : ∃ t, ae (x = some t) ∧ f t = some r := by obtain ⟨t, a, b⟩ := Option.bind_eq_some_iff.mp h; exact ⟨t, ae.mk a, b⟩
theorem Ay {α : Type} {a b : α} (h : a = b) : ae (b = a) := ae.mk h.symm
theorem nN {α : Type} {x : Option α} {r : α} (h : x = some r) (e : x = none := by rfl) : False := by rw [e] at h; cases h
theorem nT : ¬ (false = true) := by decide
theorem aI {kd : IntKind} {w : World} {A : Option Addr} {n : Nat} {xs : List Int} (h : (Kd.int kd).C w A n xs) (i : Int) (h0 : 0 ≤ i := by exact oA) (h1 : i < n := by exact oA) : ∃ ad, A = some ad ∧ ((0 ≤ i) = True) ∧ ((i < n) = True) ∧ w.cell? (ad.add i.toNat) = some (.int kd (rd xs i)) := by obtain ⟨ad, e, hx⟩ := Kd.lu h i h0 h1; exact ⟨ad, e, eq_true h0, eq_true h1, hx⟩
theorem aB {w : World} {A : Option Addr} {n : Nat} {xs : List Bool} (h : Kd.bool.C w A n xs) (i : Int) (h0 : 0 ≤ i := by exact oA) (h1 : i < n := by exact oA) : ∃ ad, A = some ad ∧ ((0 ≤ i) = True) ∧ ((i < n) = True) ∧ w.cell? (ad.add i.toNat) = some (.bool (fy false xs i)) := by obtain ⟨ad, e, hx⟩ := Kd.X8 h i h0 h1; exact ⟨ad, e, eq_true h0, eq_true h1, hx⟩
theorem aJ {kd : IntKind} {w : World} {ad : Addr} {n : Nat} {xs : List Int} (h : (Kd.int kd).C w (some ad) n xs) (i : Int) (h0 : 0 ≤ i := by exact oA) (h1 : i < n := by exact oA) : ((0 ≤ i) = True) ∧ ((i < n) = True) ∧ w.cell? (ad.add i.toNat) = some (.int kd (rd xs i)) := by obtain ⟨ad, e, hx⟩ := Kd.lu h i h0 h1; cases e; exact ⟨eq_true h0, eq_true h1, hx⟩
theorem hT {w w' : World} {a : Addr} {v : Value} (hb : Below w.heap.size w w') (h : w.cell? a = some v) : w'.cell? a = some v := (hb.cell (World.block_lt_of_cell? w _ h)).trans h
theorem mO {p : Prop} (h : p := by (try have dV := eO.out); (try have dW := fp.out); (try have dX := pI.out); (try have dY := Af.out); (try have dZ := HK5.out); (try have d6 := HK6.out); first | omega | exact Nat.le_refl _) : p := h
theorem gW {w W : World} {g : Nat} (hg : g = W.heap.size) (h : Below w.heap.size w W) : ae (w.heap.size ≤ g) := ae.mk (by rw [hg]; exact be h)
theorem nL {W : World} {g g' : Nat} {o : Obj} (hg : g' = W.heap.size) (h : W.heap[g]? = some o) : ae (g ≠ g') := ae.mk (by rw [hg]; exact Nat.ne_of_lt (si h))
theorem nP {a b : Nat} (h : ae (a ≠ b)) : a ≠ b ∧ b ≠ a := ⟨h.out, h.out.symm⟩
theorem bc2 {w : World} {g : Nat} {t : TypeId} {a0 a1 : Value} (h : w.heap[g]? = some (.cells #[a0, a1] t (0, 0))) : w.cell? ⟨g, 0, none⟩ = some a0 ∧ w.cell? ⟨g, 1, none⟩ = some a1 ∧ w.frozen? ⟨g, 0, none⟩ = false ∧ w.frozen? ⟨g, 1, none⟩ = false := ⟨(aM h 0).trans rfl, (aM h 1).trans rfl, jX h 0, jX h 1⟩
theorem gK {P : Program} {ops : Array Oper} {o : Oper} {a : Act} {Q : Exit → Act → World → Prop} {rest : List Oper} {W : World} (f : FuncId) {ops_ : Array Operand} {ts : Array TypeId} (_ho : o.op = .call { callee := .value (.func f), args := ops_, argTypes := ts }) (h : wpList P ops Q (o :: rest) a W) : wpList P ops Q (o :: rest) a W := h
theorem gd {P : Program} {ops : Array Oper} {o : Oper} {a : Act} {Q : Exit → Act → World → Prop} {rest : List Oper} {W : World} (N : Tmp) (_hN : o.dst = some N) (h : wpList P ops Q (o :: rest) a W) : wpList P ops Q (o :: rest) a W := h
theorem gs {P : Program} {ops : Array Oper} {o : Oper} {a : Act} {Q : Exit → Act → World → Prop} {rest : List Oper} {W : World} (t : TypeId) (p : Tmp) {v : Operand} (_ho : o.op = .store t (.tmp p) v) (h : wpList P ops Q (o :: rest) a W) : wpList P ops Q (o :: rest) a W := h
theorem gC {P : Program} {ops : Array Oper} {o : Oper} {a : Act} {Q : Exit → Act → World → Prop} {rest : List Oper} {W : World} (N : Option Tmp) {f : FuncId} {fn : Func} {ops_ : Array Operand} {ts : Array TypeId} (hf : P.funcs[f]? = some fn) (args : Array Value) (h : Calls P f args W fun e w' => ∃ v, e = .returned v ∧ wpList P ops Q rest (a.put N v) w') (hd : o.dst = N := by rfl) (hg : o.guard = none := by rfl) (hname : (fn.name == "runtime.NumGoroutine") = false := by kernel_rfl) (hb : fn.body.isSome = true := by rfl) (hop : o.op = .call { callee := .value (.func f), args := ops_, argTypes := ts } := by rfl) (hargs : ops_.map a.eval = args := by exact lQ) : wpList P ops Q (o :: rest) a W := HT N hd hg hf hname hb args hop hargs h
theorem bE {P : Program} {ops : Array Oper} {o : Oper} {a : Act} {Q : Exit → Act → World → Prop} {rest : List Oper} {W : World} (N : Tmp) (cs : Array Value) (t : TypeId) (h : ∀ g, g = W.heap.size → ∀ w1, w1.heap[g]? = some (.cells cs t (0, 0)) → Below W.heap.size W w1 → wpList P ops Q rest (a.put o.dst (.pointer (some ⟨g, 0, none⟩))) w1) (hgd : o.guard = none := by rfl) (hd : o.dst = some N := by rfl) (hrun : (execOp a.eval o).run P W = .ok (.value (.pointer (some ⟨W.heap.size, 0, none⟩))) (W.alloc (.cells cs t (0, 0))) := by first | (go_simp; done) | (go_simp; rfl)) : wpList P ops Q (o :: rest) a W := Yp hgd hd hrun h
theorem sE {P : Program} {ops : Array Oper} {o : Oper} {a : Act} {Q : Exit → Act → World → Prop} {rest : List Oper} {W : World} (t : TypeId) (p : Tmp) {v : Operand} (w1 : World) (h : ∀ w', w' = w1 → wpList P ops Q rest a w') (ho : o.op = .store t (.tmp p) v := by rfl) (hgd : o.guard = none := by rfl) (hN : o.dst = none := by rfl) (hrun : (execOp a.eval o).run P W = .ok .skip w1 := by first | (go_simp; done) | (go_simp; rfl)) : wpList P ops Q (o :: rest) a W := ZE hgd ho hN hrun h
theorem rM {p q : Prop} (h : q) (f : q → p := by intro h; refine rA ?_; exact Kd.ah h (fun _ hk => by first | trivial | exact hk.1 | (simp only [hk, and_self, ne_eq, not_false_eq_true, true_and, and_true, true_or, or_true]; done) | ((try simp only [oS, oV] at hk ⊢); simp only [hk, and_self, ne_eq, not_false_eq_true, true_and, and_true, true_or, or_true]))) : p := f h
theorem sM {p q : Prop} (h : q) (f : q → p := by intro h; (with_reducible repeat (first | apply Kd.mX | apply Kd.mQ | apply Kd.mR)); exact Kd.ml h (fun _ hk => by first | trivial | exact hk.1 | (simp only [hk, and_self, ne_eq, not_false_eq_true, true_and, and_true, true_or, or_true]; done) | ((try simp only [oS, oV] at hk ⊢); simp only [hk, and_self, ne_eq, not_false_eq_true, true_and, and_true, true_or, or_true]))) : p := f h
theorem qM {p q : Prop} (h : q) (f : q → p := by intro h; (with_reducible repeat (first | apply Kd.jW | apply Kd.jY | apply Kd.fC)); exact Kd.dI h (fun _ hk => by first | trivial | exact hk.1 | (simp only [hk, and_self, ne_eq, not_false_eq_true, true_and, and_true, true_or, or_true]; done) | ((try simp only [oS, oV] at hk ⊢); simp only [hk, and_self, ne_eq, not_false_eq_true, true_and, and_true, true_or, or_true]))) : p := f h
attribute [local go_sem] nV nQ nE ny nA nG nO nR   -- for this text's walks alone
set_option linter.unusedVariables false
set_option linter.unusedSimpArgs false
def N7 : Option Int → Value
 | none => .nilIface
 | some c => .iface 0 (.int .i64 c)
theorem jA : N7 none = .nilIface := rfl
theorem jz (c : Int) : N7 (some c) = .iface 0 (.int .i64 c) := rfl
theorem dP : (Try.prog.info? 3).map (fun i => (i.zero, i.size, i.bytes)) = some (some (.int .i64 0), 1, 8) := by kernel_rfl
theorem Pm : (Try.prog.info? 4).map (fun i => (i.zero, i.size, i.bytes)) = some (some (.bool false), 1, 1) := by kernel_rfl
theorem info5 : (Try.prog.info? 5).map (fun i => (i.zero, i.size, i.bytes)) = some (some (.int .u8 0), 1, 1) := by kernel_rfl
theorem PD : (Try.prog.info? 23).map (fun i => (i.zero, i.size, i.bytes)) = some (some (.slice none 0 0), 1, 24) := by kernel_rfl
def dp (xs : List (List Int)) (i : Int) : (List Int) := xs.getD i.toNat ([] : List Int)
theorem zH {w : World} {A : Option Addr} {n : Nat} {xs : List (List Int)} (h : Kd.C (Kd.slice 3 (Kd.int .i64)) w A n xs) (i : Int) (h0 : 0 ≤ i) (h1 : i < n) : ∃ ad A0 c0, A = some ad ∧ w.cell? (ad.add i.toNat) = some (.slice A0 (dp xs i).length c0) ∧ (dp xs i).length ≤ c0 ∧ (Kd.int .i64).C w A0 (dp xs i).length (dp xs i) := by
 obtain ⟨ad, c, e, _, hK, hc0⟩ := Kd.Y4 h ([] : List Int) i h0 h1; have hc : ∀ j u, c[j]? = some u → w.cell? (ad.add (i.toNat * 1 + j)) = some u := hc0; obtain ⟨A0, c0, rfl, l0, g0⟩ := hK; exact ⟨ad, A0, c0, e, by have hq := hc 0 _ rfl; rwa [Nat.mul_one, Nat.add_zero] at hq, l0, g0⟩
end Go.Proofs.Ytlpbalebodlipaa.PL

namespace Go.Proofs.Ytlpbalebodlipaa.PL
open Go.RowKit Go.Proofs.YtlpbalebodlipaaW.PrintWords Go.Proofs.YtlpbalebodlipaaW.PrintLast Go.Proofs.YtlpbalebodlipaaW.PrintMore
attribute [local go_sem] nV nQ nE ny nA nG nO nR   -- for this text's walks alone
set_option linter.unusedVariables false
set_option linter.unusedSimpArgs false
mutual
def fD.l0 : Nat → List Int → List (List Int) → List Bool → Int → Int → Option ((List (List Int)))
 | 0, _, _, _, _, _ => none
 | k + 1, x0, x3, x4, eG, lx => if lx < eG then (fD.l1 k x0 x3 x4 (([] : List Int)) lx eG lx) else (some x3)
def fD.l1 : Nat → List Int → List (List Int) → List Bool → List Int → Int → Int → Int → Option ((List (List Int)))
 | 0, _, _, _, _, _, _, _ => none
 | k + 1, x0, x3, x4, x6, x7, eG, lx => if 0 ≤ x7 then (if x7 < (x4.length : Int) then (if fy false x4 x7 = true then (if (x6.length : Int) > 0 then (if x3.length < 5864062014805 then (fD.l0 k x0 (x3 ++ [x6]) x4 eG (wrap64 (lx + 1))) else (none)) else (fD.l0 k x0 x3 x4 eG (wrap64 (lx + 1)))) else (if x6.length < 17592186044416 then (if x7 < (x0.length : Int) then (fD.l1 k x0 x3 (x4.set (x7 : Int).toNat true) (x6 ++ [x7]) (rd x0 x7) eG lx) else (none)) else (none))) else (none)) else (none)
end
def fD.f (k : Nat) (l0 : List Int) : Option ((List (List Int))) := if 0 ≤ (l0.length : Int) then (if ((l0.length : Int) : Int).toNat ≤ 281474976710656 then (fD.l0 k l0 (([] : List (List Int))) (List.replicate ((l0.length : Int) : Int).toNat false) (l0.length : Int) 0) else (none)) else (none)
set_option maxHeartbeats 8000000 in
set_option maxRecDepth 100000 in
theorem fD.calls (k : Nat) (A0 : Option Addr) (c0 : Nat) (l0 : List Int) (r : List (List Int)) (w : World) (hr0 : Kd.C (Kd.int .i64) w A0 l0.length l0) (hc0 : l0.length ≤ c0) (h : fD.f k l0 = some r) :
  Calls Try.prog 67 #[.slice A0 l0.length c0] w fun e w' => ∃ bK : Value, e = .returned (bK) ∧ Kd.S (Kd.slice 3 (Kd.int .i64)) 23 w' w.heap.size (fun _ => True) bK r ∧ Below w.heap.size w w' := by
 have de := Az hr0; have gz := Az hc0; clear hr0 hc0; have HB := bZ w; have H := h; clear h; unfold fD.f at H; generalize Dy : (([] : List (List Int)) : List (List Int)) = y119 at H; replace Dy := Ay Dy; replace H := gE H; obtain ⟨qo, sn, H⟩ := H; replace H := gE H; obtain ⟨ly, sr, H⟩ := H; generalize Dz : (List.replicate ((l0.length : Int) : Int).toNat false : List Bool) = y122 at H; replace Dz := Ay Dz; have H' := Az H; clear H; go_enter Try.func67, Try.ntmps67
 go_wp2_with (first | ((with_reducible refine gd 8 rfl ?_); refine Kd.Q6 (Kd.slice 3 (Kd.int .i64)) _ 23 rfl (N := 8) rfl (xs := ([] : List (List Int))) (inner := []) (ok := fun _ => True) (okp := fun _ => True) hS ?hp (fun _ hk => hk) trivial (Below.refl _ _) (Nat.le_refl _) (by simp) ?_; (case hp => exact (Reps.none _ _)); intro ajC w4 gA hb hg_ hnew_; clear hg_ hnew_; (first | rw [← Dy.out] at gA | (simp only [Int.reduceToNat] at gA; rw [← Dy.out] at gA)); have Iw := Az (Kd.qZ gA (be (bU0 HB.out))); replace HB := Az (au (bU0 HB.out) hb); clear hb gA) | ((with_reducible refine gd 11 rfl ?_); refine Kd.qW Kd.bool _ 4 rfl (N := 11) rfl 93 _ _ rfl (l0.length : Int) rfl rfl Try.underlying93 (.bool false) 1 Pm rfl (by decide) (by omega) false (ok := fun _ => True) (okp := fun _ => True) rfl (fun _ hk => hk) trivial (oA) (Nat.le_trans (Nat.mul_le_mul_right _ (oA : (l0.length : Int).toNat ≤ 281474976710656)) (by omega)) (Below.refl _ _) (Nat.le_refl _) ?_; intro SC w6 ji hb hg_ hnew_; clear hg_ hnew_; (first | rw [← Dz.out] at ji | (simp only [Int.reduceToNat] at ji; rw [← Dz.out] at ji)); replace Iw := sB Iw.out hb; have aaW := Az (Kd.bu ji (be (bU0 HB.out))); replace HB := Az (au (bU0 HB.out) hb); clear hb ji))
 go_loopg [3, 14] k (fun kq v3 v14 w' => ∃ (aD : List (List Int)) (bq : List Bool) (qp : Int), v14 = .int .i64 qp ∧ ae (fD.l0 kq l0 aD bq (l0.length : Int) qp = some r) ∧ ae (kq ≤ k) ∧ ae (Kd.S (Kd.slice 3 (Kd.int .i64)) 23 w' w.heap.size (fun _ => True) v3 aD) ∧ ae (Kd.R Kd.bool 4 w' w.heap.size (fun _ => True) SC bq) ∧ ae (Below w.heap.size w w'))
 case atStart => exact ⟨(y119), (y122), (0), rS, H', ⟨Nat.le_refl _⟩, ⟨sU Iw.out⟩, ⟨rU aaW.out⟩, ⟨bU0 HB.out⟩⟩
 case round =>
  clear H'; obtain ⟨aD, bq, qp, rfl, HA, eO, aC, bS, HB⟩ := hrel
  rcases gk with _ | k1
  exact (nN HA.out).elim; have H := HA.out; clear HA; simp only [fD.l0] at H
  by_cases c8 : qp < (l0.length : Int)
  ·
   rw [if_pos c8] at H; have iJ := decide_eq_true c8; clear c8; generalize DC : (([] : List Int) : List Int) = y125 at H; replace DC := Ay DC; have H' := Az H; clear H
   go_wp2_with (first | ((with_reducible refine gd 17 rfl ?_); refine Kd.iE (Kd.int .i64) _ 3 rfl (N := 17) rfl (xs := ([] : List Int)) (inner := []) (ok := fun _ => True) (okp := fun _ => True) hS ?hp (fun _ hk => hk) trivial (Below.refl _ _) (Nat.le_refl _) (by simp) ?_; (case hp => exact (Reps.none _ _)); intro ajD w9 yh hb hg_ hnew_; clear hg_ hnew_; (first | rw [← DC.out] at yh | (simp only [Int.reduceToNat] at yh; rw [← DC.out] at yh)); replace aC := Az (Kd.pq (sU aC.out) (Kd.ax yh) hb); replace bS := rB bS.out hb; have aaX := Az (Kd.bu yh (be (bU0 HB.out))); replace HB := Az (au (bU0 HB.out) hb); clear hb yh))
   go_loopg [6, 7] k1 (fun kq v6 v7 w' => ∃ (eV : List Bool) (bU : List Int) (bj : Int), v7 = .int .i64 bj ∧ ae (fD.l1 kq l0 aD eV bU bj (l0.length : Int) qp = some r) ∧ ae (kq ≤ k1) ∧ ae (Kd.S (Kd.slice 3 (Kd.int .i64)) 23 w' w.heap.size (fun k_ => oV k_ v6) u3 aD) ∧ ae (Kd.R Kd.bool 4 w' w.heap.size (fun _ => True) SC eV) ∧ ae (Kd.R (Kd.int .i64) 3 w' w.heap.size (fun _ => True) v6 bU) ∧ ae (Below w.heap.size w w'))
   case atStart => exact ⟨(bq), (y125), (qp), rS, H', ⟨Nat.le_refl _⟩, ⟨by (with_reducible repeat (first | apply Kd.mX | apply Kd.mQ | apply Kd.mR)); exact Kd.ml aC.out (fun _ hk => hk.2)⟩, ⟨rU bS.out⟩, ⟨rU aaX.out⟩, ⟨bU0 HB.out⟩⟩
   case round =>
    clear H'; obtain ⟨eV, bU, bj, rfl, HA, fp, aC, bS, aN, HB⟩ := hrel
    rcases gk with _ | k2
    exact (nN HA.out).elim; have H := HA.out; clear HA; simp only [fD.l1] at H; replace H := gD2 H; obtain ⟨oM, wa, H⟩ := H; obtain ⟨SD, Ix⟩ : ∃ b_ : Bool, b_ = (fy false eV bj) := ⟨_, rfl⟩
    replace H : (if SD = true then (if (bU.length : Int) > 0 then (if aD.length < 5864062014805 then (fD.l0 k2 l0 (aD ++ [bU]) eV (l0.length : Int) (wrap64 (qp + 1))) else (none)) else (fD.l0 k2 l0 aD eV (l0.length : Int) (wrap64 (qp + 1)))) else (if bU.length < 17592186044416 then (if bj < (l0.length : Int) then (fD.l1 k2 l0 aD (eV.set (bj : Int).toNat true) (bU ++ [bj]) (rd l0 bj) (l0.length : Int) qp) else (none)) else (none))) = some r := by rw [← Ix] at H; exact H
    have Iy := Az Ix; clear Ix
    by_cases c14 : SD = true
    ·
     subst c14; rw [if_pos rfl] at H
     by_cases c15 : (bU.length : Int) > 0
     ·
      rw [if_pos c15] at H; have ue := decide_eq_true c15; have Iz : decide (0 < bU.length) = true := decide_eq_true (by omega); clear c15; replace H := gP H; obtain ⟨c16, H⟩ := H; have aaY := Az c16; clear c16; generalize IA : (aD ++ [bU] : List (List Int)) = y129 at H; replace IA := Ay IA; have H' := Az H; clear H; obtain ⟨cj, cg, Ag⟩ := Kd.aU bS.out; subst Ag; obtain ⟨SE, e128, SF, SG, yi⟩ := aB (Kd.av bS.out).2.2 bj; rw [← Iy.out] at yi
      cases e128; obtain ⟨Ah, Ai, Aj⟩ := Kd.aU aN.out; subst Aj
      go_wp2_with (first | ((with_reducible refine ki (b := .append) (xs := #[.tmp 38, .tmp 40]) rfl ?_); at_builtin; refine Kd.Qf (Kd.slice 3 (Kd.int .i64)) (w0 := w) w.heap.size rfl (.tmp 38) (.tmp 40) 82 23 (.slice none 0 0) 24 rfl Try.underlying82 PD rfl (by decide) (by omega) u3 aD bU [.slice Ah bU.length Ai] (fun _ => True) (fun k_ => some k_ = (.slice Ah bU.length Ai : Value).ownBlock) rfl rfl ?aP (fun k_ hk_ => ((Kd.ah (ok' := fun k_ => ((fun _ => True)) k_ ∧ oV k_ u3) (Kd.Ie (aN.out) (Kd.Aa aC.out) (by decide)) (fun k_ hk => ⟨trivial, hk.2⟩))).1 k_ hk_.symm) ?aF ?aO ?aB ?aS ?aL ?_; (case aP => exact Kd.QU R9); (case aB => exact (bU0 HB.out)); (case aF => exact (fun _ _ => trivial)); (case aO => exact OD); (case aS => exact (be (bU0 HB.out))); (case aL => have := aaY.out; omega); intro v130 SH ho hb hg hat; rw [← IA.out] at ho; replace bS := Az (Kd.vX (rU bS.out) (Kd.Aa (sU aC.out)) (by decide) hg); replace HB := Az (hb); have aaZ := Az (ho); clear aC aN ho hb hg hat))
      go_roundg k2
      case measure => exact mO
      case rel => exact ⟨(y129), (eV), (wrap64 (qp + 1)), rS, H', ⟨mO⟩, ⟨sU aaZ.out⟩, ⟨rU bS.out⟩, ⟨bU0 HB.out⟩⟩
     ·
      rw [if_neg c15] at H; have ue := decide_eq_false c15; have Iz : decide (0 < bU.length) = false := decide_eq_false (by omega); clear c15; have H' := Az H; clear H; obtain ⟨IB, IC, ID⟩ := Kd.aU bS.out; subst ID; obtain ⟨SE, e128, SF, SG, yi⟩ := aB (Kd.av bS.out).2.2 bj; rw [← Iy.out] at yi
      cases e128; obtain ⟨SI, wb, uf⟩ := Kd.aU aN.out; subst uf; go_wp2; go_roundg k2
      case measure => exact mO
      case rel => exact ⟨(aD), (eV), (wrap64 (qp + 1)), rS, H', ⟨mO⟩, ⟨sM aC.out⟩, ⟨rU bS.out⟩, ⟨bU0 HB.out⟩⟩
    ·
     replace c14 := Bool.eq_false_iff.mpr c14; subst c14; rw [if_neg nT] at H; generalize IE : (eV.set (bj : Int).toNat true : List Bool) = y132 at H; replace IE := Ay IE; replace H := gP H; obtain ⟨c23, H⟩ := H; have aa0 := Az c23; clear c23; generalize IF : (bU ++ [bj] : List Int) = y133 at H; replace IF := Ay IF; replace H := gD1 H; obtain ⟨DD, H⟩ := H; have H' := Az H; clear H; obtain ⟨DF, we, wh⟩ := Kd.aU bS.out; subst wh; obtain ⟨SE, e128, SF, SG, yi⟩ := aB (Kd.av bS.out).2.2 bj; rw [← Iy.out] at yi
     cases e128; have IG : 0 ≤ (bj : Int) := oA; have q22 : (bj : Int) < ((eV.length : Int) : Int) := oA; obtain ⟨Ak, ug, yj, SJ, aa1, ajE, SK⟩ := Kd.ky bS.out (by omega); (first | cases yj | (injection yj with ea_ en_ ec_; (first | subst ea_ | (injection ea_ with ea_; subst ea_)); subst ec_; clear en_)); have aa2 := Az SJ; have ajF := Az SK; clear SJ aa1 SK; simp only [add_plain] at yi; obtain ⟨ajG, ajH⟩ := Kd.dw false bS.out (bj : Int) IG q22; replace IG := eq_true IG; replace q22 := eq_true q22; obtain ⟨ajI, ajJ⟩ := Kd.dw false bS.out (bj : Int) (oA) (oA); have IH := Kd.jS bS.out (bj : Int) true
     go_wp2_with (first | ((with_reducible refine gs 4 30 rfl ?_); refine sE 4 30 (wr.setCell ⟨Ak, (bj : Int).toNat, none⟩ (.bool true)) ?_; intro lW hw; have hg : wr.grownBy lW (some Ak) := (by rw [hw]; exact IH.2); have hp_ : Kd.R Kd.bool 4 lW w.heap.size (fun _ => True) (.slice (some ⟨Ak, 0, none⟩) eV.length we) y132 := (by rw [hw, IE.out]; exact IH.1); clear IH; replace aC := Az (Kd.N9 (v := (.slice (some ⟨Ak, 0, none⟩) eV.length we)) (sU aC.out) (Kd.vW bS.out) (by decide) hg); replace aN := Az (Kd.vX (v := (.slice (some ⟨Ak, 0, none⟩) eV.length we)) (rU aN.out) (Kd.vW bS.out) (by decide) hg); replace bS := Az (hp_); replace HB := Az ((by rw [hw]; exact ai (HB.out) aa2.out : Below w.heap.size w lW)); clear hg hw hp_) | ((with_reducible refine ki (b := .append) (xs := #[.tmp 31, .tmp 33]) rfl ?_); at_builtin; refine Kd.kP (Kd.int .i64) (w0 := w) w.heap.size rfl (.tmp 31) (.tmp 33) 23 3 (.int .i64 0) 8 rfl Try.underlying23 dP rfl (by decide) (by omega) u6 bU bj [.int .i64 bj] (fun _ => True) (fun _ => False) rfl rfl ?aP (fun _ hk => hk.elim) ?aF ?aO ?aB ?aS ?aL ?_; (case aP => exact rfl); (case aB => exact (bU0 HB.out)); (case aF => exact (fun _ _ => trivial)); (case aO => exact (rU aN.out)); (case aS => exact (be (bU0 HB.out))); (case aL => have := aa0.out; omega); intro ajK su ho hb hg hat; rw [← IF.out] at ho; replace aC := Az O7; replace bS := Az (Kd.vX (rU bS.out) (Kd.vW (rU aN.out)) (by decide) hg); replace HB := Az (hb); have aa3 := Az (ho); clear aN ho hb hg hat; obtain ⟨ajL, aa4, _, _, SL⟩ := aI de.out bj; cases aa4; replace SL := hT HB.out SL))
     go_roundg k2
     case measure => exact mO
     case rel => exact ⟨(y132), (y133), (rd l0 bj), rS, H', ⟨mO⟩, ⟨by (with_reducible repeat (first | apply Kd.mX | apply Kd.mQ | apply Kd.mR)); exact Kd.ml aC.out (fun _ hk => hk.2)⟩, ⟨rU bS.out⟩, ⟨rU aa3.out⟩, ⟨bU0 HB.out⟩⟩
  · rw [if_neg c8] at H; have iJ := decide_eq_false c8; clear c8; obtain rfl := Option.some.inj H; go_wp2; go_ret; exact ⟨_, rE, sU aC.out, bU0 HB.out⟩
def gT.l0 : Nat → List Int → List Int → List Int → Int → Int → Option (List Int)
 | 0, _, _, _, _, _ => none
 | k + 1, x1, x5, cy, eQ, eG => if eG < eQ then (if 0 ≤ eG then (if eG < (cy.length : Int) then (if 0 ≤ (rd cy eG) then (if (rd cy eG) < (x1.length : Int) then (if eG < (x5.length : Int) then (gT.l0 k x1 (x5.set (eG : Int).toNat (rd x1 (rd cy eG))) cy eQ (wrap64 (eG + 1))) else (none)) else (none)) else (none)) else (none)) else (none)) else (some x5)
def gT.f (k : Nat) (l0 : List Int) (l1 : List Int) : Option (List Int) := if 0 ≤ (l0.length : Int) then (if ((l0.length : Int) : Int).toNat ≤ 35184372088832 then (gT.l0 k l1 (List.replicate ((l0.length : Int) : Int).toNat 0) l0 (l0.length : Int) 0) else (none)) else (none)
set_option maxHeartbeats 8000000 in
set_option maxRecDepth 100000 in
theorem gT.calls (k : Nat) (A0 : Option Addr) (c0 : Nat) (l0 : List Int) (A1 : Option Addr) (c1 : Nat) (l1 : List Int) (r : List Int) (w : World) (hr0 : Kd.C (Kd.int .i64) w A0 l0.length l0) (hc0 : l0.length ≤ c0) (hr1 : Kd.C (Kd.int .i64) w A1 l1.length l1) (hc1 : l1.length ≤ c1) (h : gT.f k l0 l1 = some r) :
  Calls Try.prog 68 #[.slice A0 l0.length c0, .slice A1 l1.length c1] w fun e w' => ∃ bK : Value, e = .returned (bK) ∧ Kd.R (Kd.int .i64) 3 w' w.heap.size (fun _ => True) bK r ∧ Below w.heap.size w w' := by
 have de := Az hr0; have gz := Az hc0; clear hr0 hc0; have HR1 := Az hr1; have mq := Az hc1; clear hr1 hc1; have HB := bZ w; have H := h; clear h; unfold gT.f at H; replace H := gE H; obtain ⟨ly, sr, H⟩ := H; replace H := gE H; obtain ⟨kR, II, H⟩ := H; generalize DG : (List.replicate ((l0.length : Int) : Int).toNat 0 : List Int) = y137 at H; replace DG := Ay DG; have H' := Az H; clear H; go_enter Try.func68, Try.ntmps68
 go_wp2_with (first | ((with_reducible refine gd 10 rfl ?_); refine Kd.qW (Kd.int .i64) _ 3 rfl (N := 10) rfl 23 _ _ rfl (l0.length : Int) rfl rfl Try.underlying23 (.int .i64 0) 8 dP rfl (by decide) (by omega) 0 (ok := fun _ => True) (okp := fun _ => True) rfl (fun _ hk => hk) trivial (oA) (Nat.le_trans (Nat.mul_le_mul_right _ (oA : (l0.length : Int).toNat ≤ 35184372088832)) (by omega)) (Below.refl _ _) (Nat.le_refl _) ?_; intro v138 w5 mr hb hg_ hnew_; clear hg_ hnew_; (first | rw [← DG.out] at mr | (simp only [Int.reduceToNat] at mr; rw [← DG.out] at mr)); have aa5 := Az (Kd.bu mr (be (bU0 HB.out))); replace HB := Az (au (bU0 HB.out) hb); clear hb mr))
 go_loopg [13] k (fun kq v13 w' => ∃ (bs : List Int) (my : Int), v13 = .int .i64 my ∧ ae (gT.l0 kq l1 bs l0 (l0.length : Int) my = some r) ∧ ae (kq ≤ k) ∧ ae (Kd.R (Kd.int .i64) 3 w' w.heap.size (fun _ => True) v138 bs) ∧ ae (Below w.heap.size w w'))
 case atStart => exact ⟨(y137), (0), rS, H', ⟨Nat.le_refl _⟩, ⟨rU aa5.out⟩, ⟨bU0 HB.out⟩⟩
 case round =>
  clear H'; obtain ⟨bs, my, rfl, HA, eO, bP, HB⟩ := hrel
  rcases gk with _ | k1
  exact (nN HA.out).elim; have H := HA.out; clear HA; simp only [gT.l0] at H
  replace H := gB H; rcases H with ⟨iw, H⟩ | ⟨iw, H⟩
  ·
   replace H := gD5 H; obtain ⟨iJ, nX, nY, oM, wa, H⟩ := H; generalize IJ : (bs.set (my : Int).toNat (rd l1 (rd l0 my)) : List Int) = y142 at H; replace IJ := Ay IJ; have H' := Az H; clear H; obtain ⟨ajM, aa6, _, _, SN⟩ := aI de.out my
   cases aa6
   replace SN := hT HB.out SN; obtain ⟨ajN, aa7, _, _, SO⟩ := aI HR1.out (rd l0 my)
   cases aa7
   replace SO := hT HB.out SO; have IK : 0 ≤ (my : Int) := oA; have IL : (my : Int) < ((bs.length : Int) : Int) := oA; obtain ⟨IM, qq, pJ, SP, aa8, ajO, SQ⟩ := Kd.ky bP.out (by omega); (first | cases pJ | (injection pJ with ea_ en_ ec_; (first | subst ea_ | (injection ea_ with ea_; subst ea_)); subst ec_; clear en_)); have aa9 := Az SP; have ajP := Az SQ; clear SP aa8 SQ; obtain ⟨ajQ, ajR⟩ := Kd.dw 0 bP.out (my : Int) IK IL; replace IK := eq_true IK; replace IL := eq_true IL; obtain ⟨ajS, ajT⟩ := Kd.dw 0 bP.out (my : Int) (oA) (oA); have ioo := Kd.jS bP.out (my : Int) (rd l1 (rd l0 my))
   go_wp2_with (first | ((with_reducible refine gs 3 24 rfl ?_); refine sE 3 24 (wr.setCell ⟨IM, (my : Int).toNat, none⟩ (.int .i64 (rd l1 (rd l0 my)))) ?_; intro oN hw; have hg : wr.grownBy oN (some IM) := (by rw [hw]; exact ioo.2); have hp_ : Kd.R (Kd.int .i64) 3 oN w.heap.size (fun _ => True) (.slice (some ⟨IM, 0, none⟩) bs.length qq) y142 := (by rw [hw, IJ.out]; exact ioo.1); clear ioo; replace bP := Az (hp_); replace HB := Az ((by rw [hw]; exact ai (HB.out) aa9.out : Below w.heap.size w oN)); clear hg hw hp_))
   go_roundg k1
   case measure => exact mO
   case rel => exact ⟨(y142), (wrap64 (my + 1)), rS, H', ⟨mO⟩, ⟨rU bP.out⟩, ⟨bU0 HB.out⟩⟩
  · obtain rfl := Option.some.inj H; go_wp2; go_ret; exact ⟨_, rE, rU bP.out, bU0 HB.out⟩
def kj.f (k : Nat) (ag : List Int) (af : List Int) : Option (Int) := (fD.f k ag).bind fun IP => ((gT.f k af ag).bind fun Al => ((fD.f k Al).bind fun IQ => (some (wrap64 (Int.tdiv (wrap64 ((wrap64 ((wrap64 (2 - (IP.length : Int))) + (wrap64 ((af.length : Int) / 2)))) - (IQ.length : Int))) 2)))))
def kj.T1 : Bool × List (List Nat × List Nat) := (true, [([], []), ([0], [0]), ([1], [1]), ([2], [2]), ([3], [3]), ([], []), ([5], [5]), ([6], [6]), ([7], [7]), ([4, 8], [4, 8]), ([], []), ([10], [10]), ([], []), ([12], [12]), ([11, 13, 2], [11, 13]), ([14, 14], [14]), ([15], [15]), ([9, 16], [9, 16]), ([17], [17]), ([18, 15, 0, 1, 2, 3, 4, 5, 6, 7, 8, 9, 10, 11, 12, 13, 14, 15, 16, 17, 18], [18])])
def kj.B1 : List Nat := [0, 1, 3, 7, 15, 0, 32, 96, 224, 511, 0, 1024, 0, 4096, 15367, 31751, 64519, 131071, 262143, 524287]
theorem kj.GK : rtab .any (opsOf Try.f87 1) = kj.T1 := by kernel_rfl
theorem kj.Ir : ir kj.T1.2 kj.B1 = true := by kernel_rfl
set_option maxHeartbeats 8000000 in
set_option maxRecDepth 100000 in
theorem kj.calls (k : Nat) (aA : Option Addr) (az : Nat) (ag : List Int) (am : Option Addr) (al : Nat) (af : List Int) (r : Int) (w : World) (dR : Kd.C (Kd.int .i64) w aA ag.length ag) (d7 : ag.length ≤ az) (dl : Kd.C (Kd.int .i64) w am af.length af) (dq : af.length ≤ al) (h : kj.f k ag af = some r) :
  Calls Try.prog 87 #[.agg #[.slice aA ag.length az, .slice am af.length al]] w fun e w' => e = .returned (.int .i64 r) ∧ Below w.heap.size w w' := by
 have jZ := Try.underlying29; have dr := Az dR; have cZ := Az d7; clear dR d7; have cH := Az dl; have cQ := Az dq; clear dl dq; have HB := bZ w; have H := h; clear h; unfold kj.f at H; replace H := bd H; obtain ⟨IP, A2, H⟩ := H; replace H := bd H; obtain ⟨Al, A3, H⟩ := H; replace H := bd H; obtain ⟨IQ, A4, H⟩ := H; obtain rfl := Option.some.inj H; go_enter Try.func87, Try.ntmps87
 try go_wp2_with (first | ((with_reducible refine gd 1 rfl ?_); refine bE 1 #[.slice aA ag.length az, .slice am af.length al] 29 ?_; intro SR hg w5 hbox hb; have lX := Az (hbox); have wi := gW hg (bU0 HB.out); replace HB := Az (au (bU0 HB.out) hb); clear hb hbox hg))
 replace lX := Az (dk lX.out); replace HB := Az (aX HB.out); refine fX (n := 20) (S := fun w' => w'.cell? ⟨SR, 0, none⟩ = some (.slice aA ag.length az) ∧ w'.cell? ⟨SR, 1, none⟩ = some (.slice am af.length al)) (ds := []) (bv 20 0) (by kernel_rfl) rfl rfl ⟨(aM lX.out 0).trans rfl, (aM lX.out 1).trans rfl⟩ (fun hHeld => ?_); refine gn kj.GK kj.Ir (fun HT_ HW_ => ?_); generalize w5.drew = w6 at lX HB hHeld ⊢; refine ak (i := 0) (N := some 3) (v := ?_) (a' := ?_) (bv 20 1) rfl rfl (aj HT_.out (by kernel_rfl)) (fun _ _ _ h => h) (Or.inl ⟨by rfl, ?_⟩) ?_ ?_; rotate_left; (exact yP); rotate_left; (exact aP); refine ak (i := 5) (N := some 8) (v := ?_) (a' := ?_) (bv 20 33) rfl rfl (aj HT_.out (by kernel_rfl)) (fun _ _ _ h => h) (Or.inl ⟨by rfl, ?_⟩) ?_ ?_; rotate_left; (exact yP); rotate_left; (exact aP); refine ak (i := 10) (N := some 13) (v := ?_) (a' := ?_) (bv 20 1057) rfl rfl (aj HT_.out (by kernel_rfl)) (fun _ _ _ h => h) (Or.inl ⟨by rfl, ?_⟩) ?_ ?_; rotate_left; (exact yP); rotate_left; (exact aP); refine ak (i := 12) (N := some 15) (v := ?_) (a' := ?_) (bv 20 5153) rfl rfl (aj HT_.out (by kernel_rfl)) (fun _ _ _ h => h) (Or.inl ⟨by rfl, ?_⟩) ?_ ?_; rotate_left; (exact yP); rotate_left; (exact aP); refine dh (i := 1) (N := some 4) (v := ?_) (a' := ?_) (bv 20 5155) rfl rfl (dc HT_.out HW_.out (by kernel_rfl)) (fun _ _ _ h => h) (Or.inl ⟨by rfl, ?_⟩) hHeld ?_ ?_; rotate_left
 ·
  rintro w' ⟨s0, s1⟩; go_simp
  with_reducible rfl
 rotate_left; (exact aP); refine dh (i := 6) (N := some 9) (v := ?_) (a' := ?_) (bv 20 5219) rfl rfl (dc HT_.out HW_.out (by kernel_rfl)) (fun _ _ _ h => h) (Or.inl ⟨by rfl, ?_⟩) hHeld ?_ ?_; rotate_left
 ·
  rintro w' ⟨s0, s1⟩; go_simp
  with_reducible rfl
 rotate_left; (exact aP); refine ak (i := 7) (N := some 10) (v := ?_) (a' := ?_) (bv 20 5347) rfl rfl (aj HT_.out (by kernel_rfl)) (fun _ _ _ h => h) (Or.inl ⟨by rfl, ?_⟩) ?_ ?_; rotate_left; (exact yP); rotate_left; (exact aP); refine ak (i := 8) (N := some 11) (v := ?_) (a' := ?_) (bv 20 5603) rfl rfl (aj HT_.out (by kernel_rfl)) (fun _ _ _ h => h) (Or.inl ⟨by rfl, ?_⟩) ?_ ?_; rotate_left; (exact yP); rotate_left; (exact aP); refine dh (i := 11) (N := some 14) (v := ?_) (a' := ?_) (bv 20 7651) rfl rfl (dc HT_.out HW_.out (by kernel_rfl)) (fun _ _ _ h => h) (Or.inl ⟨by rfl, ?_⟩) hHeld ?_ ?_; rotate_left
 ·
  rintro w' ⟨s0, s1⟩; go_simp
  with_reducible rfl
 rotate_left; (exact aP); refine dh (i := 13) (N := some 16) (v := ?_) (a' := ?_) (bv 20 15843) rfl rfl (dc HT_.out HW_.out (by kernel_rfl)) (fun _ _ _ h => h) (Or.inl ⟨by rfl, ?_⟩) hHeld ?_ ?_; rotate_left
 ·
  rintro w' ⟨s0, s1⟩; go_simp
  with_reducible rfl
 rotate_left; (exact aP); refine er (i := 2) (N := some 5) (bv 20 15847) rfl rfl (dj HT_.out (by kernel_rfl)) (by decide) (fun K hK => ?_); refine gv Try.func67 (by kernel_rfl) rfl #[.slice aA ag.length az] (by rfl) rfl rfl lQ ?_
 with_reducible refine (fD.calls k _ _ ag IP _ ?side1 ?side2 A2.out).mono ?_
 (case side1 => exact cU (Kd.cd dr.out HB.out))
 (case side2 => exact cZ.out)
 rintro e w7 ⟨v145, rfl, ho0, hb⟩; refine ⟨_, rfl, ?_⟩; have yk := Az (Kd.qZ ho0 (be (bU1 HB.out wi.out))); replace lX := kB lX.out hb; replace HB := Az (au (bU1 HB.out wi.out) hb); clear hb ho0; obtain ⟨DI, Am, q7⟩ := Kd.qX yk.out; (first | subst q7 | (injection q7 with aG bC aH; have bD := aG.symm; have bF := aH.symm; clear aG bC aH; subst bD; subst bF)); refine hK.out _ _ ⟨(aM lX.out 0).trans rfl, (aM lX.out 1).trans rfl⟩ (fun hHeld => ?_); clear hK K; refine bw (a' := ?_) ?_ ?_; rotate_left
 ·
  show Act.put _ (some 5) _ = _
  simp only [Act.put, List.setIfInBounds_toArray, List.set_cons_zero, List.set_cons_succ, cr, cK]; rfl
 refine ak (i := 3) (N := some 6) (v := ?_) (a' := ?_) (bv 20 15855) rfl rfl (aj HT_.out (by kernel_rfl)) (fun _ _ _ h => h) (Or.inl ⟨by rfl, ?_⟩) ?_ ?_; rotate_left; (exact yP); rotate_left; (exact aP); refine ak (i := 4) (N := some 7) (v := ?_) (a' := ?_) (bv 20 15871) rfl rfl (aj HT_.out (by kernel_rfl)) (fun _ _ _ h => h) (Or.inl ⟨by rfl, ?_⟩) ?_ ?_; rotate_left; (exact yP); rotate_left; (exact aP); refine ak (i := 9) (N := some 12) (v := ?_) (a' := ?_) (bv 20 16383) rfl rfl (aj HT_.out (by kernel_rfl)) (fun _ _ _ h => h) (Or.inl ⟨by rfl, ?_⟩) ?_ ?_; rotate_left; (exact yP); rotate_left; (exact aP); refine er (i := 14) (N := some 17) (bv 20 32767) rfl rfl (dj HT_.out (by kernel_rfl)) (by decide) (fun K hK => ?_); refine gv Try.func68 (by kernel_rfl) rfl #[.slice am af.length al, .slice aA ag.length az] (by rfl) rfl rfl lQ ?_
 with_reducible refine (gT.calls k _ _ af _ _ ag Al _ ?side1 ?side2 ?side3 ?side4 A3.out).mono ?_
 (case side1 => exact cU (Kd.cd cH.out HB.out))
 (case side2 => exact cQ.out)
 (case side3 => exact cU (Kd.cd dr.out HB.out))
 (case side4 => exact cZ.out)
 rintro e w9 ⟨v148, rfl, ho0, hb⟩; refine ⟨_, rfl, ?_⟩; replace yk := Az (Kd.pq (sU yk.out) (Kd.ax ho0) hb); have yl := Az (Kd.bu ho0 (be (bU1 HB.out wi.out))); replace lX := kB lX.out hb; replace HB := Az (au (bU1 HB.out wi.out) hb); clear hb ho0; obtain ⟨wj, rc, oO⟩ := Kd.aU yl.out; (first | subst oO | (injection oO with aG bC aH; have bD := aG.symm; have bF := aH.symm; clear aG bC aH; subst bD; subst bF)); refine hK.out _ _ ⟨(aM lX.out 0).trans rfl, (aM lX.out 1).trans rfl⟩ (fun hHeld => ?_); clear hK K; refine bw (a' := ?_) ?_ ?_; rotate_left
 ·
  show Act.put _ (some 17) _ = _
  simp only [Act.put, List.setIfInBounds_toArray, List.set_cons_zero, List.set_cons_succ, cr, cK]; rfl
 refine er (i := 15) (N := some 18) (bv 20 65535) rfl rfl (dj HT_.out (by kernel_rfl)) (by decide) (fun K hK => ?_); refine gv Try.func67 (by kernel_rfl) rfl #[.slice wj Al.length rc] (by rfl) rfl rfl lQ ?_
 with_reducible refine (fD.calls k _ _ Al IQ _ ?side1 ?side2 A4.out).mono ?_
 (case side1 => exact cU ((Kd.av yl.out).2.2))
 (case side2 => exact (Kd.av yl.out).2.1)
 rintro e qt ⟨ajU, rfl, ho0, hb⟩; refine ⟨_, rfl, ?_⟩; have aba := Az (Kd.qZ (Kd.tJ (Kd.tJ ho0 (Kd.G7 (sU yk.out))) (Kd.ar (rU yl.out))) (be (bU1 HB.out wi.out))); replace yk := Az (Kd.pq (sU yk.out) (Kd.CF ho0) hb); replace yl := rB yl.out hb; replace lX := kB lX.out hb; replace HB := Az (au (bU1 HB.out wi.out) hb); clear hb ho0; obtain ⟨cS, cN, mz⟩ := Kd.qX aba.out; (first | subst mz | (injection mz with aG bC aH; have bD := aG.symm; have bF := aH.symm; clear aG bC aH; subst bD; subst bF)); refine hK.out _ _ ⟨(aM lX.out 0).trans rfl, (aM lX.out 1).trans rfl⟩ (fun hHeld => ?_); clear hK K; refine bw (a' := ?_) ?_ ?_; rotate_left
 ·
  show Act.put _ (some 18) _ = _
  simp only [Act.put, List.setIfInBounds_toArray, List.set_cons_zero, List.set_cons_succ, cr, cK]; rfl
 refine ak (i := 16) (N := some 19) (v := ?_) (a' := ?_) (bv 20 131071) rfl rfl (aj HT_.out (by kernel_rfl)) (fun _ _ _ h => h) (Or.inl ⟨by rfl, ?_⟩) ?_ ?_; rotate_left; (exact yP); rotate_left; (exact aP); refine ak (i := 17) (N := some 20) (v := ?_) (a' := ?_) (bv 20 262143) rfl rfl (aj HT_.out (by kernel_rfl)) (fun _ _ _ h => h) (Or.inl ⟨by rfl, ?_⟩) ?_ ?_; rotate_left; (exact yP); rotate_left; (exact aP); refine ak (i := 18) (N := some 21) (v := ?_) (a' := ?_) (bv 20 524287) rfl rfl (aj HT_.out (by kernel_rfl)) (fun _ _ _ h => h) (Or.inl ⟨by rfl, ?_⟩) ?_ ?_; rotate_left; (exact yP); rotate_left; (exact aP); refine ak (i := 19) (N := some 2) (v := ?_) (a' := ?_) (bv 20 1048575) rfl rfl (aj HT_.out (by kernel_rfl)) (fun _ _ _ h => h) (Or.inl ⟨by rfl, ?_⟩) ?_ ?_; rotate_left; (exact yP); rotate_left; (exact aP); refine fY (gp HT_.out (by kernel_rfl)) ?_
 try go_wp2
 go_ret; exact ⟨rE, bU1 HB.out wi.out⟩
def iI.l0 : Nat → List Int → List Bool → Int → Option Bool
 | 0, _, _, _ => none
 | k + 1, l, s, i => if i < (l.length : Int) then (if 0 ≤ i then (if rd l i < 0 then (some false) else (if rd l i ≥ (l.length : Int) then (some false) else (if s.getD (rd l i).toNat false = true then (some false) else (iI.l0 k l (s.set (rd l i).toNat true) (wrap64 (i + 1)))))) else none) else (some true)
def iI.f (k : Nat) (l0 : List Int) : Option Bool := if (l0.length : Int) < 1 then (some false) else (if (l0.length : Int) > 12 then (some false) else (iI.l0 k l0 (List.replicate 12 false) 0))
set_option maxHeartbeats 8000000 in
set_option maxRecDepth 100000 in
theorem iI.calls (k : Nat) (A0 : Option Addr) (c0 : Nat) (l0 : List Int) (r : Bool) (w : World) (hr0 : Kd.C (Kd.int .i64) w A0 l0.length l0) (hc0 : l0.length ≤ c0) (h : iI.f k l0 = some r) :
  Calls Try.prog 105 #[.slice A0 l0.length c0] w fun e w' => e = .returned (.bool r) ∧ Below w.heap.size w w' := by
 have de := Az hr0; have gz := Az hc0; clear hr0 hc0; have HB := bZ w; have H := h; clear h; unfold iI.f at H
 replace H := gB H; rcases H with ⟨ly, H⟩ | ⟨ly, H⟩
 · obtain rfl := Option.some.inj H; go_enter Try.func105, Try.ntmps105; go_wp2; go_ret; exact ⟨rfl, bn HB.out _⟩
 ·
  by_cases c4 : (l0.length : Int) > 12
  · rw [if_pos c4] at H; have kR := decide_eq_true c4; clear c4; obtain rfl := Option.some.inj H; go_enter Try.func105, Try.ntmps105; go_wp2; go_ret; exact ⟨rfl, bn HB.out _⟩
  ·
   rw [if_neg c4] at H; have kR := decide_eq_false c4
   have c4p : (l0.length : Int) ≤ 12 := by omega
   clear c4; have H' := Az H; clear H; go_enter Try.func105, Try.ntmps105; go_wp2
   go_loopg [17] k (fun kq v17 w' => ∃ (s : List Bool) (i : Int), v17 = .int .i64 i ∧ ae (iI.l0 kq l0 s i = some r) ∧ ae (kq ≤ k) ∧ ae (s.length = 12) ∧ ae (w'.heap[w.heap.size]? = some (.cells (s.map Value.bool).toArray 110 (0, 0))) ∧ ae (Below w.heap.size w w'))
   case atStart => exact ⟨List.replicate 12 false, 0, rfl, H', ⟨Nat.le_refl _⟩, ⟨rfl⟩, ⟨by simpa using heap_alloc_new w _⟩, ⟨bn HB.out _⟩⟩
   case round =>
    clear H'; obtain ⟨s, i, rfl, HA, eO, HL, BK, HB⟩ := hrel
    rcases gk with _ | k1
    exact (nN HA.out).elim; have H := HA.out; clear HA; simp only [iI.l0] at H
    by_cases c5 : i < (l0.length : Int)
    ·
     rw [if_pos c5] at H; have nZ := decide_eq_true c5; replace H := gP H; obtain ⟨c6, H⟩ := H; have iK := decide_eq_true c6; obtain ⟨ad, e, hx⟩ := Kd.lu de.out i c6 c5
     cases e
     replace hx := (HB.out.cell (World.block_lt_of_cell? w _ hx)).trans hx; replace c6 := eq_true c6; replace c5 := eq_true c5
     by_cases c7 : rd l0 i < 0
     · rw [if_pos c7] at H; have iw := decide_eq_true c7; clear c7; obtain rfl := Option.some.inj H; go_wp2; go_ret; exact ⟨rfl, HB.out⟩
     ·
      rw [if_neg c7] at H; have iw := decide_eq_false c7
      have c7p : 0 ≤ rd l0 i := by omega
      clear c7
      by_cases c8 : rd l0 i ≥ (l0.length : Int)
      · rw [if_pos c8] at H; have iJ := decide_eq_true c8; clear c8; obtain rfl := Option.some.inj H; go_wp2; go_ret; exact ⟨rfl, HB.out⟩
      ·
       rw [if_neg c8] at H; have iJ := decide_eq_false c8
       have c8p : rd l0 i < 12 := by omega
       clear c8; have hcs : wr.cell? ⟨w.heap.size, (rd l0 i).toNat, none⟩ = some (.bool (s.getD (rd l0 i).toNat false)) := (aM BK.out _).trans (by have hl := HL.out; simp [List.getD_eq_getElem?_getD]; rw [List.getElem?_eq_getElem (by omega)]; rfl); have hfs := jX BK.out (rd l0 i).toNat; generalize hb : s.getD (rd l0 i).toNat false = b at H hcs
       cases b with
       | true =>
        rw [if_pos rfl] at H; obtain rfl := Option.some.inj H; clear hb; go_wp2; go_ret; exact ⟨rfl, HB.out⟩
       | false =>
        rw [if_neg (by decide)] at H; have H' := Az H; clear H hb; go_wp2; go_roundg k1
        case measure => exact mO
        case rel => exact ⟨s.set (rd l0 i).toNat true, wrap64 (i + 1), rS, H', ⟨mO⟩, ⟨by rw [List.length_set]; exact HL.out⟩, ⟨by simpa using De BK.out (rd l0 i).toNat (.bool true)⟩, ⟨ai HB.out (Nat.le_refl _)⟩⟩
    · rw [if_neg c5] at H; have nZ := decide_eq_false c5; clear c5; obtain rfl := Option.some.inj H; go_wp2; go_ret; exact ⟨rfl, HB.out⟩
def mf.l0 : Nat → List Int → Int → Int → Option (Int)
 | 0, _, _, _ => none
 | k + 1, x0, x3, x4 => if x4 < (x0.length : Int) then (if 0 ≤ x4 then (mf.l0 k x0 (mx x3 (rd x0 x4)) (wrap64 (x4 + 1))) else (none)) else (some x3)
def mf.f (k : Nat) (l0 : List Int) : Option (Int) := if (l0.length : Int) < 1 then (none) else (if 0 < (l0.length : Int) then (mf.l0 k l0 (rd l0 0) 1) else (none))
set_option maxHeartbeats 8000000 in
set_option maxRecDepth 100000 in
theorem mf.calls (k : Nat) (A0 : Option Addr) (c0 : Nat) (l0 : List Int) (r : Int) (w : World) (hr0 : Kd.C (Kd.int .i64) w A0 l0.length l0) (hc0 : l0.length ≤ c0) (h : mf.f k l0 = some r) :
  Calls Try.prog 106 #[.slice A0 l0.length c0] w fun e w' => e = .returned (.int .i64 r) ∧ Below w.heap.size w w' := by
 have de := Az hr0; have gz := Az hc0; clear hr0 hc0; have HB := bZ w; have H := h; clear h; unfold mf.f at H
 by_cases c2 : (l0.length : Int) < 1
 · rw [if_pos c2] at H; exact absurd H (by simp)
 ·
  rw [if_neg c2] at H; have qo := decide_eq_false c2; have sn : decide (l0.length < 1) = false := decide_eq_false (by omega); clear c2; replace H := gP H; obtain ⟨c3, H⟩ := H; have ly := decide_eq_true c3; have sr : decide (0 < l0.length) = true := decide_eq_true (by omega); clear c3; have H' := Az H; clear H; have IR : 0 ≤ (0 : Int) := (by omega); have IU : 0 < (l0.length : Int) := oA; obtain ⟨ajY, e153, SS⟩ := Kd.lu de.out 0 IR IU
  cases e153
  have ajZ : (0 < l0.length) = True := eq_true (by omega); rw [show ((0 : Int)).toNat = 0 from rfl] at SS; rw [Addr.add_zero'] at SS; replace IR := eq_true IR; replace IU := eq_true IU; go_enter Try.func106, Try.ntmps106; go_wp2
  go_loopg [3, 4] k (fun kq v3 v4 w' => ∃ (aD : Int) (bq : Int), v3 = .int .i64 aD ∧ v4 = .int .i64 bq ∧ ae (mf.l0 kq l0 aD bq = some r) ∧ ae (kq ≤ k) ∧ ae (Below w.heap.size w w'))
  case atStart => exact ⟨(rd l0 0), (1), rS, rS, H', ⟨Nat.le_refl _⟩, ⟨bU0 HB.out⟩⟩
  case round =>
   clear H'; obtain ⟨aD, bq, rfl, rfl, HA, eO, HB⟩ := hrel
   rcases gk with _ | k1
   exact (nN HA.out).elim; have H := HA.out; clear HA; simp only [mf.l0] at H
   replace H := gB H; rcases H with ⟨kR, H⟩ | ⟨kR, H⟩
   ·
    replace H := gD1 H; obtain ⟨nZ, H⟩ := H; obtain ⟨kC, pK⟩ : ∃ j_ : Int, (mx aD (rd l0 bq)) = j_ := ⟨_, rfl⟩; (first | rw [pK] at H | simp only [pK] at H); have aj0 : (if aD < (rd l0 bq) then (rd l0 bq) else aD) = kC := pK; have H' := Az H; clear H; obtain ⟨_, _, SU⟩ := aJ de.out bq; replace SU := hT HB.out SU; go_wp2; go_roundg k1
    case measure => exact mO
    case rel => exact ⟨(kC), (wrap64 (bq + 1)), (by first | rfl | (simp; done) | (simp only [← pK] <;> (first | rfl | simp)) | (simp [*]; done)), rS, H', ⟨mO⟩, ⟨bU0 HB.out⟩⟩
   · obtain rfl := Option.some.inj H; go_wp2; go_ret; exact ⟨rE, bU0 HB.out⟩
def na.l0 : Nat → List Int → Int → Int → Option (List Int)
 | 0, _, _, _ => none
 | k + 1, x3, x8, x9 => if x9 < x8 then (if 0 ≤ x9 then (if x9 < (x3.length : Int) then (na.l0 k (x3.set (x9 : Int).toNat x9) x8 (wrap64 (x9 + 1))) else (none)) else (none)) else (some x3)
def na.f (k : Nat) (a0 : Int) : Option (List Int) := if 0 ≤ a0 then (if (a0 : Int).toNat ≤ 35184372088832 then ((some (List.replicate (a0 : Int).toNat 0 : List Int)).bind fun wl => (na.l0 k wl (wl.length : Int) 0)) else (none)) else (none)
set_option maxHeartbeats 8000000 in
set_option maxRecDepth 100000 in
theorem na.calls (k : Nat) (a0 : Int) (r : List Int) (w : World) (h : na.f k a0 = some r) :
  Calls Try.prog 122 #[.int .i64 a0] w fun e w' => ∃ bK : Value, e = .returned (bK) ∧ Kd.R (Kd.int .i64) 3 w' w.heap.size (fun _ => True) bK r ∧ Below w.heap.size w w' := by
 have HB := bZ w; have H := h; clear h; unfold na.f at H; replace H := gE H; obtain ⟨qo, sn, H⟩ := H; replace H := gE H; obtain ⟨ly, sr, H⟩ := H; generalize DJ : (List.replicate (a0 : Int).toNat 0 : List Int) = wl at H; simp only [Option.bind_some] at H; replace DJ := Ay DJ; have H' := Az H; clear H; go_enter Try.func122, Try.ntmps122
 go_wp2_with (first | ((with_reducible refine gd 6 rfl ?_); refine Kd.qW (Kd.int .i64) _ 3 rfl (N := 6) rfl 23 _ _ rfl a0 rfl rfl Try.underlying23 (.int .i64 0) 8 dP rfl (by decide) (by omega) 0 (ok := fun _ => True) (okp := fun _ => True) rfl (fun _ hk => hk) trivial (oA) (Nat.le_trans (Nat.mul_le_mul_right _ (oA : a0.toNat ≤ 35184372088832)) (by omega)) (Below.refl _ _) (Nat.le_refl _) ?_; intro aj1 w4 gA hb hg_ hnew_; clear hg_ hnew_; (first | rw [← DJ.out] at gA | (simp only [Int.reduceToNat] at gA; rw [← DJ.out] at gA)); have SV := Az (Kd.bu gA (be (bU0 HB.out))); replace HB := Az (au (bU0 HB.out) hb); clear hb gA; obtain ⟨IV, An, IW⟩ := Kd.aU SV.out; subst IW))
 go_loopg [9] k (fun kq v9 w' => ∃ (aD : List Int) (dT : Int), v9 = .int .i64 dT ∧ ae (na.l0 kq aD (wl.length : Int) dT = some r) ∧ ae (kq ≤ k) ∧ ae (Kd.R (Kd.int .i64) 3 w' w.heap.size (fun _ => True) (.slice IV wl.length An) aD) ∧ ae (Below w.heap.size w w'))
 case atStart => exact ⟨(wl), (0), rS, H', ⟨Nat.le_refl _⟩, ⟨rU SV.out⟩, ⟨bU0 HB.out⟩⟩
 case round =>
  clear H'; obtain ⟨aD, dT, rfl, HA, eO, aC, HB⟩ := hrel; have ym := (Kd.av aC.out).1; rw [ym] at aC; simp only [ym]
  rcases gk with _ | k1
  exact (nN HA.out).elim; have H := HA.out; clear HA; simp only [na.l0] at H
  by_cases c7 : dT < (wl.length : Int)
  ·
   rw [if_pos c7] at H; have iw := decide_eq_true c7; (have IX := iw; rw [ym] at IX); clear c7; replace H := gD1 H; obtain ⟨iJ, H⟩ := H; replace H := gP H; obtain ⟨c9, H⟩ := H; have nX := decide_eq_true c9; clear c9; generalize IY : (aD.set (dT : Int).toNat dT : List Int) = y158 at H; replace IY := Ay IY; have H' := Az H; clear H; have uh : 0 ≤ (dT : Int) := oA; have wo : (dT : Int) < ((aD.length : Int) : Int) := oA; obtain ⟨wq, rc, oO, Ao, IZ, abb, Ap⟩ := Kd.ky aC.out (by omega); (first | cases oO | (injection oO with ea_ en_ ec_; (first | subst ea_ | (injection ea_ with ea_; subst ea_)); subst ec_; clear en_)); have I0 := Az Ao; have abd := Az Ap; clear Ao IZ Ap; obtain ⟨abe, abf⟩ := Kd.dw 0 aC.out (dT : Int) uh wo; replace uh := eq_true uh; replace wo := eq_true wo; obtain ⟨abg, abh⟩ := Kd.dw 0 aC.out (dT : Int) (oA) (oA); have qu := Kd.jS aC.out (dT : Int) dT
   go_wp2_with (first | ((with_reducible refine gs 3 15 rfl ?_); refine sE 3 15 (wr.setCell ⟨wq, (dT : Int).toNat, none⟩ (.int .i64 dT)) ?_; intro oa hw; have hg : wr.grownBy oa (some wq) := (by rw [hw]; exact qu.2); have hp_ : Kd.R (Kd.int .i64) 3 oa w.heap.size (fun _ => True) (.slice (some ⟨wq, 0, none⟩) aD.length An) y158 := (by rw [hw, IY.out]; exact qu.1); clear qu; replace aC := Az (hp_); replace HB := Az ((by rw [hw]; exact ai (HB.out) I0.out : Below w.heap.size w oa)); clear hg hw hp_))
   simp only [← ym]; go_roundg k1
   case measure => exact mO
   case rel => exact ⟨(y158), (wrap64 (dT + 1)), rS, H', ⟨mO⟩, ⟨by simp only [ym]; refine rA ?_; exact aC.out⟩, ⟨bU0 HB.out⟩⟩
  · rw [if_neg c7] at H; have iw := decide_eq_false c7; (have IX := iw; rw [ym] at IX); clear c7; obtain rfl := Option.some.inj H; go_wp2; go_ret; exact ⟨_, rE, rU aC.out, bU0 HB.out⟩
mutual
def eU.l0 : Nat → List (List Int) → List Int → Bool → Option (List Int)
 | 0, _, _, _ => none
 | k + 1, x0, x3, x4 => if x4 = true then (eU.l1 k x0 x3 false x0 (x0.length : Int) 0) else (some x3)
def eU.l1 : Nat → List (List Int) → List Int → Bool → List (List Int) → Int → Int → Option (List Int)
 | 0, _, _, _, _, _, _ => none
 | k + 1, x0, x3, x4, jj, kk, x18 => if x18 < kk then (if 0 ≤ x18 then (if x18 < (jj.length : Int) then (eU.l2 k x0 x3 x4 jj kk x18 (dp jj x18) ((dp jj x18).length : Int) 0) else (none)) else (none)) else (eU.l0 k x0 x3 x4)
def eU.l2 : Nat → List (List Int) → List Int → Bool → List (List Int) → Int → Int → List Int → Int → Int → Option (List Int)
 | 0, _, _, _, _, _, _, _, _, _ => none
 | k + 1, x0, x3, x4, jj, kk, x18, kS, yn, x24 => if x24 < yn then (if 0 ≤ x24 then (if x24 < (kS.length : Int) then (if x24 < (x3.length : Int) then (if 0 ≤ (rd kS x24) then (if (rd kS x24) < (x3.length : Int) then (if (rd x3 x24) = (mn (rd x3 x24) (rd x3 (rd kS x24))) then (if (rd x3 (rd kS x24)) = (mn (rd x3 x24) (rd x3 (rd kS x24))) then (eU.l2 k x0 x3 x4 jj kk x18 kS yn (wrap64 (x24 + 1))) else (eU.l2 k x0 ((x3.set (x24 : Int).toNat (mn (rd x3 x24) (rd x3 (rd kS x24)))).set ((rd kS x24) : Int).toNat (mn (rd x3 x24) (rd x3 (rd kS x24)))) true jj kk x18 kS yn (wrap64 (x24 + 1)))) else (eU.l2 k x0 ((x3.set (x24 : Int).toNat (mn (rd x3 x24) (rd x3 (rd kS x24)))).set ((rd kS x24) : Int).toNat (mn (rd x3 x24) (rd x3 (rd kS x24)))) true jj kk x18 kS yn (wrap64 (x24 + 1)))) else (none)) else (none)) else (none)) else (none)) else (none)) else (eU.l1 k x0 x3 x4 jj kk (wrap64 (x18 + 1)))
end
def eU.f (k : Nat) (l0 : List (List Int)) : Option (List Int) := if 0 < (l0.length : Int) then ((na.f k ((dp l0 0).length : Int)).bind fun t160 => (eU.l0 k l0 t160 true)) else (none)
set_option maxHeartbeats 8000000 in
set_option maxRecDepth 100000 in
theorem eU.calls (k : Nat) (A0 : Option Addr) (c0 : Nat) (l0 : List (List Int)) (r : List Int) (w : World) (hr0 : Kd.C (Kd.slice 3 (Kd.int .i64)) w A0 l0.length l0) (hc0 : l0.length ≤ c0) (h : eU.f k l0 = some r) :
  Calls Try.prog 107 #[.slice A0 l0.length c0] w fun e w' => ∃ bK : Value, e = .returned (bK) ∧ Kd.R (Kd.int .i64) 3 w' w.heap.size (fun _ => True) bK r ∧ Below w.heap.size w w' := by
 have de := Az hr0; have gz := Az hc0; clear hr0 hc0; have HB := bZ w; have H := h; clear h; unfold eU.f at H; replace H := gP H; obtain ⟨c2, H⟩ := H; have qo := decide_eq_true c2; have sn : decide (0 < l0.length) = true := decide_eq_true (by omega); clear c2; replace H := bd H; obtain ⟨t160, A3, H⟩ := H; have H' := Az H; clear H; have I1 : 0 ≤ (0 : Int) := (by omega); have I2 : 0 < (l0.length : Int) := oA; obtain ⟨abi, aj2, aj3, abj, SX, SY, SZ⟩ := zH de.out 0 I1 I2
 cases abj
 have aj4 : (0 < l0.length) = True := eq_true (by omega); rw [show ((0 : Int)).toNat = 0 from rfl] at SX; rw [Addr.add_zero'] at SX; have aj5 := Az SZ; have aj6 := Az SY; clear SZ SY; replace I1 := eq_true I1; replace I2 := eq_true I2; go_enter Try.func107, Try.ntmps107
 go_wp2_with (first | (go_at_call 122; (with_reducible refine (na.calls k ((dp l0 0).length : Int) t160 _ A3.out).mono ?_); rintro e w4 ⟨I3, rfl, ho0, hb⟩; have abk := Az (Kd.bu ho0 (be (bU0 HB.out))); replace HB := Az (au (bU0 HB.out) hb); clear hb ho0))
 repeat (go_quiet (fail); try go_wp2_with (fail))
 go_loopg [4] k (fun kq v4 w' => ∃ (aD : List Int) (bq : Bool), v4 = .bool bq ∧ ae (eU.l0 kq l0 aD bq = some r) ∧ ae (kq ≤ k) ∧ ae (Kd.R (Kd.int .i64) 3 w' w.heap.size (fun _ => True) I3 aD) ∧ ae (Below w.heap.size w w'))
 case atStart => exact ⟨(t160), (true), rS, H', ⟨Nat.le_refl _⟩, ⟨rU abk.out⟩, ⟨bU0 HB.out⟩⟩
 case round =>
  clear H'; obtain ⟨aD, bq, rfl, HA, eO, aC, HB⟩ := hrel
  rcases gk with _ | k1
  exact (nN HA.out).elim; have H := HA.out; clear HA; simp only [eU.l0] at H
  by_cases c5 : bq = true
  ·
   subst c5; rw [if_pos rfl] at H; have H' := Az H; clear H; go_wp2
   repeat (go_quiet (fail); try go_wp2)
   go_loopg [4, 18] k1 (fun kq v4 v18 w' => ∃ (oP : List Int) (eV : Bool) (fM : Int), v4 = .bool eV ∧ v18 = .int .i64 fM ∧ ae (eU.l1 kq l0 oP eV l0 (l0.length : Int) fM = some r) ∧ ae (kq ≤ k1) ∧ ae (Kd.R (Kd.int .i64) 3 w' w.heap.size (fun _ => True) I3 oP) ∧ ae (Below w.heap.size w w'))
   case atStart => exact ⟨(aD), (false), (0), rS, rS, H', ⟨Nat.le_refl _⟩, ⟨rU aC.out⟩, ⟨bU0 HB.out⟩⟩
   case round =>
    clear H'; obtain ⟨oP, eV, fM, rfl, rfl, HA, fp, aC, HB⟩ := hrel
    rcases gk with _ | k2
    exact (nN HA.out).elim; have H := HA.out; clear HA; simp only [eU.l1] at H
    by_cases c6 : fM < (l0.length : Int)
    ·
     rw [if_pos c6] at H; have iK := decide_eq_true c6; clear c6; replace H := gD2 H; obtain ⟨iw, iJ, H⟩ := H; have H' := Az H; clear H; have I4 : 0 ≤ (fM : Int) := oA; have I5 : fM < (l0.length : Int) := oA; obtain ⟨abl, aj7, aj8, abm, S3, S4, S5⟩ := zH de.out fM I4 I5; obtain rfl : abi = abl := (by injection abm); replace S3 := hT HB.out S3; have I6 := Az S5; have aj9 := Az S4; clear S5 S4; replace I4 := eq_true I4; replace I5 := eq_true I5; go_wp2
     repeat (go_quiet (fail); try go_wp2)
     go_loopg [4, 24] k2 (fun kq v4 v24 w' => ∃ (km : List Int) (Aq : Bool) (df : Int), v4 = .bool Aq ∧ v24 = .int .i64 df ∧ ae (eU.l2 kq l0 km Aq l0 (l0.length : Int) fM (dp l0 fM) ((dp l0 fM).length : Int) df = some r) ∧ ae (kq ≤ k2) ∧ ae (Kd.R (Kd.int .i64) 3 w' w.heap.size (fun _ => True) I3 km) ∧ ae (Below w.heap.size w w'))
     case atStart => exact ⟨(oP), (eV), (0), rS, rS, H', ⟨Nat.le_refl _⟩, ⟨rU aC.out⟩, ⟨bU0 HB.out⟩⟩
     case round =>
      clear H'; obtain ⟨km, Aq, df, rfl, rfl, HA, pI, aC, HB⟩ := hrel
      rcases gk with _ | k3
      exact (nN HA.out).elim; have H := HA.out; clear HA; simp only [eU.l2] at H
      replace H := gB H; rcases H with ⟨nX, H⟩ | ⟨nX, H⟩
      ·
       replace H := gD5 H; obtain ⟨nY, oM, wa, re, ui, H⟩ := H; obtain ⟨hY, wu⟩ : ∃ j_ : Int, (mn (rd km df) (rd km (rd (dp l0 fM) df))) = j_ := ⟨_, rfl⟩; (first | rw [wu] at H | simp only [wu] at H); have abn : (if (rd km (rd (dp l0 fM) df)) < (rd km df) then (rd km (rd (dp l0 fM) df)) else (rd km df)) = hY := wu
       replace H := gQ H; rcases H with ⟨yo, S6, H⟩ | ⟨yo, S6, H⟩
       ·
        replace H := gQ H; rcases H with ⟨yp, I7, H⟩ | ⟨yp, I7, H⟩
        ·
         have H' := Az H; clear H; obtain ⟨S7, Ar, S8, S9, uj⟩ := aI I6.out df
         cases Ar
         replace uj := hT HB.out uj; obtain ⟨Ah, Ai, Aj⟩ := Kd.aU aC.out; subst Aj; obtain ⟨Ta, e165, Tb, Tc, DK⟩ := aI (Kd.av aC.out).2.2 df
         cases e165; obtain ⟨Td, Te, DL⟩ := aJ (Kd.av aC.out).2.2 (rd (dp l0 fM) df); obtain ⟨Tf, Tg, DN⟩ := aJ (Kd.av aC.out).2.2 df; obtain ⟨abo, abp, Ti⟩ := aJ (Kd.av aC.out).2.2 (rd (dp l0 fM) df); go_wp2
         repeat (go_quiet (fail); try go_wp2)
         go_roundg k3
         case measure => exact mO
         case rel => exact ⟨(km), (Aq), (wrap64 (df + 1)), rS, rS, H', ⟨mO⟩, ⟨rU aC.out⟩, ⟨bU0 HB.out⟩⟩
        ·
         generalize I8 : (km.set (df : Int).toNat (hY) : List Int) = y169 at H; replace I8 := Ay I8; generalize I9 : (y169.set ((rd (dp l0 fM) df) : Int).toNat (hY) : List Int) = y170 at H; replace I9 := Ay I9; have H' := Az H; clear H; obtain ⟨S7, Ar, S8, S9, uj⟩ := aI I6.out df
         cases Ar
         replace uj := hT HB.out uj; obtain ⟨SI, wb, uf⟩ := Kd.aU aC.out; subst uf; obtain ⟨Ta, e165, Tb, Tc, DK⟩ := aI (Kd.av aC.out).2.2 df
         cases e165; obtain ⟨Td, Te, DL⟩ := aJ (Kd.av aC.out).2.2 (rd (dp l0 fM) df); obtain ⟨Tf, Tg, DN⟩ := aJ (Kd.av aC.out).2.2 df; obtain ⟨abo, abp, Ti⟩ := aJ (Kd.av aC.out).2.2 (rd (dp l0 fM) df); have Ja : 0 ≤ (df : Int) := oA; have Jb : (df : Int) < ((km.length : Int) : Int) := oA; obtain ⟨yq, bm, uk, Tj, abq, aka, Tk⟩ := Kd.ky aC.out (by omega); (first | cases uk | (injection uk with ea_ en_ ec_; (first | subst ea_ | (injection ea_ with ea_; subst ea_)); subst ec_; clear en_)); have Tl := Az Tj; have akb := Az Tk; clear Tj abq Tk; simp only [add_plain] at DK; simp only [add_plain] at DL; simp only [add_plain] at DN; simp only [add_plain] at Ti; obtain ⟨akc, akd⟩ := Kd.dw 0 aC.out (df : Int) Ja Jb; replace Ja := eq_true Ja; replace Jb := eq_true Jb; obtain ⟨Tm, Tn⟩ := Kd.dw 0 aC.out (df : Int) (oA) (oA); have ul := Kd.jS aC.out (df : Int) hY
         go_wp2_with (fail)
         repeat (go_quiet (fail); try go_wp2_with (first | ((with_reducible refine gs 3 58 rfl ?_); (rw [Il wr]; generalize hq_ : World.drewN wr _ = wr; replace aC := Az (Kd.Ij hq_ aC.out); replace HB := Az (Hm hq_ HB.out); clear hq_; (obtain ⟨Tm, Tn⟩ := Kd.dw 0 aC.out (df : Int) (oA) (oA)); (have ul := Kd.jS aC.out (df : Int) hY)); refine sE 3 58 (wr.setCell ⟨yq, (df : Int).toNat, none⟩ (.int .i64 hY)) ?_; intro fA hw; have hg : wr.grownBy fA (some yq) := (by rw [hw]; exact ul.2); have hp_ : Kd.R (Kd.int .i64) 3 fA w.heap.size (fun _ => True) (.slice (some ⟨yq, 0, none⟩) km.length wb) y169 := (by rw [hw, I8.out]; exact ul.1); clear ul; replace aC := Az (hp_); replace HB := Az ((by rw [hw]; exact ai (HB.out) Tl.out : Below w.heap.size w fA)); clear hg hw hp_; have Jc : 0 ≤ ((rd (dp l0 fM) df) : Int) := oA; have Jd : ((rd (dp l0 fM) df) : Int) < ((km.length : Int) : Int) := oA; obtain ⟨ake, akf⟩ := Kd.dw 0 aC.out ((rd (dp l0 fM) df) : Int) Jc Jd; replace Jc := eq_true Jc; replace Jd := eq_true Jd; obtain ⟨abr, abt⟩ := Kd.dw 0 aC.out ((rd (dp l0 fM) df) : Int) (oA) (oA); have wv := Kd.jS aC.out ((rd (dp l0 fM) df) : Int) hY) | ((with_reducible refine gs 3 59 rfl ?_); refine sE 3 59 (fA.setCell ⟨yq, ((rd (dp l0 fM) df) : Int).toNat, none⟩ (.int .i64 hY)) ?_; intro lY hw; have hg : fA.grownBy lY (some yq) := (by rw [hw]; exact wv.2); have hp_ : Kd.R (Kd.int .i64) 3 lY w.heap.size (fun _ => True) (.slice (some ⟨yq, 0, none⟩) km.length wb) y170 := (by rw [hw, I9.out]; exact wv.1); clear wv; replace aC := Az (hp_); replace HB := Az ((by rw [hw]; exact ai (HB.out) Tl.out : Below w.heap.size w lY)); clear hg hw hp_)))
         go_roundg k3
         case measure => exact mO
         case rel => exact ⟨(y170), (true), (wrap64 (df + 1)), rS, rS, H', ⟨mO⟩, ⟨rU aC.out⟩, ⟨bU0 HB.out⟩⟩
       ·
        generalize Je : (km.set (df : Int).toNat (hY) : List Int) = y171 at H; replace Je := Ay Je; generalize Jf : (y171.set ((rd (dp l0 fM) df) : Int).toNat (hY) : List Int) = y172 at H; replace Jf := Ay Jf; have H' := Az H; clear H; obtain ⟨S7, Ar, S8, S9, uj⟩ := aI I6.out df
        cases Ar
        replace uj := hT HB.out uj; obtain ⟨bQ, bB, sw⟩ := Kd.aU aC.out; subst sw; obtain ⟨Ta, e165, Tb, Tc, DK⟩ := aI (Kd.av aC.out).2.2 df
        cases e165; obtain ⟨Td, Te, DL⟩ := aJ (Kd.av aC.out).2.2 (rd (dp l0 fM) df); obtain ⟨Tf, Tg, DN⟩ := aJ (Kd.av aC.out).2.2 df; have p26 : 0 ≤ (df : Int) := oA; have Jg : (df : Int) < ((km.length : Int) : Int) := oA; obtain ⟨yr, lZ, kT, Tp, abu, akg, Tr⟩ := Kd.ky aC.out (by omega); (first | cases kT | (injection kT with ea_ en_ ec_; (first | subst ea_ | (injection ea_ with ea_; subst ea_)); subst ec_; clear en_)); have Ts := Az Tp; have akh := Az Tr; clear Tp abu Tr; simp only [add_plain] at DK; simp only [add_plain] at DL; simp only [add_plain] at DN; obtain ⟨aki, akj⟩ := Kd.dw 0 aC.out (df : Int) p26 Jg; replace p26 := eq_true p26; replace Jg := eq_true Jg; obtain ⟨abv, abw⟩ := Kd.dw 0 aC.out (df : Int) (oA) (oA); have DO := Kd.jS aC.out (df : Int) hY
        go_wp2_with (fail)
        repeat (go_quiet (fail); try go_wp2_with (first | ((with_reducible refine gs 3 58 rfl ?_); (rw [Il wr]; generalize hq_ : World.drewN wr _ = wr; replace aC := Az (Kd.Ij hq_ aC.out); replace HB := Az (Hm hq_ HB.out); clear hq_; (obtain ⟨abv, abw⟩ := Kd.dw 0 aC.out (df : Int) (oA) (oA)); (have DO := Kd.jS aC.out (df : Int) hY)); refine sE 3 58 (wr.setCell ⟨yr, (df : Int).toNat, none⟩ (.int .i64 hY)) ?_; intro yt hw; have hg : wr.grownBy yt (some yr) := (by rw [hw]; exact DO.2); have hp_ : Kd.R (Kd.int .i64) 3 yt w.heap.size (fun _ => True) (.slice (some ⟨yr, 0, none⟩) km.length bB) y171 := (by rw [hw, Je.out]; exact DO.1); clear DO; replace aC := Az (hp_); replace HB := Az ((by rw [hw]; exact ai (HB.out) Ts.out : Below w.heap.size w yt)); clear hg hw hp_; have p27 : 0 ≤ ((rd (dp l0 fM) df) : Int) := oA; have Jh : ((rd (dp l0 fM) df) : Int) < ((km.length : Int) : Int) := oA; obtain ⟨akk, akl⟩ := Kd.dw 0 aC.out ((rd (dp l0 fM) df) : Int) p27 Jh; replace p27 := eq_true p27; replace Jh := eq_true Jh; obtain ⟨akm, akn⟩ := Kd.dw 0 aC.out ((rd (dp l0 fM) df) : Int) (oA) (oA); have Ji := Kd.jS aC.out ((rd (dp l0 fM) df) : Int) hY) | ((with_reducible refine gs 3 59 rfl ?_); refine sE 3 59 (yt.setCell ⟨yr, ((rd (dp l0 fM) df) : Int).toNat, none⟩ (.int .i64 hY)) ?_; intro w32 hw; have hg : yt.grownBy w32 (some yr) := (by rw [hw]; exact Ji.2); have hp_ : Kd.R (Kd.int .i64) 3 w32 w.heap.size (fun _ => True) (.slice (some ⟨yr, 0, none⟩) km.length bB) y172 := (by rw [hw, Jf.out]; exact Ji.1); clear Ji; replace aC := Az (hp_); replace HB := Az ((by rw [hw]; exact ai (HB.out) Ts.out : Below w.heap.size w w32)); clear hg hw hp_)))
        go_roundg k3
        case measure => exact mO
        case rel => exact ⟨(y172), (true), (wrap64 (df + 1)), rS, rS, H', ⟨mO⟩, ⟨rU aC.out⟩, ⟨bU0 HB.out⟩⟩
      ·
       have H' := Az H; clear H; go_wp2
       repeat (go_quiet (fail); try go_wp2)
       go_roundg k3
       case measure => exact mO
       case rel => exact ⟨(km), (Aq), (wrap64 (fM + 1)), rS, rS, H', ⟨mO⟩, ⟨rU aC.out⟩, ⟨bU0 HB.out⟩⟩
    ·
     rw [if_neg c6] at H; have iK := decide_eq_false c6; clear c6; have H' := Az H; clear H; go_wp2
     repeat (go_quiet (fail); try go_wp2)
     go_roundg k2
     case measure => exact mO
     case rel => exact ⟨(oP), (eV), rS, H', ⟨mO⟩, ⟨rU aC.out⟩, ⟨bU0 HB.out⟩⟩
  ·
   replace c5 := Bool.eq_false_iff.mpr c5; subst c5; rw [if_neg nT] at H; obtain rfl := Option.some.inj H; go_wp2
   repeat (go_quiet (fail); try go_wp2)
   go_ret; exact ⟨_, rE, rU aC.out, bU0 HB.out⟩
mutual
def dN.j0 : Nat → Bool → List Int → List Int → Option (Bool)
 | 0, _, _, _ => none
 | k + 1, yn, bL, bJ => if yn = true then (some false) else (dN.l0 k bJ (bJ.length : Int) 0 bL bJ)
def dN.l0 : Nat → List Int → Int → Int → List Int → List Int → Option (Bool)
 | 0, _, _, _, _, _ => none
 | k + 1, x25, x26, x27, bL, bJ => if x27 < x26 then (if 0 ≤ x27 then (if x27 < (x25.length : Int) then (if (rd x25 x27) = x27 then (some false) else (if 0 ≤ (rd x25 x27) then (if (rd x25 x27) < (bJ.length : Int) then (if (rd bJ (rd x25 x27)) = x27 then (dN.l0 k x25 x26 (wrap64 (x27 + 1)) bL bJ) else (some false)) else (none)) else (none))) else (none)) else (none)) else ((eU.f k (([bL, bJ] : List (List Int)))).bind fun As => ((mf.f k As).bind fun Jj => (some (Jj == 0))))
end
def dN.f (k : Nat) (ag : List Int) (af : List Int) : Option (Bool) := (iI.f k ag).bind fun Jk => (if Jk = true then ((iI.f k af).bind fun t175 => (if t175 = true then (dN.j0 k ((ag.length : Int) != (af.length : Int)) ag af) else (dN.j0 k true ag af))) else (dN.j0 k true ag af))
set_option maxHeartbeats 8000000 in
set_option maxRecDepth 100000 in
theorem dN.calls (k : Nat) (nc : Nat → Prop) (aA : Option Addr) (az : Nat) (ag : List Int) (nf : Nat → Prop) (am : Option Addr) (al : Nat) (af : List Int) (r : Bool) (w : World) (abx : Kd.V (Kd.int .i64) 3 w w.heap.size (fun k_ => nc k_) (.slice aA ag.length az) ag) (aby : Kd.V (Kd.int .i64) 3 w w.heap.size (fun k_ => nf k_) (.slice am af.length al) af) (h : dN.f k ag af = some r) :
  Calls Try.prog 66 #[.agg #[.slice aA ag.length az, .slice am af.length al]] w fun e w' => e = .returned (.bool r) ∧ Below w.heap.size w w' := by
 have jZ := Try.underlying29; have kn := Az (show Kd.V (Kd.int .i64) 3 w w.heap.size (fun k_ => ((nc k_ ∨ nf k_) ∨ w.heap.size ≤ k_)) (.slice aA ag.length az) ag from Kd.xD abx (fun k_ hk => .inl (.inl hk))); have kV := Az (show Kd.V (Kd.int .i64) 3 w w.heap.size (fun k_ => ((nc k_ ∨ nf k_) ∨ w.heap.size ≤ k_)) (.slice am af.length al) af from Kd.xD aby (fun k_ hk => .inl (.inr hk))); have HB := bZ w; have H := h; clear h; unfold dN.f at H; have ww := Az H; clear H; go_enter Try.func66, Try.ntmps66
 go_upto_region 1 with (first | ((with_reducible refine gd 1 rfl ?_); (refine jf (by rfl) ?_; dsimp only); refine bE 1 #[.slice aA ag.length az, .slice am af.length al] 29 ?_; intro l5 hg w3 hbox hb; replace kn := Az (Kd.GU (Kd.Oa (vU kn.out) l5 (Nat.le_of_eq hg.symm)) hb); replace kV := Az (Kd.GU (Kd.Oa (vU kV.out) l5 (Nat.le_of_eq hg.symm)) hb); have fK := Az (hbox); have nW := gW hg (bU0 HB.out); replace HB := Az (au (bU0 HB.out) hb); clear hb hbox hg))
 go_cut [23] (fun v23 wc => ∃ (kq : Nat) (DR : Bool), v23 = .bool DR ∧ ae (dN.j0 kq DR ag af = some r) ∧ ae (kq ≤ k) ∧ ae (Kd.V (Kd.int .i64) 3 wc w.heap.size (fun k_ => ((nc k_ ∨ nf k_) ∨ w.heap.size ≤ k_) ∧ k_ ≠ l5) (.slice aA ag.length az) ag) ∧ ae (Kd.V (Kd.int .i64) 3 wc w.heap.size (fun k_ => ((nc k_ ∨ nf k_) ∨ w.heap.size ≤ k_) ∧ k_ ≠ l5) (.slice am af.length al) af) ∧ ae (wc.heap[l5]? = some (.cells #[(.slice aA ag.length az), (.slice am af.length al)] 29 (0, 0))) ∧ ae (Below w.heap.size w wc))
 case first =>
  have H := ww.out; clear ww; replace H := bd H; obtain ⟨Jk, A4, H⟩ := H
  by_cases c5 : Jk = true
  ·
   subst c5; rw [if_pos rfl] at H; replace H := bd H; obtain ⟨t175, A6, H⟩ := H
   by_cases c7 : t175 = true
   ·
    subst c7; rw [if_pos rfl] at H; have H' := Az H; clear H; have um := bc2 fK.out
    go_wp2_with (first | ((with_reducible refine gK 105 rfl ?_); refine gC (some 7) Try.func105 #[.slice aA ag.length az] ?_; (with_reducible refine (iI.calls k _ _ ag true _ ?_ ?_ A4.out).mono ?_); exact cU ((Kd.lR kn.out).2.2); exact (Kd.lR kn.out).2.1; rintro e w9 ⟨rfl, hb⟩; refine ⟨_, rfl, ?_⟩; replace kn := vB kn.out hb; replace kV := vB kV.out hb; replace fK := kB fK.out hb; replace HB := Az tW; clear hb; have DT := bc2 fK.out) | (go_at_call 105; (with_reducible refine (iI.calls k _ _ af true _ ?_ ?_ A6.out).mono ?_); exact cU ((Kd.lR kV.out).2.2); exact (Kd.lR kV.out).2.1; rintro e qt ⟨rfl, hb⟩; replace kn := vB kn.out hb; replace kV := vB kV.out hb; replace fK := kB fK.out hb; replace HB := Az tW; clear hb; have Au := bc2 fK.out))
    go_meet
    case rel => exact ⟨_, (((ag.length : Int) != (af.length : Int))), rS, H', ⟨mO⟩, ⟨vU kn.out⟩, ⟨vU kV.out⟩, ⟨kU fK.out⟩, ⟨bU1 HB.out nW.out⟩⟩
   ·
    replace c7 := Bool.eq_false_iff.mpr c7; subst c7; rw [if_neg nT] at H; have H' := Az H; clear H; have Av := bc2 fK.out
    go_wp2_with (first | ((with_reducible refine gK 105 rfl ?_); refine gC (some 7) Try.func105 #[.slice aA ag.length az] ?_; (with_reducible refine (iI.calls k _ _ ag true _ ?_ ?_ A4.out).mono ?_); exact cU ((Kd.lR kn.out).2.2); exact (Kd.lR kn.out).2.1; rintro e DU ⟨rfl, hb⟩; refine ⟨_, rfl, ?_⟩; replace kn := vB kn.out hb; replace kV := vB kV.out hb; replace fK := kB fK.out hb; replace HB := Az tW; clear hb; have DV := bc2 fK.out) | (go_at_call 105; (with_reducible refine (iI.calls k _ _ af false _ ?_ ?_ A6.out).mono ?_); exact cU ((Kd.lR kV.out).2.2); exact (Kd.lR kV.out).2.1; rintro e w16 ⟨rfl, hb⟩; replace kn := vB kn.out hb; replace kV := vB kV.out hb; replace fK := kB fK.out hb; replace HB := Az tW; clear hb))
    go_meet
    case rel => exact ⟨_, (true), rS, H', ⟨mO⟩, ⟨vU kn.out⟩, ⟨vU kV.out⟩, ⟨kU fK.out⟩, ⟨bU1 HB.out nW.out⟩⟩
  ·
   replace c5 := Bool.eq_false_iff.mpr c5; subst c5; rw [if_neg nT] at H; have H' := Az H; clear H; have Jl := bc2 fK.out
   go_wp2_with (first | ((with_reducible refine gK 105 rfl ?_); refine gC (some 7) Try.func105 #[.slice aA ag.length az] ?_; (with_reducible refine (iI.calls k _ _ ag false _ ?_ ?_ A4.out).mono ?_); exact cU ((Kd.lR kn.out).2.2); exact (Kd.lR kn.out).2.1; rintro e sx ⟨rfl, hb⟩; refine ⟨_, rfl, ?_⟩; replace kn := vB kn.out hb; replace kV := vB kV.out hb; replace fK := kB fK.out hb; replace HB := Az tW; clear hb))
   go_meet
   case rel => exact ⟨_, (true), rS, H', ⟨mO⟩, ⟨vU kn.out⟩, ⟨vU kV.out⟩, ⟨kU fK.out⟩, ⟨bU1 HB.out nW.out⟩⟩
 case rest =>
  clear ww; obtain ⟨kq, DR, rfl, HA, Aw, aW, ap, fK, HB⟩ := hcut
  rcases kq with _ | uo
  exact (nN HA.out).elim; have H := HA.out; clear HA; simp only [dN.j0] at H
  by_cases c19 : DR = true
  · subst c19; rw [if_pos rfl] at H; obtain rfl := Option.some.inj H; go_wp2; go_ret; exact ⟨rE, bU1 HB.out nW.out⟩
  ·
   replace c19 := Bool.eq_false_iff.mpr c19; subst c19; rw [if_neg nT] at H; have H' := Az H; clear H; have Jm := bc2 fK.out; go_wp2
   go_loopg [27] uo (fun kq v27 w' => ∃ (sC : Int), v27 = .int .i64 sC ∧ ae (dN.l0 kq af (af.length : Int) sC ag af = some r) ∧ ae (kq ≤ uo) ∧ ae (Kd.V (Kd.int .i64) 3 w' w.heap.size (fun k_ => ((nc k_ ∨ nf k_) ∨ w.heap.size ≤ k_) ∧ k_ ≠ l5) (.slice am af.length al) af) ∧ ae (Kd.V (Kd.int .i64) 3 w' w.heap.size (fun k_ => ((nc k_ ∨ nf k_) ∨ w.heap.size ≤ k_) ∧ k_ ≠ l5) (.slice aA ag.length az) ag) ∧ ae (Kd.V (Kd.int .i64) 3 w' w.heap.size (fun k_ => ((nc k_ ∨ nf k_) ∨ w.heap.size ≤ k_) ∧ k_ ≠ l5) (.slice am af.length al) af) ∧ ae (w'.heap[l5]? = some (.cells #[(.slice aA ag.length az), (.slice am af.length al)] 29 (0, 0))) ∧ ae (Below w.heap.size w w'))
   case atStart => exact ⟨(0), rS, H', ⟨Nat.le_refl _⟩, ⟨vU ap.out⟩, ⟨vU aW.out⟩, ⟨vU ap.out⟩, ⟨kU fK.out⟩, ⟨bU1 HB.out nW.out⟩⟩
   case round =>
    clear H'; obtain ⟨sC, rfl, HA, fp, rh, aW, ap, fK, HB⟩ := hrel
    rcases gk with _ | k2
    exact (nN HA.out).elim; have H := HA.out; clear HA; simp only [dN.l0] at H
    replace H := gB H; rcases H with ⟨Jn, H⟩ | ⟨Jn, H⟩
    ·
     replace H := gD2 H; obtain ⟨Ax, Jo, H⟩ := H
     replace H := gQ H; rcases H with ⟨DD, Tt, H⟩ | ⟨DD, Tt, H⟩
     ·
      obtain rfl := Option.some.inj H; obtain ⟨Tu, AA, Tv, Tw, Tx⟩ := aI (Kd.lR rh.out).2.2 sC
      cases AA; go_wp2; go_ret; exact ⟨rE, bU1 HB.out nW.out⟩
     ·
      replace H := gD2 H; obtain ⟨Jp, Ty, H⟩ := H
      replace H := gQ H; rcases H with ⟨DW, abz, H⟩ | ⟨DW, abz, H⟩
      ·
       have H' := Az H; clear H; obtain ⟨Tu, AA, Tv, Tw, Tx⟩ := aI (Kd.lR rh.out).2.2 sC
       cases AA; have abA := bc2 fK.out; obtain ⟨abB, abC, abD⟩ := aJ (Kd.lR ap.out).2.2 (rd af sC); go_wp2; go_roundg k2
       case measure => have := Aw.out; have := fp.out; omega
       case rel => exact ⟨(wrap64 (sC + 1)), rS, H', ⟨by have := Aw.out; have := fp.out; omega⟩, ⟨vU rh.out⟩, ⟨vU aW.out⟩, ⟨vU ap.out⟩, ⟨kU fK.out⟩, ⟨bU1 HB.out nW.out⟩⟩
      ·
       obtain rfl := Option.some.inj H; obtain ⟨Tu, AA, Tv, Tw, Tx⟩ := aI (Kd.lR rh.out).2.2 sC
       cases AA; have Tz := bc2 fK.out; obtain ⟨abB, abC, abD⟩ := aJ (Kd.lR ap.out).2.2 (rd af sC); go_wp2; go_ret; exact ⟨rE, bU1 HB.out nW.out⟩
    ·
     generalize DX : (([ag, af] : List (List Int)) : List (List Int)) = y178 at H; replace DX := Ay DX; replace H := bd H; obtain ⟨As, A30, H⟩ := H; replace H := bd H; obtain ⟨Jj, AB, H⟩ := H; obtain rfl := Option.some.inj H; have hz32 := bc2 fK.out
     go_wp2_with (first | ((with_reducible refine gd 49 rfl ?_); (refine jf (by rfl) ?_; dsimp only); refine Kd.Y0 (Kd.slice 3 (Kd.int .i64)) _ 23 ?hg (N' := 49) ?hd (xs := ([ag, af] : List (List Int))) (inner := [.slice aA ag.length az, .slice am af.length al]) (ok := (fun k_ => ((nc k_ ∨ nf k_) ∨ w.heap.size ≤ k_) ∧ k_ ≠ l5)) (okp := (fun k_ => ((nc k_ ∨ nf k_) ∨ w.heap.size ≤ k_) ∧ k_ ≠ l5)) ?hr ?hp (fun _ hk => hk) ((show ∀ k_, wr.heap.size ≤ k_ → (fun k_ => ((nc k_ ∨ nf k_) ∨ w.heap.size ≤ k_) ∧ k_ ≠ l5) k_ from fun k_ hk => ⟨(.inr (Nat.le_trans (be (bU1 HB.out nW.out)) hk)), Kd.RS (g := l5) (o := .cells #[.slice aA ag.length az, .slice am af.length al] 29 (0, 0)) (kU fK.out) k_ hk⟩) _ (Nat.le_refl _)) (Below.refl _ _) (Nat.le_refl _) (by simp) ?_; (case hd => rfl); (case hg => rfl); (case hr => first | (go_simp; done) | (go_simp; rfl)); (case hp => exact (Reps.one (show Kd.FK (Kd.slice 3 (Kd.int .i64)) _ _ ag [.slice aA ag.length az] from (Kd.Oi (Kd.lR (Kd.xD (ok' := (fun k_ => ((nc k_ ∨ nf k_) ∨ w.heap.size ≤ k_) ∧ k_ ≠ l5)) (aW.out) (fun k_ hk => ⟨hk.1, hk.2⟩))).2.1 (Kd.V_F (Kd.xD (ok' := (fun k_ => ((nc k_ ∨ nf k_) ∨ w.heap.size ≤ k_) ∧ k_ ≠ l5)) (aW.out) (fun k_ hk => ⟨hk.1, hk.2⟩))))) (Reps.one (show Kd.FK (Kd.slice 3 (Kd.int .i64)) _ _ af [.slice am af.length al] from (Kd.Oi (Kd.lR (Kd.xD (ok' := (fun k_ => ((nc k_ ∨ nf k_) ∨ w.heap.size ≤ k_) ∧ k_ ≠ l5)) (ap.out) (fun k_ hk => ⟨hk.1, hk.2⟩))).2.1 (Kd.V_F (Kd.xD (ok' := (fun k_ => ((nc k_ ∨ nf k_) ∨ w.heap.size ≤ k_) ∧ k_ ≠ l5)) (ap.out) (fun k_ hk => ⟨hk.1, hk.2⟩))))) (Reps.none _ _)))); intro ako Jq lw hb hg_ hnew_; clear hg_ hnew_; (first | rw [← DX.out] at lw | (simp only [Int.reduceToNat] at lw; rw [← DX.out] at lw)); replace rh := Az (Kd.xE (vU rh.out) G4 hb); replace aW := Az (Kd.xE (vU aW.out) G4 hb); replace ap := Az (Kd.xE (vU ap.out) G4 hb); have wx := Az (Kd.YH lw (be (bU1 HB.out nW.out))); replace fK := kB fK.out hb; replace HB := Az tW; clear hb lw; obtain ⟨abF, abG, abH⟩ := Kd.Zk wx.out; subst abH) | ((with_reducible refine gK 107 rfl ?_); refine gC (some 50) Try.func107 #[.slice abF y178.length abG] ?_; (with_reducible refine (eU.calls k2 _ _ y178 As _ ?_ ?_ A30.out).mono ?_); exact cU ((Kd.P3 wx.out).2.2); exact (Kd.P3 wx.out).2.1; rintro e w36 ⟨v182, rfl, ho0, hb⟩; refine ⟨_, rfl, ?_⟩; replace rh := Az (Kd.xE (vU rh.out) (Kd.ax ho0) hb); replace aW := Az (Kd.xE (vU aW.out) (Kd.ax ho0) hb); replace ap := Az (Kd.xE (vU ap.out) (Kd.ax ho0) hb); replace wx := Az (Kd.X9 (nU wx.out) (Kd.ax ho0) hb); have AC := Az (Kd.bu (Kd.YA (M := fun k_ => (w.heap.size ≤ k_)) ho0 (be (bU1 HB.out nW.out)) (fun k_ h_ => h_)) (be (bU1 HB.out nW.out))); replace fK := kB fK.out hb; replace HB := Az tW; clear hb ho0; obtain ⟨abJ, abK, abL⟩ := Kd.aU AC.out; subst abL) | ((with_reducible refine gK 106 rfl ?_); refine gC (some 51) Try.func106 #[.slice abJ As.length abK] ?_; (with_reducible refine (mf.calls k2 _ _ As Jj _ ?_ ?_ AB.out).mono ?_); exact cU ((Kd.av AC.out).2.2); exact (Kd.av AC.out).2.1; rintro e w38 ⟨rfl, hb⟩; refine ⟨_, rfl, ?_⟩; replace rh := vB rh.out hb; replace aW := vB aW.out hb; replace ap := vB ap.out hb; replace wx := nB wx.out hb; replace AC := rB AC.out hb; replace fK := kB fK.out hb; replace HB := Az tW; clear hb))
     go_ret; exact ⟨rE, bU1 HB.out nW.out⟩
def cmp_isNaN_int.f (a0 : Int) : Option (Bool) := some (a0 != a0)
def laysSort_ren : Go.Shelf.Ren := ⟨fun | 189 => 123 | 125 => 130 | 257 => 129 | 128 => 141 | 129 => 142 | 294 => 132 | 295 => 133 | 296 => 134 | 297 => 135 | 298 => 136 | 299 => 137 | 216 => 138 | 300 => 139 | 301 => 140 | 328 => 143 | 329 => 144 | 330 => 145 | 331 => 146 | 332 => 147 | 215 => 131 | 343 => 148 | n => n, fun | 28 => 23 | 3 => 3 | 46 => 115 | 0 => 0 | 51 => 127 | 53 => 129 | 4 => 4 | 183 => 119 | 182 => 118 | 131 => 124 | 5 => 5 | 9 => 9 | 218 => 130 | 222 => 134 | 228 => 136 | 229 => 137 | n => n, fun | n => n⟩
theorem laysSort : Lays.n189 Try.prog laysSort_ren := { mixed := by kernel_rfl, f125 := Try.func130.trans (congrArg some (by kernel_rfl)), f128 := Try.func141.trans (congrArg some (by kernel_rfl)), f129 := Try.func142.trans (congrArg some (by kernel_rfl)), f189 := Try.func123.trans (congrArg some (by kernel_rfl)), f215 := Try.func131.trans (congrArg some (by kernel_rfl)), f216 := Try.func138.trans (congrArg some (by kernel_rfl)), f257 := Try.func129.trans (congrArg some (by kernel_rfl)), f294 := Try.func132.trans (congrArg some (by kernel_rfl)), f295 := Try.func133.trans (congrArg some (by kernel_rfl)), f296 := Try.func134.trans (congrArg some (by kernel_rfl)), f297 := Try.func135.trans (congrArg some (by kernel_rfl)), f298 := Try.func136.trans (congrArg some (by kernel_rfl)), f299 := Try.func137.trans (congrArg some (by kernel_rfl)), f300 := Try.func139.trans (congrArg some (by kernel_rfl)), f301 := Try.func140.trans (congrArg some (by kernel_rfl)), f328 := Try.func143.trans (congrArg some (by kernel_rfl)), f329 := Try.func144.trans (congrArg some (by kernel_rfl)), f330 := Try.func145.trans (congrArg some (by kernel_rfl)), f331 := Try.func146.trans (congrArg some (by kernel_rfl)), f332 := Try.func147.trans (congrArg some (by kernel_rfl)), f343 := Try.func148.trans (congrArg some (by kernel_rfl)), t0 := Try.underlying0, a0 := Try.isAgg0, z0 := Try.sizeOf0, v0 := Try.zeroValue0, t3 := Try.underlying3, a3 := Try.isAgg3, z3 := Try.sizeOf3, v3 := Try.zeroValue3, t4 := Try.underlying4, a4 := Try.isAgg4, z4 := Try.sizeOf4, v4 := Try.zeroValue4, t5 := Try.underlying5, a5 := Try.isAgg5, z5 := Try.sizeOf5, v5 := Try.zeroValue5, t9 := Try.underlying9, a9 := Try.isAgg9, z9 := Try.sizeOf9, v9 := Try.zeroValue9, t28 := Try.underlying23, a28 := Try.isAgg23, z28 := Try.sizeOf23, v28 := Try.zeroValue23, t46 := Try.underlying115, a46 := Try.isAgg115, z46 := Try.sizeOf115, v46 := Try.zeroValue115, t51 := Try.underlying127, a51 := Try.isAgg127, z51 := Try.sizeOf127, v51 := Try.zeroValue127, t53 := Try.underlying129, a53 := Try.isAgg129, z53 := Try.sizeOf129, v53 := Try.zeroValue129, t131 := Try.underlying124, a131 := Try.isAgg124, z131 := Try.sizeOf124, v131 := Try.zeroValue124, t182 := Try.underlying118, a182 := Try.isAgg118, z182 := Try.sizeOf118, v182 := Try.zeroValue118, t183 := Try.underlying119, a183 := Try.isAgg119, z183 := Try.sizeOf119, v183 := Try.zeroValue119, t218 := Try.underlying130, a218 := Try.isAgg130, z218 := Try.sizeOf130, v218 := Try.zeroValue130, t222 := Try.underlying134, a222 := Try.isAgg134, z222 := Try.sizeOf134, v222 := Try.zeroValue134, t228 := Try.underlying136, a228 := Try.isAgg136, z228 := Try.sizeOf136, v228 := Try.zeroValue136, t229 := Try.underlying137, a229 := Try.isAgg137, z229 := Try.sizeOf137, v229 := Try.zeroValue137 }
def rX.f (l0 : List Int) : Option (List Int) := if 0 < l0.length ∧ l0.length < 4611686018427387904 then some (l0.mergeSort fun x y => decide (x ≤ y)) else none
theorem rX.calls (jB : Nat → Prop) (ob : Value) (l0 : List Int) (r : List Int) (w0 w : World) (hB : Below w0.heap.size w0 w) (ho0 : Kd.R (Kd.int .i64) 3 w w0.heap.size jB ob l0) (h : rX.f l0 = some r) :
  Calls Try.prog 123 #[ob] w fun e w' => e = .returned (.tuple #[]) ∧ Kd.R (Kd.int .i64) 3 w' w0.heap.size (fun k_ => (jB k_ ∨ w.heap.size ≤ k_)) ob r ∧ Below w0.heap.size w0 w' ∧ Kept w w' (fun k_ => jB k_) := by
 unfold rX.f at h
 split at h
 ·
  rename_i hn
  obtain rfl := Option.some.inj h; have ow := Kd.HC ho0; obtain ⟨hlen, ⟨_, h0⟩ | ⟨g, cap, cur, hv, hbase, hb, h1, h2, h3, h4⟩⟩ := ow
  · omega
  subst hv; have hg : g < w.heap.size := (Array.getElem?_eq_some_iff.1 hb).1; have hP : jB g := ho0.1 g rfl; have hH := holds_of_blockI (ss := l0) hb (by rw [← Nat.mul_one l0.length, h4]; rfl); refine (Any.slices_Sort_int laysSort g 0 cap l0 w hH hg hn.2).mono ?_; rintro e w' ⟨rfl, n, os, rfl⟩; have hgr := grownBy_sortedI (w := w) (g := g) (n := n) (os := os) (l0.mergeSort fun x y => decide (x ≤ y)).toArray; have hl : (l0.mergeSort fun x y => decide (x ≤ y)).length = l0.length := List.length_mergeSort _; have own := ownsRow_sortedI (n := n) (os := os) (ts := l0.mergeSort fun x y => decide (x ≤ y)) hl hbase hb h1 h2 (by rw [h3]); refine ⟨rfl, ?_, ?_, ?_⟩
  ·
   refine Kd.PN ?_ (fun k hk => .inl ?_)
   · rw [hl]; exact own
   · have : g = k := Option.some.inj hk; rw [← this]; exact hP
  · exact hB.grown hgr (by have := hB.size; omega) (fun k hk => by have := Option.some.inj hk; omega)
  · exact Kept.qj hgr (Kept.refl w _) (fun k hk => .inl (by have := Option.some.inj hk; rw [← this]; exact hP))
 · cases h
def gq.l0 : Nat → List Int → Int → Int → Option (List Int)
 | 0, _, _, _ => none
 | k + 1, x0, x2, x3 => if x2 < x3 then (if 0 ≤ x3 then (if x3 < (x0.length : Int) then (if 0 ≤ x2 then (if x2 < (x0.length : Int) then (gq.l0 k ((x0.set (x2 : Int).toNat (rd x0 x3)).set (x3 : Int).toNat (rd x0 x2)) (wrap64 (x2 + 1)) (wrap64 (x3 - 1))) else (none)) else (none)) else (none)) else (none)) else (some x0)
def gq.f (k : Nat) (l0 : List Int) : Option (List Int) := gq.l0 k l0 0 (wrap64 ((l0.length : Int) - 1))
def gq.T3 : Bool × List (List Nat × List Nat) := (true, [([], []), ([], []), ([], []), ([], []), ([], []), ([], []), ([4, 5], [4, 5]), ([6], [6]), ([], []), ([], []), ([8, 9], [8, 9]), ([10], [10]), ([0, 1, 0, 1, 4, 5, 6, 7, 11], [0, 1]), ([12, 7, 0, 1, 4, 5, 6, 7, 11], [7, 12]), ([2, 3, 0, 1, 2, 3, 4, 5, 6, 7, 8, 9, 10, 11, 12, 13], [2, 3]), ([14, 11, 13, 0, 1, 2, 3, 4, 5, 6, 7, 8, 9, 10, 11, 12, 13], [11, 14])])
def gq.B3 : List Nat := [0, 0, 0, 0, 0, 0, 48, 112, 0, 0, 768, 1792, 4083, 8179, 16383, 32767]
theorem gq.zw : rtab .any (opsOf Try.f124 3) = gq.T3 := by kernel_rfl
theorem gq.zN : ir gq.T3.2 gq.B3 = true := by kernel_rfl
set_option maxHeartbeats 8000000 in
set_option maxRecDepth 100000 in
theorem gq.calls (k : Nat) (jB : Nat → Prop) (ob : Value) (l0 : List Int) (r : List Int) (w0 w : World) (hB : Below w0.heap.size w0 w) (ho0 : Kd.R (Kd.int .i64) 3 w w0.heap.size jB ob l0) (h : gq.f k l0 = some r) :
  Calls Try.prog 124 #[ob] w fun e w' => e = .returned (.tuple #[]) ∧ Kd.R (Kd.int .i64) 3 w' w0.heap.size (fun k_ => (jB k_ ∨ w.heap.size ≤ k_)) ob r ∧ Below w0.heap.size w0 w' ∧ Kept w w' (fun k_ => jB k_) := by
 have DY := Az (show Kd.R (Kd.int .i64) 3 w w0.heap.size (fun k_ => (jB k_ ∨ w.heap.size ≤ k_)) ob l0 from Kd.ah ho0 (fun k_ hk => (.inl hk))); have HK := Az (Kept.refl w (fun k_ => jB k_)); have HW0 := Az hB.size; have HB := Az hB; clear hB; have H := h; clear h; unfold gq.f at H; have H' := Az H; clear H; obtain ⟨Ao2, co2, eo2⟩ := Kd.aU DY.out; subst eo2; go_enter Try.func124, Try.ntmps124; go_wp2
 go_loopg [2, 3] k (fun kq v2 v3 w' => ∃ (lz : List Int) (oc : Int) (aD : Int), v2 = .int .i64 oc ∧ v3 = .int .i64 aD ∧ ae (gq.l0 kq lz oc aD = some r) ∧ ae (kq ≤ k) ∧ ae (Kd.R (Kd.int .i64) 3 w' w0.heap.size (fun k_ => (jB k_ ∨ w.heap.size ≤ k_)) (.slice Ao2 l0.length co2) lz) ∧ ae (Kept w w' (fun k_ => jB k_)) ∧ ae (Below w0.heap.size w0 w'))
 case atStart => exact ⟨(l0), (0), (wrap64 ((l0.length : Int) - 1)), rS, rS, H', ⟨Nat.le_refl _⟩, ⟨rU DY.out⟩, ⟨qr_⟩, ⟨bU0 HB.out⟩⟩
 case round =>
  clear H'; obtain ⟨lz, oc, aD, rfl, rfl, HA, eO, jC, HK, HB⟩ := hrel; have AD := (Kd.av jC.out).1; rw [AD] at jC; simp only [AD]
  rcases gk with _ | k1
  exact (nN HA.out).elim; have H := HA.out; clear HA; simp only [gq.l0] at H
  replace H := gB H; rcases H with ⟨ly, H⟩ | ⟨ly, H⟩
  ·
   replace H := gD1 H; obtain ⟨kR, H⟩ := H; replace H := gP H; obtain ⟨c5, H⟩ := H; have nZ := decide_eq_true c5; clear c5; replace H := gD1 H; obtain ⟨iK, H⟩ := H; replace H := gP H; obtain ⟨c7, H⟩ := H; have iw := decide_eq_true c7; clear c7; generalize Jr : (lz.set (oc : Int).toNat (rd lz aD) : List Int) = y309 at H; replace Jr := Ay Jr; generalize Js : (y309.set (aD : Int).toNat (rd lz oc) : List Int) = y310 at H; replace Js := Ay Js; have H' := Az H; clear H
   try go_wp2
   have dJ := Az (Kd.ci jC.out); have dK := Az (Kept.drew HK.out); have fB := Az (aX HB.out); clear jC HK HB; have jC := dJ; have HK := dK; have HB := fB; clear dJ dK fB; obtain ⟨akp, e307, _, _, Jt⟩ := aI (Kd.av jC.out).2.2 aD
   cases e307; obtain ⟨_, _, Ju⟩ := aJ (Kd.av jC.out).2.2 oc; have p8 : 0 ≤ (oc : Int) := oA; have q8 : (oc : Int) < ((lz.length : Int) : Int) := oA; obtain ⟨DZ, Am, q7, TA, gl8, cl8, TB⟩ := Kd.ky jC.out (by omega); (first | cases q7 | (injection q7 with ea_ en_ ec_; (first | subst ea_ | (injection ea_ with ea_; subst ea_)); subst ec_; clear en_)); have TC := Az TA; have GG8 := Az TB; clear TA gl8 TB; have TD := Az (show (jB DZ ∨ w.heap.size ≤ DZ) from (jC.out.1 _ rfl)); simp only [add_plain] at Jt; simp only [add_plain] at Ju; obtain ⟨abS, abT⟩ := Kd.dw 0 jC.out (oc : Int) p8 q8; replace p8 := eq_true p8; replace q8 := eq_true q8; have qu := Kd.r8 jC.out (oc : Int) (rd lz aD); rw [← Jr.out] at qu; have Jv := Az qu; clear qu; have p9 : 0 ≤ (aD : Int) := oA; have q9 : (aD : Int) < ((lz.length : Int) : Int) := oA; obtain ⟨abU, abV⟩ := Kd.dw 0 Jv.out (aD : Int) p9 q9; replace p9 := eq_true p9; replace q9 := eq_true q9; have wy := Kd.r8 Jv.out (aD : Int) (rd lz oc); rw [← Js.out] at wy; have TE := Az wy; clear wy; refine fX (n := 16) (S := fun w' => w'.cell? ⟨DZ, (aD).toNat, none⟩ = some (.int .i64 (rd lz aD)) ∧ w'.cell? ⟨DZ, (oc).toNat, none⟩ = some (.int .i64 (rd lz oc))) (ds := [13, 15]) (bv 16 0) (by kernel_rfl) rfl rfl ⟨Jt, Ju⟩ (fun hHeld => ?_); refine gn gq.zw gq.zN (fun HT_ HW_ => ?_); generalize wr.drew = qv at jC HK HB GG8 Jv TE abT abV Jt Ju abS abU hHeld ⊢; refine ak (i := 0) (N := some 14) (v := ?_) (a' := ?_) (bv 16 1) rfl rfl (aj HT_.out (by kernel_rfl)) (fun _ _ _ h => h) (Or.inl ⟨by rfl, ?_⟩) ?_ ?_; rotate_left; (exact yP); rotate_left; (exact aP); refine ak (i := 1) (N := some 15) (v := ?_) (a' := ?_) (bv 16 3) rfl rfl (aj HT_.out (by kernel_rfl)) (fun _ _ _ h => h) (Or.inl ⟨by rfl, ?_⟩) ?_ ?_; rotate_left; (exact yP); rotate_left; (exact aP); refine ak (i := 2) (N := some 16) (v := ?_) (a' := ?_) (bv 16 7) rfl rfl (aj HT_.out (by kernel_rfl)) (fun _ _ _ h => h) (Or.inl ⟨by rfl, ?_⟩) ?_ ?_; rotate_left; (exact yP); rotate_left; (exact aP); refine ak (i := 3) (N := some 17) (v := ?_) (a' := ?_) (bv 16 15) rfl rfl (aj HT_.out (by kernel_rfl)) (fun _ _ _ h => h) (Or.inl ⟨by rfl, ?_⟩) ?_ ?_; rotate_left; (exact yP); rotate_left; (exact aP); refine ak (i := 4) (N := some 18) (v := ?_) (a' := ?_) (bv 16 31) rfl rfl (aj HT_.out (by kernel_rfl)) (fun _ _ _ h => h) (Or.inl ⟨by rfl, ?_⟩) ?_ ?_; rotate_left; (exact yP); rotate_left; (exact aP); refine ak (i := 5) (N := some 19) (v := ?_) (a' := ?_) (bv 16 63) rfl rfl (aj HT_.out (by kernel_rfl)) (fun _ _ _ h => h) (Or.inl ⟨by rfl, ?_⟩) ?_ ?_; rotate_left; (exact yP); rotate_left; (exact aP); refine ak (i := 6) (N := some 20) (v := ?_) (a' := ?_) (bv 16 127) rfl rfl (aj HT_.out (by kernel_rfl)) (fun _ _ _ h => h) (Or.inl ⟨by rfl, ?_⟩) ?_ ?_; rotate_left; (exact yP); rotate_left; (exact aP); refine ak (i := 8) (N := some 22) (v := ?_) (a' := ?_) (bv 16 383) rfl rfl (aj HT_.out (by kernel_rfl)) (fun _ _ _ h => h) (Or.inl ⟨by rfl, ?_⟩) ?_ ?_; rotate_left; (exact yP); rotate_left; (exact aP); refine ak (i := 9) (N := some 23) (v := ?_) (a' := ?_) (bv 16 895) rfl rfl (aj HT_.out (by kernel_rfl)) (fun _ _ _ h => h) (Or.inl ⟨by rfl, ?_⟩) ?_ ?_; rotate_left; (exact yP); rotate_left; (exact aP); refine ak (i := 10) (N := some 24) (v := ?_) (a' := ?_) (bv 16 1919) rfl rfl (aj HT_.out (by kernel_rfl)) (fun _ _ _ h => h) (Or.inl ⟨by rfl, ?_⟩) ?_ ?_; rotate_left; (exact yP); rotate_left; (exact aP); refine dh (i := 7) (N := some 21) (v := ?_) (a' := ?_) (bv 16 2047) rfl rfl (dc HT_.out HW_.out (by kernel_rfl)) (fun _ _ _ h => h) (Or.inl ⟨by rfl, ?_⟩) hHeld ?_ ?_; rotate_left
   ·
    rintro w' ⟨s0, s1⟩; go_simp
    with_reducible rfl
   rotate_left; (exact aP); refine dh (i := 11) (N := some 25) (v := ?_) (a' := ?_) (bv 16 4095) rfl rfl (dc HT_.out HW_.out (by kernel_rfl)) (fun _ _ _ h => h) (Or.inl ⟨by rfl, ?_⟩) hHeld ?_ ?_; rotate_left
   ·
    rintro w' ⟨s0, s1⟩; go_simp
    with_reducible rfl
   rotate_left; (exact aP); refine ak (i := 12) (N := some 26) (v := ?_) (a' := ?_) (bv 16 8191) rfl rfl (aj HT_.out (by kernel_rfl)) (fun _ _ _ h => h) (Or.inl ⟨by rfl, ?_⟩) ?_ ?_; rotate_left; (exact yP); rotate_left; (exact aP); refine mS (i := 13) (N := none) (bv 16 16383) rfl rfl (dj HT_.out (by kernel_rfl)) (by decide) (fun K hK => ?_); refine lV (w1 := ?_) (by rfl) rfl ?_ ?_; rotate_left
   · go_simp; rfl
   refine hK.out _ _ ?_; clear hK K; refine ak (i := 14) (N := some 27) (v := ?_) (a' := ?_) (bv 16 32767) rfl rfl (aj HT_.out (by kernel_rfl)) (fun _ _ _ h => h) (Or.inl ⟨by rfl, ?_⟩) ?_ ?_; rotate_left; (exact yP); rotate_left; (exact aP); refine mS (i := 15) (N := none) (bv 16 65535) rfl rfl (dj HT_.out (by kernel_rfl)) (by decide) (fun K hK => ?_); refine lV (w1 := ?_) (by rfl) rfl ?_ ?_; rotate_left
   · go_simp; rfl
   refine hK.out _ _ ?_; clear hK K; refine fY (gp HT_.out (by kernel_rfl)) ?_
   try go_wp2
   simp only [← AD]; go_roundg k1
   case measure => exact mO
   case rel => exact ⟨(y310), (wrap64 (oc + 1)), (wrap64 (aD - 1)), rS, rS, H', ⟨mO⟩, ⟨by simp only [AD]; refine rA ?_; exact TE.out⟩, ⟨by repeat (first | (with_reducible first | exact HK.out | apply Kept.alloc | apply Kept.drewN | apply Kept.drew | refine Kept.setCell ?_ TD.out _ | refine Kept.setCell ?_ TD.out _) | exact HK.out)⟩, ⟨bU2 HB.out TC.out TC.out⟩⟩
  ·
   obtain rfl := Option.some.inj H; go_wp2
   first | go_end0 | ((try simp only [Exit.inBlock, Exit.then]); refine bodyPost_ret (results_none rfl _ _ _) rfl ?_)
   exact ⟨rE, (by first | exact (rU jC.out) | (simp only [AD]; exact (rU jC.out))), bU0 HB.out, qr_⟩
def jU.l0 : Nat → List Int → List (List Int) → Int → Int → Option (List Int)
 | 0, _, _, _, _ => none
 | k + 1, x3, x8, x9, eg => if eg < x9 then (if 0 ≤ eg then (if eg < (x8.length : Int) then (if x3.length < 17592186044416 then (jU.l0 k (x3 ++ [((dp x8 eg).length : Int)]) x8 x9 (wrap64 (eg + 1))) else (none)) else (none)) else (none)) else ((rX.f x3).bind fun D1 => ((gq.f k D1).bind fun Jw => (some Jw)))
def jU.f (k : Nat) (l0 : List Int) : Option (List Int) := (fD.f k l0).bind fun oe => (jU.l0 k (([] : List Int)) oe (oe.length : Int) 0)
set_option maxHeartbeats 8000000 in
set_option maxRecDepth 100000 in
theorem jU.calls (k : Nat) (A0 : Option Addr) (c0 : Nat) (l0 : List Int) (r : List Int) (w : World) (hr0 : Kd.C (Kd.int .i64) w A0 l0.length l0) (hc0 : l0.length ≤ c0) (h : jU.f k l0 = some r) :
  Calls Try.prog 110 #[.slice A0 l0.length c0] w fun e w' => ∃ bK : Value, e = .returned (bK) ∧ Kd.R (Kd.int .i64) 3 w' w.heap.size (fun _ => True) bK r ∧ Below w.heap.size w w' := by
 have de := Az hr0; have gz := Az hc0; clear hr0 hc0; have HB := bZ w; have H := h; clear h; unfold jU.f at H; generalize D2 : (([] : List Int) : List Int) = y311 at H; replace D2 := Ay D2; replace H := bd H; obtain ⟨oe, A2, H⟩ := H; have H' := Az H; clear H; go_enter Try.func110, Try.ntmps110
 go_wp2_with (first | ((with_reducible refine gd 6 rfl ?_); refine Kd.iE (Kd.int .i64) _ 3 rfl (N := 6) rfl (xs := ([] : List Int)) (inner := []) (ok := fun _ => True) (okp := fun _ => True) hS ?hp (fun _ hk => hk) trivial (Below.refl _ _) (Nat.le_refl _) (by simp) ?_; (case hp => exact (Reps.none _ _)); intro akr w3 jD hb hg_ hnew_; clear hg_ hnew_; (first | rw [← D2.out] at jD | (simp only [Int.reduceToNat] at jD; rw [← D2.out] at jD)); have dJ := Az (Kd.bu jD (be (bU0 HB.out))); have dK := Az (au (bU0 HB.out) hb); clear HB; have AE := dJ; have HB := dK; clear dJ dK hb jD) | ((with_reducible refine gK 67 rfl ?_); refine gC (some 8) Try.func67 #[.slice A0 l0.length c0] ?_; (with_reducible refine (fD.calls k _ _ l0 oe _ ?_ ?_ A2.out).mono ?_); exact cU (Kd.cd de.out HB.out); exact gz.out; rintro e w5 ⟨aks, rfl, ho0, hb⟩; refine ⟨_, rfl, ?_⟩; have dJ := rB AE.out hb; have dK := Az (Kd.qZ (Kd.tJ ho0 (Kd.ar (rU AE.out))) (be (bU0 HB.out))); have fB := Az (au (bU0 HB.out) hb); clear AE HB; have AE := dJ; have TF := dK; have HB := fB; clear dJ dK fB hb ho0; obtain ⟨IV, An, IW⟩ := Kd.qX TF.out; subst IW))
 go_loopg [3, 10] k (fun kq v3 v10 w' => ∃ (aD : List Int) (fN : Int), v10 = .int .i64 fN ∧ ae (jU.l0 kq aD oe (oe.length : Int) fN = some r) ∧ ae (kq ≤ k) ∧ ae (Kd.R (Kd.int .i64) 3 w' w.heap.size (fun _ => True) v3 aD) ∧ ae (Kd.S (Kd.slice 3 (Kd.int .i64)) 23 w' w.heap.size (fun k_ => oV k_ v3) (.slice IV oe.length An) oe) ∧ ae (Below w.heap.size w w'))
 case atStart => exact ⟨(y311), (0), rS, H', ⟨Nat.le_refl _⟩, ⟨rU AE.out⟩, ⟨by (with_reducible repeat (first | apply Kd.mX | apply Kd.mQ | apply Kd.mR)); exact Kd.ml TF.out (fun _ hk => hk.2)⟩, ⟨bU0 HB.out⟩⟩
 case round =>
  clear H'; obtain ⟨aD, fN, rfl, HA, eO, aC, aE, HB⟩ := hrel
  rcases gk with _ | k1
  exact (nN HA.out).elim; have H := HA.out; clear HA; simp only [jU.l0] at H
  replace H := gB H; rcases H with ⟨iw, H⟩ | ⟨iw, H⟩
  ·
   replace H := gD2 H; obtain ⟨iJ, nX, H⟩ := H; replace H := gP H; obtain ⟨c10, H⟩ := H; have Jx := Az c10; clear c10; generalize Jy : (aD ++ [((dp oe fN).length : Int)] : List Int) = y318 at H; replace Jy := Ay Jy; have H' := Az H; clear H; have D3 : 0 ≤ (fN : Int) := oA; have D4 : fN < (oe.length : Int) := oA; obtain ⟨abW, akt, aku, e317, abX, TG, TH⟩ := zH (Kd.xV aE.out).2.2 fN D3 D4
   cases e317
   obtain ⟨akv, abY, abZ, TI⟩ := Kd.HM aE.out [] fN D3 (by first | exact D4 | exact oA | (have e_ := (Kd.xV aE.out).1; omega)); obtain ⟨akw, rfl, Jz⟩ := abZ; have AF := TI 0 _ rfl; rw [Nat.add_zero, show ((Kd.slice 3 (Kd.int .i64))).sz = 1 from rfl, Nat.mul_one] at AF; replace AF := Option.some.inj (AF.symm.trans abX); rw [AF] at Jz; have JA := Az (show Kd.R (Kd.int .i64) 3 _ _ _ _ (dp oe fN) from Jz); clear AF Jz TI abY; have akx := Az TH; have aky := Az TG; clear TH TG; replace D3 := eq_true D3; replace D4 := eq_true D4
   go_wp2_with (first | ((with_reducible refine ki (b := .append) (xs := #[.tmp 14, .tmp 17]) rfl ?_); at_builtin; refine Kd.kP (Kd.int .i64) (w0 := w) w.heap.size rfl (.tmp 14) (.tmp 17) 23 3 (.int .i64 0) 8 rfl Try.underlying23 dP rfl (by decide) (by omega) u3 aD ((dp oe fN).length : Int) [.int .i64 ((dp oe fN).length : Int)] (fun _ => True) (fun _ => False) rfl rfl ?aP (fun _ hk => hk.elim) ?aF ?aO ?aB ?aS ?aL ?_; (case aP => exact rfl); (case aB => exact (bU0 HB.out)); (case aF => exact (fun _ _ => trivial)); (case aO => exact (rU aC.out)); (case aS => exact (be (bU0 HB.out))); (case aL => have := Jx.out; omega); intro akz qt ho hb hg hat; rw [← Jy.out] at ho; have dJ := Az (Kd.Ht (ok := (fun _ => True)) (by (with_reducible repeat (first | apply Kd.mX | apply Kd.mQ | apply Kd.mR)); exact Kd.ml aE.out (fun _ hk => ⟨trivial, hk⟩)) hg hat); have dK := Az (Kd.cJ (ok := (fun k_ => some k_ ≠ (.slice (some abW) oe.length An : Value).ownBlock)) (rA (Kd.ah JA.out (fun _ hk => ⟨hk.2, hk.1⟩))) hg hat); have fB := Az (hb); have l6 := Az (ho); clear aE JA HB aC; have aE := dJ; have JA := dK; have HB := fB; have ab0 := l6; clear dJ dK fB l6 ho hb hg hat))
   go_roundg k1
   case measure => exact mO
   case rel => exact ⟨(y318), (wrap64 (fN + 1)), rS, H', ⟨mO⟩, ⟨rU ab0.out⟩, ⟨by (with_reducible repeat (first | apply Kd.mX | apply Kd.mQ | apply Kd.mR)); exact Kd.ml aE.out (fun _ hk => hk.2)⟩, ⟨bU0 HB.out⟩⟩
  ·
   replace H := bd H; obtain ⟨D1, JB, H⟩ := H; replace H := bd H; obtain ⟨Jw, A13, H⟩ := H; obtain rfl := Option.some.inj H; obtain ⟨dx, cE, pL⟩ := Kd.aU aC.out; subst pL
   go_wp2_with (first | ((with_reducible refine gK 123 rfl ?_); refine gC (some 21) Try.func123 #[.slice dx aD.length cE] ?_; (with_reducible refine (rX.calls (fun k_ => some k_ = (.slice dx aD.length cE : Value).ownBlock) (.slice dx aD.length cE) aD D1 w _ ?_ ?_ JB.out).mono ?_); (repeat (first | (with_reducible first | exact HB.out | apply bn | apply bz | apply aX) | exact HB.out)); exact Kd.vo rfl aC.out; rintro e oN ⟨rfl, hy0, hb, hkp⟩; refine ⟨_, rfl, ?_⟩; have dJ := Az (Kd.CR rfl hy0 (fun k_ e_ => aC.out.1 k_ e_)); have dK := Az R8; have fB := Az (hb); clear aC aE HB; have aC := dJ; have aE := dK; have HB := fB; clear dJ dK fB hb) | ((with_reducible refine gK 124 rfl ?_); refine gC (some 23) Try.func124 #[.slice dx aD.length cE] ?_; (with_reducible refine (gq.calls k1 (fun k_ => some k_ = (.slice dx aD.length cE : Value).ownBlock) (.slice dx aD.length cE) D1 Jw w _ ?_ ?_ A13.out).mono ?_); (repeat (first | (with_reducible first | exact HB.out | apply bn | apply bz | apply aX) | exact HB.out)); exact Kd.vo rfl aC.out; rintro e w16 ⟨rfl, hy0, hb, hkp⟩; refine ⟨_, rfl, ?_⟩; have dJ := Az (Kd.CR rfl hy0 (fun k_ e_ => aC.out.1 k_ e_)); have dK := Az R8; have fB := Az (hb); clear aC aE HB; have aC := dJ; have aE := dK; have HB := fB; clear dJ dK fB hb))
   go_ret; exact ⟨_, rE, rU aC.out, bU0 HB.out⟩
def iu.l0 : Nat → List Int → Int → Int → Option (Bool)
 | 0, _, _, _ => none
 | k + 1, eG, lx, wz => if wz < lx then (if 0 ≤ wz then (if wz < (eG.length : Int) then (if (rd eG wz) = 4 then (iu.l0 k eG lx (wrap64 (wz + 1))) else (some false)) else (none)) else (none)) else (some true)
def iu.f (k : Nat) (ag : List Int) (af : List Int) : Option (Bool) := (dN.f k ag af).bind fun JC => (if JC = true then ((gT.f k af ag).bind fun AG => ((jU.f k AG).bind fun uq => (iu.l0 k uq (uq.length : Int) 0))) else (some false))
set_option maxHeartbeats 8000000 in
set_option maxRecDepth 100000 in
theorem iu.calls (k : Nat) (aA : Option Addr) (az : Nat) (ag : List Int) (am : Option Addr) (al : Nat) (af : List Int) (r : Bool) (w : World) (dR : Kd.C (Kd.int .i64) w aA ag.length ag) (d7 : ag.length ≤ az) (dl : Kd.C (Kd.int .i64) w am af.length af) (dq : af.length ≤ al) (h : iu.f k ag af = some r) :
  Calls Try.prog 89 #[.agg #[.slice aA ag.length az, .slice am af.length al]] w fun e w' => e = .returned (.bool r) ∧ Below w.heap.size w w' := by
 have jZ := Try.underlying29; have dr := Az dR; have cZ := Az d7; clear dR d7; have cH := Az dl; have cQ := Az dq; clear dl dq; have HB := bZ w; have H := h; clear h; unfold iu.f at H; replace H := bd H; obtain ⟨JC, A2, H⟩ := H
 by_cases c3 : JC = true
 ·
  subst c3; rw [if_pos rfl] at H; replace H := bd H; obtain ⟨AG, A4, H⟩ := H; replace H := bd H; obtain ⟨uq, A5, H⟩ := H; have H' := Az H; clear H; go_enter Try.func89, Try.ntmps89
  go_wp2_with (first | ((with_reducible refine gd 1 rfl ?_); refine bE 1 #[.slice aA ag.length az, .slice am af.length al] 29 ?_; intro D5 hg w6 hbox hb; have dJ := Az (au (bU0 HB.out) hb); have dK := Az (hbox); have fB := Az ((by rw [hg]; exact (be (bU0 HB.out)) : w.heap.size ≤ D5)); have l6 := fB; clear HB; have HB := dJ; have kW := dK; have ab2 := fB; have mA := l6; clear dJ dK fB l6 hb hbox hg; have hz7 := bc2 kW.out) | ((with_reducible refine gK 66 rfl ?_); refine gC (some 6) Try.func66 #[.agg #[.slice aA ag.length az, .slice am af.length al]] ?_; (with_reducible refine (dN.calls k (fun k_ => k_ < w.heap.size) _ _ ag (fun k_ => k_ < w.heap.size) _ _ af true _ ?_ ?_ A2.out).mono ?_); exact Kd.jc cZ.out (Kd.gV (Kd.C_F (Kd.yb .i64) dr.out) (bU1 HB.out mA.out)); exact Kd.jc cQ.out (Kd.gV (Kd.C_F (Kd.yb .i64) cH.out) (bU1 HB.out mA.out)); rintro e w8 ⟨rfl, hb⟩; refine ⟨_, rfl, ?_⟩; have dJ := kB kW.out hb; have dK := Az (au (bU1 HB.out mA.out) hb); clear kW HB; have kW := dJ; have HB := dK; clear dJ dK hb; have D6 := bc2 kW.out) | ((with_reducible refine gK 68 rfl ?_); refine gC (some 12) Try.func68 #[.slice am af.length al, .slice aA ag.length az] ?_; (with_reducible refine (gT.calls k _ _ af _ _ ag AG _ ?_ ?_ ?_ ?_ A4.out).mono ?_); exact cU (Kd.cd cH.out HB.out); exact cQ.out; exact cU (Kd.cd dr.out HB.out); exact cZ.out; rintro e qv ⟨akA, rfl, ho0, hb⟩; refine ⟨_, rfl, ?_⟩; have dJ := Az (Kd.bu ho0 (be (bU1 HB.out mA.out))); have dK := kB kW.out hb; have fB := Az (au (bU1 HB.out mA.out) hb); clear kW HB; have wA := dJ; have kW := dK; have HB := fB; clear dJ dK fB hb ho0; obtain ⟨D7, us, qw⟩ := Kd.aU wA.out; subst qw) | ((with_reducible refine gK 110 rfl ?_); refine gC (some 13) Try.func110 #[.slice D7 AG.length us] ?_; (with_reducible refine (jU.calls k _ _ AG uq _ ?_ ?_ A5.out).mono ?_); exact cU ((Kd.av wA.out).2.2); exact (Kd.av wA.out).2.1; rintro e oa ⟨akB, rfl, ho0, hb⟩; refine ⟨_, rfl, ?_⟩; have dJ := Az (Kd.a8 (rU wA.out) (Kd.ax ho0) hb); have dK := Az (Kd.bu (Kd.aQ ho0 (Kd.ar (rU wA.out))) (be (bU1 HB.out mA.out))); have fB := kB kW.out hb; have l6 := Az (au (bU1 HB.out mA.out) hb); clear wA kW HB; have wA := dJ; have TJ := dK; have kW := fB; have HB := l6; clear dJ dK fB l6 hb ho0; obtain ⟨sD, qq, pJ⟩ := Kd.aU TJ.out; subst pJ))
  go_loopg [15] k (fun kq v15 w' => ∃ (qy : Int), v15 = .int .i64 qy ∧ ae (iu.l0 kq uq (uq.length : Int) qy = some r) ∧ ae (kq ≤ k) ∧ ae (Kd.R (Kd.int .i64) 3 w' w.heap.size (fun _ => True) (.slice sD uq.length qq) uq) ∧ ae (w'.heap[D5]? = some (.cells #[(.slice aA ag.length az), (.slice am af.length al)] 29 (0, 0))) ∧ ae (Below w.heap.size w w'))
  case atStart => exact ⟨(0), rS, H', ⟨Nat.le_refl _⟩, ⟨rM TJ.out⟩, ⟨kU kW.out⟩, ⟨bU1 HB.out mA.out⟩⟩
  case round =>
   clear H'; obtain ⟨qy, rfl, HA, eO, JD, kW, HB⟩ := hrel
   rcases gk with _ | k1
   exact (nN HA.out).elim; have H := HA.out; clear HA; simp only [iu.l0] at H
   replace H := gB H; rcases H with ⟨ui, H⟩ | ⟨ui, H⟩
   ·
    replace H := gD2 H; obtain ⟨ue, yo, H⟩ := H
    replace H := gQ H; rcases H with ⟨yp, I7, H⟩ | ⟨yp, I7, H⟩
    ·
     have H' := Az H; clear H; obtain ⟨ab4, e331, ab5, ab6, ab7⟩ := aI (Kd.av JD.out).2.2 qy
     cases e331; go_wp2; go_roundg k1
     case measure => exact mO
     case rel => exact ⟨(wrap64 (qy + 1)), rS, H', ⟨mO⟩, ⟨rU JD.out⟩, ⟨kU kW.out⟩, ⟨bU1 HB.out mA.out⟩⟩
    ·
     obtain rfl := Option.some.inj H; obtain ⟨ab4, e331, ab5, ab6, ab7⟩ := aI (Kd.av JD.out).2.2 qy
     cases e331; go_wp2; go_ret; exact ⟨rE, bU1 HB.out mA.out⟩
   · obtain rfl := Option.some.inj H; go_wp2; go_ret; exact ⟨rE, bU1 HB.out mA.out⟩
 ·
  replace c3 := Bool.eq_false_iff.mpr c3; subst c3; rw [if_neg nT] at H; obtain rfl := Option.some.inj H; go_enter Try.func89, Try.ntmps89
  go_wp2_with (first | ((with_reducible refine gd 1 rfl ?_); refine bE 1 #[.slice aA ag.length az, .slice am af.length al] 29 ?_; intro D5 hg sx hbox hb; have dJ := Az (au (bU0 HB.out) hb); have dK := Az (hbox); have fB := Az ((by rw [hg]; exact (be (bU0 HB.out)) : w.heap.size ≤ D5)); have l6 := fB; clear HB; have HB := dJ; have kW := dK; have ab2 := fB; have mA := l6; clear dJ dK fB l6 hb hbox hg; have TK := bc2 kW.out) | ((with_reducible refine gK 66 rfl ?_); refine gC (some 6) Try.func66 #[.agg #[.slice aA ag.length az, .slice am af.length al]] ?_; (with_reducible refine (dN.calls k (fun k_ => k_ < w.heap.size) _ _ ag (fun k_ => k_ < w.heap.size) _ _ af false _ ?_ ?_ A2.out).mono ?_); exact Kd.jc cZ.out (Kd.gV (Kd.C_F (Kd.yb .i64) dr.out) (bU1 HB.out mA.out)); exact Kd.jc cQ.out (Kd.gV (Kd.C_F (Kd.yb .i64) cH.out) (bU1 HB.out mA.out)); rintro e yu ⟨rfl, hb⟩; refine ⟨_, rfl, ?_⟩; have dJ := kB kW.out hb; have dK := Az (au (bU1 HB.out mA.out) hb); clear kW HB; have kW := dJ; have HB := dK; clear dJ dK hb))
  go_ret; exact ⟨rE, bU1 HB.out mA.out⟩
def nF.f (k : Nat) (ag : List Int) (af : List Int) : Option (Bool) := (iu.f k ag af).bind fun JE => (if JE = true then ((kj.f k ag af).bind fun JF => (some (JF == 0))) else (some false))
set_option maxHeartbeats 8000000 in
set_option maxRecDepth 100000 in
theorem nF.calls (k : Nat) (aA : Option Addr) (az : Nat) (ag : List Int) (am : Option Addr) (al : Nat) (af : List Int) (r : Bool) (w : World) (dR : Kd.C (Kd.int .i64) w aA ag.length ag) (d7 : ag.length ≤ az) (dl : Kd.C (Kd.int .i64) w am af.length af) (dq : af.length ≤ al) (h : nF.f k ag af = some r) :
  Calls Try.prog 48 #[.agg #[.slice aA ag.length az, .slice am af.length al]] w fun e w' => e = .returned (.bool r) ∧ Below w.heap.size w w' := by
 have jZ := Try.underlying29; have dr := Az dR; have cZ := Az d7; clear dR d7; have cH := Az dl; have cQ := Az dq; clear dl dq; have HB := bZ w; have H := h; clear h; unfold nF.f at H; replace H := bd H; obtain ⟨JE, A2, H⟩ := H
 by_cases c3 : JE = true
 ·
  subst c3; rw [if_pos rfl] at H; replace H := bd H; obtain ⟨JF, A4, H⟩ := H; obtain rfl := Option.some.inj H; go_enter Try.func48, Try.ntmps48
  go_wp2_with (first | ((with_reducible refine gd 1 rfl ?_); refine bE 1 #[.slice aA ag.length az, .slice am af.length al] 29 ?_; intro JG hg w5 hbox hb; have dJ := Az (au (bU0 HB.out) hb); have dK := Az (hbox); have fB := Az ((by rw [hg]; exact (be (bU0 HB.out)) : w.heap.size ≤ JG)); have l6 := fB; clear HB; have HB := dJ; have oQ := dK; have ab8 := fB; have yw := l6; clear dJ dK fB l6 hb hbox hg; have hz6 := bc2 oQ.out) | ((with_reducible refine gK 89 rfl ?_); refine gC (some 4) Try.func89 #[.agg #[.slice aA ag.length az, .slice am af.length al]] ?_; (with_reducible refine (iu.calls k _ _ ag _ _ af true _ ?_ ?_ ?_ ?_ A2.out).mono ?_); exact cU (Kd.cd dr.out HB.out); exact cZ.out; exact cU (Kd.cd cH.out HB.out); exact cQ.out; rintro e w7 ⟨rfl, hb⟩; refine ⟨_, rfl, ?_⟩; have dJ := kB oQ.out hb; have dK := Az (au (bU1 HB.out yw.out) hb); clear oQ HB; have oQ := dJ; have HB := dK; clear dJ dK hb; have um := bc2 oQ.out) | (go_at_call 87; (with_reducible refine (kj.calls k _ _ ag _ _ af JF _ ?_ ?_ ?_ ?_ A4.out).mono ?_); exact cU (Kd.cd dr.out HB.out); exact cZ.out; exact cU (Kd.cd cH.out HB.out); exact cQ.out; rintro e w9 ⟨rfl, hb⟩; have dJ := kB oQ.out hb; have dK := Az (au (bU1 HB.out yw.out) hb); clear oQ HB; have oQ := dJ; have HB := dK; clear dJ dK hb))
  go_ret; exact ⟨rE, bU1 HB.out yw.out⟩
 ·
  replace c3 := Bool.eq_false_iff.mpr c3; subst c3; rw [if_neg nT] at H; obtain rfl := Option.some.inj H; go_enter Try.func48, Try.ntmps48
  go_wp2_with (first | ((with_reducible refine gd 1 rfl ?_); refine bE 1 #[.slice aA ag.length az, .slice am af.length al] 29 ?_; intro JG hg qv hbox hb; have dJ := Az (au (bU0 HB.out) hb); have dK := Az (hbox); have fB := Az ((by rw [hg]; exact (be (bU0 HB.out)) : w.heap.size ≤ JG)); have l6 := fB; clear HB; have HB := dJ; have oQ := dK; have ab8 := fB; have yw := l6; clear dJ dK fB l6 hb hbox hg; have TL := bc2 oQ.out) | ((with_reducible refine gK 89 rfl ?_); refine gC (some 4) Try.func89 #[.agg #[.slice aA ag.length az, .slice am af.length al]] ?_; (with_reducible refine (iu.calls k _ _ ag _ _ af false _ ?_ ?_ ?_ ?_ A2.out).mono ?_); exact cU (Kd.cd dr.out HB.out); exact cZ.out; exact cU (Kd.cd cH.out HB.out); exact cQ.out; rintro e oa ⟨rfl, hb⟩; refine ⟨_, rfl, ?_⟩; have dJ := kB oQ.out hb; have dK := Az (au (bU1 HB.out yw.out) hb); clear oQ HB; have oQ := dJ; have HB := dK; clear dJ dK hb))
  go_ret; exact ⟨rE, bU1 HB.out yw.out⟩
def dfar.at : Nat → List Int → Int → List Int → Int → Option (List Int)
 | 0, _, _, _, _ => none
 | k + 1, t, n, xs, d => if 0 ≤ d then (if d < (xs.length : Int) then (if rd xs d < 0 then (if d < (t.length : Int) then dfar.at k t n (xs.set d.toNat n) (rd t d) else none) else some xs) else none) else none
set_option maxHeartbeats 4000000 in
set_option maxRecDepth 100000 in
theorem dfar.P4 (k : Nat) (A0 : Option Addr) (c0 : Nat) (l0 : List Int) (A1 : Option Addr) (c1 : Nat) (l1 : List Int) (gM gF g n cF : Nat) (d nn : Int) (xs r : List Int) (w0 w : World)
  (hB : Below w0.heap.size w0 w) (hg : w0.heap.size ≤ g)
  (hM : w.heap[gM]? = some (.cells #[.slice A0 l0.length c0, .slice A1 l1.length c1] 29 (0, 0))) (hF : w.heap[gF]? = some (.cells #[.slice (some ⟨g, 0, none⟩) n cF] 23 (0, 0)))
  (hR : Kd.R (Kd.int .i64) 3 w w0.heap.size (fun _ => True) (.slice (some ⟨g, 0, none⟩) n cF) xs)
  (hr0 : Kd.C (Kd.int .i64) w0 A0 l0.length l0) (h : dfar.at k l0 nn xs d = some r) :
  Calls Try.prog 109 #[.int .i64 d, .int .i64 nn, .pointer (some ⟨gF, 0, none⟩), .pointer (some ⟨gM, 0, none⟩)] w fun e w' => e = .returned (.tuple #[]) ∧ Kd.R (Kd.int .i64) 3 w' w0.heap.size (fun _ => True) (.slice (some ⟨g, 0, none⟩) n cF) r ∧ Below w0.heap.size w0 w' ∧
   w'.heap[gM]? = some (.cells #[.slice A0 l0.length c0, .slice A1 l1.length c1] 29 (0, 0)) ∧ w'.heap[gF]? = some (.cells #[.slice (some ⟨g, 0, none⟩) n cF] 23 (0, 0)) := by
 have jZ := Try.underlying29; have HB := Az hB; have BM := Az hM; have BF := Az hF; have HO := Az hR; have de := Az hr0; have H' := Az h; clear hB hM hF hR hr0 h; go_enter Try.func109, Try.ntmps109; go_wp2
 go_loopg [0] k (fun kq v0 w' => ∃ (d' : Int) (xs' : List Int), v0 = .int .i64 d' ∧ ae (dfar.at kq l0 nn xs' d' = some r) ∧ ae (kq ≤ k) ∧ ae (Kd.R (Kd.int .i64) 3 w' w0.heap.size (fun _ => True) (.slice (some ⟨g, 0, none⟩) n cF) xs') ∧ ae (w'.heap[gM]? = some (.cells #[.slice A0 l0.length c0, .slice A1 l1.length c1] 29 (0, 0))) ∧ ae (w'.heap[gF]? = some (.cells #[.slice (some ⟨g, 0, none⟩) n cF] 23 (0, 0))) ∧ ae (Below w0.heap.size w0 w'))
 case atStart => exact ⟨d, xs, rfl, H', ⟨Nat.le_refl _⟩, HO, BM, BF, HB⟩
 case round =>
  clear H' HO BM BF HB; obtain ⟨d', xs', rfl, HA, eO, HO, BM, BF, HB⟩ := hrel
  rcases gk with _ | k1
  exact (nN HA.out).elim; have H := HA.out; clear HA; simp only [dfar.at] at H; have hnx : n = xs'.length := (Kd.av HO.out).1
  by_cases c1_ : 0 ≤ d'
  ·
   rw [if_pos c1_] at H
   by_cases c2_ : d' < (xs'.length : Int)
   ·
    rw [if_pos c2_] at H
    have D8 : d' < (n : Int) := by rw [hnx]; exact c2_
    have hx1 : wr.cell? ⟨g, d'.toNat, none⟩ = some (.int .i64 (rd xs' d')) := (Kd.dw 0 HO.out d' c1_ D8).1; have hf1 := (Kd.dw 0 HO.out d' c1_ D8).2; clear hnx; have p1 : (0 ≤ d') = True := eq_true c1_; have q1 : (d' < (n : Int)) = True := eq_true D8; have hcf : wr.cell? ⟨gF, 0, none⟩ = some (.slice (some ⟨g, 0, none⟩) n cF) := (aM BF.out 0).trans rfl
    by_cases c3_ : rd xs' d' < 0
    ·
     rw [if_pos c3_] at H; have c3b : decide (rd xs' d' < 0) = true := decide_eq_true c3_
     by_cases c4_ : d' < (l0.length : Int)
     ·
      rw [if_pos c4_] at H; have q4 : (d' < (l0.length : Int)) = True := eq_true c4_; obtain ⟨ad, e0, hx0⟩ := Kd.lu de.out d' c1_ c4_
      cases e0
      have HX0 := Az hx0; have HH := Az H; have HP := Az (Kd.r8 HO.out d' nn)
      have neM : gM ≠ g := fun e => Kd.dG HO.out BM.out (by decide) (by rw [e]; rfl)
      have neF : gF ≠ g := fun e => Kd.dG HO.out BF.out (by decide) (by rw [e]; rfl)
      clear H c1_ c2_ D8 c3_ c4_ hx0
      go_wp2_with (first | ((with_reducible refine gs 3 14 rfl ?_); refine sE 3 14 (wr.setCell ⟨g, d'.toNat, none⟩ (.int .i64 nn)) ?_; intro oN hw; have n1 := Az (by rw [hw]; exact HP.out : Kd.R (Kd.int .i64) 3 oN w0.heap.size (fun _ => True) (.slice (some ⟨g, 0, none⟩) n cF) (xs'.set d'.toNat nn)); have n2 := Az (by rw [hw]; exact db BM.out (p := ⟨g, d'.toNat, none⟩) neM _ : oN.heap[gM]? = some (.cells #[.slice (some ad) l0.length c0, .slice A1 l1.length c1] 29 (0, 0))); have n3 := Az (by rw [hw]; exact db BF.out (p := ⟨g, d'.toNat, none⟩) neF _ : oN.heap[gF]? = some (.cells #[.slice (some ⟨g, 0, none⟩) n cF] 23 (0, 0))); have n4 := Az (by rw [hw]; exact ai HB.out hg : Below w0.heap.size w0 oN); clear HO BM BF HB HP hw hx1 hf1 hcf; have HO := n1; have BM := n2; have BF := n3; have HB := n4; clear n1 n2 n3 n4; have hcm : oN.cell? ⟨gM, 0, none⟩ = some (.slice (some ad) l0.length c0) := (aM BM.out 0).trans rfl; have hxt := (HB.out.cell (World.block_lt_of_cell? w0 _ HX0.out)).trans HX0.out))
      (first | go_roundg k1 | (refine Handed.intro k1 ?measure ?_; rotate_left; go_step; (try simp only [add_plain]); (repeat apply Exists.intro); refine ⟨?rel, rfl⟩))
      case measure => exact mO
      case rel => exact ⟨_, _, rfl, HH, ⟨mO⟩, HO, BM, BF, HB⟩
     ·
      rw [if_neg c4_] at H
      cases H
    · rw [if_neg c3_] at H; have c3b : decide (rd xs' d' < 0) = false := decide_eq_false c3_; obtain rfl := Option.some.inj H; go_wp2; refine bodyPost_end (results_none rfl _ _ _) rfl ?_; exact ⟨rfl, HO.out, HB.out, BM.out, BF.out⟩
   ·
    rw [if_neg c2_] at H
    cases H
  ·
   rw [if_neg c1_] at H
   cases H
def dfar.l0 : Nat → List Int → Int → Int → Option (List Int)
 | 0, _, _, _ => none
 | k + 1, xs, i, m => if i < m then (if 0 ≤ i then (if i < (xs.length : Int) then dfar.l0 k (xs.set i.toNat (-1)) (wrap64 (i + 1)) m else none) else none) else some xs
def dfar.l2 : Nat → List Int → List Int → Int → List Int → Int → Option (List Int)
 | 0, _, _, _, _, _ => none
 | k + 1, t, f, n, xs, i => if i < (f.length : Int) then (if 0 ≤ i then (if i < (xs.length : Int) then (if rd xs i = n then ((dfar.at k t (wrap64 (n + 1)) xs (rd f i)).bind fun ys => dfar.l2 k t f n ys (wrap64 (i + 1))) else dfar.l2 k t f n xs (wrap64 (i + 1))) else none) else none) else some xs
def dfar.l1 : Nat → List Int → List Int → List Int → Int → Option (List Int)
 | 0, _, _, _, _ => none
 | k + 1, t, f, xs, n => if n < (t.length : Int) then ((dfar.l2 k t f n xs 0).bind fun ys => dfar.l1 k t f ys (wrap64 (n + 1))) else some xs
def oJ.f (k : Nat) (t f : List Int) (a : Int) : Option (List Int) := if 0 < t.length ∧ t.length ≤ 1048576 then ((dfar.l0 k (List.replicate t.length 0) 0 (t.length : Int)).bind fun xs => (dfar.at k t 0 xs a).bind fun ys => dfar.l1 k t f ys 0) else none
set_option maxHeartbeats 4000000 in
set_option maxRecDepth 100000 in
theorem oJ.calls (k : Nat) (aA : Option Addr) (az : Nat) (ag : List Int) (am : Option Addr) (al : Nat) (af : List Int) (a1 : Int) (r : List Int) (w : World) (dR : Kd.C (Kd.int .i64) w aA ag.length ag) (d7 : ag.length ≤ az) (dl : Kd.C (Kd.int .i64) w am af.length af) (dq : af.length ≤ al) (h : oJ.f k ag af a1 = some r) :
  Calls Try.prog 88 #[.agg #[.slice aA ag.length az, .slice am af.length al], .int .i64 a1] w fun e w' => ∃ bK : Value, e = .returned bK ∧ Kd.R (Kd.int .i64) 3 w' w.heap.size (fun _ => True) bK r ∧ Below w.heap.size w w' := by
 have jZ := Try.underlying29; have de := Az dR; have HR1 := Az dl; have HB := bZ w; clear dR dl
 unfold oJ.f at h
 by_cases hn : 0 < ag.length ∧ ag.length ≤ 1048576
 ·
  rw [if_pos hn] at h; obtain ⟨xs1, h1, h⟩ := Option.bind_eq_some_iff.mp h; obtain ⟨xs2, h2, h3⟩ := Option.bind_eq_some_iff.mp h; clear h; have H1 := Az h1; have H2 := Az h2; have H3 := Az h3; have HN := Az hn; clear h1 h2 h3 hn; go_enter Try.func88, Try.ntmps88
  go_wp2_with (first | ((with_reducible refine gd 2 rfl ?_); refine bE 2 #[.slice aA ag.length az, .slice am af.length al] 29 ?_; intro gM hg w5 hbox hb; have n1 := Az (au HB.out hb); have BM := Az hbox; have GM := Az ((by rw [hg]; exact be HB.out) : w.heap.size ≤ gM); clear HB hb hbox hg; have HB := n1; clear n1; have ace := cz BM.out 0) | ((with_reducible refine gd 14 rfl ?_); refine Kd.qW (Kd.int .i64) _ 3 rfl (N := 14) rfl 23 _ _ rfl (ag.length : Int) rfl rfl Try.underlying23 (.int .i64 0) 8 dP rfl (by decide) (by omega) 0 (ok := fun _ => True) (okp := fun _ => True) rfl (fun _ hk => hk) trivial (by omega) (by have := HN.out; omega) (Below.refl _ _) (Nat.le_refl _) ?_; intro v14 w6 mr hb hg_ hnew_; clear hg_ hnew_; rw [Int.toNat_natCast] at mr; obtain ⟨g, cF, ev, gb, gl, _⟩ := Kd.ky mr (by rw [List.length_replicate]; exact HN.out.1); have n1 := Az (Kd.bu mr (be HB.out)); have GG := Az (Nat.le_trans (be HB.out) gb); subst ev; have n2 := Az (au HB.out hb); have n3 := Az (xA BM.out hb); clear HB BM hb mr gb gl ace; have HO := n1; have HB := n2; have BM := n3; clear n1 n2 n3; rw [List.length_replicate] at HO ⊢))
  have n1 := tZ BM.out (.cells #[.slice (some ⟨g, 0, none⟩) ag.length cF] 23); have n2 := Kd.Ii HO.out (.cells #[.slice (some ⟨g, 0, none⟩) ag.length cF] 23); have n3 := bn HB.out (.cells #[.slice (some ⟨g, 0, none⟩) ag.length cF] 23); have n4 := Ih w6 (.cells #[.slice (some ⟨g, 0, none⟩) ag.length cF] 23); clear BM HO HB; generalize hw7 : w6.alloc (.cells #[.slice (some ⟨g, 0, none⟩) ag.length cF] 23) = w7 at n1 n2 n3 n4 ⊢; generalize hgF : w6.heap.size = gF at n4 ⊢; clear hw7 hgF; have HB := Az n3; have BM := Az n1; have BF := Az n4; have HO := Az n2; clear n1 n2 n3 n4 GM
  go_loopg [17] k (fun kq v17 w' => ∃ (i : Int) (xs' : List Int), v17 = .int .i64 i ∧ ae (dfar.l0 kq xs' i (ag.length : Int) = some xs1) ∧ ae (kq ≤ k) ∧ ae (Kd.R (Kd.int .i64) 3 w' w.heap.size (fun _ => True) (.slice (some ⟨g, 0, none⟩) ag.length cF) xs') ∧ ae (w'.heap[gM]? = some (.cells #[.slice aA ag.length az, .slice am af.length al] 29 (0, 0))) ∧ ae (w'.heap[gF]? = some (.cells #[.slice (some ⟨g, 0, none⟩) ag.length cF] 23 (0, 0))) ∧ ae (Below w.heap.size w w'))
  case atStart => exact ⟨0, _, rfl, H1, ⟨Nat.le_refl _⟩, HO, BM, BF, HB⟩
  case round =>
   clear H1 HO BM BF HB; obtain ⟨i, xs', rfl, HA, eO, HO, BM, BF, HB⟩ := hrel
   rcases gk with _ | k1
   exact (nN HA.out).elim; have H := HA.out; clear HA; simp only [dfar.l0] at H; have hnx : ag.length = xs'.length := (Kd.av HO.out).1
   by_cases c1_ : i < (ag.length : Int)
   ·
    rw [if_pos c1_] at H; have wB : decide (i < (ag.length : Int)) = true := decide_eq_true c1_
    by_cases c2_ : 0 ≤ i
    ·
     rw [if_pos c2_] at H
     by_cases c3_ : i < (xs'.length : Int)
     ·
      rw [if_pos c3_] at H; have p1 : (0 ≤ i) = True := eq_true c2_; have q1 : (i < (ag.length : Int)) = True := eq_true c1_; have hcf : wr.cell? ⟨gF, 0, none⟩ = some (.slice (some ⟨g, 0, none⟩) ag.length cF) := (aM BF.out 0).trans rfl; have hx1 : wr.cell? ⟨g, i.toNat, none⟩ = some (.int .i64 (rd xs' i)) := (Kd.dw 0 HO.out i c2_ c1_).1; have hf1 := (Kd.dw 0 HO.out i c2_ c1_).2; have HP := Az (Kd.r8 HO.out i (-1)); have HH := Az H
      have neM : gM ≠ g := fun e => Kd.dG HO.out BM.out (by decide) (by rw [e]; rfl)
      have neF : gF ≠ g := fun e => Kd.dG HO.out BF.out (by decide) (by rw [e]; rfl)
      clear H c1_ c2_ c3_ hnx; go_wp2; go_roundg k1
      case measure => exact mO
      case rel => exact ⟨_, _, rfl, HH, ⟨mO⟩, HP, ⟨db BM.out (p := ⟨g, i.toNat, none⟩) neM _⟩, ⟨db BF.out (p := ⟨g, i.toNat, none⟩) neF _⟩, ⟨ai HB.out GG.out⟩⟩
     ·
      rw [if_neg c3_] at H
      cases H
    ·
     rw [if_neg c2_] at H
     cases H
   ·
    rw [if_neg c1_] at H; have wB : decide (i < (ag.length : Int)) = false := decide_eq_false c1_; obtain rfl := Option.some.inj H; clear H hnx c1_
    go_wp2_with (first | (go_at_call 109; (refine (dfar.P4 k aA az ag am al af gM gF g ag.length cF a1 0 _ xs2 w _ HB.out GG.out BM.out BF.out HO.out de.out H2.out).mono ?_; rintro e w16 ⟨rfl, ho, hb, hm, hf⟩; clear HO BM BF HB; have HO := Az ho; have BM := Az hm; have BF := Az hf; have HB := Az hb; clear ho hm hf hb; have hcm0 : w16.cell? ⟨gM, 0, none⟩ = some (.slice aA ag.length az) := (aM BM.out 0).trans rfl; have hcm1 : w16.cell? ⟨gM, 1, none⟩ = some (.slice am af.length al) := (aM BM.out 1).trans rfl)))
    clear H2
    go_loopg [31] k (fun kq v31 w' => ∃ (nn : Int) (xs' : List Int), v31 = .int .i64 nn ∧ ae (dfar.l1 kq ag af xs' nn = some r) ∧ ae (kq ≤ k) ∧ ae (Kd.R (Kd.int .i64) 3 w' w.heap.size (fun _ => True) (.slice (some ⟨g, 0, none⟩) ag.length cF) xs') ∧ ae (w'.heap[gM]? = some (.cells #[.slice aA ag.length az, .slice am af.length al] 29 (0, 0))) ∧ ae (w'.heap[gF]? = some (.cells #[.slice (some ⟨g, 0, none⟩) ag.length cF] 23 (0, 0))) ∧ ae (Below w.heap.size w w'))
    case atStart => exact ⟨0, _, rfl, H3, ⟨Nat.le_refl _⟩, HO, BM, BF, HB⟩
    case round =>
     clear H3 HO BM BF HB wB; obtain ⟨nn, xs', rfl, HA, eO, HO, BM, BF, HB⟩ := hrel
     rcases gk with _ | k1
     exact (nN HA.out).elim; have H := HA.out; clear HA; simp only [dfar.l1] at H; have hcm1 : wr.cell? ⟨gM, 1, none⟩ = some (.slice am af.length al) := (aM BM.out 1).trans rfl; have hcf : wr.cell? ⟨gF, 0, none⟩ = some (.slice (some ⟨g, 0, none⟩) ag.length cF) := (aM BF.out 0).trans rfl
     by_cases c1_ : nn < (ag.length : Int)
     ·
      rw [if_pos c1_] at H; have wB : decide (nn < (ag.length : Int)) = true := decide_eq_true c1_; obtain ⟨ys, h4, h5⟩ := Option.bind_eq_some_iff.mp H; have H4 := Az h4; have H5 := Az h5; clear h4 h5 H c1_; go_wp2; clear hcm1 hcf wB
      go_loopg [37] k1 (fun kq v37 w' => ∃ (i : Int) (xs' : List Int), v37 = .int .i64 i ∧ ae (dfar.l2 kq ag af nn xs' i = some ys) ∧ ae (kq ≤ k1) ∧ ae (Kd.R (Kd.int .i64) 3 w' w.heap.size (fun _ => True) (.slice (some ⟨g, 0, none⟩) ag.length cF) xs') ∧ ae (w'.heap[gM]? = some (.cells #[.slice aA ag.length az, .slice am af.length al] 29 (0, 0))) ∧ ae (w'.heap[gF]? = some (.cells #[.slice (some ⟨g, 0, none⟩) ag.length cF] 23 (0, 0))) ∧ ae (Below w.heap.size w w'))
      case atStart => exact ⟨0, _, rfl, H4, ⟨Nat.le_refl _⟩, HO, BM, BF, HB⟩
      case round =>
       clear H4 HO BM BF HB; obtain ⟨i, xs', rfl, HA, fp, HO, BM, BF, HB⟩ := hrel
       rcases gk with _ | k2
       exact (nN HA.out).elim; have H := HA.out; clear HA; simp only [dfar.l2] at H; have hnx : ag.length = xs'.length := (Kd.av HO.out).1; have hcf : wr.cell? ⟨gF, 0, none⟩ = some (.slice (some ⟨g, 0, none⟩) ag.length cF) := (aM BF.out 0).trans rfl
       by_cases c1_ : i < (af.length : Int)
       ·
        rw [if_pos c1_] at H; have wB : decide (i < (af.length : Int)) = true := decide_eq_true c1_
        by_cases c2_ : 0 ≤ i
        ·
         rw [if_pos c2_] at H
         by_cases c3_ : i < (xs'.length : Int)
         ·
          rw [if_pos c3_] at H
          have JH : i < (ag.length : Int) := by rw [hnx]; exact c3_
          have p1 : (0 ≤ i) = True := eq_true c2_; have q1 : (i < (ag.length : Int)) = True := eq_true JH; have q2 : (i < (af.length : Int)) = True := eq_true c1_; have hx1 : wr.cell? ⟨g, i.toNat, none⟩ = some (.int .i64 (rd xs' i)) := (Kd.dw 0 HO.out i c2_ JH).1; obtain ⟨ad, e0, hx0⟩ := Kd.lu HR1.out i c2_ c1_
          cases e0
          have hx2 := (HB.out.cell (World.block_lt_of_cell? w _ hx0)).trans hx0; clear hnx c1_ c2_ c3_ JH hx0
          by_cases c4_ : rd xs' i = nn
          ·
           rw [if_pos c4_] at H; have c4b : (rd xs' i == nn) = true := beq_iff_eq.mpr c4_; obtain ⟨zs, h6, h7⟩ := Option.bind_eq_some_iff.mp H; have H6 := Az h6; have H7 := Az h7; clear h6 h7 H c4_
           go_wp2_with (first | (go_at_call 109; (refine (dfar.P4 k2 aA az ag _ al af gM gF g ag.length cF (rd af i) (wrap64 (nn + 1)) xs' zs w _ HB.out GG.out BM.out BF.out HO.out de.out H6.out).mono ?_; rintro e w16 ⟨rfl, ho, hb, hm, hf⟩; clear HO BM BF HB; have HO := Az ho; have BM := Az hm; have BF := Az hf; have HB := Az hb; clear ho hm hf hb)))
           go_roundg k2
           case measure => exact mO
           case rel => exact ⟨_, _, rfl, H7, ⟨mO⟩, HO, BM, BF, HB⟩
          ·
           rw [if_neg c4_] at H; have c4b : (rd xs' i == nn) = false := beq_eq_false_iff_ne.mpr c4_; have H7 := Az H; clear H c4_; go_wp2; go_roundg k2
           case measure => exact mO
           case rel => exact ⟨_, _, rfl, H7, ⟨mO⟩, HO, BM, BF, HB⟩
         ·
          rw [if_neg c3_] at H
          cases H
        ·
         rw [if_neg c2_] at H
         cases H
       ·
        rw [if_neg c1_] at H; have wB : decide (i < (af.length : Int)) = false := decide_eq_false c1_; obtain rfl := Option.some.inj H; clear H hnx c1_ hcf; go_wp2; go_roundg k1
        case measure => exact mO
        case rel => exact ⟨_, _, rfl, H5, ⟨mO⟩, HO, BM, BF, HB⟩
     · rw [if_neg c1_] at H; have wB : decide (nn < (ag.length : Int)) = false := decide_eq_false c1_; obtain rfl := Option.some.inj H; clear H c1_; go_wp2; go_ret; exact ⟨_, rfl, HO.out, HB.out⟩
 ·
  rw [if_neg hn] at h
  cases h
def j8.f (a0 : Int) (a1 : Int) (a2 : Int) : Option (Bool) := if a0 ≥ a1 then (some (decide (a0 ≤ a2))) else (some false)
set_option maxHeartbeats 8000000 in
set_option maxRecDepth 100000 in
theorem j8.calls (a0 : Int) (a1 : Int) (a2 : Int) (r : Bool) (w : World) (h : j8.f a0 a1 a2 = some r) :
  Calls Try.prog 63 #[.int .i64 a0, .int .i64 a1, .int .i64 a2] w fun e w' => e = .returned (.bool r) ∧ fj w w' := by
 have H := h; clear h; unfold j8.f at H
 replace H := gB H; rcases H with ⟨kR, H⟩ | ⟨kR, H⟩
 · obtain rfl := Option.some.inj H; go_enter Try.func63, Try.ntmps63; go_wp2; go_ret; exact ⟨by first | rfl | (simp; done) | (simp [*]; done), qj_⟩
 · obtain rfl := Option.some.inj H; go_enter Try.func63, Try.ntmps63; go_wp2; go_ret; exact ⟨by first | rfl | (simp; done) | (simp [*]; done), qj_⟩
mutual
def fz.l0 : Nat → List Int → Int → Option (Bool)
 | 0, _, _ => none
 | k + 1, x0, x3 => if x3 < (x0.length : Int) then (if 0 ≤ x3 then ((j8.f (rd x0 x3) 0 (wrap64 ((x0.length : Int) - 1))).bind fun JI => (if JI = true then (fz.l1 k x0 x3 0) else (some false))) else (none)) else ((j8.f (x0.length : Int) 1 12).bind fun JJ => (some JJ))
def fz.l1 : Nat → List Int → Int → Int → Option (Bool)
 | 0, _, _, _ => none
 | k + 1, x0, x3, x4 => if x4 < x3 then (if 0 ≤ x4 then (if x4 < (x0.length : Int) then (if 0 ≤ x3 then (if x3 < (x0.length : Int) then (if (rd x0 x4) = (rd x0 x3) then (some false) else (fz.l1 k x0 x3 (wrap64 (x4 + 1)))) else (none)) else (none)) else (none)) else (none)) else (fz.l0 k x0 (wrap64 (x3 + 1)))
end
def fz.f (k : Nat) (l0 : List Int) : Option (Bool) := fz.l0 k l0 0
set_option maxHeartbeats 8000000 in
set_option maxRecDepth 100000 in
theorem fz.calls (k : Nat) (A0 : Option Addr) (c0 : Nat) (l0 : List Int) (r : Bool) (w : World) (hr0 : Kd.C (Kd.int .i64) w A0 l0.length l0) (hc0 : l0.length ≤ c0) (h : fz.f k l0 = some r) :
  Calls Try.prog 125 #[.slice A0 l0.length c0] w fun e w' => e = .returned (.bool r) ∧ fj w w' := by
 have de := Az hr0; have gz := Az hc0; clear hr0 hc0; have H := h; clear h; unfold fz.f at H; have H' := Az H; clear H; go_enter Try.func125, Try.ntmps125; go_wp2
 repeat (go_quiet (fail); try go_wp2)
 go_loopg [3] k (fun kq v3 w' => ∃ (aD : Int), v3 = .int .i64 aD ∧ ae (fz.l0 kq l0 aD = some r) ∧ ae (kq ≤ k) ∧ fj w w')
 case atStart => exact ⟨(0), rS, H', ⟨Nat.le_refl _⟩, qj_⟩
 case round =>
  clear H'; obtain ⟨aD, rfl, HA, eO, ⟨m1, rfl⟩⟩ := hrel
  rcases gk with _ | k1
  exact (nN HA.out).elim; have H := HA.out; clear HA; simp only [fz.l0] at H
  by_cases c2 : aD < (l0.length : Int)
  ·
   rw [if_pos c2] at H; have qo := decide_eq_true c2; clear c2; replace H := gD1 H; obtain ⟨ly, H⟩ := H; replace H := bd H; obtain ⟨JI, A4, H⟩ := H
   by_cases c5 : JI = true
   ·
    subst c5; rw [if_pos rfl] at H; have H' := Az H; clear H; obtain ⟨acg, JK, ach, aci, acj⟩ := aI de.out aD
    cases JK
    go_wp2_with (first | (go_at_call 63; (with_reducible refine (j8.calls (rd l0 aD) 0 (wrap64 ((l0.length : Int) - 1)) true _ A4.out).mono ?_); rintro e w' ⟨rfl, ⟨nd, rfl⟩⟩))
    repeat (go_quiet (fail); try go_wp2_with (fail))
    go_loopg [4] k1 (fun kq v4 w' => ∃ (eV : Int), v4 = .int .i64 eV ∧ ae (fz.l1 kq l0 aD eV = some r) ∧ ae (kq ≤ k1) ∧ fj w w')
    case atStart => exact ⟨(0), rS, H', ⟨Nat.le_refl _⟩, qj_⟩
    case round =>
     clear H'; obtain ⟨eV, rfl, HA, fp, ⟨m2, rfl⟩⟩ := hrel
     rcases gk with _ | k2
     exact (nN HA.out).elim; have H := HA.out; clear HA; simp only [fz.l1] at H
     replace H := gB H; rcases H with ⟨iK, H⟩ | ⟨iK, H⟩
     ·
      replace H := gD4 H; obtain ⟨iw, iJ, nX, nY, H⟩ := H
      replace H := gQ H; rcases H with ⟨oM, D9, H⟩ | ⟨oM, D9, H⟩
      ·
       obtain rfl := Option.some.inj H; obtain ⟨ack, acl, acm⟩ := aJ de.out eV; obtain ⟨acn, aco, acp⟩ := aJ de.out aD; go_wp2
       repeat (go_quiet (fail); try go_wp2)
       go_ret; exact ⟨by first | rfl | (simp; done) | (simp [*]; done), qj_⟩
      ·
       have H' := Az H; clear H; obtain ⟨ack, acl, acm⟩ := aJ de.out eV; obtain ⟨acn, aco, acp⟩ := aJ de.out aD; go_wp2
       repeat (go_quiet (fail); try go_wp2)
       go_roundg k2
       case measure => exact mO
       case rel => exact ⟨(wrap64 (eV + 1)), rS, H', ⟨mO⟩, qj_⟩
     ·
      have H' := Az H; clear H; go_wp2
      repeat (go_quiet (fail); try go_wp2)
      go_roundg k2
      case measure => exact mO
      case rel => exact ⟨(wrap64 (aD + 1)), rS, H', ⟨mO⟩, qj_⟩
   ·
    replace c5 := Bool.eq_false_iff.mpr c5; subst c5; rw [if_neg nT] at H; obtain rfl := Option.some.inj H; obtain ⟨acg, JK, ach, aci, acj⟩ := aI de.out aD
    cases JK
    go_wp2_with (first | (go_at_call 63; (with_reducible refine (j8.calls (rd l0 aD) 0 (wrap64 ((l0.length : Int) - 1)) false _ A4.out).mono ?_); rintro e w' ⟨rfl, ⟨nd, rfl⟩⟩))
    repeat (go_quiet (fail); try go_wp2_with (fail))
    go_ret; exact ⟨by first | rfl | (simp; done) | (simp [*]; done), qj_⟩
  ·
   rw [if_neg c2] at H; have qo := decide_eq_false c2; clear c2; replace H := bd H; obtain ⟨JJ, JB, H⟩ := H; obtain rfl := Option.some.inj H
   go_wp2_with (first | (go_at_call 63; (with_reducible refine (j8.calls (l0.length : Int) 1 12 JJ _ JB.out).mono ?_); rintro e w' ⟨rfl, ⟨nd, rfl⟩⟩))
   repeat (go_quiet (fail); try go_wp2_with (fail))
   go_ret; exact ⟨by first | rfl | (simp; done) | (simp [*]; done), qj_⟩
def oE.f (k : Nat) (l0 : List Int) (l1 : List Int) : Option (Bool) := (fz.f k l0).bind fun JL => (if JL = true then ((fz.f k l1).bind fun JM => (if JM = true then (some ((l0.length : Int) == (l1.length : Int))) else (some false))) else (some false))
set_option maxHeartbeats 8000000 in
set_option maxRecDepth 100000 in
theorem oE.calls (k : Nat) (A0 : Option Addr) (c0 : Nat) (l0 : List Int) (A1 : Option Addr) (c1 : Nat) (l1 : List Int) (r : Bool) (w : World) (hr0 : Kd.C (Kd.int .i64) w A0 l0.length l0) (hc0 : l0.length ≤ c0) (hr1 : Kd.C (Kd.int .i64) w A1 l1.length l1) (hc1 : l1.length ≤ c1) (h : oE.f k l0 l1 = some r) :
  Calls Try.prog 111 #[.slice A0 l0.length c0, .slice A1 l1.length c1] w fun e w' => e = .returned (.bool r) ∧ fj w w' := by
 have de := Az hr0; have gz := Az hc0; clear hr0 hc0; have HR1 := Az hr1; have mq := Az hc1; clear hr1 hc1; have H := h; clear h; unfold oE.f at H; replace H := bd H; obtain ⟨JL, A3, H⟩ := H
 by_cases c4 : JL = true
 ·
  subst c4; rw [if_pos rfl] at H; replace H := bd H; obtain ⟨JM, A5, H⟩ := H
  by_cases c6 : JM = true
  ·
   subst c6; rw [if_pos rfl] at H; obtain rfl := Option.some.inj H; go_enter Try.func111, Try.ntmps111
   go_wp2_with (first | ((with_reducible refine gK 125 rfl ?_); refine gC (some 6) Try.func125 #[.slice A0 l0.length c0] ?_; (with_reducible refine (fz.calls k _ _ l0 true _ ?_ ?_ A3.out).mono ?_); exact cU (de.out); exact gz.out; rintro e w' ⟨rfl, ⟨nd, rfl⟩⟩; refine ⟨_, rfl, ?_⟩) | (go_at_call 125; (with_reducible refine (fz.calls k _ _ l1 true _ ?_ ?_ A5.out).mono ?_); exact cU (HR1.out); exact mq.out; rintro e w' ⟨rfl, ⟨nd, rfl⟩⟩))
   go_ret; exact ⟨by first | rfl | (simp; done) | (simp [*]; done), qj_⟩
  ·
   replace c6 := Bool.eq_false_iff.mpr c6; subst c6; rw [if_neg nT] at H; obtain rfl := Option.some.inj H; go_enter Try.func111, Try.ntmps111
   go_wp2_with (first | ((with_reducible refine gK 125 rfl ?_); refine gC (some 6) Try.func125 #[.slice A0 l0.length c0] ?_; (with_reducible refine (fz.calls k _ _ l0 true _ ?_ ?_ A3.out).mono ?_); exact cU (de.out); exact gz.out; rintro e w' ⟨rfl, ⟨nd, rfl⟩⟩; refine ⟨_, rfl, ?_⟩) | (go_at_call 125; (with_reducible refine (fz.calls k _ _ l1 false _ ?_ ?_ A5.out).mono ?_); exact cU (HR1.out); exact mq.out; rintro e w' ⟨rfl, ⟨nd, rfl⟩⟩))
   go_ret; exact ⟨by first | rfl | (simp; done) | (simp [*]; done), qj_⟩
 ·
  replace c4 := Bool.eq_false_iff.mpr c4; subst c4; rw [if_neg nT] at H; obtain rfl := Option.some.inj H; go_enter Try.func111, Try.ntmps111
  go_wp2_with (first | ((with_reducible refine gK 125 rfl ?_); refine gC (some 6) Try.func125 #[.slice A0 l0.length c0] ?_; (with_reducible refine (fz.calls k _ _ l0 false _ ?_ ?_ A3.out).mono ?_); exact cU (de.out); exact gz.out; rintro e w' ⟨rfl, ⟨nd, rfl⟩⟩; refine ⟨_, rfl, ?_⟩))
  go_ret; exact ⟨by first | rfl | (simp; done) | (simp [*]; done), qj_⟩
def mW.l0 : Nat → Int → List Int → Int → Option (List Int)
 | 0, _, _, _ => none
 | k + 1, x0, x3, x4 => if x4 < x0 then (if x3.length < 17592186044416 then (mW.l0 k x0 (x3 ++ [x4]) (wrap64 (x4 + 1))) else (none)) else (some x3)
def mW.f (k : Nat) (a0 : Int) : Option (List Int) := mW.l0 k a0 (([] : List Int)) 0
set_option maxHeartbeats 8000000 in
set_option maxRecDepth 100000 in
theorem mW.calls (k : Nat) (a0 : Int) (r : List Int) (w : World) (h : mW.f k a0 = some r) :
  Calls Try.prog 126 #[.int .i64 a0] w fun e w' => ∃ bK : Value, e = .returned (bK) ∧ Kd.R (Kd.int .i64) 3 w' w.heap.size (fun _ => True) bK r ∧ Below w.heap.size w w' := by
 have HB := bZ w; have H := h; clear h; unfold mW.f at H; generalize Ea : (([] : List Int) : List Int) = y420 at H; replace Ea := Ay Ea; have H' := Az H; clear H; go_enter Try.func126, Try.ntmps126
 go_wp2_with (first | ((with_reducible refine gd 5 rfl ?_); refine Kd.iE (Kd.int .i64) _ 3 rfl (N := 5) rfl (xs := ([] : List Int)) (inner := []) (ok := fun _ => True) (okp := fun _ => True) hS ?hp (fun _ hk => hk) trivial (Below.refl _ _) (Nat.le_refl _) (by simp) ?_; (case hp => exact (Reps.none _ _)); intro akC w2 ho3 hb hg_ hnew_; clear hg_ hnew_; (first | rw [← Ea.out] at ho3 | (simp only [Int.reduceToNat] at ho3; rw [← Ea.out] at ho3)); have acr := Az (Kd.bu ho3 (be (bU0 HB.out))); replace HB := Az (au (bU0 HB.out) hb); clear hb ho3))
 go_loopg [3, 4] k (fun kq v3 v4 w' => ∃ (aD : List Int) (bq : Int), v4 = .int .i64 bq ∧ ae (mW.l0 kq a0 aD bq = some r) ∧ ae (kq ≤ k) ∧ ae (Kd.R (Kd.int .i64) 3 w' w.heap.size (fun _ => True) v3 aD) ∧ ae (Below w.heap.size w w'))
 case atStart => exact ⟨(y420), (0), rS, H', ⟨Nat.le_refl _⟩, ⟨rU acr.out⟩, ⟨bU0 HB.out⟩⟩
 case round =>
  clear H'; obtain ⟨aD, bq, rfl, HA, eO, aC, HB⟩ := hrel
  rcases gk with _ | k1
  exact (nN HA.out).elim; have H := HA.out; clear HA; simp only [mW.l0] at H
  replace H := gB H; rcases H with ⟨kR, H⟩ | ⟨kR, H⟩
  ·
   replace H := gP H; obtain ⟨c5, H⟩ := H; have JN := Az c5; clear c5; generalize JO : (aD ++ [bq] : List Int) = y423 at H; replace JO := Ay JO; have H' := Az H; clear H
   go_wp2_with (first | ((with_reducible refine ki (b := .append) (xs := #[.tmp 11, .tmp 13]) rfl ?_); at_builtin; refine Kd.kP (Kd.int .i64) (w0 := w) w.heap.size rfl (.tmp 11) (.tmp 13) 23 3 (.int .i64 0) 8 rfl Try.underlying23 dP rfl (by decide) (by omega) u3 aD bq [.int .i64 bq] (fun _ => True) (fun _ => False) rfl rfl ?aP (fun _ hk => hk.elim) ?aF ?aO ?aB ?aS ?aL ?_; (case aP => exact rfl); (case aB => exact (bU0 HB.out)); (case aF => exact (fun _ _ => trivial)); (case aO => exact (rU aC.out)); (case aS => exact (be (bU0 HB.out))); (case aL => have := JN.out; omega); intro akD w6 ho hb hg hat; rw [← JO.out] at ho; replace HB := Az (hb); have acs := Az (ho); clear aC ho hb hg hat))
   go_roundg k1
   case measure => exact mO
   case rel => exact ⟨(y423), (wrap64 (bq + 1)), rS, H', ⟨mO⟩, ⟨rU acs.out⟩, ⟨bU0 HB.out⟩⟩
  · obtain rfl := Option.some.inj H; go_wp2; go_ret; exact ⟨_, rE, rU aC.out, bU0 HB.out⟩
mutual
def hU.l0 : Nat → List Int → List Int → List Int → Int → Option (List Int)
 | 0, _, _, _, _ => none
 | k + 1, x0, x1, x5, x6 => if x6 < (x0.length : Int) then (hU.l1 k x0 x1 x5 x6 0) else (some x5)
def hU.l1 : Nat → List Int → List Int → List Int → Int → Int → Option (List Int)
 | 0, _, _, _, _, _ => none
 | k + 1, x0, x1, x5, x6, x7 => if x7 < (x0.length : Int) then (if 0 ≤ x7 then (if x7 < (x5.length : Int) then (if 0 ≤ (rd x0 x7) then (if (rd x0 x7) < (x5.length : Int) then (if x7 < (x1.length : Int) then (if 0 ≤ (rd x1 x7) then (if (rd x1 x7) < (x5.length : Int) then (hU.l1 k x0 x1 (((x5.set (x7 : Int).toNat (mn (rd x5 x7) (mn (rd x5 (rd x0 x7)) (rd x5 (rd x1 x7))))).set ((rd x0 x7) : Int).toNat (mn (rd x5 x7) (mn (rd x5 (rd x0 x7)) (rd x5 (rd x1 x7))))).set ((rd x1 x7) : Int).toNat (mn (rd x5 x7) (mn (rd x5 (rd x0 x7)) (rd x5 (rd x1 x7))))) x6 (wrap64 (x7 + 1))) else (none)) else (none)) else (none)) else (none)) else (none)) else (none)) else (none)) else (hU.l0 k x0 x1 x5 (wrap64 (x6 + 1)))
end
def hU.f (k : Nat) (l0 : List Int) (l1 : List Int) : Option (List Int) := (mW.f k (l0.length : Int)).bind fun Eb => (hU.l0 k l0 l1 Eb 0)
set_option maxHeartbeats 8000000 in
set_option maxRecDepth 100000 in
theorem hU.calls (k : Nat) (A0 : Option Addr) (c0 : Nat) (l0 : List Int) (A1 : Option Addr) (c1 : Nat) (l1 : List Int) (r : List Int) (w : World) (hr0 : Kd.C (Kd.int .i64) w A0 l0.length l0) (hc0 : l0.length ≤ c0) (hr1 : Kd.C (Kd.int .i64) w A1 l1.length l1) (hc1 : l1.length ≤ c1) (h : hU.f k l0 l1 = some r) :
  Calls Try.prog 112 #[.slice A0 l0.length c0, .slice A1 l1.length c1] w fun e w' => ∃ bK : Value, e = .returned (bK) ∧ Kd.R (Kd.int .i64) 3 w' w.heap.size (fun _ => True) bK r ∧ Below w.heap.size w w' := by
 have de := Az hr0; have gz := Az hc0; clear hr0 hc0; have HR1 := Az hr1; have mq := Az hc1; clear hr1 hc1; have HB := bZ w; have H := h; clear h; unfold hU.f at H; replace H := bd H; obtain ⟨Eb, A3, H⟩ := H; have H' := Az H; clear H; go_enter Try.func112, Try.ntmps112
 go_wp2_with (first | (go_at_call 126; (with_reducible refine (mW.calls k (l0.length : Int) Eb _ A3.out).mono ?_); rintro e w4 ⟨TM, rfl, ho0, hb⟩; have acu := Az (Kd.bu ho0 (be (bU0 HB.out))); replace HB := Az (au (bU0 HB.out) hb); clear hb ho0))
 repeat (go_quiet (fail); try go_wp2_with (fail))
 go_loopg [6] k (fun kq v6 w' => ∃ (bs : List Int) (e7 : Int), v6 = .int .i64 e7 ∧ ae (hU.l0 kq l0 l1 bs e7 = some r) ∧ ae (kq ≤ k) ∧ ae (Kd.R (Kd.int .i64) 3 w' w.heap.size (fun _ => True) TM bs) ∧ ae (Below w.heap.size w w'))
 case atStart => exact ⟨(Eb), (0), rS, H', ⟨Nat.le_refl _⟩, ⟨rU acu.out⟩, ⟨bU0 HB.out⟩⟩
 case round =>
  clear H'; obtain ⟨bs, e7, rfl, HA, eO, bP, HB⟩ := hrel
  rcases gk with _ | k1
  exact (nN HA.out).elim; have H := HA.out; clear HA; simp only [hU.l0] at H
  by_cases c5 : e7 < (l0.length : Int)
  ·
   rw [if_pos c5] at H; have nZ := decide_eq_true c5; clear c5; have H' := Az H; clear H; go_wp2
   repeat (go_quiet (fail); try go_wp2)
   go_loopg [7] k1 (fun kq v7 w' => ∃ (fq : List Int) (bj : Int), v7 = .int .i64 bj ∧ ae (hU.l1 kq l0 l1 fq e7 bj = some r) ∧ ae (kq ≤ k1) ∧ ae (Kd.R (Kd.int .i64) 3 w' w.heap.size (fun _ => True) TM fq) ∧ ae (Below w.heap.size w w'))
   case atStart => exact ⟨(bs), (0), rS, H', ⟨Nat.le_refl _⟩, ⟨rU bP.out⟩, ⟨bU0 HB.out⟩⟩
   case round =>
    clear H'; obtain ⟨fq, bj, rfl, HA, fp, bP, HB⟩ := hrel
    rcases gk with _ | k2
    exact (nN HA.out).elim; have H := HA.out; clear HA; simp only [hU.l1] at H
    replace H := gB H; rcases H with ⟨iK, H⟩ | ⟨iK, H⟩
    ·
     replace H := gD6 H; obtain ⟨iw, iJ, nX, nY, oM, wa, H⟩ := H; replace H := gD1 H; obtain ⟨re, H⟩ := H; obtain ⟨yx, wC⟩ : ∃ j_ : Int, (mn (rd fq (rd l0 bj)) (rd fq (rd l1 bj))) = j_ := ⟨_, rfl⟩; (first | rw [wC] at H | simp only [wC] at H); have akE : (if (rd fq (rd l1 bj)) < (rd fq (rd l0 bj)) then (rd fq (rd l1 bj)) else (rd fq (rd l0 bj))) = yx := wC; obtain ⟨hY, wu⟩ : ∃ j_ : Int, (mn (rd fq bj) (yx)) = j_ := ⟨_, rfl⟩; (first | rw [wu] at H | simp only [wu] at H); have abn : (if (yx) < (rd fq bj) then (yx) else (rd fq bj)) = hY := wu; generalize JP : (fq.set (bj : Int).toNat (hY) : List Int) = y434 at H; replace JP := Ay JP; generalize JQ : (y434.set ((rd l0 bj) : Int).toNat (hY) : List Int) = y436 at H; replace JQ := Ay JQ; generalize JR : (y436.set ((rd l1 bj) : Int).toNat (hY) : List Int) = y438 at H; replace JR := Ay JR; have H' := Az H; clear H; obtain ⟨bA, bm, uk⟩ := Kd.aU bP.out; subst uk; obtain ⟨akF, acv, _, _, acw⟩ := aI (Kd.av bP.out).2.2 bj
     cases acv; obtain ⟨akG, acx, _, _, TN⟩ := aI de.out bj
     cases acx
     replace TN := hT HB.out TN; obtain ⟨_, _, acy⟩ := aJ (Kd.av bP.out).2.2 (rd l0 bj); obtain ⟨akH, acz, _, _, TO⟩ := aI HR1.out bj
     cases acz
     replace TO := hT HB.out TO; obtain ⟨_, _, acA⟩ := aJ (Kd.av bP.out).2.2 (rd l1 bj); have p16 : 0 ≤ (bj : Int) := oA; have q16 : (bj : Int) < ((fq.length : Int) : Int) := oA; obtain ⟨sG, acB, AH, TP, acC, akI, TQ⟩ := Kd.ky bP.out (by omega); (first | cases AH | (injection AH with ea_ en_ ec_; (first | subst ea_ | (injection ea_ with ea_; subst ea_)); subst ec_; clear en_)); have JS := Az TP; have akJ := Az TQ; clear TP acC TQ; simp only [add_plain] at acw; simp only [add_plain] at acy; simp only [add_plain] at acA; obtain ⟨akK, akL⟩ := Kd.dw 0 bP.out (bj : Int) p16 q16; replace p16 := eq_true p16; replace q16 := eq_true q16; obtain ⟨acD, acE⟩ := Kd.dw 0 bP.out (bj : Int) (oA) (oA); have Ec := Kd.jS bP.out (bj : Int) hY
     go_wp2_with (fail)
     repeat (go_quiet (fail); try go_wp2_with (first | ((with_reducible refine gs 3 47 rfl ?_); (rw [Il wr]; generalize hq_ : World.drewN wr _ = wr; replace bP := Az (Kd.Ij hq_ bP.out); replace HB := Az (Hm hq_ HB.out); clear hq_; (obtain ⟨acD, acE⟩ := Kd.dw 0 bP.out (bj : Int) (oA) (oA)); (have Ec := Kd.jS bP.out (bj : Int) hY)); refine sE 3 47 (wr.setCell ⟨sG, (bj : Int).toNat, none⟩ (.int .i64 hY)) ?_; intro pM hw; have hg : wr.grownBy pM (some sG) := (by rw [hw]; exact Ec.2); have hp_ : Kd.R (Kd.int .i64) 3 pM w.heap.size (fun _ => True) (.slice (some ⟨sG, 0, none⟩) fq.length bm) y434 := (by rw [hw, JP.out]; exact Ec.1); clear Ec; replace bP := Az (hp_); replace HB := Az ((by rw [hw]; exact ai (HB.out) JS.out : Below w.heap.size w pM)); clear hg hw hp_; obtain ⟨_, _, TR⟩ := aJ de.out bj; replace TR := hT HB.out TR; have JU : 0 ≤ ((rd l0 bj) : Int) := oA; have JV : ((rd l0 bj) : Int) < ((fq.length : Int) : Int) := oA; obtain ⟨akM, akN⟩ := Kd.dw 0 bP.out ((rd l0 bj) : Int) JU JV; replace JU := eq_true JU; replace JV := eq_true JV; obtain ⟨Tm, Tn⟩ := Kd.dw 0 bP.out ((rd l0 bj) : Int) (oA) (oA); have ul := Kd.jS bP.out ((rd l0 bj) : Int) hY) | ((with_reducible refine gs 3 54 rfl ?_); refine sE 3 54 (pM.setCell ⟨sG, ((rd l0 bj) : Int).toNat, none⟩ (.int .i64 hY)) ?_; intro fA hw; have hg : pM.grownBy fA (some sG) := (by rw [hw]; exact ul.2); have hp_ : Kd.R (Kd.int .i64) 3 fA w.heap.size (fun _ => True) (.slice (some ⟨sG, 0, none⟩) fq.length bm) y436 := (by rw [hw, JQ.out]; exact ul.1); clear ul; replace bP := Az (hp_); replace HB := Az ((by rw [hw]; exact ai (HB.out) JS.out : Below w.heap.size w fA)); clear hg hw hp_; obtain ⟨_, _, TS⟩ := aJ HR1.out bj; replace TS := hT HB.out TS; have JW : 0 ≤ ((rd l1 bj) : Int) := oA; have JX : ((rd l1 bj) : Int) < ((fq.length : Int) : Int) := oA; obtain ⟨akO, akP⟩ := Kd.dw 0 bP.out ((rd l1 bj) : Int) JW JX; replace JW := eq_true JW; replace JX := eq_true JX; obtain ⟨abr, abt⟩ := Kd.dw 0 bP.out ((rd l1 bj) : Int) (oA) (oA); have wv := Kd.jS bP.out ((rd l1 bj) : Int) hY) | ((with_reducible refine gs 3 61 rfl ?_); refine sE 3 61 (fA.setCell ⟨sG, ((rd l1 bj) : Int).toNat, none⟩ (.int .i64 hY)) ?_; intro lY hw; have hg : fA.grownBy lY (some sG) := (by rw [hw]; exact wv.2); have hp_ : Kd.R (Kd.int .i64) 3 lY w.heap.size (fun _ => True) (.slice (some ⟨sG, 0, none⟩) fq.length bm) y438 := (by rw [hw, JR.out]; exact wv.1); clear wv; replace bP := Az (hp_); replace HB := Az ((by rw [hw]; exact ai (HB.out) JS.out : Below w.heap.size w lY)); clear hg hw hp_)))
     go_roundg k2
     case measure => exact mO
     case rel => exact ⟨(y438), (wrap64 (bj + 1)), rS, H', ⟨mO⟩, ⟨rU bP.out⟩, ⟨bU0 HB.out⟩⟩
    ·
     have H' := Az H; clear H; go_wp2
     repeat (go_quiet (fail); try go_wp2)
     go_roundg k2
     case measure => exact mO
     case rel => exact ⟨(fq), (wrap64 (e7 + 1)), rS, H', ⟨mO⟩, ⟨rU bP.out⟩, ⟨bU0 HB.out⟩⟩
  ·
   rw [if_neg c5] at H; have nZ := decide_eq_false c5; clear c5; obtain rfl := Option.some.inj H; go_wp2
   repeat (go_quiet (fail); try go_wp2)
   go_ret; exact ⟨_, rE, rU bP.out, bU0 HB.out⟩
mutual
def eL.l0 : Nat → Int → List Int → List Int → Option (Bool)
 | 0, _, _, _ => none
 | k + 1, x3, bL, bJ => if x3 < (bJ.length : Int) then (if 0 ≤ x3 then (if (rd bJ x3) = x3 then (some false) else (if 0 ≤ (rd bJ x3) then (if (rd bJ x3) < (bJ.length : Int) then (if (rd bJ (rd bJ x3)) = x3 then (eL.l0 k (wrap64 (x3 + 1)) bL bJ) else (some false)) else (none)) else (none))) else (none)) else ((hU.f k bL bJ).bind fun AJ => (eL.l1 k AJ 0))
def eL.l1 : Nat → List Int → Int → Option (Bool)
 | 0, _, _ => none
 | k + 1, x4, x5 => if x5 < (x4.length : Int) then (if 0 ≤ x5 then (if (rd x4 x5) = 0 then (eL.l1 k x4 (wrap64 (x5 + 1))) else (some false)) else (none)) else (some true)
end
def eL.f (k : Nat) (ag : List Int) (af : List Int) : Option (Bool) := (oE.f k ag af).bind fun JY => (if JY = true then (eL.l0 k 0 ag af) else (some false))
set_option maxHeartbeats 8000000 in
set_option maxRecDepth 100000 in
theorem eL.calls (k : Nat) (aA : Option Addr) (az : Nat) (ag : List Int) (am : Option Addr) (al : Nat) (af : List Int) (r : Bool) (w : World) (dR : Kd.C (Kd.int .i64) w aA ag.length ag) (d7 : ag.length ≤ az) (dl : Kd.C (Kd.int .i64) w am af.length af) (dq : af.length ≤ al) (h : eL.f k ag af = some r) :
  Calls Try.prog 90 #[.agg #[.slice aA ag.length az, .slice am af.length al]] w fun e w' => e = .returned (.bool r) ∧ Below w.heap.size w w' := by
 have jZ := Try.underlying29; have dr := Az dR; have cZ := Az d7; clear dR d7; have cH := Az dl; have cQ := Az dq; clear dl dq; have HB := bZ w; have H := h; clear h; unfold eL.f at H; replace H := bd H; obtain ⟨JY, A2, H⟩ := H
 by_cases c3 : JY = true
 ·
  subst c3; rw [if_pos rfl] at H; have H' := Az H; clear H; go_enter Try.func90, Try.ntmps90
  go_wp2_with (first | ((with_reducible refine gd 1 rfl ?_); refine bE 1 #[.slice aA ag.length az, .slice am af.length al] 29 ?_; intro JZ hg w4 hbox hb; have ng := Az (hbox); have pN := gW hg (bU0 HB.out); replace HB := Az (au (bU0 HB.out) hb); clear hb hbox hg; have hz5 := bc2 ng.out) | (go_at_call 111; (with_reducible refine (oE.calls k _ _ ag _ _ af true _ ?_ ?_ ?_ ?_ A2.out).mono ?_); exact cU (Kd.cd dr.out HB.out); exact cZ.out; exact cU (Kd.cd cH.out HB.out); exact cQ.out; rintro e w' ⟨rfl, ⟨nd, rfl⟩⟩))
  repeat (go_quiet (fail); try go_wp2_with (fail))
  go_loopg [3] k (fun kq v3 w' => ∃ (aD : Int), v3 = .int .i64 aD ∧ ae (eL.l0 kq aD ag af = some r) ∧ ae (kq ≤ k) ∧ ae (w'.heap[JZ]? = some (.cells #[(.slice aA ag.length az), (.slice am af.length al)] 29 (0, 0))) ∧ ae (Below w.heap.size w w'))
  case atStart => exact ⟨(0), rS, H', ⟨Nat.le_refl _⟩, ⟨kU ng.out⟩, ⟨bU1 HB.out pN.out⟩⟩
  case round =>
   clear H'; obtain ⟨aD, rfl, HA, eO, ng, HB⟩ := hrel
   rcases gk with _ | k1
   exact (nN HA.out).elim; have H := HA.out; clear HA; simp only [eL.l0] at H
   by_cases c6 : aD < (af.length : Int)
   ·
    rw [if_pos c6] at H; have iK := decide_eq_true c6; clear c6; replace H := gD1 H; obtain ⟨iw, H⟩ := H
    replace H := gQ H; rcases H with ⟨iJ, J0, H⟩ | ⟨iJ, J0, H⟩
    ·
     obtain rfl := Option.some.inj H; have D6 := bc2 ng.out; obtain ⟨TT, AK, TU, TV, ut⟩ := aI cH.out aD
     cases AK
     replace ut := hT HB.out ut; go_wp2
     repeat (go_quiet (fail); try go_wp2)
     go_ret; exact ⟨rE, bU1 HB.out pN.out⟩
    ·
     replace H := gD2 H; obtain ⟨nY, oM, H⟩ := H
     replace H := gQ H; rcases H with ⟨wa, acG, H⟩ | ⟨wa, acG, H⟩
     ·
      have H' := Az H; clear H; have Av := bc2 ng.out; obtain ⟨TT, AK, TU, TV, ut⟩ := aI cH.out aD
      cases AK
      replace ut := hT HB.out ut; obtain ⟨acH, acI, AL⟩ := aJ cH.out aD; replace AL := hT HB.out AL; obtain ⟨acJ, acK, AM⟩ := aJ cH.out (rd af aD); replace AM := hT HB.out AM; go_wp2
      repeat (go_quiet (fail); try go_wp2)
      go_roundg k1
      case measure => exact mO
      case rel => exact ⟨(wrap64 (aD + 1)), rS, H', ⟨mO⟩, ⟨kU ng.out⟩, ⟨bU1 HB.out pN.out⟩⟩
     ·
      obtain rfl := Option.some.inj H; have J1 := bc2 ng.out; obtain ⟨TT, AK, TU, TV, ut⟩ := aI cH.out aD
      cases AK
      replace ut := hT HB.out ut; obtain ⟨acH, acI, AL⟩ := aJ cH.out aD; replace AL := hT HB.out AL; obtain ⟨acJ, acK, AM⟩ := aJ cH.out (rd af aD); replace AM := hT HB.out AM; go_wp2
      repeat (go_quiet (fail); try go_wp2)
      go_ret; exact ⟨rE, bU1 HB.out pN.out⟩
   ·
    rw [if_neg c6] at H; have iK := decide_eq_false c6; clear c6; replace H := bd H; obtain ⟨AJ, Ed, H⟩ := H; have H' := Az H; clear H; have TW := bc2 ng.out
    go_wp2_with (first | (go_at_call 112; (with_reducible refine (hU.calls k1 _ _ ag _ _ af AJ _ ?_ ?_ ?_ ?_ Ed.out).mono ?_); exact cU (Kd.cd dr.out HB.out); exact cZ.out; exact cU (Kd.cd cH.out HB.out); exact cQ.out; rintro e J2 ⟨acL, rfl, ho0, hb⟩; have acM := Az (Kd.bu ho0 (be (bU1 HB.out pN.out))); replace ng := kB ng.out hb; replace HB := Az (au (bU1 HB.out pN.out) hb); clear hb ho0))
    repeat (go_quiet (fail); try go_wp2_with (fail))
    go_loopg [5] k1 (fun kq v5 w' => ∃ (fq : Int), v5 = .int .i64 fq ∧ ae (eL.l1 kq AJ fq = some r) ∧ ae (kq ≤ k1) ∧ ae (Kd.R (Kd.int .i64) 3 w' w.heap.size (fun _ => True) acL AJ) ∧ ae (w'.heap[JZ]? = some (.cells #[(.slice aA ag.length az), (.slice am af.length al)] 29 (0, 0))) ∧ ae (Below w.heap.size w w'))
    case atStart => exact ⟨(0), rS, H', ⟨Nat.le_refl _⟩, ⟨rU acM.out⟩, ⟨kU ng.out⟩, ⟨bU1 HB.out pN.out⟩⟩
    case round =>
     clear H'; obtain ⟨fq, rfl, HA, fp, bS, ng, HB⟩ := hrel
     rcases gk with _ | k2
     exact (nN HA.out).elim; have H := HA.out; clear HA; simp only [eL.l1] at H
     replace H := gB H; rcases H with ⟨uu, H⟩ | ⟨uu, H⟩
     ·
      replace H := gD1 H; obtain ⟨TX, H⟩ := H
      replace H := gQ H; rcases H with ⟨yy, TY, H⟩ | ⟨yy, TY, H⟩
      ·
       have H' := Az H; clear H; obtain ⟨SI, wb, uf⟩ := Kd.aU bS.out; subst uf; obtain ⟨acN, J3, acO, acP, acQ⟩ := aI (Kd.av bS.out).2.2 fq
       cases J3; go_wp2
       repeat (go_quiet (fail); try go_wp2)
       go_roundg k2
       case measure => exact mO
       case rel => exact ⟨(wrap64 (fq + 1)), rS, H', ⟨mO⟩, ⟨rU bS.out⟩, ⟨kU ng.out⟩, ⟨bU1 HB.out pN.out⟩⟩
      ·
       obtain rfl := Option.some.inj H; obtain ⟨wD, ug, yj⟩ := Kd.aU bS.out; subst yj; obtain ⟨acN, J3, acO, acP, acQ⟩ := aI (Kd.av bS.out).2.2 fq
       cases J3; go_wp2
       repeat (go_quiet (fail); try go_wp2)
       go_ret; exact ⟨rE, bU1 HB.out pN.out⟩
     ·
      obtain rfl := Option.some.inj H; obtain ⟨AO, AP, AQ⟩ := Kd.aU bS.out; subst AQ; go_wp2
      repeat (go_quiet (fail); try go_wp2)
      go_ret; exact ⟨rE, bU1 HB.out pN.out⟩
 ·
  replace c3 := Bool.eq_false_iff.mpr c3; subst c3; rw [if_neg nT] at H; obtain rfl := Option.some.inj H; go_enter Try.func90, Try.ntmps90
  go_wp2_with (first | ((with_reducible refine gd 1 rfl ?_); refine bE 1 #[.slice aA ag.length az, .slice am af.length al] 29 ?_; intro JZ hg og hbox hb; have ng := Az (hbox); have pN := gW hg (bU0 HB.out); replace HB := Az (au (bU0 HB.out) hb); clear hb hbox hg; have TZ := bc2 ng.out) | (go_at_call 111; (with_reducible refine (oE.calls k _ _ ag _ _ af false _ ?_ ?_ ?_ ?_ A2.out).mono ?_); exact cU (Kd.cd dr.out HB.out); exact cZ.out; exact cU (Kd.cd cH.out HB.out); exact cQ.out; rintro e w' ⟨rfl, ⟨nd, rfl⟩⟩))
  repeat (go_quiet (fail); try go_wp2_with (fail))
  go_ret; exact ⟨rE, bU1 HB.out pN.out⟩
def kQ.l0 : Nat → List Int → List Int → List Int → Int → Option (List Int)
 | 0, _, _, _, _ => none
 | k + 1, x0, x1, x5, x6 => if x6 < (x0.length : Int) then (if 0 ≤ x6 then (if 0 ≤ (rd x0 x6) then (if (rd x0 x6) < (x1.length : Int) then (if x5.length < 17592186044416 then (kQ.l0 k x0 x1 (x5 ++ [rd x1 (rd x0 x6)]) (wrap64 (x6 + 1))) else (none)) else (none)) else (none)) else (none)) else (some x5)
def kQ.f (k : Nat) (l0 : List Int) (l1 : List Int) : Option (List Int) := kQ.l0 k l0 l1 (([] : List Int)) 0
set_option maxHeartbeats 8000000 in
set_option maxRecDepth 100000 in
theorem kQ.calls (k : Nat) (A0 : Option Addr) (c0 : Nat) (l0 : List Int) (A1 : Option Addr) (c1 : Nat) (l1 : List Int) (r : List Int) (w : World) (hr0 : Kd.C (Kd.int .i64) w A0 l0.length l0) (hc0 : l0.length ≤ c0) (hr1 : Kd.C (Kd.int .i64) w A1 l1.length l1) (hc1 : l1.length ≤ c1) (h : kQ.f k l0 l1 = some r) :
  Calls Try.prog 119 #[.slice A0 l0.length c0, .slice A1 l1.length c1] w fun e w' => ∃ bK : Value, e = .returned (bK) ∧ Kd.R (Kd.int .i64) 3 w' w.heap.size (fun _ => True) bK r ∧ Below w.heap.size w w' := by
 have de := Az hr0; have gz := Az hc0; clear hr0 hc0; have HR1 := Az hr1; have mq := Az hc1; clear hr1 hc1; have HB := bZ w; have H := h; clear h; unfold kQ.f at H; generalize Ee : (([] : List Int) : List Int) = y448 at H; replace Ee := Ay Ee; have H' := Az H; clear H; go_enter Try.func119, Try.ntmps119
 go_wp2_with (first | ((with_reducible refine gd 7 rfl ?_); refine Kd.iE (Kd.int .i64) _ 3 rfl (N := 7) rfl (xs := ([] : List Int)) (inner := []) (ok := fun _ => True) (okp := fun _ => True) hS ?hp (fun _ hk => hk) trivial (Below.refl _ _) (Nat.le_refl _) (by simp) ?_; (case hp => exact (Reps.none _ _)); intro akQ w3 jD hb hg_ hnew_; clear hg_ hnew_; (first | rw [← Ee.out] at jD | (simp only [Int.reduceToNat] at jD; rw [← Ee.out] at jD)); have acR := Az (Kd.bu jD (be (bU0 HB.out))); replace HB := Az (au (bU0 HB.out) hb); clear hb jD))
 go_loopg [5, 6] k (fun kq v5 v6 w' => ∃ (bs : List Int) (e7 : Int), v6 = .int .i64 e7 ∧ ae (kQ.l0 kq l0 l1 bs e7 = some r) ∧ ae (kq ≤ k) ∧ ae (Kd.R (Kd.int .i64) 3 w' w.heap.size (fun _ => True) v5 bs) ∧ ae (Below w.heap.size w w'))
 case atStart => exact ⟨(y448), (0), rS, H', ⟨Nat.le_refl _⟩, ⟨rU acR.out⟩, ⟨bU0 HB.out⟩⟩
 case round =>
  clear H'; obtain ⟨bs, e7, rfl, HA, eO, bP, HB⟩ := hrel
  rcases gk with _ | k1
  exact (nN HA.out).elim; have H := HA.out; clear HA; simp only [kQ.l0] at H
  replace H := gB H; rcases H with ⟨nZ, H⟩ | ⟨nZ, H⟩
  ·
   replace H := gD3 H; obtain ⟨iK, iw, iJ, H⟩ := H; replace H := gP H; obtain ⟨c9, H⟩ := H; have acS := Az c9; clear c9; generalize J4 : (bs ++ [rd l1 (rd l0 e7)] : List Int) = y453 at H; replace J4 := Ay J4; have H' := Az H; clear H; obtain ⟨akR, acT, _, _, T0⟩ := aI de.out e7
   cases acT
   replace T0 := hT HB.out T0; obtain ⟨akS, acU, _, _, T2⟩ := aI HR1.out (rd l0 e7)
   cases acU
   replace T2 := hT HB.out T2
   go_wp2_with (first | ((with_reducible refine ki (b := .append) (xs := #[.tmp 14, .tmp 22]) rfl ?_); at_builtin; refine Kd.kP (Kd.int .i64) (w0 := w) w.heap.size rfl (.tmp 14) (.tmp 22) 23 3 (.int .i64 0) 8 rfl Try.underlying23 dP rfl (by decide) (by omega) u5 bs (rd l1 (rd l0 e7)) [.int .i64 (rd l1 (rd l0 e7))] (fun _ => True) (fun _ => False) rfl rfl ?aP (fun _ hk => hk.elim) ?aF ?aO ?aB ?aS ?aL ?_; (case aP => exact rfl); (case aB => exact (bU0 HB.out)); (case aF => exact (fun _ _ => trivial)); (case aO => exact (rU bP.out)); (case aS => exact (be (bU0 HB.out))); (case aL => have := acS.out; omega); intro akT qv ho hb hg hat; rw [← J4.out] at ho; replace HB := Az (hb); have acV := Az (ho); clear bP ho hb hg hat))
   go_roundg k1
   case measure => exact mO
   case rel => exact ⟨(y453), (wrap64 (e7 + 1)), rS, H', ⟨mO⟩, ⟨rU acV.out⟩, ⟨bU0 HB.out⟩⟩
  · obtain rfl := Option.some.inj H; go_wp2; go_ret; exact ⟨_, rE, rU bP.out, bU0 HB.out⟩
def mN.f (k : Nat) (ag : List Int) (af : List Int) : Option (List Int) := (kQ.f k af ag).bind fun J5 => (some J5)
set_option maxHeartbeats 8000000 in
set_option maxRecDepth 100000 in
theorem mN.calls (k : Nat) (aA : Option Addr) (az : Nat) (ag : List Int) (am : Option Addr) (al : Nat) (af : List Int) (r : List Int) (w : World) (dR : Kd.C (Kd.int .i64) w aA ag.length ag) (d7 : ag.length ≤ az) (dl : Kd.C (Kd.int .i64) w am af.length af) (dq : af.length ≤ al) (h : mN.f k ag af = some r) :
  Calls Try.prog 99 #[.agg #[.slice aA ag.length az, .slice am af.length al]] w fun e w' => ∃ bK : Value, e = .returned (bK) ∧ Kd.R (Kd.int .i64) 3 w' w.heap.size (fun _ => True) bK r ∧ Below w.heap.size w w' := by
 have jZ := Try.underlying29; have dr := Az dR; have cZ := Az d7; clear dR d7; have cH := Az dl; have cQ := Az dq; clear dl dq; have HB := bZ w; have H := h; clear h; unfold mN.f at H; replace H := bd H; obtain ⟨J5, A2, H⟩ := H; obtain rfl := Option.some.inj H; go_enter Try.func99, Try.ntmps99
 go_wp2_with (first | ((with_reducible refine gd 1 rfl ?_); refine bE 1 #[.slice aA ag.length az, .slice am af.length al] 29 ?_; intro akU hg w3 hbox hb; have J6 := Az (hbox); have J7 := gW hg (bU0 HB.out); replace HB := Az (au (bU0 HB.out) hb); clear hb hbox hg; have hz4 := bc2 J6.out) | ((with_reducible refine gK 119 rfl ?_); refine gC (some 7) Try.func119 #[.slice am af.length al, .slice aA ag.length az] ?_; (with_reducible refine (kQ.calls k _ _ af _ _ ag J5 _ ?_ ?_ ?_ ?_ A2.out).mono ?_); exact cU (Kd.cd cH.out HB.out); exact cQ.out; exact cU (Kd.cd dr.out HB.out); exact cZ.out; rintro e w5 ⟨akW, rfl, ho0, hb⟩; refine ⟨_, rfl, ?_⟩; have acW := Az (Kd.bu ho0 (be (bU1 HB.out J7.out))); replace J6 := kB J6.out hb; replace HB := Az (au (bU1 HB.out J7.out) hb); clear hb ho0))
 go_ret; exact ⟨_, rE, rU acW.out, bU1 HB.out J7.out⟩
mutual
def fP.l0 : Nat → List Int → List (List Int) → List Bool → Int → Option ((List (List Int)))
 | 0, _, _, _, _ => none
 | k + 1, x0, x3, x4, x5 => if x5 < (x0.length : Int) then (if 0 ≤ x5 then (if x5 < (x4.length : Int) then (if fy false x4 x5 = true then (fP.l0 k x0 x3 x4 (wrap64 (x5 + 1))) else (fP.l1 k x0 x3 x4 x5 (([] : List Int)) x5)) else (none)) else (none)) else (some x3)
def fP.l1 : Nat → List Int → List (List Int) → List Bool → Int → List Int → Int → Option ((List (List Int)))
 | 0, _, _, _, _, _, _ => none
 | k + 1, x0, x3, x4, x5, x6, x7 => if 0 ≤ x7 then (if x7 < (x4.length : Int) then (if fy false x4 x7 = true then (if x3.length < 5864062014805 then (fP.l0 k x0 (x3 ++ [x6]) x4 (wrap64 (x5 + 1))) else (none)) else (if x6.length < 17592186044416 then (if x7 < (x0.length : Int) then (fP.l1 k x0 x3 (x4.set (x7 : Int).toNat true) x5 (x6 ++ [x7]) (rd x0 x7)) else (none)) else (none))) else (none)) else (none)
end
def fP.f (k : Nat) (l0 : List Int) : Option ((List (List Int))) := if 0 ≤ (l0.length : Int) then (if ((l0.length : Int) : Int).toNat ≤ 281474976710656 then (fP.l0 k l0 (([] : List (List Int))) (List.replicate ((l0.length : Int) : Int).toNat false) 0) else (none)) else (none)
set_option maxHeartbeats 8000000 in
set_option maxRecDepth 100000 in
theorem fP.calls (k : Nat) (A0 : Option Addr) (c0 : Nat) (l0 : List Int) (r : List (List Int)) (w : World) (hr0 : Kd.C (Kd.int .i64) w A0 l0.length l0) (hc0 : l0.length ≤ c0) (h : fP.f k l0 = some r) :
  Calls Try.prog 121 #[.slice A0 l0.length c0] w fun e w' => ∃ bK : Value, e = .returned (bK) ∧ Kd.S (Kd.slice 3 (Kd.int .i64)) 23 w' w.heap.size (fun _ => True) bK r ∧ Below w.heap.size w w' := by
 have de := Az hr0; have gz := Az hc0; clear hr0 hc0; have HB := bZ w; have H := h; clear h; unfold fP.f at H; generalize Ef : (([] : List (List Int)) : List (List Int)) = y460 at H; replace Ef := Ay Ef; replace H := gE H; obtain ⟨qo, sn, H⟩ := H; replace H := gE H; obtain ⟨ly, sr, H⟩ := H; generalize Eg : (List.replicate ((l0.length : Int) : Int).toNat false : List Bool) = y463 at H; replace Eg := Ay Eg; have H' := Az H; clear H; go_enter Try.func121, Try.ntmps121
 go_wp2_with (first | ((with_reducible refine gd 8 rfl ?_); refine Kd.Q6 (Kd.slice 3 (Kd.int .i64)) _ 23 rfl (N := 8) rfl (xs := ([] : List (List Int))) (inner := []) (ok := fun _ => True) (okp := fun _ => True) hS ?hp (fun _ hk => hk) trivial (Below.refl _ _) (Nat.le_refl _) (by simp) ?_; (case hp => exact (Reps.none _ _)); intro akX w4 gA hb hg_ hnew_; clear hg_ hnew_; (first | rw [← Ef.out] at gA | (simp only [Int.reduceToNat] at gA; rw [← Ef.out] at gA)); have J8 := Az (Kd.qZ gA (be (bU0 HB.out))); replace HB := Az (au (bU0 HB.out) hb); clear hb gA) | ((with_reducible refine gd 11 rfl ?_); refine Kd.qW Kd.bool _ 4 rfl (N := 11) rfl 93 _ _ rfl (l0.length : Int) rfl rfl Try.underlying93 (.bool false) 1 Pm rfl (by decide) (by omega) false (ok := fun _ => True) (okp := fun _ => True) rfl (fun _ hk => hk) trivial (oA) (Nat.le_trans (Nat.mul_le_mul_right _ (oA : (l0.length : Int).toNat ≤ 281474976710656)) (by omega)) (Below.refl _ _) (Nat.le_refl _) ?_; intro acX w6 ji hb hg_ hnew_; clear hg_ hnew_; (first | rw [← Eg.out] at ji | (simp only [Int.reduceToNat] at ji; rw [← Eg.out] at ji)); replace J8 := sB J8.out hb; have acY := Az (Kd.bu ji (be (bU0 HB.out))); replace HB := Az (au (bU0 HB.out) hb); clear hb ji))
 go_loopg [3, 5] k (fun kq v3 v5 w' => ∃ (aD : List (List Int)) (bq : List Bool) (bs : Int), v5 = .int .i64 bs ∧ ae (fP.l0 kq l0 aD bq bs = some r) ∧ ae (kq ≤ k) ∧ ae (Kd.S (Kd.slice 3 (Kd.int .i64)) 23 w' w.heap.size (fun _ => True) v3 aD) ∧ ae (Kd.R Kd.bool 4 w' w.heap.size (fun _ => True) acX bq) ∧ ae (Below w.heap.size w w'))
 case atStart => exact ⟨(y460), (y463), (0), rS, H', ⟨Nat.le_refl _⟩, ⟨sU J8.out⟩, ⟨rU acY.out⟩, ⟨bU0 HB.out⟩⟩
 case round =>
  clear H'; obtain ⟨aD, bq, bs, rfl, HA, eO, aC, bS, HB⟩ := hrel
  rcases gk with _ | k1
  exact (nN HA.out).elim; have H := HA.out; clear HA; simp only [fP.l0] at H
  by_cases c8 : bs < (l0.length : Int)
  ·
   rw [if_pos c8] at H; have iJ := decide_eq_true c8; clear c8; replace H := gD2 H; obtain ⟨nX, nY, H⟩ := H; obtain ⟨T4, J9⟩ : ∃ b_ : Bool, b_ = (fy false bq bs) := ⟨_, rfl⟩
   replace H : (if T4 = true then (fP.l0 k1 l0 aD bq (wrap64 (bs + 1))) else (fP.l1 k1 l0 aD bq bs (([] : List Int)) bs)) = some r := by rw [← J9] at H; exact H
   have T5 := Az J9; clear J9
   by_cases c12 : T4 = true
   ·
    subst c12; rw [if_pos rfl] at H; have H' := Az H; clear H; obtain ⟨sD, qq, pJ⟩ := Kd.aU bS.out; subst pJ; obtain ⟨Eh, Ka, acZ, ac0, Ei⟩ := aB (Kd.av bS.out).2.2 bs; rw [← T5.out] at Ei
    cases Ka; go_wp2; go_roundg k1
    case measure => exact mO
    case rel => exact ⟨(aD), (bq), (wrap64 (bs + 1)), rS, H', ⟨mO⟩, ⟨sU aC.out⟩, ⟨rU bS.out⟩, ⟨bU0 HB.out⟩⟩
   ·
    replace c12 := Bool.eq_false_iff.mpr c12; subst c12; rw [if_neg nT] at H; generalize Ej : (([] : List Int) : List Int) = y467 at H; replace Ej := Ay Ej; have H' := Az H; clear H; obtain ⟨dx, cE, pL⟩ := Kd.aU bS.out; subst pL; obtain ⟨Eh, Ka, acZ, ac0, Ei⟩ := aB (Kd.av bS.out).2.2 bs; rw [← T5.out] at Ei
    cases Ka
    go_wp2_with (first | ((with_reducible refine gd 22 rfl ?_); refine Kd.iE (Kd.int .i64) _ 3 rfl (N := 22) rfl (xs := ([] : List Int)) (inner := []) (ok := fun _ => True) (okp := fun _ => True) hS ?hp (fun _ hk => hk) trivial (Below.refl _ _) (Nat.le_refl _) (by simp) ?_; (case hp => exact (Reps.none _ _)); intro akY oN yz hb hg_ hnew_; clear hg_ hnew_; (first | rw [← Ej.out] at yz | (simp only [Int.reduceToNat] at yz; rw [← Ej.out] at yz)); replace aC := Az (Kd.pq (sU aC.out) (Kd.ax yz) hb); replace bS := rB bS.out hb; have ac1 := Az (Kd.bu yz (be (bU0 HB.out))); replace HB := Az (au (bU0 HB.out) hb); clear hb yz))
    go_loopg [6, 7] k1 (fun kq v6 v7 w' => ∃ (eV : List Bool) (bU : List Int) (bj : Int), v7 = .int .i64 bj ∧ ae (fP.l1 kq l0 aD eV bs bU bj = some r) ∧ ae (kq ≤ k1) ∧ ae (Kd.S (Kd.slice 3 (Kd.int .i64)) 23 w' w.heap.size (fun k_ => oV k_ v6) u3 aD) ∧ ae (Kd.R Kd.bool 4 w' w.heap.size (fun _ => True) (.slice (some Eh) bq.length cE) eV) ∧ ae (Kd.R (Kd.int .i64) 3 w' w.heap.size (fun _ => True) v6 bU) ∧ ae (Below w.heap.size w w'))
    case atStart => exact ⟨(bq), (y467), (bs), rS, H', ⟨Nat.le_refl _⟩, ⟨by (with_reducible repeat (first | apply Kd.mX | apply Kd.mQ | apply Kd.mR)); exact Kd.ml aC.out (fun _ hk => hk.2)⟩, ⟨rU bS.out⟩, ⟨rU ac1.out⟩, ⟨bU0 HB.out⟩⟩
    case round =>
     clear H'; obtain ⟨eV, bU, bj, rfl, HA, fp, aC, bS, aN, HB⟩ := hrel; have yA := (Kd.av bS.out).1; rw [yA] at bS; simp only [yA]
     rcases gk with _ | k2
     exact (nN HA.out).elim; have H := HA.out; clear HA; simp only [fP.l1] at H; replace H := gD1 H; obtain ⟨yp, H⟩ := H; replace H := gP H; obtain ⟨c18, H⟩ := H; have uu := decide_eq_true c18; clear c18; obtain ⟨Ua, Kb⟩ : ∃ b_ : Bool, b_ = (fy false eV bj) := ⟨_, rfl⟩
     replace H : (if Ua = true then (if aD.length < 5864062014805 then (fP.l0 k2 l0 (aD ++ [bU]) eV (wrap64 (bs + 1))) else (none)) else (if bU.length < 17592186044416 then (if bj < (l0.length : Int) then (fP.l1 k2 l0 aD (eV.set (bj : Int).toNat true) bs (bU ++ [bj]) (rd l0 bj)) else (none)) else (none))) = some r := by rw [← Kb] at H; exact H
     have Ub := Az Kb; clear Kb
     by_cases c20 : Ua = true
     ·
      subst c20; rw [if_pos rfl] at H; replace H := gP H; obtain ⟨c21, H⟩ := H; have ac2 := Az c21; clear c21; generalize Ke : (aD ++ [bU] : List (List Int)) = y471 at H; replace Ke := Ay Ke; have H' := Az H; clear H; obtain ⟨Kf, Kg, ac3, ac4, Ek⟩ := aB (Kd.av bS.out).2.2 bj; rw [← Ub.out] at Ek; obtain rfl : Eh = Kf := (by injection Kg); obtain ⟨AO, AP, AQ⟩ := Kd.aU aN.out; subst AQ
      go_wp2_with (first | ((with_reducible refine ki (b := .append) (xs := #[.tmp 40, .tmp 42]) rfl ?_); at_builtin; refine Kd.Qf (Kd.slice 3 (Kd.int .i64)) (w0 := w) w.heap.size rfl (.tmp 40) (.tmp 42) 82 23 (.slice none 0 0) 24 rfl Try.underlying82 PD rfl (by decide) (by omega) u3 aD bU [.slice AO bU.length AP] (fun _ => True) (fun k_ => some k_ = (.slice AO bU.length AP : Value).ownBlock) rfl rfl ?aP (fun k_ hk_ => ((Kd.ah (ok' := fun k_ => ((fun _ => True)) k_ ∧ oV k_ u3) (Kd.Ie (aN.out) (Kd.Aa aC.out) (by decide)) (fun k_ hk => ⟨trivial, hk.2⟩))).1 k_ hk_.symm) ?aF ?aO ?aB ?aS ?aL ?_; (case aP => exact Kd.QU R9); (case aB => exact (bU0 HB.out)); (case aF => exact (fun _ _ => trivial)); (case aO => exact OD); (case aS => exact (be (bU0 HB.out))); (case aL => have := ac2.out; omega); intro akZ kX ho hb hg hat; rw [← Ke.out] at ho; replace bS := Az (Kd.vX (rU bS.out) (Kd.Aa (sU aC.out)) (by decide) hg); replace HB := Az (hb); have ac5 := Az (ho); clear aC aN ho hb hg hat))
      simp only [← yA]; go_roundg k2
      case measure => exact mO
      case rel => exact ⟨(y471), (eV), (wrap64 (bs + 1)), rS, H', ⟨mO⟩, ⟨by (with_reducible repeat (first | apply Kd.mX | apply Kd.mQ | apply Kd.mR)); exact ac5.out⟩, ⟨by simp only [yA]; refine rA ?_; exact bS.out⟩, ⟨bU0 HB.out⟩⟩
     ·
      replace c20 := Bool.eq_false_iff.mpr c20; subst c20; rw [if_neg nT] at H; generalize Kh : (eV.set (bj : Int).toNat true : List Bool) = y474 at H; replace Kh := Ay Kh; replace H := gP H; obtain ⟨Uc, H⟩ := H; have ac6 := Az Uc; clear Uc; generalize Ki : (bU ++ [bj] : List Int) = y475 at H; replace Ki := Ay Ki; replace H := gP H; obtain ⟨AR, H⟩ := H; have Ty := decide_eq_true AR; clear AR; have H' := Az H; clear H; obtain ⟨Kf, Kg, ac3, ac4, Ek⟩ := aB (Kd.av bS.out).2.2 bj; rw [← Ub.out] at Ek; obtain rfl : Eh = Kf := (by injection Kg); have wE : 0 ≤ (bj : Int) := oA; have q24 : (bj : Int) < ((eV.length : Int) : Int) := oA; obtain ⟨AS, ak0, Ud, Ue, ac7, ak1, Uf⟩ := Kd.ky bS.out (by omega); (first | cases Ud | (injection Ud with ea_ en_ ec_; (first | subst ea_ | (injection ea_ with ea_; subst ea_)); subst ec_; clear en_)); have ac8 := Az Ue; have ak2 := Az Uf; clear Ue ac7 Uf; simp only [add_plain] at Ei; simp only [add_plain] at Ek; obtain ⟨Ug, Uh⟩ := Kd.dw false bS.out (bj : Int) wE q24; replace wE := eq_true wE; replace q24 := eq_true q24; obtain ⟨ak3, ak4⟩ := Kd.dw false bS.out (bj : Int) (oA) (oA); have wF := Kd.jS bS.out (bj : Int) true
      go_wp2_with (first | ((with_reducible refine gs 4 35 rfl ?_); refine sE 4 35 (wr.setCell ⟨AS, (bj : Int).toNat, none⟩ (.bool true)) ?_; intro su hw; have hg : wr.grownBy su (some AS) := (by rw [hw]; exact wF.2); have hp_ : Kd.R Kd.bool 4 su w.heap.size (fun _ => True) (.slice (some ⟨AS, 0, none⟩) eV.length cE) y474 := (by rw [hw, Kh.out]; exact wF.1); clear wF; replace aC := Az (Kd.N9 (v := (.slice (some ⟨AS, 0, none⟩) eV.length cE)) (sU aC.out) (Kd.vW bS.out) (by decide) hg); replace aN := Az (Kd.vX (v := (.slice (some ⟨AS, 0, none⟩) eV.length cE)) (rU aN.out) (Kd.vW bS.out) (by decide) hg); replace bS := Az (hp_); replace HB := Az ((by rw [hw]; exact ai (HB.out) ac8.out : Below w.heap.size w su)); clear hg hw hp_) | ((with_reducible refine ki (b := .append) (xs := #[.tmp 36, .tmp 38]) rfl ?_); at_builtin; refine Kd.kP (Kd.int .i64) (w0 := w) w.heap.size rfl (.tmp 36) (.tmp 38) 23 3 (.int .i64 0) 8 rfl Try.underlying23 dP rfl (by decide) (by omega) u6 bU bj [.int .i64 bj] (fun _ => True) (fun _ => False) rfl rfl ?aP (fun _ hk => hk.elim) ?aF ?aO ?aB ?aS ?aL ?_; (case aP => exact rfl); (case aB => exact (bU0 HB.out)); (case aF => exact (fun _ _ => trivial)); (case aO => exact (rU aN.out)); (case aS => exact (be (bU0 HB.out))); (case aL => have := ac6.out; omega); intro ak5 El ho hb hg hat; rw [← Ki.out] at ho; replace aC := Az O7; replace bS := Az (Kd.vX (rU bS.out) (Kd.vW (rU aN.out)) (by decide) hg); replace HB := Az (hb); have ac9 := Az (ho); clear aN ho hb hg hat; obtain ⟨ak6, ada, _, _, Ui⟩ := aI de.out bj; cases ada; replace Ui := hT HB.out Ui))
      simp only [← yA]; (first | go_roundg k2 | (refine Handed.intro k2 ?measure ?_; rotate_left; go_step; simp only [add_plain]; (repeat apply Exists.intro); refine ⟨?rel, rfl⟩))
      case measure => exact mO
      case rel => exact ⟨(y474), (y475), (rd l0 bj), rS, H', ⟨mO⟩, ⟨by (with_reducible repeat (first | apply Kd.mX | apply Kd.mQ | apply Kd.mR)); exact Kd.ml aC.out (fun _ hk => hk.2)⟩, ⟨by simp only [yA]; refine rA ?_; exact bS.out⟩, ⟨rA ac9.out⟩, ⟨bU0 HB.out⟩⟩
  · rw [if_neg c8] at H; have iJ := decide_eq_false c8; clear c8; obtain rfl := Option.some.inj H; go_wp2; go_ret; exact ⟨_, rE, sU aC.out, bU0 HB.out⟩
mutual
def hG.l0 : Nat → List Int → List (List Int) → Int → Option (List Int)
 | 0, _, _, _ => none
 | k + 1, x3, x4, x5 => if x5 > 0 then (hG.l1 k x3 x4 x5 0) else (some x3)
def hG.l1 : Nat → List Int → List (List Int) → Int → Int → Option (List Int)
 | 0, _, _, _, _ => none
 | k + 1, x3, x4, x5, x6 => if x6 < (x4.length : Int) then (if 0 ≤ x6 then (if ((dp x4 x6).length : Int) = x5 then (if x3.length < 17592186044416 then (hG.l1 k (x3 ++ [x5]) x4 x5 (wrap64 (x6 + 1))) else (none)) else (hG.l1 k x3 x4 x5 (wrap64 (x6 + 1)))) else (none)) else (hG.l0 k x3 x4 (wrap64 (x5 - 1)))
end
def hG.f (k : Nat) (l0 : List Int) : Option (List Int) := (fP.f k l0).bind fun pO => (hG.l0 k (([] : List Int)) pO (l0.length : Int))
set_option maxHeartbeats 8000000 in
set_option maxRecDepth 100000 in
theorem hG.calls (k : Nat) (A0 : Option Addr) (c0 : Nat) (l0 : List Int) (r : List Int) (w : World) (hr0 : Kd.C (Kd.int .i64) w A0 l0.length l0) (hc0 : l0.length ≤ c0) (h : hG.f k l0 = some r) :
  Calls Try.prog 113 #[.slice A0 l0.length c0] w fun e w' => ∃ bK : Value, e = .returned (bK) ∧ Kd.R (Kd.int .i64) 3 w' w.heap.size (fun _ => True) bK r ∧ Below w.heap.size w w' := by
 have de := Az hr0; have gz := Az hc0; clear hr0 hc0; have HB := bZ w; have H := h; clear h; unfold hG.f at H; generalize Em : (([] : List Int) : List Int) = y479 at H; replace Em := Ay Em; replace H := bd H; obtain ⟨pO, A2, H⟩ := H; have H' := Az H; clear H; go_enter Try.func113, Try.ntmps113
 go_wp2_with (first | ((with_reducible refine gd 7 rfl ?_); refine Kd.iE (Kd.int .i64) _ 3 rfl (N := 7) rfl (xs := ([] : List Int)) (inner := []) (ok := fun _ => True) (okp := fun _ => True) hS ?hp (fun _ hk => hk) trivial (Below.refl _ _) (Nat.le_refl _) (by simp) ?_; (case hp => exact (Reps.none _ _)); intro ak7 w3 jD hb hg_ hnew_; clear hg_ hnew_; (first | rw [← Em.out] at jD | (simp only [Int.reduceToNat] at jD; rw [← Em.out] at jD)); have En := Az (Kd.bu jD (be (bU0 HB.out))); replace HB := Az (au (bU0 HB.out) hb); clear hb jD) | ((with_reducible refine gK 121 rfl ?_); refine gC (some 9) Try.func121 #[.slice A0 l0.length c0] ?_; (with_reducible refine (fP.calls k _ _ l0 pO _ ?_ ?_ A2.out).mono ?_); exact cU (Kd.cd de.out HB.out); exact gz.out; rintro e w5 ⟨Uj, rfl, ho0, hb⟩; refine ⟨_, rfl, ?_⟩; have adb := Az (Kd.qZ (Kd.tJ ho0 (Kd.ar (rU En.out))) (be (bU0 HB.out))); replace En := rB En.out hb; replace HB := Az (au (bU0 HB.out) hb); clear hb ho0))
 go_loopg [3, 5] k (fun kq v3 v5 w' => ∃ (aD : List Int) (bs : Int), v5 = .int .i64 bs ∧ ae (hG.l0 kq aD pO bs = some r) ∧ ae (kq ≤ k) ∧ ae (Kd.R (Kd.int .i64) 3 w' w.heap.size (fun _ => True) v3 aD) ∧ ae (Kd.S (Kd.slice 3 (Kd.int .i64)) 23 w' w.heap.size (fun k_ => oV k_ v3) Uj pO) ∧ ae (Below w.heap.size w w'))
 case atStart => exact ⟨(y479), ((l0.length : Int)), rS, H', ⟨Nat.le_refl _⟩, ⟨rU En.out⟩, ⟨by (with_reducible repeat (first | apply Kd.mX | apply Kd.mQ | apply Kd.mR)); exact Kd.ml adb.out (fun _ hk => hk.2)⟩, ⟨bU0 HB.out⟩⟩
 case round =>
  clear H'; obtain ⟨aD, bs, rfl, HA, eO, aC, bS, HB⟩ := hrel
  rcases gk with _ | k1
  exact (nN HA.out).elim; have H := HA.out; clear HA; simp only [hG.l0] at H
  by_cases c6 : bs > 0
  ·
   rw [if_pos c6] at H; have iK := decide_eq_true c6; clear c6; have H' := Az H; clear H; go_wp2
   go_loopg [3, 6] k1 (fun kq v3 v6 w' => ∃ (oP : List Int) (bU : Int), v6 = .int .i64 bU ∧ ae (hG.l1 kq oP pO bs bU = some r) ∧ ae (kq ≤ k1) ∧ ae (Kd.R (Kd.int .i64) 3 w' w.heap.size (fun _ => True) v3 oP) ∧ ae (Kd.S (Kd.slice 3 (Kd.int .i64)) 23 w' w.heap.size (fun k_ => oV k_ v3) Uj pO) ∧ ae (Below w.heap.size w w'))
   case atStart => exact ⟨(aD), (0), rS, H', ⟨Nat.le_refl _⟩, ⟨rU aC.out⟩, ⟨sU bS.out⟩, ⟨bU0 HB.out⟩⟩
   case round =>
    clear H'; obtain ⟨oP, bU, rfl, HA, fp, aC, bS, HB⟩ := hrel
    rcases gk with _ | k2
    exact (nN HA.out).elim; have H := HA.out; clear HA; simp only [hG.l1] at H
    replace H := gB H; rcases H with ⟨iw, H⟩ | ⟨iw, H⟩
    ·
     replace H := gD1 H; obtain ⟨iJ, H⟩ := H
     replace H := gQ H; rcases H with ⟨nX, adc, H⟩ | ⟨nX, adc, H⟩
     ·
      replace H := gP H; obtain ⟨c10, H⟩ := H; have Jx := Az c10; clear c10; generalize Kj : (oP ++ [bs] : List Int) = y486 at H; replace Kj := Ay Kj; have H' := Az H; clear H; obtain ⟨D7, us, qw⟩ := Kd.qX bS.out; subst qw; have sH : 0 ≤ (bU : Int) := oA; have sI : bU < (pO.length : Int) := oA; obtain ⟨Uk, ade, adf, Kk, Kl, AU, AV⟩ := zH (Kd.xV bS.out).2.2 bU sH sI
      cases Kk
      obtain ⟨adg, Km, Kn, AW⟩ := Kd.HM bS.out [] bU sH (by first | exact sI | exact oA | (have e_ := (Kd.xV bS.out).1; omega)); obtain ⟨adh, rfl, wG⟩ := Kn; have qz := AW 0 _ rfl; rw [Nat.add_zero, show ((Kd.slice 3 (Kd.int .i64))).sz = 1 from rfl, Nat.mul_one] at qz; replace qz := Option.some.inj (qz.symm.trans Kl); rw [qz] at wG; have Ko := Az (show Kd.R (Kd.int .i64) 3 _ _ _ _ (dp pO bU) from wG); clear qz wG AW Km; have adi := Az AV; have adj := Az AU; clear AV AU; replace sH := eq_true sH; replace sI := eq_true sI
      go_wp2_with (first | ((with_reducible refine ki (b := .append) (xs := #[.tmp 29, .tmp 31]) rfl ?_); at_builtin; refine Kd.kP (Kd.int .i64) (w0 := w) w.heap.size rfl (.tmp 29) (.tmp 31) 23 3 (.int .i64 0) 8 rfl Try.underlying23 dP rfl (by decide) (by omega) u3 oP bs [.int .i64 bs] (fun _ => True) (fun _ => False) rfl rfl ?aP (fun _ hk => hk.elim) ?aF ?aO ?aB ?aS ?aL ?_; (case aP => exact rfl); (case aB => exact (bU0 HB.out)); (case aF => exact (fun _ _ => trivial)); (case aO => exact (rU aC.out)); (case aS => exact (be (bU0 HB.out))); (case aL => have := Jx.out; omega); intro ak8 oa ho hb hg hat; rw [← Kj.out] at ho; replace bS := Az (Kd.Ht (ok := (fun _ => True)) (by (with_reducible repeat (first | apply Kd.mX | apply Kd.mQ | apply Kd.mR)); exact Kd.ml bS.out (fun _ hk => ⟨trivial, hk⟩)) hg hat); replace Ko := Az (Kd.cJ (ok := (fun k_ => some k_ ≠ (.slice (some Uk) pO.length us : Value).ownBlock)) (rA (Kd.ah Ko.out (fun _ hk => ⟨hk.2, hk.1⟩))) hg hat); replace HB := Az (hb); have adk := Az (ho); clear aC ho hb hg hat))
      go_roundg k2
      case measure => exact mO
      case rel => exact ⟨(y486), (wrap64 (bU + 1)), rS, H', ⟨mO⟩, ⟨rU adk.out⟩, ⟨by (with_reducible repeat (first | apply Kd.mX | apply Kd.mQ | apply Kd.mR)); exact Kd.ml bS.out (fun _ hk => hk.2)⟩, ⟨bU0 HB.out⟩⟩
     ·
      have H' := Az H; clear H; obtain ⟨sD, qq, pJ⟩ := Kd.qX bS.out; subst pJ; have sH : 0 ≤ (bU : Int) := oA; have sI : bU < (pO.length : Int) := oA; obtain ⟨Uk, ade, adf, Kk, Kl, AU, AV⟩ := zH (Kd.xV bS.out).2.2 bU sH sI
      cases Kk
      obtain ⟨adg, Km, Kn, AW⟩ := Kd.HM bS.out [] bU sH (by first | exact sI | exact oA | (have e_ := (Kd.xV bS.out).1; omega)); obtain ⟨adh, rfl, wG⟩ := Kn; have qz := AW 0 _ rfl; rw [Nat.add_zero, show ((Kd.slice 3 (Kd.int .i64))).sz = 1 from rfl, Nat.mul_one] at qz; replace qz := Option.some.inj (qz.symm.trans Kl); rw [qz] at wG; have Ko := Az (show Kd.R (Kd.int .i64) 3 _ _ _ _ (dp pO bU) from wG); clear qz wG AW Km; have adi := Az AV; have adj := Az AU; clear AV AU; replace sH := eq_true sH; replace sI := eq_true sI; go_wp2; go_roundg k2
      case measure => exact mO
      case rel => exact ⟨(oP), (wrap64 (bU + 1)), rS, H', ⟨mO⟩, ⟨rU aC.out⟩, ⟨sU bS.out⟩, ⟨bU0 HB.out⟩⟩
    ·
     have H' := Az H; clear H; obtain ⟨dx, cE, pL⟩ := Kd.qX bS.out; subst pL; go_wp2; go_roundg k2
     case measure => exact mO
     case rel => exact ⟨(oP), (wrap64 (bs - 1)), rS, H', ⟨mO⟩, ⟨rU aC.out⟩, ⟨sU bS.out⟩, ⟨bU0 HB.out⟩⟩
  · rw [if_neg c6] at H; have iK := decide_eq_false c6; clear c6; obtain rfl := Option.some.inj H; go_wp2; go_ret; exact ⟨_, rE, rU aC.out, bU0 HB.out⟩
end Go.Proofs.Ytlpbalebodlipaa.PL
