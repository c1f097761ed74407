/- A part of the proof of FnExactQuadTree. There are no conditions. -/
import Derived.Test.YtlpbalebodlipaaProg
import Derived.Below
import Derived.Deep.Draws
import Derived.Deep.AppendLies
import Derived.Maps.AppendAt
import Derived.OwnWalk
import Derived.Laws.BytesArg
import Derived.Laws.MakeOwn
import Derived.Laws.OwnMore
import Derived.Tactics
import Derived.Lib.ConvBytes
import Derived.Laws.Slices
import Derived.WalkKit
import Derived.KernelRfl
import Derived.RowKit3
import Derived.Deep.LoopGhost
import Derived.Deep.QuietTactic
import Derived.BigQuiet
import Derived.WideLaws
import Derived.Deep.DeepCutAuto
import Derived.Deep.CutBlock
import Derived.Deep.RegionHeld3
import Derived.Lib.AppendStr
import Derived.ArgAppend
import Derived.Laws.IdiomCopy
import Derived.OrdersHeld
import Derived.Laws.BitsLemmas
import Derived.RowKit
import Derived.Laws.RangeAny
import Derived.Laws.RangeString
import Derived.Shelf.Sort.Plain
import Derived.Sort.OwnSortedInts
import Derived.ProofKit
import Derived.OpenShut
import Derived.ShutString
import Derived.ChangeOld
import Derived.SizedLaws
import Derived.Lib.SmallJoins
import Derived.ChangeSlices
import Derived.ChangeArms
import Derived.Test.YtlpbalebodlipaaKXQWWords
import Derived.Test.YtlpbalebodlipaaKXQWLast
import Derived.Test.YtlpbalebodlipaaKXQWTab
import Derived.Test.YtlpbalebodlipaaKXQWFour
import Derived.Test.YtlpbalebodlipaaKXQWApart
import Derived.Test.YtlpbalebodlipaaKXQWFoot
import Derived.Test.YtlpbalebodlipaaKXQWKept
import Derived.Test.YtlpbalebodlipaaKXQWShare
import Derived.Test.YtlpbalebodlipaaKXQWN
import Derived.Test.YtlpbalebodlipaaKXQWAt
import Derived.Test.YtlpbalebodlipaaKXQWRepsOne
import Derived.Test.YtlpbalebodlipaaKXQWInv
import Derived.Test.YtlpbalebodlipaaKXQWGuard
import Derived.Test.YtlpbalebodlipaaKXQWNEv
import Derived.Test.YtlpbalebodlipaaKXQWMore
import Derived.Deep.OwnRows
import Derived.Laws.Rows
import Derived.Test.YtlpbalebodlipaaRows
namespace Go.Proofs.Ytlpbalebodlipaa.PL
open Go.RowKit Go.Proofs.YtlpbalebodlipaaW.PrintWords Go.Proofs.YtlpbalebodlipaaW.PrintLast Go.Proofs.YtlpbalebodlipaaW.PrintMore
theorem oA {p : Prop} [Decidable p] (h : decide p = true := by first | (with_reducible assumption) | assumption) : p := of_decide_eq_true h
theorem rS {p : Prop} (h : p := by first | rfl | (simp; done) | (simp [*]; done)) : p := h
theorem rE {p : Prop} (h : p := by first | rfl | (simp [errW_none, errW_some] <;> rfl) | (simp [*, errW_none, errW_some] <;> rfl)) : p := h
theorem Az {p : Prop} (h : p) : Aside0 p := Aside0.mk h
theorem rU {p q : Prop} (h : q) (f : q → p := by intro h; (with_reducible repeat (first | apply Kd.R_alloc | apply Kd.R_drewN | apply Kd.R_drew)); exact h) : p := f h
theorem sU {p q : Prop} (h : q) (f : q → p := by intro h; (with_reducible repeat (first | apply Kd.S_alloc | apply Kd.S_drewN | apply Kd.S_drew)); exact h) : p := f h
theorem vU {p q : Prop} (h : q) (f : q → p := by intro h; (with_reducible repeat (first | apply Kd.V_alloc | apply Kd.V_drewN | apply Kd.V_drew)); exact h) : p := f h
theorem nU {p q : Prop} (h : q) (f : q → p := by intro h; (with_reducible repeat (first | apply Kd.N_alloc | apply Kd.N_drewN | apply Kd.N_drew)); exact h) : p := f h
theorem kU {p q : Prop} (h : q) (f : q → p := by intro h; (with_reducible repeat (first | refine blk_drewN ?_ _ | refine blk_drew ?_ | refine blk_alloc ?_ _)); exact h) : p := f h
theorem cU {p q : Prop} (h : q) (f : q → p := by intro h; repeat (first | exact h | (with_reducible refine Kd.C_alloc ?_ _) | (with_reducible refine Kd.C_drewN ?_ _) | (with_reducible refine Kd.C_drew ?_))) : p := f h
theorem bU0 {p q : Prop} (h : q) (f : q → p := by intro h; repeat (first | (with_reducible first | exact h | apply below_alloc | apply pw_below_drewN | apply below_drew1) | exact h)) : p := f h
theorem bU1 {p q a0 : Prop} (h : q) (g0 : a0) (f : q → a0 → p := by intro h g0; repeat (first | (with_reducible first | exact h | apply below_alloc | apply pw_below_drewN | apply below_drew1 | refine below_set ?_ g0) | exact h)) : p := f h g0
theorem bU2 {p q a0 a1 : Prop} (h : q) (g0 : a0) (g1 : a1) (f : q → a0 → a1 → p := by intro h g0 g1; repeat (first | (with_reducible first | exact h | apply below_alloc | apply pw_below_drewN | apply below_drew1 | refine below_set ?_ g0 | refine below_set ?_ g1) | exact h)) : p := f h g0 g1
theorem bU3 {p q a0 a1 a2 : Prop} (h : q) (g0 : a0) (g1 : a1) (g2 : a2) (f : q → a0 → a1 → a2 → p := by intro h g0 g1 g2; repeat (first | (with_reducible first | exact h | apply below_alloc | apply pw_below_drewN | apply below_drew1 | refine below_set ?_ g0 | refine below_set ?_ g1 | refine below_set ?_ g2) | exact h)) : p := f h g0 g1 g2
theorem bU4 {p q a0 a1 a2 a3 : Prop} (h : q) (g0 : a0) (g1 : a1) (g2 : a2) (g3 : a3) (f : q → a0 → a1 → a2 → a3 → p := by intro h g0 g1 g2 g3; repeat (first | (with_reducible first | exact h | apply below_alloc | apply pw_below_drewN | apply below_drew1 | refine below_set ?_ g0 | refine below_set ?_ g1 | refine below_set ?_ g2 | refine below_set ?_ g3) | exact h)) : p := f h g0 g1 g2 g3
theorem bU5 {p q a0 a1 a2 a3 a4 : Prop} (h : q) (g0 : a0) (g1 : a1) (g2 : a2) (g3 : a3) (g4 : a4) (f : q → a0 → a1 → a2 → a3 → a4 → p := by intro h g0 g1 g2 g3 g4; repeat (first | (with_reducible first | exact h | apply below_alloc | apply pw_below_drewN | apply below_drew1 | refine below_set ?_ g0 | refine below_set ?_ g1 | refine below_set ?_ g2 | refine below_set ?_ g3 | refine below_set ?_ g4) | exact h)) : p := f h g0 g1 g2 g3 g4
theorem hR {α : Type} {a b : α} {p q : Prop} (e : a = b) (h : q) (f : a = b → q → p := by intro e H; first | (rw [e]; with_reducible exact H) | (have H2_ := (Option.bind_some _ _).symm.trans H; rw [e]; with_reducible exact H2_) | (have H2_ := (Option.bind_some _ _).symm.trans H; with_reducible exact H2_) | with_reducible exact H | (rw [e]; exact H) | exact H) : p := f e h
theorem z1_0 {p : Prop} (h : p := by exact (below_step (bU1 HB.out GW173.out) hb)) : p := h
theorem z1_1 {p : Prop} (h : p := by repeat (first | (with_reducible first | exact HK.out | apply Kept.alloc | apply Kept.drewN | apply Kept.drew | refine Kept.setCell ?_ (.inr GW114.out) _) | exact HK.out)) : p := h
theorem z1_2 {p : Prop} (h : p := by first | exact Kd.N_base ho34 | exact Kd.S_base ho34 | exact Kd.R_base ho34) : p := h
theorem z1_3 {p : Prop} (h : p := by exact (Kd.S_mono (ok' := fun k_ => oS k_ Ao14 x3_1.length co14) (Kd.S_keptB (HO_8.out) hkp (fun k_ hk_ hs_ => (hk_) hs_)) (fun k_ hk_ => hk_.1))) : p := h
theorem lQ {p : Prop} (h : p := by (try simp only [List.map_toArray, List.map_cons, List.map_nil]); first | done | rfl | (simp only [List.length_drop, List.length_take]; rfl)) : p := h
theorem rB {q b r : Prop} (h : q) (hb : b) (f : q → b → r := by intro h hb; exact Kd.R_below (rU h) hb) : Aside0 r := Aside0.mk (f h hb)
theorem sB {q b r : Prop} (h : q) (hb : b) (f : q → b → r := by intro h hb; exact Kd.S_below (sU h) hb) : Aside0 r := Aside0.mk (f h hb)
theorem vB {q b r : Prop} (h : q) (hb : b) (f : q → b → r := by intro h hb; exact Kd.V_below (vU h) hb) : Aside0 r := Aside0.mk (f h hb)
theorem nB {q b r : Prop} (h : q) (hb : b) (f : q → b → r := by intro h hb; exact Kd.N_below (nU h) hb) : Aside0 r := Aside0.mk (f h hb)
theorem kF1 {p q a0 : Prop} (h : q) (n0 : a0) (f : q → a0 → p := by intro h n0; repeat (first | exact h | refine blk_drewN ?_ _ | refine blk_drew ?_ | refine blk_alloc ?_ _ | refine blk_far ?_ n0 _)) : p := f h n0
theorem rW1 {p q b : Prop} (h : q) (bk : b) (f : q → b → p := by intro h bk; (with_reducible repeat (first | apply Kd.R_alloc | apply Kd.R_drewN | apply Kd.R_drew)); exact (Kd.R_mono (Kd.R_far (Kd.R_types h bk (by decide)) (fun _ hk => hk.2) _) (fun _ h_ => h_.1))) : p := f h bk
theorem rW2 {p q b : Prop} (h : q) (bk : b) (f : q → b → p := by intro h bk; (with_reducible repeat (first | apply Kd.R_alloc | apply Kd.R_drewN | apply Kd.R_drew)); exact (Kd.R_mono (Kd.R_far (Kd.R_far (Kd.R_types h bk (by decide)) (fun _ hk => hk.2) _) (fun _ hk => hk.2) _) (fun _ h_ => h_.1))) : p := f h bk
theorem sW2 {p q b : Prop} (h : q) (bk : b) (f : q → b → p := by intro h bk; (with_reducible repeat (first | apply Kd.S_alloc | apply Kd.S_drewN | apply Kd.S_drew)); exact (Kd.S_mono (Kd.S_far (Kd.S_far (Kd.S_types h bk (by decide)) (fun _ hk => hk.2) _) (fun _ hk => hk.2) _) (fun _ h_ => h_.1))) : p := f h bk
theorem yP {p : Prop} (h : p := by intro w'; go_simp; with_reducible rfl) : p := h
def bv (n m : Nat) : Array Bool := ((List.range n).map (fun i => m.testBit i)).toArray
theorem kG {q b c r : Prop} (h : q) (hb : b) (hc : c) (f : q → b → c → r := by intro h hb hc; exact blk_grown (kU h) hb hc) : r := f h hb hc
theorem kB {q b r : Prop} (h : q) (hb : b) (f : q → b → r := by intro h hb; exact blk_below (kU h) hb) : Aside0 r := Aside0.mk (f h hb)
theorem aP {p : Prop} (h : p := by simp only [Act.put, List.setIfInBounds_toArray, List.set_cons_zero, List.set_cons_succ, i64_w, i32_w]; rfl) : p := h
theorem cz {w : World} {g : Nat} {t : TypeId} {cs : Array Value} {v : Value} (h : w.heap[g]? = some (.cells cs t (0, 0))) (i : Nat) (e : cs[i]? = some v := by rfl) : w.cell? ⟨g, i, none⟩ = some v := (blk_cell h i).trans e
theorem gD1 {α : Type} {p0 : Prop} {a : Option α} {r : α} {d0 : Decidable p0} (h : (if p0 then a else none) = some r) : @decide p0 d0 = true ∧ a = some r := by split at h; (exact ⟨decide_eq_true (by assumption), h⟩); (cases h)
theorem gD2 {α : Type} {p0 p1 : Prop} {a : Option α} {r : α} {d0 : Decidable p0} {d1 : Decidable p1} (h : (if p0 then (if p1 then a else none) else none) = some r) : @decide p0 d0 = true ∧ @decide p1 d1 = true ∧ a = some r := ⟨(gD1 h).1, gD1 (gD1 h).2⟩
theorem gD3 {α : Type} {p0 p1 p2 : Prop} {a : Option α} {r : α} {d0 : Decidable p0} {d1 : Decidable p1} {d2 : Decidable p2} (h : (if p0 then (if p1 then (if p2 then a else none) else none) else none) = some r) : @decide p0 d0 = true ∧ @decide p1 d1 = true ∧ @decide p2 d2 = true ∧ a = some r := ⟨(gD1 h).1, gD2 (gD1 h).2⟩
theorem gD4 {α : Type} {p0 p1 p2 p3 : Prop} {a : Option α} {r : α} {d0 : Decidable p0} {d1 : Decidable p1} {d2 : Decidable p2} {d3 : Decidable p3} (h : (if p0 then (if p1 then (if p2 then (if p3 then a else none) else none) else none) else none) = some r) : @decide p0 d0 = true ∧ @decide p1 d1 = true ∧ @decide p2 d2 = true ∧ @decide p3 d3 = true ∧ a = some r := ⟨(gD1 h).1, gD3 (gD1 h).2⟩
theorem gD5 {α : Type} {p0 p1 p2 p3 p4 : Prop} {a : Option α} {r : α} {d0 : Decidable p0} {d1 : Decidable p1} {d2 : Decidable p2} {d3 : Decidable p3} {d4 : Decidable p4} (h : (if p0 then (if p1 then (if p2 then (if p3 then (if p4 then a else none) else none) else none) else none) else none) = some r) : @decide p0 d0 = true ∧ @decide p1 d1 = true ∧ @decide p2 d2 = true ∧ @decide p3 d3 = true ∧ @decide p4 d4 = true ∧ a = some r := ⟨(gD1 h).1, gD4 (gD1 h).2⟩
theorem gD6 {α : Type} {p0 p1 p2 p3 p4 p5 : Prop} {a : Option α} {r : α} {d0 : Decidable p0} {d1 : Decidable p1} {d2 : Decidable p2} {d3 : Decidable p3} {d4 : Decidable p4} {d5 : Decidable p5} (h : (if p0 then (if p1 then (if p2 then (if p3 then (if p4 then (if p5 then a else none) else none) else none) else none) else none) else none) = some r) : @decide p0 d0 = true ∧ @decide p1 d1 = true ∧ @decide p2 d2 = true ∧ @decide p3 d3 = true ∧ @decide p4 d4 = true ∧ @decide p5 d5 = true ∧ a = some r := ⟨(gD1 h).1, gD5 (gD1 h).2⟩
theorem gP {α : Type} {p : Prop} {a : Option α} {r : α} {d : Decidable p} (h : (if p then a else none) = some r) : p ∧ a = some r := by split at h; (exact ⟨by assumption, h⟩); (cases h)
theorem gE {α : Type} {p : Prop} {a : Option α} {r : α} {d : Decidable p} (h : (if p then a else none) = some r) : (p = True) ∧ @decide p d = true ∧ a = some r := ⟨eq_true (gP h).1, gD1 h⟩
theorem gB {α : Type} {p : Prop} {a b : Option α} {r : α} {d : Decidable p} (h : (if p then a else b) = some r) : (@decide p d = true ∧ a = some r) ∨ (@decide p d = false ∧ b = some r) := by split at h; (exact .inl ⟨decide_eq_true (by assumption), h⟩); (exact .inr ⟨decide_eq_false (by assumption), h⟩)
theorem gQ {α β : Type} [BEq β] [LawfulBEq β] {x y : β} {a b : Option α} {r : α} {d : Decidable (x = y)} (h : (if x = y then a else b) = some r) : ((x == y) = true ∧ (x != y) = false ∧ a = some r) ∨ ((x == y) = false ∧ (x != y) = true ∧ b = some r) := by split at h; exact .inl ⟨beq_iff_eq.mpr (by assumption), bne_eq_false_iff_eq.mpr (by assumption), h⟩; exact .inr ⟨beq_eq_false_iff_ne.mpr (by assumption), bne_iff_ne.mpr (by assumption), h⟩
theorem bZ (w : World) : Aside0 (Below w.heap.size w w) := Aside0.mk (Below.refl w.heap.size w)
theorem hS {p : Prop} (h : p := by first | (go_simp; done) | (go_simp; rfl)) : p := h
def oV (k : Nat) (v : Value) : Prop := some k ≠ v.ownBlock
def oS (k : Nat) (A : Option Addr) (n c : Nat) : Prop := some k ≠ (Value.slice A n c).ownBlock
theorem bd {α β : Type} {x : Option α} {f : α → Option β} {r : β} (h : x.bind f = some r) : ∃ t, Aside0 (x = some t) ∧ f t = some r := by obtain ⟨t, a, b⟩ := Option.bind_eq_some_iff.mp h; exact ⟨t, Aside0.mk a, b⟩
theorem Ay {α : Type} {a b : α} (h : a = b) : Aside0 (b = a) := Aside0.mk h.symm
theorem nN {α : Type} {x : Option α} {r : α} (h : x = some r) (e : x = none := by rfl) : False := by rw [e] at h; cases h
theorem nT : ¬ (false = true) := by decide
theorem aI {kd : IntKind} {w : World} {A : Option Addr} {n : Nat} {xs : List Int} (h : (Kd.int kd).C w A n xs) (i : Int) (h0 : 0 ≤ i := by exact oA) (h1 : i < n := by exact oA) : ∃ ad, A = some ad ∧ ((0 ≤ i) = True) ∧ ((i < n) = True) ∧ w.cell? (ad.add i.toNat) = some (.int kd (rd xs i)) := by obtain ⟨ad, e, hx⟩ := Kd.at_int h i h0 h1; exact ⟨ad, e, eq_true h0, eq_true h1, hx⟩
theorem aB {w : World} {A : Option Addr} {n : Nat} {xs : List Bool} (h : Kd.bool.C w A n xs) (i : Int) (h0 : 0 ≤ i := by exact oA) (h1 : i < n := by exact oA) : ∃ ad, A = some ad ∧ ((0 ≤ i) = True) ∧ ((i < n) = True) ∧ w.cell? (ad.add i.toNat) = some (.bool (rdOf false xs i)) := by obtain ⟨ad, e, hx⟩ := Kd.at_bool h i h0 h1; exact ⟨ad, e, eq_true h0, eq_true h1, hx⟩
theorem aJ {kd : IntKind} {w : World} {ad : Addr} {n : Nat} {xs : List Int} (h : (Kd.int kd).C w (some ad) n xs) (i : Int) (h0 : 0 ≤ i := by exact oA) (h1 : i < n := by exact oA) : ((0 ≤ i) = True) ∧ ((i < n) = True) ∧ w.cell? (ad.add i.toNat) = some (.int kd (rd xs i)) := by obtain ⟨ad, e, hx⟩ := Kd.at_int h i h0 h1; cases e; exact ⟨eq_true h0, eq_true h1, hx⟩
theorem hT {w w' : World} {a : Addr} {v : Value} (hb : Below w.heap.size w w') (h : w.cell? a = some v) : w'.cell? a = some v := (hb.cell (World.block_lt_of_cell? w _ h)).trans h
theorem mO {p : Prop} (h : p := by (try have h1_ := HK1.out); (try have h2_ := HK2.out); (try have h3_ := HK3.out); (try have h4_ := HK4.out); (try have h5_ := HK5.out); (try have h6_ := HK6.out); first | omega | exact Nat.le_refl _) : p := h
theorem gW {w W : World} {g : Nat} (hg : g = W.heap.size) (h : Below w.heap.size w W) : Aside0 (w.heap.size ≤ g) := Aside0.mk (by rw [hg]; exact below_size h)
theorem nL {W : World} {g g' : Nat} {o : Obj} (hg : g' = W.heap.size) (h : W.heap[g]? = some o) : Aside0 (g ≠ g') := Aside0.mk (by rw [hg]; exact Nat.ne_of_lt (blk_lt h))
theorem nP {a b : Nat} (h : Aside0 (a ≠ b)) : a ≠ b ∧ b ≠ a := ⟨h.out, h.out.symm⟩
theorem bc2 {w : World} {g : Nat} {t : TypeId} {a0 a1 : Value} (h : w.heap[g]? = some (.cells #[a0, a1] t (0, 0))) : w.cell? ⟨g, 0, none⟩ = some a0 ∧ w.cell? ⟨g, 1, none⟩ = some a1 ∧ w.frozen? ⟨g, 0, none⟩ = false ∧ w.frozen? ⟨g, 1, none⟩ = false := ⟨(blk_cell h 0).trans rfl, (blk_cell h 1).trans rfl, blk_frozen h 0, blk_frozen h 1⟩
theorem gK {P : Program} {ops : Array Oper} {o : Oper} {a : Act} {Q : Exit → Act → World → Prop} {rest : List Oper} {W : World} (f : FuncId) {ops_ : Array Operand} {ts : Array TypeId} (_ho : o.op = .call { callee := .value (.func f), args := ops_, argTypes := ts }) (h : wpList P ops Q (o :: rest) a W) : wpList P ops Q (o :: rest) a W := h
theorem gd {P : Program} {ops : Array Oper} {o : Oper} {a : Act} {Q : Exit → Act → World → Prop} {rest : List Oper} {W : World} (N : Tmp) (_hN : o.dst = some N) (h : wpList P ops Q (o :: rest) a W) : wpList P ops Q (o :: rest) a W := h
theorem gs {P : Program} {ops : Array Oper} {o : Oper} {a : Act} {Q : Exit → Act → World → Prop} {rest : List Oper} {W : World} (t : TypeId) (p : Tmp) {v : Operand} (_ho : o.op = .store t (.tmp p) v) (h : wpList P ops Q (o :: rest) a W) : wpList P ops Q (o :: rest) a W := h
theorem gC {P : Program} {ops : Array Oper} {o : Oper} {a : Act} {Q : Exit → Act → World → Prop} {rest : List Oper} {W : World} (N : Option Tmp) {f : FuncId} {fn : Func} {ops_ : Array Operand} {ts : Array TypeId} (hf : P.funcs[f]? = some fn) (args : Array Value) (h : Calls P f args W fun e w' => ∃ v, e = .returned v ∧ wpList P ops Q rest (a.put N v) w') (hd : o.dst = N := by rfl) (hg : o.guard = none := by rfl) (hname : (fn.name == "runtime.NumGoroutine") = false := by kernel_rfl) (hb : fn.body.isSome = true := by rfl) (hop : o.op = .call { callee := .value (.func f), args := ops_, argTypes := ts } := by rfl) (hargs : ops_.map a.eval = args := by exact lQ) : wpList P ops Q (o :: rest) a W := goesL_ N hd hg hf hname hb args hop hargs h
theorem bE {P : Program} {ops : Array Oper} {o : Oper} {a : Act} {Q : Exit → Act → World → Prop} {rest : List Oper} {W : World} (N : Tmp) (cs : Array Value) (t : TypeId) (h : ∀ g, g = W.heap.size → ∀ w1, w1.heap[g]? = some (.cells cs t (0, 0)) → Below W.heap.size W w1 → wpList P ops Q rest (a.put o.dst (.pointer (some ⟨g, 0, none⟩))) w1) (hgd : o.guard = none := by rfl) (hd : o.dst = some N := by rfl) (hrun : (execOp a.eval o).run P W = .ok (.value (.pointer (some ⟨W.heap.size, 0, none⟩))) (W.alloc (.cells cs t (0, 0))) := by first | (go_simp; done) | (go_simp; rfl)) : wpList P ops Q (o :: rest) a W := box_event hgd hd hrun h
theorem sE {P : Program} {ops : Array Oper} {o : Oper} {a : Act} {Q : Exit → Act → World → Prop} {rest : List Oper} {W : World} (t : TypeId) (p : Tmp) {v : Operand} (w1 : World) (h : ∀ w', w' = w1 → wpList P ops Q rest a w') (ho : o.op = .store t (.tmp p) v := by rfl) (hgd : o.guard = none := by rfl) (hN : o.dst = none := by rfl) (hrun : (execOp a.eval o).run P W = .ok .skip w1 := by first | (go_simp; done) | (go_simp; rfl)) : wpList P ops Q (o :: rest) a W := store_event hgd ho hN hrun h
theorem rM {p q : Prop} (h : q) (f : q → p := by intro h; (with_reducible repeat (first | apply Kd.R_alloc | apply Kd.R_drewN | apply Kd.R_drew)); exact Kd.R_mono h (fun _ hk => by first | trivial | exact hk.1 | (simp only [hk, and_self, ne_eq, not_false_eq_true, true_and, and_true, true_or, or_true]; done) | ((try simp only [oS, oV] at hk ⊢); simp only [hk, and_self, ne_eq, not_false_eq_true, true_and, and_true, true_or, or_true]))) : p := f h
theorem sM {p q : Prop} (h : q) (f : q → p := by intro h; (with_reducible repeat (first | apply Kd.S_alloc | apply Kd.S_drewN | apply Kd.S_drew)); exact Kd.S_mono h (fun _ hk => by first | trivial | exact hk.1 | (simp only [hk, and_self, ne_eq, not_false_eq_true, true_and, and_true, true_or, or_true]; done) | ((try simp only [oS, oV] at hk ⊢); simp only [hk, and_self, ne_eq, not_false_eq_true, true_and, and_true, true_or, or_true]))) : p := f h
attribute [local go_sem] max2_int min2_int max_two min_two max_three min_three max_four min_four   -- for this text's walks alone
set_option linter.unusedVariables false
set_option linter.unusedSimpArgs false
def errW : Option Int → Value
 | none => .nilIface
 | some c => .iface 0 (.int .i64 c)
theorem errW_none : errW none = .nilIface := rfl
theorem errW_some (c : Int) : errW (some c) = .iface 0 (.int .i64 c) := rfl
theorem info3 : (Try.prog.info? 3).map (fun i => (i.zero, i.size, i.bytes)) = some (some (.int .i64 0), 1, 8) := by kernel_rfl
theorem info4 : (Try.prog.info? 4).map (fun i => (i.zero, i.size, i.bytes)) = some (some (.bool false), 1, 1) := by kernel_rfl
theorem info23 : (Try.prog.info? 23).map (fun i => (i.zero, i.size, i.bytes)) = some (some (.slice none 0 0), 1, 24) := by kernel_rfl
def rd_L1 (xs : List (List Int)) (i : Int) : (List Int) := xs.getD i.toNat ([] : List Int)
theorem at_L1 {w : World} {A : Option Addr} {n : Nat} {xs : List (List Int)} (h : Kd.C (Kd.slice 3 (Kd.int .i64)) w A n xs) (i : Int) (h0 : 0 ≤ i) (h1 : i < n) : ∃ ad A0 c0, A = some ad ∧ w.cell? (ad.add i.toNat) = some (.slice A0 (rd_L1 xs i).length c0) ∧ (rd_L1 xs i).length ≤ c0 ∧ (Kd.int .i64).C w A0 (rd_L1 xs i).length (rd_L1 xs i) := by
 obtain ⟨ad, c, e, _, hK, hc0⟩ := Kd.C_get h ([] : List Int) i h0 h1; have hc : ∀ j u, c[j]? = some u → w.cell? (ad.add (i.toNat * 1 + j)) = some u := hc0; obtain ⟨A0, c0, rfl, l0, g0⟩ := hK; exact ⟨ad, A0, c0, e, by have hq := hc 0 _ rfl; rwa [Nat.mul_one, Nat.add_zero] at hq, l0, g0⟩
end Go.Proofs.Ytlpbalebodlipaa.PL

namespace Go.Proofs.Ytlpbalebodlipaa.PL
open Go.RowKit Go.Proofs.YtlpbalebodlipaaW.PrintWords Go.Proofs.YtlpbalebodlipaaW.PrintLast Go.Proofs.YtlpbalebodlipaaW.PrintMore
attribute [local go_sem] max2_int min2_int max_two min_two max_three min_three max_four min_four   -- for this text's walks alone
set_option linter.unusedVariables false
set_option linter.unusedSimpArgs false
theorem seen_put {α : Type} {enc : α → Value} {d : α} {h1 : ∀ x, (enc x).oneCell' = true} {w w1 : World} {A : Option Addr} {n b : Nat} {xs : List α} (h : (Kd.scalar enc h1).C w A n xs) (hg : w.grownBy w1 (some b)) (hne : ∀ ad, A = some ad → 0 < n → ad.block ≠ b) : (Kd.scalar enc h1).C w1 A n xs := by
 have h' := Kd.reads_of_C (d := d) h; refine Kd.C_of_reads (d := d) ⟨h'.1, h'.2.1, fun hn => ?_⟩; obtain ⟨ad, e, hc⟩ := h'.2.2 hn; exact ⟨ad, e, fun j hj => cell_grown hg (hc j hj) (by rw [add_block]; intro he; exact hne ad e hn (Option.some.inj he))⟩
def laws_eqIntS.l0 : Nat → List Int → List Int → Int → Option (Bool)
 | 0, _, _, _ => none
 | k + 1, x0, x1, x5 => if x5 < (x0.length : Int) then (if 0 ≤ x5 then (if x5 < (x1.length : Int) then (if (rd x0 x5) = (rd x1 x5) then (laws_eqIntS.l0 k x0 x1 (wrap64 (x5 + 1))) else (some false)) else (none)) else (none)) else (some true)
def laws_eqIntS.f (k : Nat) (l0 : List Int) (l1 : List Int) : Option (Bool) := if (l0.length : Int) = (l1.length : Int) then (laws_eqIntS.l0 k l0 l1 0) else (some false)
set_option maxHeartbeats 8000000 in
set_option maxRecDepth 100000 in
theorem laws_eqIntS.calls (k : Nat) (A0 : Option Addr) (c0 : Nat) (l0 : List Int) (A1 : Option Addr) (c1 : Nat) (l1 : List Int) (r : Bool) (w : World) (hr0 : Kd.C (Kd.int .i64) w A0 l0.length l0) (hc0 : l0.length ≤ c0) (hr1 : Kd.C (Kd.int .i64) w A1 l1.length l1) (hc1 : l1.length ≤ c1) (h : laws_eqIntS.f k l0 l1 = some r) :
  Calls Try.prog 76 #[.slice A0 l0.length c0, .slice A1 l1.length c1] w fun e w' => e = .returned (.bool r) ∧ Drawn0 w w' := by
 have HR0 := Az hr0; have HC0 := Az hc0; clear hr0 hc0; have HR1 := Az hr1; have HC1 := Az hc1; clear hr1 hc1; have H := h; clear h; unfold laws_eqIntS.f at H
 by_cases c3 : (l0.length : Int) = (l1.length : Int)
 ·
  rw [if_pos c3] at H; have c3b0 := beq_iff_eq.mpr c3; have c3b1 := bne_eq_false_iff_eq.mpr c3
  have c3b2 : (l0.length == l1.length) = true := by first | simpa using c3 | (simp at c3 ⊢; omega)
  clear c3; have H' := Az H; clear H; go_enter Try.func76, Try.ntmps76; go_wp2
  repeat (go_quiet (fail); try go_wp2)
  go_loopg [5] k (fun kq v5 w' => ∃ (x5_1 : Int), v5 = .int .i64 x5_1 ∧ Aside0 (laws_eqIntS.l0 kq l0 l1 x5_1 = some r) ∧ Aside0 (kq ≤ k) ∧ Drawn0 w w')
  case atStart => exact ⟨(0), rS, H', ⟨Nat.le_refl _⟩, by repeat (first | exact Drawn0.refl _ | apply Drawn0.step)⟩
  case round =>
   clear H'; obtain ⟨x5_1, rfl, HA, HK1, ⟨m1, rfl⟩⟩ := hrel
   rcases gk with _ | k1
   exact (nN HA.out).elim; have H := HA.out; clear HA; simp only [laws_eqIntS.l0] at H
   replace H := gB H; rcases H with ⟨c4b0, H⟩ | ⟨c4b0, H⟩
   ·
    replace H := gD2 H; obtain ⟨c5b0, c6b0, H⟩ := H
    replace H := gQ H; rcases H with ⟨c7b0, c7b1, H⟩ | ⟨c7b0, c7b1, H⟩
    ·
     have H' := Az H; clear H; obtain ⟨ad101, e101, p101, q101, hx101_0⟩ := aI HR0.out x5_1
     cases e101; obtain ⟨ad102, e102, p102, q102, hx102_0⟩ := aI HR1.out x5_1
     cases e102; go_wp2
     repeat (go_quiet (fail); try go_wp2)
     go_roundg k1
     case measure => exact mO
     case rel => exact ⟨(wrap64 (x5_1 + 1)), rS, H', ⟨mO⟩, by repeat (first | exact Drawn0.refl _ | apply Drawn0.step)⟩
    ·
     obtain rfl := Option.some.inj H; obtain ⟨ad101, e101, p101, q101, hx101_0⟩ := aI HR0.out x5_1
     cases e101; obtain ⟨ad102, e102, p102, q102, hx102_0⟩ := aI HR1.out x5_1
     cases e102; go_wp2
     repeat (go_quiet (fail); try go_wp2)
     go_ret; exact ⟨by first | rfl | (simp; done) | (simp [*]; done), by repeat (first | exact Drawn0.refl _ | apply Drawn0.step)⟩
   ·
    obtain rfl := Option.some.inj H; go_wp2
    repeat (go_quiet (fail); try go_wp2)
    go_ret; exact ⟨by first | rfl | (simp; done) | (simp [*]; done), by repeat (first | exact Drawn0.refl _ | apply Drawn0.step)⟩
 ·
  rw [if_neg c3] at H; have c3b0 := beq_eq_false_iff_ne.mpr c3; have c3b1 := bne_iff_ne.mpr c3
  have c3b2 : (l0.length == l1.length) = false := by first | simpa using c3 | (simp at c3 ⊢; omega)
  obtain rfl := Option.some.inj H; go_enter Try.func76, Try.ntmps76; go_wp2
  repeat (go_quiet (fail); try go_wp2)
  go_ret; exact ⟨by first | rfl | (simp; done) | (simp [*]; done), by repeat (first | exact Drawn0.refl _ | apply Drawn0.step)⟩
def laws_eqMap.f (k : Nat) (l0_0 : List Int) (l0_1 : List Int) (l1_0 : List Int) (l1_1 : List Int) : Option (Bool) := (laws_eqIntS.f k l0_0 l1_0).bind fun t105 => (if t105 = true then ((laws_eqIntS.f k l0_1 l1_1).bind fun t106 => (if t106 = true then (some true) else (some false))) else (some false))
set_option maxHeartbeats 8000000 in
set_option maxRecDepth 100000 in
theorem laws_eqMap.calls (k : Nat) (A0_0 : Option Addr) (c0_0 : Nat) (l0_0 : List Int) (A0_1 : Option Addr) (c0_1 : Nat) (l0_1 : List Int) (A1_0 : Option Addr) (c1_0 : Nat) (l1_0 : List Int) (A1_1 : Option Addr) (c1_1 : Nat) (l1_1 : List Int) (r : Bool) (w : World) (hr0_0 : Kd.C (Kd.int .i64) w A0_0 l0_0.length l0_0) (hc0_0 : l0_0.length ≤ c0_0) (hr0_1 : Kd.C (Kd.int .i64) w A0_1 l0_1.length l0_1) (hc0_1 : l0_1.length ≤ c0_1) (hr1_0 : Kd.C (Kd.int .i64) w A1_0 l1_0.length l1_0) (hc1_0 : l1_0.length ≤ c1_0) (hr1_1 : Kd.C (Kd.int .i64) w A1_1 l1_1.length l1_1) (hc1_1 : l1_1.length ≤ c1_1) (h : laws_eqMap.f k l0_0 l0_1 l1_0 l1_1 = some r) :
  Calls Try.prog 24 #[.agg #[.slice A0_0 l0_0.length c0_0, .slice A0_1 l0_1.length c0_1], .agg #[.slice A1_0 l1_0.length c1_0, .slice A1_1 l1_1.length c1_1]] w fun e w' => e = .returned (.bool r) ∧ Below w.heap.size w w' := by
 have hu29 := Try.underlying29; have HR0_0 := Az hr0_0; have HC0_0 := Az hc0_0; clear hr0_0 hc0_0; have HR0_1 := Az hr0_1; have HC0_1 := Az hc0_1; clear hr0_1 hc0_1; have HR1_0 := Az hr1_0; have HC1_0 := Az hc1_0; clear hr1_0 hc1_0; have HR1_1 := Az hr1_1; have HC1_1 := Az hc1_1; clear hr1_1 hc1_1; have HB := bZ w; have H := h; clear h; unfold laws_eqMap.f at H; replace H := bd H; obtain ⟨t105, A3, H⟩ := H
 by_cases c4 : t105 = true
 ·
  subst c4; rw [if_pos rfl] at H; replace H := bd H; obtain ⟨t106, A5, H⟩ := H
  by_cases c6 : t106 = true
  ·
   subst c6; rw [if_pos rfl] at H; obtain rfl := Option.some.inj H; go_enter Try.func24, Try.ntmps24
   go_wp2_with (first | ((with_reducible refine gd 2 rfl ?_); refine bE 2 #[.slice A0_0 l0_0.length c0_0, .slice A0_1 l0_1.length c0_1] 29 ?_; intro gb103 hg w7 hbox hb; have BK103 := Az (hbox); have GW103 := gW hg (bU0 HB.out); replace HB := Az (below_step (bU0 HB.out) hb); clear hb hbox hg) | ((with_reducible refine gd 3 rfl ?_); refine bE 3 #[.slice A1_0 l1_0.length c1_0, .slice A1_1 l1_1.length c1_1] 29 ?_; intro gb104 hg w8 hbox hb; have BK104 := Az (hbox); have GW104 := gW hg (bU1 HB.out GW103.out); replace HB := Az (below_step (bU1 HB.out GW103.out) hb); have NB103_104 := nL hg (kU BK103.out); replace BK103 := kB BK103.out hb; clear hb hbox hg; have hnb9 := NB103_104.out; have hnc9 := (NB103_104.out).symm; have hz10 := bc2 BK103.out; have hz11 := bc2 BK104.out) | ((with_reducible refine gK 76 rfl ?_); refine gC (some 9) Try.func76 #[.slice A0_0 l0_0.length c0_0, .slice A1_0 l1_0.length c1_0] ?_; (with_reducible refine (laws_eqIntS.calls k _ _ l0_0 _ _ l1_0 true _ ?_ ?_ ?_ ?_ A3.out).mono ?_); exact cU (Kd.C_below HR0_0.out HB.out); exact HC0_0.out; exact cU (Kd.C_below HR1_0.out HB.out); exact HC1_0.out; rintro e w' ⟨rfl, ⟨nd, rfl⟩⟩; refine ⟨_, rfl, ?_⟩) | ((with_reducible refine gK 76 rfl ?_); refine gC (some 15) Try.func76 #[.slice A0_1 l0_1.length c0_1, .slice A1_1 l1_1.length c1_1] ?_; (with_reducible refine (laws_eqIntS.calls k _ _ l0_1 _ _ l1_1 true _ ?_ ?_ ?_ ?_ A5.out).mono ?_); exact cU (Kd.C_below HR0_1.out (bU2 HB.out GW103.out GW104.out)); exact HC0_1.out; exact cU (Kd.C_below HR1_1.out (bU2 HB.out GW103.out GW104.out)); exact HC1_1.out; rintro e w' ⟨rfl, ⟨nd, rfl⟩⟩; refine ⟨_, rfl, ?_⟩))
   go_ret; exact ⟨rE, bU2 HB.out GW103.out GW104.out⟩
  ·
   replace c6 := Bool.eq_false_iff.mpr c6; subst c6; rw [if_neg nT] at H; obtain rfl := Option.some.inj H; go_enter Try.func24, Try.ntmps24
   go_wp2_with (first | ((with_reducible refine gd 2 rfl ?_); refine bE 2 #[.slice A0_0 l0_0.length c0_0, .slice A0_1 l0_1.length c0_1] 29 ?_; intro gb103 hg w12 hbox hb; have BK103 := Az (hbox); have GW103 := gW hg (bU0 HB.out); replace HB := Az (below_step (bU0 HB.out) hb); clear hb hbox hg) | ((with_reducible refine gd 3 rfl ?_); refine bE 3 #[.slice A1_0 l1_0.length c1_0, .slice A1_1 l1_1.length c1_1] 29 ?_; intro gb104 hg w13 hbox hb; have BK104 := Az (hbox); have GW104 := gW hg (bU1 HB.out GW103.out); replace HB := Az (below_step (bU1 HB.out GW103.out) hb); have NB103_104 := nL hg (kU BK103.out); replace BK103 := kB BK103.out hb; clear hb hbox hg; have hnb14 := NB103_104.out; have hnc14 := (NB103_104.out).symm; have hz15 := bc2 BK103.out; have hz16 := bc2 BK104.out) | ((with_reducible refine gK 76 rfl ?_); refine gC (some 9) Try.func76 #[.slice A0_0 l0_0.length c0_0, .slice A1_0 l1_0.length c1_0] ?_; (with_reducible refine (laws_eqIntS.calls k _ _ l0_0 _ _ l1_0 true _ ?_ ?_ ?_ ?_ A3.out).mono ?_); exact cU (Kd.C_below HR0_0.out HB.out); exact HC0_0.out; exact cU (Kd.C_below HR1_0.out HB.out); exact HC1_0.out; rintro e w' ⟨rfl, ⟨nd, rfl⟩⟩; refine ⟨_, rfl, ?_⟩) | ((with_reducible refine gK 76 rfl ?_); refine gC (some 15) Try.func76 #[.slice A0_1 l0_1.length c0_1, .slice A1_1 l1_1.length c1_1] ?_; (with_reducible refine (laws_eqIntS.calls k _ _ l0_1 _ _ l1_1 false _ ?_ ?_ ?_ ?_ A5.out).mono ?_); exact cU (Kd.C_below HR0_1.out (bU2 HB.out GW103.out GW104.out)); exact HC0_1.out; exact cU (Kd.C_below HR1_1.out (bU2 HB.out GW103.out GW104.out)); exact HC1_1.out; rintro e w' ⟨rfl, ⟨nd, rfl⟩⟩; refine ⟨_, rfl, ?_⟩))
   go_ret; exact ⟨rE, bU2 HB.out GW103.out GW104.out⟩
 ·
  replace c4 := Bool.eq_false_iff.mpr c4; subst c4; rw [if_neg nT] at H; obtain rfl := Option.some.inj H; go_enter Try.func24, Try.ntmps24
  go_wp2_with (first | ((with_reducible refine gd 2 rfl ?_); refine bE 2 #[.slice A0_0 l0_0.length c0_0, .slice A0_1 l0_1.length c0_1] 29 ?_; intro gb103 hg w17 hbox hb; have BK103 := Az (hbox); have GW103 := gW hg (bU0 HB.out); replace HB := Az (below_step (bU0 HB.out) hb); clear hb hbox hg) | ((with_reducible refine gd 3 rfl ?_); refine bE 3 #[.slice A1_0 l1_0.length c1_0, .slice A1_1 l1_1.length c1_1] 29 ?_; intro gb104 hg w18 hbox hb; have BK104 := Az (hbox); have GW104 := gW hg (bU1 HB.out GW103.out); replace HB := Az (below_step (bU1 HB.out GW103.out) hb); have NB103_104 := nL hg (kU BK103.out); replace BK103 := kB BK103.out hb; clear hb hbox hg; have hnb19 := NB103_104.out; have hnc19 := (NB103_104.out).symm; have hz20 := bc2 BK103.out; have hz21 := bc2 BK104.out) | ((with_reducible refine gK 76 rfl ?_); refine gC (some 9) Try.func76 #[.slice A0_0 l0_0.length c0_0, .slice A1_0 l1_0.length c1_0] ?_; (with_reducible refine (laws_eqIntS.calls k _ _ l0_0 _ _ l1_0 false _ ?_ ?_ ?_ ?_ A3.out).mono ?_); exact cU (Kd.C_below HR0_0.out HB.out); exact HC0_0.out; exact cU (Kd.C_below HR1_0.out HB.out); exact HC1_0.out; rintro e w' ⟨rfl, ⟨nd, rfl⟩⟩; refine ⟨_, rfl, ?_⟩))
  go_ret; exact ⟨rE, bU2 HB.out GW103.out GW104.out⟩
def laws_eqTree.f (k : Nat) (a0_0 : ByteArray) (l0_1 : List Int) (a1_0 : ByteArray) (l1_1 : List Int) : Option (Bool) := if a0_0.toList = a1_0.toList then ((laws_eqIntS.f k l0_1 l1_1).bind fun t109 => (if t109 = true then (some true) else (some false))) else (some false)
set_option maxHeartbeats 8000000 in
set_option maxRecDepth 100000 in
theorem laws_eqTree.calls (k : Nat) (a0_0 : ByteArray) (A0_1 : Option Addr) (c0_1 : Nat) (l0_1 : List Int) (a1_0 : ByteArray) (A1_1 : Option Addr) (c1_1 : Nat) (l1_1 : List Int) (r : Bool) (w : World) (hr0_1 : Kd.C (Kd.int .i64) w A0_1 l0_1.length l0_1) (hc0_1 : l0_1.length ≤ c0_1) (hr1_1 : Kd.C (Kd.int .i64) w A1_1 l1_1.length l1_1) (hc1_1 : l1_1.length ≤ c1_1) (h : laws_eqTree.f k a0_0 l0_1 a1_0 l1_1 = some r) :
  Calls Try.prog 25 #[.agg #[.string a0_0, .slice A0_1 l0_1.length c0_1], .agg #[.string a1_0, .slice A1_1 l1_1.length c1_1]] w fun e w' => e = .returned (.bool r) ∧ Below w.heap.size w w' := by
 have hu25 := Try.underlying25; have HR0_1 := Az hr0_1; have HC0_1 := Az hc0_1; clear hr0_1 hc0_1; have HR1_1 := Az hr1_1; have HC1_1 := Az hc1_1; clear hr1_1 hc1_1; have HB := bZ w; have H := h; clear h; unfold laws_eqTree.f at H
 replace H := gQ H; rcases H with ⟨c3b0, c3b1, H⟩ | ⟨c3b0, c3b1, H⟩
 ·
  replace H := bd H; obtain ⟨t109, A4, H⟩ := H
  by_cases c5 : t109 = true
  ·
   subst c5; rw [if_pos rfl] at H; obtain rfl := Option.some.inj H; go_enter Try.func25, Try.ntmps25
   go_wp2_with (first | ((with_reducible refine gd 2 rfl ?_); refine bE 2 #[.string a0_0, .slice A0_1 l0_1.length c0_1] 25 ?_; intro gb107 hg w6 hbox hb; have BK107 := Az (hbox); have GW107 := gW hg (bU0 HB.out); replace HB := Az (below_step (bU0 HB.out) hb); clear hb hbox hg) | ((with_reducible refine gd 3 rfl ?_); refine bE 3 #[.string a1_0, .slice A1_1 l1_1.length c1_1] 25 ?_; intro gb108 hg w7 hbox hb; have BK108 := Az (hbox); have GW108 := gW hg (bU1 HB.out GW107.out); replace HB := Az (below_step (bU1 HB.out GW107.out) hb); have NB107_108 := nL hg (kU BK107.out); replace BK107 := kB BK107.out hb; clear hb hbox hg; have hnb8 := NB107_108.out; have hnc8 := (NB107_108.out).symm; have hz9 := bc2 BK107.out; have hz10 := bc2 BK108.out) | ((with_reducible refine gK 76 rfl ?_); refine gC (some 14) Try.func76 #[.slice A0_1 l0_1.length c0_1, .slice A1_1 l1_1.length c1_1] ?_; (with_reducible refine (laws_eqIntS.calls k _ _ l0_1 _ _ l1_1 true _ ?_ ?_ ?_ ?_ A4.out).mono ?_); exact cU (Kd.C_below HR0_1.out HB.out); exact HC0_1.out; exact cU (Kd.C_below HR1_1.out HB.out); exact HC1_1.out; rintro e w' ⟨rfl, ⟨nd, rfl⟩⟩; refine ⟨_, rfl, ?_⟩))
   go_ret; exact ⟨rE, bU2 HB.out GW107.out GW108.out⟩
  ·
   replace c5 := Bool.eq_false_iff.mpr c5; subst c5; rw [if_neg nT] at H; obtain rfl := Option.some.inj H; go_enter Try.func25, Try.ntmps25
   go_wp2_with (first | ((with_reducible refine gd 2 rfl ?_); refine bE 2 #[.string a0_0, .slice A0_1 l0_1.length c0_1] 25 ?_; intro gb107 hg w11 hbox hb; have BK107 := Az (hbox); have GW107 := gW hg (bU0 HB.out); replace HB := Az (below_step (bU0 HB.out) hb); clear hb hbox hg) | ((with_reducible refine gd 3 rfl ?_); refine bE 3 #[.string a1_0, .slice A1_1 l1_1.length c1_1] 25 ?_; intro gb108 hg w12 hbox hb; have BK108 := Az (hbox); have GW108 := gW hg (bU1 HB.out GW107.out); replace HB := Az (below_step (bU1 HB.out GW107.out) hb); have NB107_108 := nL hg (kU BK107.out); replace BK107 := kB BK107.out hb; clear hb hbox hg; have hnb13 := NB107_108.out; have hnc13 := (NB107_108.out).symm; have hz14 := bc2 BK107.out; have hz15 := bc2 BK108.out) | ((with_reducible refine gK 76 rfl ?_); refine gC (some 14) Try.func76 #[.slice A0_1 l0_1.length c0_1, .slice A1_1 l1_1.length c1_1] ?_; (with_reducible refine (laws_eqIntS.calls k _ _ l0_1 _ _ l1_1 false _ ?_ ?_ ?_ ?_ A4.out).mono ?_); exact cU (Kd.C_below HR0_1.out HB.out); exact HC0_1.out; exact cU (Kd.C_below HR1_1.out HB.out); exact HC1_1.out; rintro e w' ⟨rfl, ⟨nd, rfl⟩⟩; refine ⟨_, rfl, ?_⟩))
   go_ret; exact ⟨rE, bU2 HB.out GW107.out GW108.out⟩
 ·
  obtain rfl := Option.some.inj H; go_enter Try.func25, Try.ntmps25
  go_wp2_with (first | ((with_reducible refine gd 2 rfl ?_); refine bE 2 #[.string a0_0, .slice A0_1 l0_1.length c0_1] 25 ?_; intro gb107 hg w16 hbox hb; have BK107 := Az (hbox); have GW107 := gW hg (bU0 HB.out); replace HB := Az (below_step (bU0 HB.out) hb); clear hb hbox hg) | ((with_reducible refine gd 3 rfl ?_); refine bE 3 #[.string a1_0, .slice A1_1 l1_1.length c1_1] 25 ?_; intro gb108 hg w17 hbox hb; have BK108 := Az (hbox); have GW108 := gW hg (bU1 HB.out GW107.out); replace HB := Az (below_step (bU1 HB.out GW107.out) hb); have NB107_108 := nL hg (kU BK107.out); replace BK107 := kB BK107.out hb; clear hb hbox hg; have hnb18 := NB107_108.out; have hnc18 := (NB107_108.out).symm; have hz19 := bc2 BK107.out; have hz20 := bc2 BK108.out))
  go_ret; exact ⟨rE, bU2 HB.out GW107.out GW108.out⟩
def laws_markIntS.l0 : Nat → List Int → Int → Int → Option (Int × List Int)
 | 0, _, _, _ => none
 | k + 1, x0, x1, x5 => if x5 < (x0.length : Int) then (if 0 ≤ x5 then (laws_markIntS.l0 k (x0.set (x5 : Int).toNat x1) (wrap64 (x1 + 1)) (wrap64 (x5 + 1))) else (none)) else (some (x1, x0))
def laws_markIntS.f (k : Nat) (l0 : List Int) (a1 : Int) : Option (Int × List Int) := laws_markIntS.l0 k l0 a1 0
set_option maxHeartbeats 8000000 in
set_option maxRecDepth 100000 in
theorem laws_markIntS.calls (k : Nat) (P0_ : Nat → Prop) (u9000_ : Value) (l0 : List Int) (a1 : Int) (r1 : Int) (r2 : List Int) (w0 w : World) (hB : Below w0.heap.size w0 w) (ho0 : Kd.R (Kd.int .i64) 3 w w0.heap.size P0_ u9000_ l0) (h : laws_markIntS.f k l0 a1 = some (r1, r2)) :
  Calls Try.prog 77 #[u9000_, .int .i64 a1] w fun e w' => e = .returned (.int .i64 r1) ∧ Kd.R (Kd.int .i64) 3 w' w0.heap.size (fun k_ => (P0_ k_ ∨ w.heap.size ≤ k_)) u9000_ r2 ∧ Below w0.heap.size w0 w' ∧ Kept w w' (fun k_ => P0_ k_) := by
 have HO0 := Az (show Kd.R (Kd.int .i64) 3 w w0.heap.size (fun k_ => (P0_ k_ ∨ w.heap.size ≤ k_)) u9000_ l0 from Kd.R_mono ho0 (fun k_ hk => (.inl hk))); have HK := Az (Kept.refl w (fun k_ => P0_ k_)); have HW0 := Az hB.size; have HB := Az hB; clear hB; have H := h; clear h; unfold laws_markIntS.f at H; have H' := Az H; clear H; go_enter Try.func77, Try.ntmps77; go_wp2
 go_loopg [1, 5] k (fun kq v1 v5 w' => ∃ (x0_1 : List Int) (x1_1 : Int) (x5_1 : Int), v1 = .int .i64 x1_1 ∧ v5 = .int .i64 x5_1 ∧ Aside0 (laws_markIntS.l0 kq x0_1 x1_1 x5_1 = some (r1, r2)) ∧ Aside0 (kq ≤ k) ∧ Aside0 (Kd.R (Kd.int .i64) 3 w' w0.heap.size (fun k_ => (P0_ k_ ∨ w.heap.size ≤ k_)) u9000_ x0_1) ∧ Aside0 (Kept w w' (fun k_ => P0_ k_)) ∧ Aside0 (Below w0.heap.size w0 w'))
 case atStart => exact ⟨(l0), (a1), (0), rS, rS, H', ⟨Nat.le_refl _⟩, ⟨rU HO0.out⟩, ⟨by repeat (first | (with_reducible first | exact HK.out | apply Kept.alloc | apply Kept.drewN | apply Kept.drew) | exact HK.out)⟩, ⟨bU0 HB.out⟩⟩
 case round =>
  clear H'; obtain ⟨x0_1, x1_1, x5_1, rfl, rfl, HA, HK1, HO_0, HK, HB⟩ := hrel
  rcases gk with _ | k1
  exact (nN HA.out).elim; have H := HA.out; clear HA; simp only [laws_markIntS.l0] at H
  replace H := gB H; rcases H with ⟨c3b0, H⟩ | ⟨c3b0, H⟩
  ·
   replace H := gD1 H; obtain ⟨c4b0, H⟩ := H; generalize Ny110 : (x0_1.set (x5_1 : Int).toNat x1_1 : List Int) = y110 at H; replace Ny110 := Ay Ny110; have H' := Az H; clear H; obtain ⟨Ao6, co6, eo6⟩ := Kd.R_slice HO_0.out; subst eo6; have p5 : 0 ≤ (x5_1 : Int) := oA; have q5 : (x5_1 : Int) < ((x0_1.length : Int) : Int) := oA; obtain ⟨go5, co5, eo5, gb5, gl5, cl5, HG5⟩ := Kd.R_form HO_0.out (by omega); (first | cases eo5 | (injection eo5 with ea_ en_ ec_; (first | subst ea_ | (injection ea_ with ea_; subst ea_)); subst ec_; clear en_)); have GB5 := Az gb5; have GG5 := Az HG5; clear gb5 gl5 HG5; have HMgo5 := Az (show (P0_ go5 ∨ w.heap.size ≤ go5) from (HO_0.out.1 _ rfl)); obtain ⟨hx5_0, hf5_0⟩ := Kd.R_celln 0 HO_0.out (x5_1 : Int) p5 q5; replace p5 := eq_true p5; replace q5 := eq_true q5; obtain ⟨hy7_, hz7_⟩ := Kd.R_celln 0 HO_0.out (x5_1 : Int) (oA) (oA); have HP7 := Kd.R_putg HO_0.out (x5_1 : Int) x1_1
   go_wp2_with (first | ((with_reducible refine gs 3 15 rfl ?_); refine sE 3 15 (wr.setCell ⟨go5, (x5_1 : Int).toNat, none⟩ (.int .i64 x1_1)) ?_; intro w8 hw; have hg : wr.grownBy w8 (some go5) := (by rw [hw]; exact HP7.2); have hp_ : Kd.R (Kd.int .i64) 3 w8 w0.heap.size (fun k_ => (P0_ k_ ∨ w.heap.size ≤ k_)) (.slice (some ⟨go5, 0, none⟩) x0_1.length co6) y110 := (by rw [hw, Ny110.out]; exact HP7.1); clear HP7; replace HB := Az ((by rw [hw]; exact below_set (HB.out) GB5.out : Below w0.heap.size w0 w8)); replace HK := Az (Kept.of_grown (S := (fun k_ => P0_ k_)) hg (by repeat (first | (with_reducible first | exact HK.out | apply Kept.alloc | apply Kept.drewN | apply Kept.drew) | exact HK.out)) (fun k_ e_ => (HO_0.out.1 k_ e_))); replace HO_0 := Az (hp_); clear hg hw hp_))
   go_roundg k1
   case measure => exact mO
   case rel => exact ⟨(y110), (wrap64 (x1_1 + 1)), (wrap64 (x5_1 + 1)), rS, rS, H', ⟨mO⟩, ⟨rU HO_0.out⟩, ⟨by repeat (first | (with_reducible first | exact HK.out | apply Kept.alloc | apply Kept.drewN | apply Kept.drew) | exact HK.out)⟩, ⟨bU0 HB.out⟩⟩
  · simp only [Option.some.injEq, Prod.mk.injEq] at H; obtain ⟨rfl, rfl⟩ := H; obtain ⟨Ao9, co9, eo9⟩ := Kd.R_slice HO_0.out; subst eo9; go_wp2; go_ret; exact ⟨rE, rU HO_0.out, bU0 HB.out, by repeat (first | (with_reducible first | exact HK.out | apply Kept.alloc | apply Kept.drewN | apply Kept.drew) | exact HK.out)⟩
def laws_markTree.f (k : Nat) (a0_0 : ByteArray) (l0_1 : List Int) (a1 : Int) : Option (Int × List Int) := (laws_markIntS.f k l0_1 a1).bind fun bt112 => (some (bt112.1, bt112.2))
set_option maxHeartbeats 8000000 in
set_option maxRecDepth 100000 in
theorem laws_markTree.calls (k : Nat) (a0_0 : ByteArray) (P0_1_ : Nat → Prop) (u9000_ : Value) (l0_1 : List Int) (a1 : Int) (r1 : Int) (r2 : List Int) (w0 w : World) (hB : Below w0.heap.size w0 w) (ho0_1 : Kd.R (Kd.int .i64) 3 w w0.heap.size P0_1_ u9000_ l0_1) (h : laws_markTree.f k a0_0 l0_1 a1 = some (r1, r2)) :
  Calls Try.prog 26 #[.agg #[.string a0_0, u9000_], .int .i64 a1] w fun e w' => e = .returned (.int .i64 r1) ∧ Kd.R (Kd.int .i64) 3 w' w0.heap.size (fun k_ => (P0_1_ k_ ∨ w.heap.size ≤ k_)) u9000_ r2 ∧ Below w0.heap.size w0 w' ∧ Kept w w' (fun k_ => P0_1_ k_) := by
 have hu25 := Try.underlying25; have HO0_1 := Az (show Kd.R (Kd.int .i64) 3 w w0.heap.size (fun k_ => (P0_1_ k_ ∨ w.heap.size ≤ k_)) u9000_ l0_1 from Kd.R_mono ho0_1 (fun k_ hk => (.inl hk))); have HK := Az (Kept.refl w (fun k_ => P0_1_ k_)); have HW0 := Az hB.size; have HB := Az hB; clear hB; have H := h; clear h; unfold laws_markTree.f at H; replace H := bd H; obtain ⟨⟨t112, t113⟩, A3, H⟩ := H; dsimp only at H; simp only [Option.some.injEq, Prod.mk.injEq] at H; obtain ⟨rfl, rfl⟩ := H; obtain ⟨Ao4, co4, eo4⟩ := Kd.R_slice HO0_1.out; subst eo4; go_enter Try.func26, Try.ntmps26
 go_wp2_with (first | ((with_reducible refine gd 2 rfl ?_); refine bE 2 #[.string a0_0, .slice Ao4 l0_1.length co4] 25 ?_; intro gb111 hg w5 hbox hb; replace HO0_1 := rB HO0_1.out hb; have BK111 := Az (hbox); have GW111 := Az ((by rw [hg]; exact (by first | exact HK.out.1 | exact (show Kept w _ (fun k_ => P0_1_ k_) from by repeat (first | (with_reducible first | exact HK.out | apply Kept.alloc | apply Kept.drewN | apply Kept.drew) | exact HK.out)).1) : w.heap.size ≤ gb111)); replace HK := Az (Kept.below (S := (fun k_ => P0_1_ k_)) (by repeat (first | (with_reducible first | exact HK.out | apply Kept.alloc | apply Kept.drewN | apply Kept.drew) | exact HK.out)) hb); have GE111 := Az ((by rw [hg]; exact (below_size (bU0 HB.out)) : w0.heap.size ≤ gb111)); replace HB := Az (below_step (bU0 HB.out) hb); clear hb hbox hg; have hz6 := bc2 BK111.out) | ((with_reducible refine gK 77 rfl ?_); refine gC (some 8) Try.func77 #[.slice Ao4 l0_1.length co4, .int .i64 a1] ?_; (with_reducible refine (laws_markIntS.calls k (fun k_ => some k_ = (.slice Ao4 l0_1.length co4 : Value).ownBlock) (.slice Ao4 l0_1.length co4) l0_1 a1 t112 t113 w0 _ ?side1 ?side2 A3.out).mono ?_); (case side1 => repeat (first | (with_reducible first | exact HB.out | apply below_alloc | apply pw_below_drewN | apply below_drew1 | refine below_set ?_ GE111.out) | exact HB.out)); (case side2 => exact Kd.R_tight rfl HO0_1.out); rintro e w7 ⟨rfl, hy0, hb, hkp⟩; refine ⟨_, rfl, ?_⟩; replace BK111 := Az (blk_kept (kU BK111.out) hkp (fun hs_ => (fun e_ => (Kd.R_ne HO0_1.out BK111.out (by decide)) e_) hs_)); replace HK := Az (Kept.then_ (S := (fun k_ => P0_1_ k_)) (by repeat (first | (with_reducible first | exact HK.out | apply Kept.alloc | apply Kept.drewN | apply Kept.drew | refine Kept.setCell ?_ (.inr GW111.out) _) | exact HK.out)) hkp (fun k_ hs_ => (fun e_ => (HO0_1.out.1 k_ e_.symm)) hs_)); replace HO0_1 := Az (Kd.R_reok rfl hy0 (fun k_ e_ => HO0_1.out.1 k_ e_)); replace HB := Az (hb); clear hb))
 go_ret; exact ⟨rE, rU HO0_1.out, bU1 HB.out GE111.out, by repeat (first | (with_reducible first | exact HK.out | apply Kept.alloc | apply Kept.drewN | apply Kept.drew | refine Kept.setCell ?_ (.inr GW111.out) _) | exact HK.out)⟩
def laws_markMap.f (k : Nat) (l0_0 : List Int) (l0_1 : List Int) (a1 : Int) : Option (Int × List Int × List Int) := (laws_markIntS.f k l0_0 a1).bind fun bt115 => ((laws_markIntS.f k l0_1 bt115.1).bind fun bt117 => (some (bt117.1, bt115.2, bt117.2)))
set_option maxHeartbeats 8000000 in
set_option maxRecDepth 100000 in
theorem laws_markMap.calls (k : Nat) (P0_0_ : Nat → Prop) (u9000_ : Value) (l0_0 : List Int) (P0_1_ : Nat → Prop) (u9001_ : Value) (l0_1 : List Int) (a1 : Int) (r1 : Int) (r2 : List Int) (r3 : List Int) (w0 w : World) (hB : Below w0.heap.size w0 w) (ho0_0 : Kd.R (Kd.int .i64) 3 w w0.heap.size P0_0_ u9000_ l0_0) (hp0_0_0_1 : ∀ k_, P0_0_ k_ → ¬ P0_1_ k_) (ho0_1 : Kd.R (Kd.int .i64) 3 w w0.heap.size P0_1_ u9001_ l0_1) (hp0_1_0_0 : ∀ k_, P0_1_ k_ → ¬ P0_0_ k_) (h : laws_markMap.f k l0_0 l0_1 a1 = some (r1, r2, r3)) :
  Calls Try.prog 27 #[.agg #[u9000_, u9001_], .int .i64 a1] w fun e w' => e = .returned (.int .i64 r1) ∧ Kd.R (Kd.int .i64) 3 w' w0.heap.size (fun k_ => ((P0_0_ k_ ∨ P0_1_ k_) ∨ w.heap.size ≤ k_)) u9000_ r2 ∧ Kd.R (Kd.int .i64) 3 w' w0.heap.size (fun k_ => ((P0_0_ k_ ∨ P0_1_ k_) ∨ w.heap.size ≤ k_)) u9001_ r3 ∧ Below w0.heap.size w0 w' ∧ Kept w w' (fun k_ => P0_0_ k_ ∨ P0_1_ k_) := by
 have hu29 := Try.underlying29; have HO0_0 := Az (show Kd.R (Kd.int .i64) 3 w w0.heap.size (fun k_ => ((P0_0_ k_ ∨ P0_1_ k_) ∨ w.heap.size ≤ k_) ∧ oV k_ u9001_) u9000_ l0_0 from Kd.R_mono ho0_0 (fun k_ hk => ⟨(.inl (.inl hk)), fun e_ => hp0_0_0_1 k_ hk (ho0_1.1 k_ e_.symm)⟩)); have HO0_1 := Az (show Kd.R (Kd.int .i64) 3 w w0.heap.size (fun k_ => ((P0_0_ k_ ∨ P0_1_ k_) ∨ w.heap.size ≤ k_) ∧ oV k_ u9000_) u9001_ l0_1 from Kd.R_mono ho0_1 (fun k_ hk => ⟨(.inl (.inr hk)), fun e_ => hp0_1_0_0 k_ hk (ho0_0.1 k_ e_.symm)⟩)); have HK := Az (Kept.refl w (fun k_ => P0_0_ k_ ∨ P0_1_ k_)); have HW0 := Az hB.size; have HB := Az hB; clear hB; have H := h; clear h; unfold laws_markMap.f at H; replace H := bd H; obtain ⟨⟨t115, t116⟩, A3, H⟩ := H; dsimp only at H; replace H := bd H; obtain ⟨⟨t117, t118⟩, A4, H⟩ := H; dsimp only at H; simp only [Option.some.injEq, Prod.mk.injEq] at H; obtain ⟨rfl, rfl, rfl⟩ := H; obtain ⟨Ao5, co5, eo5⟩ := Kd.R_slice HO0_0.out; subst eo5; obtain ⟨Ao6, co6, eo6⟩ := Kd.R_slice HO0_1.out; subst eo6; go_enter Try.func27, Try.ntmps27
 go_wp2_with (first | ((with_reducible refine gd 2 rfl ?_); refine bE 2 #[.slice Ao5 l0_0.length co5, .slice Ao6 l0_1.length co6] 29 ?_; intro gb114 hg w7 hbox hb; replace HO0_0 := rB HO0_0.out hb; replace HO0_1 := rB HO0_1.out hb; have BK114 := Az (hbox); have GW114 := Az ((by rw [hg]; exact (by first | exact HK.out.1 | exact (show Kept w _ (fun k_ => P0_0_ k_ ∨ P0_1_ k_) from by repeat (first | (with_reducible first | exact HK.out | apply Kept.alloc | apply Kept.drewN | apply Kept.drew) | exact HK.out)).1) : w.heap.size ≤ gb114)); replace HK := Az (Kept.below (S := (fun k_ => P0_0_ k_ ∨ P0_1_ k_)) (by repeat (first | (with_reducible first | exact HK.out | apply Kept.alloc | apply Kept.drewN | apply Kept.drew) | exact HK.out)) hb); have GE114 := Az ((by rw [hg]; exact (below_size (bU0 HB.out)) : w0.heap.size ≤ gb114)); replace HB := Az (below_step (bU0 HB.out) hb); clear hb hbox hg; have hz8 := bc2 BK114.out) | ((with_reducible refine gK 77 rfl ?_); refine gC (some 8) Try.func77 #[.slice Ao5 l0_0.length co5, .int .i64 a1] ?_; (with_reducible refine (laws_markIntS.calls k (fun k_ => some k_ = (.slice Ao5 l0_0.length co5 : Value).ownBlock) (.slice Ao5 l0_0.length co5) l0_0 a1 t115 t116 w0 _ ?side1 ?side2 A3.out).mono ?_); (case side1 => repeat (first | (with_reducible first | exact HB.out | apply below_alloc | apply pw_below_drewN | apply below_drew1 | refine below_set ?_ GE114.out) | exact HB.out)); (case side2 => exact Kd.R_tight rfl HO0_0.out); rintro e w9 ⟨rfl, hy0, hb, hkp⟩; refine ⟨_, rfl, ?_⟩; replace HO0_1 := Az (Kd.R_mono (ok' := fun k_ => ((P0_0_ k_ ∨ P0_1_ k_) ∨ w.heap.size ≤ k_) ∧ oS k_ Ao5 l0_0.length co5) (Kd.R_keptB (HO0_1.out) hkp (fun k_ hk_ hs_ => (hk_.2) hs_)) (fun k_ hk_ => ⟨hk_.1.1, hk_.1.2⟩)); replace BK114 := Az (blk_kept (kU BK114.out) hkp (fun hs_ => (fun e_ => (Kd.R_ne HO0_0.out BK114.out (by decide)) e_) hs_)); replace HK := Az (Kept.then_ (S := (fun k_ => P0_0_ k_ ∨ P0_1_ k_)) z1_1 hkp (fun k_ hs_ => (fun e_ => (HO0_0.out.1 k_ e_.symm).1) hs_)); replace HO0_0 := Az (Kd.R_reok rfl hy0 (fun k_ e_ => HO0_0.out.1 k_ e_)); replace HB := Az (hb); clear hb; have hz10 := bc2 BK114.out) | ((with_reducible refine gK 77 rfl ?_); refine gC (some 12) Try.func77 #[.slice Ao6 l0_1.length co6, .int .i64 t115] ?_; (with_reducible refine (laws_markIntS.calls k (fun k_ => some k_ = (.slice Ao6 l0_1.length co6 : Value).ownBlock) (.slice Ao6 l0_1.length co6) l0_1 t115 t117 t118 w0 _ ?side1 ?side2 A4.out).mono ?_); (case side1 => repeat (first | (with_reducible first | exact HB.out | apply below_alloc | apply pw_below_drewN | apply below_drew1 | refine below_set ?_ GE114.out) | exact HB.out)); (case side2 => exact Kd.R_tight rfl HO0_1.out); rintro e w11 ⟨rfl, hy0, hb, hkp⟩; refine ⟨_, rfl, ?_⟩; replace HO0_0 := Az (Kd.R_mono (ok' := fun k_ => ((P0_0_ k_ ∨ P0_1_ k_) ∨ w.heap.size ≤ k_) ∧ oS k_ Ao6 l0_1.length co6) (Kd.R_keptB (HO0_0.out) hkp (fun k_ hk_ hs_ => (hk_.2) hs_)) (fun k_ hk_ => ⟨hk_.1.1, hk_.1.2⟩)); replace BK114 := Az (blk_kept (kU BK114.out) hkp (fun hs_ => (fun e_ => (Kd.R_ne HO0_1.out BK114.out (by decide)) e_) hs_)); replace HK := Az (Kept.then_ (S := (fun k_ => P0_0_ k_ ∨ P0_1_ k_)) z1_1 hkp (fun k_ hs_ => (fun e_ => (HO0_1.out.1 k_ e_.symm).1) hs_)); replace HO0_1 := Az (Kd.R_reok rfl hy0 (fun k_ e_ => HO0_1.out.1 k_ e_)); replace HB := Az (hb); clear hb))
 go_ret; exact ⟨rE, by (with_reducible repeat (first | apply Kd.R_alloc | apply Kd.R_drewN | apply Kd.R_drew)); exact Kd.R_mono HO0_0.out (fun _ hk => hk.1), by (with_reducible repeat (first | apply Kd.R_alloc | apply Kd.R_drewN | apply Kd.R_drew)); exact Kd.R_mono HO0_1.out (fun _ hk => hk.1), bU1 HB.out GE114.out, by repeat (first | (with_reducible first | exact HK.out | apply Kept.alloc | apply Kept.drewN | apply Kept.drew | refine Kept.setCell ?_ (.inr GW114.out) _) | exact HK.out)⟩
mutual
def impl_cyclesOf.l0 : Nat → List Int → List (List Int) → List Bool → Int → Int → Option ((List (List Int)))
 | 0, _, _, _, _, _ => none
 | k + 1, x0, x3, x4, x13, x14 => if x14 < x13 then (impl_cyclesOf.l1 k x0 x3 x4 (([] : List Int)) x14 x13 x14) else (some x3)
def impl_cyclesOf.l1 : Nat → List Int → List (List Int) → List Bool → List Int → Int → Int → Int → Option ((List (List Int)))
 | 0, _, _, _, _, _, _, _ => none
 | k + 1, x0, x3, x4, x6, x7, x13, x14 => if 0 ≤ x7 then (if x7 < (x4.length : Int) then (if rdOf false x4 x7 = true then (if (x6.length : Int) > 0 then (if x3.length < 5864062014805 then (impl_cyclesOf.l0 k x0 (x3 ++ [x6]) x4 x13 (wrap64 (x14 + 1))) else (none)) else (impl_cyclesOf.l0 k x0 x3 x4 x13 (wrap64 (x14 + 1)))) else (if x6.length < 17592186044416 then (if x7 < (x0.length : Int) then (impl_cyclesOf.l1 k x0 x3 (x4.set (x7 : Int).toNat true) (x6 ++ [x7]) (rd x0 x7) x13 x14) else (none)) else (none))) else (none)) else (none)
end
def impl_cyclesOf.f (k : Nat) (l0 : List Int) : Option ((List (List Int))) := if 0 ≤ (l0.length : Int) then (if ((l0.length : Int) : Int).toNat ≤ 281474976710656 then (impl_cyclesOf.l0 k l0 (([] : List (List Int))) (List.replicate ((l0.length : Int) : Int).toNat false) (l0.length : Int) 0) else (none)) else (none)
set_option maxHeartbeats 8000000 in
set_option maxRecDepth 100000 in
theorem impl_cyclesOf.calls (k : Nat) (A0 : Option Addr) (c0 : Nat) (l0 : List Int) (r : List (List Int)) (w : World) (hr0 : Kd.C (Kd.int .i64) w A0 l0.length l0) (hc0 : l0.length ≤ c0) (h : impl_cyclesOf.f k l0 = some r) :
  Calls Try.prog 67 #[.slice A0 l0.length c0] w fun e w' => ∃ v0_ : Value, e = .returned (v0_) ∧ Kd.S (Kd.slice 3 (Kd.int .i64)) 23 w' w.heap.size (fun _ => True) v0_ r ∧ Below w.heap.size w w' := by
 have HR0 := Az hr0; have HC0 := Az hc0; clear hr0 hc0; have HB := bZ w; have H := h; clear h; unfold impl_cyclesOf.f at H; generalize Ny119 : (([] : List (List Int)) : List (List Int)) = y119 at H; replace Ny119 := Ay Ny119; replace H := gE H; obtain ⟨c2b0, c2b1, H⟩ := H; replace H := gE H; obtain ⟨c3b0, c3b1, H⟩ := H; generalize Ny122 : (List.replicate ((l0.length : Int) : Int).toNat false : List Bool) = y122 at H; replace Ny122 := Ay Ny122; have H' := Az H; clear H; go_enter Try.func67, Try.ntmps67
 go_wp2_with (first | ((with_reducible refine gd 8 rfl ?_); refine Kd.S_lit (Kd.slice 3 (Kd.int .i64)) _ 23 rfl (N := 8) rfl (xs := ([] : List (List Int))) (inner := []) (ok := fun _ => True) (okp := fun _ => True) hS ?hp (fun _ hk => hk) trivial (Below.refl _ _) (Nat.le_refl _) (by simp) ?_; (case hp => exact (Reps.none _ _)); intro v120 w4 ho5 hb hg_ hnew_; clear hg_ hnew_; (first | rw [← Ny119.out] at ho5 | (simp only [Int.reduceToNat] at ho5; rw [← Ny119.out] at ho5)); have HO121 := Az (Kd.S_lower ho5 (below_size (bU0 HB.out))); replace HB := Az (below_step (bU0 HB.out) hb); clear hb ho5) | ((with_reducible refine gd 11 rfl ?_); refine Kd.R_make Kd.bool _ 4 rfl (N := 11) rfl 93 _ _ rfl (l0.length : Int) rfl rfl Try.underlying93 (.bool false) 1 info4 rfl (by decide) (by omega) false (ok := fun _ => True) (okp := fun _ => True) rfl (fun _ hk => hk) trivial (oA) (Nat.le_trans (Nat.mul_le_mul_right _ (oA : (l0.length : Int).toNat ≤ 281474976710656)) (by omega)) (Below.refl _ _) (Nat.le_refl _) ?_; intro v123 w6 ho7 hb hg_ hnew_; clear hg_ hnew_; (first | rw [← Ny122.out] at ho7 | (simp only [Int.reduceToNat] at ho7; rw [← Ny122.out] at ho7)); replace HO121 := sB HO121.out hb; have HO124 := Az (Kd.R_lower ho7 (below_size (bU0 HB.out))); replace HB := Az (below_step (bU0 HB.out) hb); clear hb ho7))
 go_loopg [3, 14] k (fun kq v3 v14 w' => ∃ (x3_1 : List (List Int)) (x4_1 : List Bool) (x14_1 : Int), v14 = .int .i64 x14_1 ∧ Aside0 (impl_cyclesOf.l0 kq l0 x3_1 x4_1 (l0.length : Int) x14_1 = some r) ∧ Aside0 (kq ≤ k) ∧ Aside0 (Kd.S (Kd.slice 3 (Kd.int .i64)) 23 w' w.heap.size (fun _ => True) v3 x3_1) ∧ Aside0 (Kd.R Kd.bool 4 w' w.heap.size (fun _ => True) v123 x4_1) ∧ Aside0 (Below w.heap.size w w'))
 case atStart => exact ⟨(y119), (y122), (0), rS, H', ⟨Nat.le_refl _⟩, ⟨sU HO121.out⟩, ⟨rU HO124.out⟩, ⟨bU0 HB.out⟩⟩
 case round =>
  clear H'; obtain ⟨x3_1, x4_1, x14_1, rfl, HA, HK1, HO_3, HO_4, HB⟩ := hrel
  rcases gk with _ | k1
  exact (nN HA.out).elim; have H := HA.out; clear HA; simp only [impl_cyclesOf.l0] at H
  by_cases c8 : x14_1 < (l0.length : Int)
  ·
   rw [if_pos c8] at H; have c8b0 := decide_eq_true c8; clear c8; generalize Ny125 : (([] : List Int) : List Int) = y125 at H; replace Ny125 := Ay Ny125; have H' := Az H; clear H
   go_wp2_with (first | ((with_reducible refine gd 17 rfl ?_); refine Kd.R_lit (Kd.int .i64) _ 3 rfl (N := 17) rfl (xs := ([] : List Int)) (inner := []) (ok := fun _ => True) (okp := fun _ => True) hS ?hp (fun _ hk => hk) trivial (Below.refl _ _) (Nat.le_refl _) (by simp) ?_; (case hp => exact (Reps.none _ _)); intro v126 w9 ho10 hb hg_ hnew_; clear hg_ hnew_; (first | rw [← Ny125.out] at ho10 | (simp only [Int.reduceToNat] at ho10; rw [← Ny125.out] at ho10)); replace HO_3 := Az (Kd.S_elder' (sU HO_3.out) (Kd.R_base ho10) hb); replace HO_4 := rB HO_4.out hb; have HO127 := Az (Kd.R_lower ho10 (below_size (bU0 HB.out))); replace HB := Az (below_step (bU0 HB.out) hb); clear hb ho10))
   go_loopg [6, 7] k1 (fun kq v6 v7 w' => ∃ (x4_2 : List Bool) (x6_2 : List Int) (x7_2 : Int), v7 = .int .i64 x7_2 ∧ Aside0 (impl_cyclesOf.l1 kq l0 x3_1 x4_2 x6_2 x7_2 (l0.length : Int) x14_1 = some r) ∧ Aside0 (kq ≤ k1) ∧ Aside0 (Kd.S (Kd.slice 3 (Kd.int .i64)) 23 w' w.heap.size (fun k_ => oV k_ v6) u3 x3_1) ∧ Aside0 (Kd.R Kd.bool 4 w' w.heap.size (fun _ => True) v123 x4_2) ∧ Aside0 (Kd.R (Kd.int .i64) 3 w' w.heap.size (fun _ => True) v6 x6_2) ∧ Aside0 (Below w.heap.size w w'))
   case atStart => exact ⟨(x4_1), (y125), (x14_1), rS, H', ⟨Nat.le_refl _⟩, ⟨sM HO_3.out⟩, ⟨rU HO_4.out⟩, ⟨rU HO127.out⟩, ⟨bU0 HB.out⟩⟩
   case round =>
    clear H'; obtain ⟨x4_2, x6_2, x7_2, rfl, HA, HK2, HO_3, HO_4, HO_6, HB⟩ := hrel
    rcases gk with _ | k2
    exact (nN HA.out).elim; have H := HA.out; clear HA; simp only [impl_cyclesOf.l1] at H; replace H := gD2 H; obtain ⟨c11b0, c12b0, H⟩ := H; obtain ⟨bq13, hbq13⟩ : ∃ b_ : Bool, b_ = (rdOf false x4_2 x7_2) := ⟨_, rfl⟩
    replace H : (if bq13 = true then (if (x6_2.length : Int) > 0 then (if x3_1.length < 5864062014805 then (impl_cyclesOf.l0 k2 l0 (x3_1 ++ [x6_2]) x4_2 (l0.length : Int) (wrap64 (x14_1 + 1))) else (none)) else (impl_cyclesOf.l0 k2 l0 x3_1 x4_2 (l0.length : Int) (wrap64 (x14_1 + 1)))) else (if x6_2.length < 17592186044416 then (if x7_2 < (l0.length : Int) then (impl_cyclesOf.l1 k2 l0 x3_1 (x4_2.set (x7_2 : Int).toNat true) (x6_2 ++ [x7_2]) (rd l0 x7_2) (l0.length : Int) x14_1) else (none)) else (none))) = some r := by rw [← hbq13] at H; exact H
    have Nbq13 := Az hbq13; clear hbq13
    by_cases c14 : bq13 = true
    ·
     subst c14; rw [if_pos rfl] at H
     by_cases c15 : (x6_2.length : Int) > 0
     ·
      rw [if_pos c15] at H; have c15b0 := decide_eq_true c15; have c15b1 : decide (0 < x6_2.length) = true := decide_eq_true (by omega); clear c15; replace H := gP H; obtain ⟨c16, H⟩ := H; have LMc16 := Az c16; clear c16; generalize Ny129 : (x3_1 ++ [x6_2] : List (List Int)) = y129 at H; replace Ny129 := Ay Ny129; have H' := Az H; clear H; obtain ⟨Ao17, co17, eo17⟩ := Kd.R_slice HO_4.out; subst eo17; obtain ⟨ad128, e128, p128, q128, hx128_0⟩ := aB (Kd.R_reads' HO_4.out).2.2 x7_2; rw [← Nbq13.out] at hx128_0
      cases e128; obtain ⟨Ao18, co18, eo18⟩ := Kd.R_slice HO_6.out; subst eo18
      go_wp2_with (first | ((with_reducible refine gate_builtin (b := .append) (xs := #[.tmp 38, .tmp 40]) rfl ?_); at_builtin; refine Kd.S_append (Kd.slice 3 (Kd.int .i64)) (w0 := w) w.heap.size rfl (.tmp 38) (.tmp 40) 82 23 (.slice none 0 0) 24 rfl Try.underlying82 info23 rfl (by decide) (by omega) u3 x3_1 x6_2 [.slice Ao18 x6_2.length co18] (fun _ => True) (fun k_ => some k_ = (.slice Ao18 x6_2.length co18 : Value).ownBlock) rfl rfl ?aP (fun k_ hk_ => ((Kd.R_mono (ok' := fun k_ => ((fun _ => True)) k_ ∧ oV k_ u3) (Kd.R_apart' (HO_6.out) (Kd.S_typed HO_3.out) (by decide)) (fun k_ hk => ⟨trivial, hk.2⟩))).1 k_ hk_.symm) ?aF ?aO ?aB ?aS ?aL ?_; (case aP => exact Kd.M_row (Kd.R_mono (Kd.R_tight rfl (Kd.R_mono (ok' := fun k_ => ((fun _ => True)) k_ ∧ oV k_ u3) (Kd.R_apart' (HO_6.out) (Kd.S_typed HO_3.out) (by decide)) (fun k_ hk => ⟨trivial, hk.2⟩))) (fun _ h_ => h_))); (case aB => exact (bU0 HB.out)); (case aF => exact (fun _ _ => trivial)); (case aO => exact (by (with_reducible repeat (first | apply Kd.S_alloc | apply Kd.S_drewN | apply Kd.S_drew)); exact Kd.S_mono HO_3.out (fun k_ hk => ⟨trivial, fun e_ => hk e_⟩))); (case aS => exact (below_size (bU0 HB.out))); (case aL => have := LMc16.out; omega); intro v130 w19 ho hb hg hat; rw [← Ny129.out] at ho; replace HO_4 := Az (Kd.R_over' (rU HO_4.out) (Kd.S_typed (sU HO_3.out)) (by decide) hg); replace HB := Az (hb); have HO131 := Az (ho); clear HO_3 HO_6 ho hb hg hat))
      go_roundg k2
      case measure => exact mO
      case rel => exact ⟨(y129), (x4_2), (wrap64 (x14_1 + 1)), rS, H', ⟨mO⟩, ⟨sU HO131.out⟩, ⟨rU HO_4.out⟩, ⟨bU0 HB.out⟩⟩
     ·
      rw [if_neg c15] at H; have c15b0 := decide_eq_false c15; have c15b1 : decide (0 < x6_2.length) = false := decide_eq_false (by omega); clear c15; have H' := Az H; clear H; obtain ⟨Ao20, co20, eo20⟩ := Kd.R_slice HO_4.out; subst eo20; obtain ⟨ad128, e128, p128, q128, hx128_0⟩ := aB (Kd.R_reads' HO_4.out).2.2 x7_2; rw [← Nbq13.out] at hx128_0
      cases e128; obtain ⟨Ao21, co21, eo21⟩ := Kd.R_slice HO_6.out; subst eo21; go_wp2; go_roundg k2
      case measure => exact mO
      case rel => exact ⟨(x3_1), (x4_2), (wrap64 (x14_1 + 1)), rS, H', ⟨mO⟩, ⟨sM HO_3.out⟩, ⟨rU HO_4.out⟩, ⟨bU0 HB.out⟩⟩
    ·
     replace c14 := Bool.eq_false_iff.mpr c14; subst c14; rw [if_neg nT] at H; generalize Ny132 : (x4_2.set (x7_2 : Int).toNat true : List Bool) = y132 at H; replace Ny132 := Ay Ny132; replace H := gP H; obtain ⟨c23, H⟩ := H; have LMc23 := Az c23; clear c23; generalize Ny133 : (x6_2 ++ [x7_2] : List Int) = y133 at H; replace Ny133 := Ay Ny133; replace H := gD1 H; obtain ⟨c24b0, H⟩ := H; have H' := Az H; clear H; obtain ⟨Ao25, co25, eo25⟩ := Kd.R_slice HO_4.out; subst eo25; obtain ⟨ad128, e128, p128, q128, hx128_0⟩ := aB (Kd.R_reads' HO_4.out).2.2 x7_2; rw [← Nbq13.out] at hx128_0
     cases e128; have p22 : 0 ≤ (x7_2 : Int) := oA; have q22 : (x7_2 : Int) < ((x4_2.length : Int) : Int) := oA; obtain ⟨go22, co22, eo22, gb22, gl22, cl22, HG22⟩ := Kd.R_form HO_4.out (by omega); (first | cases eo22 | (injection eo22 with ea_ en_ ec_; (first | subst ea_ | (injection ea_ with ea_; subst ea_)); subst ec_; clear en_)); have GB22 := Az gb22; have GG22 := Az HG22; clear gb22 gl22 HG22; simp only [add_plain] at hx128_0; obtain ⟨hx22_0, hf22_0⟩ := Kd.R_celln false HO_4.out (x7_2 : Int) p22 q22; replace p22 := eq_true p22; replace q22 := eq_true q22; obtain ⟨hy26_, hz26_⟩ := Kd.R_celln false HO_4.out (x7_2 : Int) (oA) (oA); have HP26 := Kd.R_putg HO_4.out (x7_2 : Int) true
     go_wp2_with (first | ((with_reducible refine gs 4 30 rfl ?_); refine sE 4 30 (wr.setCell ⟨go22, (x7_2 : Int).toNat, none⟩ (.bool true)) ?_; intro w27 hw; have hg : wr.grownBy w27 (some go22) := (by rw [hw]; exact HP26.2); have hp_ : Kd.R Kd.bool 4 w27 w.heap.size (fun _ => True) (.slice (some ⟨go22, 0, none⟩) x4_2.length co25) y132 := (by rw [hw, Ny132.out]; exact HP26.1); clear HP26; replace HO_3 := Az (Kd.S_over' (v := (.slice (some ⟨go22, 0, none⟩) x4_2.length co25)) (sU HO_3.out) (Kd.R_typed HO_4.out) (by decide) hg); replace HO_6 := Az (Kd.R_over' (v := (.slice (some ⟨go22, 0, none⟩) x4_2.length co25)) (rU HO_6.out) (Kd.R_typed HO_4.out) (by decide) hg); replace HO_4 := Az (hp_); replace HB := Az ((by rw [hw]; exact below_set (HB.out) GB22.out : Below w.heap.size w w27)); clear hg hw hp_) | ((with_reducible refine gate_builtin (b := .append) (xs := #[.tmp 31, .tmp 33]) rfl ?_); at_builtin; refine Kd.R_append (Kd.int .i64) (w0 := w) w.heap.size rfl (.tmp 31) (.tmp 33) 23 3 (.int .i64 0) 8 rfl Try.underlying23 info3 rfl (by decide) (by omega) u6 x6_2 x7_2 [.int .i64 x7_2] (fun _ => True) (fun _ => False) rfl rfl ?aP (fun _ hk => hk.elim) ?aF ?aO ?aB ?aS ?aL ?_; (case aP => exact rfl); (case aB => exact (bU0 HB.out)); (case aF => exact (fun _ _ => trivial)); (case aO => exact (rU HO_6.out)); (case aS => exact (below_size (bU0 HB.out))); (case aL => have := LMc23.out; omega); intro v134 w28 ho hb hg hat; rw [← Ny133.out] at ho; replace HO_3 := Az (Kd.S_after (ok := (fun _ => True)) (sM HO_3.out) hg hat); replace HO_4 := Az (Kd.R_over' (rU HO_4.out) (Kd.R_typed (rU HO_6.out)) (by decide) hg); replace HB := Az (hb); have HO135 := Az (ho); clear HO_6 ho hb hg hat; obtain ⟨ad136, e136, _, _, hx136_0⟩ := aI HR0.out x7_2; cases e136; replace hx136_0 := hT HB.out hx136_0))
     go_roundg k2
     case measure => exact mO
     case rel => exact ⟨(y132), (y133), (rd l0 x7_2), rS, H', ⟨mO⟩, ⟨sM HO_3.out⟩, ⟨rU HO_4.out⟩, ⟨rU HO135.out⟩, ⟨bU0 HB.out⟩⟩
  · rw [if_neg c8] at H; have c8b0 := decide_eq_false c8; clear c8; obtain rfl := Option.some.inj H; go_wp2; go_ret; exact ⟨_, rE, sU HO_3.out, bU0 HB.out⟩
def impl_mul.l0 : Nat → List Int → List Int → List Int → Int → Int → Option (List Int)
 | 0, _, _, _, _, _ => none
 | k + 1, x1, x5, x11, x12, x13 => if x13 < x12 then (if 0 ≤ x13 then (if x13 < (x11.length : Int) then (if 0 ≤ (rd x11 x13) then (if (rd x11 x13) < (x1.length : Int) then (if x13 < (x5.length : Int) then (impl_mul.l0 k x1 (x5.set (x13 : Int).toNat (rd x1 (rd x11 x13))) x11 x12 (wrap64 (x13 + 1))) else (none)) else (none)) else (none)) else (none)) else (none)) else (some x5)
def impl_mul.f (k : Nat) (l0 : List Int) (l1 : List Int) : Option (List Int) := if 0 ≤ (l0.length : Int) then (if ((l0.length : Int) : Int).toNat ≤ 35184372088832 then (impl_mul.l0 k l1 (List.replicate ((l0.length : Int) : Int).toNat 0) l0 (l0.length : Int) 0) else (none)) else (none)
set_option maxHeartbeats 8000000 in
set_option maxRecDepth 100000 in
theorem impl_mul.calls (k : Nat) (A0 : Option Addr) (c0 : Nat) (l0 : List Int) (A1 : Option Addr) (c1 : Nat) (l1 : List Int) (r : List Int) (w : World) (hr0 : Kd.C (Kd.int .i64) w A0 l0.length l0) (hc0 : l0.length ≤ c0) (hr1 : Kd.C (Kd.int .i64) w A1 l1.length l1) (hc1 : l1.length ≤ c1) (h : impl_mul.f k l0 l1 = some r) :
  Calls Try.prog 68 #[.slice A0 l0.length c0, .slice A1 l1.length c1] w fun e w' => ∃ v0_ : Value, e = .returned (v0_) ∧ Kd.R (Kd.int .i64) 3 w' w.heap.size (fun _ => True) v0_ r ∧ Below w.heap.size w w' := by
 have HR0 := Az hr0; have HC0 := Az hc0; clear hr0 hc0; have HR1 := Az hr1; have HC1 := Az hc1; clear hr1 hc1; have HB := bZ w; have H := h; clear h; unfold impl_mul.f at H; replace H := gE H; obtain ⟨c3b0, c3b1, H⟩ := H; replace H := gE H; obtain ⟨c4b0, c4b1, H⟩ := H; generalize Ny137 : (List.replicate ((l0.length : Int) : Int).toNat 0 : List Int) = y137 at H; replace Ny137 := Ay Ny137; have H' := Az H; clear H; go_enter Try.func68, Try.ntmps68
 go_wp2_with (first | ((with_reducible refine gd 10 rfl ?_); refine Kd.R_make (Kd.int .i64) _ 3 rfl (N := 10) rfl 23 _ _ rfl (l0.length : Int) rfl rfl Try.underlying23 (.int .i64 0) 8 info3 rfl (by decide) (by omega) 0 (ok := fun _ => True) (okp := fun _ => True) rfl (fun _ hk => hk) trivial (oA) (Nat.le_trans (Nat.mul_le_mul_right _ (oA : (l0.length : Int).toNat ≤ 35184372088832)) (by omega)) (Below.refl _ _) (Nat.le_refl _) ?_; intro v138 w5 ho6 hb hg_ hnew_; clear hg_ hnew_; (first | rw [← Ny137.out] at ho6 | (simp only [Int.reduceToNat] at ho6; rw [← Ny137.out] at ho6)); have HO139 := Az (Kd.R_lower ho6 (below_size (bU0 HB.out))); replace HB := Az (below_step (bU0 HB.out) hb); clear hb ho6))
 go_loopg [13] k (fun kq v13 w' => ∃ (x5_1 : List Int) (x13_1 : Int), v13 = .int .i64 x13_1 ∧ Aside0 (impl_mul.l0 kq l1 x5_1 l0 (l0.length : Int) x13_1 = some r) ∧ Aside0 (kq ≤ k) ∧ Aside0 (Kd.R (Kd.int .i64) 3 w' w.heap.size (fun _ => True) v138 x5_1) ∧ Aside0 (Below w.heap.size w w'))
 case atStart => exact ⟨(y137), (0), rS, H', ⟨Nat.le_refl _⟩, ⟨rU HO139.out⟩, ⟨bU0 HB.out⟩⟩
 case round =>
  clear H'; obtain ⟨x5_1, x13_1, rfl, HA, HK1, HO_5, HB⟩ := hrel
  rcases gk with _ | k1
  exact (nN HA.out).elim; have H := HA.out; clear HA; simp only [impl_mul.l0] at H
  replace H := gB H; rcases H with ⟨c7b0, H⟩ | ⟨c7b0, H⟩
  ·
   replace H := gD5 H; obtain ⟨c8b0, c9b0, c10b0, c11b0, c12b0, H⟩ := H; generalize Ny142 : (x5_1.set (x13_1 : Int).toNat (rd l1 (rd l0 x13_1)) : List Int) = y142 at H; replace Ny142 := Ay Ny142; have H' := Az H; clear H; obtain ⟨ad140, e140, _, _, hx140_0⟩ := aI HR0.out x13_1
   cases e140
   replace hx140_0 := hT HB.out hx140_0; obtain ⟨ad141, e141, _, _, hx141_0⟩ := aI HR1.out (rd l0 x13_1)
   cases e141
   replace hx141_0 := hT HB.out hx141_0; have p13 : 0 ≤ (x13_1 : Int) := oA; have q13 : (x13_1 : Int) < ((x5_1.length : Int) : Int) := oA; obtain ⟨go13, co13, eo13, gb13, gl13, cl13, HG13⟩ := Kd.R_form HO_5.out (by omega); (first | cases eo13 | (injection eo13 with ea_ en_ ec_; (first | subst ea_ | (injection ea_ with ea_; subst ea_)); subst ec_; clear en_)); have GB13 := Az gb13; have GG13 := Az HG13; clear gb13 gl13 HG13; obtain ⟨hx13_0, hf13_0⟩ := Kd.R_celln 0 HO_5.out (x13_1 : Int) p13 q13; replace p13 := eq_true p13; replace q13 := eq_true q13; obtain ⟨hy14_, hz14_⟩ := Kd.R_celln 0 HO_5.out (x13_1 : Int) (oA) (oA); have HP14 := Kd.R_putg HO_5.out (x13_1 : Int) (rd l1 (rd l0 x13_1))
   go_wp2_with (first | ((with_reducible refine gs 3 24 rfl ?_); refine sE 3 24 (wr.setCell ⟨go13, (x13_1 : Int).toNat, none⟩ (.int .i64 (rd l1 (rd l0 x13_1)))) ?_; intro w15 hw; have hg : wr.grownBy w15 (some go13) := (by rw [hw]; exact HP14.2); have hp_ : Kd.R (Kd.int .i64) 3 w15 w.heap.size (fun _ => True) (.slice (some ⟨go13, 0, none⟩) x5_1.length co13) y142 := (by rw [hw, Ny142.out]; exact HP14.1); clear HP14; replace HO_5 := Az (hp_); replace HB := Az ((by rw [hw]; exact below_set (HB.out) GB13.out : Below w.heap.size w w15)); clear hg hw hp_))
   go_roundg k1
   case measure => exact mO
   case rel => exact ⟨(y142), (wrap64 (x13_1 + 1)), rS, H', ⟨mO⟩, ⟨rU HO_5.out⟩, ⟨bU0 HB.out⟩⟩
  · obtain rfl := Option.some.inj H; go_wp2; go_ret; exact ⟨_, rE, rU HO_5.out, bU0 HB.out⟩
def impl_genusOf.f (k : Nat) (l0_0 : List Int) (l0_1 : List Int) : Option (Int) := (impl_cyclesOf.f k l0_0).bind fun t144 => ((impl_mul.f k l0_1 l0_0).bind fun t147 => ((impl_cyclesOf.f k t147).bind fun t150 => (some (wrap64 (Int.tdiv (wrap64 ((wrap64 ((wrap64 (2 - (t144.length : Int))) + (wrap64 ((l0_1.length : Int) / 2)))) - (t150.length : Int))) 2)))))
def impl_genusOf.T1 : Bool × List (List Nat × List Nat) := (true, [([], []), ([0], [0]), ([1], [1]), ([2], [2]), ([3], [3]), ([], []), ([5], [5]), ([6], [6]), ([7], [7]), ([4, 8], [4, 8]), ([], []), ([10], [10]), ([], []), ([12], [12]), ([11, 13, 2], [11, 13]), ([14, 14], [14]), ([15], [15]), ([9, 16], [9, 16]), ([17], [17]), ([18, 15, 0, 1, 2, 3, 4, 5, 6, 7, 8, 9, 10, 11, 12, 13, 14, 15, 16, 17, 18], [18])])
def impl_genusOf.B1 : List Nat := [0, 1, 3, 7, 15, 0, 32, 96, 224, 511, 0, 1024, 0, 4096, 15367, 31751, 64519, 131071, 262143, 524287]
theorem impl_genusOf.tab1 : rtab .any (opsOf Try.f87 1) = impl_genusOf.T1 := by kernel_rfl
theorem impl_genusOf.bits1 : waitsOk impl_genusOf.T1.2 impl_genusOf.B1 = true := by kernel_rfl
set_option maxHeartbeats 8000000 in
set_option maxRecDepth 100000 in
theorem impl_genusOf.calls (k : Nat) (A0_0 : Option Addr) (c0_0 : Nat) (l0_0 : List Int) (A0_1 : Option Addr) (c0_1 : Nat) (l0_1 : List Int) (r : Int) (w : World) (hr0_0 : Kd.C (Kd.int .i64) w A0_0 l0_0.length l0_0) (hc0_0 : l0_0.length ≤ c0_0) (hr0_1 : Kd.C (Kd.int .i64) w A0_1 l0_1.length l0_1) (hc0_1 : l0_1.length ≤ c0_1) (h : impl_genusOf.f k l0_0 l0_1 = some r) :
  Calls Try.prog 87 #[.agg #[.slice A0_0 l0_0.length c0_0, .slice A0_1 l0_1.length c0_1]] w fun e w' => e = .returned (.int .i64 r) ∧ Below w.heap.size w w' := by
 have hu29 := Try.underlying29; have HR0_0 := Az hr0_0; have HC0_0 := Az hc0_0; clear hr0_0 hc0_0; have HR0_1 := Az hr0_1; have HC0_1 := Az hc0_1; clear hr0_1 hc0_1; have HB := bZ w; have H := h; clear h; unfold impl_genusOf.f at H; replace H := bd H; obtain ⟨t144, A2, H⟩ := H; replace H := bd H; obtain ⟨t147, A3, H⟩ := H; replace H := bd H; obtain ⟨t150, A4, H⟩ := H; obtain rfl := Option.some.inj H; go_enter Try.func87, Try.ntmps87
 try go_wp2_with (first | ((with_reducible refine gd 1 rfl ?_); refine bE 1 #[.slice A0_0 l0_0.length c0_0, .slice A0_1 l0_1.length c0_1] 29 ?_; intro gb143 hg w5 hbox hb; have BK143 := Az (hbox); have GW143 := gW hg (bU0 HB.out); replace HB := Az (below_step (bU0 HB.out) hb); clear hb hbox hg))
 replace BK143 := Az (blk_drew BK143.out); replace HB := Az (below_drew1 HB.out); refine start_ (n := 20) (S := fun w' => w'.cell? ⟨gb143, 0, none⟩ = some (.slice A0_0 l0_0.length c0_0) ∧ w'.cell? ⟨gb143, 1, none⟩ = some (.slice A0_1 l0_1.length c0_1)) (ds := []) (bv 20 0) (by kernel_rfl) rfl rfl ⟨(blk_cell BK143.out 0).trans rfl, (blk_cell BK143.out 1).trans rfl⟩ (fun hHeld => ?_); refine with_tabW impl_genusOf.tab1 impl_genusOf.bits1 (fun HT_ HW_ => ?_); generalize w5.drew = w6 at BK143 HB hHeld ⊢; refine pure_ (i := 0) (N := some 3) (v := ?_) (a' := ?_) (bv 20 1) rfl rfl (any_of HT_.out (by kernel_rfl)) (fun _ _ _ h => h) (Or.inl ⟨by rfl, ?_⟩) ?_ ?_; rotate_left; (exact yP); rotate_left; (exact aP); refine pure_ (i := 5) (N := some 8) (v := ?_) (a' := ?_) (bv 20 33) rfl rfl (any_of HT_.out (by kernel_rfl)) (fun _ _ _ h => h) (Or.inl ⟨by rfl, ?_⟩) ?_ ?_; rotate_left; (exact yP); rotate_left; (exact aP); refine pure_ (i := 10) (N := some 13) (v := ?_) (a' := ?_) (bv 20 1057) rfl rfl (any_of HT_.out (by kernel_rfl)) (fun _ _ _ h => h) (Or.inl ⟨by rfl, ?_⟩) ?_ ?_; rotate_left; (exact yP); rotate_left; (exact aP); refine pure_ (i := 12) (N := some 15) (v := ?_) (a' := ?_) (bv 20 5153) rfl rfl (any_of HT_.out (by kernel_rfl)) (fun _ _ _ h => h) (Or.inl ⟨by rfl, ?_⟩) ?_ ?_; rotate_left; (exact yP); rotate_left; (exact aP); refine take_ (i := 1) (N := some 4) (v := ?_) (a' := ?_) (bv 20 5155) rfl rfl (take_ofW HT_.out HW_.out (by kernel_rfl)) (fun _ _ _ h => h) (Or.inl ⟨by rfl, ?_⟩) hHeld ?_ ?_; rotate_left
 ·
  rintro w' ⟨s0, s1⟩; go_simp
  with_reducible rfl
 rotate_left; (exact aP); refine take_ (i := 6) (N := some 9) (v := ?_) (a' := ?_) (bv 20 5219) rfl rfl (take_ofW HT_.out HW_.out (by kernel_rfl)) (fun _ _ _ h => h) (Or.inl ⟨by rfl, ?_⟩) hHeld ?_ ?_; rotate_left
 ·
  rintro w' ⟨s0, s1⟩; go_simp
  with_reducible rfl
 rotate_left; (exact aP); refine pure_ (i := 7) (N := some 10) (v := ?_) (a' := ?_) (bv 20 5347) rfl rfl (any_of HT_.out (by kernel_rfl)) (fun _ _ _ h => h) (Or.inl ⟨by rfl, ?_⟩) ?_ ?_; rotate_left; (exact yP); rotate_left; (exact aP); refine pure_ (i := 8) (N := some 11) (v := ?_) (a' := ?_) (bv 20 5603) rfl rfl (any_of HT_.out (by kernel_rfl)) (fun _ _ _ h => h) (Or.inl ⟨by rfl, ?_⟩) ?_ ?_; rotate_left; (exact yP); rotate_left; (exact aP); refine take_ (i := 11) (N := some 14) (v := ?_) (a' := ?_) (bv 20 7651) rfl rfl (take_ofW HT_.out HW_.out (by kernel_rfl)) (fun _ _ _ h => h) (Or.inl ⟨by rfl, ?_⟩) hHeld ?_ ?_; rotate_left
 ·
  rintro w' ⟨s0, s1⟩; go_simp
  with_reducible rfl
 rotate_left; (exact aP); refine take_ (i := 13) (N := some 16) (v := ?_) (a' := ?_) (bv 20 15843) rfl rfl (take_ofW HT_.out HW_.out (by kernel_rfl)) (fun _ _ _ h => h) (Or.inl ⟨by rfl, ?_⟩) hHeld ?_ ?_; rotate_left
 ·
  rintro w' ⟨s0, s1⟩; go_simp
  with_reducible rfl
 rotate_left; (exact aP); refine one_ (i := 2) (N := some 5) (bv 20 15847) rfl rfl (one_of HT_.out (by kernel_rfl)) (by decide) (fun K hK => ?_); refine goes_ Try.func67 (by kernel_rfl) rfl #[.slice A0_0 l0_0.length c0_0] (by rfl) rfl rfl lQ ?_
 with_reducible refine (impl_cyclesOf.calls k _ _ l0_0 t144 _ ?side1 ?side2 A2.out).mono ?_
 (case side1 => exact cU (Kd.C_below HR0_0.out HB.out))
 (case side2 => exact HC0_0.out)
 rintro e w7 ⟨v145, rfl, ho0, hb⟩; refine ⟨_, rfl, ?_⟩; have HO146 := Az (Kd.S_lower ho0 (below_size (bU1 HB.out GW143.out))); replace BK143 := kB BK143.out hb; replace HB := Az (below_step (bU1 HB.out GW143.out) hb); clear hb ho0; obtain ⟨Ao8, co8, eo8⟩ := Kd.S_slice HO146.out; (first | subst eo8 | (injection eo8 with f1_ f2_ f3_; have f4_ := f1_.symm; have f5_ := f3_.symm; clear f1_ f2_ f3_; subst f4_; subst f5_)); refine hK.out _ _ ⟨(blk_cell BK143.out 0).trans rfl, (blk_cell BK143.out 1).trans rfl⟩ (fun hHeld => ?_); clear hK K; refine norm_ (a' := ?_) ?_ ?_; rotate_left
 ·
  show Act.put _ (some 5) _ = _
  simp only [Act.put, List.setIfInBounds_toArray, List.set_cons_zero, List.set_cons_succ, i64_w, i32_w]; rfl
 refine pure_ (i := 3) (N := some 6) (v := ?_) (a' := ?_) (bv 20 15855) rfl rfl (any_of HT_.out (by kernel_rfl)) (fun _ _ _ h => h) (Or.inl ⟨by rfl, ?_⟩) ?_ ?_; rotate_left; (exact yP); rotate_left; (exact aP); refine pure_ (i := 4) (N := some 7) (v := ?_) (a' := ?_) (bv 20 15871) rfl rfl (any_of HT_.out (by kernel_rfl)) (fun _ _ _ h => h) (Or.inl ⟨by rfl, ?_⟩) ?_ ?_; rotate_left; (exact yP); rotate_left; (exact aP); refine pure_ (i := 9) (N := some 12) (v := ?_) (a' := ?_) (bv 20 16383) rfl rfl (any_of HT_.out (by kernel_rfl)) (fun _ _ _ h => h) (Or.inl ⟨by rfl, ?_⟩) ?_ ?_; rotate_left; (exact yP); rotate_left; (exact aP); refine one_ (i := 14) (N := some 17) (bv 20 32767) rfl rfl (one_of HT_.out (by kernel_rfl)) (by decide) (fun K hK => ?_); refine goes_ Try.func68 (by kernel_rfl) rfl #[.slice A0_1 l0_1.length c0_1, .slice A0_0 l0_0.length c0_0] (by rfl) rfl rfl lQ ?_
 with_reducible refine (impl_mul.calls k _ _ l0_1 _ _ l0_0 t147 _ ?side1 ?side2 ?side3 ?side4 A3.out).mono ?_
 (case side1 => exact cU (Kd.C_below HR0_1.out HB.out))
 (case side2 => exact HC0_1.out)
 (case side3 => exact cU (Kd.C_below HR0_0.out HB.out))
 (case side4 => exact HC0_0.out)
 rintro e w9 ⟨v148, rfl, ho0, hb⟩; refine ⟨_, rfl, ?_⟩; replace HO146 := Az (Kd.S_elder' (sU HO146.out) (Kd.R_base ho0) hb); have HO149 := Az (Kd.R_lower ho0 (below_size (bU1 HB.out GW143.out))); replace BK143 := kB BK143.out hb; replace HB := Az (below_step (bU1 HB.out GW143.out) hb); clear hb ho0; obtain ⟨Ao10, co10, eo10⟩ := Kd.R_slice HO149.out; (first | subst eo10 | (injection eo10 with f1_ f2_ f3_; have f4_ := f1_.symm; have f5_ := f3_.symm; clear f1_ f2_ f3_; subst f4_; subst f5_)); refine hK.out _ _ ⟨(blk_cell BK143.out 0).trans rfl, (blk_cell BK143.out 1).trans rfl⟩ (fun hHeld => ?_); clear hK K; refine norm_ (a' := ?_) ?_ ?_; rotate_left
 ·
  show Act.put _ (some 17) _ = _
  simp only [Act.put, List.setIfInBounds_toArray, List.set_cons_zero, List.set_cons_succ, i64_w, i32_w]; rfl
 refine one_ (i := 15) (N := some 18) (bv 20 65535) rfl rfl (one_of HT_.out (by kernel_rfl)) (by decide) (fun K hK => ?_); refine goes_ Try.func67 (by kernel_rfl) rfl #[.slice Ao10 t147.length co10] (by rfl) rfl rfl lQ ?_
 with_reducible refine (impl_cyclesOf.calls k _ _ t147 t150 _ ?side1 ?side2 A4.out).mono ?_
 (case side1 => exact cU ((Kd.R_reads' HO149.out).2.2))
 (case side2 => exact (Kd.R_reads' HO149.out).2.1)
 rintro e w11 ⟨v151, rfl, ho0, hb⟩; refine ⟨_, rfl, ?_⟩; have HO152 := Az (Kd.S_lower (Kd.S_new' (Kd.S_new' ho0 (Kd.S_lt (sU HO146.out))) (Kd.R_lt (rU HO149.out))) (below_size (bU1 HB.out GW143.out))); replace HO146 := Az (Kd.S_elder' (sU HO146.out) (Kd.S_base ho0) hb); replace HO149 := rB HO149.out hb; replace BK143 := kB BK143.out hb; replace HB := Az (below_step (bU1 HB.out GW143.out) hb); clear hb ho0; obtain ⟨Ao12, co12, eo12⟩ := Kd.S_slice HO152.out; (first | subst eo12 | (injection eo12 with f1_ f2_ f3_; have f4_ := f1_.symm; have f5_ := f3_.symm; clear f1_ f2_ f3_; subst f4_; subst f5_)); refine hK.out _ _ ⟨(blk_cell BK143.out 0).trans rfl, (blk_cell BK143.out 1).trans rfl⟩ (fun hHeld => ?_); clear hK K; refine norm_ (a' := ?_) ?_ ?_; rotate_left
 ·
  show Act.put _ (some 18) _ = _
  simp only [Act.put, List.setIfInBounds_toArray, List.set_cons_zero, List.set_cons_succ, i64_w, i32_w]; rfl
 refine pure_ (i := 16) (N := some 19) (v := ?_) (a' := ?_) (bv 20 131071) rfl rfl (any_of HT_.out (by kernel_rfl)) (fun _ _ _ h => h) (Or.inl ⟨by rfl, ?_⟩) ?_ ?_; rotate_left; (exact yP); rotate_left; (exact aP); refine pure_ (i := 17) (N := some 20) (v := ?_) (a' := ?_) (bv 20 262143) rfl rfl (any_of HT_.out (by kernel_rfl)) (fun _ _ _ h => h) (Or.inl ⟨by rfl, ?_⟩) ?_ ?_; rotate_left; (exact yP); rotate_left; (exact aP); refine pure_ (i := 18) (N := some 21) (v := ?_) (a' := ?_) (bv 20 524287) rfl rfl (any_of HT_.out (by kernel_rfl)) (fun _ _ _ h => h) (Or.inl ⟨by rfl, ?_⟩) ?_ ?_; rotate_left; (exact yP); rotate_left; (exact aP); refine pure_ (i := 19) (N := some 2) (v := ?_) (a' := ?_) (bv 20 1048575) rfl rfl (any_of HT_.out (by kernel_rfl)) (fun _ _ _ h => h) (Or.inl ⟨by rfl, ?_⟩) ?_ ?_; rotate_left; (exact yP); rotate_left; (exact aP); refine done_ (done_of HT_.out (by kernel_rfl)) ?_
 try go_wp2
 go_ret; exact ⟨rE, bU1 HB.out GW143.out⟩
def impl_PermValid.l0 : Nat → List Int → List Bool → Int → Option Bool
 | 0, _, _, _ => none
 | k + 1, l, s, i => if i < (l.length : Int) then (if 0 ≤ i then (if rd l i < 0 then (some false) else (if rd l i ≥ (l.length : Int) then (some false) else (if s.getD (rd l i).toNat false = true then (some false) else (impl_PermValid.l0 k l (s.set (rd l i).toNat true) (wrap64 (i + 1)))))) else none) else (some true)
def impl_PermValid.f (k : Nat) (l0 : List Int) : Option Bool := if (l0.length : Int) < 1 then (some false) else (if (l0.length : Int) > 12 then (some false) else (impl_PermValid.l0 k l0 (List.replicate 12 false) 0))
set_option maxHeartbeats 8000000 in
set_option maxRecDepth 100000 in
theorem impl_PermValid.calls (k : Nat) (A0 : Option Addr) (c0 : Nat) (l0 : List Int) (r : Bool) (w : World) (hr0 : Kd.C (Kd.int .i64) w A0 l0.length l0) (hc0 : l0.length ≤ c0) (h : impl_PermValid.f k l0 = some r) :
  Calls Try.prog 105 #[.slice A0 l0.length c0] w fun e w' => e = .returned (.bool r) ∧ Below w.heap.size w w' := by
 have HR0 := Az hr0; have HC0 := Az hc0; clear hr0 hc0; have HB := bZ w; have H := h; clear h; unfold impl_PermValid.f at H
 replace H := gB H; rcases H with ⟨c3b0, H⟩ | ⟨c3b0, H⟩
 · obtain rfl := Option.some.inj H; go_enter Try.func105, Try.ntmps105; go_wp2; go_ret; exact ⟨rfl, below_alloc HB.out _⟩
 ·
  by_cases c4 : (l0.length : Int) > 12
  · rw [if_pos c4] at H; have c4b0 := decide_eq_true c4; clear c4; obtain rfl := Option.some.inj H; go_enter Try.func105, Try.ntmps105; go_wp2; go_ret; exact ⟨rfl, below_alloc HB.out _⟩
  ·
   rw [if_neg c4] at H; have c4b0 := decide_eq_false c4
   have c4p : (l0.length : Int) ≤ 12 := by omega
   clear c4; have H' := Az H; clear H; go_enter Try.func105, Try.ntmps105; go_wp2
   go_loopg [17] k (fun kq v17 w' => ∃ (s : List Bool) (i : Int), v17 = .int .i64 i ∧ Aside0 (impl_PermValid.l0 kq l0 s i = some r) ∧ Aside0 (kq ≤ k) ∧ Aside0 (s.length = 12) ∧ Aside0 (w'.heap[w.heap.size]? = some (.cells (s.map Value.bool).toArray 110 (0, 0))) ∧ Aside0 (Below w.heap.size w w'))
   case atStart => exact ⟨List.replicate 12 false, 0, rfl, H', ⟨Nat.le_refl _⟩, ⟨rfl⟩, ⟨by simpa using heap_alloc_new w _⟩, ⟨below_alloc HB.out _⟩⟩
   case round =>
    clear H'; obtain ⟨s, i, rfl, HA, HK1, HL, BK, HB⟩ := hrel
    rcases gk with _ | k1
    exact (nN HA.out).elim; have H := HA.out; clear HA; simp only [impl_PermValid.l0] at H
    by_cases c5 : i < (l0.length : Int)
    ·
     rw [if_pos c5] at H; have c5b0 := decide_eq_true c5; replace H := gP H; obtain ⟨c6, H⟩ := H; have c6b0 := decide_eq_true c6; obtain ⟨ad, e, hx⟩ := Kd.at_int HR0.out i c6 c5
     cases e
     replace hx := (HB.out.cell (World.block_lt_of_cell? w _ hx)).trans hx; replace c6 := eq_true c6; replace c5 := eq_true c5
     by_cases c7 : rd l0 i < 0
     · rw [if_pos c7] at H; have c7b0 := decide_eq_true c7; clear c7; obtain rfl := Option.some.inj H; go_wp2; go_ret; exact ⟨rfl, HB.out⟩
     ·
      rw [if_neg c7] at H; have c7b0 := decide_eq_false c7
      have c7p : 0 ≤ rd l0 i := by omega
      clear c7
      by_cases c8 : rd l0 i ≥ (l0.length : Int)
      · rw [if_pos c8] at H; have c8b0 := decide_eq_true c8; clear c8; obtain rfl := Option.some.inj H; go_wp2; go_ret; exact ⟨rfl, HB.out⟩
      ·
       rw [if_neg c8] at H; have c8b0 := decide_eq_false c8
       have c8p : rd l0 i < 12 := by omega
       clear c8; have hcs : wr.cell? ⟨w.heap.size, (rd l0 i).toNat, none⟩ = some (.bool (s.getD (rd l0 i).toNat false)) := (blk_cell BK.out _).trans (by have hl := HL.out; simp [List.getD_eq_getElem?_getD]; rw [List.getElem?_eq_getElem (by omega)]; rfl); have hfs := blk_frozen BK.out (rd l0 i).toNat; generalize hb : s.getD (rd l0 i).toNat false = b at H hcs
       cases b with
       | true =>
        rw [if_pos rfl] at H; obtain rfl := Option.some.inj H; clear hb; go_wp2; go_ret; exact ⟨rfl, HB.out⟩
       | false =>
        rw [if_neg (by decide)] at H; have H' := Az H; clear H hb; go_wp2; go_roundg k1
        case measure => exact mO
        case rel => exact ⟨s.set (rd l0 i).toNat true, wrap64 (i + 1), rS, H', ⟨mO⟩, ⟨by rw [List.length_set]; exact HL.out⟩, ⟨by simpa using blk_set BK.out (rd l0 i).toNat (.bool true)⟩, ⟨below_set HB.out (Nat.le_refl _)⟩⟩
    · rw [if_neg c5] at H; have c5b0 := decide_eq_false c5; clear c5; obtain rfl := Option.some.inj H; go_wp2; go_ret; exact ⟨rfl, HB.out⟩
def slices_Max_int_int.l0 : Nat → List Int → Int → Int → Option (Int)
 | 0, _, _, _ => none
 | k + 1, x0, x3, x4 => if x4 < (x0.length : Int) then (if 0 ≤ x4 then (slices_Max_int_int.l0 k x0 (mx x3 (rd x0 x4)) (wrap64 (x4 + 1))) else (none)) else (some x3)
def slices_Max_int_int.f (k : Nat) (l0 : List Int) : Option (Int) := if (l0.length : Int) < 1 then (none) else (if 0 < (l0.length : Int) then (slices_Max_int_int.l0 k l0 (rd l0 0) 1) else (none))
set_option maxHeartbeats 8000000 in
set_option maxRecDepth 100000 in
theorem slices_Max_int_int.calls (k : Nat) (A0 : Option Addr) (c0 : Nat) (l0 : List Int) (r : Int) (w : World) (hr0 : Kd.C (Kd.int .i64) w A0 l0.length l0) (hc0 : l0.length ≤ c0) (h : slices_Max_int_int.f k l0 = some r) :
  Calls Try.prog 106 #[.slice A0 l0.length c0] w fun e w' => e = .returned (.int .i64 r) ∧ Below w.heap.size w w' := by
 have HR0 := Az hr0; have HC0 := Az hc0; clear hr0 hc0; have HB := bZ w; have H := h; clear h; unfold slices_Max_int_int.f at H
 by_cases c2 : (l0.length : Int) < 1
 · rw [if_pos c2] at H; exact absurd H (by simp)
 ·
  rw [if_neg c2] at H; have c2b0 := decide_eq_false c2; have c2b1 : decide (l0.length < 1) = false := decide_eq_false (by omega); clear c2; replace H := gP H; obtain ⟨c3, H⟩ := H; have c3b0 := decide_eq_true c3; have c3b1 : decide (0 < l0.length) = true := decide_eq_true (by omega); clear c3; have H' := Az H; clear H; have p153 : 0 ≤ (0 : Int) := (by omega); have q153 : 0 < (l0.length : Int) := oA; obtain ⟨ad153, e153, hx153_0⟩ := Kd.at_int HR0.out 0 p153 q153
  cases e153
  have qi153 : (0 < l0.length) = True := eq_true (by omega); rw [show ((0 : Int)).toNat = 0 from rfl] at hx153_0; rw [Addr.add_zero'] at hx153_0; replace p153 := eq_true p153; replace q153 := eq_true q153; go_enter Try.func106, Try.ntmps106; go_wp2
  go_loopg [3, 4] k (fun kq v3 v4 w' => ∃ (x3_1 : Int) (x4_1 : Int), v3 = .int .i64 x3_1 ∧ v4 = .int .i64 x4_1 ∧ Aside0 (slices_Max_int_int.l0 kq l0 x3_1 x4_1 = some r) ∧ Aside0 (kq ≤ k) ∧ Aside0 (Below w.heap.size w w'))
  case atStart => exact ⟨(rd l0 0), (1), rS, rS, H', ⟨Nat.le_refl _⟩, ⟨bU0 HB.out⟩⟩
  case round =>
   clear H'; obtain ⟨x3_1, x4_1, rfl, rfl, HA, HK1, HB⟩ := hrel
   rcases gk with _ | k1
   exact (nN HA.out).elim; have H := HA.out; clear HA; simp only [slices_Max_int_int.l0] at H
   replace H := gB H; rcases H with ⟨c4b0, H⟩ | ⟨c4b0, H⟩
   ·
    replace H := gD1 H; obtain ⟨c5b0, H⟩ := H; obtain ⟨ji6, hji6⟩ : ∃ j_ : Int, (mx x3_1 (rd l0 x4_1)) = j_ := ⟨_, rfl⟩; (first | rw [hji6] at H | simp only [hji6] at H); have hji6_ : (if x3_1 < (rd l0 x4_1) then (rd l0 x4_1) else x3_1) = ji6 := hji6; have H' := Az H; clear H; obtain ⟨_, _, hx154_0⟩ := aJ HR0.out x4_1; replace hx154_0 := hT HB.out hx154_0; go_wp2; go_roundg k1
    case measure => exact mO
    case rel => exact ⟨(ji6), (wrap64 (x4_1 + 1)), (by first | rfl | (simp; done) | (simp only [← hji6] <;> (first | rfl | simp)) | (simp [*]; done)), rS, H', ⟨mO⟩, ⟨bU0 HB.out⟩⟩
   · obtain rfl := Option.some.inj H; go_wp2; go_ret; exact ⟨rE, bU0 HB.out⟩
def impl_still.l0 : Nat → List Int → Int → Int → Option (List Int)
 | 0, _, _, _ => none
 | k + 1, x3, x8, x9 => if x9 < x8 then (if 0 ≤ x9 then (if x9 < (x3.length : Int) then (impl_still.l0 k (x3.set (x9 : Int).toNat x9) x8 (wrap64 (x9 + 1))) else (none)) else (none)) else (some x3)
def impl_still.f (k : Nat) (a0 : Int) : Option (List Int) := if 0 ≤ a0 then (if (a0 : Int).toNat ≤ 35184372088832 then ((some (List.replicate (a0 : Int).toNat 0 : List Int)).bind fun y155 => (impl_still.l0 k y155 (y155.length : Int) 0)) else (none)) else (none)
set_option maxHeartbeats 8000000 in
set_option maxRecDepth 100000 in
theorem impl_still.calls (k : Nat) (a0 : Int) (r : List Int) (w : World) (h : impl_still.f k a0 = some r) :
  Calls Try.prog 122 #[.int .i64 a0] w fun e w' => ∃ v0_ : Value, e = .returned (v0_) ∧ Kd.R (Kd.int .i64) 3 w' w.heap.size (fun _ => True) v0_ r ∧ Below w.heap.size w w' := by
 have HB := bZ w; have H := h; clear h; unfold impl_still.f at H; replace H := gE H; obtain ⟨c2b0, c2b1, H⟩ := H; replace H := gE H; obtain ⟨c3b0, c3b1, H⟩ := H; generalize Ny155 : (List.replicate (a0 : Int).toNat 0 : List Int) = y155 at H; simp only [Option.bind_some] at H; replace Ny155 := Ay Ny155; have H' := Az H; clear H; go_enter Try.func122, Try.ntmps122
 go_wp2_with (first | ((with_reducible refine gd 6 rfl ?_); refine Kd.R_make (Kd.int .i64) _ 3 rfl (N := 6) rfl 23 _ _ rfl a0 rfl rfl Try.underlying23 (.int .i64 0) 8 info3 rfl (by decide) (by omega) 0 (ok := fun _ => True) (okp := fun _ => True) rfl (fun _ hk => hk) trivial (oA) (Nat.le_trans (Nat.mul_le_mul_right _ (oA : a0.toNat ≤ 35184372088832)) (by omega)) (Below.refl _ _) (Nat.le_refl _) ?_; intro v156 w4 ho5 hb hg_ hnew_; clear hg_ hnew_; (first | rw [← Ny155.out] at ho5 | (simp only [Int.reduceToNat] at ho5; rw [← Ny155.out] at ho5)); have HO157 := Az (Kd.R_lower ho5 (below_size (bU0 HB.out))); replace HB := Az (below_step (bU0 HB.out) hb); clear hb ho5; obtain ⟨Ao6, co6, eo6⟩ := Kd.R_slice HO157.out; subst eo6))
 go_loopg [9] k (fun kq v9 w' => ∃ (x3_1 : List Int) (x9_1 : Int), v9 = .int .i64 x9_1 ∧ Aside0 (impl_still.l0 kq x3_1 (y155.length : Int) x9_1 = some r) ∧ Aside0 (kq ≤ k) ∧ Aside0 (Kd.R (Kd.int .i64) 3 w' w.heap.size (fun _ => True) (.slice Ao6 y155.length co6) x3_1) ∧ Aside0 (Below w.heap.size w w'))
 case atStart => exact ⟨(y155), (0), rS, H', ⟨Nat.le_refl _⟩, ⟨rU HO157.out⟩, ⟨bU0 HB.out⟩⟩
 case round =>
  clear H'; obtain ⟨x3_1, x9_1, rfl, HA, HK1, HO_3, HB⟩ := hrel; have hl3_1 := (Kd.R_reads' HO_3.out).1; rw [hl3_1] at HO_3; simp only [hl3_1]
  rcases gk with _ | k1
  exact (nN HA.out).elim; have H := HA.out; clear HA; simp only [impl_still.l0] at H
  by_cases c7 : x9_1 < (y155.length : Int)
  ·
   rw [if_pos c7] at H; have c7b0 := decide_eq_true c7; (have c7b0hl3_1 := c7b0; rw [hl3_1] at c7b0hl3_1); clear c7; replace H := gD1 H; obtain ⟨c8b0, H⟩ := H; replace H := gP H; obtain ⟨c9, H⟩ := H; have c9b0 := decide_eq_true c9; clear c9; generalize Ny158 : (x3_1.set (x9_1 : Int).toNat x9_1 : List Int) = y158 at H; replace Ny158 := Ay Ny158; have H' := Az H; clear H; have p10 : 0 ≤ (x9_1 : Int) := oA; have q10 : (x9_1 : Int) < ((x3_1.length : Int) : Int) := oA; obtain ⟨go10, co10, eo10, gb10, gl10, cl10, HG10⟩ := Kd.R_form HO_3.out (by omega); (first | cases eo10 | (injection eo10 with ea_ en_ ec_; (first | subst ea_ | (injection ea_ with ea_; subst ea_)); subst ec_; clear en_)); have GB10 := Az gb10; have GG10 := Az HG10; clear gb10 gl10 HG10; obtain ⟨hx10_0, hf10_0⟩ := Kd.R_celln 0 HO_3.out (x9_1 : Int) p10 q10; replace p10 := eq_true p10; replace q10 := eq_true q10; obtain ⟨hy11_, hz11_⟩ := Kd.R_celln 0 HO_3.out (x9_1 : Int) (oA) (oA); have HP11 := Kd.R_putg HO_3.out (x9_1 : Int) x9_1
   go_wp2_with (first | ((with_reducible refine gs 3 15 rfl ?_); refine sE 3 15 (wr.setCell ⟨go10, (x9_1 : Int).toNat, none⟩ (.int .i64 x9_1)) ?_; intro w12 hw; have hg : wr.grownBy w12 (some go10) := (by rw [hw]; exact HP11.2); have hp_ : Kd.R (Kd.int .i64) 3 w12 w.heap.size (fun _ => True) (.slice (some ⟨go10, 0, none⟩) x3_1.length co6) y158 := (by rw [hw, Ny158.out]; exact HP11.1); clear HP11; replace HO_3 := Az (hp_); replace HB := Az ((by rw [hw]; exact below_set (HB.out) GB10.out : Below w.heap.size w w12)); clear hg hw hp_))
   simp only [← hl3_1]; go_roundg k1
   case measure => exact mO
   case rel => exact ⟨(y158), (wrap64 (x9_1 + 1)), rS, H', ⟨mO⟩, ⟨by simp only [hl3_1]; (with_reducible repeat (first | apply Kd.R_alloc | apply Kd.R_drewN | apply Kd.R_drew)); exact HO_3.out⟩, ⟨bU0 HB.out⟩⟩
  · rw [if_neg c7] at H; have c7b0 := decide_eq_false c7; (have c7b0hl3_1 := c7b0; rw [hl3_1] at c7b0hl3_1); clear c7; obtain rfl := Option.some.inj H; go_wp2; go_ret; exact ⟨_, rE, rU HO_3.out, bU0 HB.out⟩
mutual
def impl_orbits.l0 : Nat → List (List Int) → List Int → Bool → Option (List Int)
 | 0, _, _, _ => none
 | k + 1, x0, x3, x4 => if x4 = true then (impl_orbits.l1 k x0 x3 false x0 (x0.length : Int) 0) else (some x3)
def impl_orbits.l1 : Nat → List (List Int) → List Int → Bool → List (List Int) → Int → Int → Option (List Int)
 | 0, _, _, _, _, _, _ => none
 | k + 1, x0, x3, x4, x16, x17, x18 => if x18 < x17 then (if 0 ≤ x18 then (if x18 < (x16.length : Int) then (impl_orbits.l2 k x0 x3 x4 x16 x17 x18 (rd_L1 x16 x18) ((rd_L1 x16 x18).length : Int) 0) else (none)) else (none)) else (impl_orbits.l0 k x0 x3 x4)
def impl_orbits.l2 : Nat → List (List Int) → List Int → Bool → List (List Int) → Int → Int → List Int → Int → Int → Option (List Int)
 | 0, _, _, _, _, _, _, _, _, _ => none
 | k + 1, x0, x3, x4, x16, x17, x18, x22, x23, x24 => if x24 < x23 then (if 0 ≤ x24 then (if x24 < (x22.length : Int) then (if x24 < (x3.length : Int) then (if 0 ≤ (rd x22 x24) then (if (rd x22 x24) < (x3.length : Int) then (if (rd x3 x24) = (mn (rd x3 x24) (rd x3 (rd x22 x24))) then (if (rd x3 (rd x22 x24)) = (mn (rd x3 x24) (rd x3 (rd x22 x24))) then (impl_orbits.l2 k x0 x3 x4 x16 x17 x18 x22 x23 (wrap64 (x24 + 1))) else (impl_orbits.l2 k x0 ((x3.set (x24 : Int).toNat (mn (rd x3 x24) (rd x3 (rd x22 x24)))).set ((rd x22 x24) : Int).toNat (mn (rd x3 x24) (rd x3 (rd x22 x24)))) true x16 x17 x18 x22 x23 (wrap64 (x24 + 1)))) else (impl_orbits.l2 k x0 ((x3.set (x24 : Int).toNat (mn (rd x3 x24) (rd x3 (rd x22 x24)))).set ((rd x22 x24) : Int).toNat (mn (rd x3 x24) (rd x3 (rd x22 x24)))) true x16 x17 x18 x22 x23 (wrap64 (x24 + 1)))) else (none)) else (none)) else (none)) else (none)) else (none)) else (impl_orbits.l1 k x0 x3 x4 x16 x17 (wrap64 (x18 + 1)))
end
def impl_orbits.f (k : Nat) (l0 : List (List Int)) : Option (List Int) := if 0 < (l0.length : Int) then ((impl_still.f k ((rd_L1 l0 0).length : Int)).bind fun t160 => (impl_orbits.l0 k l0 t160 true)) else (none)
set_option maxHeartbeats 8000000 in
set_option maxRecDepth 100000 in
theorem impl_orbits.calls (k : Nat) (A0 : Option Addr) (c0 : Nat) (l0 : List (List Int)) (r : List Int) (w : World) (hr0 : Kd.C (Kd.slice 3 (Kd.int .i64)) w A0 l0.length l0) (hc0 : l0.length ≤ c0) (h : impl_orbits.f k l0 = some r) :
  Calls Try.prog 107 #[.slice A0 l0.length c0] w fun e w' => ∃ v0_ : Value, e = .returned (v0_) ∧ Kd.R (Kd.int .i64) 3 w' w.heap.size (fun _ => True) v0_ r ∧ Below w.heap.size w w' := by
 have HR0 := Az hr0; have HC0 := Az hc0; clear hr0 hc0; have HB := bZ w; have H := h; clear h; unfold impl_orbits.f at H; replace H := gP H; obtain ⟨c2, H⟩ := H; have c2b0 := decide_eq_true c2; have c2b1 : decide (0 < l0.length) = true := decide_eq_true (by omega); clear c2; replace H := bd H; obtain ⟨t160, A3, H⟩ := H; have H' := Az H; clear H; have p159 : 0 ≤ (0 : Int) := (by omega); have q159 : 0 < (l0.length : Int) := oA; obtain ⟨ad159, A159_0, c159_0, e159, hx159_0, hl159_0, hi159_0⟩ := at_L1 HR0.out 0 p159 q159
 cases e159
 have qi159 : (0 < l0.length) = True := eq_true (by omega); rw [show ((0 : Int)).toNat = 0 from rfl] at hx159_0; rw [Addr.add_zero'] at hx159_0; have HR159_0 := Az hi159_0; have HC159_0 := Az hl159_0; clear hi159_0 hl159_0; replace p159 := eq_true p159; replace q159 := eq_true q159; go_enter Try.func107, Try.ntmps107
 go_wp2_with (first | (go_at_call 122; (with_reducible refine (impl_still.calls k ((rd_L1 l0 0).length : Int) t160 _ A3.out).mono ?_); rintro e w4 ⟨v161, rfl, ho0, hb⟩; have HO162 := Az (Kd.R_lower ho0 (below_size (bU0 HB.out))); replace HB := Az (below_step (bU0 HB.out) hb); clear hb ho0))
 repeat (go_quiet (fail); try go_wp2_with (fail))
 go_loopg [4] k (fun kq v4 w' => ∃ (x3_1 : List Int) (x4_1 : Bool), v4 = .bool x4_1 ∧ Aside0 (impl_orbits.l0 kq l0 x3_1 x4_1 = some r) ∧ Aside0 (kq ≤ k) ∧ Aside0 (Kd.R (Kd.int .i64) 3 w' w.heap.size (fun _ => True) v161 x3_1) ∧ Aside0 (Below w.heap.size w w'))
 case atStart => exact ⟨(t160), (true), rS, H', ⟨Nat.le_refl _⟩, ⟨rU HO162.out⟩, ⟨bU0 HB.out⟩⟩
 case round =>
  clear H'; obtain ⟨x3_1, x4_1, rfl, HA, HK1, HO_3, HB⟩ := hrel
  rcases gk with _ | k1
  exact (nN HA.out).elim; have H := HA.out; clear HA; simp only [impl_orbits.l0] at H
  by_cases c5 : x4_1 = true
  ·
   subst c5; rw [if_pos rfl] at H; have H' := Az H; clear H; go_wp2
   repeat (go_quiet (fail); try go_wp2)
   go_loopg [4, 18] k1 (fun kq v4 v18 w' => ∃ (x3_2 : List Int) (x4_2 : Bool) (x18_2 : Int), v4 = .bool x4_2 ∧ v18 = .int .i64 x18_2 ∧ Aside0 (impl_orbits.l1 kq l0 x3_2 x4_2 l0 (l0.length : Int) x18_2 = some r) ∧ Aside0 (kq ≤ k1) ∧ Aside0 (Kd.R (Kd.int .i64) 3 w' w.heap.size (fun _ => True) v161 x3_2) ∧ Aside0 (Below w.heap.size w w'))
   case atStart => exact ⟨(x3_1), (false), (0), rS, rS, H', ⟨Nat.le_refl _⟩, ⟨rU HO_3.out⟩, ⟨bU0 HB.out⟩⟩
   case round =>
    clear H'; obtain ⟨x3_2, x4_2, x18_2, rfl, rfl, HA, HK2, HO_3, HB⟩ := hrel
    rcases gk with _ | k2
    exact (nN HA.out).elim; have H := HA.out; clear HA; simp only [impl_orbits.l1] at H
    by_cases c6 : x18_2 < (l0.length : Int)
    ·
     rw [if_pos c6] at H; have c6b0 := decide_eq_true c6; clear c6; replace H := gD2 H; obtain ⟨c7b0, c8b0, H⟩ := H; have H' := Az H; clear H; have p163 : 0 ≤ (x18_2 : Int) := oA; have q163 : x18_2 < (l0.length : Int) := oA; obtain ⟨ad163, A163_0, c163_0, e163, hx163_0, hl163_0, hi163_0⟩ := at_L1 HR0.out x18_2 p163 q163; obtain rfl : ad159 = ad163 := (by injection e163); replace hx163_0 := hT HB.out hx163_0; have HR163_0 := Az hi163_0; have HC163_0 := Az hl163_0; clear hi163_0 hl163_0; replace p163 := eq_true p163; replace q163 := eq_true q163; go_wp2
     repeat (go_quiet (fail); try go_wp2)
     go_loopg [4, 24] k2 (fun kq v4 v24 w' => ∃ (x3_3 : List Int) (x4_3 : Bool) (x24_3 : Int), v4 = .bool x4_3 ∧ v24 = .int .i64 x24_3 ∧ Aside0 (impl_orbits.l2 kq l0 x3_3 x4_3 l0 (l0.length : Int) x18_2 (rd_L1 l0 x18_2) ((rd_L1 l0 x18_2).length : Int) x24_3 = some r) ∧ Aside0 (kq ≤ k2) ∧ Aside0 (Kd.R (Kd.int .i64) 3 w' w.heap.size (fun _ => True) v161 x3_3) ∧ Aside0 (Below w.heap.size w w'))
     case atStart => exact ⟨(x3_2), (x4_2), (0), rS, rS, H', ⟨Nat.le_refl _⟩, ⟨rU HO_3.out⟩, ⟨bU0 HB.out⟩⟩
     case round =>
      clear H'; obtain ⟨x3_3, x4_3, x24_3, rfl, rfl, HA, HK3, HO_3, HB⟩ := hrel
      rcases gk with _ | k3
      exact (nN HA.out).elim; have H := HA.out; clear HA; simp only [impl_orbits.l2] at H
      replace H := gB H; rcases H with ⟨c9b0, H⟩ | ⟨c9b0, H⟩
      ·
       replace H := gD5 H; obtain ⟨c10b0, c11b0, c12b0, c13b0, c14b0, H⟩ := H; obtain ⟨ji15, hji15⟩ : ∃ j_ : Int, (mn (rd x3_3 x24_3) (rd x3_3 (rd (rd_L1 l0 x18_2) x24_3))) = j_ := ⟨_, rfl⟩; (first | rw [hji15] at H | simp only [hji15] at H); have hji15_ : (if (rd x3_3 (rd (rd_L1 l0 x18_2) x24_3)) < (rd x3_3 x24_3) then (rd x3_3 (rd (rd_L1 l0 x18_2) x24_3)) else (rd x3_3 x24_3)) = ji15 := hji15
       replace H := gQ H; rcases H with ⟨c16b0, c16b1, H⟩ | ⟨c16b0, c16b1, H⟩
       ·
        replace H := gQ H; rcases H with ⟨c17b0, c17b1, H⟩ | ⟨c17b0, c17b1, H⟩
        ·
         have H' := Az H; clear H; obtain ⟨ad164, e164, p164, q164, hx164_0⟩ := aI HR163_0.out x24_3
         cases e164
         replace hx164_0 := hT HB.out hx164_0; obtain ⟨Ao18, co18, eo18⟩ := Kd.R_slice HO_3.out; subst eo18; obtain ⟨ad165, e165, p165, q165, hx165_0⟩ := aI (Kd.R_reads' HO_3.out).2.2 x24_3
         cases e165; obtain ⟨p166, q166, hx166_0⟩ := aJ (Kd.R_reads' HO_3.out).2.2 (rd (rd_L1 l0 x18_2) x24_3); obtain ⟨p167, q167, hx167_0⟩ := aJ (Kd.R_reads' HO_3.out).2.2 x24_3; obtain ⟨p168, q168, hx168_0⟩ := aJ (Kd.R_reads' HO_3.out).2.2 (rd (rd_L1 l0 x18_2) x24_3); go_wp2
         repeat (go_quiet (fail); try go_wp2)
         go_roundg k3
         case measure => exact mO
         case rel => exact ⟨(x3_3), (x4_3), (wrap64 (x24_3 + 1)), rS, rS, H', ⟨mO⟩, ⟨rU HO_3.out⟩, ⟨bU0 HB.out⟩⟩
        ·
         generalize Ny169 : (x3_3.set (x24_3 : Int).toNat (ji15) : List Int) = y169 at H; replace Ny169 := Ay Ny169; generalize Ny170 : (y169.set ((rd (rd_L1 l0 x18_2) x24_3) : Int).toNat (ji15) : List Int) = y170 at H; replace Ny170 := Ay Ny170; have H' := Az H; clear H; obtain ⟨ad164, e164, p164, q164, hx164_0⟩ := aI HR163_0.out x24_3
         cases e164
         replace hx164_0 := hT HB.out hx164_0; obtain ⟨Ao21, co21, eo21⟩ := Kd.R_slice HO_3.out; subst eo21; obtain ⟨ad165, e165, p165, q165, hx165_0⟩ := aI (Kd.R_reads' HO_3.out).2.2 x24_3
         cases e165; obtain ⟨p166, q166, hx166_0⟩ := aJ (Kd.R_reads' HO_3.out).2.2 (rd (rd_L1 l0 x18_2) x24_3); obtain ⟨p167, q167, hx167_0⟩ := aJ (Kd.R_reads' HO_3.out).2.2 x24_3; obtain ⟨p168, q168, hx168_0⟩ := aJ (Kd.R_reads' HO_3.out).2.2 (rd (rd_L1 l0 x18_2) x24_3); have p19 : 0 ≤ (x24_3 : Int) := oA; have q19 : (x24_3 : Int) < ((x3_3.length : Int) : Int) := oA; obtain ⟨go19, co19, eo19, gb19, gl19, cl19, HG19⟩ := Kd.R_form HO_3.out (by omega); (first | cases eo19 | (injection eo19 with ea_ en_ ec_; (first | subst ea_ | (injection ea_ with ea_; subst ea_)); subst ec_; clear en_)); have GB19 := Az gb19; have GG19 := Az HG19; clear gb19 gl19 HG19; simp only [add_plain] at hx165_0; simp only [add_plain] at hx166_0; simp only [add_plain] at hx167_0; simp only [add_plain] at hx168_0; obtain ⟨hx19_0, hf19_0⟩ := Kd.R_celln 0 HO_3.out (x24_3 : Int) p19 q19; replace p19 := eq_true p19; replace q19 := eq_true q19; obtain ⟨hy22_, hz22_⟩ := Kd.R_celln 0 HO_3.out (x24_3 : Int) (oA) (oA); have HP22 := Kd.R_putg HO_3.out (x24_3 : Int) ji15
         go_wp2_with (fail)
         repeat (go_quiet (fail); try go_wp2_with (first | ((with_reducible refine gs 3 58 rfl ?_); (rw [drewN_self wr]; generalize hq_ : World.drewN wr _ = wr; replace HO_3 := Az (Kd.R_at hq_ HO_3.out); replace HB := Az (below_at hq_ HB.out); clear hq_; (obtain ⟨hy22_, hz22_⟩ := Kd.R_celln 0 HO_3.out (x24_3 : Int) (oA) (oA)); (have HP22 := Kd.R_putg HO_3.out (x24_3 : Int) ji15)); refine sE 3 58 (wr.setCell ⟨go19, (x24_3 : Int).toNat, none⟩ (.int .i64 ji15)) ?_; intro w23 hw; have hg : wr.grownBy w23 (some go19) := (by rw [hw]; exact HP22.2); have hp_ : Kd.R (Kd.int .i64) 3 w23 w.heap.size (fun _ => True) (.slice (some ⟨go19, 0, none⟩) x3_3.length co21) y169 := (by rw [hw, Ny169.out]; exact HP22.1); clear HP22; replace HO_3 := Az (hp_); replace HB := Az ((by rw [hw]; exact below_set (HB.out) GB19.out : Below w.heap.size w w23)); clear hg hw hp_; have p20 : 0 ≤ ((rd (rd_L1 l0 x18_2) x24_3) : Int) := oA; have q20 : ((rd (rd_L1 l0 x18_2) x24_3) : Int) < ((x3_3.length : Int) : Int) := oA; obtain ⟨hx20_0, hf20_0⟩ := Kd.R_celln 0 HO_3.out ((rd (rd_L1 l0 x18_2) x24_3) : Int) p20 q20; replace p20 := eq_true p20; replace q20 := eq_true q20; obtain ⟨hy24_, hz24_⟩ := Kd.R_celln 0 HO_3.out ((rd (rd_L1 l0 x18_2) x24_3) : Int) (oA) (oA); have HP24 := Kd.R_putg HO_3.out ((rd (rd_L1 l0 x18_2) x24_3) : Int) ji15) | ((with_reducible refine gs 3 59 rfl ?_); refine sE 3 59 (w23.setCell ⟨go19, ((rd (rd_L1 l0 x18_2) x24_3) : Int).toNat, none⟩ (.int .i64 ji15)) ?_; intro w25 hw; have hg : w23.grownBy w25 (some go19) := (by rw [hw]; exact HP24.2); have hp_ : Kd.R (Kd.int .i64) 3 w25 w.heap.size (fun _ => True) (.slice (some ⟨go19, 0, none⟩) x3_3.length co21) y170 := (by rw [hw, Ny170.out]; exact HP24.1); clear HP24; replace HO_3 := Az (hp_); replace HB := Az ((by rw [hw]; exact below_set (HB.out) GB19.out : Below w.heap.size w w25)); clear hg hw hp_)))
         go_roundg k3
         case measure => exact mO
         case rel => exact ⟨(y170), (true), (wrap64 (x24_3 + 1)), rS, rS, H', ⟨mO⟩, ⟨rU HO_3.out⟩, ⟨bU0 HB.out⟩⟩
       ·
        generalize Ny171 : (x3_3.set (x24_3 : Int).toNat (ji15) : List Int) = y171 at H; replace Ny171 := Ay Ny171; generalize Ny172 : (y171.set ((rd (rd_L1 l0 x18_2) x24_3) : Int).toNat (ji15) : List Int) = y172 at H; replace Ny172 := Ay Ny172; have H' := Az H; clear H; obtain ⟨ad164, e164, p164, q164, hx164_0⟩ := aI HR163_0.out x24_3
        cases e164
        replace hx164_0 := hT HB.out hx164_0; obtain ⟨Ao28, co28, eo28⟩ := Kd.R_slice HO_3.out; subst eo28; obtain ⟨ad165, e165, p165, q165, hx165_0⟩ := aI (Kd.R_reads' HO_3.out).2.2 x24_3
        cases e165; obtain ⟨p166, q166, hx166_0⟩ := aJ (Kd.R_reads' HO_3.out).2.2 (rd (rd_L1 l0 x18_2) x24_3); obtain ⟨p167, q167, hx167_0⟩ := aJ (Kd.R_reads' HO_3.out).2.2 x24_3; have p26 : 0 ≤ (x24_3 : Int) := oA; have q26 : (x24_3 : Int) < ((x3_3.length : Int) : Int) := oA; obtain ⟨go26, co26, eo26, gb26, gl26, cl26, HG26⟩ := Kd.R_form HO_3.out (by omega); (first | cases eo26 | (injection eo26 with ea_ en_ ec_; (first | subst ea_ | (injection ea_ with ea_; subst ea_)); subst ec_; clear en_)); have GB26 := Az gb26; have GG26 := Az HG26; clear gb26 gl26 HG26; simp only [add_plain] at hx165_0; simp only [add_plain] at hx166_0; simp only [add_plain] at hx167_0; obtain ⟨hx26_0, hf26_0⟩ := Kd.R_celln 0 HO_3.out (x24_3 : Int) p26 q26; replace p26 := eq_true p26; replace q26 := eq_true q26; obtain ⟨hy29_, hz29_⟩ := Kd.R_celln 0 HO_3.out (x24_3 : Int) (oA) (oA); have HP29 := Kd.R_putg HO_3.out (x24_3 : Int) ji15
        go_wp2_with (fail)
        repeat (go_quiet (fail); try go_wp2_with (first | ((with_reducible refine gs 3 58 rfl ?_); (rw [drewN_self wr]; generalize hq_ : World.drewN wr _ = wr; replace HO_3 := Az (Kd.R_at hq_ HO_3.out); replace HB := Az (below_at hq_ HB.out); clear hq_; (obtain ⟨hy29_, hz29_⟩ := Kd.R_celln 0 HO_3.out (x24_3 : Int) (oA) (oA)); (have HP29 := Kd.R_putg HO_3.out (x24_3 : Int) ji15)); refine sE 3 58 (wr.setCell ⟨go26, (x24_3 : Int).toNat, none⟩ (.int .i64 ji15)) ?_; intro w30 hw; have hg : wr.grownBy w30 (some go26) := (by rw [hw]; exact HP29.2); have hp_ : Kd.R (Kd.int .i64) 3 w30 w.heap.size (fun _ => True) (.slice (some ⟨go26, 0, none⟩) x3_3.length co28) y171 := (by rw [hw, Ny171.out]; exact HP29.1); clear HP29; replace HO_3 := Az (hp_); replace HB := Az ((by rw [hw]; exact below_set (HB.out) GB26.out : Below w.heap.size w w30)); clear hg hw hp_; have p27 : 0 ≤ ((rd (rd_L1 l0 x18_2) x24_3) : Int) := oA; have q27 : ((rd (rd_L1 l0 x18_2) x24_3) : Int) < ((x3_3.length : Int) : Int) := oA; obtain ⟨hx27_0, hf27_0⟩ := Kd.R_celln 0 HO_3.out ((rd (rd_L1 l0 x18_2) x24_3) : Int) p27 q27; replace p27 := eq_true p27; replace q27 := eq_true q27; obtain ⟨hy31_, hz31_⟩ := Kd.R_celln 0 HO_3.out ((rd (rd_L1 l0 x18_2) x24_3) : Int) (oA) (oA); have HP31 := Kd.R_putg HO_3.out ((rd (rd_L1 l0 x18_2) x24_3) : Int) ji15) | ((with_reducible refine gs 3 59 rfl ?_); refine sE 3 59 (w30.setCell ⟨go26, ((rd (rd_L1 l0 x18_2) x24_3) : Int).toNat, none⟩ (.int .i64 ji15)) ?_; intro w32 hw; have hg : w30.grownBy w32 (some go26) := (by rw [hw]; exact HP31.2); have hp_ : Kd.R (Kd.int .i64) 3 w32 w.heap.size (fun _ => True) (.slice (some ⟨go26, 0, none⟩) x3_3.length co28) y172 := (by rw [hw, Ny172.out]; exact HP31.1); clear HP31; replace HO_3 := Az (hp_); replace HB := Az ((by rw [hw]; exact below_set (HB.out) GB26.out : Below w.heap.size w w32)); clear hg hw hp_)))
        go_roundg k3
        case measure => exact mO
        case rel => exact ⟨(y172), (true), (wrap64 (x24_3 + 1)), rS, rS, H', ⟨mO⟩, ⟨rU HO_3.out⟩, ⟨bU0 HB.out⟩⟩
      ·
       have H' := Az H; clear H; go_wp2
       repeat (go_quiet (fail); try go_wp2)
       go_roundg k3
       case measure => exact mO
       case rel => exact ⟨(x3_3), (x4_3), (wrap64 (x18_2 + 1)), rS, rS, H', ⟨mO⟩, ⟨rU HO_3.out⟩, ⟨bU0 HB.out⟩⟩
    ·
     rw [if_neg c6] at H; have c6b0 := decide_eq_false c6; clear c6; have H' := Az H; clear H; go_wp2
     repeat (go_quiet (fail); try go_wp2)
     go_roundg k2
     case measure => exact mO
     case rel => exact ⟨(x3_2), (x4_2), rS, H', ⟨mO⟩, ⟨rU HO_3.out⟩, ⟨bU0 HB.out⟩⟩
  ·
   replace c5 := Bool.eq_false_iff.mpr c5; subst c5; rw [if_neg nT] at H; obtain rfl := Option.some.inj H; go_wp2
   repeat (go_quiet (fail); try go_wp2)
   go_ret; exact ⟨_, rE, rU HO_3.out, bU0 HB.out⟩
mutual
def impl_MapValid.j0 : Nat → Bool → List Int → List Int → Option (Bool)
 | 0, _, _, _ => none
 | k + 1, x23, xZ0, xZ1 => if x23 = true then (some false) else (impl_MapValid.l0 k xZ1 (xZ1.length : Int) 0 xZ0 xZ1)
def impl_MapValid.l0 : Nat → List Int → Int → Int → List Int → List Int → Option (Bool)
 | 0, _, _, _, _, _ => none
 | k + 1, x25, x26, x27, xZ0, xZ1 => if x27 < x26 then (if 0 ≤ x27 then (if x27 < (x25.length : Int) then (if (rd x25 x27) = x27 then (some false) else (if 0 ≤ (rd x25 x27) then (if (rd x25 x27) < (xZ1.length : Int) then (if (rd xZ1 (rd x25 x27)) = x27 then (impl_MapValid.l0 k x25 x26 (wrap64 (x27 + 1)) xZ0 xZ1) else (some false)) else (none)) else (none))) else (none)) else (none)) else ((impl_orbits.f k (([xZ0, xZ1] : List (List Int)))).bind fun t181 => ((slices_Max_int_int.f k t181).bind fun t184 => (some (t184 == 0))))
end
def impl_MapValid.f (k : Nat) (l0_0 : List Int) (l0_1 : List Int) : Option (Bool) := (impl_PermValid.f k l0_0).bind fun t174 => (if t174 = true then ((impl_PermValid.f k l0_1).bind fun t175 => (if t175 = true then (impl_MapValid.j0 k ((l0_0.length : Int) != (l0_1.length : Int)) l0_0 l0_1) else (impl_MapValid.j0 k true l0_0 l0_1))) else (impl_MapValid.j0 k true l0_0 l0_1))
set_option maxHeartbeats 8000000 in
set_option maxRecDepth 100000 in
theorem impl_MapValid.calls (k : Nat) (P0_0_ : Nat → Prop) (A0_0 : Option Addr) (c0_0 : Nat) (l0_0 : List Int) (P0_1_ : Nat → Prop) (A0_1 : Option Addr) (c0_1 : Nat) (l0_1 : List Int) (r : Bool) (w : World) (hs0_0 : Kd.V (Kd.int .i64) 3 w w.heap.size (fun k_ => P0_0_ k_) (.slice A0_0 l0_0.length c0_0) l0_0) (hs0_1 : Kd.V (Kd.int .i64) 3 w w.heap.size (fun k_ => P0_1_ k_) (.slice A0_1 l0_1.length c0_1) l0_1) (h : impl_MapValid.f k l0_0 l0_1 = some r) :
  Calls Try.prog 66 #[.agg #[.slice A0_0 l0_0.length c0_0, .slice A0_1 l0_1.length c0_1]] w fun e w' => e = .returned (.bool r) ∧ Below w.heap.size w w' := by
 have hu29 := Try.underlying29; have HO0_0 := Az (show Kd.V (Kd.int .i64) 3 w w.heap.size (fun k_ => ((P0_0_ k_ ∨ P0_1_ k_) ∨ w.heap.size ≤ k_)) (.slice A0_0 l0_0.length c0_0) l0_0 from Kd.V_mono hs0_0 (fun k_ hk => .inl (.inl hk))); have HO0_1 := Az (show Kd.V (Kd.int .i64) 3 w w.heap.size (fun k_ => ((P0_0_ k_ ∨ P0_1_ k_) ∨ w.heap.size ≤ k_)) (.slice A0_1 l0_1.length c0_1) l0_1 from Kd.V_mono hs0_1 (fun k_ hk => .inl (.inr hk))); have HB := bZ w; have H := h; clear h; unfold impl_MapValid.f at H; have HC2 := Az H; clear H; go_enter Try.func66, Try.ntmps66
 go_upto_region 1 with (first | ((with_reducible refine gd 1 rfl ?_); (refine gate_guard (by rfl) ?_; dsimp only); refine bE 1 #[.slice A0_0 l0_0.length c0_0, .slice A0_1 l0_1.length c0_1] 29 ?_; intro gb173 hg w3 hbox hb; replace HO0_0 := Az (Kd.V_below (Kd.V_elderB (vU HO0_0.out) gb173 (Nat.le_of_eq hg.symm)) hb); replace HO0_1 := Az (Kd.V_below (Kd.V_elderB (vU HO0_1.out) gb173 (Nat.le_of_eq hg.symm)) hb); have BK173 := Az (hbox); have GW173 := gW hg (bU0 HB.out); replace HB := Az (below_step (bU0 HB.out) hb); clear hb hbox hg))
 go_cut [23] (fun v23 wc => ∃ (kq : Nat) (x23_1 : Bool), v23 = .bool x23_1 ∧ Aside0 (impl_MapValid.j0 kq x23_1 l0_0 l0_1 = some r) ∧ Aside0 (kq ≤ k) ∧ Aside0 (Kd.V (Kd.int .i64) 3 wc w.heap.size (fun k_ => ((P0_0_ k_ ∨ P0_1_ k_) ∨ w.heap.size ≤ k_) ∧ k_ ≠ gb173) (.slice A0_0 l0_0.length c0_0) l0_0) ∧ Aside0 (Kd.V (Kd.int .i64) 3 wc w.heap.size (fun k_ => ((P0_0_ k_ ∨ P0_1_ k_) ∨ w.heap.size ≤ k_) ∧ k_ ≠ gb173) (.slice A0_1 l0_1.length c0_1) l0_1) ∧ Aside0 (wc.heap[gb173]? = some (.cells #[(.slice A0_0 l0_0.length c0_0), (.slice A0_1 l0_1.length c0_1)] 29 (0, 0))) ∧ Aside0 (Below w.heap.size w wc))
 case first =>
  have H := HC2.out; clear HC2; replace H := bd H; obtain ⟨t174, A4, H⟩ := H
  by_cases c5 : t174 = true
  ·
   subst c5; rw [if_pos rfl] at H; replace H := bd H; obtain ⟨t175, A6, H⟩ := H
   by_cases c7 : t175 = true
   ·
    subst c7; rw [if_pos rfl] at H; have H' := Az H; clear H; have hz8 := bc2 BK173.out
    go_wp2_with (first | ((with_reducible refine gK 105 rfl ?_); refine gC (some 7) Try.func105 #[.slice A0_0 l0_0.length c0_0] ?_; (with_reducible refine (impl_PermValid.calls k _ _ l0_0 true _ ?_ ?_ A4.out).mono ?_); exact cU ((Kd.V_reads' HO0_0.out).2.2); exact (Kd.V_reads' HO0_0.out).2.1; rintro e w9 ⟨rfl, hb⟩; refine ⟨_, rfl, ?_⟩; replace HO0_0 := vB HO0_0.out hb; replace HO0_1 := vB HO0_1.out hb; replace BK173 := kB BK173.out hb; replace HB := Az z1_0; clear hb; have hz10 := bc2 BK173.out) | (go_at_call 105; (with_reducible refine (impl_PermValid.calls k _ _ l0_1 true _ ?_ ?_ A6.out).mono ?_); exact cU ((Kd.V_reads' HO0_1.out).2.2); exact (Kd.V_reads' HO0_1.out).2.1; rintro e w11 ⟨rfl, hb⟩; replace HO0_0 := vB HO0_0.out hb; replace HO0_1 := vB HO0_1.out hb; replace BK173 := kB BK173.out hb; replace HB := Az z1_0; clear hb; have hz12 := bc2 BK173.out))
    go_meet
    case rel => exact ⟨_, (((l0_0.length : Int) != (l0_1.length : Int))), rS, H', ⟨mO⟩, ⟨vU HO0_0.out⟩, ⟨vU HO0_1.out⟩, ⟨kU BK173.out⟩, ⟨bU1 HB.out GW173.out⟩⟩
   ·
    replace c7 := Bool.eq_false_iff.mpr c7; subst c7; rw [if_neg nT] at H; have H' := Az H; clear H; have hz13 := bc2 BK173.out
    go_wp2_with (first | ((with_reducible refine gK 105 rfl ?_); refine gC (some 7) Try.func105 #[.slice A0_0 l0_0.length c0_0] ?_; (with_reducible refine (impl_PermValid.calls k _ _ l0_0 true _ ?_ ?_ A4.out).mono ?_); exact cU ((Kd.V_reads' HO0_0.out).2.2); exact (Kd.V_reads' HO0_0.out).2.1; rintro e w14 ⟨rfl, hb⟩; refine ⟨_, rfl, ?_⟩; replace HO0_0 := vB HO0_0.out hb; replace HO0_1 := vB HO0_1.out hb; replace BK173 := kB BK173.out hb; replace HB := Az z1_0; clear hb; have hz15 := bc2 BK173.out) | (go_at_call 105; (with_reducible refine (impl_PermValid.calls k _ _ l0_1 false _ ?_ ?_ A6.out).mono ?_); exact cU ((Kd.V_reads' HO0_1.out).2.2); exact (Kd.V_reads' HO0_1.out).2.1; rintro e w16 ⟨rfl, hb⟩; replace HO0_0 := vB HO0_0.out hb; replace HO0_1 := vB HO0_1.out hb; replace BK173 := kB BK173.out hb; replace HB := Az z1_0; clear hb))
    go_meet
    case rel => exact ⟨_, (true), rS, H', ⟨mO⟩, ⟨vU HO0_0.out⟩, ⟨vU HO0_1.out⟩, ⟨kU BK173.out⟩, ⟨bU1 HB.out GW173.out⟩⟩
  ·
   replace c5 := Bool.eq_false_iff.mpr c5; subst c5; rw [if_neg nT] at H; have H' := Az H; clear H; have hz17 := bc2 BK173.out
   go_wp2_with (first | ((with_reducible refine gK 105 rfl ?_); refine gC (some 7) Try.func105 #[.slice A0_0 l0_0.length c0_0] ?_; (with_reducible refine (impl_PermValid.calls k _ _ l0_0 false _ ?_ ?_ A4.out).mono ?_); exact cU ((Kd.V_reads' HO0_0.out).2.2); exact (Kd.V_reads' HO0_0.out).2.1; rintro e w18 ⟨rfl, hb⟩; refine ⟨_, rfl, ?_⟩; replace HO0_0 := vB HO0_0.out hb; replace HO0_1 := vB HO0_1.out hb; replace BK173 := kB BK173.out hb; replace HB := Az z1_0; clear hb))
   go_meet
   case rel => exact ⟨_, (true), rS, H', ⟨mO⟩, ⟨vU HO0_0.out⟩, ⟨vU HO0_1.out⟩, ⟨kU BK173.out⟩, ⟨bU1 HB.out GW173.out⟩⟩
 case rest =>
  clear HC2; obtain ⟨kq, x23_1, rfl, HA, HJ1, HO_Z0, HO_Z1, BK173, HB⟩ := hcut
  rcases kq with _ | kj1
  exact (nN HA.out).elim; have H := HA.out; clear HA; simp only [impl_MapValid.j0] at H
  by_cases c19 : x23_1 = true
  · subst c19; rw [if_pos rfl] at H; obtain rfl := Option.some.inj H; go_wp2; go_ret; exact ⟨rE, bU1 HB.out GW173.out⟩
  ·
   replace c19 := Bool.eq_false_iff.mpr c19; subst c19; rw [if_neg nT] at H; have H' := Az H; clear H; have hz20 := bc2 BK173.out; go_wp2
   go_loopg [27] kj1 (fun kq v27 w' => ∃ (x27_2 : Int), v27 = .int .i64 x27_2 ∧ Aside0 (impl_MapValid.l0 kq l0_1 (l0_1.length : Int) x27_2 l0_0 l0_1 = some r) ∧ Aside0 (kq ≤ kj1) ∧ Aside0 (Kd.V (Kd.int .i64) 3 w' w.heap.size (fun k_ => ((P0_0_ k_ ∨ P0_1_ k_) ∨ w.heap.size ≤ k_) ∧ k_ ≠ gb173) (.slice A0_1 l0_1.length c0_1) l0_1) ∧ Aside0 (Kd.V (Kd.int .i64) 3 w' w.heap.size (fun k_ => ((P0_0_ k_ ∨ P0_1_ k_) ∨ w.heap.size ≤ k_) ∧ k_ ≠ gb173) (.slice A0_0 l0_0.length c0_0) l0_0) ∧ Aside0 (Kd.V (Kd.int .i64) 3 w' w.heap.size (fun k_ => ((P0_0_ k_ ∨ P0_1_ k_) ∨ w.heap.size ≤ k_) ∧ k_ ≠ gb173) (.slice A0_1 l0_1.length c0_1) l0_1) ∧ Aside0 (w'.heap[gb173]? = some (.cells #[(.slice A0_0 l0_0.length c0_0), (.slice A0_1 l0_1.length c0_1)] 29 (0, 0))) ∧ Aside0 (Below w.heap.size w w'))
   case atStart => exact ⟨(0), rS, H', ⟨Nat.le_refl _⟩, ⟨vU HO_Z1.out⟩, ⟨vU HO_Z0.out⟩, ⟨vU HO_Z1.out⟩, ⟨kU BK173.out⟩, ⟨bU1 HB.out GW173.out⟩⟩
   case round =>
    clear H'; obtain ⟨x27_2, rfl, HA, HK2, HO_25, HO_Z0, HO_Z1, BK173, HB⟩ := hrel
    rcases gk with _ | k2
    exact (nN HA.out).elim; have H := HA.out; clear HA; simp only [impl_MapValid.l0] at H
    replace H := gB H; rcases H with ⟨c21b0, H⟩ | ⟨c21b0, H⟩
    ·
     replace H := gD2 H; obtain ⟨c22b0, c23b0, H⟩ := H
     replace H := gQ H; rcases H with ⟨c24b0, c24b1, H⟩ | ⟨c24b0, c24b1, H⟩
     ·
      obtain rfl := Option.some.inj H; obtain ⟨ad176, e176, p176, q176, hx176_0⟩ := aI (Kd.V_reads' HO_25.out).2.2 x27_2
      cases e176; go_wp2; go_ret; exact ⟨rE, bU1 HB.out GW173.out⟩
     ·
      replace H := gD2 H; obtain ⟨c25b0, c26b0, H⟩ := H
      replace H := gQ H; rcases H with ⟨c27b0, c27b1, H⟩ | ⟨c27b0, c27b1, H⟩
      ·
       have H' := Az H; clear H; obtain ⟨ad176, e176, p176, q176, hx176_0⟩ := aI (Kd.V_reads' HO_25.out).2.2 x27_2
       cases e176; have hz28 := bc2 BK173.out; obtain ⟨p177, q177, hx177_0⟩ := aJ (Kd.V_reads' HO_Z1.out).2.2 (rd l0_1 x27_2); go_wp2; go_roundg k2
       case measure => have := HJ1.out; have := HK2.out; omega
       case rel => exact ⟨(wrap64 (x27_2 + 1)), rS, H', ⟨by have := HJ1.out; have := HK2.out; omega⟩, ⟨vU HO_25.out⟩, ⟨vU HO_Z0.out⟩, ⟨vU HO_Z1.out⟩, ⟨kU BK173.out⟩, ⟨bU1 HB.out GW173.out⟩⟩
      ·
       obtain rfl := Option.some.inj H; obtain ⟨ad176, e176, p176, q176, hx176_0⟩ := aI (Kd.V_reads' HO_25.out).2.2 x27_2
       cases e176; have hz29 := bc2 BK173.out; obtain ⟨p177, q177, hx177_0⟩ := aJ (Kd.V_reads' HO_Z1.out).2.2 (rd l0_1 x27_2); go_wp2; go_ret; exact ⟨rE, bU1 HB.out GW173.out⟩
    ·
     generalize Ny178 : (([l0_0, l0_1] : List (List Int)) : List (List Int)) = y178 at H; replace Ny178 := Ay Ny178; replace H := bd H; obtain ⟨t181, A30, H⟩ := H; replace H := bd H; obtain ⟨t184, A31, H⟩ := H; obtain rfl := Option.some.inj H; have hz32 := bc2 BK173.out
     go_wp2_with (first | ((with_reducible refine gd 49 rfl ?_); (refine gate_guard (by rfl) ?_; dsimp only); refine Kd.N_lit (Kd.slice 3 (Kd.int .i64)) _ 23 ?hg (N' := 49) ?hd (xs := ([l0_0, l0_1] : List (List Int))) (inner := [.slice A0_0 l0_0.length c0_0, .slice A0_1 l0_1.length c0_1]) (ok := (fun k_ => ((P0_0_ k_ ∨ P0_1_ k_) ∨ w.heap.size ≤ k_) ∧ k_ ≠ gb173)) (okp := (fun k_ => ((P0_0_ k_ ∨ P0_1_ k_) ∨ w.heap.size ≤ k_) ∧ k_ ≠ gb173)) ?hr ?hp (fun _ hk => hk) ((show ∀ k_, wr.heap.size ≤ k_ → (fun k_ => ((P0_0_ k_ ∨ P0_1_ k_) ∨ w.heap.size ≤ k_) ∧ k_ ≠ gb173) k_ from fun k_ hk => ⟨(.inr (Nat.le_trans (below_size (bU1 HB.out GW173.out)) hk)), Kd.freshB (g := gb173) (o := .cells #[.slice A0_0 l0_0.length c0_0, .slice A0_1 l0_1.length c0_1] 29 (0, 0)) (kU BK173.out) k_ hk⟩) _ (Nat.le_refl _)) (Below.refl _ _) (Nat.le_refl _) (by simp) ?_; (case hd => rfl); (case hg => rfl); (case hr => first | (go_simp; done) | (go_simp; rfl)); (case hp => exact (Reps.one (show Kd.FK (Kd.slice 3 (Kd.int .i64)) _ _ l0_0 [.slice A0_0 l0_0.length c0_0] from (Kd.FK_slice_mk (Kd.V_reads' (Kd.V_mono (ok' := (fun k_ => ((P0_0_ k_ ∨ P0_1_ k_) ∨ w.heap.size ≤ k_) ∧ k_ ≠ gb173)) (HO_Z0.out) (fun k_ hk => ⟨hk.1, hk.2⟩))).2.1 (Kd.V_F (Kd.V_mono (ok' := (fun k_ => ((P0_0_ k_ ∨ P0_1_ k_) ∨ w.heap.size ≤ k_) ∧ k_ ≠ gb173)) (HO_Z0.out) (fun k_ hk => ⟨hk.1, hk.2⟩))))) (Reps.one (show Kd.FK (Kd.slice 3 (Kd.int .i64)) _ _ l0_1 [.slice A0_1 l0_1.length c0_1] from (Kd.FK_slice_mk (Kd.V_reads' (Kd.V_mono (ok' := (fun k_ => ((P0_0_ k_ ∨ P0_1_ k_) ∨ w.heap.size ≤ k_) ∧ k_ ≠ gb173)) (HO_Z1.out) (fun k_ hk => ⟨hk.1, hk.2⟩))).2.1 (Kd.V_F (Kd.V_mono (ok' := (fun k_ => ((P0_0_ k_ ∨ P0_1_ k_) ∨ w.heap.size ≤ k_) ∧ k_ ≠ gb173)) (HO_Z1.out) (fun k_ hk => ⟨hk.1, hk.2⟩))))) (Reps.none _ _)))); intro v179 w33 ho34 hb hg_ hnew_; clear hg_ hnew_; (first | rw [← Ny178.out] at ho34 | (simp only [Int.reduceToNat] at ho34; rw [← Ny178.out] at ho34)); replace HO_25 := Az (Kd.V_elder' (vU HO_25.out) z1_2 hb); replace HO_Z0 := Az (Kd.V_elder' (vU HO_Z0.out) z1_2 hb); replace HO_Z1 := Az (Kd.V_elder' (vU HO_Z1.out) z1_2 hb); have HO180 := Az (Kd.N_lower ho34 (below_size (bU1 HB.out GW173.out))); replace BK173 := kB BK173.out hb; replace HB := Az z1_0; clear hb ho34; obtain ⟨Ao35, co35, eo35⟩ := Kd.N_slice HO180.out; subst eo35) | ((with_reducible refine gK 107 rfl ?_); refine gC (some 50) Try.func107 #[.slice Ao35 y178.length co35] ?_; (with_reducible refine (impl_orbits.calls k2 _ _ y178 t181 _ ?_ ?_ A30.out).mono ?_); exact cU ((Kd.N_reads' HO180.out).2.2); exact (Kd.N_reads' HO180.out).2.1; rintro e w36 ⟨v182, rfl, ho0, hb⟩; refine ⟨_, rfl, ?_⟩; replace HO_25 := Az (Kd.V_elder' (vU HO_25.out) (Kd.R_base ho0) hb); replace HO_Z0 := Az (Kd.V_elder' (vU HO_Z0.out) (Kd.R_base ho0) hb); replace HO_Z1 := Az (Kd.V_elder' (vU HO_Z1.out) (Kd.R_base ho0) hb); replace HO180 := Az (Kd.N_elder' (nU HO180.out) (Kd.R_base ho0) hb); have HO183 := Az (Kd.R_lower (Kd.R_newM (M := fun k_ => (w.heap.size ≤ k_)) ho0 (below_size (bU1 HB.out GW173.out)) (fun k_ h_ => h_)) (below_size (bU1 HB.out GW173.out))); replace BK173 := kB BK173.out hb; replace HB := Az z1_0; clear hb ho0; obtain ⟨Ao37, co37, eo37⟩ := Kd.R_slice HO183.out; subst eo37) | ((with_reducible refine gK 106 rfl ?_); refine gC (some 51) Try.func106 #[.slice Ao37 t181.length co37] ?_; (with_reducible refine (slices_Max_int_int.calls k2 _ _ t181 t184 _ ?_ ?_ A31.out).mono ?_); exact cU ((Kd.R_reads' HO183.out).2.2); exact (Kd.R_reads' HO183.out).2.1; rintro e w38 ⟨rfl, hb⟩; refine ⟨_, rfl, ?_⟩; replace HO_25 := vB HO_25.out hb; replace HO_Z0 := vB HO_Z0.out hb; replace HO_Z1 := vB HO_Z1.out hb; replace HO180 := nB HO180.out hb; replace HO183 := rB HO183.out hb; replace BK173 := kB BK173.out hb; replace HB := Az z1_0; clear hb))
     go_ret; exact ⟨rE, bU1 HB.out GW173.out⟩
def laysSort_ren : Go.Shelf.Ren := ⟨fun | 189 => 123 | 125 => 130 | 257 => 129 | 128 => 141 | 129 => 142 | 294 => 132 | 295 => 133 | 296 => 134 | 297 => 135 | 298 => 136 | 299 => 137 | 216 => 138 | 300 => 139 | 301 => 140 | 328 => 143 | 329 => 144 | 330 => 145 | 331 => 146 | 332 => 147 | 215 => 131 | 343 => 148 | n => n, fun | 28 => 23 | 3 => 3 | 46 => 115 | 0 => 0 | 51 => 127 | 53 => 129 | 4 => 4 | 183 => 119 | 182 => 118 | 131 => 124 | 5 => 5 | 9 => 9 | 218 => 130 | 222 => 134 | 228 => 136 | 229 => 137 | n => n, fun | n => n⟩
theorem laysSort : Lays.n189 Try.prog laysSort_ren := { mixed := by kernel_rfl, f125 := Try.func130.trans (congrArg some (by kernel_rfl)), f128 := Try.func141.trans (congrArg some (by kernel_rfl)), f129 := Try.func142.trans (congrArg some (by kernel_rfl)), f189 := Try.func123.trans (congrArg some (by kernel_rfl)), f215 := Try.func131.trans (congrArg some (by kernel_rfl)), f216 := Try.func138.trans (congrArg some (by kernel_rfl)), f257 := Try.func129.trans (congrArg some (by kernel_rfl)), f294 := Try.func132.trans (congrArg some (by kernel_rfl)), f295 := Try.func133.trans (congrArg some (by kernel_rfl)), f296 := Try.func134.trans (congrArg some (by kernel_rfl)), f297 := Try.func135.trans (congrArg some (by kernel_rfl)), f298 := Try.func136.trans (congrArg some (by kernel_rfl)), f299 := Try.func137.trans (congrArg some (by kernel_rfl)), f300 := Try.func139.trans (congrArg some (by kernel_rfl)), f301 := Try.func140.trans (congrArg some (by kernel_rfl)), f328 := Try.func143.trans (congrArg some (by kernel_rfl)), f329 := Try.func144.trans (congrArg some (by kernel_rfl)), f330 := Try.func145.trans (congrArg some (by kernel_rfl)), f331 := Try.func146.trans (congrArg some (by kernel_rfl)), f332 := Try.func147.trans (congrArg some (by kernel_rfl)), f343 := Try.func148.trans (congrArg some (by kernel_rfl)), t0 := Try.underlying0, a0 := Try.isAgg0, z0 := Try.sizeOf0, v0 := Try.zeroValue0, t3 := Try.underlying3, a3 := Try.isAgg3, z3 := Try.sizeOf3, v3 := Try.zeroValue3, t4 := Try.underlying4, a4 := Try.isAgg4, z4 := Try.sizeOf4, v4 := Try.zeroValue4, t5 := Try.underlying5, a5 := Try.isAgg5, z5 := Try.sizeOf5, v5 := Try.zeroValue5, t9 := Try.underlying9, a9 := Try.isAgg9, z9 := Try.sizeOf9, v9 := Try.zeroValue9, t28 := Try.underlying23, a28 := Try.isAgg23, z28 := Try.sizeOf23, v28 := Try.zeroValue23, t46 := Try.underlying115, a46 := Try.isAgg115, z46 := Try.sizeOf115, v46 := Try.zeroValue115, t51 := Try.underlying127, a51 := Try.isAgg127, z51 := Try.sizeOf127, v51 := Try.zeroValue127, t53 := Try.underlying129, a53 := Try.isAgg129, z53 := Try.sizeOf129, v53 := Try.zeroValue129, t131 := Try.underlying124, a131 := Try.isAgg124, z131 := Try.sizeOf124, v131 := Try.zeroValue124, t182 := Try.underlying118, a182 := Try.isAgg118, z182 := Try.sizeOf118, v182 := Try.zeroValue118, t183 := Try.underlying119, a183 := Try.isAgg119, z183 := Try.sizeOf119, v183 := Try.zeroValue119, t218 := Try.underlying130, a218 := Try.isAgg130, z218 := Try.sizeOf130, v218 := Try.zeroValue130, t222 := Try.underlying134, a222 := Try.isAgg134, z222 := Try.sizeOf134, v222 := Try.zeroValue134, t228 := Try.underlying136, a228 := Try.isAgg136, z228 := Try.sizeOf136, v228 := Try.zeroValue136, t229 := Try.underlying137, a229 := Try.isAgg137, z229 := Try.sizeOf137, v229 := Try.zeroValue137 }
def slices_Sort_int_int.f (l0 : List Int) : Option (List Int) := if 0 < l0.length ∧ l0.length < 4611686018427387904 then some (l0.mergeSort fun x y => decide (x ≤ y)) else none
theorem slices_Sort_int_int.calls (P0_ : Nat → Prop) (u9000_ : Value) (l0 : List Int) (r : List Int) (w0 w : World) (hB : Below w0.heap.size w0 w) (ho0 : Kd.R (Kd.int .i64) 3 w w0.heap.size P0_ u9000_ l0) (h : slices_Sort_int_int.f l0 = some r) :
  Calls Try.prog 123 #[u9000_] w fun e w' => e = .returned (.tuple #[]) ∧ Kd.R (Kd.int .i64) 3 w' w0.heap.size (fun k_ => (P0_ k_ ∨ w.heap.size ≤ k_)) u9000_ r ∧ Below w0.heap.size w0 w' ∧ Kept w w' (fun k_ => P0_ k_) := by
 unfold slices_Sort_int_int.f at h
 split at h
 ·
  rename_i hn
  obtain rfl := Option.some.inj h; have ow := Kd.own_of_R ho0; obtain ⟨hlen, ⟨_, h0⟩ | ⟨g, cap, cur, hv, hbase, hb, h1, h2, h3, h4⟩⟩ := ow
  · omega
  subst hv; have hg : g < w.heap.size := (Array.getElem?_eq_some_iff.1 hb).1; have hP : P0_ g := ho0.1 g rfl; have hH := holds_of_blockI (ss := l0) hb (by rw [← Nat.mul_one l0.length, h4]; rfl); refine (Any.slices_Sort_int laysSort g 0 cap l0 w hH hg hn.2).mono ?_; rintro e w' ⟨rfl, n, os, rfl⟩; have hgr := grownBy_sortedI (w := w) (g := g) (n := n) (os := os) (l0.mergeSort fun x y => decide (x ≤ y)).toArray; have hl : (l0.mergeSort fun x y => decide (x ≤ y)).length = l0.length := List.length_mergeSort _; have own := ownsRow_sortedI (n := n) (os := os) (ts := l0.mergeSort fun x y => decide (x ≤ y)) hl hbase hb h1 h2 (by rw [h3]); refine ⟨rfl, ?_, ?_, ?_⟩
  ·
   refine Kd.R_of_own ?_ (fun k hk => .inl ?_)
   · rw [hl]; exact own
   · have : g = k := Option.some.inj hk; rw [← this]; exact hP
  · exact hB.grown hgr (by have := hB.size; omega) (fun k hk => by have := Option.some.inj hk; omega)
  · exact Kept.of_grown hgr (Kept.refl w _) (fun k hk => .inl (by have := Option.some.inj hk; rw [← this]; exact hP))
 · cases h
def slices_Reverse_int_int.l0 : Nat → List Int → Int → Int → Option (List Int)
 | 0, _, _, _ => none
 | k + 1, x0, x2, x3 => if x2 < x3 then (if 0 ≤ x3 then (if x3 < (x0.length : Int) then (if 0 ≤ x2 then (if x2 < (x0.length : Int) then (slices_Reverse_int_int.l0 k ((x0.set (x2 : Int).toNat (rd x0 x3)).set (x3 : Int).toNat (rd x0 x2)) (wrap64 (x2 + 1)) (wrap64 (x3 - 1))) else (none)) else (none)) else (none)) else (none)) else (some x0)
def slices_Reverse_int_int.f (k : Nat) (l0 : List Int) : Option (List Int) := slices_Reverse_int_int.l0 k l0 0 (wrap64 ((l0.length : Int) - 1))
def slices_Reverse_int_int.T3 : Bool × List (List Nat × List Nat) := (true, [([], []), ([], []), ([], []), ([], []), ([], []), ([], []), ([4, 5], [4, 5]), ([6], [6]), ([], []), ([], []), ([8, 9], [8, 9]), ([10], [10]), ([0, 1, 0, 1, 4, 5, 6, 7, 11], [0, 1]), ([12, 7, 0, 1, 4, 5, 6, 7, 11], [7, 12]), ([2, 3, 0, 1, 2, 3, 4, 5, 6, 7, 8, 9, 10, 11, 12, 13], [2, 3]), ([14, 11, 13, 0, 1, 2, 3, 4, 5, 6, 7, 8, 9, 10, 11, 12, 13], [11, 14])])
def slices_Reverse_int_int.B3 : List Nat := [0, 0, 0, 0, 0, 0, 48, 112, 0, 0, 768, 1792, 4083, 8179, 16383, 32767]
theorem slices_Reverse_int_int.tab3 : rtab .any (opsOf Try.f124 3) = slices_Reverse_int_int.T3 := by kernel_rfl
theorem slices_Reverse_int_int.bits3 : waitsOk slices_Reverse_int_int.T3.2 slices_Reverse_int_int.B3 = true := by kernel_rfl
set_option maxHeartbeats 8000000 in
set_option maxRecDepth 100000 in
theorem slices_Reverse_int_int.calls (k : Nat) (P0_ : Nat → Prop) (u9000_ : Value) (l0 : List Int) (r : List Int) (w0 w : World) (hB : Below w0.heap.size w0 w) (ho0 : Kd.R (Kd.int .i64) 3 w w0.heap.size P0_ u9000_ l0) (h : slices_Reverse_int_int.f k l0 = some r) :
  Calls Try.prog 124 #[u9000_] w fun e w' => e = .returned (.tuple #[]) ∧ Kd.R (Kd.int .i64) 3 w' w0.heap.size (fun k_ => (P0_ k_ ∨ w.heap.size ≤ k_)) u9000_ r ∧ Below w0.heap.size w0 w' ∧ Kept w w' (fun k_ => P0_ k_) := by
 have HO0 := Az (show Kd.R (Kd.int .i64) 3 w w0.heap.size (fun k_ => (P0_ k_ ∨ w.heap.size ≤ k_)) u9000_ l0 from Kd.R_mono ho0 (fun k_ hk => (.inl hk))); have HK := Az (Kept.refl w (fun k_ => P0_ k_)); have HW0 := Az hB.size; have HB := Az hB; clear hB; have H := h; clear h; unfold slices_Reverse_int_int.f at H; have H' := Az H; clear H; obtain ⟨Ao2, co2, eo2⟩ := Kd.R_slice HO0.out; subst eo2; go_enter Try.func124, Try.ntmps124; go_wp2
 go_loopg [2, 3] k (fun kq v2 v3 w' => ∃ (x0_1 : List Int) (x2_1 : Int) (x3_1 : Int), v2 = .int .i64 x2_1 ∧ v3 = .int .i64 x3_1 ∧ Aside0 (slices_Reverse_int_int.l0 kq x0_1 x2_1 x3_1 = some r) ∧ Aside0 (kq ≤ k) ∧ Aside0 (Kd.R (Kd.int .i64) 3 w' w0.heap.size (fun k_ => (P0_ k_ ∨ w.heap.size ≤ k_)) (.slice Ao2 l0.length co2) x0_1) ∧ Aside0 (Kept w w' (fun k_ => P0_ k_)) ∧ Aside0 (Below w0.heap.size w0 w'))
 case atStart => exact ⟨(l0), (0), (wrap64 ((l0.length : Int) - 1)), rS, rS, H', ⟨Nat.le_refl _⟩, ⟨rU HO0.out⟩, ⟨by repeat (first | (with_reducible first | exact HK.out | apply Kept.alloc | apply Kept.drewN | apply Kept.drew) | exact HK.out)⟩, ⟨bU0 HB.out⟩⟩
 case round =>
  clear H'; obtain ⟨x0_1, x2_1, x3_1, rfl, rfl, HA, HK1, HO_0, HK, HB⟩ := hrel; have hl0_1 := (Kd.R_reads' HO_0.out).1; rw [hl0_1] at HO_0; simp only [hl0_1]
  rcases gk with _ | k1
  exact (nN HA.out).elim; have H := HA.out; clear HA; simp only [slices_Reverse_int_int.l0] at H
  replace H := gB H; rcases H with ⟨c3b0, H⟩ | ⟨c3b0, H⟩
  ·
   replace H := gD1 H; obtain ⟨c4b0, H⟩ := H; replace H := gP H; obtain ⟨c5, H⟩ := H; have c5b0 := decide_eq_true c5; clear c5; replace H := gD1 H; obtain ⟨c6b0, H⟩ := H; replace H := gP H; obtain ⟨c7, H⟩ := H; have c7b0 := decide_eq_true c7; clear c7; generalize Ny309 : (x0_1.set (x2_1 : Int).toNat (rd x0_1 x3_1) : List Int) = y309 at H; replace Ny309 := Ay Ny309; generalize Ny310 : (y309.set (x3_1 : Int).toNat (rd x0_1 x2_1) : List Int) = y310 at H; replace Ny310 := Ay Ny310; have H' := Az H; clear H
   try go_wp2
   have n0_ := Az (Kd.R_drew HO_0.out); have n1_ := Az (Kept.drew HK.out); have n2_ := Az (below_drew1 HB.out); clear HO_0 HK HB; have HO_0 := n0_; have HK := n1_; have HB := n2_; clear n0_ n1_ n2_; obtain ⟨ad307, e307, _, _, hx307_0⟩ := aI (Kd.R_reads' HO_0.out).2.2 x3_1
   cases e307; obtain ⟨_, _, hx308_0⟩ := aJ (Kd.R_reads' HO_0.out).2.2 x2_1; have p8 : 0 ≤ (x2_1 : Int) := oA; have q8 : (x2_1 : Int) < ((x0_1.length : Int) : Int) := oA; obtain ⟨go8, co8, eo8, gb8, gl8, cl8, HG8⟩ := Kd.R_form HO_0.out (by omega); (first | cases eo8 | (injection eo8 with ea_ en_ ec_; (first | subst ea_ | (injection ea_ with ea_; subst ea_)); subst ec_; clear en_)); have GB8 := Az gb8; have GG8 := Az HG8; clear gb8 gl8 HG8; have HMgo8 := Az (show (P0_ go8 ∨ w.heap.size ≤ go8) from (HO_0.out.1 _ rfl)); simp only [add_plain] at hx307_0; simp only [add_plain] at hx308_0; obtain ⟨hx8_0, hf8_0⟩ := Kd.R_celln 0 HO_0.out (x2_1 : Int) p8 q8; replace p8 := eq_true p8; replace q8 := eq_true q8; have HP11 := Kd.R_putn HO_0.out (x2_1 : Int) (rd x0_1 x3_1); rw [← Ny309.out] at HP11; have HQ11 := Az HP11; clear HP11; have p9 : 0 ≤ (x3_1 : Int) := oA; have q9 : (x3_1 : Int) < ((x0_1.length : Int) : Int) := oA; obtain ⟨hx9_0, hf9_0⟩ := Kd.R_celln 0 HQ11.out (x3_1 : Int) p9 q9; replace p9 := eq_true p9; replace q9 := eq_true q9; have HP12 := Kd.R_putn HQ11.out (x3_1 : Int) (rd x0_1 x2_1); rw [← Ny310.out] at HP12; have HQ12 := Az HP12; clear HP12; refine start_ (n := 16) (S := fun w' => w'.cell? ⟨go8, (x3_1).toNat, none⟩ = some (.int .i64 (rd x0_1 x3_1)) ∧ w'.cell? ⟨go8, (x2_1).toNat, none⟩ = some (.int .i64 (rd x0_1 x2_1))) (ds := [13, 15]) (bv 16 0) (by kernel_rfl) rfl rfl ⟨hx307_0, hx308_0⟩ (fun hHeld => ?_); refine with_tabW slices_Reverse_int_int.tab3 slices_Reverse_int_int.bits3 (fun HT_ HW_ => ?_); generalize wr.drew = w10 at HO_0 HK HB GG8 HQ11 HQ12 hf8_0 hf9_0 hx307_0 hx308_0 hx8_0 hx9_0 hHeld ⊢; refine pure_ (i := 0) (N := some 14) (v := ?_) (a' := ?_) (bv 16 1) rfl rfl (any_of HT_.out (by kernel_rfl)) (fun _ _ _ h => h) (Or.inl ⟨by rfl, ?_⟩) ?_ ?_; rotate_left; (exact yP); rotate_left; (exact aP); refine pure_ (i := 1) (N := some 15) (v := ?_) (a' := ?_) (bv 16 3) rfl rfl (any_of HT_.out (by kernel_rfl)) (fun _ _ _ h => h) (Or.inl ⟨by rfl, ?_⟩) ?_ ?_; rotate_left; (exact yP); rotate_left; (exact aP); refine pure_ (i := 2) (N := some 16) (v := ?_) (a' := ?_) (bv 16 7) rfl rfl (any_of HT_.out (by kernel_rfl)) (fun _ _ _ h => h) (Or.inl ⟨by rfl, ?_⟩) ?_ ?_; rotate_left; (exact yP); rotate_left; (exact aP); refine pure_ (i := 3) (N := some 17) (v := ?_) (a' := ?_) (bv 16 15) rfl rfl (any_of HT_.out (by kernel_rfl)) (fun _ _ _ h => h) (Or.inl ⟨by rfl, ?_⟩) ?_ ?_; rotate_left; (exact yP); rotate_left; (exact aP); refine pure_ (i := 4) (N := some 18) (v := ?_) (a' := ?_) (bv 16 31) rfl rfl (any_of HT_.out (by kernel_rfl)) (fun _ _ _ h => h) (Or.inl ⟨by rfl, ?_⟩) ?_ ?_; rotate_left; (exact yP); rotate_left; (exact aP); refine pure_ (i := 5) (N := some 19) (v := ?_) (a' := ?_) (bv 16 63) rfl rfl (any_of HT_.out (by kernel_rfl)) (fun _ _ _ h => h) (Or.inl ⟨by rfl, ?_⟩) ?_ ?_; rotate_left; (exact yP); rotate_left; (exact aP); refine pure_ (i := 6) (N := some 20) (v := ?_) (a' := ?_) (bv 16 127) rfl rfl (any_of HT_.out (by kernel_rfl)) (fun _ _ _ h => h) (Or.inl ⟨by rfl, ?_⟩) ?_ ?_; rotate_left; (exact yP); rotate_left; (exact aP); refine pure_ (i := 8) (N := some 22) (v := ?_) (a' := ?_) (bv 16 383) rfl rfl (any_of HT_.out (by kernel_rfl)) (fun _ _ _ h => h) (Or.inl ⟨by rfl, ?_⟩) ?_ ?_; rotate_left; (exact yP); rotate_left; (exact aP); refine pure_ (i := 9) (N := some 23) (v := ?_) (a' := ?_) (bv 16 895) rfl rfl (any_of HT_.out (by kernel_rfl)) (fun _ _ _ h => h) (Or.inl ⟨by rfl, ?_⟩) ?_ ?_; rotate_left; (exact yP); rotate_left; (exact aP); refine pure_ (i := 10) (N := some 24) (v := ?_) (a' := ?_) (bv 16 1919) rfl rfl (any_of HT_.out (by kernel_rfl)) (fun _ _ _ h => h) (Or.inl ⟨by rfl, ?_⟩) ?_ ?_; rotate_left; (exact yP); rotate_left; (exact aP); refine take_ (i := 7) (N := some 21) (v := ?_) (a' := ?_) (bv 16 2047) rfl rfl (take_ofW HT_.out HW_.out (by kernel_rfl)) (fun _ _ _ h => h) (Or.inl ⟨by rfl, ?_⟩) hHeld ?_ ?_; rotate_left
   ·
    rintro w' ⟨s0, s1⟩; go_simp
    with_reducible rfl
   rotate_left; (exact aP); refine take_ (i := 11) (N := some 25) (v := ?_) (a' := ?_) (bv 16 4095) rfl rfl (take_ofW HT_.out HW_.out (by kernel_rfl)) (fun _ _ _ h => h) (Or.inl ⟨by rfl, ?_⟩) hHeld ?_ ?_; rotate_left
   ·
    rintro w' ⟨s0, s1⟩; go_simp
    with_reducible rfl
   rotate_left; (exact aP); refine pure_ (i := 12) (N := some 26) (v := ?_) (a' := ?_) (bv 16 8191) rfl rfl (any_of HT_.out (by kernel_rfl)) (fun _ _ _ h => h) (Or.inl ⟨by rfl, ?_⟩) ?_ ?_; rotate_left; (exact yP); rotate_left; (exact aP); refine last_ (i := 13) (N := none) (bv 16 16383) rfl rfl (one_of HT_.out (by kernel_rfl)) (by decide) (fun K hK => ?_); refine skip_ (w1 := ?_) (by rfl) rfl ?_ ?_; rotate_left
   · go_simp; rfl
   refine hK.out _ _ ?_; clear hK K; refine pure_ (i := 14) (N := some 27) (v := ?_) (a' := ?_) (bv 16 32767) rfl rfl (any_of HT_.out (by kernel_rfl)) (fun _ _ _ h => h) (Or.inl ⟨by rfl, ?_⟩) ?_ ?_; rotate_left; (exact yP); rotate_left; (exact aP); refine last_ (i := 15) (N := none) (bv 16 65535) rfl rfl (one_of HT_.out (by kernel_rfl)) (by decide) (fun K hK => ?_); refine skip_ (w1 := ?_) (by rfl) rfl ?_ ?_; rotate_left
   · go_simp; rfl
   refine hK.out _ _ ?_; clear hK K; refine done_ (done_of HT_.out (by kernel_rfl)) ?_
   try go_wp2
   simp only [← hl0_1]; go_roundg k1
   case measure => exact mO
   case rel => exact ⟨(y310), (wrap64 (x2_1 + 1)), (wrap64 (x3_1 - 1)), rS, rS, H', ⟨mO⟩, ⟨by simp only [hl0_1]; (with_reducible repeat (first | apply Kd.R_alloc | apply Kd.R_drewN | apply Kd.R_drew)); exact HQ12.out⟩, ⟨by repeat (first | (with_reducible first | exact HK.out | apply Kept.alloc | apply Kept.drewN | apply Kept.drew | refine Kept.setCell ?_ HMgo8.out _ | refine Kept.setCell ?_ HMgo8.out _) | exact HK.out)⟩, ⟨bU2 HB.out GB8.out GB8.out⟩⟩
  ·
   obtain rfl := Option.some.inj H; go_wp2
   first | go_end0 | ((try simp only [Exit.inBlock, Exit.then]); refine bodyPost_ret (results_none rfl _ _ _) rfl ?_)
   exact ⟨rE, (by first | exact (rU HO_0.out) | (simp only [hl0_1]; exact (rU HO_0.out))), bU0 HB.out, by repeat (first | (with_reducible first | exact HK.out | apply Kept.alloc | apply Kept.drewN | apply Kept.drew) | exact HK.out)⟩
def impl_typeOf.l0 : Nat → List Int → List (List Int) → Int → Int → Option (List Int)
 | 0, _, _, _, _ => none
 | k + 1, x3, x8, x9, x10 => if x10 < x9 then (if 0 ≤ x10 then (if x10 < (x8.length : Int) then (if x3.length < 17592186044416 then (impl_typeOf.l0 k (x3 ++ [((rd_L1 x8 x10).length : Int)]) x8 x9 (wrap64 (x10 + 1))) else (none)) else (none)) else (none)) else ((slices_Sort_int_int.f x3).bind fun t321 => ((slices_Reverse_int_int.f k t321).bind fun t322 => (some t322)))
def impl_typeOf.f (k : Nat) (l0 : List Int) : Option (List Int) := (impl_cyclesOf.f k l0).bind fun t314 => (impl_typeOf.l0 k (([] : List Int)) t314 (t314.length : Int) 0)
set_option maxHeartbeats 8000000 in
set_option maxRecDepth 100000 in
theorem impl_typeOf.calls (k : Nat) (A0 : Option Addr) (c0 : Nat) (l0 : List Int) (r : List Int) (w : World) (hr0 : Kd.C (Kd.int .i64) w A0 l0.length l0) (hc0 : l0.length ≤ c0) (h : impl_typeOf.f k l0 = some r) :
  Calls Try.prog 110 #[.slice A0 l0.length c0] w fun e w' => ∃ v0_ : Value, e = .returned (v0_) ∧ Kd.R (Kd.int .i64) 3 w' w.heap.size (fun _ => True) v0_ r ∧ Below w.heap.size w w' := by
 have HR0 := Az hr0; have HC0 := Az hc0; clear hr0 hc0; have HB := bZ w; have H := h; clear h; unfold impl_typeOf.f at H; generalize Ny311 : (([] : List Int) : List Int) = y311 at H; replace Ny311 := Ay Ny311; replace H := bd H; obtain ⟨t314, A2, H⟩ := H; have H' := Az H; clear H; go_enter Try.func110, Try.ntmps110
 go_wp2_with (first | ((with_reducible refine gd 6 rfl ?_); refine Kd.R_lit (Kd.int .i64) _ 3 rfl (N := 6) rfl (xs := ([] : List Int)) (inner := []) (ok := fun _ => True) (okp := fun _ => True) hS ?hp (fun _ hk => hk) trivial (Below.refl _ _) (Nat.le_refl _) (by simp) ?_; (case hp => exact (Reps.none _ _)); intro v312 w3 ho4 hb hg_ hnew_; clear hg_ hnew_; (first | rw [← Ny311.out] at ho4 | (simp only [Int.reduceToNat] at ho4; rw [← Ny311.out] at ho4)); have n0_ := Az (Kd.R_lower ho4 (below_size (bU0 HB.out))); have n1_ := Az (below_step (bU0 HB.out) hb); clear HB; have HO313 := n0_; have HB := n1_; clear n0_ n1_ hb ho4) | ((with_reducible refine gK 67 rfl ?_); refine gC (some 8) Try.func67 #[.slice A0 l0.length c0] ?_; (with_reducible refine (impl_cyclesOf.calls k _ _ l0 t314 _ ?_ ?_ A2.out).mono ?_); exact cU (Kd.C_below HR0.out HB.out); exact HC0.out; rintro e w5 ⟨v315, rfl, ho0, hb⟩; refine ⟨_, rfl, ?_⟩; have n0_ := rB HO313.out hb; have n1_ := Az (Kd.S_lower (Kd.S_new' ho0 (Kd.R_lt (rU HO313.out))) (below_size (bU0 HB.out))); have n2_ := Az (below_step (bU0 HB.out) hb); clear HO313 HB; have HO313 := n0_; have HO316 := n1_; have HB := n2_; clear n0_ n1_ n2_ hb ho0; obtain ⟨Ao6, co6, eo6⟩ := Kd.S_slice HO316.out; subst eo6))
 go_loopg [3, 10] k (fun kq v3 v10 w' => ∃ (x3_1 : List Int) (x10_1 : Int), v10 = .int .i64 x10_1 ∧ Aside0 (impl_typeOf.l0 kq x3_1 t314 (t314.length : Int) x10_1 = some r) ∧ Aside0 (kq ≤ k) ∧ Aside0 (Kd.R (Kd.int .i64) 3 w' w.heap.size (fun _ => True) v3 x3_1) ∧ Aside0 (Kd.S (Kd.slice 3 (Kd.int .i64)) 23 w' w.heap.size (fun k_ => oV k_ v3) (.slice Ao6 t314.length co6) t314) ∧ Aside0 (Below w.heap.size w w'))
 case atStart => exact ⟨(y311), (0), rS, H', ⟨Nat.le_refl _⟩, ⟨rU HO313.out⟩, ⟨sM HO316.out⟩, ⟨bU0 HB.out⟩⟩
 case round =>
  clear H'; obtain ⟨x3_1, x10_1, rfl, HA, HK1, HO_3, HO_8, HB⟩ := hrel
  rcases gk with _ | k1
  exact (nN HA.out).elim; have H := HA.out; clear HA; simp only [impl_typeOf.l0] at H
  replace H := gB H; rcases H with ⟨c7b0, H⟩ | ⟨c7b0, H⟩
  ·
   replace H := gD2 H; obtain ⟨c8b0, c9b0, H⟩ := H; replace H := gP H; obtain ⟨c10, H⟩ := H; have LMc10 := Az c10; clear c10; generalize Ny318 : (x3_1 ++ [((rd_L1 t314 x10_1).length : Int)] : List Int) = y318 at H; replace Ny318 := Ay Ny318; have H' := Az H; clear H; have p317 : 0 ≤ (x10_1 : Int) := oA; have q317 : x10_1 < (t314.length : Int) := oA; obtain ⟨ad317, A317_0, c317_0, e317, hx317_0, hl317_0, hi317_0⟩ := at_L1 (Kd.S_reads' HO_8.out).2.2 x10_1 p317 q317
   cases e317
   obtain ⟨ce317, hce317, hMe317, hcc317⟩ := Kd.S_get HO_8.out [] x10_1 p317 (by first | exact q317 | exact oA | (have e_ := (Kd.S_reads' HO_8.out).1; omega)); obtain ⟨ve317_0, rfl, ge317_0⟩ := hMe317; have hv317_0 := hcc317 0 _ rfl; rw [Nat.add_zero, show ((Kd.slice 3 (Kd.int .i64))).sz = 1 from rfl, Nat.mul_one] at hv317_0; replace hv317_0 := Option.some.inj (hv317_0.symm.trans hx317_0); rw [hv317_0] at ge317_0; have HL317_0 := Az (show Kd.R (Kd.int .i64) 3 _ _ _ _ (rd_L1 t314 x10_1) from ge317_0); clear hv317_0 ge317_0 hcc317 hce317; have HR317_0 := Az hi317_0; have HC317_0 := Az hl317_0; clear hi317_0 hl317_0; replace p317 := eq_true p317; replace q317 := eq_true q317
   go_wp2_with (first | ((with_reducible refine gate_builtin (b := .append) (xs := #[.tmp 14, .tmp 17]) rfl ?_); at_builtin; refine Kd.R_append (Kd.int .i64) (w0 := w) w.heap.size rfl (.tmp 14) (.tmp 17) 23 3 (.int .i64 0) 8 rfl Try.underlying23 info3 rfl (by decide) (by omega) u3 x3_1 ((rd_L1 t314 x10_1).length : Int) [.int .i64 ((rd_L1 t314 x10_1).length : Int)] (fun _ => True) (fun _ => False) rfl rfl ?aP (fun _ hk => hk.elim) ?aF ?aO ?aB ?aS ?aL ?_; (case aP => exact rfl); (case aB => exact (bU0 HB.out)); (case aF => exact (fun _ _ => trivial)); (case aO => exact (rU HO_3.out)); (case aS => exact (below_size (bU0 HB.out))); (case aL => have := LMc10.out; omega); intro v319 w11 ho hb hg hat; rw [← Ny318.out] at ho; have n0_ := Az (Kd.S_after (ok := (fun _ => True)) (sM HO_8.out) hg hat); have n1_ := Az (Kd.R_after (ok := (fun k_ => some k_ ≠ (.slice (some ad317) t314.length co6 : Value).ownBlock)) (rM HL317_0.out) hg hat); have n2_ := Az (hb); have n3_ := Az (ho); clear HO_8 HL317_0 HB HO_3; have HO_8 := n0_; have HL317_0 := n1_; have HB := n2_; have HO320 := n3_; clear n0_ n1_ n2_ n3_ ho hb hg hat))
   go_roundg k1
   case measure => exact mO
   case rel => exact ⟨(y318), (wrap64 (x10_1 + 1)), rS, H', ⟨mO⟩, ⟨rU HO320.out⟩, ⟨sM HO_8.out⟩, ⟨bU0 HB.out⟩⟩
  ·
   replace H := bd H; obtain ⟨t321, A12, H⟩ := H; replace H := bd H; obtain ⟨t322, A13, H⟩ := H; obtain rfl := Option.some.inj H; obtain ⟨Ao14, co14, eo14⟩ := Kd.R_slice HO_3.out; subst eo14
   go_wp2_with (first | ((with_reducible refine gK 123 rfl ?_); refine gC (some 21) Try.func123 #[.slice Ao14 x3_1.length co14] ?_; (with_reducible refine (slices_Sort_int_int.calls (fun k_ => some k_ = (.slice Ao14 x3_1.length co14 : Value).ownBlock) (.slice Ao14 x3_1.length co14) x3_1 t321 w _ ?_ ?_ A12.out).mono ?_); (repeat (first | (with_reducible first | exact HB.out | apply below_alloc | apply pw_below_drewN | apply below_drew1) | exact HB.out)); exact Kd.R_tight rfl HO_3.out; rintro e w15 ⟨rfl, hy0, hb, hkp⟩; refine ⟨_, rfl, ?_⟩; have n0_ := Az (Kd.R_reok rfl hy0 (fun k_ e_ => HO_3.out.1 k_ e_)); have n1_ := Az z1_3; have n2_ := Az (hb); clear HO_3 HO_8 HB; have HO_3 := n0_; have HO_8 := n1_; have HB := n2_; clear n0_ n1_ n2_ hb) | ((with_reducible refine gK 124 rfl ?_); refine gC (some 23) Try.func124 #[.slice Ao14 x3_1.length co14] ?_; (with_reducible refine (slices_Reverse_int_int.calls k1 (fun k_ => some k_ = (.slice Ao14 x3_1.length co14 : Value).ownBlock) (.slice Ao14 x3_1.length co14) t321 t322 w _ ?_ ?_ A13.out).mono ?_); (repeat (first | (with_reducible first | exact HB.out | apply below_alloc | apply pw_below_drewN | apply below_drew1) | exact HB.out)); exact Kd.R_tight rfl HO_3.out; rintro e w16 ⟨rfl, hy0, hb, hkp⟩; refine ⟨_, rfl, ?_⟩; have n0_ := Az (Kd.R_reok rfl hy0 (fun k_ e_ => HO_3.out.1 k_ e_)); have n1_ := Az z1_3; have n2_ := Az (hb); clear HO_3 HO_8 HB; have HO_3 := n0_; have HO_8 := n1_; have HB := n2_; clear n0_ n1_ n2_ hb))
   go_ret; exact ⟨_, rE, rU HO_3.out, bU0 HB.out⟩
def impl_isQuad.l0 : Nat → List Int → Int → Int → Option (Bool)
 | 0, _, _, _ => none
 | k + 1, x13, x14, x15 => if x15 < x14 then (if 0 ≤ x15 then (if x15 < (x13.length : Int) then (if (rd x13 x15) = 4 then (impl_isQuad.l0 k x13 x14 (wrap64 (x15 + 1))) else (some false)) else (none)) else (none)) else (some true)
def impl_isQuad.f (k : Nat) (l0_0 : List Int) (l0_1 : List Int) : Option (Bool) := (impl_MapValid.f k l0_0 l0_1).bind fun t324 => (if t324 = true then ((impl_mul.f k l0_1 l0_0).bind fun t325 => ((impl_typeOf.f k t325).bind fun t328 => (impl_isQuad.l0 k t328 (t328.length : Int) 0))) else (some false))
set_option maxHeartbeats 8000000 in
set_option maxRecDepth 100000 in
theorem impl_isQuad.calls (k : Nat) (A0_0 : Option Addr) (c0_0 : Nat) (l0_0 : List Int) (A0_1 : Option Addr) (c0_1 : Nat) (l0_1 : List Int) (r : Bool) (w : World) (hr0_0 : Kd.C (Kd.int .i64) w A0_0 l0_0.length l0_0) (hc0_0 : l0_0.length ≤ c0_0) (hr0_1 : Kd.C (Kd.int .i64) w A0_1 l0_1.length l0_1) (hc0_1 : l0_1.length ≤ c0_1) (h : impl_isQuad.f k l0_0 l0_1 = some r) :
  Calls Try.prog 89 #[.agg #[.slice A0_0 l0_0.length c0_0, .slice A0_1 l0_1.length c0_1]] w fun e w' => e = .returned (.bool r) ∧ Below w.heap.size w w' := by
 have hu29 := Try.underlying29; have HR0_0 := Az hr0_0; have HC0_0 := Az hc0_0; clear hr0_0 hc0_0; have HR0_1 := Az hr0_1; have HC0_1 := Az hc0_1; clear hr0_1 hc0_1; have HB := bZ w; have H := h; clear h; unfold impl_isQuad.f at H; replace H := bd H; obtain ⟨t324, A2, H⟩ := H
 by_cases c3 : t324 = true
 ·
  subst c3; rw [if_pos rfl] at H; replace H := bd H; obtain ⟨t325, A4, H⟩ := H; replace H := bd H; obtain ⟨t328, A5, H⟩ := H; have H' := Az H; clear H; go_enter Try.func89, Try.ntmps89
  go_wp2_with (first | ((with_reducible refine gd 1 rfl ?_); refine bE 1 #[.slice A0_0 l0_0.length c0_0, .slice A0_1 l0_1.length c0_1] 29 ?_; intro gb323 hg w6 hbox hb; have n0_ := Az (below_step (bU0 HB.out) hb); have n1_ := Az (hbox); have n2_ := Az ((by rw [hg]; exact (below_size (bU0 HB.out)) : w.heap.size ≤ gb323)); have n3_ := n2_; clear HB; have HB := n0_; have BK323 := n1_; have GW323 := n2_; have GE323 := n3_; clear n0_ n1_ n2_ n3_ hb hbox hg; have hz7 := bc2 BK323.out) | ((with_reducible refine gK 66 rfl ?_); refine gC (some 6) Try.func66 #[.agg #[.slice A0_0 l0_0.length c0_0, .slice A0_1 l0_1.length c0_1]] ?_; (with_reducible refine (impl_MapValid.calls k (fun k_ => k_ < w.heap.size) _ _ l0_0 (fun k_ => k_ < w.heap.size) _ _ l0_1 true _ ?_ ?_ A2.out).mono ?_); exact Kd.V_mk HC0_0.out (Kd.F_below (Kd.C_F (Kd.heap_int .i64) HR0_0.out) (bU1 HB.out GE323.out)); exact Kd.V_mk HC0_1.out (Kd.F_below (Kd.C_F (Kd.heap_int .i64) HR0_1.out) (bU1 HB.out GE323.out)); rintro e w8 ⟨rfl, hb⟩; refine ⟨_, rfl, ?_⟩; have n0_ := kB BK323.out hb; have n1_ := Az (below_step (bU1 HB.out GE323.out) hb); clear BK323 HB; have BK323 := n0_; have HB := n1_; clear n0_ n1_ hb; have hz9 := bc2 BK323.out) | ((with_reducible refine gK 68 rfl ?_); refine gC (some 12) Try.func68 #[.slice A0_1 l0_1.length c0_1, .slice A0_0 l0_0.length c0_0] ?_; (with_reducible refine (impl_mul.calls k _ _ l0_1 _ _ l0_0 t325 _ ?_ ?_ ?_ ?_ A4.out).mono ?_); exact cU (Kd.C_below HR0_1.out HB.out); exact HC0_1.out; exact cU (Kd.C_below HR0_0.out HB.out); exact HC0_0.out; rintro e w10 ⟨v326, rfl, ho0, hb⟩; refine ⟨_, rfl, ?_⟩; have n0_ := Az (Kd.R_lower ho0 (below_size (bU1 HB.out GE323.out))); have n1_ := kB BK323.out hb; have n2_ := Az (below_step (bU1 HB.out GE323.out) hb); clear BK323 HB; have HO327 := n0_; have BK323 := n1_; have HB := n2_; clear n0_ n1_ n2_ hb ho0; obtain ⟨Ao11, co11, eo11⟩ := Kd.R_slice HO327.out; subst eo11) | ((with_reducible refine gK 110 rfl ?_); refine gC (some 13) Try.func110 #[.slice Ao11 t325.length co11] ?_; (with_reducible refine (impl_typeOf.calls k _ _ t325 t328 _ ?_ ?_ A5.out).mono ?_); exact cU ((Kd.R_reads' HO327.out).2.2); exact (Kd.R_reads' HO327.out).2.1; rintro e w12 ⟨v329, rfl, ho0, hb⟩; refine ⟨_, rfl, ?_⟩; have n0_ := Az (Kd.R_elder' (rU HO327.out) (Kd.R_base ho0) hb); have n1_ := Az (Kd.R_lower (Kd.R_new' ho0 (Kd.R_lt (rU HO327.out))) (below_size (bU1 HB.out GE323.out))); have n2_ := kB BK323.out hb; have n3_ := Az (below_step (bU1 HB.out GE323.out) hb); clear HO327 BK323 HB; have HO327 := n0_; have HO330 := n1_; have BK323 := n2_; have HB := n3_; clear n0_ n1_ n2_ n3_ hb ho0; obtain ⟨Ao13, co13, eo13⟩ := Kd.R_slice HO330.out; subst eo13))
  go_loopg [15] k (fun kq v15 w' => ∃ (x15_1 : Int), v15 = .int .i64 x15_1 ∧ Aside0 (impl_isQuad.l0 kq t328 (t328.length : Int) x15_1 = some r) ∧ Aside0 (kq ≤ k) ∧ Aside0 (Kd.R (Kd.int .i64) 3 w' w.heap.size (fun _ => True) (.slice Ao13 t328.length co13) t328) ∧ Aside0 (w'.heap[gb323]? = some (.cells #[(.slice A0_0 l0_0.length c0_0), (.slice A0_1 l0_1.length c0_1)] 29 (0, 0))) ∧ Aside0 (Below w.heap.size w w'))
  case atStart => exact ⟨(0), rS, H', ⟨Nat.le_refl _⟩, ⟨rM HO330.out⟩, ⟨kU BK323.out⟩, ⟨bU1 HB.out GE323.out⟩⟩
  case round =>
   clear H'; obtain ⟨x15_1, rfl, HA, HK1, HO_13, BK323, HB⟩ := hrel
   rcases gk with _ | k1
   exact (nN HA.out).elim; have H := HA.out; clear HA; simp only [impl_isQuad.l0] at H
   replace H := gB H; rcases H with ⟨c14b0, H⟩ | ⟨c14b0, H⟩
   ·
    replace H := gD2 H; obtain ⟨c15b0, c16b0, H⟩ := H
    replace H := gQ H; rcases H with ⟨c17b0, c17b1, H⟩ | ⟨c17b0, c17b1, H⟩
    ·
     have H' := Az H; clear H; obtain ⟨ad331, e331, p331, q331, hx331_0⟩ := aI (Kd.R_reads' HO_13.out).2.2 x15_1
     cases e331; go_wp2; go_roundg k1
     case measure => exact mO
     case rel => exact ⟨(wrap64 (x15_1 + 1)), rS, H', ⟨mO⟩, ⟨rU HO_13.out⟩, ⟨kU BK323.out⟩, ⟨bU1 HB.out GE323.out⟩⟩
    ·
     obtain rfl := Option.some.inj H; obtain ⟨ad331, e331, p331, q331, hx331_0⟩ := aI (Kd.R_reads' HO_13.out).2.2 x15_1
     cases e331; go_wp2; go_ret; exact ⟨rE, bU1 HB.out GE323.out⟩
   · obtain rfl := Option.some.inj H; go_wp2; go_ret; exact ⟨rE, bU1 HB.out GE323.out⟩
 ·
  replace c3 := Bool.eq_false_iff.mpr c3; subst c3; rw [if_neg nT] at H; obtain rfl := Option.some.inj H; go_enter Try.func89, Try.ntmps89
  go_wp2_with (first | ((with_reducible refine gd 1 rfl ?_); refine bE 1 #[.slice A0_0 l0_0.length c0_0, .slice A0_1 l0_1.length c0_1] 29 ?_; intro gb323 hg w18 hbox hb; have n0_ := Az (below_step (bU0 HB.out) hb); have n1_ := Az (hbox); have n2_ := Az ((by rw [hg]; exact (below_size (bU0 HB.out)) : w.heap.size ≤ gb323)); have n3_ := n2_; clear HB; have HB := n0_; have BK323 := n1_; have GW323 := n2_; have GE323 := n3_; clear n0_ n1_ n2_ n3_ hb hbox hg; have hz19 := bc2 BK323.out) | ((with_reducible refine gK 66 rfl ?_); refine gC (some 6) Try.func66 #[.agg #[.slice A0_0 l0_0.length c0_0, .slice A0_1 l0_1.length c0_1]] ?_; (with_reducible refine (impl_MapValid.calls k (fun k_ => k_ < w.heap.size) _ _ l0_0 (fun k_ => k_ < w.heap.size) _ _ l0_1 false _ ?_ ?_ A2.out).mono ?_); exact Kd.V_mk HC0_0.out (Kd.F_below (Kd.C_F (Kd.heap_int .i64) HR0_0.out) (bU1 HB.out GE323.out)); exact Kd.V_mk HC0_1.out (Kd.F_below (Kd.C_F (Kd.heap_int .i64) HR0_1.out) (bU1 HB.out GE323.out)); rintro e w20 ⟨rfl, hb⟩; refine ⟨_, rfl, ?_⟩; have n0_ := kB BK323.out hb; have n1_ := Az (below_step (bU1 HB.out GE323.out) hb); clear BK323 HB; have BK323 := n0_; have HB := n1_; clear n0_ n1_ hb))
  go_ret; exact ⟨rE, bU1 HB.out GE323.out⟩
def impl_QuadIs.f (k : Nat) (l0_0 : List Int) (l0_1 : List Int) : Option (Bool) := (impl_isQuad.f k l0_0 l0_1).bind fun t333 => (if t333 = true then ((impl_genusOf.f k l0_0 l0_1).bind fun t334 => (some (t334 == 0))) else (some false))
set_option maxHeartbeats 8000000 in
set_option maxRecDepth 100000 in
theorem impl_QuadIs.calls (k : Nat) (A0_0 : Option Addr) (c0_0 : Nat) (l0_0 : List Int) (A0_1 : Option Addr) (c0_1 : Nat) (l0_1 : List Int) (r : Bool) (w : World) (hr0_0 : Kd.C (Kd.int .i64) w A0_0 l0_0.length l0_0) (hc0_0 : l0_0.length ≤ c0_0) (hr0_1 : Kd.C (Kd.int .i64) w A0_1 l0_1.length l0_1) (hc0_1 : l0_1.length ≤ c0_1) (h : impl_QuadIs.f k l0_0 l0_1 = some r) :
  Calls Try.prog 48 #[.agg #[.slice A0_0 l0_0.length c0_0, .slice A0_1 l0_1.length c0_1]] w fun e w' => e = .returned (.bool r) ∧ Below w.heap.size w w' := by
 have hu29 := Try.underlying29; have HR0_0 := Az hr0_0; have HC0_0 := Az hc0_0; clear hr0_0 hc0_0; have HR0_1 := Az hr0_1; have HC0_1 := Az hc0_1; clear hr0_1 hc0_1; have HB := bZ w; have H := h; clear h; unfold impl_QuadIs.f at H; replace H := bd H; obtain ⟨t333, A2, H⟩ := H
 by_cases c3 : t333 = true
 ·
  subst c3; rw [if_pos rfl] at H; replace H := bd H; obtain ⟨t334, A4, H⟩ := H; obtain rfl := Option.some.inj H; go_enter Try.func48, Try.ntmps48
  go_wp2_with (first | ((with_reducible refine gd 1 rfl ?_); refine bE 1 #[.slice A0_0 l0_0.length c0_0, .slice A0_1 l0_1.length c0_1] 29 ?_; intro gb332 hg w5 hbox hb; have n0_ := Az (below_step (bU0 HB.out) hb); have n1_ := Az (hbox); have n2_ := Az ((by rw [hg]; exact (below_size (bU0 HB.out)) : w.heap.size ≤ gb332)); have n3_ := n2_; clear HB; have HB := n0_; have BK332 := n1_; have GW332 := n2_; have GE332 := n3_; clear n0_ n1_ n2_ n3_ hb hbox hg; have hz6 := bc2 BK332.out) | ((with_reducible refine gK 89 rfl ?_); refine gC (some 4) Try.func89 #[.agg #[.slice A0_0 l0_0.length c0_0, .slice A0_1 l0_1.length c0_1]] ?_; (with_reducible refine (impl_isQuad.calls k _ _ l0_0 _ _ l0_1 true _ ?_ ?_ ?_ ?_ A2.out).mono ?_); exact cU (Kd.C_below HR0_0.out HB.out); exact HC0_0.out; exact cU (Kd.C_below HR0_1.out HB.out); exact HC0_1.out; rintro e w7 ⟨rfl, hb⟩; refine ⟨_, rfl, ?_⟩; have n0_ := kB BK332.out hb; have n1_ := Az (below_step (bU1 HB.out GE332.out) hb); clear BK332 HB; have BK332 := n0_; have HB := n1_; clear n0_ n1_ hb; have hz8 := bc2 BK332.out) | (go_at_call 87; (with_reducible refine (impl_genusOf.calls k _ _ l0_0 _ _ l0_1 t334 _ ?_ ?_ ?_ ?_ A4.out).mono ?_); exact cU (Kd.C_below HR0_0.out HB.out); exact HC0_0.out; exact cU (Kd.C_below HR0_1.out HB.out); exact HC0_1.out; rintro e w9 ⟨rfl, hb⟩; have n0_ := kB BK332.out hb; have n1_ := Az (below_step (bU1 HB.out GE332.out) hb); clear BK332 HB; have BK332 := n0_; have HB := n1_; clear n0_ n1_ hb))
  go_ret; exact ⟨rE, bU1 HB.out GE332.out⟩
 ·
  replace c3 := Bool.eq_false_iff.mpr c3; subst c3; rw [if_neg nT] at H; obtain rfl := Option.some.inj H; go_enter Try.func48, Try.ntmps48
  go_wp2_with (first | ((with_reducible refine gd 1 rfl ?_); refine bE 1 #[.slice A0_0 l0_0.length c0_0, .slice A0_1 l0_1.length c0_1] 29 ?_; intro gb332 hg w10 hbox hb; have n0_ := Az (below_step (bU0 HB.out) hb); have n1_ := Az (hbox); have n2_ := Az ((by rw [hg]; exact (below_size (bU0 HB.out)) : w.heap.size ≤ gb332)); have n3_ := n2_; clear HB; have HB := n0_; have BK332 := n1_; have GW332 := n2_; have GE332 := n3_; clear n0_ n1_ n2_ n3_ hb hbox hg; have hz11 := bc2 BK332.out) | ((with_reducible refine gK 89 rfl ?_); refine gC (some 4) Try.func89 #[.agg #[.slice A0_0 l0_0.length c0_0, .slice A0_1 l0_1.length c0_1]] ?_; (with_reducible refine (impl_isQuad.calls k _ _ l0_0 _ _ l0_1 false _ ?_ ?_ ?_ ?_ A2.out).mono ?_); exact cU (Kd.C_below HR0_0.out HB.out); exact HC0_0.out; exact cU (Kd.C_below HR0_1.out HB.out); exact HC0_1.out; rintro e w12 ⟨rfl, hb⟩; refine ⟨_, rfl, ?_⟩; have n0_ := kB BK332.out hb; have n1_ := Az (below_step (bU1 HB.out GE332.out) hb); clear BK332 HB; have BK332 := n0_; have HB := n1_; clear n0_ n1_ hb))
  go_ret; exact ⟨rE, bU1 HB.out GE332.out⟩
def dfar.at : Nat → List Int → Int → List Int → Int → Option (List Int)
 | 0, _, _, _, _ => none
 | k + 1, t, n, xs, d => if 0 ≤ d then (if d < (xs.length : Int) then (if rd xs d < 0 then (if d < (t.length : Int) then dfar.at k t n (xs.set d.toNat n) (rd t d) else none) else some xs) else none) else none
set_option maxHeartbeats 4000000 in
set_option maxRecDepth 100000 in
theorem dfar.at_calls (k : Nat) (A0 : Option Addr) (c0 : Nat) (l0 : List Int) (A1 : Option Addr) (c1 : Nat) (l1 : List Int) (gM gF g n cF : Nat) (d nn : Int) (xs r : List Int) (w0 w : World)
  (hB : Below w0.heap.size w0 w) (hg : w0.heap.size ≤ g)
  (hM : w.heap[gM]? = some (.cells #[.slice A0 l0.length c0, .slice A1 l1.length c1] 29 (0, 0))) (hF : w.heap[gF]? = some (.cells #[.slice (some ⟨g, 0, none⟩) n cF] 23 (0, 0)))
  (hR : Kd.R (Kd.int .i64) 3 w w0.heap.size (fun _ => True) (.slice (some ⟨g, 0, none⟩) n cF) xs)
  (hr0 : Kd.C (Kd.int .i64) w0 A0 l0.length l0) (h : dfar.at k l0 nn xs d = some r) :
  Calls Try.prog 109 #[.int .i64 d, .int .i64 nn, .pointer (some ⟨gF, 0, none⟩), .pointer (some ⟨gM, 0, none⟩)] w fun e w' => e = .returned (.tuple #[]) ∧ Kd.R (Kd.int .i64) 3 w' w0.heap.size (fun _ => True) (.slice (some ⟨g, 0, none⟩) n cF) r ∧ Below w0.heap.size w0 w' ∧
   w'.heap[gM]? = some (.cells #[.slice A0 l0.length c0, .slice A1 l1.length c1] 29 (0, 0)) ∧ w'.heap[gF]? = some (.cells #[.slice (some ⟨g, 0, none⟩) n cF] 23 (0, 0)) := by
 have hu29 := Try.underlying29; have HB := Az hB; have BM := Az hM; have BF := Az hF; have HO := Az hR; have HR0 := Az hr0; have H' := Az h; clear hB hM hF hR hr0 h; go_enter Try.func109, Try.ntmps109; go_wp2
 go_loopg [0] k (fun kq v0 w' => ∃ (d' : Int) (xs' : List Int), v0 = .int .i64 d' ∧ Aside0 (dfar.at kq l0 nn xs' d' = some r) ∧ Aside0 (kq ≤ k) ∧ Aside0 (Kd.R (Kd.int .i64) 3 w' w0.heap.size (fun _ => True) (.slice (some ⟨g, 0, none⟩) n cF) xs') ∧ Aside0 (w'.heap[gM]? = some (.cells #[.slice A0 l0.length c0, .slice A1 l1.length c1] 29 (0, 0))) ∧ Aside0 (w'.heap[gF]? = some (.cells #[.slice (some ⟨g, 0, none⟩) n cF] 23 (0, 0))) ∧ Aside0 (Below w0.heap.size w0 w'))
 case atStart => exact ⟨d, xs, rfl, H', ⟨Nat.le_refl _⟩, HO, BM, BF, HB⟩
 case round =>
  clear H' HO BM BF HB; obtain ⟨d', xs', rfl, HA, HK1, HO, BM, BF, HB⟩ := hrel
  rcases gk with _ | k1
  exact (nN HA.out).elim; have H := HA.out; clear HA; simp only [dfar.at] at H; have hnx : n = xs'.length := (Kd.R_reads' HO.out).1
  by_cases c1_ : 0 ≤ d'
  ·
   rw [if_pos c1_] at H
   by_cases c2_ : d' < (xs'.length : Int)
   ·
    rw [if_pos c2_] at H
    have c2n : d' < (n : Int) := by rw [hnx]; exact c2_
    have hx1 : wr.cell? ⟨g, d'.toNat, none⟩ = some (.int .i64 (rd xs' d')) := (Kd.R_celln 0 HO.out d' c1_ c2n).1; have hf1 := (Kd.R_celln 0 HO.out d' c1_ c2n).2; clear hnx; have p1 : (0 ≤ d') = True := eq_true c1_; have q1 : (d' < (n : Int)) = True := eq_true c2n; have hcf : wr.cell? ⟨gF, 0, none⟩ = some (.slice (some ⟨g, 0, none⟩) n cF) := (blk_cell BF.out 0).trans rfl
    by_cases c3_ : rd xs' d' < 0
    ·
     rw [if_pos c3_] at H; have c3b : decide (rd xs' d' < 0) = true := decide_eq_true c3_
     by_cases c4_ : d' < (l0.length : Int)
     ·
      rw [if_pos c4_] at H; have q4 : (d' < (l0.length : Int)) = True := eq_true c4_; obtain ⟨ad, e0, hx0⟩ := Kd.at_int HR0.out d' c1_ c4_
      cases e0
      have HX0 := Az hx0; have HH := Az H; have HP := Az (Kd.R_putn HO.out d' nn)
      have neM : gM ≠ g := fun e => Kd.R_ne HO.out BM.out (by decide) (by rw [e]; rfl)
      have neF : gF ≠ g := fun e => Kd.R_ne HO.out BF.out (by decide) (by rw [e]; rfl)
      clear H c1_ c2_ c2n c3_ c4_ hx0
      go_wp2_with (first | ((with_reducible refine gs 3 14 rfl ?_); refine sE 3 14 (wr.setCell ⟨g, d'.toNat, none⟩ (.int .i64 nn)) ?_; intro w15 hw; have n1 := Az (by rw [hw]; exact HP.out : Kd.R (Kd.int .i64) 3 w15 w0.heap.size (fun _ => True) (.slice (some ⟨g, 0, none⟩) n cF) (xs'.set d'.toNat nn)); have n2 := Az (by rw [hw]; exact blk_far BM.out (p := ⟨g, d'.toNat, none⟩) neM _ : w15.heap[gM]? = some (.cells #[.slice (some ad) l0.length c0, .slice A1 l1.length c1] 29 (0, 0))); have n3 := Az (by rw [hw]; exact blk_far BF.out (p := ⟨g, d'.toNat, none⟩) neF _ : w15.heap[gF]? = some (.cells #[.slice (some ⟨g, 0, none⟩) n cF] 23 (0, 0))); have n4 := Az (by rw [hw]; exact below_set HB.out hg : Below w0.heap.size w0 w15); clear HO BM BF HB HP hw hx1 hf1 hcf; have HO := n1; have BM := n2; have BF := n3; have HB := n4; clear n1 n2 n3 n4; have hcm : w15.cell? ⟨gM, 0, none⟩ = some (.slice (some ad) l0.length c0) := (blk_cell BM.out 0).trans rfl; have hxt := (HB.out.cell (World.block_lt_of_cell? w0 _ HX0.out)).trans HX0.out))
      (first | go_roundg k1 | (refine Handed.intro k1 ?measure ?_; rotate_left; go_step; (try simp only [add_plain]); (repeat apply Exists.intro); refine ⟨?rel, rfl⟩))
      case measure => exact mO
      case rel => exact ⟨_, _, rfl, HH, ⟨mO⟩, HO, BM, BF, HB⟩
     ·
      rw [if_neg c4_] at H
      cases H
    · rw [if_neg c3_] at H; have c3b : decide (rd xs' d' < 0) = false := decide_eq_false c3_; obtain rfl := Option.some.inj H; go_wp2; refine bodyPost_end (results_none rfl _ _ _) rfl ?_; exact ⟨rfl, HO.out, HB.out, BM.out, BF.out⟩
   ·
    rw [if_neg c2_] at H
    cases H
  ·
   rw [if_neg c1_] at H
   cases H
def dfar.l0 : Nat → List Int → Int → Int → Option (List Int)
 | 0, _, _, _ => none
 | k + 1, xs, i, m => if i < m then (if 0 ≤ i then (if i < (xs.length : Int) then dfar.l0 k (xs.set i.toNat (-1)) (wrap64 (i + 1)) m else none) else none) else some xs
def dfar.l2 : Nat → List Int → List Int → Int → List Int → Int → Option (List Int)
 | 0, _, _, _, _, _ => none
 | k + 1, t, f, n, xs, i => if i < (f.length : Int) then (if 0 ≤ i then (if i < (xs.length : Int) then (if rd xs i = n then ((dfar.at k t (wrap64 (n + 1)) xs (rd f i)).bind fun ys => dfar.l2 k t f n ys (wrap64 (i + 1))) else dfar.l2 k t f n xs (wrap64 (i + 1))) else none) else none) else some xs
def dfar.l1 : Nat → List Int → List Int → List Int → Int → Option (List Int)
 | 0, _, _, _, _ => none
 | k + 1, t, f, xs, n => if n < (t.length : Int) then ((dfar.l2 k t f n xs 0).bind fun ys => dfar.l1 k t f ys (wrap64 (n + 1))) else some xs
def impl_distancesFrom.f (k : Nat) (t f : List Int) (a : Int) : Option (List Int) := if 0 < t.length ∧ t.length ≤ 1048576 then ((dfar.l0 k (List.replicate t.length 0) 0 (t.length : Int)).bind fun xs => (dfar.at k t 0 xs a).bind fun ys => dfar.l1 k t f ys 0) else none
set_option maxHeartbeats 4000000 in
set_option maxRecDepth 100000 in
theorem impl_distancesFrom.calls (k : Nat) (A0_0 : Option Addr) (c0_0 : Nat) (l0_0 : List Int) (A0_1 : Option Addr) (c0_1 : Nat) (l0_1 : List Int) (a1 : Int) (r : List Int) (w : World) (hr0_0 : Kd.C (Kd.int .i64) w A0_0 l0_0.length l0_0) (hc0_0 : l0_0.length ≤ c0_0) (hr0_1 : Kd.C (Kd.int .i64) w A0_1 l0_1.length l0_1) (hc0_1 : l0_1.length ≤ c0_1) (h : impl_distancesFrom.f k l0_0 l0_1 a1 = some r) :
  Calls Try.prog 88 #[.agg #[.slice A0_0 l0_0.length c0_0, .slice A0_1 l0_1.length c0_1], .int .i64 a1] w fun e w' => ∃ v0_ : Value, e = .returned v0_ ∧ Kd.R (Kd.int .i64) 3 w' w.heap.size (fun _ => True) v0_ r ∧ Below w.heap.size w w' := by
 have hu29 := Try.underlying29; have HR0 := Az hr0_0; have HR1 := Az hr0_1; have HB := bZ w; clear hr0_0 hr0_1
 unfold impl_distancesFrom.f at h
 by_cases hn : 0 < l0_0.length ∧ l0_0.length ≤ 1048576
 ·
  rw [if_pos hn] at h; obtain ⟨xs1, h1, h⟩ := Option.bind_eq_some_iff.mp h; obtain ⟨xs2, h2, h3⟩ := Option.bind_eq_some_iff.mp h; clear h; have H1 := Az h1; have H2 := Az h2; have H3 := Az h3; have HN := Az hn; clear h1 h2 h3 hn; go_enter Try.func88, Try.ntmps88
  go_wp2_with (first | ((with_reducible refine gd 2 rfl ?_); refine bE 2 #[.slice A0_0 l0_0.length c0_0, .slice A0_1 l0_1.length c0_1] 29 ?_; intro gM hg w5 hbox hb; have n1 := Az (below_step HB.out hb); have BM := Az hbox; have GM := Az ((by rw [hg]; exact below_size HB.out) : w.heap.size ≤ gM); clear HB hb hbox hg; have HB := n1; clear n1; have hcz0 := cz BM.out 0) | ((with_reducible refine gd 14 rfl ?_); refine Kd.R_make (Kd.int .i64) _ 3 rfl (N := 14) rfl 23 _ _ rfl (l0_0.length : Int) rfl rfl Try.underlying23 (.int .i64 0) 8 info3 rfl (by decide) (by omega) 0 (ok := fun _ => True) (okp := fun _ => True) rfl (fun _ hk => hk) trivial (by omega) (by have := HN.out; omega) (Below.refl _ _) (Nat.le_refl _) ?_; intro v14 w6 ho6 hb hg_ hnew_; clear hg_ hnew_; rw [Int.toNat_natCast] at ho6; obtain ⟨g, cF, ev, gb, gl, _⟩ := Kd.R_form ho6 (by rw [List.length_replicate]; exact HN.out.1); have n1 := Az (Kd.R_lower ho6 (below_size HB.out)); have GG := Az (Nat.le_trans (below_size HB.out) gb); subst ev; have n2 := Az (below_step HB.out hb); have n3 := Az (blk_below BM.out hb); clear HB BM hb ho6 gb gl hcz0; have HO := n1; have HB := n2; have BM := n3; clear n1 n2 n3; rw [List.length_replicate] at HO ⊢))
  have n1 := blk_alloc BM.out (.cells #[.slice (some ⟨g, 0, none⟩) l0_0.length cF] 23); have n2 := Kd.R_alloc HO.out (.cells #[.slice (some ⟨g, 0, none⟩) l0_0.length cF] 23); have n3 := below_alloc HB.out (.cells #[.slice (some ⟨g, 0, none⟩) l0_0.length cF] 23); have n4 := blk_new w6 (.cells #[.slice (some ⟨g, 0, none⟩) l0_0.length cF] 23); clear BM HO HB; generalize hw7 : w6.alloc (.cells #[.slice (some ⟨g, 0, none⟩) l0_0.length cF] 23) = w7 at n1 n2 n3 n4 ⊢; generalize hgF : w6.heap.size = gF at n4 ⊢; clear hw7 hgF; have HB := Az n3; have BM := Az n1; have BF := Az n4; have HO := Az n2; clear n1 n2 n3 n4 GM
  go_loopg [17] k (fun kq v17 w' => ∃ (i : Int) (xs' : List Int), v17 = .int .i64 i ∧ Aside0 (dfar.l0 kq xs' i (l0_0.length : Int) = some xs1) ∧ Aside0 (kq ≤ k) ∧ Aside0 (Kd.R (Kd.int .i64) 3 w' w.heap.size (fun _ => True) (.slice (some ⟨g, 0, none⟩) l0_0.length cF) xs') ∧ Aside0 (w'.heap[gM]? = some (.cells #[.slice A0_0 l0_0.length c0_0, .slice A0_1 l0_1.length c0_1] 29 (0, 0))) ∧ Aside0 (w'.heap[gF]? = some (.cells #[.slice (some ⟨g, 0, none⟩) l0_0.length cF] 23 (0, 0))) ∧ Aside0 (Below w.heap.size w w'))
  case atStart => exact ⟨0, _, rfl, H1, ⟨Nat.le_refl _⟩, HO, BM, BF, HB⟩
  case round =>
   clear H1 HO BM BF HB; obtain ⟨i, xs', rfl, HA, HK1, HO, BM, BF, HB⟩ := hrel
   rcases gk with _ | k1
   exact (nN HA.out).elim; have H := HA.out; clear HA; simp only [dfar.l0] at H; have hnx : l0_0.length = xs'.length := (Kd.R_reads' HO.out).1
   by_cases c1_ : i < (l0_0.length : Int)
   ·
    rw [if_pos c1_] at H; have c1b : decide (i < (l0_0.length : Int)) = true := decide_eq_true c1_
    by_cases c2_ : 0 ≤ i
    ·
     rw [if_pos c2_] at H
     by_cases c3_ : i < (xs'.length : Int)
     ·
      rw [if_pos c3_] at H; have p1 : (0 ≤ i) = True := eq_true c2_; have q1 : (i < (l0_0.length : Int)) = True := eq_true c1_; have hcf : wr.cell? ⟨gF, 0, none⟩ = some (.slice (some ⟨g, 0, none⟩) l0_0.length cF) := (blk_cell BF.out 0).trans rfl; have hx1 : wr.cell? ⟨g, i.toNat, none⟩ = some (.int .i64 (rd xs' i)) := (Kd.R_celln 0 HO.out i c2_ c1_).1; have hf1 := (Kd.R_celln 0 HO.out i c2_ c1_).2; have HP := Az (Kd.R_putn HO.out i (-1)); have HH := Az H
      have neM : gM ≠ g := fun e => Kd.R_ne HO.out BM.out (by decide) (by rw [e]; rfl)
      have neF : gF ≠ g := fun e => Kd.R_ne HO.out BF.out (by decide) (by rw [e]; rfl)
      clear H c1_ c2_ c3_ hnx; go_wp2; go_roundg k1
      case measure => exact mO
      case rel => exact ⟨_, _, rfl, HH, ⟨mO⟩, HP, ⟨blk_far BM.out (p := ⟨g, i.toNat, none⟩) neM _⟩, ⟨blk_far BF.out (p := ⟨g, i.toNat, none⟩) neF _⟩, ⟨below_set HB.out GG.out⟩⟩
     ·
      rw [if_neg c3_] at H
      cases H
    ·
     rw [if_neg c2_] at H
     cases H
   ·
    rw [if_neg c1_] at H; have c1b : decide (i < (l0_0.length : Int)) = false := decide_eq_false c1_; obtain rfl := Option.some.inj H; clear H hnx c1_
    go_wp2_with (first | (go_at_call 109; (refine (dfar.at_calls k A0_0 c0_0 l0_0 A0_1 c0_1 l0_1 gM gF g l0_0.length cF a1 0 _ xs2 w _ HB.out GG.out BM.out BF.out HO.out HR0.out H2.out).mono ?_; rintro e w16 ⟨rfl, ho, hb, hm, hf⟩; clear HO BM BF HB; have HO := Az ho; have BM := Az hm; have BF := Az hf; have HB := Az hb; clear ho hm hf hb; have hcm0 : w16.cell? ⟨gM, 0, none⟩ = some (.slice A0_0 l0_0.length c0_0) := (blk_cell BM.out 0).trans rfl; have hcm1 : w16.cell? ⟨gM, 1, none⟩ = some (.slice A0_1 l0_1.length c0_1) := (blk_cell BM.out 1).trans rfl)))
    clear H2
    go_loopg [31] k (fun kq v31 w' => ∃ (nn : Int) (xs' : List Int), v31 = .int .i64 nn ∧ Aside0 (dfar.l1 kq l0_0 l0_1 xs' nn = some r) ∧ Aside0 (kq ≤ k) ∧ Aside0 (Kd.R (Kd.int .i64) 3 w' w.heap.size (fun _ => True) (.slice (some ⟨g, 0, none⟩) l0_0.length cF) xs') ∧ Aside0 (w'.heap[gM]? = some (.cells #[.slice A0_0 l0_0.length c0_0, .slice A0_1 l0_1.length c0_1] 29 (0, 0))) ∧ Aside0 (w'.heap[gF]? = some (.cells #[.slice (some ⟨g, 0, none⟩) l0_0.length cF] 23 (0, 0))) ∧ Aside0 (Below w.heap.size w w'))
    case atStart => exact ⟨0, _, rfl, H3, ⟨Nat.le_refl _⟩, HO, BM, BF, HB⟩
    case round =>
     clear H3 HO BM BF HB c1b; obtain ⟨nn, xs', rfl, HA, HK1, HO, BM, BF, HB⟩ := hrel
     rcases gk with _ | k1
     exact (nN HA.out).elim; have H := HA.out; clear HA; simp only [dfar.l1] at H; have hcm1 : wr.cell? ⟨gM, 1, none⟩ = some (.slice A0_1 l0_1.length c0_1) := (blk_cell BM.out 1).trans rfl; have hcf : wr.cell? ⟨gF, 0, none⟩ = some (.slice (some ⟨g, 0, none⟩) l0_0.length cF) := (blk_cell BF.out 0).trans rfl
     by_cases c1_ : nn < (l0_0.length : Int)
     ·
      rw [if_pos c1_] at H; have c1b : decide (nn < (l0_0.length : Int)) = true := decide_eq_true c1_; obtain ⟨ys, h4, h5⟩ := Option.bind_eq_some_iff.mp H; have H4 := Az h4; have H5 := Az h5; clear h4 h5 H c1_; go_wp2; clear hcm1 hcf c1b
      go_loopg [37] k1 (fun kq v37 w' => ∃ (i : Int) (xs' : List Int), v37 = .int .i64 i ∧ Aside0 (dfar.l2 kq l0_0 l0_1 nn xs' i = some ys) ∧ Aside0 (kq ≤ k1) ∧ Aside0 (Kd.R (Kd.int .i64) 3 w' w.heap.size (fun _ => True) (.slice (some ⟨g, 0, none⟩) l0_0.length cF) xs') ∧ Aside0 (w'.heap[gM]? = some (.cells #[.slice A0_0 l0_0.length c0_0, .slice A0_1 l0_1.length c0_1] 29 (0, 0))) ∧ Aside0 (w'.heap[gF]? = some (.cells #[.slice (some ⟨g, 0, none⟩) l0_0.length cF] 23 (0, 0))) ∧ Aside0 (Below w.heap.size w w'))
      case atStart => exact ⟨0, _, rfl, H4, ⟨Nat.le_refl _⟩, HO, BM, BF, HB⟩
      case round =>
       clear H4 HO BM BF HB; obtain ⟨i, xs', rfl, HA, HK2, HO, BM, BF, HB⟩ := hrel
       rcases gk with _ | k2
       exact (nN HA.out).elim; have H := HA.out; clear HA; simp only [dfar.l2] at H; have hnx : l0_0.length = xs'.length := (Kd.R_reads' HO.out).1; have hcf : wr.cell? ⟨gF, 0, none⟩ = some (.slice (some ⟨g, 0, none⟩) l0_0.length cF) := (blk_cell BF.out 0).trans rfl
       by_cases c1_ : i < (l0_1.length : Int)
       ·
        rw [if_pos c1_] at H; have c1b : decide (i < (l0_1.length : Int)) = true := decide_eq_true c1_
        by_cases c2_ : 0 ≤ i
        ·
         rw [if_pos c2_] at H
         by_cases c3_ : i < (xs'.length : Int)
         ·
          rw [if_pos c3_] at H
          have c3n : i < (l0_0.length : Int) := by rw [hnx]; exact c3_
          have p1 : (0 ≤ i) = True := eq_true c2_; have q1 : (i < (l0_0.length : Int)) = True := eq_true c3n; have q2 : (i < (l0_1.length : Int)) = True := eq_true c1_; have hx1 : wr.cell? ⟨g, i.toNat, none⟩ = some (.int .i64 (rd xs' i)) := (Kd.R_celln 0 HO.out i c2_ c3n).1; obtain ⟨ad, e0, hx0⟩ := Kd.at_int HR1.out i c2_ c1_
          cases e0
          have hx2 := (HB.out.cell (World.block_lt_of_cell? w _ hx0)).trans hx0; clear hnx c1_ c2_ c3_ c3n hx0
          by_cases c4_ : rd xs' i = nn
          ·
           rw [if_pos c4_] at H; have c4b : (rd xs' i == nn) = true := beq_iff_eq.mpr c4_; obtain ⟨zs, h6, h7⟩ := Option.bind_eq_some_iff.mp H; have H6 := Az h6; have H7 := Az h7; clear h6 h7 H c4_
           go_wp2_with (first | (go_at_call 109; (refine (dfar.at_calls k2 A0_0 c0_0 l0_0 _ c0_1 l0_1 gM gF g l0_0.length cF (rd l0_1 i) (wrap64 (nn + 1)) xs' zs w _ HB.out GG.out BM.out BF.out HO.out HR0.out H6.out).mono ?_; rintro e w16 ⟨rfl, ho, hb, hm, hf⟩; clear HO BM BF HB; have HO := Az ho; have BM := Az hm; have BF := Az hf; have HB := Az hb; clear ho hm hf hb)))
           go_roundg k2
           case measure => exact mO
           case rel => exact ⟨_, _, rfl, H7, ⟨mO⟩, HO, BM, BF, HB⟩
          ·
           rw [if_neg c4_] at H; have c4b : (rd xs' i == nn) = false := beq_eq_false_iff_ne.mpr c4_; have H7 := Az H; clear H c4_; go_wp2; go_roundg k2
           case measure => exact mO
           case rel => exact ⟨_, _, rfl, H7, ⟨mO⟩, HO, BM, BF, HB⟩
         ·
          rw [if_neg c3_] at H
          cases H
        ·
         rw [if_neg c2_] at H
         cases H
       ·
        rw [if_neg c1_] at H; have c1b : decide (i < (l0_1.length : Int)) = false := decide_eq_false c1_; obtain rfl := Option.some.inj H; clear H hnx c1_ hcf; go_wp2; go_roundg k1
        case measure => exact mO
        case rel => exact ⟨_, _, rfl, H5, ⟨mO⟩, HO, BM, BF, HB⟩
     · rw [if_neg c1_] at H; have c1b : decide (nn < (l0_0.length : Int)) = false := decide_eq_false c1_; obtain rfl := Option.some.inj H; clear H c1_; go_wp2; go_ret; exact ⟨_, rfl, HO.out, HB.out⟩
 ·
  rw [if_neg hn] at h
  cases h
end Go.Proofs.Ytlpbalebodlipaa.PL
