/- For every code: of the map that the statement draws, RibbonQuasis of the program answers what the reference answers; the dual map and the mirror's have as many quasi-trees; there are no fewer of them than spanning trees, and just as many on the sphere. There are no conditions. -/
import Derived.Test.YtjgknblneokhlaaKFnQuasisOwnx1
namespace Go.Proofs.Ytjgknblneokhlaa.PR
open Go.RowKit Go.Proofs.YtjgknblneokhlaaW.PrintWords Go.Proofs.YtjgknblneokhlaaW.PrintLast Go.Proofs.YtjgknblneokhlaaW.PrintMore
attribute [local go_sem] max2_int min2_int max_two min_two max_three min_three max_four min_four   -- for this text's walks alone
set_option linter.unusedVariables false
set_option linter.unusedSimpArgs false
def impl_ribbon_up (L : List (Nat × Option Tmp)) (n : Nat) : Array Bool := ((List.range n).map (fun i => !(L.map Prod.fst).contains i)).toArray
section
variable {P : Program} {ops : Array Oper} {Q : Exit → Act → World → Prop} {md : Region.Mode} {S : World → Prop} {ds : List Nat}
theorem impl_ribbon_uP {i n : Nat} {N : Option Tmp} {L : List (Nat × Option Tmp)} {oi : Oper} {v : Value} {fuel : Nat} {a : Act} {w : World} (hi : ops[i]? = some oi) (hN : oi.dst = N) (hc : anyB md ops (impl_ribbon_up ((i, N) :: L) n) (impl_ribbon_up L n) i = true)
  (hQ : ∀ c a w, Q (.panic c) (a.put oi.dst v) w → Q (.panic c) a w) (hw : Region.wanted oi (yielded ops a.tmps) = true) (hy : ∀ w, (execOp a.eval oi).run P w = .ok (.value v) w) {a' : Act} (ha : a.put N v = a')
  (h : wpAnyLast P md ops Q S ds fuel (impl_ribbon_up L n) a' w) : wpAnyLast P md ops Q S ds (fuel + 1) (impl_ribbon_up ((i, N) :: L) n) a w := pure_ (impl_ribbon_up L n) hi hN hc hQ (Or.inl ⟨hw, hy⟩) ha h
theorem impl_ribbon_uT {i n : Nat} {N : Option Tmp} {L : List (Nat × Option Tmp)} {oi : Oper} {v : Value} {fuel : Nat} {a : Act} {w : World} (hi : ops[i]? = some oi) (hN : oi.dst = N) (hc : takeB md ops ds (impl_ribbon_up ((i, N) :: L) n) (impl_ribbon_up L n) i = true)
  (hQ : ∀ c a w, Q (.panic c) (a.put oi.dst v) w → Q (.panic c) a w) (hw : Region.wanted oi (yielded ops a.tmps) = true) (hy : ∀ w, S w → (execOp a.eval oi).run P w = .ok (.value v) w) (hS : S w) {a' : Act} (ha : a.put N v = a')
  (h : wpAnyLast P md ops Q S ds fuel (impl_ribbon_up L n) a' w) : wpAnyLast P md ops Q S ds (fuel + 1) (impl_ribbon_up ((i, N) :: L) n) a w := take_ (impl_ribbon_up L n) hi hN hc hQ (Or.inl ⟨hw, hy⟩) hS ha h
theorem impl_ribbon_uO {i n : Nat} {N : Option Tmp} {L : List (Nat × Option Tmp)} {oi : Oper} {fuel : Nat} {a : Act} {w : World} (hi : ops[i]? = some oi) (hN : oi.dst = N) (hc : readyB md ops (impl_ribbon_up ((i, N) :: L) n) (impl_ribbon_up L n) i = true) (hd : i ∉ ds)
  (h : ∀ K : Act → World → Prop, Shut (∀ a' w', S w' → (S w' → wpAnyLast P md ops Q S ds fuel (impl_ribbon_up L n) a' w') → K a' w') → if Region.wanted oi (yielded ops a.tmps) = true then Oper.wp P oi a w K Q else K (a.put N undef) w) :
  wpAnyLast P md ops Q S ds (fuel + 1) (impl_ribbon_up ((i, N) :: L) n) a w := one_ (impl_ribbon_up L n) hi hN hc hd h
theorem impl_ribbon_uL {i n : Nat} {N : Option Tmp} {L : List (Nat × Option Tmp)} {oi : Oper} {fuel : Nat} {a : Act} {w : World} (hi : ops[i]? = some oi) (hN : oi.dst = N) (hc : readyB md ops (impl_ribbon_up ((i, N) :: L) n) (impl_ribbon_up L n) i = true) (hd : i ∈ ds)
  (h : ∀ K : Act → World → Prop, Shut (∀ a' w', wpAnyLast P md ops Q S ds fuel (impl_ribbon_up L n) a' w' → K a' w') → if Region.wanted oi (yielded ops a.tmps) = true then Oper.wp P oi a w K Q else K (a.put N undef) w) :
  wpAnyLast P md ops Q S ds (fuel + 1) (impl_ribbon_up ((i, N) :: L) n) a w := last_ (impl_ribbon_up L n) hi hN hc hd h
end
mutual
def impl_ribbon.l0 : Nat → List Int → Int → List Int → List Int → Int → Int → List Int → List Int → List Bool → Option (List Int)
 | 0, _, _, _, _, _, _, _, _, _ => none
 | k + 1, x1, x5, x7, x30, x31, x32, xZ0, xZ1, xZ2 => if x32 < x31 then (if 0 ≤ x32 then (if x32 < (x30.length : Int) then ((impl_edgesOf.f k xZ0 xZ1).bind fun t200 => (if 0 ≤ (rd x30 x32) then (if (rd x30 x32) < (t200.length : Int) then (if 0 ≤ (rd t200 (rd x30 x32)) then (if (rd t200 (rd x30 x32)) < (xZ1.length : Int) then (if (rd t200 (rd x30 x32)) < (xZ2.length : Int) then (if 0 ≤ (rd xZ1 (rd t200 (rd x30 x32))) then (if (rd xZ1 (rd t200 (rd x30 x32))) < (xZ2.length : Int) then (if (rd t200 (rd x30 x32)) < (x7.length : Int) then (if (rd xZ1 (rd t200 (rd x30 x32))) < (x7.length : Int) then (impl_ribbon.l0 k x1 x5 ((x7.set ((rd t200 (rd x30 x32)) : Int).toNat (rd xZ1 (rd t200 (rd x30 x32)))).set ((rd xZ1 (rd t200 (rd x30 x32))) : Int).toNat (rd t200 (rd x30 x32))) x30 x31 (wrap64 (x32 + 1)) xZ0 xZ1 ((xZ2.set ((rd t200 (rd x30 x32)) : Int).toNat true).set ((rd xZ1 (rd t200 (rd x30 x32))) : Int).toNat true)) else (none)) else (none)) else (none)) else (none)) else (none)) else (none)) else (none)) else (none)) else (none))) else (none)) else (none)) else ((impl_orbits.f k (([xZ0, x7] : List (List Int)))).bind fun t212 => (impl_ribbon.l1 k x1 x5 x7 0 t212 (t212.length : Int) 0 xZ0 xZ1 xZ2))
def impl_ribbon.l1 : Nat → List Int → Int → List Int → Int → List Int → Int → Int → List Int → List Int → List Bool → Option (List Int)
 | 0, _, _, _, _, _, _, _, _, _, _ => none
 | k + 1, x1, x5, x7, x12, x65, x66, x67, xZ0, xZ1, xZ2 => if x67 < x66 then (if 0 ≤ x67 then (if x67 < (x65.length : Int) then (if x67 = (rd x65 x67) then (impl_ribbon.l1 k x1 x5 x7 (wrap64 (x12 + 1)) x65 x66 (wrap64 (x67 + 1)) xZ0 xZ1 xZ2) else (impl_ribbon.l1 k x1 x5 x7 x12 x65 x66 (wrap64 (x67 + 1)) xZ0 xZ1 xZ2)) else (none)) else (none)) else ((impl_cyclesOf.f k xZ0).bind fun t216 => (impl_ribbon.l2 k x1 x5 x7 x12 0 t216 (t216.length : Int) 0 xZ0 xZ1 xZ2))
def impl_ribbon.l2 : Nat → List Int → Int → List Int → Int → Int → List (List Int) → Int → Int → List Int → List Int → List Bool → Option (List Int)
 | 0, _, _, _, _, _, _, _, _, _, _, _ => none
 | k + 1, x1, x5, x7, x12, x15, x80, x81, x82, xZ0, xZ1, xZ2 => if x82 < x81 then (if 0 ≤ x82 then (if x82 < (x80.length : Int) then ((containsF.f k (rd_L1 x80 x82) xZ2).bind fun t220 => (if t220 = true then (impl_ribbon.l2 k x1 x5 x7 x12 x15 x80 x81 (wrap64 (x82 + 1)) xZ0 xZ1 xZ2) else (impl_ribbon.l2 k x1 x5 x7 x12 (wrap64 (x15 + 1)) x80 x81 (wrap64 (x82 + 1)) xZ0 xZ1 xZ2))) else (none)) else (none)) else (if 0 ≤ x5 then (if (x5 : Int).toNat ≤ 281474976710656 then (impl_ribbon.l3 k x1 x7 x12 x15 (List.replicate (x5 : Int).toNat false) x5 0 xZ0 xZ1 xZ2) else (none)) else (none))
def impl_ribbon.l3 : Nat → List Int → List Int → Int → Int → List Bool → Int → Int → List Int → List Int → List Bool → Option (List Int)
 | 0, _, _, _, _, _, _, _, _, _, _ => none
 | k + 1, x1, x7, x12, x15, x18, x95, x96, xZ0, xZ1, xZ2 => if x96 < x95 then (if 0 ≤ x96 then (if x96 < (xZ2.length : Int) then (if rdOf false xZ2 x96 = true then (if x96 < (x18.length : Int) then (impl_ribbon.j4 k x1 x7 x12 x15 x18 x96 x95 x96 (rdOf false x18 x96) xZ0 xZ1 xZ2) else (none)) else (impl_ribbon.j4 k x1 x7 x12 x15 x18 x96 x95 x96 true xZ0 xZ1 xZ2)) else (none)) else (none)) else ((impl_cyclesOf.f k xZ0).bind fun t224 => (some (([x12, x15, wrap64 ((t224.length : Int) - x12), wrap64 ((x1.length : Int) - (wrap64 ((t224.length : Int) - x12))), wrap64 (Int.tdiv (wrap64 ((wrap64 ((wrap64 ((wrap64 (2 * x12)) - (t224.length : Int))) + (x1.length : Int))) - x15)) 2)] : List Int))))
def impl_ribbon.j4 : Nat → List Int → List Int → Int → Int → List Bool → Int → Int → Int → Bool → List Int → List Int → List Bool → Option (List Int)
 | 0, _, _, _, _, _, _, _, _, _, _, _, _ => none
 | k + 1, x1, x7, x12, x15, x18, x19, x95, x96, x109, xZ0, xZ1, xZ2 => if x109 = true then (impl_ribbon.l3 k x1 x7 x12 x15 x18 x95 (wrap64 (x96 + 1)) xZ0 xZ1 xZ2) else (impl_ribbon.l4 k x1 x7 x12 (wrap64 (x15 + 1)) x18 x19 x95 x96 xZ0 xZ1 xZ2)
def impl_ribbon.l4 : Nat → List Int → List Int → Int → Int → List Bool → Int → Int → Int → List Int → List Int → List Bool → Option (List Int)
 | 0, _, _, _, _, _, _, _, _, _, _, _ => none
 | k + 1, x1, x7, x12, x15, x18, x20, x95, x96, xZ0, xZ1, xZ2 => if 0 ≤ x20 then (if x20 < (x18.length : Int) then (if rdOf false x18 x20 = true then (impl_ribbon.l3 k x1 x7 x12 x15 x18 x95 (wrap64 (x96 + 1)) xZ0 xZ1 xZ2) else (if x20 < (x7.length : Int) then (if 0 ≤ (rd x7 x20) then (if (rd x7 x20) < (xZ0.length : Int) then (impl_ribbon.l5 k x1 x7 x12 x15 (x18.set (x20 : Int).toNat true) (rd xZ0 (rd x7 x20)) x95 x96 xZ0 xZ1 xZ2) else (none)) else (none)) else (none))) else (none)) else (none)
def impl_ribbon.l5 : Nat → List Int → List Int → Int → Int → List Bool → Int → Int → Int → List Int → List Int → List Bool → Option (List Int)
 | 0, _, _, _, _, _, _, _, _, _, _, _ => none
 | k + 1, x1, x7, x12, x15, x18, x20, x95, x96, xZ0, xZ1, xZ2 => if 0 ≤ x20 then (if x20 < (xZ2.length : Int) then (if rdOf false xZ2 x20 = true then (impl_ribbon.l4 k x1 x7 x12 x15 x18 x20 x95 x96 xZ0 xZ1 xZ2) else (if x20 < (xZ0.length : Int) then (impl_ribbon.l5 k x1 x7 x12 x15 x18 (rd xZ0 x20) x95 x96 xZ0 xZ1 xZ2) else (none))) else (none)) else (none)
end
def impl_ribbon.f (k : Nat) (l0_0 : List Int) (l0_1 : List Int) (l1 : List Int) : Option (List Int) := if 0 ≤ (l0_0.length : Int) then (if ((l0_0.length : Int) : Int).toNat ≤ 281474976710656 then ((impl_still.f k (l0_0.length : Int)).bind fun t196 => (impl_ribbon.l0 k l1 (l0_0.length : Int) t196 l1 (l1.length : Int) 0 l0_0 l0_1 (List.replicate ((l0_0.length : Int) : Int).toNat false))) else (none)) else (none)
def impl_ribbon.T9 : Bool × List (List Nat × List Nat) := (true, [([], []), ([], []), ([], []), ([], []), ([0, 1, 0, 1], [0, 1]), ([4, 0, 1], [4]), ([2, 3, 0, 1, 2, 3, 4, 5], [2, 3]), ([6, 5, 0, 1, 2, 3, 4, 5], [6])])
def impl_ribbon.B9 : List Nat := [0, 0, 0, 0, 3, 19, 63, 127]
theorem impl_ribbon.tab9 : rtab .any (opsOf Try.f65 9) = impl_ribbon.T9 := by kernel_rfl
theorem impl_ribbon.bits9 : waitsOk impl_ribbon.T9.2 impl_ribbon.B9 = true := by kernel_rfl
def impl_ribbon.T35 : Bool × List (List Nat × List Nat) := (true, [([], []), ([0], [0]), ([], []), ([], []), ([2, 3], [2, 3]), ([4], [4]), ([1, 5], [1, 5]), ([6], [6]), ([7, 0, 1, 2, 3, 4, 5, 6, 7], [3, 7])])
def impl_ribbon.B35 : List Nat := [0, 1, 0, 0, 12, 28, 63, 127, 255]
theorem impl_ribbon.tab35 : rtab .any (opsOf Try.f65 35) = impl_ribbon.T35 := by kernel_rfl
theorem impl_ribbon.bits35 : waitsOk impl_ribbon.T35.2 impl_ribbon.B35 = true := by kernel_rfl
set_option maxHeartbeats 8000000 in
set_option maxRecDepth 100000 in
theorem impl_ribbon.calls (k : Nat) (P0_0_ : Nat → Prop) (A0_0 : Option Addr) (c0_0 : Nat) (l0_0 : List Int) (A0_1 : Option Addr) (c0_1 : Nat) (l0_1 : List Int) (A1 : Option Addr) (c1 : Nat) (l1 : List Int) (r : List Int) (w : World) (hs0_0 : Kd.V (Kd.int .i64) 3 w w.heap.size (fun k_ => P0_0_ k_) (.slice A0_0 l0_0.length c0_0) l0_0) (hr0_1 : Kd.C (Kd.int .i64) w A0_1 l0_1.length l0_1) (hc0_1 : l0_1.length ≤ c0_1) (hr1 : Kd.C (Kd.int .i64) w A1 l1.length l1) (hc1 : l1.length ≤ c1) (h : impl_ribbon.f k l0_0 l0_1 l1 = some r) :
  Calls Try.prog 65 #[.agg #[.slice A0_0 l0_0.length c0_0, .slice A0_1 l0_1.length c0_1], .slice A1 l1.length c1] w fun e w' => ∃ v0_ : Value, e = .returned (v0_) ∧ Kd.R (Kd.int .i64) 3 w' w.heap.size (fun k_ => (w.heap.size ≤ k_)) v0_ r ∧ Below w.heap.size w w' := by
 have hu25 := Try.underlying25; have HO0_0 := Az (show Kd.V (Kd.int .i64) 3 w w.heap.size (fun k_ => (P0_0_ k_ ∨ w.heap.size ≤ k_)) (.slice A0_0 l0_0.length c0_0) l0_0 from Kd.V_mono hs0_0 (fun k_ hk => .inl hk)); have HR0_1 := Az hr0_1; have HC0_1 := Az hc0_1; clear hr0_1 hc0_1; have HR1 := Az hr1; have HC1 := Az hc1; clear hr1 hc1; have HB := Az (Below.refl w.heap.size w); have H : (if 0 ≤ (l0_0.length : Int) then (if ((l0_0.length : Int) : Int).toNat ≤ 281474976710656 then ((impl_still.f k (l0_0.length : Int)).bind fun t196 => (impl_ribbon.l0 k l1 (l0_0.length : Int) t196 l1 (l1.length : Int) 0 l0_0 l0_1 (List.replicate ((l0_0.length : Int) : Int).toNat false))) else (none)) else (none)) = some r := h; clear h
 by_cases c3 : 0 ≤ (l0_0.length : Int)
 ·
  rw [if_pos c3] at H; have c3b0 := eq_true c3; have c3b1 := decide_eq_true c3; clear c3
  by_cases c4 : ((l0_0.length : Int) : Int).toNat ≤ 281474976710656
  ·
   rw [if_pos c4] at H; have c4b0 := eq_true c4; have c4b1 := decide_eq_true c4; clear c4; obtain ⟨y192, hy192⟩ : ∃ y_ : List Bool, y_ = (List.replicate ((l0_0.length : Int) : Int).toNat false) := ⟨_, rfl⟩; replace H : ((impl_still.f k (l0_0.length : Int)).bind fun t196 => (impl_ribbon.l0 k l1 (l0_0.length : Int) t196 l1 (l1.length : Int) 0 l0_0 l0_1 y192)) = some r := hR hy192 H; have Ny192 := Az hy192; clear hy192; replace H := Option.bind_eq_some_iff.mp H; obtain ⟨t196, A50, H⟩ := H; replace H : (impl_ribbon.l0 k l1 (l0_0.length : Int) t196 l1 (l1.length : Int) 0 l0_0 l0_1 y192) = some r := H; have A5 := Az A50; clear A50; have H' := Az H; clear H
   go_enter Try.func65, Try.ntmps65
   go_wp2_with (first | ((with_reducible refine gate_dst (N := 2) rfl ?_); refine box_event ?hg (N := 2) ?hd (cs := #[.slice A0_0 l0_0.length c0_0, .slice A0_1 l0_1.length c0_1]) (t := 25) ?hr ?_; (case hd => rfl); (case hg => rfl); (case hr => first | (go_simp; done) | (go_simp; rfl)); intro gb191 hg w6 hbox hb; have n0 := Az (Kd.V_below (Kd.V_elderB (vU HO0_0.out) gb191 (Nat.le_of_eq hg.symm)) hb); have n1 := Az (below_step (bU0 HB.out) hb); have n2 := Az (hbox); have n3 := Az ((by rw [hg]; exact (below_size (bU0 HB.out)) : w.heap.size ≤ gb191)); have n4 := n3; clear HO0_0 HB; have HO0_0 := n0; have HB := n1; have BK191 := n2; have GW191 := n3; have GE191 := n4; clear n0 n1 n2 n3 n4 hb hbox hg; have hcz7_0 : w6.cell? ⟨gb191, 0, none⟩ = some (.slice A0_0 l0_0.length c0_0) := (blk_cell BK191.out 0).trans rfl; have hcz7_1 : w6.cell? ⟨gb191, 1, none⟩ = some (.slice A0_1 l0_1.length c0_1) := (blk_cell BK191.out 1).trans rfl; have hfz7_0 := blk_frozen BK191.out 0; have hfz7_1 := blk_frozen BK191.out 1) | ((with_reducible refine gate_dst (N := 27) rfl ?_); refine Kd.R_make Kd.bool _ 4 rfl (N := 27) rfl 78 _ _ rfl (l0_0.length : Int) rfl rfl Try.underlying78 (.bool false) 1 info4 rfl (by decide) (by omega) false (ok := fun _ => True) (okp := fun _ => True) rfl (fun _ hk => hk) trivial (oA) (Nat.le_trans (Nat.mul_le_mul_right _ (oA : (l0_0.length : Int).toNat ≤ 281474976710656)) (by omega)) (Below.refl _ _) (Nat.le_refl _) ?_; intro v193 w8 ho9 hb hg_ hnew_; clear hg_ hnew_; (first | rw [← Ny192.out] at ho9 | (simp only [Int.reduceToNat] at ho9; rw [← Ny192.out] at ho9)); have n0 := Az (Kd.V_elder' (vU HO0_0.out) (Kd.R_base ho9) hb); have n1 := Az (Kd.R_lower (Kd.R_newM (M := fun k_ => (w.heap.size ≤ k_)) ho9 (below_size (bU1 HB.out GE191.out)) (fun k_ h_ => h_)) (below_size (bU1 HB.out GE191.out))); have n2 := Az (blk_below (g := gb191) (o := .cells #[.slice A0_0 l0_0.length c0_0, .slice A0_1 l0_1.length c0_1] 25 (0, 0)) (kU BK191.out) hb); have n3 := Az (below_step (bU1 HB.out GE191.out) hb); clear HO0_0 BK191 HB; have HO0_0 := n0; have HO194 := n1; have BK191 := n2; have HB := n3; clear n0 n1 n2 n3; clear hb ho9) | ((with_reducible refine gate_dst (N := 6) rfl ?_); refine box_event ?hg (N := 6) ?hd (cs := #[.slice none 0 0]) (t := 78) ?hr ?_; (case hd => rfl); (case hg => rfl); (case hr => first | (go_simp; done) | (go_simp; rfl)); intro gb195 hg w10 hbox hb; have n0 := Az (Kd.V_below (Kd.V_elderB (vU HO0_0.out) gb195 (Nat.le_of_eq hg.symm)) hb); have n1 := Az (Kd.R_below (rU HO194.out) hb); have n2 := Az (blk_below (g := gb191) (o := .cells #[.slice A0_0 l0_0.length c0_0, .slice A0_1 l0_1.length c0_1] 25 (0, 0)) (kU BK191.out) hb); have n3 := Az (below_step (bU1 HB.out GE191.out) hb); have n4 := Az (hbox); have n5 := Az ((by rw [hg]; exact (below_size (bU1 HB.out GE191.out)) : w.heap.size ≤ gb195)); have n6 := n5; have n7 := Az ((by rw [hg]; exact Nat.ne_of_lt (blk_lt (g := gb191) (o := .cells #[.slice A0_0 l0_0.length c0_0, .slice A0_1 l0_1.length c0_1] 25 (0, 0)) (kU BK191.out)) : gb191 ≠ gb195)); have n8 := Az ((by rw [hg]; exact Nat.ne_of_gt (blk_lt (g := gb191) (o := .cells #[.slice A0_0 l0_0.length c0_0, .slice A0_1 l0_1.length c0_1] 25 (0, 0)) (kU BK191.out)) : gb195 ≠ gb191)); clear HO0_0 HO194 BK191 HB; have HO0_0 := n0; have HO194 := n1; have BK191 := n2; have HB := n3; have BK195 := n4; have GW195 := n5; have GE195 := n6; have NB191_195 := n7; have NB195_191 := n8; clear n0 n1 n2 n3 n4 n5 n6 n7 n8 hb hbox hg; obtain ⟨Ao11, co11, eo11⟩ := Kd.R_slice HO194.out; subst eo11; have hnb12 := NB195_191.out; have hnc12 := NB191_195.out; have hcz13_0 : w10.cell? ⟨gb195, 0, none⟩ = some (.slice none 0 0) := (blk_cell BK195.out 0).trans rfl; have hfz13_0 := blk_frozen BK195.out 0) | ((with_reducible refine gate_callee (f := 101) rfl ?_); refine goesL_ (some 29) rfl rfl Try.func101 (by kernel_rfl) rfl #[.int .i64 (l0_0.length : Int)] rfl (by (try simp only [List.map_toArray, List.map_cons, List.map_nil]); first | done | rfl | (simp only [List.length_drop, List.length_take]; rfl)) ?_; (with_reducible refine (impl_still.calls k (l0_0.length : Int) t196 _ A5.out).mono ?_); rintro e w14 ⟨v197, rfl, ho0, hb⟩; refine ⟨_, rfl, ?_⟩; have n0 := Az (Kd.V_elder' (by (with_reducible repeat (first | apply Kd.V_alloc | apply Kd.V_drewN | apply Kd.V_drew)); exact (Kd.V_mono (Kd.V_far (p := ⟨gb195, 0, none⟩) (Kd.V_mono HO0_0.out (fun k_ hk => (⟨hk, hk.2⟩ : _ ∧ k_ ≠ gb195))) (fun _ hk => hk.2) (.slice Ao11 y192.length co11)) (fun _ h_ => h_.1))) (Kd.R_base ho0) hb); have n1 := Az (Kd.R_below (by (with_reducible repeat (first | apply Kd.R_alloc | apply Kd.R_drewN | apply Kd.R_drew)); exact (Kd.R_mono (Kd.R_far (p := ⟨gb195, 0, none⟩) (Kd.R_types HO194.out BK195.out (by decide)) (fun _ hk => hk.2) (.slice Ao11 y192.length co11)) (fun _ h_ => h_.1))) hb); have n2 := Az (Kd.R_lower (Kd.R_newM (M := fun k_ => (w.heap.size ≤ k_)) ho0 (below_size (bU2 HB.out GE191.out GE195.out)) (fun k_ h_ => h_)) (below_size (bU2 HB.out GE191.out GE195.out))); have n3 := Az (blk_below (g := gb191) (o := .cells #[.slice A0_0 l0_0.length c0_0, .slice A0_1 l0_1.length c0_1] 25 (0, 0)) (by (with_reducible repeat (first | refine blk_drewN ?_ _ | refine blk_drew ?_ | refine blk_alloc ?_ _)); refine blk_far ?_ NB191_195.out _; (with_reducible repeat (first | refine blk_drewN ?_ _ | refine blk_drew ?_ | refine blk_alloc ?_ _)); exact BK191.out) hb); have n4 := Az (blk_below (g := gb195) (o := .cells #[.slice Ao11 y192.length co11] 78 (0, 0)) (by (with_reducible repeat (first | refine blk_drewN ?_ _ | refine blk_drew ?_ | refine blk_alloc ?_ _)); refine blk_put (cs := #[.slice none 0 0]) ?_ 0 _ rfl; (with_reducible repeat (first | refine blk_drewN ?_ _ | refine blk_drew ?_ | refine blk_alloc ?_ _)); exact BK195.out) hb); have n5 := Az (below_step (bU2 HB.out GE191.out GE195.out) hb); clear HO0_0 HO194 BK191 BK195 HB; have HO0_0 := n0; have HO194 := n1; have HO198 := n2; have BK191 := n3; have BK195 := n4; have HB := n5; clear n0 n1 n2 n3 n4 n5; (try clear hb); (try clear hb2); (try clear hk); (try clear hi); (try clear ho0)))
   go_loopg [32] k (fun kq v32 w' => ∃ (x7_1 : List Int) (x32_1 : Int) (xZ2_1 : List Bool) (uZ2 : Value), v32 = .int .i64 x32_1 ∧ Aside0 (impl_ribbon.l0 kq l1 (l0_0.length : Int) x7_1 l1 (l1.length : Int) x32_1 l0_0 l0_1 xZ2_1 = some r) ∧ Aside0 (kq ≤ k) ∧ Aside0 (Kd.R (Kd.int .i64) 3 w' w.heap.size (fun k_ => (w.heap.size ≤ k_)) v197 x7_1) ∧ Aside0 (Kd.V (Kd.int .i64) 3 w' w.heap.size (fun k_ => (P0_0_ k_ ∨ w.heap.size ≤ k_) ∧ some k_ ≠ (v197 : Value).ownBlock ∧ some k_ ≠ (uZ2 : Value).ownBlock ∧ k_ ≠ gb191 ∧ k_ ≠ gb195) (.slice A0_0 l0_0.length c0_0) l0_0) ∧ Aside0 (Kd.R Kd.bool 4 w' w.heap.size (fun k_ => (w.heap.size ≤ k_)) uZ2 xZ2_1) ∧ Aside0 (w'.heap[gb191]? = some (.cells #[(.slice A0_0 l0_0.length c0_0), (.slice A0_1 l0_1.length c0_1)] 25 (0, 0))) ∧ Aside0 (w'.heap[gb195]? = some (.cells #[uZ2] 78 (0, 0))) ∧ Aside0 (Below w.heap.size w w'))
   case atStart => exact ⟨(t196), (0), (y192), (.slice Ao11 y192.length co11), rS, H', ⟨Nat.le_refl _⟩, ⟨by (with_reducible repeat (first | apply Kd.R_alloc | apply Kd.R_drewN | apply Kd.R_drew)); exact Kd.R_mono HO198.out (fun _ hk => hk.1)⟩, ⟨by (with_reducible repeat (first | apply Kd.V_alloc | apply Kd.V_drewN | apply Kd.V_drew)); exact Kd.V_mono HO0_0.out (fun _ hk => ⟨hk.1.1.1.1, ⟨hk.2, ⟨hk.1.1.2, ⟨hk.1.1.1.2, hk.1.2⟩⟩⟩⟩)⟩, ⟨by (with_reducible repeat (first | apply Kd.R_alloc | apply Kd.R_drewN | apply Kd.R_drew)); exact Kd.R_mono HO194.out (fun _ hk => hk.1)⟩, ⟨kU BK191.out⟩, ⟨kU BK195.out⟩, ⟨bU2 HB.out GE191.out GE195.out⟩⟩
   case round =>
    clear H'; (try clear c1); (try clear p2); (try clear c3); (try clear c3b0); (try clear c3b1); (try clear c4); (try clear c4b0); (try clear c4b1); (try clear c6); (try clear c10); (try clear c12); (try clear hcz13_0); (try clear hcz7_0); (try clear hcz7_1); (try clear hfz13_0); (try clear hfz7_0); (try clear hfz7_1); obtain ⟨x7_1, x32_1, xZ2_1, uZ2, rfl, HA, HK1, HO_7, HO_Z0, HO_Z2, BK191, BK195, HB⟩ := hrel
    cases gk with
    | zero => exact absurd HA.out (by simp [impl_ribbon.l0])
    | succ k1 =>
     have H := HA.out; clear HA; simp only [impl_ribbon.l0] at H
     by_cases c15 : x32_1 < (l1.length : Int)
     ·
      rw [if_pos c15] at H; have c15b0 := decide_eq_true c15; clear c15
      by_cases c16 : 0 ≤ x32_1
      ·
       rw [if_pos c16] at H; have c16b0 := decide_eq_true c16; clear c16
       by_cases c17 : x32_1 < (l1.length : Int)
       ·
        rw [if_pos c17] at H; have c17b0 := decide_eq_true c17; clear c17; replace H := Option.bind_eq_some_iff.mp H; obtain ⟨t200, A180, H⟩ := H; replace H : (if 0 ≤ (rd l1 x32_1) then (if (rd l1 x32_1) < (t200.length : Int) then (if 0 ≤ (rd t200 (rd l1 x32_1)) then (if (rd t200 (rd l1 x32_1)) < (l0_1.length : Int) then (if (rd t200 (rd l1 x32_1)) < (xZ2_1.length : Int) then (if 0 ≤ (rd l0_1 (rd t200 (rd l1 x32_1))) then (if (rd l0_1 (rd t200 (rd l1 x32_1))) < (xZ2_1.length : Int) then (if (rd t200 (rd l1 x32_1)) < (x7_1.length : Int) then (if (rd l0_1 (rd t200 (rd l1 x32_1))) < (x7_1.length : Int) then (impl_ribbon.l0 k1 l1 (l0_0.length : Int) ((x7_1.set ((rd t200 (rd l1 x32_1)) : Int).toNat (rd l0_1 (rd t200 (rd l1 x32_1)))).set ((rd l0_1 (rd t200 (rd l1 x32_1))) : Int).toNat (rd t200 (rd l1 x32_1))) l1 (l1.length : Int) (wrap64 (x32_1 + 1)) l0_0 l0_1 ((xZ2_1.set ((rd t200 (rd l1 x32_1)) : Int).toNat true).set ((rd l0_1 (rd t200 (rd l1 x32_1))) : Int).toNat true)) else (none)) else (none)) else (none)) else (none)) else (none)) else (none)) else (none)) else (none)) else (none)) = some r := H; have A18 := Az A180; clear A180
        by_cases c19 : 0 ≤ (rd l1 x32_1)
        ·
         rw [if_pos c19] at H; have c19b0 := decide_eq_true c19; clear c19
         by_cases c20 : (rd l1 x32_1) < (t200.length : Int)
         ·
          rw [if_pos c20] at H; have c20b0 := decide_eq_true c20; clear c20
          by_cases c21 : 0 ≤ (rd t200 (rd l1 x32_1))
          ·
           rw [if_pos c21] at H; have c21b0 := decide_eq_true c21; clear c21
           by_cases c22 : (rd t200 (rd l1 x32_1)) < (l0_1.length : Int)
           ·
            rw [if_pos c22] at H; have c22b0 := decide_eq_true c22; clear c22
            by_cases c23 : (rd t200 (rd l1 x32_1)) < (xZ2_1.length : Int)
            ·
             rw [if_pos c23] at H; have c23b0 := decide_eq_true c23; clear c23; obtain ⟨y205, hy205⟩ : ∃ y_ : List Bool, y_ = (xZ2_1.set ((rd t200 (rd l1 x32_1)) : Int).toNat true) := ⟨_, rfl⟩; replace H : (if 0 ≤ (rd l0_1 (rd t200 (rd l1 x32_1))) then (if (rd l0_1 (rd t200 (rd l1 x32_1))) < (xZ2_1.length : Int) then (if (rd t200 (rd l1 x32_1)) < (x7_1.length : Int) then (if (rd l0_1 (rd t200 (rd l1 x32_1))) < (x7_1.length : Int) then (impl_ribbon.l0 k1 l1 (l0_0.length : Int) ((x7_1.set ((rd t200 (rd l1 x32_1)) : Int).toNat (rd l0_1 (rd t200 (rd l1 x32_1)))).set ((rd l0_1 (rd t200 (rd l1 x32_1))) : Int).toNat (rd t200 (rd l1 x32_1))) l1 (l1.length : Int) (wrap64 (x32_1 + 1)) l0_0 l0_1 (y205.set ((rd l0_1 (rd t200 (rd l1 x32_1))) : Int).toNat true)) else (none)) else (none)) else (none)) else (none)) = some r := hR hy205 H; have Ny205 := Az hy205; clear hy205
             by_cases c25 : 0 ≤ (rd l0_1 (rd t200 (rd l1 x32_1)))
             ·
              rw [if_pos c25] at H; have c25b0 := decide_eq_true c25; clear c25
              by_cases c26 : (rd l0_1 (rd t200 (rd l1 x32_1))) < (xZ2_1.length : Int)
              ·
               rw [if_pos c26] at H; have c26b0 := decide_eq_true c26; clear c26; obtain ⟨y206, hy206⟩ : ∃ y_ : List Bool, y_ = (y205.set ((rd l0_1 (rd t200 (rd l1 x32_1))) : Int).toNat true) := ⟨_, rfl⟩; replace H : (if (rd t200 (rd l1 x32_1)) < (x7_1.length : Int) then (if (rd l0_1 (rd t200 (rd l1 x32_1))) < (x7_1.length : Int) then (impl_ribbon.l0 k1 l1 (l0_0.length : Int) ((x7_1.set ((rd t200 (rd l1 x32_1)) : Int).toNat (rd l0_1 (rd t200 (rd l1 x32_1)))).set ((rd l0_1 (rd t200 (rd l1 x32_1))) : Int).toNat (rd t200 (rd l1 x32_1))) l1 (l1.length : Int) (wrap64 (x32_1 + 1)) l0_0 l0_1 y206) else (none)) else (none)) = some r := hR hy206 H; have Ny206 := Az hy206; clear hy206
               by_cases c28 : (rd t200 (rd l1 x32_1)) < (x7_1.length : Int)
               ·
                rw [if_pos c28] at H; have c28b0 := decide_eq_true c28; clear c28; obtain ⟨y207, hy207⟩ : ∃ y_ : List Int, y_ = (x7_1.set ((rd t200 (rd l1 x32_1)) : Int).toNat (rd l0_1 (rd t200 (rd l1 x32_1)))) := ⟨_, rfl⟩; replace H : (if (rd l0_1 (rd t200 (rd l1 x32_1))) < (x7_1.length : Int) then (impl_ribbon.l0 k1 l1 (l0_0.length : Int) (y207.set ((rd l0_1 (rd t200 (rd l1 x32_1))) : Int).toNat (rd t200 (rd l1 x32_1))) l1 (l1.length : Int) (wrap64 (x32_1 + 1)) l0_0 l0_1 y206) else (none)) = some r := hR hy207 H; have Ny207 := Az hy207; clear hy207
                by_cases c30 : (rd l0_1 (rd t200 (rd l1 x32_1))) < (x7_1.length : Int)
                ·
                 rw [if_pos c30] at H; have c30b0 := decide_eq_true c30; clear c30; obtain ⟨y208, hy208⟩ : ∃ y_ : List Int, y_ = (y207.set ((rd l0_1 (rd t200 (rd l1 x32_1))) : Int).toNat (rd t200 (rd l1 x32_1))) := ⟨_, rfl⟩; replace H : (impl_ribbon.l0 k1 l1 (l0_0.length : Int) y208 l1 (l1.length : Int) (wrap64 (x32_1 + 1)) l0_0 l0_1 y206) = some r := hR hy208 H; have Ny208 := Az hy208; clear hy208; have H' := Az H; clear H; have p199 : 0 ≤ (x32_1 : Int) := oA; have q199 : x32_1 < (l1.length : Int) := oA; obtain ⟨ad199, e199, hx199_0⟩ := Kd.at_int HR1.out x32_1 p199 q199
                 cases e199
                 (try replace hx199_0 := (HB.out.cell (World.block_lt_of_cell? w _ hx199_0)).trans hx199_0); replace p199 := eq_true p199; replace q199 := eq_true q199; have hnb32 := NB191_195.out; have hnc32 := NB195_191.out; have hcz33_0 : wr.cell? ⟨gb191, 0, none⟩ = some (.slice A0_0 l0_0.length c0_0) := (blk_cell BK191.out 0).trans rfl; have hcz33_1 : wr.cell? ⟨gb191, 1, none⟩ = some (.slice A0_1 l0_1.length c0_1) := (blk_cell BK191.out 1).trans rfl; have hfz33_0 := blk_frozen BK191.out 0; have hfz33_1 := blk_frozen BK191.out 1
                 try go_wp2_with (first | ((with_reducible refine gate_callee (f := 83) rfl ?_); refine goesL_ (some 37) rfl rfl Try.func83 (by kernel_rfl) rfl #[.agg #[.slice A0_0 l0_0.length c0_0, .slice A0_1 l0_1.length c0_1]] rfl (by (try simp only [List.map_toArray, List.map_cons, List.map_nil]); first | done | rfl | (simp only [List.length_drop, List.length_take]; rfl)) ?_; (with_reducible refine (impl_edgesOf.calls k1 _ _ l0_0 _ _ l0_1 t200 _ ?side1 ?side2 ?side3 ?side4 A18.out).mono ?_); (case side1 => exact cU ((Kd.V_reads' HO_Z0.out).2.2)); (case side2 => exact (Kd.V_reads' HO_Z0.out).2.1); (case side3 => exact cU (Kd.C_below HR0_1.out HB.out)); (case side4 => exact HC0_1.out); rintro e w34 ⟨v201, rfl, ho0, hb⟩; refine ⟨_, rfl, ?_⟩; have n0 := Az (Kd.R_elder' (rU HO_7.out) (Kd.R_base ho0) hb); have n1 := Az (Kd.V_elder' (vU HO_Z0.out) (Kd.R_base ho0) hb); have n2 := Az (Kd.R_below (rU HO_Z2.out) hb); have n3 := Az (Kd.R_lower (Kd.R_new' (Kd.R_newM (M := fun k_ => (w.heap.size ≤ k_)) ho0 (below_size (bU2 HB.out GE191.out GE195.out)) (fun k_ h_ => h_)) (Kd.R_lt (rU HO_7.out))) (below_size (bU2 HB.out GE191.out GE195.out))); have n4 := Az (blk_below (g := gb191) (o := .cells #[.slice A0_0 l0_0.length c0_0, .slice A0_1 l0_1.length c0_1] 25 (0, 0)) (kU BK191.out) hb); have n5 := Az (blk_below (g := gb195) (o := .cells #[uZ2] 78 (0, 0)) (kU BK195.out) hb); have n6 := Az (below_step (bU2 HB.out GE191.out GE195.out) hb); clear HO_7 HO_Z0 HO_Z2 BK191 BK195 HB; have HO_7 := n0; have HO_Z0 := n1; have HO_Z2 := n2; have HO202 := n3; have BK191 := n4; have BK195 := n5; have HB := n6; clear n0 n1 n2 n3 n4 n5 n6; (try clear hb); (try clear hb2); (try clear hk); (try clear hi); (try clear ho0); obtain ⟨Ao35, co35, eo35⟩ := Kd.R_slice HO202.out; subst eo35; have p203 : 0 ≤ ((rd l1 x32_1) : Int) := oA; have q203 : (rd l1 x32_1) < (t200.length : Int) := oA; obtain ⟨ad203, e203, hx203_0⟩ := Kd.at_int (Kd.R_reads' HO202.out).2.2 (rd l1 x32_1) p203 q203; cases e203; replace p203 := eq_true p203; replace q203 := eq_true q203; have hcz36_0 : w34.cell? ⟨gb191, 0, none⟩ = some (.slice A0_0 l0_0.length c0_0) := (blk_cell BK191.out 0).trans rfl; have hcz36_1 : w34.cell? ⟨gb191, 1, none⟩ = some (.slice A0_1 l0_1.length c0_1) := (blk_cell BK191.out 1).trans rfl; have hfz36_0 := blk_frozen BK191.out 0; have hfz36_1 := blk_frozen BK191.out 1; have p204 : 0 ≤ ((rd t200 (rd l1 x32_1)) : Int) := oA; have q204 : (rd t200 (rd l1 x32_1)) < (l0_1.length : Int) := oA; obtain ⟨ad204, e204, hx204_0⟩ := Kd.at_int HR0_1.out (rd t200 (rd l1 x32_1)) p204 q204; cases e204; replace hx204_0 := (HB.out.cell (World.block_lt_of_cell? w _ hx204_0)).trans hx204_0; replace p204 := eq_true p204; replace q204 := eq_true q204))
                 have n0 := Az (Kd.R_drew HO_7.out); have n1 := Az (Kd.V_drew HO_Z0.out); have n2 := Az (Kd.R_drew HO_Z2.out); have n3 := Az (Kd.R_drew HO202.out); have n4 := Az (blk_drew BK191.out); have n5 := Az (blk_drew BK195.out); have n6 := Az (below_drew1 HB.out); clear HO_7 HO_Z0 HO_Z2 HO202 BK191 BK195 HB; have HO_7 := n0; have HO_Z0 := n1; have HO_Z2 := n2; have HO202 := n3; have BK191 := n4; have BK195 := n5; have HB := n6; clear n0 n1 n2 n3 n4 n5 n6; have p24 : 0 ≤ ((rd t200 (rd l1 x32_1)) : Int) := oA; have q24 : ((rd t200 (rd l1 x32_1)) : Int) < ((xZ2_1.length : Int) : Int) := oA; obtain ⟨go24, co24, eo24, gb24, gl24, cl24, HG24⟩ := Kd.R_form HO_Z2.out (by omega); (first | cases eo24 | (injection eo24 with ea_ en_ ec_; (first | subst ea_ | (injection ea_ with ea_; subst ea_)); subst ec_; clear en_)); have GB24 := Az gb24; have GG24 := Az HG24; clear gb24 gl24 HG24; obtain ⟨hx24_0, hf24_0⟩ := Kd.R_celln false HO_Z2.out ((rd t200 (rd l1 x32_1)) : Int) p24 q24; replace p24 := eq_true p24; replace q24 := eq_true q24; have HP38 := Kd.R_putn HO_Z2.out ((rd t200 (rd l1 x32_1)) : Int) true; rw [← Ny205.out] at HP38; have HQ38 := Az HP38; clear HP38; have p27 : 0 ≤ ((rd l0_1 (rd t200 (rd l1 x32_1))) : Int) := oA; have q27 : ((rd l0_1 (rd t200 (rd l1 x32_1))) : Int) < ((xZ2_1.length : Int) : Int) := oA; obtain ⟨hx27_0, hf27_0⟩ := Kd.R_celln false HQ38.out ((rd l0_1 (rd t200 (rd l1 x32_1))) : Int) p27 q27; replace p27 := eq_true p27; replace q27 := eq_true q27; have HP39 := Kd.R_putn HQ38.out ((rd l0_1 (rd t200 (rd l1 x32_1))) : Int) true; rw [← Ny206.out] at HP39; have HQ39 := Az HP39; clear HP39
                 refine start_ (n := 8) (S := fun w' => w'.cell? ⟨gb195, 0, none⟩ = some (.slice (some ⟨go24, 0, none⟩) xZ2_1.length co24)) (ds := [7]) (impl_ribbon_up [(1, some 47), (3, some 49), (0, some 46), (4, some 50), (2, some 48), (5, none), (6, some 51), (7, none)] 8) (by kernel_rfl) rfl rfl ((blk_cell BK195.out 0).trans rfl) (fun hHeld => ?_); refine with_tabW impl_ribbon.tab9 impl_ribbon.bits9 (fun HT_ HW_ => ?_)
                 generalize w34.drew = w37 at HO_7 HO_Z0 HO_Z2 HO202 BK191 BK195 HB GG24 HQ38 HQ39 hf24_0 hf27_0 hx24_0 hx27_0 hHeld ⊢
                 repeat (first | (refine impl_ribbon_uP rfl rfl (any_of HT_.out (by kernel_rfl)) (fun _ _ _ h => h) (by rfl) (v := ?_) (a' := ?_) ?_ ?_ ?_; rotate_left; (· intro w'; go_simp; with_reducible rfl); rotate_left; (· simp only [Act.put, List.setIfInBounds_toArray, List.set_cons_zero, List.set_cons_succ, i64_w, i32_w]; rfl)) | (refine impl_ribbon_uT rfl rfl (take_ofW HT_.out HW_.out (by kernel_rfl)) (fun _ _ _ h => h) (by rfl) (v := ?_) (a' := ?_) ?_ hHeld ?_ ?_; rotate_left; (· intro w' s0; go_simp; with_reducible rfl); rotate_left; (· simp only [Act.put, List.setIfInBounds_toArray, List.set_cons_zero, List.set_cons_succ, i64_w, i32_w]; rfl)))
                 refine impl_ribbon_uO rfl rfl (one_of HT_.out (by kernel_rfl)) (by decide) (fun K hK => ?_)
                 refine skip_ (w1 := ?_) (by rfl) rfl ?_ ?_
                 rotate_left
                 ·
                  go_simp
                  rfl
                 refine hK.out _ _ (((cell_far (p := ⟨go24, _, none⟩) (by have h_ := Kd.R_ne HO_Z2.out BK195.out (by decide); intro e_; exact h_ (by first | exact congrArg some e_ | (rw [e_]; rfl))) _).trans (hHeld))) (fun hHeld => ?_)
                 clear hK K
                 repeat (first | (refine impl_ribbon_uP rfl rfl (any_of HT_.out (by kernel_rfl)) (fun _ _ _ h => h) (by rfl) (v := ?_) (a' := ?_) ?_ ?_ ?_; rotate_left; (· intro w'; go_simp; with_reducible rfl); rotate_left; (· simp only [Act.put, List.setIfInBounds_toArray, List.set_cons_zero, List.set_cons_succ, i64_w, i32_w]; rfl)))
                 refine impl_ribbon_uL rfl rfl (one_of HT_.out (by kernel_rfl)) (by decide) (fun K hK => ?_)
                 refine skip_ (w1 := ?_) (by rfl) rfl ?_ ?_
                 rotate_left
                 ·
                  go_simp
                  rfl
                 refine hK.out _ _ ?_
                 clear hK K
                 refine done_ (done_of HT_.out (by kernel_rfl)) ?_
                 have n0 : Aside0 (Kd.R (Kd.int .i64) 3 ((w37.setCell ⟨go24, ((rd t200 (rd l1 x32_1)) : Int).toNat, none⟩ (.bool true)).setCell ⟨go24, ((rd l0_1 (rd t200 (rd l1 x32_1))) : Int).toNat, none⟩ (.bool true)) w.heap.size (fun k_ => (w.heap.size ≤ k_) ∧ some k_ ≠ (.slice (some ad203) t200.length co35 : Value).ownBlock) v197 x7_1) := ⟨by (with_reducible repeat (first | apply Kd.R_alloc | apply Kd.R_drewN | apply Kd.R_drew)); exact Kd.R_mono (Kd.R_far (p := ⟨go24, ((rd l0_1 (rd t200 (rd l1 x32_1))) : Int).toNat, none⟩) (Kd.R_far (p := ⟨go24, ((rd t200 (rd l1 x32_1)) : Int).toNat, none⟩) (Kd.R_types HO_7.out GG24.out (by decide)) (fun _ hk => hk.2) (.bool true)) (fun _ hk => hk.2) (.bool true)) (fun _ hk => ⟨hk.1.1, hk.1.2⟩)⟩; have n1 : Aside0 (Kd.V (Kd.int .i64) 3 ((w37.setCell ⟨go24, ((rd t200 (rd l1 x32_1)) : Int).toNat, none⟩ (.bool true)).setCell ⟨go24, ((rd l0_1 (rd t200 (rd l1 x32_1))) : Int).toNat, none⟩ (.bool true)) w.heap.size (fun k_ => (P0_0_ k_ ∨ w.heap.size ≤ k_) ∧ some k_ ≠ (v197 : Value).ownBlock ∧ some k_ ≠ (.slice (some ⟨go24, 0, none⟩) xZ2_1.length co24 : Value).ownBlock ∧ some k_ ≠ (.slice (some ad203) t200.length co35 : Value).ownBlock ∧ k_ ≠ gb191 ∧ k_ ≠ gb195) (.slice A0_0 l0_0.length c0_0) l0_0) := ⟨by (with_reducible repeat (first | apply Kd.V_alloc | apply Kd.V_drewN | apply Kd.V_drew)); exact Kd.V_mono (Kd.V_far (p := ⟨go24, ((rd l0_1 (rd t200 (rd l1 x32_1))) : Int).toNat, none⟩) (Kd.V_far (p := ⟨go24, ((rd t200 (rd l1 x32_1)) : Int).toNat, none⟩) (Kd.V_mono HO_Z0.out (fun k_ hk => (⟨hk, fun e_ => hk.1.2.2.1 (by rw [e_]; rfl)⟩ : _ ∧ k_ ≠ go24))) (fun _ hk => hk.2) (.bool true)) (fun _ hk => hk.2) (.bool true)) (fun _ hk => ⟨hk.1.1.1, ⟨hk.1.1.2.1, ⟨hk.1.1.2.2.1, ⟨hk.1.2, ⟨hk.1.1.2.2.2.1, hk.1.1.2.2.2.2⟩⟩⟩⟩⟩)⟩; have n2 : Aside0 (Kd.R Kd.bool 4 ((w37.setCell ⟨go24, ((rd t200 (rd l1 x32_1)) : Int).toNat, none⟩ (.bool true)).setCell ⟨go24, ((rd l0_1 (rd t200 (rd l1 x32_1))) : Int).toNat, none⟩ (.bool true)) w.heap.size (fun k_ => (w.heap.size ≤ k_)) (.slice (some ⟨go24, 0, none⟩) xZ2_1.length co24) y206) := ⟨rU HQ39.out⟩; have n3 : Aside0 (Kd.R (Kd.int .i64) 3 ((w37.setCell ⟨go24, ((rd t200 (rd l1 x32_1)) : Int).toNat, none⟩ (.bool true)).setCell ⟨go24, ((rd l0_1 (rd t200 (rd l1 x32_1))) : Int).toNat, none⟩ (.bool true)) w.heap.size (fun k_ => (w.heap.size ≤ k_) ∧ some k_ ≠ (v197 : Value).ownBlock) (.slice (some ad203) t200.length co35) t200) := ⟨by (with_reducible repeat (first | apply Kd.R_alloc | apply Kd.R_drewN | apply Kd.R_drew)); exact Kd.R_mono (Kd.R_far (p := ⟨go24, ((rd l0_1 (rd t200 (rd l1 x32_1))) : Int).toNat, none⟩) (Kd.R_far (p := ⟨go24, ((rd t200 (rd l1 x32_1)) : Int).toNat, none⟩) (Kd.R_types HO202.out GG24.out (by decide)) (fun _ hk => hk.2) (.bool true)) (fun _ hk => hk.2) (.bool true)) (fun _ hk => ⟨hk.1.1.1, hk.1.2⟩)⟩; have n4 : Aside0 (((w37.setCell ⟨go24, ((rd t200 (rd l1 x32_1)) : Int).toNat, none⟩ (.bool true)).setCell ⟨go24, ((rd l0_1 (rd t200 (rd l1 x32_1))) : Int).toNat, none⟩ (.bool true)).heap[gb191]? = some (.cells #[.slice A0_0 l0_0.length c0_0, .slice (some ad204) l0_1.length c0_1] 25 (0, 0))) := ⟨by (with_reducible repeat (first | refine blk_drewN ?_ _ | refine blk_drew ?_ | refine blk_alloc ?_ _)); refine blk_far ?_ (by have h_ := Kd.R_ne HO_Z2.out BK191.out (by decide); intro e_; exact h_ (by rw [e_]; rfl)) _; (with_reducible repeat (first | refine blk_drewN ?_ _ | refine blk_drew ?_ | refine blk_alloc ?_ _)); refine blk_far ?_ (by have h_ := Kd.R_ne HO_Z2.out BK191.out (by decide); intro e_; exact h_ (by rw [e_]; rfl)) _; (with_reducible repeat (first | refine blk_drewN ?_ _ | refine blk_drew ?_ | refine blk_alloc ?_ _)); exact BK191.out⟩; have n5 : Aside0 (((w37.setCell ⟨go24, ((rd t200 (rd l1 x32_1)) : Int).toNat, none⟩ (.bool true)).setCell ⟨go24, ((rd l0_1 (rd t200 (rd l1 x32_1))) : Int).toNat, none⟩ (.bool true)).heap[gb195]? = some (.cells #[.slice (some ⟨go24, 0, none⟩) xZ2_1.length co24] 78 (0, 0))) := ⟨by (with_reducible repeat (first | refine blk_drewN ?_ _ | refine blk_drew ?_ | refine blk_alloc ?_ _)); refine blk_far ?_ (by have h_ := Kd.R_ne HO_Z2.out BK195.out (by decide); intro e_; exact h_ (by rw [e_]; rfl)) _; (with_reducible repeat (first | refine blk_drewN ?_ _ | refine blk_drew ?_ | refine blk_alloc ?_ _)); refine blk_far ?_ (by have h_ := Kd.R_ne HO_Z2.out BK195.out (by decide); intro e_; exact h_ (by rw [e_]; rfl)) _; (with_reducible repeat (first | refine blk_drewN ?_ _ | refine blk_drew ?_ | refine blk_alloc ?_ _)); exact BK195.out⟩; have n6 : Aside0 (Below w.heap.size w ((w37.setCell ⟨go24, ((rd t200 (rd l1 x32_1)) : Int).toNat, none⟩ (.bool true)).setCell ⟨go24, ((rd l0_1 (rd t200 (rd l1 x32_1))) : Int).toNat, none⟩ (.bool true))) := ⟨bU4 HB.out GB24.out GB24.out GE191.out GE195.out⟩; (try clear HO_7); (try clear HO_Z0); (try clear HO_Z2); (try clear HO202); (try clear BK191); (try clear BK195); (try clear HB)
                 generalize ((w37.setCell ⟨go24, ((rd t200 (rd l1 x32_1)) : Int).toNat, none⟩ (.bool true)).setCell ⟨go24, ((rd l0_1 (rd t200 (rd l1 x32_1))) : Int).toNat, none⟩ (.bool true)) = w40 at n0 n1 n2 n3 n4 n5 n6 ⊢
                 have HO_7 := n0; have HO_Z0 := n1; have HO_Z2 := n2; have HO202 := n3; have BK191 := n4; have BK195 := n5; have HB := n6; clear n0 n1 n2 n3 n4 n5 n6; have p29 : 0 ≤ ((rd t200 (rd l1 x32_1)) : Int) := oA; have q29 : ((rd t200 (rd l1 x32_1)) : Int) < ((x7_1.length : Int) : Int) := oA; obtain ⟨go29, co29, eo29, gb29, gl29, cl29, HG29⟩ := Kd.R_form HO_7.out (by omega); (first | cases eo29 | (injection eo29 with ea_ en_ ec_; (first | subst ea_ | (injection ea_ with ea_; subst ea_)); subst ec_; clear en_)); have GB29 := Az gb29; have GG29 := Az HG29; clear gb29 gl29 HG29; obtain ⟨hx29_0, hf29_0⟩ := Kd.R_celln 0 HO_7.out ((rd t200 (rd l1 x32_1)) : Int) p29 q29; replace p29 := eq_true p29; replace q29 := eq_true q29; obtain ⟨hy41_, hz41_⟩ := Kd.R_celln 0 HO_7.out ((rd t200 (rd l1 x32_1)) : Int) (oA) (oA); have HP41 := Kd.R_putg HO_7.out ((rd t200 (rd l1 x32_1)) : Int) (rd l0_1 (rd t200 (rd l1 x32_1)))
                 try go_wp2_with (first | ((with_reducible refine gate_store (t := 3) (p := 58) rfl ?_); refine store_event (t := 3) (p := 58) (v := ?vo_w42) (w1 := (w40.setCell ⟨go29, ((rd t200 (rd l1 x32_1)) : Int).toNat, none⟩ (.int .i64 (rd l0_1 (rd t200 (rd l1 x32_1)))))) ?hg ?ho ?hn ?hr ?_; (case ho => rfl); (case hg => rfl); (case hn => rfl); (case hr => first | (go_simp; done) | (go_simp; rfl)); intro w42 hw; have hg : w40.grownBy w42 (some go29) := (by rw [hw]; exact HP41.2); have hp_ : Kd.R (Kd.int .i64) 3 w42 w.heap.size (fun k_ => (w.heap.size ≤ k_) ∧ some k_ ≠ (.slice (some ad203) t200.length co35 : Value).ownBlock) (.slice (some ⟨go29, 0, none⟩) x7_1.length co29) y207 := (by rw [hw, Ny207.out]; exact HP41.1); clear HP41; have n0 := Az (hp_); have n1 := Az (Kd.V_afterv (v := (.slice (some ⟨go29, 0, none⟩) x7_1.length co29)) (v1 := (.slice (some ⟨go29, 0, none⟩) x7_1.length co29)) (ok := (fun k_ => (P0_0_ k_ ∨ w.heap.size ≤ k_) ∧ some k_ ≠ (.slice (some ⟨go24, 0, none⟩) xZ2_1.length co24 : Value).ownBlock ∧ some k_ ≠ (.slice (some ad203) t200.length co35 : Value).ownBlock ∧ k_ ≠ gb191 ∧ k_ ≠ gb195)) (by (with_reducible repeat (first | apply Kd.V_alloc | apply Kd.V_drewN | apply Kd.V_drew)); exact Kd.V_mono HO_Z0.out (fun _ hk => ⟨⟨hk.1, ⟨hk.2.2.1, ⟨hk.2.2.2.1, ⟨hk.2.2.2.2.1, hk.2.2.2.2.2⟩⟩⟩⟩, hk.2.1⟩)) hg (.inl rfl)); have n2 := Az (Kd.R_over' (v := (.slice (some ⟨go29, 0, none⟩) x7_1.length co29)) (rU HO_Z2.out) (Kd.R_typed HO_7.out) (by decide) hg); have n3 := Az (blk_grown (g := gb191) (o := .cells #[.slice A0_0 l0_0.length c0_0, .slice (some ad204) l0_1.length c0_1] 25 (0, 0)) (kU BK191.out) hg (Kd.R_ne HO_7.out BK191.out (by decide))); have n4 := Az (blk_grown (g := gb195) (o := .cells #[.slice (some ⟨go24, 0, none⟩) xZ2_1.length co24] 78 (0, 0)) (kU BK195.out) hg (Kd.R_ne HO_7.out BK195.out (by decide))); have n5 := Az (Kd.R_after (v := (.slice (some ⟨go29, 0, none⟩) x7_1.length co29)) (v1 := (.slice (some ⟨go29, 0, none⟩) x7_1.length co29)) (ok := (fun k_ => (w.heap.size ≤ k_))) (rU HO202.out) hg (.inl rfl)); have n6 := Az ((by rw [hw]; exact below_set (HB.out) GB29.out : Below w.heap.size w w42)); clear HO_7 HO_Z0 HO_Z2 BK191 BK195 HO202 HB; have HO_7 := n0; have HO_Z0 := n1; have HO_Z2 := n2; have BK191 := n3; have BK195 := n4; have HO202 := n5; have HB := n6; clear n0 n1 n2 n3 n4 n5 n6 hg hw hp_; have p31 : 0 ≤ ((rd l0_1 (rd t200 (rd l1 x32_1))) : Int) := oA; have q31 : ((rd l0_1 (rd t200 (rd l1 x32_1))) : Int) < ((x7_1.length : Int) : Int) := oA; obtain ⟨hx31_0, hf31_0⟩ := Kd.R_celln 0 HO_7.out ((rd l0_1 (rd t200 (rd l1 x32_1))) : Int) p31 q31; replace p31 := eq_true p31; replace q31 := eq_true q31; obtain ⟨hy43_, hz43_⟩ := Kd.R_celln 0 HO_7.out ((rd l0_1 (rd t200 (rd l1 x32_1))) : Int) (oA) (oA); have HP43 := Kd.R_putg HO_7.out ((rd l0_1 (rd t200 (rd l1 x32_1))) : Int) (rd t200 (rd l1 x32_1))) | ((with_reducible refine gate_store (t := 3) (p := 59) rfl ?_); refine store_event (t := 3) (p := 59) (v := ?vo_w44) (w1 := (w42.setCell ⟨go29, ((rd l0_1 (rd t200 (rd l1 x32_1))) : Int).toNat, none⟩ (.int .i64 (rd t200 (rd l1 x32_1))))) ?hg ?ho ?hn ?hr ?_; (case ho => rfl); (case hg => rfl); (case hn => rfl); (case hr => first | (go_simp; done) | (go_simp; rfl)); intro w44 hw; have hg : w42.grownBy w44 (some go29) := (by rw [hw]; exact HP43.2); have hp_ : Kd.R (Kd.int .i64) 3 w44 w.heap.size (fun k_ => (w.heap.size ≤ k_) ∧ some k_ ≠ (.slice (some ad203) t200.length co35 : Value).ownBlock) (.slice (some ⟨go29, 0, none⟩) x7_1.length co29) y208 := (by rw [hw, Ny208.out]; exact HP43.1); clear HP43; have n0 := Az (hp_); have n1 := Az (Kd.V_afterv (v := (.slice (some ⟨go29, 0, none⟩) x7_1.length co29)) (v1 := (.slice (some ⟨go29, 0, none⟩) x7_1.length co29)) (ok := (fun k_ => (P0_0_ k_ ∨ w.heap.size ≤ k_) ∧ some k_ ≠ (.slice (some ⟨go24, 0, none⟩) xZ2_1.length co24 : Value).ownBlock ∧ some k_ ≠ (.slice (some ad203) t200.length co35 : Value).ownBlock ∧ k_ ≠ gb191 ∧ k_ ≠ gb195)) (vU HO_Z0.out) hg (.inl rfl)); have n2 := Az (Kd.R_over' (v := (.slice (some ⟨go29, 0, none⟩) x7_1.length co29)) (rU HO_Z2.out) (Kd.R_typed HO_7.out) (by decide) hg); have n3 := Az (blk_grown (g := gb191) (o := .cells #[.slice A0_0 l0_0.length c0_0, .slice (some ad204) l0_1.length c0_1] 25 (0, 0)) (kU BK191.out) hg (Kd.R_ne HO_7.out BK191.out (by decide))); have n4 := Az (blk_grown (g := gb195) (o := .cells #[.slice (some ⟨go24, 0, none⟩) xZ2_1.length co24] 78 (0, 0)) (kU BK195.out) hg (Kd.R_ne HO_7.out BK195.out (by decide))); have n5 := Az (Kd.R_after (v := (.slice (some ⟨go29, 0, none⟩) x7_1.length co29)) (v1 := (.slice (some ⟨go29, 0, none⟩) x7_1.length co29)) (ok := (fun k_ => (w.heap.size ≤ k_))) (rU HO202.out) hg (.inl rfl)); have n6 := Az ((by rw [hw]; exact below_set (HB.out) GB29.out : Below w.heap.size w w44)); clear HO_7 HO_Z0 HO_Z2 BK191 BK195 HO202 HB; have HO_7 := n0; have HO_Z0 := n1; have HO_Z2 := n2; have BK191 := n3; have BK195 := n4; have HO202 := n5; have HB := n6; clear n0 n1 n2 n3 n4 n5 n6; clear hg hw hp_))
                 (first | go_roundg k1 | (refine Handed.intro k1 ?measure ?_; rotate_left; go_step; (try simp only [add_plain]); (repeat apply Exists.intro); refine ⟨?rel, rfl⟩))
                 case measure => have := HK1.out; omega
                 case rel => exact ⟨(y208), (wrap64 (x32_1 + 1)), (y206), (.slice (some ⟨go24, 0, none⟩) xZ2_1.length co24), rS, H', ⟨by have := HK1.out; omega⟩, ⟨by (with_reducible repeat (first | apply Kd.R_alloc | apply Kd.R_drewN | apply Kd.R_drew)); exact Kd.R_mono HO_7.out (fun _ hk => hk.1)⟩, ⟨by (with_reducible repeat (first | apply Kd.V_alloc | apply Kd.V_drewN | apply Kd.V_drew)); exact Kd.V_mono HO_Z0.out (fun _ hk => ⟨hk.1.1, ⟨hk.2, ⟨hk.1.2.1, ⟨hk.1.2.2.2.1, hk.1.2.2.2.2⟩⟩⟩⟩)⟩, ⟨rU HO_Z2.out⟩, ⟨kU BK191.out⟩, ⟨kU BK195.out⟩, ⟨bU2 HB.out GE191.out GE195.out⟩⟩
                ·
                 rw [if_neg c30] at H
                 exact absurd H (by simp)
               ·
                rw [if_neg c28] at H
                exact absurd H (by simp)
              ·
               rw [if_neg c26] at H
               exact absurd H (by simp)
             ·
              rw [if_neg c25] at H
              exact absurd H (by simp)
            ·
             rw [if_neg c23] at H
             exact absurd H (by simp)
           ·
            rw [if_neg c22] at H
            exact absurd H (by simp)
          ·
           rw [if_neg c21] at H
           exact absurd H (by simp)
         ·
          rw [if_neg c20] at H
          exact absurd H (by simp)
        ·
         rw [if_neg c19] at H
         exact absurd H (by simp)
       ·
        rw [if_neg c17] at H
        exact absurd H (by simp)
      ·
       rw [if_neg c16] at H
       exact absurd H (by simp)
     ·
      rw [if_neg c15] at H; have c15b0 := decide_eq_false c15; clear c15; obtain ⟨y209, hy209⟩ : ∃ y_ : List (List Int), y_ = (([l0_0, x7_1] : List (List Int))) := ⟨_, rfl⟩; replace H : ((impl_orbits.f k1 y209).bind fun t212 => (impl_ribbon.l1 k1 l1 (l0_0.length : Int) x7_1 0 t212 (t212.length : Int) 0 l0_0 l0_1 xZ2_1)) = some r := hR hy209 H; have Ny209 := Az hy209; clear hy209; replace H := Option.bind_eq_some_iff.mp H; obtain ⟨t212, A450, H⟩ := H; replace H : (impl_ribbon.l1 k1 l1 (l0_0.length : Int) x7_1 0 t212 (t212.length : Int) 0 l0_0 l0_1 xZ2_1) = some r := H; have A45 := Az A450; clear A450; have H' := Az H; clear H; have hnb46 := NB191_195.out; have hnc46 := NB195_191.out; have hcz47_0 : wr.cell? ⟨gb191, 0, none⟩ = some (.slice A0_0 l0_0.length c0_0) := (blk_cell BK191.out 0).trans rfl; have hcz47_1 : wr.cell? ⟨gb191, 1, none⟩ = some (.slice A0_1 l0_1.length c0_1) := (blk_cell BK191.out 1).trans rfl; have hfz47_0 := blk_frozen BK191.out 0; have hfz47_1 := blk_frozen BK191.out 1; obtain ⟨Ao48, co48, eo48⟩ := Kd.R_slice HO_7.out; subst eo48
      go_wp2_with (first | ((with_reducible refine gate_dst (N := 64) rfl ?_); refine Kd.N_lit (Kd.slice 3 (Kd.int .i64)) _ 23 ?hg (N' := 64) ?hd (xs := ([l0_0, x7_1] : List (List Int))) (inner := [.slice A0_0 l0_0.length c0_0, .slice Ao48 x7_1.length co48]) (ok := (fun k_ => (P0_0_ k_ ∨ w.heap.size ≤ k_) ∧ some k_ ≠ (uZ2 : Value).ownBlock ∧ k_ ≠ gb191 ∧ k_ ≠ gb195)) (okp := (fun k_ => (P0_0_ k_ ∨ w.heap.size ≤ k_) ∧ some k_ ≠ (uZ2 : Value).ownBlock ∧ k_ ≠ gb191 ∧ k_ ≠ gb195)) ?hr ?hp (fun _ hk => hk) ((show ∀ k_, wr.heap.size ≤ k_ → (fun k_ => (P0_0_ k_ ∨ w.heap.size ≤ k_) ∧ some k_ ≠ (uZ2 : Value).ownBlock ∧ k_ ≠ gb191 ∧ k_ ≠ gb195) k_ from fun k_ hk => ⟨(.inr (Nat.le_trans (below_size (bU2 HB.out GE191.out GE195.out)) hk)), Kd.fresh' (Kd.R_lt (rU HO_Z2.out)) k_ hk, Kd.freshB (g := gb191) (o := .cells #[.slice A0_0 l0_0.length c0_0, .slice A0_1 l0_1.length c0_1] 25 (0, 0)) (kU BK191.out) k_ hk, Kd.freshB (g := gb195) (o := .cells #[uZ2] 78 (0, 0)) (kU BK195.out) k_ hk⟩) _ (Nat.le_refl _)) (Below.refl _ _) (Nat.le_refl _) (by simp) ?_; (case hd => rfl); (case hg => rfl); (case hr => first | (go_simp; done) | (go_simp; rfl)); (case hp => exact (Reps.one (show Kd.FK (Kd.slice 3 (Kd.int .i64)) _ _ l0_0 [.slice A0_0 l0_0.length c0_0] from (Kd.FK_slice_mk (Kd.V_reads' (Kd.V_mono (ok' := (fun k_ => (P0_0_ k_ ∨ w.heap.size ≤ k_) ∧ some k_ ≠ (uZ2 : Value).ownBlock ∧ k_ ≠ gb191 ∧ k_ ≠ gb195)) (HO_Z0.out) (fun k_ hk => ⟨hk.1, ⟨hk.2.2.1, ⟨hk.2.2.2.1, hk.2.2.2.2⟩⟩⟩))).2.1 (Kd.V_F (Kd.V_mono (ok' := (fun k_ => (P0_0_ k_ ∨ w.heap.size ≤ k_) ∧ some k_ ≠ (uZ2 : Value).ownBlock ∧ k_ ≠ gb191 ∧ k_ ≠ gb195)) (HO_Z0.out) (fun k_ hk => ⟨hk.1, ⟨hk.2.2.1, ⟨hk.2.2.2.1, hk.2.2.2.2⟩⟩⟩))))) (Reps.one (show Kd.FK (Kd.slice 3 (Kd.int .i64)) _ _ x7_1 [.slice Ao48 x7_1.length co48] from (Kd.FK_slice_mk (Kd.R_reads' (Kd.R_mono (ok' := (fun k_ => (P0_0_ k_ ∨ w.heap.size ≤ k_) ∧ some k_ ≠ (uZ2 : Value).ownBlock ∧ k_ ≠ gb191 ∧ k_ ≠ gb195)) (Kd.R_types (Kd.R_types (Kd.R_apart' (HO_7.out) (Kd.R_typed HO_Z2.out) (by decide)) BK191.out (by decide)) BK195.out (by decide)) (fun k_ hk => ⟨(.inr (hk.1.1.1)), ⟨hk.1.1.2, ⟨hk.1.2, hk.2⟩⟩⟩))).2.1 (Kd.R_F (Kd.R_mono (ok' := (fun k_ => (P0_0_ k_ ∨ w.heap.size ≤ k_) ∧ some k_ ≠ (uZ2 : Value).ownBlock ∧ k_ ≠ gb191 ∧ k_ ≠ gb195)) (Kd.R_types (Kd.R_types (Kd.R_apart' (HO_7.out) (Kd.R_typed HO_Z2.out) (by decide)) BK191.out (by decide)) BK195.out (by decide)) (fun k_ hk => ⟨(.inr (hk.1.1.1)), ⟨hk.1.1.2, ⟨hk.1.2, hk.2⟩⟩⟩))))) (Reps.none _ _)))); intro v210 w49 ho50 hb hg_ hnew_; clear hg_ hnew_; (first | rw [← Ny209.out] at ho50 | (simp only [Int.reduceToNat] at ho50; rw [← Ny209.out] at ho50)); have n0 := Az (Kd.R_below (rU HO_7.out) hb); have n1 := Az (Kd.V_elder' (vU HO_Z0.out) (by first | exact Kd.N_base ho50 | exact Kd.S_base ho50 | exact Kd.R_base ho50) hb); have n2 := Az (Kd.R_below (rU HO_Z2.out) hb); have n3 := Az (Kd.N_lower ho50 (below_size (bU2 HB.out GE191.out GE195.out))); have n4 := Az (blk_below (g := gb191) (o := .cells #[.slice A0_0 l0_0.length c0_0, .slice A0_1 l0_1.length c0_1] 25 (0, 0)) (kU BK191.out) hb); have n5 := Az (blk_below (g := gb195) (o := .cells #[uZ2] 78 (0, 0)) (kU BK195.out) hb); have n6 := Az (below_step (bU2 HB.out GE191.out GE195.out) hb); clear HO_7 HO_Z0 HO_Z2 BK191 BK195 HB; have HO_7 := n0; have HO_Z0 := n1; have HO_Z2 := n2; have HO211 := n3; have BK191 := n4; have BK195 := n5; have HB := n6; clear n0 n1 n2 n3 n4 n5 n6 hb ho50; obtain ⟨Ao51, co51, eo51⟩ := Kd.N_slice HO211.out; subst eo51) | ((with_reducible refine gate_callee (f := 97) rfl ?_); refine goesL_ (some 65) rfl rfl Try.func97 (by kernel_rfl) rfl #[.slice Ao51 y209.length co51] rfl (by (try simp only [List.map_toArray, List.map_cons, List.map_nil]); first | done | rfl | (simp only [List.length_drop, List.length_take]; rfl)) ?_; (with_reducible refine (impl_orbits.calls k1 _ _ y209 t212 _ ?side1 ?side2 A45.out).mono ?_); (case side1 => exact cU ((Kd.N_reads' HO211.out).2.2)); (case side2 => exact (Kd.N_reads' HO211.out).2.1); rintro e w52 ⟨v213, rfl, ho0, hb⟩; refine ⟨_, rfl, ?_⟩; have n0 := Az (Kd.R_elder' (rU HO_7.out) (Kd.R_base ho0) hb); have n1 := Az (Kd.V_elder' (vU HO_Z0.out) (Kd.R_base ho0) hb); have n2 := Az (Kd.R_below (rU HO_Z2.out) hb); have n3 := Az (Kd.N_elder' (nU HO211.out) (Kd.R_base ho0) hb); have n4 := Az (Kd.R_lower (Kd.R_new' (Kd.R_newM (M := fun k_ => (w.heap.size ≤ k_)) ho0 (below_size (bU2 HB.out GE191.out GE195.out)) (fun k_ h_ => h_)) (Kd.R_lt (rU HO_7.out))) (below_size (bU2 HB.out GE191.out GE195.out))); have n5 := Az (blk_below (g := gb191) (o := .cells #[.slice A0_0 l0_0.length c0_0, .slice A0_1 l0_1.length c0_1] 25 (0, 0)) (kU BK191.out) hb); have n6 := Az (blk_below (g := gb195) (o := .cells #[uZ2] 78 (0, 0)) (kU BK195.out) hb); have n7 := Az (below_step (bU2 HB.out GE191.out GE195.out) hb); clear HO_7 HO_Z0 HO_Z2 HO211 BK191 BK195 HB; have HO_7 := n0; have HO_Z0 := n1; have HO_Z2 := n2; have HO211 := n3; have HO214 := n4; have BK191 := n5; have BK195 := n6; have HB := n7; clear n0 n1 n2 n3 n4 n5 n6 n7; (try clear hb); (try clear hb2); (try clear hk); (try clear hi); (try clear ho0); obtain ⟨Ao53, co53, eo53⟩ := Kd.R_slice HO214.out; subst eo53))
      go_loopg [12, 67] k1 (fun kq v12 v67 w' => ∃ (x12_2 : Int) (x67_2 : Int), v12 = .int .i64 x12_2 ∧ v67 = .int .i64 x67_2 ∧ Aside0 (impl_ribbon.l1 kq l1 (l0_0.length : Int) x7_1 x12_2 t212 (t212.length : Int) x67_2 l0_0 l0_1 xZ2_1 = some r) ∧ Aside0 (kq ≤ k1) ∧ Aside0 (Kd.R (Kd.int .i64) 3 w' w.heap.size (fun k_ => (w.heap.size ≤ k_) ∧ some k_ ≠ ((.slice Ao53 t212.length co53) : Value).ownBlock) (.slice Ao48 x7_1.length co48) x7_1) ∧ Aside0 (Kd.R (Kd.int .i64) 3 w' w.heap.size (fun k_ => (w.heap.size ≤ k_) ∧ some k_ ≠ ((.slice Ao48 x7_1.length co48) : Value).ownBlock) (.slice Ao53 t212.length co53) t212) ∧ Aside0 (Kd.V (Kd.int .i64) 3 w' w.heap.size (fun k_ => (P0_0_ k_ ∨ w.heap.size ≤ k_) ∧ some k_ ≠ ((.slice Ao48 x7_1.length co48) : Value).ownBlock ∧ some k_ ≠ ((.slice Ao53 t212.length co53) : Value).ownBlock ∧ some k_ ≠ (uZ2 : Value).ownBlock ∧ k_ ≠ gb191 ∧ k_ ≠ gb195) (.slice A0_0 l0_0.length c0_0) l0_0) ∧ Aside0 (Kd.R Kd.bool 4 w' w.heap.size (fun k_ => (w.heap.size ≤ k_)) uZ2 xZ2_1) ∧ Aside0 (w'.heap[gb191]? = some (.cells #[(.slice A0_0 l0_0.length c0_0), (.slice A0_1 l0_1.length c0_1)] 25 (0, 0))) ∧ Aside0 (w'.heap[gb195]? = some (.cells #[uZ2] 78 (0, 0))) ∧ Aside0 (Below w.heap.size w w'))
      case atStart => exact ⟨(0), (0), rS, rS, H', ⟨Nat.le_refl _⟩, ⟨rU HO_7.out⟩, ⟨by (with_reducible repeat (first | apply Kd.R_alloc | apply Kd.R_drewN | apply Kd.R_drew)); exact Kd.R_mono HO214.out (fun _ hk => ⟨hk.1.1, hk.2⟩)⟩, ⟨by (with_reducible repeat (first | apply Kd.V_alloc | apply Kd.V_drewN | apply Kd.V_drew)); exact Kd.V_mono HO_Z0.out (fun _ hk => ⟨hk.1.1.1, ⟨hk.1.1.2.1, ⟨hk.2, ⟨hk.1.1.2.2.1, ⟨hk.1.1.2.2.2.1, hk.1.1.2.2.2.2⟩⟩⟩⟩⟩)⟩, ⟨rU HO_Z2.out⟩, ⟨kU BK191.out⟩, ⟨kU BK195.out⟩, ⟨bU2 HB.out GE191.out GE195.out⟩⟩
      case round =>
       clear H'; (try clear c1); (try clear p1); (try clear q1); (try clear hx1); (try clear c2); (try clear p2); (try clear q2); (try clear hx2); (try clear hf2); (try clear c3); (try clear c3b0); (try clear c3b1); (try clear p3); (try clear q3); (try clear hx3); (try clear hf3); (try clear c4); (try clear c4b0); (try clear c4b1); (try clear c6); (try clear p6); (try clear c8); (try clear c9); (try clear c10); (try clear c12); (try clear c15); (try clear c15b0); (try clear c16); (try clear c16b0); (try clear c17); (try clear c17b0); (try clear c19); (try clear c19b0); (try clear p19); (try clear q19); (try clear hx19); (try clear c20); (try clear c20b0); (try clear p20); (try clear q20); (try clear hx20); (try clear c21); (try clear c21b0); (try clear c22); (try clear c22b0); (try clear c23); (try clear c23b0); (try clear p24); (try clear q24); (try clear hx24); (try clear hf24); (try clear c25); (try clear c25b0); (try clear c26); (try clear c26b0); (try clear p27); (try clear q27); (try clear hx27); (try clear hf27); (try clear c28); (try clear c28b0); (try clear p29); (try clear q29); (try clear hx29); (try clear hf29); (try clear c30); (try clear c30b0); (try clear p31); (try clear q31); (try clear hx31); (try clear hf31); (try clear c32); (try clear c46); (try clear hcz13_0); (try clear hcz33_0); (try clear hcz33_1); (try clear hcz36_0); (try clear hcz36_1); (try clear hcz47_0); (try clear hcz47_1); (try clear hcz7_0); (try clear hcz7_1); (try clear hfz13_0); (try clear hfz33_0); (try clear hfz33_1); (try clear hfz36_0); (try clear hfz36_1); (try clear hfz47_0); (try clear hfz47_1); (try clear hfz7_0); (try clear hfz7_1); (try clear hx199_0); (try clear hx203_0); (try clear hx204_0); (try clear hx24_0); (try clear hx27_0); (try clear hx29_0); (try clear hx31_0); (try clear p199); (try clear p2); (try clear p203); (try clear p204); (try clear p24); (try clear p27); (try clear p29); (try clear p31); (try clear q199); (try clear q203); (try clear q204); (try clear q24); (try clear q27); (try clear q29); (try clear q31); obtain ⟨x12_2, x67_2, rfl, rfl, HA, HK2, HO_7, HO_65, HO_Z0, HO_Z2, BK191, BK195, HB⟩ := hrel
       cases gk with
       | zero => exact absurd HA.out (by simp [impl_ribbon.l1])
       | succ k2 =>
        have H := HA.out; clear HA; simp only [impl_ribbon.l1] at H
        by_cases c54 : x67_2 < (t212.length : Int)
        ·
         rw [if_pos c54] at H; have c54b0 := decide_eq_true c54; clear c54
         by_cases c55 : 0 ≤ x67_2
         ·
          rw [if_pos c55] at H; have c55b0 := decide_eq_true c55; clear c55
          by_cases c56 : x67_2 < (t212.length : Int)
          ·
           rw [if_pos c56] at H; have c56b0 := decide_eq_true c56; clear c56
           by_cases c57 : x67_2 = (rd t212 x67_2)
           ·
            rw [if_pos c57] at H; have c57b0 := beq_iff_eq.mpr c57; have c57b1 := bne_eq_false_iff_eq.mpr c57; clear c57; have H' := Az H; clear H; have p215 : 0 ≤ (x67_2 : Int) := oA; have q215 : x67_2 < (t212.length : Int) := oA; obtain ⟨ad215, e215, hx215_0⟩ := Kd.at_int (Kd.R_reads' HO_65.out).2.2 x67_2 p215 q215
            cases e215
            replace p215 := eq_true p215; replace q215 := eq_true q215
            go_wp2
            (first | go_roundg k2 | (refine Handed.intro k2 ?measure ?_; rotate_left; go_step; (try simp only [add_plain]); (repeat apply Exists.intro); refine ⟨?rel, rfl⟩))
            case measure => have := HK1.out; have := HK2.out; omega
            case rel => exact ⟨(wrap64 (x12_2 + 1)), (wrap64 (x67_2 + 1)), rS, rS, H', ⟨by have := HK1.out; have := HK2.out; omega⟩, ⟨rU HO_7.out⟩, ⟨rU HO_65.out⟩, ⟨vU HO_Z0.out⟩, ⟨rU HO_Z2.out⟩, ⟨kU BK191.out⟩, ⟨kU BK195.out⟩, ⟨bU2 HB.out GE191.out GE195.out⟩⟩
           ·
            rw [if_neg c57] at H; have c57b0 := beq_eq_false_iff_ne.mpr c57; have c57b1 := bne_iff_ne.mpr c57; have H' := Az H; clear H; have p215 : 0 ≤ (x67_2 : Int) := oA; have q215 : x67_2 < (t212.length : Int) := oA; obtain ⟨ad215, e215, hx215_0⟩ := Kd.at_int (Kd.R_reads' HO_65.out).2.2 x67_2 p215 q215
            cases e215
            replace p215 := eq_true p215; replace q215 := eq_true q215
            go_wp2
            (first | go_roundg k2 | (refine Handed.intro k2 ?measure ?_; rotate_left; go_step; (try simp only [add_plain]); (repeat apply Exists.intro); refine ⟨?rel, rfl⟩))
            case measure => have := HK1.out; have := HK2.out; omega
            case rel => exact ⟨(x12_2), (wrap64 (x67_2 + 1)), rS, rS, H', ⟨by have := HK1.out; have := HK2.out; omega⟩, ⟨rU HO_7.out⟩, ⟨rU HO_65.out⟩, ⟨vU HO_Z0.out⟩, ⟨rU HO_Z2.out⟩, ⟨kU BK191.out⟩, ⟨kU BK195.out⟩, ⟨bU2 HB.out GE191.out GE195.out⟩⟩
          ·
           rw [if_neg c56] at H
           exact absurd H (by simp)
         ·
          rw [if_neg c55] at H
          exact absurd H (by simp)
        ·
         rw [if_neg c54] at H; have c54b0 := decide_eq_false c54; clear c54; replace H := Option.bind_eq_some_iff.mp H; obtain ⟨t216, A580, H⟩ := H; replace H : (impl_ribbon.l2 k2 l1 (l0_0.length : Int) x7_1 x12_2 0 t216 (t216.length : Int) 0 l0_0 l0_1 xZ2_1) = some r := H; have A58 := Az A580; clear A580; have H' := Az H; clear H; have hnb59 := NB191_195.out; have hnc59 := NB195_191.out; have hcz60_0 : wr.cell? ⟨gb191, 0, none⟩ = some (.slice A0_0 l0_0.length c0_0) := (blk_cell BK191.out 0).trans rfl; have hcz60_1 : wr.cell? ⟨gb191, 1, none⟩ = some (.slice A0_1 l0_1.length c0_1) := (blk_cell BK191.out 1).trans rfl; have hfz60_0 := blk_frozen BK191.out 0; have hfz60_1 := blk_frozen BK191.out 1
         go_wp2_with (first | ((with_reducible refine gate_callee (f := 63) rfl ?_); refine goesL_ (some 80) rfl rfl Try.func63 (by kernel_rfl) rfl #[.slice A0_0 l0_0.length c0_0] rfl (by (try simp only [List.map_toArray, List.map_cons, List.map_nil]); first | done | rfl | (simp only [List.length_drop, List.length_take]; rfl)) ?_; (with_reducible refine (impl_cyclesOf.calls k2 _ _ l0_0 t216 _ ?side1 ?side2 A58.out).mono ?_); (case side1 => exact cU ((Kd.V_reads' HO_Z0.out).2.2)); (case side2 => exact (Kd.V_reads' HO_Z0.out).2.1); rintro e w61 ⟨v217, rfl, ho0, hb⟩; refine ⟨_, rfl, ?_⟩; have n0 := Az (Kd.R_below (rU HO_7.out) hb); have n1 := Az (Kd.R_below (rU HO_65.out) hb); have n2 := Az (Kd.V_elder' (vU HO_Z0.out) (by first | exact Kd.N_base ho0 | exact Kd.S_base ho0 | exact Kd.R_base ho0) hb); have n3 := Az (Kd.R_below (rU HO_Z2.out) hb); have n4 := Az (Kd.N_lower (Kd.N_mono (ok' := fun k_ => (P0_0_ k_ ∨ w.heap.size ≤ k_) ∧ some k_ ≠ (.slice Ao48 x7_1.length co48 : Value).ownBlock ∧ some k_ ≠ (.slice Ao53 t212.length co53 : Value).ownBlock ∧ some k_ ≠ (uZ2 : Value).ownBlock ∧ k_ ≠ gb191 ∧ k_ ≠ gb195) (Kd.S_N (Kd.S_bound ho0)) (fun k_ hk_ => ⟨(.inr (Nat.le_trans (below_size (bU2 HB.out GE191.out GE195.out)) hk_.2.1)), (Kd.fresh' (Kd.R_lt (rU HO_7.out)) k_ hk_.2.1), (Kd.fresh' (Kd.R_lt (rU HO_65.out)) k_ hk_.2.1), (Kd.fresh' (Kd.R_lt (rU HO_Z2.out)) k_ hk_.2.1), (Kd.freshB (g := gb191) (o := .cells #[.slice A0_0 l0_0.length c0_0, .slice A0_1 l0_1.length c0_1] 25 (0, 0)) (kU BK191.out) k_ hk_.2.1), (Kd.freshB (g := gb195) (o := .cells #[uZ2] 78 (0, 0)) (kU BK195.out) k_ hk_.2.1)⟩)) (below_size (bU2 HB.out GE191.out GE195.out))); have n5 := Az (blk_below (g := gb191) (o := .cells #[.slice A0_0 l0_0.length c0_0, .slice A0_1 l0_1.length c0_1] 25 (0, 0)) (kU BK191.out) hb); have n6 := Az (blk_below (g := gb195) (o := .cells #[uZ2] 78 (0, 0)) (kU BK195.out) hb); have n7 := Az (below_step (bU2 HB.out GE191.out GE195.out) hb); clear HO_7 HO_65 HO_Z0 HO_Z2 BK191 BK195 HB; have HO_7 := n0; have HO_65 := n1; have HO_Z0 := n2; have HO_Z2 := n3; have HO218 := n4; have BK191 := n5; have BK195 := n6; have HB := n7; clear n0 n1 n2 n3 n4 n5 n6 n7; (try clear hb); (try clear hb2); (try clear hk); (try clear hi); (try clear ho0); obtain ⟨Ao62, co62, eo62⟩ := Kd.N_slice HO218.out; subst eo62))
         go_loopg [15, 82] k2 (fun kq v15 v82 w' => ∃ (x15_3 : Int) (x82_3 : Int), v15 = .int .i64 x15_3 ∧ v82 = .int .i64 x82_3 ∧ Aside0 (impl_ribbon.l2 kq l1 (l0_0.length : Int) x7_1 x12_2 x15_3 t216 (t216.length : Int) x82_3 l0_0 l0_1 xZ2_1 = some r) ∧ Aside0 (kq ≤ k2) ∧ Aside0 (Kd.R (Kd.int .i64) 3 w' w.heap.size (fun k_ => (w.heap.size ≤ k_)) (.slice Ao48 x7_1.length co48) x7_1) ∧ Aside0 (Kd.N (Kd.slice 3 (Kd.int .i64)) 23 w' w.heap.size (fun k_ => (P0_0_ k_ ∨ w.heap.size ≤ k_) ∧ some k_ ≠ ((.slice Ao48 x7_1.length co48) : Value).ownBlock ∧ some k_ ≠ (uZ2 : Value).ownBlock ∧ k_ ≠ gb191 ∧ k_ ≠ gb195) (.slice Ao62 t216.length co62) t216) ∧ Aside0 (Kd.V (Kd.int .i64) 3 w' w.heap.size (fun k_ => (P0_0_ k_ ∨ w.heap.size ≤ k_) ∧ some k_ ≠ ((.slice Ao48 x7_1.length co48) : Value).ownBlock ∧ some k_ ≠ ((.slice Ao62 t216.length co62) : Value).ownBlock ∧ some k_ ≠ (uZ2 : Value).ownBlock ∧ k_ ≠ gb191 ∧ k_ ≠ gb195) (.slice A0_0 l0_0.length c0_0) l0_0) ∧ Aside0 (Kd.R Kd.bool 4 w' w.heap.size (fun k_ => (w.heap.size ≤ k_)) uZ2 xZ2_1) ∧ Aside0 (w'.heap[gb191]? = some (.cells #[(.slice A0_0 l0_0.length c0_0), (.slice A0_1 l0_1.length c0_1)] 25 (0, 0))) ∧ Aside0 (w'.heap[gb195]? = some (.cells #[uZ2] 78 (0, 0))) ∧ Aside0 (Below w.heap.size w w'))
         case atStart => exact ⟨(0), (0), rS, rS, H', ⟨Nat.le_refl _⟩, ⟨by (with_reducible repeat (first | apply Kd.R_alloc | apply Kd.R_drewN | apply Kd.R_drew)); exact Kd.R_mono HO_7.out (fun _ hk => hk.1)⟩, ⟨by (with_reducible repeat (first | apply Kd.N_alloc | apply Kd.N_drewN | apply Kd.N_drew)); exact Kd.N_mono HO218.out (fun _ hk => ⟨hk.1, ⟨hk.2.1, ⟨hk.2.2.2.1, ⟨hk.2.2.2.2.1, hk.2.2.2.2.2⟩⟩⟩⟩)⟩, ⟨by (with_reducible repeat (first | apply Kd.V_alloc | apply Kd.V_drewN | apply Kd.V_drew)); exact Kd.V_mono HO_Z0.out (fun _ hk => ⟨hk.1.1, ⟨hk.1.2.1, ⟨hk.2, ⟨hk.1.2.2.2.1, ⟨hk.1.2.2.2.2.1, hk.1.2.2.2.2.2⟩⟩⟩⟩⟩)⟩, ⟨rU HO_Z2.out⟩, ⟨kU BK191.out⟩, ⟨kU BK195.out⟩, ⟨bU2 HB.out GE191.out GE195.out⟩⟩
         case round =>
          clear H'; (try clear c1); (try clear p1); (try clear q1); (try clear hx1); (try clear c2); (try clear p2); (try clear q2); (try clear hx2); (try clear hf2); (try clear c3); (try clear c3b0); (try clear c3b1); (try clear p3); (try clear q3); (try clear hx3); (try clear hf3); (try clear c4); (try clear c4b0); (try clear c4b1); (try clear c5); (try clear c6); (try clear p6); (try clear c8); (try clear c9); (try clear c10); (try clear c12); (try clear c15); (try clear c15b0); (try clear c16); (try clear c16b0); (try clear c17); (try clear c17b0); (try clear c19); (try clear c19b0); (try clear p19); (try clear q19); (try clear hx19); (try clear c20); (try clear c20b0); (try clear p20); (try clear q20); (try clear hx20); (try clear c21); (try clear c21b0); (try clear p21); (try clear q21); (try clear hx21); (try clear c22); (try clear c22b0); (try clear c23); (try clear c23b0); (try clear p24); (try clear q24); (try clear hx24); (try clear hf24); (try clear c25); (try clear c25b0); (try clear c26); (try clear c26b0); (try clear p27); (try clear q27); (try clear hx27); (try clear hf27); (try clear c28); (try clear c28b0); (try clear p29); (try clear q29); (try clear hx29); (try clear hf29); (try clear c30); (try clear c30b0); (try clear p31); (try clear q31); (try clear hx31); (try clear hf31); (try clear c32); (try clear c46); (try clear c54); (try clear c54b0); (try clear c55); (try clear c55b0); (try clear c56); (try clear c56b0); (try clear c57); (try clear c57b0); (try clear c57b1); (try clear c59); (try clear hcz13_0); (try clear hcz33_0); (try clear hcz33_1); (try clear hcz36_0); (try clear hcz36_1); (try clear hcz47_0); (try clear hcz47_1); (try clear hcz60_0); (try clear hcz60_1); (try clear hcz7_0); (try clear hcz7_1); (try clear hfz13_0); (try clear hfz33_0); (try clear hfz33_1); (try clear hfz36_0); (try clear hfz36_1); (try clear hfz47_0); (try clear hfz47_1); (try clear hfz60_0); (try clear hfz60_1); (try clear hfz7_0); (try clear hfz7_1); (try clear hx199_0); (try clear hx203_0); (try clear hx204_0); (try clear hx215_0); (try clear hx24_0); (try clear hx27_0); (try clear hx29_0); (try clear hx31_0); (try clear p1); (try clear p19); (try clear p199); (try clear p2); (try clear p20); (try clear p203); (try clear p204); (try clear p215); (try clear p24); (try clear p27); (try clear p29); (try clear p3); (try clear p31); (try clear p6); (try clear q1); (try clear q19); (try clear q199); (try clear q2); (try clear q20); (try clear q203); (try clear q204); (try clear q215); (try clear q24); (try clear q27); (try clear q29); (try clear q3); (try clear q31); obtain ⟨x15_3, x82_3, rfl, rfl, HA, HK3, HO_7, HO_80, HO_Z0, HO_Z2, BK191, BK195, HB⟩ := hrel
          cases gk with
          | zero => exact absurd HA.out (by simp [impl_ribbon.l2])
          | succ k3 =>
           have H := HA.out; clear HA; simp only [impl_ribbon.l2] at H
           by_cases c63 : x82_3 < (t216.length : Int)
           ·
            rw [if_pos c63] at H; have c63b0 := decide_eq_true c63; clear c63
            by_cases c64 : 0 ≤ x82_3
            ·
             rw [if_pos c64] at H; have c64b0 := decide_eq_true c64; clear c64
             by_cases c65 : x82_3 < (t216.length : Int)
             ·
              rw [if_pos c65] at H; have c65b0 := decide_eq_true c65; clear c65; replace H := Option.bind_eq_some_iff.mp H; obtain ⟨t220, A660, H⟩ := H; replace H : (if t220 = true then (impl_ribbon.l2 k3 l1 (l0_0.length : Int) x7_1 x12_2 x15_3 t216 (t216.length : Int) (wrap64 (x82_3 + 1)) l0_0 l0_1 xZ2_1) else (impl_ribbon.l2 k3 l1 (l0_0.length : Int) x7_1 x12_2 (wrap64 (x15_3 + 1)) t216 (t216.length : Int) (wrap64 (x82_3 + 1)) l0_0 l0_1 xZ2_1)) = some r := H; have A66 := Az A660; clear A660
              by_cases c67 : t220 = true
              ·
               subst c67
               have H1 : (impl_ribbon.l2 k3 l1 (l0_0.length : Int) x7_1 x12_2 x15_3 t216 (t216.length : Int) (wrap64 (x82_3 + 1)) l0_0 l0_1 xZ2_1) = some r := by rw [if_pos rfl] at H; exact H
               clear H; have H := H1; clear H1; have H' := Az H; clear H; have p219 : 0 ≤ (x82_3 : Int) := oA; have q219 : x82_3 < (t216.length : Int) := oA; obtain ⟨ad219, A219_0, c219_0, e219, hx219_0, hl219_0, hi219_0⟩ := at_L1 (Kd.N_reads' HO_80.out).2.2 x82_3 p219 q219
               cases e219
               obtain ⟨ce219, hce219, hMe219, hcc219⟩ := Kd.N_get HO_80.out [] x82_3 p219 (by first | exact q219 | exact oA | (have e_ := (Kd.N_reads' HO_80.out).1; omega)); obtain ⟨ua219_0, uc219_0, rfl, ul219_0, ge219_0⟩ := Kd.FK_slice_open hMe219; have hv219_0 := hcc219 0 _ rfl; rw [Nat.add_zero, show ((Kd.slice 3 (Kd.int .i64))).sz = 1 from rfl, Nat.mul_one] at hv219_0; replace hv219_0 := Option.some.inj (hv219_0.symm.trans hx219_0); injection hv219_0 with hva_ hvn_ hvc_; rw [hva_] at ge219_0; rw [hvc_] at ul219_0; have HL219_0 := Az (show Kd.V (Kd.int .i64) 3 _ w.heap.size _ _ (rd_L1 t216 x82_3) from Kd.V_mk ul219_0 ge219_0); clear hva_ hvn_ hvc_ ge219_0 ul219_0 hcc219 hce219; have HR219_0 := Az hi219_0; have HC219_0 := Az hl219_0; clear hi219_0 hl219_0; replace p219 := eq_true p219; replace q219 := eq_true q219; obtain ⟨Ao68, co68, eo68⟩ := Kd.R_slice HO_Z2.out; subst eo68
               go_wp2_with (first | ((with_reducible refine gate_callee (f := 102) rfl ?_); refine goesL_ (some 88) rfl rfl Try.func102 (by kernel_rfl) rfl #[.slice A219_0 (rd_L1 t216 x82_3).length c219_0, .func (.func 103) #[] #[.pointer (some ⟨gb195, 0, none⟩)]] rfl (by (try simp only [List.map_toArray, List.map_cons, List.map_nil]); first | done | rfl | (simp only [List.length_drop, List.length_take]; rfl)) ?_; (with_reducible refine (containsF.calls k3 _ _ (rd_L1 t216 x82_3) gb195 Ao68 co68 xZ2_1 true _ ?side1 ?side2 ?side3 ?side4 ?side5 A66.out).mono ?_); (case side1 => (with_reducible repeat (first | refine blk_drewN ?_ _ | refine blk_drew ?_ | refine blk_alloc ?_ _)); exact BK195.out); (case side2 => exact cU (by repeat (first | (with_reducible exact HR219_0.out) | (with_reducible refine Kd.C_alloc ?_ _) | (with_reducible refine Kd.C_drewN ?_ _) | (with_reducible refine Kd.C_drew ?_) | exact HR219_0.out))); (case side3 => exact HC219_0.out); (case side4 => exact cU ((Kd.R_reads' HO_Z2.out).2.2)); (case side5 => exact (Kd.R_reads' HO_Z2.out).2.1); rintro e w69 ⟨rfl, hb⟩; refine ⟨_, rfl, ?_⟩; have n0 := Az (Kd.R_below (rU HO_7.out) hb); have n1 := Az (Kd.N_below (nU HO_80.out) hb); have n2 := Az (Kd.V_below (vU HO_Z0.out) hb); have n3 := Az (Kd.R_below (rU HO_Z2.out) hb); have n4 := Az (Kd.V_below (vU HL219_0.out) hb); have n5 := Az (blk_below (g := gb191) (o := .cells #[.slice A0_0 l0_0.length c0_0, .slice A0_1 l0_1.length c0_1] 25 (0, 0)) (kU BK191.out) hb); have n6 := Az (blk_below (g := gb195) (o := .cells #[.slice Ao68 xZ2_1.length co68] 78 (0, 0)) (kU BK195.out) hb); have n7 := Az (Kd.C_below (by repeat (first | (with_reducible exact HR219_0.out) | (with_reducible refine Kd.C_alloc ?_ _) | (with_reducible refine Kd.C_drewN ?_ _) | (with_reducible refine Kd.C_drew ?_) | exact HR219_0.out)) hb); have n8 := Az (below_step (bU2 HB.out GE191.out GE195.out) hb); clear HO_7 HO_80 HO_Z0 HO_Z2 HL219_0 BK191 BK195 HR219_0 HB; have HO_7 := n0; have HO_80 := n1; have HO_Z0 := n2; have HO_Z2 := n3; have HL219_0 := n4; have BK191 := n5; have BK195 := n6; have HR219_0 := n7; have HB := n8; clear n0 n1 n2 n3 n4 n5 n6 n7 n8; (try clear hb); (try clear hb2); (try clear hk); (try clear hi)))
               (first | go_roundg k3 | (refine Handed.intro k3 ?measure ?_; rotate_left; go_step; (try simp only [add_plain]); (repeat apply Exists.intro); refine ⟨?rel, rfl⟩))
               case measure => have := HK1.out; have := HK2.out; have := HK3.out; omega
               case rel => exact ⟨(x15_3), (wrap64 (x82_3 + 1)), rS, rS, H', ⟨by have := HK1.out; have := HK2.out; have := HK3.out; omega⟩, ⟨rU HO_7.out⟩, ⟨nU HO_80.out⟩, ⟨vU HO_Z0.out⟩, ⟨rU HO_Z2.out⟩, ⟨kU BK191.out⟩, ⟨kU BK195.out⟩, ⟨bU2 HB.out GE191.out GE195.out⟩⟩
              ·
               replace c67 := Bool.eq_false_iff.mpr c67; subst c67
               have H1 : (impl_ribbon.l2 k3 l1 (l0_0.length : Int) x7_1 x12_2 (wrap64 (x15_3 + 1)) t216 (t216.length : Int) (wrap64 (x82_3 + 1)) l0_0 l0_1 xZ2_1) = some r := by rw [if_neg (show ¬ (false = true) by decide)] at H; exact H
               clear H; have H := H1; clear H1; have H' := Az H; clear H; have p219 : 0 ≤ (x82_3 : Int) := oA; have q219 : x82_3 < (t216.length : Int) := oA; obtain ⟨ad219, A219_0, c219_0, e219, hx219_0, hl219_0, hi219_0⟩ := at_L1 (Kd.N_reads' HO_80.out).2.2 x82_3 p219 q219
               cases e219
               obtain ⟨ce219, hce219, hMe219, hcc219⟩ := Kd.N_get HO_80.out [] x82_3 p219 (by first | exact q219 | exact oA | (have e_ := (Kd.N_reads' HO_80.out).1; omega)); obtain ⟨ua219_0, uc219_0, rfl, ul219_0, ge219_0⟩ := Kd.FK_slice_open hMe219; have hv219_0 := hcc219 0 _ rfl; rw [Nat.add_zero, show ((Kd.slice 3 (Kd.int .i64))).sz = 1 from rfl, Nat.mul_one] at hv219_0; replace hv219_0 := Option.some.inj (hv219_0.symm.trans hx219_0); injection hv219_0 with hva_ hvn_ hvc_; rw [hva_] at ge219_0; rw [hvc_] at ul219_0; have HL219_0 := Az (show Kd.V (Kd.int .i64) 3 _ w.heap.size _ _ (rd_L1 t216 x82_3) from Kd.V_mk ul219_0 ge219_0); clear hva_ hvn_ hvc_ ge219_0 ul219_0 hcc219 hce219; have HR219_0 := Az hi219_0; have HC219_0 := Az hl219_0; clear hi219_0 hl219_0; replace p219 := eq_true p219; replace q219 := eq_true q219; obtain ⟨Ao70, co70, eo70⟩ := Kd.R_slice HO_Z2.out; subst eo70
               go_wp2_with (first | ((with_reducible refine gate_callee (f := 102) rfl ?_); refine goesL_ (some 88) rfl rfl Try.func102 (by kernel_rfl) rfl #[.slice A219_0 (rd_L1 t216 x82_3).length c219_0, .func (.func 103) #[] #[.pointer (some ⟨gb195, 0, none⟩)]] rfl (by (try simp only [List.map_toArray, List.map_cons, List.map_nil]); first | done | rfl | (simp only [List.length_drop, List.length_take]; rfl)) ?_; (with_reducible refine (containsF.calls k3 _ _ (rd_L1 t216 x82_3) gb195 Ao70 co70 xZ2_1 false _ ?side1 ?side2 ?side3 ?side4 ?side5 A66.out).mono ?_); (case side1 => (with_reducible repeat (first | refine blk_drewN ?_ _ | refine blk_drew ?_ | refine blk_alloc ?_ _)); exact BK195.out); (case side2 => exact cU (by repeat (first | (with_reducible exact HR219_0.out) | (with_reducible refine Kd.C_alloc ?_ _) | (with_reducible refine Kd.C_drewN ?_ _) | (with_reducible refine Kd.C_drew ?_) | exact HR219_0.out))); (case side3 => exact HC219_0.out); (case side4 => exact cU ((Kd.R_reads' HO_Z2.out).2.2)); (case side5 => exact (Kd.R_reads' HO_Z2.out).2.1); rintro e w71 ⟨rfl, hb⟩; refine ⟨_, rfl, ?_⟩; have n0 := Az (Kd.R_below (rU HO_7.out) hb); have n1 := Az (Kd.N_below (nU HO_80.out) hb); have n2 := Az (Kd.V_below (vU HO_Z0.out) hb); have n3 := Az (Kd.R_below (rU HO_Z2.out) hb); have n4 := Az (Kd.V_below (vU HL219_0.out) hb); have n5 := Az (blk_below (g := gb191) (o := .cells #[.slice A0_0 l0_0.length c0_0, .slice A0_1 l0_1.length c0_1] 25 (0, 0)) (kU BK191.out) hb); have n6 := Az (blk_below (g := gb195) (o := .cells #[.slice Ao70 xZ2_1.length co70] 78 (0, 0)) (kU BK195.out) hb); have n7 := Az (Kd.C_below (by repeat (first | (with_reducible exact HR219_0.out) | (with_reducible refine Kd.C_alloc ?_ _) | (with_reducible refine Kd.C_drewN ?_ _) | (with_reducible refine Kd.C_drew ?_) | exact HR219_0.out)) hb); have n8 := Az (below_step (bU2 HB.out GE191.out GE195.out) hb); clear HO_7 HO_80 HO_Z0 HO_Z2 HL219_0 BK191 BK195 HR219_0 HB; have HO_7 := n0; have HO_80 := n1; have HO_Z0 := n2; have HO_Z2 := n3; have HL219_0 := n4; have BK191 := n5; have BK195 := n6; have HR219_0 := n7; have HB := n8; clear n0 n1 n2 n3 n4 n5 n6 n7 n8; (try clear hb); (try clear hb2); (try clear hk); (try clear hi)))
               (first | go_roundg k3 | (refine Handed.intro k3 ?measure ?_; rotate_left; go_step; (try simp only [add_plain]); (repeat apply Exists.intro); refine ⟨?rel, rfl⟩))
               case measure => have := HK1.out; have := HK2.out; have := HK3.out; omega
               case rel => exact ⟨(wrap64 (x15_3 + 1)), (wrap64 (x82_3 + 1)), rS, rS, H', ⟨by have := HK1.out; have := HK2.out; have := HK3.out; omega⟩, ⟨rU HO_7.out⟩, ⟨nU HO_80.out⟩, ⟨vU HO_Z0.out⟩, ⟨rU HO_Z2.out⟩, ⟨kU BK191.out⟩, ⟨kU BK195.out⟩, ⟨bU2 HB.out GE191.out GE195.out⟩⟩
             ·
              rw [if_neg c65] at H
              exact absurd H (by simp)
            ·
             rw [if_neg c64] at H
             exact absurd H (by simp)
           ·
            rw [if_neg c63] at H; have c63b0 := decide_eq_false c63; clear c63
            by_cases c72 : 0 ≤ (l0_0.length : Int)
            ·
             rw [if_pos c72] at H; have c72b0 := eq_true c72; have c72b1 := decide_eq_true c72; clear c72
             by_cases c73 : ((l0_0.length : Int) : Int).toNat ≤ 281474976710656
             ·
              rw [if_pos c73] at H; have c73b0 := eq_true c73; have c73b1 := decide_eq_true c73; clear c73; obtain ⟨y221, hy221⟩ : ∃ y_ : List Bool, y_ = (List.replicate ((l0_0.length : Int) : Int).toNat false) := ⟨_, rfl⟩; replace H : (impl_ribbon.l3 k3 l1 x7_1 x12_2 x15_3 y221 (l0_0.length : Int) 0 l0_0 l0_1 xZ2_1) = some r := hR hy221 H; have Ny221 := Az hy221; clear hy221; have H' := Az H; clear H
              go_wp2_with (first | ((with_reducible refine gate_dst (N := 94) rfl ?_); refine Kd.R_make Kd.bool _ 4 rfl (N := 94) rfl 78 _ _ rfl (l0_0.length : Int) rfl rfl Try.underlying78 (.bool false) 1 info4 rfl (by decide) (by omega) false (ok := fun _ => True) (okp := fun _ => True) rfl (fun _ hk => hk) trivial (oA) (Nat.le_trans (Nat.mul_le_mul_right _ (oA : (l0_0.length : Int).toNat ≤ 281474976710656)) (by omega)) (Below.refl _ _) (Nat.le_refl _) ?_; intro v222 w74 ho75 hb hg_ hnew_; clear hg_ hnew_; (first | rw [← Ny221.out] at ho75 | (simp only [Int.reduceToNat] at ho75; rw [← Ny221.out] at ho75)); have n0 := Az (Kd.R_below (rU HO_7.out) hb); have n1 := Az (Kd.N_elder' (nU HO_80.out) (Kd.R_base ho75) hb); have n2 := Az (Kd.V_elder' (vU HO_Z0.out) (Kd.R_base ho75) hb); have n3 := Az (Kd.R_elder' (rU HO_Z2.out) (Kd.R_base ho75) hb); have n4 := Az (Kd.R_lower (Kd.R_new' (Kd.R_newM (M := fun k_ => (w.heap.size ≤ k_)) ho75 (below_size (bU2 HB.out GE191.out GE195.out)) (fun k_ h_ => h_)) (Kd.R_lt (rU HO_Z2.out))) (below_size (bU2 HB.out GE191.out GE195.out))); have n5 := Az (blk_below (g := gb191) (o := .cells #[.slice A0_0 l0_0.length c0_0, .slice A0_1 l0_1.length c0_1] 25 (0, 0)) (kU BK191.out) hb); have n6 := Az (blk_below (g := gb195) (o := .cells #[uZ2] 78 (0, 0)) (kU BK195.out) hb); have n7 := Az (below_step (bU2 HB.out GE191.out GE195.out) hb); clear HO_7 HO_80 HO_Z0 HO_Z2 BK191 BK195 HB; have HO_7 := n0; have HO_80 := n1; have HO_Z0 := n2; have HO_Z2 := n3; have HO223 := n4; have BK191 := n5; have BK195 := n6; have HB := n7; clear n0 n1 n2 n3 n4 n5 n6 n7; clear hb ho75))
              go_loopg [15, 96] k3 (fun kq v15 v96 w' => ∃ (x15_4 : Int) (x18_4 : List Bool) (x96_4 : Int), v15 = .int .i64 x15_4 ∧ v96 = .int .i64 x96_4 ∧ Aside0 (impl_ribbon.l3 kq l1 x7_1 x12_2 x15_4 x18_4 (l0_0.length : Int) x96_4 l0_0 l0_1 xZ2_1 = some r) ∧ Aside0 (kq ≤ k3) ∧ Aside0 (Kd.R (Kd.int .i64) 3 w' w.heap.size (fun k_ => (w.heap.size ≤ k_)) (.slice Ao48 x7_1.length co48) x7_1) ∧ Aside0 (Kd.R Kd.bool 4 w' w.heap.size (fun k_ => (w.heap.size ≤ k_) ∧ some k_ ≠ (uZ2 : Value).ownBlock) v222 x18_4) ∧ Aside0 (Kd.V (Kd.int .i64) 3 w' w.heap.size (fun k_ => (P0_0_ k_ ∨ w.heap.size ≤ k_) ∧ some k_ ≠ ((.slice Ao48 x7_1.length co48) : Value).ownBlock ∧ some k_ ≠ (v222 : Value).ownBlock ∧ some k_ ≠ (uZ2 : Value).ownBlock ∧ k_ ≠ gb191 ∧ k_ ≠ gb195) (.slice A0_0 l0_0.length c0_0) l0_0) ∧ Aside0 (Kd.R Kd.bool 4 w' w.heap.size (fun k_ => (w.heap.size ≤ k_) ∧ some k_ ≠ (v222 : Value).ownBlock) uZ2 xZ2_1) ∧ Aside0 (w'.heap[gb191]? = some (.cells #[(.slice A0_0 l0_0.length c0_0), (.slice A0_1 l0_1.length c0_1)] 25 (0, 0))) ∧ Aside0 (w'.heap[gb195]? = some (.cells #[uZ2] 78 (0, 0))) ∧ Aside0 (Below w.heap.size w w'))
              case atStart => exact ⟨(x15_3), (y221), (0), rS, rS, H', ⟨Nat.le_refl _⟩, ⟨rU HO_7.out⟩, ⟨by (with_reducible repeat (first | apply Kd.R_alloc | apply Kd.R_drewN | apply Kd.R_drew)); exact Kd.R_mono HO223.out (fun _ hk => ⟨hk.1.1, hk.2⟩)⟩, ⟨by (with_reducible repeat (first | apply Kd.V_alloc | apply Kd.V_drewN | apply Kd.V_drew)); exact Kd.V_mono HO_Z0.out (fun _ hk => ⟨hk.1.1, ⟨hk.1.2.1, ⟨hk.2, ⟨hk.1.2.2.2.1, ⟨hk.1.2.2.2.2.1, hk.1.2.2.2.2.2⟩⟩⟩⟩⟩)⟩, ⟨rU HO_Z2.out⟩, ⟨kU BK191.out⟩, ⟨kU BK195.out⟩, ⟨bU2 HB.out GE191.out GE195.out⟩⟩
              case round =>
               clear H'; (try clear c1); (try clear p1); (try clear q1); (try clear hx1); (try clear c2); (try clear p2); (try clear q2); (try clear hx2); (try clear hf2); (try clear c3); (try clear c3b0); (try clear c3b1); (try clear p3); (try clear q3); (try clear hx3); (try clear hf3); (try clear c4); (try clear c4b0); (try clear c4b1); (try clear c5); (try clear c6); (try clear p6); (try clear c7); (try clear c8); (try clear c9); (try clear c10); (try clear c12); (try clear c15); (try clear c15b0); (try clear c16); (try clear c16b0); (try clear c17); (try clear c17b0); (try clear c19); (try clear c19b0); (try clear p19); (try clear q19); (try clear hx19); (try clear c20); (try clear c20b0); (try clear p20); (try clear q20); (try clear hx20); (try clear c21); (try clear c21b0); (try clear p21); (try clear q21); (try clear hx21); (try clear c22); (try clear c22b0); (try clear c23); (try clear c23b0); (try clear p24); (try clear q24); (try clear hx24); (try clear hf24); (try clear c25); (try clear c25b0); (try clear c26); (try clear c26b0); (try clear p27); (try clear q27); (try clear hx27); (try clear hf27); (try clear c28); (try clear c28b0); (try clear p29); (try clear q29); (try clear hx29); (try clear hf29); (try clear c30); (try clear c30b0); (try clear p31); (try clear q31); (try clear hx31); (try clear hf31); (try clear c32); (try clear c46); (try clear c54); (try clear c54b0); (try clear c55); (try clear c55b0); (try clear c56); (try clear c56b0); (try clear c57); (try clear c57b0); (try clear c57b1); (try clear c59); (try clear c63); (try clear c63b0); (try clear c64); (try clear c64b0); (try clear p64); (try clear c65); (try clear c65b0); (try clear c67); (try clear c72); (try clear c72b0); (try clear c72b1); (try clear c73); (try clear c73b0); (try clear c73b1); (try clear hcz13_0); (try clear hcz33_0); (try clear hcz33_1); (try clear hcz36_0); (try clear hcz36_1); (try clear hcz47_0); (try clear hcz47_1); (try clear hcz60_0); (try clear hcz60_1); (try clear hcz7_0); (try clear hcz7_1); (try clear hfz13_0); (try clear hfz33_0); (try clear hfz33_1); (try clear hfz36_0); (try clear hfz36_1); (try clear hfz47_0); (try clear hfz47_1); (try clear hfz60_0); (try clear hfz60_1); (try clear hfz7_0); (try clear hfz7_1); (try clear hx199_0); (try clear hx203_0); (try clear hx204_0); (try clear hx215_0); (try clear hx219_0); (try clear hx24_0); (try clear hx27_0); (try clear hx29_0); (try clear hx31_0); (try clear p1); (try clear p19); (try clear p199); (try clear p2); (try clear p20); (try clear p203); (try clear p204); (try clear p21); (try clear p215); (try clear p219); (try clear p24); (try clear p27); (try clear p29); (try clear p3); (try clear p31); (try clear p6); (try clear q1); (try clear q19); (try clear q199); (try clear q2); (try clear q20); (try clear q203); (try clear q204); (try clear q21); (try clear q215); (try clear q219); (try clear q24); (try clear q27); (try clear q29); (try clear q3); (try clear q31); obtain ⟨x15_4, x18_4, x96_4, rfl, rfl, HA, HK4, HO_7, HO_18, HO_Z0, HO_Z2, BK191, BK195, HB⟩ := hrel
               cases gk with
               | zero => exact absurd HA.out (by simp [impl_ribbon.l3])
               | succ k4 =>
                have H := HA.out; clear HA; simp only [impl_ribbon.l3] at H
                by_cases c76 : x96_4 < (l0_0.length : Int)
                ·
                 rw [if_pos c76] at H; have c76b0 := decide_eq_true c76; clear c76; have HC77 := Az H; clear H
                 go_upto_region 30 with (fail)
                 go_cut [109] (fun v109 wc => ∃ (kq : Nat) (x109_76 : Bool), v109 = .bool x109_76 ∧ Aside0 (impl_ribbon.j4 kq l1 x7_1 x12_2 x15_4 x18_4 x96_4 (l0_0.length : Int) x96_4 x109_76 l0_0 l0_1 xZ2_1 = some r) ∧ Aside0 (kq ≤ k4) ∧ Aside0 (Kd.R (Kd.int .i64) 3 wc w.heap.size (fun k_ => (w.heap.size ≤ k_)) (.slice Ao48 x7_1.length co48) x7_1) ∧ Aside0 (Kd.R Kd.bool 4 wc w.heap.size (fun k_ => (w.heap.size ≤ k_) ∧ some k_ ≠ (uZ2 : Value).ownBlock) v222 x18_4) ∧ Aside0 (Kd.V (Kd.int .i64) 3 wc w.heap.size (fun k_ => (P0_0_ k_ ∨ w.heap.size ≤ k_) ∧ some k_ ≠ ((.slice Ao48 x7_1.length co48) : Value).ownBlock ∧ some k_ ≠ (v222 : Value).ownBlock ∧ some k_ ≠ (uZ2 : Value).ownBlock ∧ k_ ≠ gb191 ∧ k_ ≠ gb195) (.slice A0_0 l0_0.length c0_0) l0_0) ∧ Aside0 (Kd.R Kd.bool 4 wc w.heap.size (fun k_ => (w.heap.size ≤ k_) ∧ some k_ ≠ (v222 : Value).ownBlock) uZ2 xZ2_1) ∧ Aside0 (wc.heap[gb191]? = some (.cells #[(.slice A0_0 l0_0.length c0_0), (.slice A0_1 l0_1.length c0_1)] 25 (0, 0))) ∧ Aside0 (wc.heap[gb195]? = some (.cells #[uZ2] 78 (0, 0))) ∧ Aside0 (Below w.heap.size w wc))
                 case first =>
                  have H := HC77.out; clear HC77
                  by_cases c78 : 0 ≤ x96_4
                  ·
                   rw [if_pos c78] at H; have c78b0 := decide_eq_true c78; clear c78; (first | rw [c78b0] | (simp only [i64_w, i32_w]; rw [c78b0]) | skip)
                   by_cases c79 : x96_4 < (xZ2_1.length : Int)
                   ·
                    rw [if_pos c79] at H; have c79b0 := decide_eq_true c79; clear c79; obtain ⟨bq80, hbq80⟩ : ∃ b_ : Bool, b_ = (rdOf false xZ2_1 x96_4) := ⟨_, rfl⟩
                    replace H : (if bq80 = true then (if x96_4 < (x18_4.length : Int) then (impl_ribbon.j4 k4 l1 x7_1 x12_2 x15_4 x18_4 x96_4 (l0_0.length : Int) x96_4 (rdOf false x18_4 x96_4) l0_0 l0_1 xZ2_1) else (none)) else (impl_ribbon.j4 k4 l1 x7_1 x12_2 x15_4 x18_4 x96_4 (l0_0.length : Int) x96_4 true l0_0 l0_1 xZ2_1)) = some r := by rw [← hbq80] at H; exact H
                    have Nbq80 := Az hbq80; clear hbq80
                    by_cases c81 : bq80 = true
                    ·
                     subst c81
                     have H1 : (if x96_4 < (x18_4.length : Int) then (impl_ribbon.j4 k4 l1 x7_1 x12_2 x15_4 x18_4 x96_4 (l0_0.length : Int) x96_4 (rdOf false x18_4 x96_4) l0_0 l0_1 xZ2_1) else (none)) = some r := by rw [if_pos rfl] at H; exact H
                     clear H; have H := H1; clear H1
                     by_cases c82 : x96_4 < (x18_4.length : Int)
                     ·
                      rw [if_pos c82] at H; have c82b0 := decide_eq_true c82; clear c82; have H' := Az H; clear H; have hnb83 := NB195_191.out; have hnc83 := NB191_195.out; have hcz84_0 : wr.cell? ⟨gb195, 0, none⟩ = some (uZ2) := (blk_cell BK195.out 0).trans rfl; have hfz84_0 := blk_frozen BK195.out 0; obtain ⟨Ao85, co85, eo85⟩ := Kd.R_slice HO_Z2.out; subst eo85; have p230 : 0 ≤ (x96_4 : Int) := oA; have q230 : x96_4 < (xZ2_1.length : Int) := oA; obtain ⟨ad230, e230, hx230_0⟩ := Kd.at_bool (Kd.R_reads' HO_Z2.out).2.2 x96_4 p230 q230; (try rw [← Nbq80.out] at hx230_0)
                      cases e230
                      replace p230 := eq_true p230; replace q230 := eq_true q230; obtain ⟨Ao86, co86, eo86⟩ := Kd.R_slice HO_18.out; subst eo86; have p231 : 0 ≤ (x96_4 : Int) := oA; have q231 : x96_4 < (x18_4.length : Int) := oA; obtain ⟨ad231, e231, hx231_0⟩ := Kd.at_bool (Kd.R_reads' HO_18.out).2.2 x96_4 p231 q231; (try rw [← Nbq80.out] at hx231_0)
                      cases e231
                      replace p231 := eq_true p231; replace q231 := eq_true q231
                      go_wp2
                      go_meet
                      case rel => exact ⟨_, (rdOf false x18_4 x96_4), rS, H', ⟨by have := HK1.out; have := HK2.out; have := HK3.out; have := HK4.out; first | omega | exact Nat.le_refl _⟩, ⟨rU HO_7.out⟩, ⟨rU HO_18.out⟩, ⟨vU HO_Z0.out⟩, ⟨rU HO_Z2.out⟩, ⟨kU BK191.out⟩, ⟨kU BK195.out⟩, ⟨bU2 HB.out GE191.out GE195.out⟩⟩
                     ·
                      rw [if_neg c82] at H
                      exact absurd H (by simp)
                    ·
                     replace c81 := Bool.eq_false_iff.mpr c81; subst c81
                     have H1 : (impl_ribbon.j4 k4 l1 x7_1 x12_2 x15_4 x18_4 x96_4 (l0_0.length : Int) x96_4 true l0_0 l0_1 xZ2_1) = some r := by rw [if_neg (show ¬ (false = true) by decide)] at H; exact H
                     clear H; have H := H1; clear H1; have H' := Az H; clear H; have hnb87 := NB195_191.out; have hnc87 := NB191_195.out; have hcz88_0 : wr.cell? ⟨gb195, 0, none⟩ = some (uZ2) := (blk_cell BK195.out 0).trans rfl; have hfz88_0 := blk_frozen BK195.out 0; obtain ⟨Ao89, co89, eo89⟩ := Kd.R_slice HO_Z2.out; subst eo89; have p230 : 0 ≤ (x96_4 : Int) := oA; have q230 : x96_4 < (xZ2_1.length : Int) := oA; obtain ⟨ad230, e230, hx230_0⟩ := Kd.at_bool (Kd.R_reads' HO_Z2.out).2.2 x96_4 p230 q230; (try rw [← Nbq80.out] at hx230_0)
                     cases e230
                     replace p230 := eq_true p230; replace q230 := eq_true q230
                     go_wp2
                     go_meet
                     case rel => exact ⟨_, (true), rS, H', ⟨by have := HK1.out; have := HK2.out; have := HK3.out; have := HK4.out; first | omega | exact Nat.le_refl _⟩, ⟨rU HO_7.out⟩, ⟨rU HO_18.out⟩, ⟨vU HO_Z0.out⟩, ⟨rU HO_Z2.out⟩, ⟨kU BK191.out⟩, ⟨kU BK195.out⟩, ⟨bU2 HB.out GE191.out GE195.out⟩⟩
                   ·
                    rw [if_neg c79] at H
                    exact absurd H (by simp)
                  ·
                   rw [if_neg c78] at H
                   exact absurd H (by simp)
                 case rest =>
                  clear HC77; (try clear c1); (try clear p1); (try clear q1); (try clear hx1); (try clear c2); (try clear p2); (try clear q2); (try clear hx2); (try clear hf2); (try clear c3); (try clear c3b0); (try clear c3b1); (try clear p3); (try clear q3); (try clear hx3); (try clear hf3); (try clear c4); (try clear c4b0); (try clear c4b1); (try clear c5); (try clear c6); (try clear p6); (try clear c7); (try clear c8); (try clear q8); (try clear c9); (try clear c10); (try clear c12); (try clear c15); (try clear c15b0); (try clear c16); (try clear c16b0); (try clear c17); (try clear c17b0); (try clear c19); (try clear c19b0); (try clear p19); (try clear q19); (try clear hx19); (try clear c20); (try clear c20b0); (try clear p20); (try clear q20); (try clear hx20); (try clear c21); (try clear c21b0); (try clear p21); (try clear q21); (try clear hx21); (try clear c22); (try clear c22b0); (try clear c23); (try clear c23b0); (try clear p23); (try clear q23); (try clear hx23); (try clear p24); (try clear q24); (try clear hx24); (try clear hf24); (try clear c25); (try clear c25b0); (try clear c26); (try clear c26b0); (try clear p27); (try clear q27); (try clear hx27); (try clear hf27); (try clear c28); (try clear c28b0); (try clear p29); (try clear q29); (try clear hx29); (try clear hf29); (try clear c30); (try clear c30b0); (try clear p31); (try clear q31); (try clear hx31); (try clear hf31); (try clear c32); (try clear c46); (try clear c54); (try clear c54b0); (try clear c55); (try clear c55b0); (try clear c56); (try clear c56b0); (try clear c57); (try clear c57b0); (try clear c57b1); (try clear c59); (try clear c63); (try clear c63b0); (try clear c64); (try clear c64b0); (try clear p64); (try clear c65); (try clear c65b0); (try clear c67); (try clear c72); (try clear c72b0); (try clear c72b1); (try clear c73); (try clear c73b0); (try clear c73b1); (try clear c76); (try clear c76b0); (try clear c78); (try clear c78b0); (try clear c79); (try clear c79b0); (try clear c80); (try clear q80); (try clear c81); (try clear c82); (try clear c82b0); (try clear c83); (try clear c87); (try clear hcz13_0); (try clear hcz33_0); (try clear hcz33_1); (try clear hcz36_0); (try clear hcz36_1); (try clear hcz47_0); (try clear hcz47_1); (try clear hcz60_0); (try clear hcz60_1); (try clear hcz7_0); (try clear hcz7_1); (try clear hcz84_0); (try clear hcz88_0); (try clear hfz13_0); (try clear hfz33_0); (try clear hfz33_1); (try clear hfz36_0); (try clear hfz36_1); (try clear hfz47_0); (try clear hfz47_1); (try clear hfz60_0); (try clear hfz60_1); (try clear hfz7_0); (try clear hfz7_1); (try clear hfz84_0); (try clear hfz88_0); (try clear hx199_0); (try clear hx203_0); (try clear hx204_0); (try clear hx215_0); (try clear hx219_0); (try clear hx230_0); (try clear hx231_0); (try clear hx24_0); (try clear hx27_0); (try clear hx29_0); (try clear hx31_0); (try clear p1); (try clear p19); (try clear p199); (try clear p2); (try clear p20); (try clear p203); (try clear p204); (try clear p21); (try clear p215); (try clear p219); (try clear p230); (try clear p231); (try clear p24); (try clear p27); (try clear p29); (try clear p3); (try clear p31); (try clear p6); (try clear p64); (try clear q1); (try clear q19); (try clear q199); (try clear q2); (try clear q20); (try clear q203); (try clear q204); (try clear q21); (try clear q215); (try clear q219); (try clear q230); (try clear q231); (try clear q24); (try clear q27); (try clear q29); (try clear q3); (try clear q31); obtain ⟨kq, x109_76, rfl, HA, HJ76, HO_7, HO_18, HO_Z0, HO_Z2, BK191, BK195, HB⟩ := hcut
                  cases kq with
                  | zero => exact absurd HA.out (by simp [impl_ribbon.j4])
                  | succ kj76 =>
                   have H := HA.out; clear HA; simp only [impl_ribbon.j4] at H
                   by_cases c90 : x109_76 = true
                   ·
                    subst c90
                    have H1 : (impl_ribbon.l3 kj76 l1 x7_1 x12_2 x15_4 x18_4 (l0_0.length : Int) (wrap64 (x96_4 + 1)) l0_0 l0_1 xZ2_1) = some r := by rw [if_pos rfl] at H; exact H
                    clear H; have H := H1; clear H1; have H' := Az H; clear H
                    go_wp2
                    (first | go_roundg kj76 | (refine Handed.intro kj76 ?measure ?_; rotate_left; go_step; (try simp only [add_plain]); (repeat apply Exists.intro); refine ⟨?rel, rfl⟩))
                    case measure => have := HK1.out; have := HK2.out; have := HK3.out; have := HK4.out; have := HJ76.out; omega
                    case rel => exact ⟨(x15_4), (x18_4), (wrap64 (x96_4 + 1)), rS, rS, H', ⟨by have := HK1.out; have := HK2.out; have := HK3.out; have := HK4.out; have := HJ76.out; omega⟩, ⟨rU HO_7.out⟩, ⟨rU HO_18.out⟩, ⟨vU HO_Z0.out⟩, ⟨rU HO_Z2.out⟩, ⟨kU BK191.out⟩, ⟨kU BK195.out⟩, ⟨bU2 HB.out GE191.out GE195.out⟩⟩
                   ·
                    replace c90 := Bool.eq_false_iff.mpr c90; subst c90
                    have H1 : (impl_ribbon.l4 kj76 l1 x7_1 x12_2 (wrap64 (x15_4 + 1)) x18_4 x96_4 (l0_0.length : Int) x96_4 l0_0 l0_1 xZ2_1) = some r := by rw [if_neg (show ¬ (false = true) by decide)] at H; exact H
                    clear H; have H := H1; clear H1; have H' := Az H; clear H
                    go_wp2
                    go_loopg [20] kj76 (fun kq v20 w' => ∃ (x18_6 : List Bool) (x20_6 : Int), v20 = .int .i64 x20_6 ∧ Aside0 (impl_ribbon.l4 kq l1 x7_1 x12_2 (wrap64 (x15_4 + 1)) x18_6 x20_6 (l0_0.length : Int) x96_4 l0_0 l0_1 xZ2_1 = some r) ∧ Aside0 (kq ≤ kj76) ∧ Aside0 (Kd.R (Kd.int .i64) 3 w' w.heap.size (fun k_ => (w.heap.size ≤ k_)) (.slice Ao48 x7_1.length co48) x7_1) ∧ Aside0 (Kd.R Kd.bool 4 w' w.heap.size (fun k_ => (w.heap.size ≤ k_) ∧ some k_ ≠ (uZ2 : Value).ownBlock) v222 x18_6) ∧ Aside0 (Kd.V (Kd.int .i64) 3 w' w.heap.size (fun k_ => (P0_0_ k_ ∨ w.heap.size ≤ k_) ∧ some k_ ≠ ((.slice Ao48 x7_1.length co48) : Value).ownBlock ∧ some k_ ≠ (v222 : Value).ownBlock ∧ some k_ ≠ (uZ2 : Value).ownBlock ∧ k_ ≠ gb191 ∧ k_ ≠ gb195) (.slice A0_0 l0_0.length c0_0) l0_0) ∧ Aside0 (Kd.R Kd.bool 4 w' w.heap.size (fun k_ => (w.heap.size ≤ k_) ∧ some k_ ≠ (v222 : Value).ownBlock) uZ2 xZ2_1) ∧ Aside0 (w'.heap[gb191]? = some (.cells #[(.slice A0_0 l0_0.length c0_0), (.slice A0_1 l0_1.length c0_1)] 25 (0, 0))) ∧ Aside0 (w'.heap[gb195]? = some (.cells #[uZ2] 78 (0, 0))) ∧ Aside0 (Below w.heap.size w w'))
                    case atStart => exact ⟨(x18_4), (x96_4), rS, H', ⟨Nat.le_refl _⟩, ⟨rU HO_7.out⟩, ⟨rU HO_18.out⟩, ⟨vU HO_Z0.out⟩, ⟨rU HO_Z2.out⟩, ⟨kU BK191.out⟩, ⟨kU BK195.out⟩, ⟨bU2 HB.out GE191.out GE195.out⟩⟩
                    case round =>
                     clear H'; (try clear c1); (try clear p1); (try clear q1); (try clear hx1); (try clear c2); (try clear p2); (try clear q2); (try clear hx2); (try clear hf2); (try clear c3); (try clear c3b0); (try clear c3b1); (try clear p3); (try clear q3); (try clear hx3); (try clear hf3); (try clear c4); (try clear c4b0); (try clear c4b1); (try clear c5); (try clear c6); (try clear p6); (try clear c7); (try clear c8); (try clear q8); (try clear c9); (try clear c10); (try clear c12); (try clear c15); (try clear c15b0); (try clear c16); (try clear c16b0); (try clear c17); (try clear c17b0); (try clear c19); (try clear c19b0); (try clear p19); (try clear q19); (try clear hx19); (try clear c20); (try clear c20b0); (try clear p20); (try clear q20); (try clear hx20); (try clear c21); (try clear c21b0); (try clear p21); (try clear q21); (try clear hx21); (try clear c22); (try clear c22b0); (try clear c23); (try clear c23b0); (try clear p23); (try clear q23); (try clear hx23); (try clear p24); (try clear q24); (try clear hx24); (try clear hf24); (try clear c25); (try clear c25b0); (try clear c26); (try clear c26b0); (try clear p27); (try clear q27); (try clear hx27); (try clear hf27); (try clear c28); (try clear c28b0); (try clear p29); (try clear q29); (try clear hx29); (try clear hf29); (try clear c30); (try clear c30b0); (try clear p31); (try clear q31); (try clear hx31); (try clear hf31); (try clear c32); (try clear c46); (try clear c54); (try clear c54b0); (try clear c55); (try clear c55b0); (try clear c56); (try clear c56b0); (try clear c57); (try clear c57b0); (try clear c57b1); (try clear c59); (try clear c63); (try clear c63b0); (try clear c64); (try clear c64b0); (try clear p64); (try clear c65); (try clear c65b0); (try clear c67); (try clear c72); (try clear c72b0); (try clear c72b1); (try clear c73); (try clear c73b0); (try clear c73b1); (try clear c76); (try clear c76b0); (try clear c78); (try clear c78b0); (try clear c79); (try clear c79b0); (try clear c80); (try clear q80); (try clear c81); (try clear c82); (try clear c82b0); (try clear c83); (try clear c87); (try clear c90); (try clear hcz13_0); (try clear hcz33_0); (try clear hcz33_1); (try clear hcz36_0); (try clear hcz36_1); (try clear hcz47_0); (try clear hcz47_1); (try clear hcz60_0); (try clear hcz60_1); (try clear hcz7_0); (try clear hcz7_1); (try clear hcz84_0); (try clear hcz88_0); (try clear hfz13_0); (try clear hfz33_0); (try clear hfz33_1); (try clear hfz36_0); (try clear hfz36_1); (try clear hfz47_0); (try clear hfz47_1); (try clear hfz60_0); (try clear hfz60_1); (try clear hfz7_0); (try clear hfz7_1); (try clear hfz84_0); (try clear hfz88_0); (try clear hx199_0); (try clear hx203_0); (try clear hx204_0); (try clear hx215_0); (try clear hx219_0); (try clear hx230_0); (try clear hx231_0); (try clear hx24_0); (try clear hx27_0); (try clear hx29_0); (try clear hx31_0); (try clear p1); (try clear p19); (try clear p199); (try clear p2); (try clear p20); (try clear p203); (try clear p204); (try clear p21); (try clear p215); (try clear p219); (try clear p23); (try clear p230); (try clear p231); (try clear p24); (try clear p27); (try clear p29); (try clear p3); (try clear p31); (try clear p6); (try clear p64); (try clear q1); (try clear q19); (try clear q199); (try clear q2); (try clear q20); (try clear q203); (try clear q204); (try clear q21); (try clear q215); (try clear q219); (try clear q23); (try clear q230); (try clear q231); (try clear q24); (try clear q27); (try clear q29); (try clear q3); (try clear q31); (try clear q8); (try clear q80); obtain ⟨x18_6, x20_6, rfl, HA, HK6, HO_7, HO_18, HO_Z0, HO_Z2, BK191, BK195, HB⟩ := hrel
                     cases gk with
                     | zero => exact absurd HA.out (by simp [impl_ribbon.l4])
                     | succ k6 =>
                      have H := HA.out; clear HA; simp only [impl_ribbon.l4] at H
                      by_cases c91 : 0 ≤ x20_6
                      ·
                       rw [if_pos c91] at H; have c91b0 := decide_eq_true c91; clear c91
                       by_cases c92 : x20_6 < (x18_6.length : Int)
                       ·
                        rw [if_pos c92] at H; have c92b0 := decide_eq_true c92; clear c92; obtain ⟨bq93, hbq93⟩ : ∃ b_ : Bool, b_ = (rdOf false x18_6 x20_6) := ⟨_, rfl⟩
                        replace H : (if bq93 = true then (impl_ribbon.l3 k6 l1 x7_1 x12_2 (wrap64 (x15_4 + 1)) x18_6 (l0_0.length : Int) (wrap64 (x96_4 + 1)) l0_0 l0_1 xZ2_1) else (if x20_6 < (x7_1.length : Int) then (if 0 ≤ (rd x7_1 x20_6) then (if (rd x7_1 x20_6) < (l0_0.length : Int) then (impl_ribbon.l5 k6 l1 x7_1 x12_2 (wrap64 (x15_4 + 1)) (x18_6.set (x20_6 : Int).toNat true) (rd l0_0 (rd x7_1 x20_6)) (l0_0.length : Int) x96_4 l0_0 l0_1 xZ2_1) else (none)) else (none)) else (none))) = some r := by rw [← hbq93] at H; exact H
                        have Nbq93 := Az hbq93; clear hbq93
                        by_cases c94 : bq93 = true
                        ·
                         subst c94
                         have H1 : (impl_ribbon.l3 k6 l1 x7_1 x12_2 (wrap64 (x15_4 + 1)) x18_6 (l0_0.length : Int) (wrap64 (x96_4 + 1)) l0_0 l0_1 xZ2_1) = some r := by rw [if_pos rfl] at H; exact H
                         clear H; have H := H1; clear H1; have H' := Az H; clear H; obtain ⟨Ao95, co95, eo95⟩ := Kd.R_slice HO_18.out; subst eo95; have p232 : 0 ≤ (x20_6 : Int) := oA; have q232 : x20_6 < (x18_6.length : Int) := oA; obtain ⟨ad232, e232, hx232_0⟩ := Kd.at_bool (Kd.R_reads' HO_18.out).2.2 x20_6 p232 q232; (try rw [← Nbq93.out] at hx232_0)
                         cases e232
                         replace p232 := eq_true p232; replace q232 := eq_true q232
                         go_wp2
                         (first | go_roundg k6 | (refine Handed.intro k6 ?measure ?_; rotate_left; go_step; (try simp only [add_plain]); (repeat apply Exists.intro); refine ⟨?rel, rfl⟩))
                         case measure => have := HK1.out; have := HK2.out; have := HK3.out; have := HK4.out; have := HJ76.out; have := HK6.out; omega
                         case rel => exact ⟨((wrap64 (x15_4 + 1))), (x18_6), (wrap64 (x96_4 + 1)), rS, rS, H', ⟨by have := HK1.out; have := HK2.out; have := HK3.out; have := HK4.out; have := HJ76.out; have := HK6.out; omega⟩, ⟨rU HO_7.out⟩, ⟨rU HO_18.out⟩, ⟨vU HO_Z0.out⟩, ⟨rU HO_Z2.out⟩, ⟨kU BK191.out⟩, ⟨kU BK195.out⟩, ⟨bU2 HB.out GE191.out GE195.out⟩⟩
                        ·
                         replace c94 := Bool.eq_false_iff.mpr c94; subst c94
                         have H1 : (if x20_6 < (x7_1.length : Int) then (if 0 ≤ (rd x7_1 x20_6) then (if (rd x7_1 x20_6) < (l0_0.length : Int) then (impl_ribbon.l5 k6 l1 x7_1 x12_2 (wrap64 (x15_4 + 1)) (x18_6.set (x20_6 : Int).toNat true) (rd l0_0 (rd x7_1 x20_6)) (l0_0.length : Int) x96_4 l0_0 l0_1 xZ2_1) else (none)) else (none)) else (none)) = some r := by rw [if_neg (show ¬ (false = true) by decide)] at H; exact H
                         clear H; have H := H1; clear H1; obtain ⟨y233, hy233⟩ : ∃ y_ : List Bool, y_ = (x18_6.set (x20_6 : Int).toNat true) := ⟨_, rfl⟩; replace H : (if x20_6 < (x7_1.length : Int) then (if 0 ≤ (rd x7_1 x20_6) then (if (rd x7_1 x20_6) < (l0_0.length : Int) then (impl_ribbon.l5 k6 l1 x7_1 x12_2 (wrap64 (x15_4 + 1)) y233 (rd l0_0 (rd x7_1 x20_6)) (l0_0.length : Int) x96_4 l0_0 l0_1 xZ2_1) else (none)) else (none)) else (none)) = some r := hR hy233 H; have Ny233 := Az hy233; clear hy233
                         by_cases c97 : x20_6 < (x7_1.length : Int)
                         ·
                          rw [if_pos c97] at H; have c97b0 := decide_eq_true c97; clear c97
                          by_cases c98 : 0 ≤ (rd x7_1 x20_6)
                          ·
                           rw [if_pos c98] at H; have c98b0 := decide_eq_true c98; clear c98
                           by_cases c99 : (rd x7_1 x20_6) < (l0_0.length : Int)
                           ·
                            rw [if_pos c99] at H; have c99b0 := decide_eq_true c99; clear c99; have H' := Az H; clear H; obtain ⟨Ao100, co100, eo100⟩ := Kd.R_slice HO_18.out; subst eo100; have p232 : 0 ≤ (x20_6 : Int) := oA; have q232 : x20_6 < (x18_6.length : Int) := oA; obtain ⟨ad232, e232, hx232_0⟩ := Kd.at_bool (Kd.R_reads' HO_18.out).2.2 x20_6 p232 q232; (try rw [← Nbq93.out] at hx232_0)
                            cases e232
                            replace p232 := eq_true p232; replace q232 := eq_true q232; have p96 : 0 ≤ (x20_6 : Int) := oA; have q96 : (x20_6 : Int) < ((x18_6.length : Int) : Int) := oA; obtain ⟨go96, co96, eo96, gb96, gl96, cl96, HG96⟩ := Kd.R_form HO_18.out (by omega); (first | cases eo96 | (injection eo96 with ea_ en_ ec_; (first | subst ea_ | (injection ea_ with ea_; subst ea_)); subst ec_; clear en_)); have GB96 := Az gb96; have GG96 := Az HG96; clear gb96 gl96 HG96; (first | simp only [add_plain] at hx232_0 | skip); obtain ⟨hx96_0, hf96_0⟩ := Kd.R_celln false HO_18.out (x20_6 : Int) p96 q96; replace p96 := eq_true p96; replace q96 := eq_true q96; obtain ⟨hy101_, hz101_⟩ := Kd.R_celln false HO_18.out (x20_6 : Int) (oA) (oA); have HP101 := Kd.R_putg HO_18.out (x20_6 : Int) true
                            try go_wp2_with (first | ((with_reducible refine gate_store (t := 4) (p := 120) rfl ?_); refine store_event (t := 4) (p := 120) (v := ?vo_w102) (w1 := (wr.setCell ⟨go96, (x20_6 : Int).toNat, none⟩ (.bool true))) ?hg ?ho ?hn ?hr ?_; (case ho => rfl); (case hg => rfl); (case hn => rfl); (case hr => first | (go_simp; done) | (go_simp; rfl)); intro w102 hw; have hg : wr.grownBy w102 (some go96) := (by rw [hw]; exact HP101.2); have hp_ : Kd.R Kd.bool 4 w102 w.heap.size (fun k_ => (w.heap.size ≤ k_) ∧ some k_ ≠ (uZ2 : Value).ownBlock) (.slice (some ⟨go96, 0, none⟩) x18_6.length co100) y233 := (by rw [hw, Ny233.out]; exact HP101.1); clear HP101; have n0 := Az (Kd.R_over' (v := (.slice (some ⟨go96, 0, none⟩) x18_6.length co100)) (rU HO_7.out) (Kd.R_typed HO_18.out) (by decide) hg); have n1 := Az (hp_); have n2 := Az (Kd.V_afterv (v := (.slice (some ⟨go96, 0, none⟩) x18_6.length co100)) (v1 := (.slice (some ⟨go96, 0, none⟩) x18_6.length co100)) (ok := (fun k_ => (P0_0_ k_ ∨ w.heap.size ≤ k_) ∧ some k_ ≠ (.slice Ao48 x7_1.length co48 : Value).ownBlock ∧ some k_ ≠ (uZ2 : Value).ownBlock ∧ k_ ≠ gb191 ∧ k_ ≠ gb195)) (by (with_reducible repeat (first | apply Kd.V_alloc | apply Kd.V_drewN | apply Kd.V_drew)); exact Kd.V_mono HO_Z0.out (fun _ hk => ⟨⟨hk.1, ⟨hk.2.1, ⟨hk.2.2.2.1, ⟨hk.2.2.2.2.1, hk.2.2.2.2.2⟩⟩⟩⟩, hk.2.2.1⟩)) hg (.inl rfl)); have n3 := Az (Kd.R_after (v := (.slice (some ⟨go96, 0, none⟩) x18_6.length co100)) (v1 := (.slice (some ⟨go96, 0, none⟩) x18_6.length co100)) (ok := (fun k_ => (w.heap.size ≤ k_))) (rU HO_Z2.out) hg (.inl rfl)); have n4 := Az (blk_grown (g := gb191) (o := .cells #[.slice A0_0 l0_0.length c0_0, .slice A0_1 l0_1.length c0_1] 25 (0, 0)) (kU BK191.out) hg (Kd.R_ne HO_18.out BK191.out (by decide))); have n5 := Az (blk_grown (g := gb195) (o := .cells #[uZ2] 78 (0, 0)) (kU BK195.out) hg (Kd.R_ne HO_18.out BK195.out (by decide))); have n6 := Az ((by rw [hw]; exact below_set (HB.out) GB96.out : Below w.heap.size w w102)); clear HO_7 HO_18 HO_Z0 HO_Z2 BK191 BK195 HB; have HO_7 := n0; have HO_18 := n1; have HO_Z0 := n2; have HO_Z2 := n3; have BK191 := n4; have BK195 := n5; have HB := n6; clear n0 n1 n2 n3 n4 n5 n6; clear hg hw hp_))
                            have n0 := Az (Kd.R_drew HO_7.out); have n1 := Az (Kd.R_drew HO_18.out); have n2 := Az (Kd.V_drew HO_Z0.out); have n3 := Az (Kd.R_drew HO_Z2.out); have n4 := Az (blk_drew BK191.out); have n5 := Az (blk_drew BK195.out); have n6 := Az (below_drew1 HB.out); clear HO_7 HO_18 HO_Z0 HO_Z2 BK191 BK195 HB; have HO_7 := n0; have HO_18 := n1; have HO_Z0 := n2; have HO_Z2 := n3; have BK191 := n4; have BK195 := n5; have HB := n6; clear n0 n1 n2 n3 n4 n5 n6; have p234 : 0 ≤ (x20_6 : Int) := oA; have q234 : x20_6 < (x7_1.length : Int) := oA; obtain ⟨ad234, e234, hx234_0⟩ := Kd.at_int (Kd.R_reads' HO_7.out).2.2 x20_6 p234 q234
                            cases e234
                            replace p234 := eq_true p234; replace q234 := eq_true q234; have p235 : 0 ≤ ((rd x7_1 x20_6) : Int) := oA; have q235 : (rd x7_1 x20_6) < (l0_0.length : Int) := oA; obtain ⟨ad235, e235, hx235_0⟩ := Kd.at_int (Kd.V_reads' HO_Z0.out).2.2 (rd x7_1 x20_6) p235 q235
                            cases e235
                            replace p235 := eq_true p235; replace q235 := eq_true q235
                            refine start_ (n := 9) (S := fun w' => w'.cell? ⟨gb191, 0, none⟩ = some (.slice (some ad235) l0_0.length c0_0) ∧ w'.cell? ⟨gb191, 1, none⟩ = some (.slice A0_1 l0_1.length c0_1) ∧ w'.cell? (ad234.add (x20_6).toNat) = some (.int .i64 (rd x7_1 x20_6)) ∧ w'.cell? (ad235.add ((rd x7_1 x20_6)).toNat) = some (.int .i64 (rd l0_0 (rd x7_1 x20_6)))) (ds := []) (impl_ribbon_up [(0, some 121), (2, some 123), (3, some 124), (4, some 125), (1, some 122), (5, some 126), (6, some 127), (7, some 128), (8, some 20)] 9) (by kernel_rfl) rfl rfl ⟨(blk_cell BK191.out 0).trans rfl, (blk_cell BK191.out 1).trans rfl, hx234_0, hx235_0⟩ (fun hHeld => ?_); refine with_tabW impl_ribbon.tab35 impl_ribbon.bits35 (fun HT_ HW_ => ?_)
                            generalize w102.drew = w103 at HO_7 HO_18 HO_Z0 HO_Z2 BK191 BK195 HB hx234_0 hx235_0 hHeld ⊢
                            repeat (first | (refine impl_ribbon_uP rfl rfl (any_of HT_.out (by kernel_rfl)) (fun _ _ _ h => h) (by rfl) (v := ?_) (a' := ?_) ?_ ?_ ?_; rotate_left; (· intro w'; go_simp; with_reducible rfl); rotate_left; (· simp only [Act.put, List.setIfInBounds_toArray, List.set_cons_zero, List.set_cons_succ, i64_w, i32_w]; rfl)) | (refine impl_ribbon_uT rfl rfl (take_ofW HT_.out HW_.out (by kernel_rfl)) (fun _ _ _ h => h) (by rfl) (v := ?_) (a' := ?_) ?_ hHeld ?_ ?_; rotate_left; (· rintro w' ⟨s0, s1, s2, s3⟩; go_simp; with_reducible rfl); rotate_left; (· simp only [Act.put, List.setIfInBounds_toArray, List.set_cons_zero, List.set_cons_succ, i64_w, i32_w]; rfl)))
                            refine done_ (done_of HT_.out (by kernel_rfl)) ?_
                            try go_wp2
                            go_loopg [20] k6 (fun kq v20 w' => ∃ (x20_7 : Int), v20 = .int .i64 x20_7 ∧ Aside0 (impl_ribbon.l5 kq l1 x7_1 x12_2 (wrap64 (x15_4 + 1)) y233 x20_7 (l0_0.length : Int) x96_4 l0_0 l0_1 xZ2_1 = some r) ∧ Aside0 (kq ≤ k6) ∧ Aside0 (Kd.R (Kd.int .i64) 3 w' w.heap.size (fun k_ => (w.heap.size ≤ k_)) (.slice (some ad234) x7_1.length co48) x7_1) ∧ Aside0 (Kd.R Kd.bool 4 w' w.heap.size (fun k_ => (w.heap.size ≤ k_) ∧ some k_ ≠ (uZ2 : Value).ownBlock) (.slice (some ⟨go96, 0, none⟩) x18_6.length co100) y233) ∧ Aside0 (Kd.V (Kd.int .i64) 3 w' w.heap.size (fun k_ => (P0_0_ k_ ∨ w.heap.size ≤ k_) ∧ some k_ ≠ ((.slice (some ad234) x7_1.length co48) : Value).ownBlock ∧ some k_ ≠ ((.slice (some ⟨go96, 0, none⟩) x18_6.length co100) : Value).ownBlock ∧ some k_ ≠ (uZ2 : Value).ownBlock ∧ k_ ≠ gb191 ∧ k_ ≠ gb195) (.slice (some ad235) l0_0.length c0_0) l0_0) ∧ Aside0 (Kd.R Kd.bool 4 w' w.heap.size (fun k_ => (w.heap.size ≤ k_) ∧ some k_ ≠ ((.slice (some ⟨go96, 0, none⟩) x18_6.length co100) : Value).ownBlock) uZ2 xZ2_1) ∧ Aside0 (w'.heap[gb191]? = some (.cells #[(.slice (some ad235) l0_0.length c0_0), (.slice A0_1 l0_1.length c0_1)] 25 (0, 0))) ∧ Aside0 (w'.heap[gb195]? = some (.cells #[uZ2] 78 (0, 0))) ∧ Aside0 (Below w.heap.size w w'))
                            case atStart => exact ⟨(rd l0_0 (rd x7_1 x20_6)), rS, H', ⟨Nat.le_refl _⟩, ⟨rU HO_7.out⟩, ⟨rU HO_18.out⟩, ⟨by (with_reducible repeat (first | apply Kd.V_alloc | apply Kd.V_drewN | apply Kd.V_drew)); exact Kd.V_mono HO_Z0.out (fun _ hk => ⟨hk.1.1, ⟨hk.1.2.1, ⟨hk.2, ⟨hk.1.2.2.1, ⟨hk.1.2.2.2.1, hk.1.2.2.2.2⟩⟩⟩⟩⟩)⟩, ⟨rU HO_Z2.out⟩, ⟨kU BK191.out⟩, ⟨kU BK195.out⟩, ⟨bU2 HB.out GE191.out GE195.out⟩⟩
                            case round =>
                             clear H'; (try clear c1); (try clear p1); (try clear q1); (try clear hx1); (try clear c2); (try clear p2); (try clear q2); (try clear hx2); (try clear hf2); (try clear c3); (try clear c3b0); (try clear c3b1); (try clear p3); (try clear q3); (try clear hx3); (try clear hf3); (try clear c4); (try clear c4b0); (try clear c4b1); (try clear c5); (try clear c6); (try clear p6); (try clear c7); (try clear c8); (try clear q8); (try clear c9); (try clear p9); (try clear q9); (try clear hx9); (try clear hf9); (try clear c10); (try clear c12); (try clear c15); (try clear c15b0); (try clear c16); (try clear c16b0); (try clear c17); (try clear c17b0); (try clear c19); (try clear c19b0); (try clear p19); (try clear q19); (try clear hx19); (try clear c20); (try clear c20b0); (try clear p20); (try clear q20); (try clear hx20); (try clear c21); (try clear c21b0); (try clear p21); (try clear q21); (try clear hx21); (try clear c22); (try clear c22b0); (try clear c23); (try clear c23b0); (try clear p23); (try clear q23); (try clear hx23); (try clear p24); (try clear q24); (try clear hx24); (try clear hf24); (try clear c25); (try clear c25b0); (try clear c26); (try clear c26b0); (try clear p27); (try clear q27); (try clear hx27); (try clear hf27); (try clear c28); (try clear c28b0); (try clear p29); (try clear q29); (try clear hx29); (try clear hf29); (try clear c30); (try clear c30b0); (try clear p31); (try clear q31); (try clear hx31); (try clear hf31); (try clear c32); (try clear c46); (try clear c54); (try clear c54b0); (try clear c55); (try clear c55b0); (try clear c56); (try clear c56b0); (try clear c57); (try clear c57b0); (try clear c57b1); (try clear c59); (try clear c63); (try clear c63b0); (try clear c64); (try clear c64b0); (try clear p64); (try clear c65); (try clear c65b0); (try clear c67); (try clear c72); (try clear c72b0); (try clear c72b1); (try clear c73); (try clear c73b0); (try clear c73b1); (try clear c76); (try clear c76b0); (try clear c78); (try clear c78b0); (try clear c79); (try clear c79b0); (try clear c80); (try clear q80); (try clear c81); (try clear c82); (try clear c82b0); (try clear c83); (try clear c87); (try clear c90); (try clear c91); (try clear c91b0); (try clear c92); (try clear c92b0); (try clear q93); (try clear c94); (try clear p96); (try clear q96); (try clear hx96); (try clear hf96); (try clear c97); (try clear c97b0); (try clear c98); (try clear c98b0); (try clear c99); (try clear c99b0); (try clear hcz13_0); (try clear hcz33_0); (try clear hcz33_1); (try clear hcz36_0); (try clear hcz36_1); (try clear hcz47_0); (try clear hcz47_1); (try clear hcz60_0); (try clear hcz60_1); (try clear hcz7_0); (try clear hcz7_1); (try clear hcz84_0); (try clear hcz88_0); (try clear hfz13_0); (try clear hfz33_0); (try clear hfz33_1); (try clear hfz36_0); (try clear hfz36_1); (try clear hfz47_0); (try clear hfz47_1); (try clear hfz60_0); (try clear hfz60_1); (try clear hfz7_0); (try clear hfz7_1); (try clear hfz84_0); (try clear hfz88_0); (try clear hx199_0); (try clear hx203_0); (try clear hx204_0); (try clear hx215_0); (try clear hx219_0); (try clear hx230_0); (try clear hx231_0); (try clear hx232_0); (try clear hx234_0); (try clear hx235_0); (try clear hx24_0); (try clear hx27_0); (try clear hx29_0); (try clear hx31_0); (try clear hx96_0); (try clear p1); (try clear p19); (try clear p199); (try clear p2); (try clear p20); (try clear p203); (try clear p204); (try clear p21); (try clear p215); (try clear p219); (try clear p23); (try clear p230); (try clear p231); (try clear p232); (try clear p234); (try clear p235); (try clear p24); (try clear p27); (try clear p29); (try clear p3); (try clear p31); (try clear p6); (try clear p64); (try clear p96); (try clear q1); (try clear q19); (try clear q199); (try clear q2); (try clear q20); (try clear q203); (try clear q204); (try clear q21); (try clear q215); (try clear q219); (try clear q23); (try clear q230); (try clear q231); (try clear q232); (try clear q234); (try clear q235); (try clear q24); (try clear q27); (try clear q29); (try clear q3); (try clear q31); (try clear q8); (try clear q80); (try clear q96); obtain ⟨x20_7, rfl, HA, HK7, HO_7, HO_18, HO_Z0, HO_Z2, BK191, BK195, HB⟩ := hrel; have hl18_7 := (Kd.R_reads' HO_18.out).1; rw [hl18_7] at HO_18; (try simp only [hl18_7]); (try simp only [hl18_7] at BK191); (try simp only [hl18_7] at BK195); (try simp only [hl18_7] at HO_7); (try simp only [hl18_7] at HO_Z0); (try simp only [hl18_7] at HO_Z2)
                             cases gk with
                             | zero => exact absurd HA.out (by simp [impl_ribbon.l5])
                             | succ k7 =>
                              have H := HA.out; clear HA; simp only [impl_ribbon.l5] at H
                              by_cases c104 : 0 ≤ x20_7
                              ·
                               rw [if_pos c104] at H; have c104b0 := decide_eq_true c104; clear c104
                               by_cases c105 : x20_7 < (xZ2_1.length : Int)
                               ·
                                rw [if_pos c105] at H; have c105b0 := decide_eq_true c105; (try (have c105b0hl18_7 := c105b0; rw [hl18_7] at c105b0hl18_7)); clear c105; obtain ⟨bq106, hbq106⟩ : ∃ b_ : Bool, b_ = (rdOf false xZ2_1 x20_7) := ⟨_, rfl⟩
                                replace H : (if bq106 = true then (impl_ribbon.l4 k7 l1 x7_1 x12_2 (wrap64 (x15_4 + 1)) y233 x20_7 (l0_0.length : Int) x96_4 l0_0 l0_1 xZ2_1) else (if x20_7 < (l0_0.length : Int) then (impl_ribbon.l5 k7 l1 x7_1 x12_2 (wrap64 (x15_4 + 1)) y233 (rd l0_0 x20_7) (l0_0.length : Int) x96_4 l0_0 l0_1 xZ2_1) else (none))) = some r := by rw [← hbq106] at H; exact H
                                have Nbq106 := Az hbq106; clear hbq106
                                by_cases c107 : bq106 = true
                                ·
                                 subst c107
                                 have H1 : (impl_ribbon.l4 k7 l1 x7_1 x12_2 (wrap64 (x15_4 + 1)) y233 x20_7 (l0_0.length : Int) x96_4 l0_0 l0_1 xZ2_1) = some r := by rw [if_pos rfl] at H; exact H
                                 clear H; have H := H1; clear H1; have H' := Az H; clear H; have hnb108 := NB195_191.out; have hnc108 := NB191_195.out; have hcz109_0 : wr.cell? ⟨gb195, 0, none⟩ = some (uZ2) := (blk_cell BK195.out 0).trans rfl; have hfz109_0 := blk_frozen BK195.out 0; obtain ⟨Ao110, co110, eo110⟩ := Kd.R_slice HO_Z2.out; subst eo110; have p236 : 0 ≤ (x20_7 : Int) := oA; have q236 : x20_7 < (xZ2_1.length : Int) := oA; obtain ⟨ad236, e236, hx236_0⟩ := Kd.at_bool (Kd.R_reads' HO_Z2.out).2.2 x20_7 p236 q236; (try rw [← Nbq93.out] at hx236_0); (try rw [← Nbq106.out] at hx236_0)
                                 cases e236
                                 replace p236 := eq_true p236; replace q236 := eq_true q236
                                 go_wp2
                                 (try simp only [← hl18_7]); (first | go_roundg k7 | (refine Handed.intro k7 ?measure ?_; rotate_left; go_step; (try simp only [add_plain]); (repeat apply Exists.intro); refine ⟨?rel, rfl⟩))
                                 case measure => have := HK1.out; have := HK2.out; have := HK3.out; have := HK4.out; have := HJ76.out; have := HK6.out; have := HK7.out; omega
                                 case rel => exact ⟨(y233), (x20_7), rS, H', ⟨by have := HK1.out; have := HK2.out; have := HK3.out; have := HK4.out; have := HJ76.out; have := HK6.out; have := HK7.out; omega⟩, ⟨by (try simp only [hl18_7]); (with_reducible repeat (first | apply Kd.R_alloc | apply Kd.R_drewN | apply Kd.R_drew)); exact HO_7.out⟩, ⟨by (try simp only [hl18_7]); (with_reducible repeat (first | apply Kd.R_alloc | apply Kd.R_drewN | apply Kd.R_drew)); exact HO_18.out⟩, ⟨by (try simp only [hl18_7]); (with_reducible repeat (first | apply Kd.V_alloc | apply Kd.V_drewN | apply Kd.V_drew)); exact HO_Z0.out⟩, ⟨by (try simp only [hl18_7]); (with_reducible repeat (first | apply Kd.R_alloc | apply Kd.R_drewN | apply Kd.R_drew)); exact HO_Z2.out⟩, ⟨by (try simp only [hl18_7]); (with_reducible repeat (first | refine blk_drewN ?_ _ | refine blk_drew ?_ | refine blk_alloc ?_ _)); exact BK191.out⟩, ⟨by (try simp only [hl18_7]); (with_reducible repeat (first | refine blk_drewN ?_ _ | refine blk_drew ?_ | refine blk_alloc ?_ _)); exact BK195.out⟩, ⟨bU2 HB.out GE191.out GE195.out⟩⟩
                                ·
                                 replace c107 := Bool.eq_false_iff.mpr c107; subst c107
                                 have H1 : (if x20_7 < (l0_0.length : Int) then (impl_ribbon.l5 k7 l1 x7_1 x12_2 (wrap64 (x15_4 + 1)) y233 (rd l0_0 x20_7) (l0_0.length : Int) x96_4 l0_0 l0_1 xZ2_1) else (none)) = some r := by rw [if_neg (show ¬ (false = true) by decide)] at H; exact H
                                 clear H; have H := H1; clear H1
                                 by_cases c111 : x20_7 < (l0_0.length : Int)
                                 ·
                                  rw [if_pos c111] at H; have c111b0 := decide_eq_true c111; (try (have c111b0hl18_7 := c111b0; rw [hl18_7] at c111b0hl18_7)); clear c111; have H' := Az H; clear H; have hnb112 := NB195_191.out; have hnc112 := NB191_195.out; have hcz113_0 : wr.cell? ⟨gb195, 0, none⟩ = some (uZ2) := (blk_cell BK195.out 0).trans rfl; have hfz113_0 := blk_frozen BK195.out 0; obtain ⟨Ao114, co114, eo114⟩ := Kd.R_slice HO_Z2.out; subst eo114; have p236 : 0 ≤ (x20_7 : Int) := oA; have q236 : x20_7 < (xZ2_1.length : Int) := oA; obtain ⟨ad236, e236, hx236_0⟩ := Kd.at_bool (Kd.R_reads' HO_Z2.out).2.2 x20_7 p236 q236; (try rw [← Nbq93.out] at hx236_0); (try rw [← Nbq106.out] at hx236_0)
                                  cases e236
                                  replace p236 := eq_true p236; replace q236 := eq_true q236; have hcz115_0 : wr.cell? ⟨gb191, 0, none⟩ = some (.slice (some ad235) l0_0.length c0_0) := (blk_cell BK191.out 0).trans rfl; have hcz115_1 : wr.cell? ⟨gb191, 1, none⟩ = some (.slice A0_1 l0_1.length c0_1) := (blk_cell BK191.out 1).trans rfl; have hfz115_0 := blk_frozen BK191.out 0; have hfz115_1 := blk_frozen BK191.out 1; have p237 : 0 ≤ (x20_7 : Int) := oA; have q237 : x20_7 < (l0_0.length : Int) := oA; obtain ⟨ad237, e237, hx237_0⟩ := Kd.at_int (Kd.V_reads' HO_Z0.out).2.2 x20_7 p237 q237; obtain rfl : ad235 = ad237 := (by injection e237); replace p237 := eq_true p237; replace q237 := eq_true q237
                                  go_wp2
                                  (try simp only [← hl18_7]); (first | go_roundg k7 | (refine Handed.intro k7 ?measure ?_; rotate_left; go_step; (try simp only [add_plain]); (repeat apply Exists.intro); refine ⟨?rel, rfl⟩))
                                  case measure => have := HK1.out; have := HK2.out; have := HK3.out; have := HK4.out; have := HJ76.out; have := HK6.out; have := HK7.out; omega
                                  case rel => exact ⟨(rd l0_0 x20_7), rS, H', ⟨by have := HK1.out; have := HK2.out; have := HK3.out; have := HK4.out; have := HJ76.out; have := HK6.out; have := HK7.out; omega⟩, ⟨by (try simp only [hl18_7]); (with_reducible repeat (first | apply Kd.R_alloc | apply Kd.R_drewN | apply Kd.R_drew)); exact HO_7.out⟩, ⟨by (try simp only [hl18_7]); (with_reducible repeat (first | apply Kd.R_alloc | apply Kd.R_drewN | apply Kd.R_drew)); exact HO_18.out⟩, ⟨by (try simp only [hl18_7]); (with_reducible repeat (first | apply Kd.V_alloc | apply Kd.V_drewN | apply Kd.V_drew)); exact HO_Z0.out⟩, ⟨by (try simp only [hl18_7]); (with_reducible repeat (first | apply Kd.R_alloc | apply Kd.R_drewN | apply Kd.R_drew)); exact HO_Z2.out⟩, ⟨by (try simp only [hl18_7]); (with_reducible repeat (first | refine blk_drewN ?_ _ | refine blk_drew ?_ | refine blk_alloc ?_ _)); exact BK191.out⟩, ⟨by (try simp only [hl18_7]); (with_reducible repeat (first | refine blk_drewN ?_ _ | refine blk_drew ?_ | refine blk_alloc ?_ _)); exact BK195.out⟩, ⟨bU2 HB.out GE191.out GE195.out⟩⟩
                                 ·
                                  rw [if_neg c111] at H
                                  exact absurd H (by simp)
                               ·
                                rw [if_neg c105] at H
                                exact absurd H (by simp)
                              ·
                               rw [if_neg c104] at H
                               exact absurd H (by simp)
                           ·
                            rw [if_neg c99] at H
                            exact absurd H (by simp)
                          ·
                           rw [if_neg c98] at H
                           exact absurd H (by simp)
                         ·
                          rw [if_neg c97] at H
                          exact absurd H (by simp)
                       ·
                        rw [if_neg c92] at H
                        exact absurd H (by simp)
                      ·
                       rw [if_neg c91] at H
                       exact absurd H (by simp)
                ·
                 rw [if_neg c76] at H; have c76b0 := decide_eq_false c76; clear c76; replace H := Option.bind_eq_some_iff.mp H; obtain ⟨t224, A1160, H⟩ := H; replace H : (some (([x12_2, x15_4, wrap64 ((t224.length : Int) - x12_2), wrap64 ((l1.length : Int) - (wrap64 ((t224.length : Int) - x12_2))), wrap64 (Int.tdiv (wrap64 ((wrap64 ((wrap64 ((wrap64 (2 * x12_2)) - (t224.length : Int))) + (l1.length : Int))) - x15_4)) 2)] : List Int))) = some r := H; have A116 := Az A1160; clear A1160; obtain ⟨y227, hy227⟩ : ∃ y_ : List Int, y_ = (([x12_2, x15_4, wrap64 ((t224.length : Int) - x12_2), wrap64 ((l1.length : Int) - (wrap64 ((t224.length : Int) - x12_2))), wrap64 (Int.tdiv (wrap64 ((wrap64 ((wrap64 ((wrap64 (2 * x12_2)) - (t224.length : Int))) + (l1.length : Int))) - x15_4)) 2)] : List Int)) := ⟨_, rfl⟩; replace H : (some y227) = some r := hR hy227 H; have Ny227 := Az hy227; clear hy227; obtain rfl := Option.some.inj H; have hnb117 := NB191_195.out; have hnc117 := NB195_191.out; have hcz118_0 : wr.cell? ⟨gb191, 0, none⟩ = some (.slice A0_0 l0_0.length c0_0) := (blk_cell BK191.out 0).trans rfl; have hcz118_1 : wr.cell? ⟨gb191, 1, none⟩ = some (.slice A0_1 l0_1.length c0_1) := (blk_cell BK191.out 1).trans rfl; have hfz118_0 := blk_frozen BK191.out 0; have hfz118_1 := blk_frozen BK191.out 1
                 go_wp2_with (first | ((with_reducible refine gate_callee (f := 63) rfl ?_); refine goesL_ (some 142) rfl rfl Try.func63 (by kernel_rfl) rfl #[.slice A0_0 l0_0.length c0_0] rfl (by (try simp only [List.map_toArray, List.map_cons, List.map_nil]); first | done | rfl | (simp only [List.length_drop, List.length_take]; rfl)) ?_; (with_reducible refine (impl_cyclesOf.calls k4 _ _ l0_0 t224 _ ?side1 ?side2 A116.out).mono ?_); (case side1 => exact cU ((Kd.V_reads' HO_Z0.out).2.2)); (case side2 => exact (Kd.V_reads' HO_Z0.out).2.1); rintro e w119 ⟨v225, rfl, ho0, hb⟩; refine ⟨_, rfl, ?_⟩; have n0 := Az (Kd.R_below (rU HO_7.out) hb); have n1 := Az (Kd.R_below (rU HO_18.out) hb); have n2 := Az (Kd.V_elder' (vU HO_Z0.out) (by first | exact Kd.N_base ho0 | exact Kd.S_base ho0 | exact Kd.R_base ho0) hb); have n3 := Az (Kd.R_below (rU HO_Z2.out) hb); have n4 := Az (Kd.N_lower (Kd.N_mono (ok' := fun k_ => (P0_0_ k_ ∨ w.heap.size ≤ k_) ∧ some k_ ≠ (.slice Ao48 x7_1.length co48 : Value).ownBlock ∧ some k_ ≠ (v222 : Value).ownBlock ∧ some k_ ≠ (uZ2 : Value).ownBlock ∧ k_ ≠ gb191 ∧ k_ ≠ gb195) (Kd.S_N (Kd.S_bound ho0)) (fun k_ hk_ => ⟨(.inr (Nat.le_trans (below_size (bU2 HB.out GE191.out GE195.out)) hk_.2.1)), (Kd.fresh' (Kd.R_lt (rU HO_7.out)) k_ hk_.2.1), (Kd.fresh' (Kd.R_lt (rU HO_18.out)) k_ hk_.2.1), (Kd.fresh' (Kd.R_lt (rU HO_Z2.out)) k_ hk_.2.1), (Kd.freshB (g := gb191) (o := .cells #[.slice A0_0 l0_0.length c0_0, .slice A0_1 l0_1.length c0_1] 25 (0, 0)) (kU BK191.out) k_ hk_.2.1), (Kd.freshB (g := gb195) (o := .cells #[uZ2] 78 (0, 0)) (kU BK195.out) k_ hk_.2.1)⟩)) (below_size (bU2 HB.out GE191.out GE195.out))); have n5 := Az (blk_below (g := gb191) (o := .cells #[.slice A0_0 l0_0.length c0_0, .slice A0_1 l0_1.length c0_1] 25 (0, 0)) (kU BK191.out) hb); have n6 := Az (blk_below (g := gb195) (o := .cells #[uZ2] 78 (0, 0)) (kU BK195.out) hb); have n7 := Az (below_step (bU2 HB.out GE191.out GE195.out) hb); clear HO_7 HO_18 HO_Z0 HO_Z2 BK191 BK195 HB; have HO_7 := n0; have HO_18 := n1; have HO_Z0 := n2; have HO_Z2 := n3; have HO226 := n4; have BK191 := n5; have BK195 := n6; have HB := n7; clear n0 n1 n2 n3 n4 n5 n6 n7; (try clear hb); (try clear hb2); (try clear hk); (try clear hi); (try clear ho0); obtain ⟨Ao120, co120, eo120⟩ := Kd.N_slice HO226.out; subst eo120) | ((with_reducible refine gate_dst (N := 164) rfl ?_); refine Kd.R_lit (Kd.int .i64) _ 3 ?hg (N := 164) ?hd (xs := ([x12_2, x15_4, wrap64 ((t224.length : Int) - x12_2), wrap64 ((l1.length : Int) - (wrap64 ((t224.length : Int) - x12_2))), wrap64 (Int.tdiv (wrap64 ((wrap64 ((wrap64 ((wrap64 (2 * x12_2)) - (t224.length : Int))) + (l1.length : Int))) - x15_4)) 2)] : List Int)) (inner := [.int .i64 x12_2, .int .i64 x15_4, .int .i64 (wrap64 ((t224.length : Int) - x12_2)), .int .i64 (wrap64 ((l1.length : Int) - (wrap64 ((t224.length : Int) - x12_2)))), .int .i64 (wrap64 (Int.tdiv (wrap64 ((wrap64 ((wrap64 ((wrap64 (2 * x12_2)) - (t224.length : Int))) + (l1.length : Int))) - x15_4)) 2))]) (ok := fun _ => True) (okp := fun _ => True) ?hr ?hp (fun _ hk => hk) trivial (Below.refl _ _) (Nat.le_refl _) (by simp) ?_; (case hd => rfl); (case hg => rfl); (case hr => first | (go_simp; done) | (go_simp; rfl)); (case hp => exact (Reps.one (show Kd.M (Kd.int .i64) _ _ _ x12_2 [.int .i64 x12_2] from rfl) (Reps.one (show Kd.M (Kd.int .i64) _ _ _ x15_4 [.int .i64 x15_4] from rfl) (Reps.one (show Kd.M (Kd.int .i64) _ _ _ (wrap64 ((t224.length : Int) - x12_2)) [.int .i64 (wrap64 ((t224.length : Int) - x12_2))] from rfl) (Reps.one (show Kd.M (Kd.int .i64) _ _ _ (wrap64 ((l1.length : Int) - (wrap64 ((t224.length : Int) - x12_2)))) [.int .i64 (wrap64 ((l1.length : Int) - (wrap64 ((t224.length : Int) - x12_2))))] from rfl) (Reps.one (show Kd.M (Kd.int .i64) _ _ _ (wrap64 (Int.tdiv (wrap64 ((wrap64 ((wrap64 ((wrap64 (2 * x12_2)) - (t224.length : Int))) + (l1.length : Int))) - x15_4)) 2)) [.int .i64 (wrap64 (Int.tdiv (wrap64 ((wrap64 ((wrap64 ((wrap64 (2 * x12_2)) - (t224.length : Int))) + (l1.length : Int))) - x15_4)) 2))] from rfl) (Reps.none _ _))))))); intro v228 w121 ho122 hb hg_ hnew_; clear hg_ hnew_; (first | rw [← Ny227.out] at ho122 | (simp only [Int.reduceToNat] at ho122; rw [← Ny227.out] at ho122)); have n0 := Az (Kd.R_elder' (rU HO_7.out) (Kd.R_base ho122) hb); have n1 := Az (Kd.R_below (rU HO_18.out) hb); have n2 := Az (Kd.V_elder' (vU HO_Z0.out) (Kd.R_base ho122) hb); have n3 := Az (Kd.R_below (rU HO_Z2.out) hb); have n4 := Az (Kd.N_elder' (nU HO226.out) (Kd.R_base ho122) hb); have n5 := Az (Kd.R_lower (Kd.R_new' (Kd.R_newM (M := fun k_ => (w.heap.size ≤ k_)) ho122 (below_size (bU2 HB.out GE191.out GE195.out)) (fun k_ h_ => h_)) (Kd.R_lt (rU HO_7.out))) (below_size (bU2 HB.out GE191.out GE195.out))); have n6 := Az (blk_below (g := gb191) (o := .cells #[.slice A0_0 l0_0.length c0_0, .slice A0_1 l0_1.length c0_1] 25 (0, 0)) (kU BK191.out) hb); have n7 := Az (blk_below (g := gb195) (o := .cells #[uZ2] 78 (0, 0)) (kU BK195.out) hb); have n8 := Az (below_step (bU2 HB.out GE191.out GE195.out) hb); clear HO_7 HO_18 HO_Z0 HO_Z2 HO226 BK191 BK195 HB; have HO_7 := n0; have HO_18 := n1; have HO_Z0 := n2; have HO_Z2 := n3; have HO226 := n4; have HO229 := n5; have BK191 := n6; have BK195 := n7; have HB := n8; clear n0 n1 n2 n3 n4 n5 n6 n7 n8; clear hb ho122))
                 go_ret
                 exact ⟨_, rE, by (with_reducible repeat (first | apply Kd.R_alloc | apply Kd.R_drewN | apply Kd.R_drew)); exact Kd.R_mono HO229.out (fun _ hk => hk.1.1), bU2 HB.out GE191.out GE195.out⟩
             ·
              rw [if_neg c73] at H
              exact absurd H (by simp)
            ·
             rw [if_neg c72] at H
             exact absurd H (by simp)
  ·
   rw [if_neg c4] at H
   exact absurd H (by simp)
 ·
  rw [if_neg c3] at H
  exact absurd H (by simp)
def impl_ChoiceTree.f (k : Nat) (l0_0 : List Int) (l0_1 : List Int) (l1 : List Int) : Option (Bool) := (impl_ChoiceValid.f k l0_0 l0_1 l1).bind fun t239 => (if t239 = true then ((impl_ribbon.f k l0_0 l0_1 l1).bind fun t240 => (if 0 < (t240.length : Int) then (if (rd t240 0) = 1 then (if 3 < (t240.length : Int) then (some ((rd t240 3) == 0)) else (none)) else (some false)) else (none))) else (some false))
set_option maxHeartbeats 8000000 in
set_option maxRecDepth 100000 in
theorem impl_ChoiceTree.calls (k : Nat) (A0_0 : Option Addr) (c0_0 : Nat) (l0_0 : List Int) (A0_1 : Option Addr) (c0_1 : Nat) (l0_1 : List Int) (A1 : Option Addr) (c1 : Nat) (l1 : List Int) (r : Bool) (w : World) (hr0_0 : Kd.C (Kd.int .i64) w A0_0 l0_0.length l0_0) (hc0_0 : l0_0.length ≤ c0_0) (hr0_1 : Kd.C (Kd.int .i64) w A0_1 l0_1.length l0_1) (hc0_1 : l0_1.length ≤ c0_1) (hr1 : Kd.C (Kd.int .i64) w A1 l1.length l1) (hc1 : l1.length ≤ c1) (h : impl_ChoiceTree.f k l0_0 l0_1 l1 = some r) :
  Calls Try.prog 28 #[.agg #[.slice A0_0 l0_0.length c0_0, .slice A0_1 l0_1.length c0_1], .slice A1 l1.length c1] w fun e w' => e = .returned (.bool r) ∧ Below w.heap.size w w' := by
 have hu25 := Try.underlying25; have HR0_0 := Az hr0_0; have HC0_0 := Az hc0_0; clear hr0_0 hc0_0; have HR0_1 := Az hr0_1; have HC0_1 := Az hc0_1; clear hr0_1 hc0_1; have HR1 := Az hr1; have HC1 := Az hc1; clear hr1 hc1; have HB := Az (Below.refl w.heap.size w); have H : ((impl_ChoiceValid.f k l0_0 l0_1 l1).bind fun t239 => (if t239 = true then ((impl_ribbon.f k l0_0 l0_1 l1).bind fun t240 => (if 0 < (t240.length : Int) then (if (rd t240 0) = 1 then (if 3 < (t240.length : Int) then (some ((rd t240 3) == 0)) else (none)) else (some false)) else (none))) else (some false))) = some r := h; clear h; replace H := Option.bind_eq_some_iff.mp H; obtain ⟨t239, A30, H⟩ := H; replace H : (if t239 = true then ((impl_ribbon.f k l0_0 l0_1 l1).bind fun t240 => (if 0 < (t240.length : Int) then (if (rd t240 0) = 1 then (if 3 < (t240.length : Int) then (some ((rd t240 3) == 0)) else (none)) else (some false)) else (none))) else (some false)) = some r := H; have A3 := Az A30; clear A30
 by_cases c4 : t239 = true
 ·
  subst c4
  have H1 : ((impl_ribbon.f k l0_0 l0_1 l1).bind fun t240 => (if 0 < (t240.length : Int) then (if (rd t240 0) = 1 then (if 3 < (t240.length : Int) then (some ((rd t240 3) == 0)) else (none)) else (some false)) else (none))) = some r := by rw [if_pos rfl] at H; exact H
  clear H; have H := H1; clear H1; replace H := Option.bind_eq_some_iff.mp H; obtain ⟨t240, A50, H⟩ := H; replace H : (if 0 < (t240.length : Int) then (if (rd t240 0) = 1 then (if 3 < (t240.length : Int) then (some ((rd t240 3) == 0)) else (none)) else (some false)) else (none)) = some r := H; have A5 := Az A50; clear A50
  by_cases c6 : 0 < (t240.length : Int)
  ·
   rw [if_pos c6] at H; have c6b0 := decide_eq_true c6; have c6b1 : decide (0 < t240.length) = true := decide_eq_true (by omega); clear c6
   by_cases c7 : (rd t240 0) = 1
   ·
    rw [if_pos c7] at H; have c7b0 := beq_iff_eq.mpr c7; have c7b1 := bne_eq_false_iff_eq.mpr c7; clear c7
    by_cases c8 : 3 < (t240.length : Int)
    ·
     rw [if_pos c8] at H; have c8b0 := decide_eq_true c8; have c8b1 : decide (3 < t240.length) = true := decide_eq_true (by omega); clear c8; obtain rfl := Option.some.inj H
     go_enter Try.func28, Try.ntmps28
     go_wp2_with (first | ((with_reducible refine gate_dst (N := 2) rfl ?_); refine box_event ?hg (N := 2) ?hd (cs := #[.slice A0_0 l0_0.length c0_0, .slice A0_1 l0_1.length c0_1]) (t := 25) ?hr ?_; (case hd => rfl); (case hg => rfl); (case hr => first | (go_simp; done) | (go_simp; rfl)); intro gb238 hg w9 hbox hb; have n0_ := Az (below_step (bU0 HB.out) hb); have n1_ := Az (hbox); have n2_ := Az ((by rw [hg]; exact (below_size (bU0 HB.out)) : w.heap.size ≤ gb238)); have n3_ := n2_; clear HB; have HB := n0_; have BK238 := n1_; have GW238 := n2_; have GE238 := n3_; clear n0_ n1_ n2_ n3_ hb hbox hg; have hcz10_0 : w9.cell? ⟨gb238, 0, none⟩ = some (.slice A0_0 l0_0.length c0_0) := (blk_cell BK238.out 0).trans rfl; have hcz10_1 : w9.cell? ⟨gb238, 1, none⟩ = some (.slice A0_1 l0_1.length c0_1) := (blk_cell BK238.out 1).trans rfl; have hfz10_0 := blk_frozen BK238.out 0; have hfz10_1 := blk_frozen BK238.out 1) | ((with_reducible refine gate_callee (f := 16) rfl ?_); refine goesL_ (some 8) rfl rfl Try.func16 (by kernel_rfl) rfl #[.agg #[.slice A0_0 l0_0.length c0_0, .slice A0_1 l0_1.length c0_1], .slice A1 l1.length c1] rfl (by (try simp only [List.map_toArray, List.map_cons, List.map_nil]); first | done | rfl | (simp only [List.length_drop, List.length_take]; rfl)) ?_; (with_reducible refine (impl_ChoiceValid.calls k _ _ l0_0 _ _ l0_1 _ _ l1 true _ ?side1 ?side2 ?side3 ?side4 ?side5 ?side6 A3.out).mono ?_); (case side1 => exact cU (Kd.C_below HR0_0.out HB.out)); (case side2 => exact HC0_0.out); (case side3 => exact cU (Kd.C_below HR0_1.out HB.out)); (case side4 => exact HC0_1.out); (case side5 => exact cU (Kd.C_below HR1.out HB.out)); (case side6 => exact HC1.out); rintro e w11 ⟨rfl, hb⟩; refine ⟨_, rfl, ?_⟩; have n0_ := Az (blk_below (g := gb238) (o := .cells #[.slice A0_0 l0_0.length c0_0, .slice A0_1 l0_1.length c0_1] 25 (0, 0)) (kU BK238.out) hb); have n1_ := Az (below_step (bU1 HB.out GE238.out) hb); clear BK238 HB; have BK238 := n0_; have HB := n1_; clear n0_ n1_; (try clear hb); (try clear hb2); (try clear hk); (try clear hi); have hcz12_0 : w11.cell? ⟨gb238, 0, none⟩ = some (.slice A0_0 l0_0.length c0_0) := (blk_cell BK238.out 0).trans rfl; have hcz12_1 : w11.cell? ⟨gb238, 1, none⟩ = some (.slice A0_1 l0_1.length c0_1) := (blk_cell BK238.out 1).trans rfl; have hfz12_0 := blk_frozen BK238.out 0; have hfz12_1 := blk_frozen BK238.out 1) | ((with_reducible refine gate_callee (f := 65) rfl ?_); refine goesL_ (some 12) rfl rfl Try.func65 (by kernel_rfl) rfl #[.agg #[.slice A0_0 l0_0.length c0_0, .slice A0_1 l0_1.length c0_1], .slice A1 l1.length c1] rfl (by (try simp only [List.map_toArray, List.map_cons, List.map_nil]); first | done | rfl | (simp only [List.length_drop, List.length_take]; rfl)) ?_; (with_reducible refine (impl_ribbon.calls k (fun k_ => k_ < w.heap.size) _ _ l0_0 _ _ l0_1 _ _ l1 t240 _ ?side1 ?side2 ?side3 ?side4 ?side5 A5.out).mono ?_); (case side1 => exact Kd.V_mk HC0_0.out (Kd.F_below (Kd.C_F (Kd.heap_int .i64) HR0_0.out) (bU1 HB.out GE238.out))); (case side2 => exact cU (Kd.C_below HR0_1.out HB.out)); (case side3 => exact HC0_1.out); (case side4 => exact cU (Kd.C_below HR1.out HB.out)); (case side5 => exact HC1.out); rintro e w13 ⟨v241, rfl, ho0, hb⟩; refine ⟨_, rfl, ?_⟩; have n0_ := Az (Kd.R_lower (Kd.R_mono (ok' := fun k_ => True) ho0 (fun _ hk_ => trivial)) (below_size (bU1 HB.out GE238.out))); have n1_ := Az (blk_below (g := gb238) (o := .cells #[.slice A0_0 l0_0.length c0_0, .slice A0_1 l0_1.length c0_1] 25 (0, 0)) (kU BK238.out) hb); have n2_ := Az (below_step (bU1 HB.out GE238.out) hb); clear BK238 HB; have HO242 := n0_; have BK238 := n1_; have HB := n2_; clear n0_ n1_ n2_; (try clear hb); (try clear hb2); (try clear hk); (try clear hi); (try clear ho0); obtain ⟨Ao14, co14, eo14⟩ := Kd.R_slice HO242.out; subst eo14; have p243 : 0 ≤ (0 : Int) := (by omega); have q243 : 0 < (t240.length : Int) := oA; obtain ⟨ad243, e243, hx243_0⟩ := Kd.at_int (Kd.R_reads' HO242.out).2.2 0 p243 q243; cases e243; have qi243 : (0 < t240.length) = True := eq_true (by omega); (try rw [show ((0 : Int)).toNat = 0 from rfl] at hx243_0); (try rw [Addr.add_zero'] at hx243_0); replace p243 := eq_true p243; replace q243 := eq_true q243; have p244 : 0 ≤ (3 : Int) := (by omega); have q244 : 3 < (t240.length : Int) := oA; obtain ⟨ad244, e244, hx244_0⟩ := Kd.at_int (Kd.R_reads' HO242.out).2.2 3 p244 q244; obtain rfl : ad243 = ad244 := (by injection e244); (try simp only [show (3 : Int).toNat = 3 from rfl, Nat.reduceMul, Nat.reduceEqDiff, Go.Addr.add, ↓reduceIte] at hx244_0); have qi244 : (3 < t240.length) = True := eq_true (by omega); (try rw [show ((3 : Int)).toNat = 3 from rfl] at hx244_0); replace p244 := eq_true p244; replace q244 := eq_true q244))
     go_ret
     exact ⟨rE, bU1 HB.out GE238.out⟩
    ·
     rw [if_neg c8] at H
     exact absurd H (by simp)
   ·
    rw [if_neg c7] at H; have c7b0 := beq_eq_false_iff_ne.mpr c7; have c7b1 := bne_iff_ne.mpr c7; obtain rfl := Option.some.inj H
    go_enter Try.func28, Try.ntmps28
    go_wp2_with (first | ((with_reducible refine gate_dst (N := 2) rfl ?_); refine box_event ?hg (N := 2) ?hd (cs := #[.slice A0_0 l0_0.length c0_0, .slice A0_1 l0_1.length c0_1]) (t := 25) ?hr ?_; (case hd => rfl); (case hg => rfl); (case hr => first | (go_simp; done) | (go_simp; rfl)); intro gb238 hg w15 hbox hb; have n0_ := Az (below_step (bU0 HB.out) hb); have n1_ := Az (hbox); have n2_ := Az ((by rw [hg]; exact (below_size (bU0 HB.out)) : w.heap.size ≤ gb238)); have n3_ := n2_; clear HB; have HB := n0_; have BK238 := n1_; have GW238 := n2_; have GE238 := n3_; clear n0_ n1_ n2_ n3_ hb hbox hg; have hcz16_0 : w15.cell? ⟨gb238, 0, none⟩ = some (.slice A0_0 l0_0.length c0_0) := (blk_cell BK238.out 0).trans rfl; have hcz16_1 : w15.cell? ⟨gb238, 1, none⟩ = some (.slice A0_1 l0_1.length c0_1) := (blk_cell BK238.out 1).trans rfl; have hfz16_0 := blk_frozen BK238.out 0; have hfz16_1 := blk_frozen BK238.out 1) | ((with_reducible refine gate_callee (f := 16) rfl ?_); refine goesL_ (some 8) rfl rfl Try.func16 (by kernel_rfl) rfl #[.agg #[.slice A0_0 l0_0.length c0_0, .slice A0_1 l0_1.length c0_1], .slice A1 l1.length c1] rfl (by (try simp only [List.map_toArray, List.map_cons, List.map_nil]); first | done | rfl | (simp only [List.length_drop, List.length_take]; rfl)) ?_; (with_reducible refine (impl_ChoiceValid.calls k _ _ l0_0 _ _ l0_1 _ _ l1 true _ ?side1 ?side2 ?side3 ?side4 ?side5 ?side6 A3.out).mono ?_); (case side1 => exact cU (Kd.C_below HR0_0.out HB.out)); (case side2 => exact HC0_0.out); (case side3 => exact cU (Kd.C_below HR0_1.out HB.out)); (case side4 => exact HC0_1.out); (case side5 => exact cU (Kd.C_below HR1.out HB.out)); (case side6 => exact HC1.out); rintro e w17 ⟨rfl, hb⟩; refine ⟨_, rfl, ?_⟩; have n0_ := Az (blk_below (g := gb238) (o := .cells #[.slice A0_0 l0_0.length c0_0, .slice A0_1 l0_1.length c0_1] 25 (0, 0)) (kU BK238.out) hb); have n1_ := Az (below_step (bU1 HB.out GE238.out) hb); clear BK238 HB; have BK238 := n0_; have HB := n1_; clear n0_ n1_; (try clear hb); (try clear hb2); (try clear hk); (try clear hi); have hcz18_0 : w17.cell? ⟨gb238, 0, none⟩ = some (.slice A0_0 l0_0.length c0_0) := (blk_cell BK238.out 0).trans rfl; have hcz18_1 : w17.cell? ⟨gb238, 1, none⟩ = some (.slice A0_1 l0_1.length c0_1) := (blk_cell BK238.out 1).trans rfl; have hfz18_0 := blk_frozen BK238.out 0; have hfz18_1 := blk_frozen BK238.out 1) | ((with_reducible refine gate_callee (f := 65) rfl ?_); refine goesL_ (some 12) rfl rfl Try.func65 (by kernel_rfl) rfl #[.agg #[.slice A0_0 l0_0.length c0_0, .slice A0_1 l0_1.length c0_1], .slice A1 l1.length c1] rfl (by (try simp only [List.map_toArray, List.map_cons, List.map_nil]); first | done | rfl | (simp only [List.length_drop, List.length_take]; rfl)) ?_; (with_reducible refine (impl_ribbon.calls k (fun k_ => k_ < w.heap.size) _ _ l0_0 _ _ l0_1 _ _ l1 t240 _ ?side1 ?side2 ?side3 ?side4 ?side5 A5.out).mono ?_); (case side1 => exact Kd.V_mk HC0_0.out (Kd.F_below (Kd.C_F (Kd.heap_int .i64) HR0_0.out) (bU1 HB.out GE238.out))); (case side2 => exact cU (Kd.C_below HR0_1.out HB.out)); (case side3 => exact HC0_1.out); (case side4 => exact cU (Kd.C_below HR1.out HB.out)); (case side5 => exact HC1.out); rintro e w19 ⟨v241, rfl, ho0, hb⟩; refine ⟨_, rfl, ?_⟩; have n0_ := Az (Kd.R_lower (Kd.R_mono (ok' := fun k_ => True) ho0 (fun _ hk_ => trivial)) (below_size (bU1 HB.out GE238.out))); have n1_ := Az (blk_below (g := gb238) (o := .cells #[.slice A0_0 l0_0.length c0_0, .slice A0_1 l0_1.length c0_1] 25 (0, 0)) (kU BK238.out) hb); have n2_ := Az (below_step (bU1 HB.out GE238.out) hb); clear BK238 HB; have HO242 := n0_; have BK238 := n1_; have HB := n2_; clear n0_ n1_ n2_; (try clear hb); (try clear hb2); (try clear hk); (try clear hi); (try clear ho0); obtain ⟨Ao20, co20, eo20⟩ := Kd.R_slice HO242.out; subst eo20; have p243 : 0 ≤ (0 : Int) := (by omega); have q243 : 0 < (t240.length : Int) := oA; obtain ⟨ad243, e243, hx243_0⟩ := Kd.at_int (Kd.R_reads' HO242.out).2.2 0 p243 q243; cases e243; have qi243 : (0 < t240.length) = True := eq_true (by omega); (try rw [show ((0 : Int)).toNat = 0 from rfl] at hx243_0); (try rw [Addr.add_zero'] at hx243_0); replace p243 := eq_true p243; replace q243 := eq_true q243))
    go_ret
    exact ⟨rE, bU1 HB.out GE238.out⟩
  ·
   rw [if_neg c6] at H
   exact absurd H (by simp)
 ·
  replace c4 := Bool.eq_false_iff.mpr c4; subst c4
  have H1 : (some false) = some r := by rw [if_neg (show ¬ (false = true) by decide)] at H; exact H
  clear H; have H := H1; clear H1; obtain rfl := Option.some.inj H
  go_enter Try.func28, Try.ntmps28
  go_wp2_with (first | ((with_reducible refine gate_dst (N := 2) rfl ?_); refine box_event ?hg (N := 2) ?hd (cs := #[.slice A0_0 l0_0.length c0_0, .slice A0_1 l0_1.length c0_1]) (t := 25) ?hr ?_; (case hd => rfl); (case hg => rfl); (case hr => first | (go_simp; done) | (go_simp; rfl)); intro gb238 hg w21 hbox hb; have n0_ := Az (below_step (bU0 HB.out) hb); have n1_ := Az (hbox); have n2_ := Az ((by rw [hg]; exact (below_size (bU0 HB.out)) : w.heap.size ≤ gb238)); have n3_ := n2_; clear HB; have HB := n0_; have BK238 := n1_; have GW238 := n2_; have GE238 := n3_; clear n0_ n1_ n2_ n3_ hb hbox hg; have hcz22_0 : w21.cell? ⟨gb238, 0, none⟩ = some (.slice A0_0 l0_0.length c0_0) := (blk_cell BK238.out 0).trans rfl; have hcz22_1 : w21.cell? ⟨gb238, 1, none⟩ = some (.slice A0_1 l0_1.length c0_1) := (blk_cell BK238.out 1).trans rfl; have hfz22_0 := blk_frozen BK238.out 0; have hfz22_1 := blk_frozen BK238.out 1) | ((with_reducible refine gate_callee (f := 16) rfl ?_); refine goesL_ (some 8) rfl rfl Try.func16 (by kernel_rfl) rfl #[.agg #[.slice A0_0 l0_0.length c0_0, .slice A0_1 l0_1.length c0_1], .slice A1 l1.length c1] rfl (by (try simp only [List.map_toArray, List.map_cons, List.map_nil]); first | done | rfl | (simp only [List.length_drop, List.length_take]; rfl)) ?_; (with_reducible refine (impl_ChoiceValid.calls k _ _ l0_0 _ _ l0_1 _ _ l1 false _ ?side1 ?side2 ?side3 ?side4 ?side5 ?side6 A3.out).mono ?_); (case side1 => exact cU (Kd.C_below HR0_0.out HB.out)); (case side2 => exact HC0_0.out); (case side3 => exact cU (Kd.C_below HR0_1.out HB.out)); (case side4 => exact HC0_1.out); (case side5 => exact cU (Kd.C_below HR1.out HB.out)); (case side6 => exact HC1.out); rintro e w23 ⟨rfl, hb⟩; refine ⟨_, rfl, ?_⟩; have n0_ := Az (blk_below (g := gb238) (o := .cells #[.slice A0_0 l0_0.length c0_0, .slice A0_1 l0_1.length c0_1] 25 (0, 0)) (kU BK238.out) hb); have n1_ := Az (below_step (bU1 HB.out GE238.out) hb); clear BK238 HB; have BK238 := n0_; have HB := n1_; clear n0_ n1_; (try clear hb); (try clear hb2); (try clear hk); (try clear hi)))
  go_ret
  exact ⟨rE, bU1 HB.out GE238.out⟩
def tch.l1 : Nat → List Int → Int → Int → Int → Option (List Int)
 | 0, _, _, _, _ => none
 | k + 1, c, s, e, E => if e < E then (if 0 ≤ e then (if Go.bits .and .i64 (s / 2 ^ min e.toNat 64) 1 = 1 then (if c.length < 17592186044416 then tch.l1 k (c ++ [e]) s (wrap64 (e + 1)) E else none) else tch.l1 k c s (wrap64 (e + 1)) E) else none) else some c
def tch.l0 : Nat → List Int → List Int → Int → Int → Int → Option Int
 | 0, _, _, _, _, _ => none
 | k + 1, t, f, x, s, lim => if s < lim then ((tch.l1 k [] s 0 ((f.length : Int) / 2)).bind fun c => (impl_ChoiceTree.f k t f c).bind fun b => tch.l0 k t f (if b = true then wrap64 (x + 1) else x) (wrap64 (s + 1)) lim) else some x
def impl_RibbonTrees.f (k : Nat) (t f : List Int) : Option Int := (impl_MapValid.f k t f).bind fun v => if v = true then (if f.length ≤ 12 then tch.l0 k t f 0 0 (wrap64 (2 ^ (f.length / 2))) else none) else some (-1)
theorem tch.mono_l1 : ∀ k, (∀ y0 y1 y2 y3, LeO (tch.l1 k y0 y1 y2 y3) (tch.l1 (k + 1) y0 y1 y2 y3))
 | 0 => fun _ _ _ _ r h => by simp [tch.l1] at h
 | k + 1 => by
  have ih0 := tch.mono_l1 k
  intro y0 y1 y2 y3
  unfold tch.l1
  repeat' first
   | (with_reducible exact ih0 _ _ _ _)
   | (with_reducible exact LeO.refl _)
   | (with_reducible refine LeO.ite ?_ ?_)
set_option maxHeartbeats 4000000 in
set_option maxRecDepth 100000 in
theorem ttell.yes (k : Nat) (A0 : Option Addr) (c0 : Nat) (l0 : List Int) (A1 : Option Addr) (c1 : Nat) (l1 : List Int) (A2 : Option Addr) (c2 : Nat) (l2 : List Int) (gm gn : Nat) (x : Int) (w : World)
  (hbm : w.heap[gm]? = some (.cells #[.slice A0 l0.length c0, .slice A1 l1.length c1] 25 (0, 0))) (hbn : w.heap[gn]? = some (.cells #[.int .i64 x] 3 (0, 0)))
  (hr0 : Kd.C (Kd.int .i64) w A0 l0.length l0) (hc0 : l0.length ≤ c0) (hr1 : Kd.C (Kd.int .i64) w A1 l1.length l1) (hc1 : l1.length ≤ c1) (hr2 : Kd.C (Kd.int .i64) w A2 l2.length l2) (hc2 : l2.length ≤ c2)
  (h : impl_ChoiceTree.f k l0 l1 l2 = some true) : Calls Try.prog 77 #[.slice A2 l2.length c2, .pointer (some ⟨gm, 0, none⟩), .pointer (some ⟨gn, 0, none⟩)] w fun e w' => e = .returned (.tuple #[]) ∧ ∃ w1, Below w.heap.size w w1 ∧ w' = w1.setCell ⟨gn, 0, none⟩ (.int .i64 (wrap64 (x + 1))) := by
 have hu25 := Try.underlying25; have hcm0 : w.cell? ⟨gm, 0, none⟩ = some (.slice A0 l0.length c0) := (blk_cell hbm 0).trans rfl; have hcm1 : w.cell? ⟨gm, 1, none⟩ = some (.slice A1 l1.length c1) := (blk_cell hbm 1).trans rfl; have Hbn := Az hbn; have HR0 := Az hr0; have HR1 := Az hr1; have HR2 := Az hr2; have HH := Az h; clear hbn hbm hr0 hr1 hr2 h
 go_enter Try.func77, Try.ntmps77
 go_wp2_with (first | (go_at_call 28; refine (impl_ChoiceTree.calls k A0 c0 l0 A1 c1 l1 A2 c2 l2 true _ HR0.out hc0 HR1.out hc1 HR2.out hc2 HH.out).mono ?_; rintro e w1 ⟨rfl, hb⟩; have Hb := Az hb; have hbn1 := blk_below Hbn.out hb; have hcn : w1.cell? ⟨gn, 0, none⟩ = some (.int .i64 x) := (blk_cell hbn1 0).trans rfl; have hfn := blk_frozen hbn1 0; clear hb hbn1))
 refine bodyPost_end (results_none rfl _ _ _) rfl ?_
 exact ⟨rfl, _, Hb.out, rfl⟩
set_option maxHeartbeats 4000000 in
set_option maxRecDepth 100000 in
theorem ttell.no (k : Nat) (A0 : Option Addr) (c0 : Nat) (l0 : List Int) (A1 : Option Addr) (c1 : Nat) (l1 : List Int) (A2 : Option Addr) (c2 : Nat) (l2 : List Int) (gm gn : Nat) (x : Int) (w : World)
  (hbm : w.heap[gm]? = some (.cells #[.slice A0 l0.length c0, .slice A1 l1.length c1] 25 (0, 0))) (hbn : w.heap[gn]? = some (.cells #[.int .i64 x] 3 (0, 0)))
  (hr0 : Kd.C (Kd.int .i64) w A0 l0.length l0) (hc0 : l0.length ≤ c0) (hr1 : Kd.C (Kd.int .i64) w A1 l1.length l1) (hc1 : l1.length ≤ c1) (hr2 : Kd.C (Kd.int .i64) w A2 l2.length l2) (hc2 : l2.length ≤ c2)
  (h : impl_ChoiceTree.f k l0 l1 l2 = some false) : Calls Try.prog 77 #[.slice A2 l2.length c2, .pointer (some ⟨gm, 0, none⟩), .pointer (some ⟨gn, 0, none⟩)] w fun e w' => e = .returned (.tuple #[]) ∧ Below w.heap.size w w' := by
 have hu25 := Try.underlying25; have hcm0 : w.cell? ⟨gm, 0, none⟩ = some (.slice A0 l0.length c0) := (blk_cell hbm 0).trans rfl; have hcm1 : w.cell? ⟨gm, 1, none⟩ = some (.slice A1 l1.length c1) := (blk_cell hbm 1).trans rfl; have Hbn := Az hbn; have HR0 := Az hr0; have HR1 := Az hr1; have HR2 := Az hr2; have HH := Az h; clear hbn hbm hr0 hr1 hr2 h
 go_enter Try.func77, Try.ntmps77
 go_wp2_with (first | (go_at_call 28; refine (impl_ChoiceTree.calls k A0 c0 l0 A1 c1 l1 A2 c2 l2 false _ HR0.out hc0 HR1.out hc1 HR2.out hc2 HH.out).mono ?_; rintro e w1 ⟨rfl, hb⟩; have Hb := Az hb; clear hb))
 refine bodyPost_end (results_none rfl _ _ _) rfl ?_
 exact ⟨rfl, Hb.out⟩
set_option maxHeartbeats 4000000 in
set_option maxRecDepth 100000 in
theorem tch.calls (k : Nat) (A0 : Option Addr) (c0 : Nat) (l0 : List Int) (A1 : Option Addr) (c1 : Nat) (l1 : List Int) (gm gn : Nat) (x r : Int) (w0 w : World)
  (hB : Below w0.heap.size w0 w) (hgm : w0.heap.size ≤ gm) (hgn : w0.heap.size ≤ gn)
  (hbm : w.heap[gm]? = some (.cells #[.slice A0 l0.length c0, .slice A1 l1.length c1] 25 (0, 0))) (hbn : w.heap[gn]? = some (.cells #[.int .i64 x] 3 (0, 0)))
  (hr0 : Kd.C (Kd.int .i64) w0 A0 l0.length l0) (hc0 : l0.length ≤ c0) (hr1 : Kd.C (Kd.int .i64) w0 A1 l1.length l1) (hc1 : l1.length ≤ c1) (hE : l1.length ≤ 12) (h : tch.l0 k l0 l1 x 0 (wrap64 (2 ^ (l1.length / 2))) = some r) :
  Calls Try.prog 72 #[.agg #[.slice A0 l0.length c0, .slice A1 l1.length c1], .func (.func 77) #[] #[.pointer (some ⟨gm, 0, none⟩), .pointer (some ⟨gn, 0, none⟩)]] w fun e w' =>
   e = .returned (.tuple #[]) ∧ Below w0.heap.size w0 w' ∧ w'.heap[gm]? = some (.cells #[.slice A0 l0.length c0, .slice A1 l1.length c1] 25 (0, 0)) ∧ w'.heap[gn]? = some (.cells #[.int .i64 r] 3 (0, 0)) := by
 have hu25 := Try.underlying25; have HB := Az hB; have BM := Az hbm; have BN := Az hbn; have HR0 := Az hr0; have HR1 := Az hr1; clear hB hbm hbn hr0 hr1
 go_enter Try.func72, Try.ntmps72
 go_wp2_with (first | ((with_reducible refine gate_dst (N := 2) rfl ?_); refine box_event ?hg (N := 2) ?hd (cs := #[.slice A0 l0.length c0, .slice A1 l1.length c1]) (t := 25) ?hr ?_; (case hd => rfl); (case hg => rfl); (case hr => first | (go_simp; done) | (go_simp; rfl)); intro gb hg w5 hbox hb; have n1 := Az (below_step HB.out hb); have n2 := Az (blk_below BM.out hb); have n3 := Az (blk_below BN.out hb); have BK := Az hbox; have GE := Az ((by rw [hg]; exact below_size HB.out) : w0.heap.size ≤ gb); clear HB BM BN hb hbox hg; have HB := n1; have BM := n2; have BN := n3; clear n1 n2 n3; have hcz0 : w5.cell? ⟨gb, 0, none⟩ = some (.slice A0 l0.length c0) := (blk_cell BK.out 0).trans rfl; have hcz1 : w5.cell? ⟨gb, 1, none⟩ = some (.slice A1 l1.length c1) := (blk_cell BK.out 1).trans rfl))
 have H' := Az h; clear h hcz0 hcz1
 generalize hlim : wrap64 (2 ^ (l1.length / 2)) = lim at H' ⊢
 have HLIM := Az hlim; clear hlim
 go_loopg [12] k (fun kq v12 w' => ∃ (s x' : Int), v12 = .int .i64 s ∧ Aside0 (tch.l0 kq l0 l1 x' s lim = some r) ∧ Aside0 (kq ≤ k) ∧ Aside0 (w'.heap[gb]? = some (.cells #[.slice A0 l0.length c0, .slice A1 l1.length c1] 25 (0, 0))) ∧ Aside0 (w'.heap[gm]? = some (.cells #[.slice A0 l0.length c0, .slice A1 l1.length c1] 25 (0, 0))) ∧ Aside0 (w'.heap[gn]? = some (.cells #[.int .i64 x'] 3 (0, 0))) ∧ Aside0 (Below w0.heap.size w0 w'))
 case atStart => exact ⟨0, x, rfl, H', ⟨Nat.le_refl _⟩, BK, BM, BN, HB⟩
 case round =>
  clear H' BK BM BN HB; obtain ⟨s, x', rfl, HA, HK1, BK, BM, BN, HB⟩ := hrel
  cases gk with
  | zero => exact absurd HA.out (by simp [tch.l0])
  | succ k1 =>
   have H := HA.out; clear HA; simp only [tch.l0] at H
   by_cases c2 : s < lim
   ·
    rw [if_pos c2] at H; have c2b : decide (s < lim) = true := decide_eq_true c2; clear c2; obtain ⟨cs, A1_, H⟩ := Option.bind_eq_some_iff.mp H; obtain ⟨b, A2_, H⟩ := Option.bind_eq_some_iff.mp H; have HA1 := Az A1_; have HA2 := Az A2_; have H' := Az H; clear A1_ A2_ H; have hcz0 : wr.cell? ⟨gb, 0, none⟩ = some (.slice A0 l0.length c0) := (blk_cell BK.out 0).trans rfl; have hcz1 : wr.cell? ⟨gb, 1, none⟩ = some (.slice A1 l1.length c1) := (blk_cell BK.out 1).trans rfl
    go_wp2_with (first | ((with_reducible refine gate_dst (N := 15) rfl ?_); (try (refine gate_guard (by rfl) ?_; dsimp only)); refine Kd.R_lit (Kd.int .i64) _ 3 ?hg (N := 15) ?hd (xs := ([] : List Int)) (inner := []) (ok := fun _ => True) (okp := fun _ => True) ?hr ?hp (fun _ hk => hk) trivial (Below.refl _ _) (Nat.le_refl _) (by simp) ?_; (case hd => rfl); (case hg => rfl); (case hr => first | (go_simp; done) | (go_simp; rfl)); (case hp => exact (Reps.none _ _)); intro v15 w6 ho6 hb hg_ hnew_; clear hg_ hnew_; have n1 := Az (Kd.R_lower (Kd.R_mono (ok' := fun k_ => k_ ≠ gn) (Kd.R_bound ho6) (fun k hk e => absurd (blk_lt BN.out) (by rw [← e]; exact Nat.not_lt.mpr hk.2.1))) (below_size HB.out)); have n2 := Az (blk_below BK.out hb); have n3 := Az (blk_below BM.out hb); have n4 := Az (blk_below BN.out hb); have n5 := Az (below_step HB.out hb); clear BK BM BN HB hb ho6 hcz0 hcz1; have HO := n1; have BK := n2; have BM := n3; have BN := n4; have HB := n5; clear n1 n2 n3 n4 n5; have hcz0 : w6.cell? ⟨gb, 0, none⟩ = some (.slice A0 l0.length c0) := (blk_cell BK.out 0).trans rfl; have hcz1 : w6.cell? ⟨gb, 1, none⟩ = some (.slice A1 l1.length c1) := (blk_cell BK.out 1).trans rfl))
    go_loopg [5, 20] k1 (fun kq v5 v20 w' => ∃ (c : List Int) (e : Int), v20 = .int .i64 e ∧ Aside0 (tch.l1 kq c s e ((l1.length : Int) / 2) = some cs) ∧ Aside0 (kq ≤ k1) ∧ Aside0 (Kd.R (Kd.int .i64) 3 w' w0.heap.size (fun k_ => k_ ≠ gn) v5 c) ∧ Aside0 (w'.heap[gb]? = some (.cells #[.slice A0 l0.length c0, .slice A1 l1.length c1] 25 (0, 0))) ∧ Aside0 (w'.heap[gm]? = some (.cells #[.slice A0 l0.length c0, .slice A1 l1.length c1] 25 (0, 0))) ∧ Aside0 (w'.heap[gn]? = some (.cells #[.int .i64 x'] 3 (0, 0))) ∧ Aside0 (Below w0.heap.size w0 w'))
    case atStart => exact ⟨[], 0, rfl, HA1, ⟨Nat.le_refl _⟩, HO, BK, BM, BN, HB⟩
    case round =>
     clear HA1 HO BK BM BN HB hcz0 hcz1; obtain ⟨c, e, rfl, HA, HK2, HO, BK, BM, BN, HB⟩ := hrel
     cases gk with
     | zero => exact absurd HA.out (by simp [tch.l1])
     | succ k2 =>
      have H := HA.out; clear HA; simp only [tch.l1] at H
      by_cases c3 : e < (l1.length : Int) / 2
      ·
       rw [if_pos c3] at H; have c3b : decide (e < (l1.length : Int) / 2) = true := decide_eq_true c3
       by_cases c4 : 0 ≤ e
       ·
        rw [if_pos c4] at H; have c4b : decide (e < 0) = false := decide_eq_false (by omega); clear c3
        by_cases c5 : Go.bits .and .i64 (s / 2 ^ min e.toNat 64) 1 = 1
        ·
         rw [if_pos c5] at H; have c5b : (Go.bits .and .i64 (s / 2 ^ min e.toNat 64) 1 == 1) = true := beq_iff_eq.mpr c5; clear c5
         by_cases c6 : c.length < 17592186044416
         ·
          rw [if_pos c6] at H; have LM := Az c6; have HH := Az H; clear H c6
          go_wp2_with (first | ((with_reducible refine gate_builtin (b := .append) (xs := #[.tmp 28, .tmp 30]) rfl ?_); at_builtin; refine Kd.R_append (Kd.int .i64) (w0 := w0) w0.heap.size rfl (.tmp 28) (.tmp 30) 23 3 (.int .i64 0) 8 rfl Try.underlying23 info3 rfl (by decide) (by omega) u5 c e [.int .i64 e] (fun k_ => k_ ≠ gn) (fun _ => False) rfl rfl ?aP (fun _ hk => hk.elim) ?aF ?aO ?aB ?aS ?aL ?_; (case aP => exact rfl); (case aB => exact (bU0 HB.out)); (case aF => exact (fun k_ hk e_ => absurd (blk_lt BN.out) (by rw [← e_]; exact Nat.not_lt.mpr hk))); (case aO => exact (rU HO.out)); (case aS => exact (below_size (bU0 HB.out))); (case aL => have := LM.out; omega); intro v31 w9 ho hb hg hat; have n1 := Az (blk_grown (g := gb) (kU BK.out) hg (Kd.R_ne HO.out BK.out (by decide))); have n2 := Az (blk_grown (g := gm) (kU BM.out) hg (Kd.R_ne HO.out BM.out (by decide))); have n3 := Az (blk_grown (g := gn) (kU BN.out) hg (fun e_ => HO.out.1 gn e_.symm rfl)); have n4 := Az hb; have n5 := Az ho; clear BK BM BN HB HO hb ho hg hat; have BK := n1; have BM := n2; have BN := n3; have HB := n4; have HO := n5; clear n1 n2 n3 n4 n5))
          (first | go_roundg k2 | (refine Handed.intro k2 ?measure ?_; rotate_left; go_step; (try simp only [add_plain]); (repeat apply Exists.intro); refine ⟨?rel, rfl⟩))
          case measure => have := HK2.out; omega
          case rel => exact ⟨_, wrap64 (e + 1), rfl, HH, ⟨by have := HK2.out; omega⟩, HO, BK, BM, BN, HB⟩
         ·
          rw [if_neg c6] at H
          cases H
        ·
         rw [if_neg c5] at H; have c5b : (Go.bits .and .i64 (s / 2 ^ min e.toNat 64) 1 == 1) = false := beq_eq_false_iff_ne.mpr c5; clear c5; have HH := Az H; clear H
         go_wp2
         (first | go_roundg k2 | (refine Handed.intro k2 ?measure ?_; rotate_left; go_step; (try simp only [add_plain]); (repeat apply Exists.intro); refine ⟨?rel, rfl⟩))
         case measure => have := HK2.out; omega
         case rel => exact ⟨_, wrap64 (e + 1), rfl, HH, ⟨by have := HK2.out; omega⟩, HO, BK, BM, BN, HB⟩
       ·
        rw [if_neg c4] at H
        cases H
      ·
       rw [if_neg c3] at H; have c3b : decide (e < (l1.length : Int) / 2) = false := decide_eq_false c3; clear c3; obtain rfl := Option.some.inj H; clear H; obtain ⟨Ao, co, eo⟩ := Kd.R_slice HO.out; subst eo; have nkn : gb ≠ gn := blk_ne BK.out BN.out (by decide); have nmn : gm ≠ gn := blk_ne BM.out BN.out (by decide)
       cases b with
       | true =>
        have HH := Az (by have := H'.out; rw [if_pos rfl] at this; exact this : tch.l0 k1 l0 l1 (wrap64 (x' + 1)) (wrap64 (s + 1)) lim = some r); clear H'
        go_wp2_with (first | (go_at_call 77; refine (ttell.yes k1 A0 c0 l0 A1 c1 l1 Ao co c gm gn x' _ BM.out BN.out (Kd.C_below HR0.out HB.out) hc0 (Kd.C_below HR1.out HB.out) hc1 (Kd.R_reads' HO.out).2.2 (Kd.R_reads' HO.out).2.1 HA2.out).mono ?_; rintro e_ w8 ⟨rfl, w7, hb, rfl⟩; have n1 := Az (blk_far (blk_below BK.out hb) (p := ⟨gn, 0, none⟩) nkn (.int .i64 (wrap64 (x' + 1)))); have n2 := Az (blk_far (blk_below BM.out hb) (p := ⟨gn, 0, none⟩) nmn (.int .i64 (wrap64 (x' + 1)))); have n3 := Az (blk_put (blk_below BN.out hb) 0 (.int .i64 (wrap64 (x' + 1))) rfl); have n4 := Az (below_set (g := gn) (j := 0) (v := .int .i64 (wrap64 (x' + 1))) (below_step HB.out hb) hgn); clear BK BM BN HB HO hb; have BK := n1; have BM := n2; have BN := n3; have HB := n4; clear n1 n2 n3 n4))
        (first | go_roundg k1 | (refine Handed.intro k1 ?measure ?_; rotate_left; go_step; (try simp only [add_plain]); (repeat apply Exists.intro); refine ⟨?rel, rfl⟩))
        case measure => have := HK1.out; omega
        case rel => exact ⟨wrap64 (s + 1), wrap64 (x' + 1), rfl, HH, ⟨by have := HK1.out; omega⟩, BK, BM, BN, HB⟩
       | false =>
        have HH := Az (by have := H'.out; rw [if_neg (by decide)] at this; exact this : tch.l0 k1 l0 l1 x' (wrap64 (s + 1)) lim = some r); clear H'
        go_wp2_with (first | (go_at_call 77; refine (ttell.no k1 A0 c0 l0 A1 c1 l1 Ao co c gm gn x' _ BM.out BN.out (Kd.C_below HR0.out HB.out) hc0 (Kd.C_below HR1.out HB.out) hc1 (Kd.R_reads' HO.out).2.2 (Kd.R_reads' HO.out).2.1 HA2.out).mono ?_; rintro e_ w8 ⟨rfl, hb⟩; have n1 := Az (blk_below BK.out hb); have n2 := Az (blk_below BM.out hb); have n3 := Az (blk_below BN.out hb); have n4 := Az (below_step HB.out hb); clear BK BM BN HB HO hb; have BK := n1; have BM := n2; have BN := n3; have HB := n4; clear n1 n2 n3 n4))
        (first | go_roundg k1 | (refine Handed.intro k1 ?measure ?_; rotate_left; go_step; (try simp only [add_plain]); (repeat apply Exists.intro); refine ⟨?rel, rfl⟩))
        case measure => have := HK1.out; omega
        case rel => exact ⟨wrap64 (s + 1), x', rfl, HH, ⟨by have := HK1.out; omega⟩, BK, BM, BN, HB⟩
   ·
    rw [if_neg c2] at H; have c2b : decide (s < lim) = false := decide_eq_false c2; clear c2; obtain rfl := Option.some.inj H
    go_wp2
    refine bodyPost_end (results_none rfl _ _ _) rfl ?_
    exact ⟨rfl, HB.out, BM.out, BN.out⟩
set_option maxHeartbeats 4000000 in
set_option maxRecDepth 100000 in
theorem impl_RibbonTrees.calls (k : Nat) (A0_0 : Option Addr) (c0_0 : Nat) (l0_0 : List Int) (A0_1 : Option Addr) (c0_1 : Nat) (l0_1 : List Int) (r : Int) (w : World) (hr0_0 : Kd.C (Kd.int .i64) w A0_0 l0_0.length l0_0) (hc0_0 : l0_0.length ≤ c0_0) (hr0_1 : Kd.C (Kd.int .i64) w A0_1 l0_1.length l0_1) (hc0_1 : l0_1.length ≤ c0_1) (h : impl_RibbonTrees.f k l0_0 l0_1 = some r) :
  Calls Try.prog 39 #[.agg #[.slice A0_0 l0_0.length c0_0, .slice A0_1 l0_1.length c0_1]] w fun e w' => e = .returned (.int .i64 r) ∧ Below w.heap.size w w' := by
 have hu25 := Try.underlying25; have HR0 := Az hr0_0; have HR1 := Az hr0_1; have HB := Az (Below.refl w.heap.size w); clear hr0_0 hr0_1; obtain ⟨v, h1, h⟩ := Option.bind_eq_some_iff.mp h; have H1 := Az h1; clear h1
 cases v with
 | false =>
  rw [if_neg (by decide)] at h; obtain rfl := Option.some.inj h; clear h
  go_enter Try.func39, Try.ntmps39
  go_wp2_with (first | ((with_reducible refine gate_dst (N := 1) rfl ?_); refine box_event ?hg (N := 1) ?hd (cs := #[.slice A0_0 l0_0.length c0_0, .slice A0_1 l0_1.length c0_1]) (t := 25) ?hr ?_; (case hd => rfl); (case hg => rfl); (case hr => first | (go_simp; done) | (go_simp; rfl)); intro gm hg w5 hbox hb; have n1 := Az (below_step HB.out hb); have BM := Az hbox; have GM := Az ((by rw [hg]; exact below_size HB.out) : w.heap.size ≤ gm); clear HB hb hbox hg; have HB := n1; clear n1; have hcz0 : w5.cell? ⟨gm, 0, none⟩ = some (.slice A0_0 l0_0.length c0_0) := (blk_cell BM.out 0).trans rfl; have hcz1 : w5.cell? ⟨gm, 1, none⟩ = some (.slice A0_1 l0_1.length c0_1) := (blk_cell BM.out 1).trans rfl) | (go_at_call 59; refine (impl_MapValid.calls k (fun k_ => k_ < w.heap.size) A0_0 c0_0 l0_0 (fun k_ => k_ < w.heap.size) A0_1 c0_1 l0_1 false _ (Kd.V_mk hc0_0 (Kd.F_below (Kd.C_F (Kd.heap_int .i64) HR0.out) HB.out)) (Kd.V_mk hc0_1 (Kd.F_below (Kd.C_F (Kd.heap_int .i64) HR1.out) HB.out)) H1.out).mono ?_; rintro e_ w6 ⟨rfl, hb⟩; have n1 := Az (below_step HB.out hb); have n2 := Az (blk_below BM.out hb); clear HB BM hb hcz0 hcz1; have HB := n1; have BM := n2; clear n1 n2; have hcz0 : w6.cell? ⟨gm, 0, none⟩ = some (.slice A0_0 l0_0.length c0_0) := (blk_cell BM.out 0).trans rfl; have hcz1 : w6.cell? ⟨gm, 1, none⟩ = some (.slice A0_1 l0_1.length c0_1) := (blk_cell BM.out 1).trans rfl))
  go_ret
  exact ⟨rfl, HB.out⟩
 | true =>
  rw [if_pos rfl] at h
  by_cases hE : l0_1.length ≤ 12
  ·
   rw [if_pos hE] at h; have HH := Az h; clear h
   go_enter Try.func39, Try.ntmps39
   go_wp2_with (first | ((with_reducible refine gate_dst (N := 1) rfl ?_); refine box_event ?hg (N := 1) ?hd (cs := #[.slice A0_0 l0_0.length c0_0, .slice A0_1 l0_1.length c0_1]) (t := 25) ?hr ?_; (case hd => rfl); (case hg => rfl); (case hr => first | (go_simp; done) | (go_simp; rfl)); intro gm hg w5 hbox hb; have n1 := Az (below_step HB.out hb); have BM := Az hbox; have GM := Az ((by rw [hg]; exact below_size HB.out) : w.heap.size ≤ gm); clear HB hb hbox hg; have HB := n1; clear n1; have hcz0 : w5.cell? ⟨gm, 0, none⟩ = some (.slice A0_0 l0_0.length c0_0) := (blk_cell BM.out 0).trans rfl; have hcz1 : w5.cell? ⟨gm, 1, none⟩ = some (.slice A0_1 l0_1.length c0_1) := (blk_cell BM.out 1).trans rfl) | (go_at_call 59; refine (impl_MapValid.calls k (fun k_ => k_ < w.heap.size) A0_0 c0_0 l0_0 (fun k_ => k_ < w.heap.size) A0_1 c0_1 l0_1 true _ (Kd.V_mk hc0_0 (Kd.F_below (Kd.C_F (Kd.heap_int .i64) HR0.out) HB.out)) (Kd.V_mk hc0_1 (Kd.F_below (Kd.C_F (Kd.heap_int .i64) HR1.out) HB.out)) H1.out).mono ?_; rintro e_ w6 ⟨rfl, hb⟩; have n1 := Az (below_step HB.out hb); have n2 := Az (blk_below BM.out hb); clear HB BM hb hcz0 hcz1; have HB := n1; have BM := n2; clear n1 n2; have hcz0 : w6.cell? ⟨gm, 0, none⟩ = some (.slice A0_0 l0_0.length c0_0) := (blk_cell BM.out 0).trans rfl; have hcz1 : w6.cell? ⟨gm, 1, none⟩ = some (.slice A0_1 l0_1.length c0_1) := (blk_cell BM.out 1).trans rfl; have hcy0 : (w6.alloc (.cells #[.int .i64 0] 3)).cell? ⟨gm, 0, none⟩ = some (.slice A0_0 l0_0.length c0_0) := (blk_cell (blk_alloc BM.out _) 0).trans rfl; have hcy1 : (w6.alloc (.cells #[.int .i64 0] 3)).cell? ⟨gm, 1, none⟩ = some (.slice A0_1 l0_1.length c0_1) := (blk_cell (blk_alloc BM.out _) 1).trans rfl) | (go_at_call 72; refine (tch.calls k A0_0 c0_0 l0_0 A0_1 c0_1 l0_1 gm w6.heap.size 0 r w _ (by repeat (first | exact HB.out | apply below_alloc)) GM.out (below_size HB.out) (blk_alloc BM.out _) (blk_new w6 _) HR0.out hc0_0 HR1.out hc0_1 hE HH.out).mono ?_; rintro e_ w8 ⟨rfl, hb, hm, hn⟩; have HB2 := Az hb; have hcn : w8.cell? ⟨w6.heap.size, 0, none⟩ = some (.int .i64 r) := (blk_cell hn 0).trans rfl; clear hb hm hn))
   go_ret
   exact ⟨rfl, HB2.out⟩
  ·
   rw [if_neg hE] at h
   cases h
def impl_back.l0 : Nat → List Int → List Int → Int → Int → Option (List Int)
 | 0, _, _, _, _ => none
 | k + 1, x3, x9, x10, x11 => if x11 < x10 then (if 0 ≤ x11 then (if x11 < (x9.length : Int) then (if 0 ≤ (rd x9 x11) then (if (rd x9 x11) < (x3.length : Int) then (impl_back.l0 k (x3.set ((rd x9 x11) : Int).toNat x11) x9 x10 (wrap64 (x11 + 1))) else (none)) else (none)) else (none)) else (none)) else (some x3)
def impl_back.f (k : Nat) (l0 : List Int) : Option (List Int) := if 0 ≤ (l0.length : Int) then (if ((l0.length : Int) : Int).toNat ≤ 35184372088832 then (impl_back.l0 k (List.replicate ((l0.length : Int) : Int).toNat 0) l0 (l0.length : Int) 0) else (none)) else (none)
set_option maxHeartbeats 8000000 in
set_option maxRecDepth 100000 in
theorem impl_back.calls (k : Nat) (A0 : Option Addr) (c0 : Nat) (l0 : List Int) (r : List Int) (w : World) (hr0 : Kd.C (Kd.int .i64) w A0 l0.length l0) (hc0 : l0.length ≤ c0) (h : impl_back.f k l0 = some r) :
  Calls Try.prog 90 #[.slice A0 l0.length c0] w fun e w' => ∃ v0_ : Value, e = .returned (v0_) ∧ Kd.R (Kd.int .i64) 3 w' w.heap.size (fun _ => True) v0_ r ∧ Below w.heap.size w w' := by
 have HR0 := Az hr0; have HC0 := Az hc0; clear hr0 hc0; have HB := Az (Below.refl w.heap.size w); have H : (if 0 ≤ (l0.length : Int) then (if ((l0.length : Int) : Int).toNat ≤ 35184372088832 then (impl_back.l0 k (List.replicate ((l0.length : Int) : Int).toNat 0) l0 (l0.length : Int) 0) else (none)) else (none)) = some r := h; clear h
 by_cases c2 : 0 ≤ (l0.length : Int)
 ·
  rw [if_pos c2] at H; have c2b0 := eq_true c2; have c2b1 := decide_eq_true c2; clear c2
  by_cases c3 : ((l0.length : Int) : Int).toNat ≤ 35184372088832
  ·
   rw [if_pos c3] at H; have c3b0 := eq_true c3; have c3b1 := decide_eq_true c3; clear c3; obtain ⟨y245, hy245⟩ : ∃ y_ : List Int, y_ = (List.replicate ((l0.length : Int) : Int).toNat 0) := ⟨_, rfl⟩; replace H : (impl_back.l0 k y245 l0 (l0.length : Int) 0) = some r := hR hy245 H; have Ny245 := Az hy245; clear hy245; have H' := Az H; clear H
   go_enter Try.func90, Try.ntmps90
   go_wp2_with (first | ((with_reducible refine gate_dst (N := 8) rfl ?_); refine Kd.R_make (Kd.int .i64) _ 3 rfl (N := 8) rfl 23 _ _ rfl (l0.length : Int) rfl rfl Try.underlying23 (.int .i64 0) 8 info3 rfl (by decide) (by omega) 0 (ok := fun _ => True) (okp := fun _ => True) rfl (fun _ hk => hk) trivial (oA) (Nat.le_trans (Nat.mul_le_mul_right _ (oA : (l0.length : Int).toNat ≤ 35184372088832)) (by omega)) (Below.refl _ _) (Nat.le_refl _) ?_; intro v246 w4 ho5 hb hg_ hnew_; clear hg_ hnew_; (first | rw [← Ny245.out] at ho5 | (simp only [Int.reduceToNat] at ho5; rw [← Ny245.out] at ho5)); have n0_ := Az (Kd.R_lower ho5 (below_size (bU0 HB.out))); have n1_ := Az (below_step (bU0 HB.out) hb); clear HB; have HO247 := n0_; have HB := n1_; clear n0_ n1_; clear hb ho5))
   go_loopg [11] k (fun kq v11 w' => ∃ (x3_1 : List Int) (x11_1 : Int), v11 = .int .i64 x11_1 ∧ Aside0 (impl_back.l0 kq x3_1 l0 (l0.length : Int) x11_1 = some r) ∧ Aside0 (kq ≤ k) ∧ Aside0 (Kd.R (Kd.int .i64) 3 w' w.heap.size (fun _ => True) v246 x3_1) ∧ Aside0 (Below w.heap.size w w'))
   case atStart => exact ⟨(y245), (0), rS, H', ⟨Nat.le_refl _⟩, ⟨rU HO247.out⟩, ⟨bU0 HB.out⟩⟩
   case round =>
    clear H'; (try clear c2); (try clear c2b0); (try clear c2b1); (try clear p2); (try clear c3); (try clear c3b0); (try clear c3b1); obtain ⟨x3_1, x11_1, rfl, HA, HK1, HO_3, HB⟩ := hrel
    cases gk with
    | zero => exact absurd HA.out (by simp [impl_back.l0])
    | succ k1 =>
     have H := HA.out; clear HA; simp only [impl_back.l0] at H
     by_cases c6 : x11_1 < (l0.length : Int)
     ·
      rw [if_pos c6] at H; have c6b0 := decide_eq_true c6; clear c6
      by_cases c7 : 0 ≤ x11_1
      ·
       rw [if_pos c7] at H; have c7b0 := decide_eq_true c7; clear c7
       by_cases c8 : x11_1 < (l0.length : Int)
       ·
        rw [if_pos c8] at H; have c8b0 := decide_eq_true c8; clear c8
        by_cases c9 : 0 ≤ (rd l0 x11_1)
        ·
         rw [if_pos c9] at H; have c9b0 := decide_eq_true c9; clear c9
         by_cases c10 : (rd l0 x11_1) < (x3_1.length : Int)
         ·
          rw [if_pos c10] at H; have c10b0 := decide_eq_true c10; clear c10; obtain ⟨y249, hy249⟩ : ∃ y_ : List Int, y_ = (x3_1.set ((rd l0 x11_1) : Int).toNat x11_1) := ⟨_, rfl⟩; replace H : (impl_back.l0 k1 y249 l0 (l0.length : Int) (wrap64 (x11_1 + 1))) = some r := hR hy249 H; have Ny249 := Az hy249; clear hy249; have H' := Az H; clear H; have p248 : 0 ≤ (x11_1 : Int) := oA; have q248 : x11_1 < (l0.length : Int) := oA; obtain ⟨ad248, e248, hx248_0⟩ := Kd.at_int HR0.out x11_1 p248 q248
          cases e248
          (try replace hx248_0 := (HB.out.cell (World.block_lt_of_cell? w _ hx248_0)).trans hx248_0); replace p248 := eq_true p248; replace q248 := eq_true q248; have p11 : 0 ≤ ((rd l0 x11_1) : Int) := oA; have q11 : ((rd l0 x11_1) : Int) < ((x3_1.length : Int) : Int) := oA; obtain ⟨go11, co11, eo11, gb11, gl11, cl11, HG11⟩ := Kd.R_form HO_3.out (by omega); (first | cases eo11 | (injection eo11 with ea_ en_ ec_; (first | subst ea_ | (injection ea_ with ea_; subst ea_)); subst ec_; clear en_)); have GB11 := Az gb11; have GG11 := Az HG11; clear gb11 gl11 HG11; obtain ⟨hx11_0, hf11_0⟩ := Kd.R_celln 0 HO_3.out ((rd l0 x11_1) : Int) p11 q11; replace p11 := eq_true p11; replace q11 := eq_true q11; obtain ⟨hy12_, hz12_⟩ := Kd.R_celln 0 HO_3.out ((rd l0 x11_1) : Int) (oA) (oA); have HP12 := Kd.R_putg HO_3.out ((rd l0 x11_1) : Int) x11_1
          go_wp2_with (first | ((with_reducible refine gate_store (t := 3) (p := 19) rfl ?_); refine store_event (t := 3) (p := 19) (v := ?vo_w13) (w1 := (wr.setCell ⟨go11, ((rd l0 x11_1) : Int).toNat, none⟩ (.int .i64 x11_1))) ?hg ?ho ?hn ?hr ?_; (case ho => rfl); (case hg => rfl); (case hn => rfl); (case hr => first | (go_simp; done) | (go_simp; rfl)); intro w13 hw; have hg : wr.grownBy w13 (some go11) := (by rw [hw]; exact HP12.2); have hp_ : Kd.R (Kd.int .i64) 3 w13 w.heap.size (fun _ => True) (.slice (some ⟨go11, 0, none⟩) x3_1.length co11) y249 := (by rw [hw, Ny249.out]; exact HP12.1); clear HP12; have n0_ := Az (hp_); have n1_ := Az ((by rw [hw]; exact below_set (HB.out) GB11.out : Below w.heap.size w w13)); clear HO_3 HB; have HO_3 := n0_; have HB := n1_; clear n0_ n1_; clear hg hw hp_))
          (first | go_roundg k1 | (refine Handed.intro k1 ?measure ?_; rotate_left; go_step; (try simp only [add_plain]); (repeat apply Exists.intro); refine ⟨?rel, rfl⟩))
          case measure => have := HK1.out; omega
          case rel => exact ⟨(y249), (wrap64 (x11_1 + 1)), rS, H', ⟨by have := HK1.out; omega⟩, ⟨rU HO_3.out⟩, ⟨bU0 HB.out⟩⟩
         ·
          rw [if_neg c10] at H
          exact absurd H (by simp)
        ·
         rw [if_neg c9] at H
         exact absurd H (by simp)
       ·
        rw [if_neg c8] at H
        exact absurd H (by simp)
      ·
       rw [if_neg c7] at H
       exact absurd H (by simp)
     ·
      rw [if_neg c6] at H; have c6b0 := decide_eq_false c6; clear c6; obtain rfl := Option.some.inj H
      go_wp2
      go_ret
      exact ⟨_, rE, rU HO_3.out, bU0 HB.out⟩
  ·
   rw [if_neg c3] at H
   exact absurd H (by simp)
 ·
  rw [if_neg c2] at H
  exact absurd H (by simp)
def impl_MapMirror.f (k : Nat) (l0_0 : List Int) (l0_1 : List Int) : Option (List Int × List Int × Bool) := (impl_MapValid.f k l0_0 l0_1).bind fun t252 => (if t252 = true then ((impl_back.f k l0_0).bind fun t253 => ((slices_Clone_int_int.f l0_1).bind fun t256 => (some (t253, t256, true)))) else (some (([] : List Int), ([] : List Int), false)))
def impl_MapMirror.T3 : Bool × List (List Nat × List Nat) := (true, [([], []), ([0], [0]), ([1], [1]), ([], []), ([3], [3]), ([4, 2], [4]), ([2, 5], [2, 5]), ([6, 5, 0, 1, 2, 3, 4, 5, 6], [6]), ([7, 0, 1, 2, 3, 4, 5, 6, 7], [])])
def impl_MapMirror.B3 : List Nat := [0, 1, 3, 0, 8, 31, 63, 127, 255]
theorem impl_MapMirror.tab3 : rtab .any (opsOf Try.f48 3) = impl_MapMirror.T3 := by kernel_rfl
theorem impl_MapMirror.bits3 : waitsOk impl_MapMirror.T3.2 impl_MapMirror.B3 = true := by kernel_rfl
set_option maxHeartbeats 8000000 in
set_option maxRecDepth 100000 in
theorem impl_MapMirror.calls (k : Nat) (A0_0 : Option Addr) (c0_0 : Nat) (l0_0 : List Int) (A0_1 : Option Addr) (c0_1 : Nat) (l0_1 : List Int) (r1 : List Int) (r2 : List Int) (r3 : Bool) (w : World) (hr0_0 : Kd.C (Kd.int .i64) w A0_0 l0_0.length l0_0) (hc0_0 : l0_0.length ≤ c0_0) (hr0_1 : Kd.C (Kd.int .i64) w A0_1 l0_1.length l0_1) (hc0_1 : l0_1.length ≤ c0_1) (h : impl_MapMirror.f k l0_0 l0_1 = some (r1, r2, r3)) :
  Calls Try.prog 48 #[.agg #[.slice A0_0 l0_0.length c0_0, .slice A0_1 l0_1.length c0_1]] w fun e w' => ∃ v0_ v1_ : Value, e = .returned (.tuple #[.agg #[v0_, v1_], .bool r3]) ∧ Kd.R (Kd.int .i64) 3 w' w.heap.size (fun k_ => some k_ ≠ (v1_ : Value).ownBlock) v0_ r1 ∧ Kd.R (Kd.int .i64) 3 w' w.heap.size (fun k_ => some k_ ≠ (v0_ : Value).ownBlock) v1_ r2 ∧ Below w.heap.size w w' := by
 have hu25 := Try.underlying25; have HR0_0 := Az hr0_0; have HC0_0 := Az hc0_0; clear hr0_0 hc0_0; have HR0_1 := Az hr0_1; have HC0_1 := Az hc0_1; clear hr0_1 hc0_1; have HB := Az (Below.refl w.heap.size w); have H : ((impl_MapValid.f k l0_0 l0_1).bind fun t252 => (if t252 = true then ((impl_back.f k l0_0).bind fun t253 => ((slices_Clone_int_int.f l0_1).bind fun t256 => (some (t253, t256, true)))) else (some (([] : List Int), ([] : List Int), false)))) = some (r1, r2, r3) := h; clear h; replace H := Option.bind_eq_some_iff.mp H; obtain ⟨t252, A20, H⟩ := H; replace H : (if t252 = true then ((impl_back.f k l0_0).bind fun t253 => ((slices_Clone_int_int.f l0_1).bind fun t256 => (some (t253, t256, true)))) else (some (([] : List Int), ([] : List Int), false))) = some (r1, r2, r3) := H; have A2 := Az A20; clear A20
 by_cases c3 : t252 = true
 ·
  subst c3
  have H1 : ((impl_back.f k l0_0).bind fun t253 => ((slices_Clone_int_int.f l0_1).bind fun t256 => (some (t253, t256, true)))) = some (r1, r2, r3) := by rw [if_pos rfl] at H; exact H
  clear H; have H := H1; clear H1; replace H := Option.bind_eq_some_iff.mp H; obtain ⟨t253, A40, H⟩ := H; replace H : ((slices_Clone_int_int.f l0_1).bind fun t256 => (some (t253, t256, true))) = some (r1, r2, r3) := H; have A4 := Az A40; clear A40; replace H := Option.bind_eq_some_iff.mp H; obtain ⟨t256, A50, H⟩ := H; replace H : (some (t253, t256, true)) = some (r1, r2, r3) := H; have A5 := Az A50; clear A50; simp only [Option.some.injEq, Prod.mk.injEq] at H; obtain ⟨rfl, rfl, rfl⟩ := H
  go_enter Try.func48, Try.ntmps48
  try go_wp2_with (first | ((with_reducible refine gate_dst (N := 1) rfl ?_); refine box_event ?hg (N := 1) ?hd (cs := #[.slice A0_0 l0_0.length c0_0, .slice A0_1 l0_1.length c0_1]) (t := 25) ?hr ?_; (case hd => rfl); (case hg => rfl); (case hr => first | (go_simp; done) | (go_simp; rfl)); intro gb250 hg w6 hbox hb; have n0_ := Az (below_step (bU0 HB.out) hb); have n1_ := Az (hbox); have n2_ := Az ((by rw [hg]; exact (below_size (bU0 HB.out)) : w.heap.size ≤ gb250)); have n3_ := n2_; clear HB; have HB := n0_; have BK250 := n1_; have GW250 := n2_; have GE250 := n3_; clear n0_ n1_ n2_ n3_; clear hb hbox hg) | ((with_reducible refine gate_dst (N := 2) rfl ?_); refine box_event ?hg (N := 2) ?hd (cs := #[.slice none 0 0, .slice none 0 0]) (t := 25) ?hr ?_; (case hd => rfl); (case hg => rfl); (case hr => first | (go_simp; done) | (go_simp; rfl)); intro gb251 hg w7 hbox hb; have n0_ := Az (blk_below (g := gb250) (o := .cells #[.slice A0_0 l0_0.length c0_0, .slice A0_1 l0_1.length c0_1] 25 (0, 0)) (kU BK250.out) hb); have n1_ := Az (below_step (bU1 HB.out GE250.out) hb); have n2_ := Az (hbox); have n3_ := Az ((by rw [hg]; exact (below_size (bU1 HB.out GE250.out)) : w.heap.size ≤ gb251)); have n4_ := n3_; have n5_ := Az ((by rw [hg]; exact Nat.ne_of_lt (blk_lt (g := gb250) (o := .cells #[.slice A0_0 l0_0.length c0_0, .slice A0_1 l0_1.length c0_1] 25 (0, 0)) (kU BK250.out)) : gb250 ≠ gb251)); have n6_ := Az ((by rw [hg]; exact Nat.ne_of_gt (blk_lt (g := gb250) (o := .cells #[.slice A0_0 l0_0.length c0_0, .slice A0_1 l0_1.length c0_1] 25 (0, 0)) (kU BK250.out)) : gb251 ≠ gb250)); clear BK250 HB; have BK250 := n0_; have HB := n1_; have BK251 := n2_; have GW251 := n3_; have GE251 := n4_; have NB250_251 := n5_; have NB251_250 := n6_; clear n0_ n1_ n2_ n3_ n4_ n5_ n6_ hb hbox hg; have hnb8 := NB250_251.out; have hnc8 := NB251_250.out; have hcz9_0 : w7.cell? ⟨gb250, 0, none⟩ = some (.slice A0_0 l0_0.length c0_0) := (blk_cell BK250.out 0).trans rfl; have hcz9_1 : w7.cell? ⟨gb250, 1, none⟩ = some (.slice A0_1 l0_1.length c0_1) := (blk_cell BK250.out 1).trans rfl; have hfz9_0 := blk_frozen BK250.out 0; have hfz9_1 := blk_frozen BK250.out 1) | ((with_reducible refine gate_callee (f := 59) rfl ?_); refine goesL_ (some 5) rfl rfl Try.func59 (by kernel_rfl) rfl #[.agg #[.slice A0_0 l0_0.length c0_0, .slice A0_1 l0_1.length c0_1]] rfl (by (try simp only [List.map_toArray, List.map_cons, List.map_nil]); first | done | rfl | (simp only [List.length_drop, List.length_take]; rfl)) ?_; (with_reducible refine (impl_MapValid.calls k (fun k_ => k_ < w.heap.size) _ _ l0_0 (fun k_ => k_ < w.heap.size) _ _ l0_1 true _ ?side1 ?side2 A2.out).mono ?_); (case side1 => exact Kd.V_mk HC0_0.out (Kd.F_below (Kd.C_F (Kd.heap_int .i64) HR0_0.out) (bU2 HB.out GE250.out GE251.out))); (case side2 => exact Kd.V_mk HC0_1.out (Kd.F_below (Kd.C_F (Kd.heap_int .i64) HR0_1.out) (bU2 HB.out GE250.out GE251.out))); rintro e w10 ⟨rfl, hb⟩; refine ⟨_, rfl, ?_⟩; have n0_ := Az (blk_below (g := gb250) (o := .cells #[.slice A0_0 l0_0.length c0_0, .slice A0_1 l0_1.length c0_1] 25 (0, 0)) (kU BK250.out) hb); have n1_ := Az (blk_below (g := gb251) (o := .cells #[.slice none 0 0, .slice none 0 0] 25 (0, 0)) (kU BK251.out) hb); have n2_ := Az (below_step (bU2 HB.out GE250.out GE251.out) hb); clear BK250 BK251 HB; have BK250 := n0_; have BK251 := n1_; have HB := n2_; clear n0_ n1_ n2_; (try clear hb); (try clear hb2); (try clear hk); (try clear hi)))
  have n0_ := Az (blk_drew BK250.out); have n1_ := Az (blk_drew BK251.out); have n2_ := Az (below_drew1 HB.out); clear BK250 BK251 HB; have BK250 := n0_; have BK251 := n1_; have HB := n2_; clear n0_ n1_ n2_
  refine start_ (n := 9) (S := fun w' => w'.cell? ⟨gb250, 0, none⟩ = some (.slice A0_0 l0_0.length c0_0) ∧ w'.cell? ⟨gb250, 1, none⟩ = some (.slice A0_1 l0_1.length c0_1)) (ds := []) #[false, false, false, false, false, false, false, false, false] (by kernel_rfl) rfl rfl ⟨(blk_cell BK250.out 0).trans rfl, (blk_cell BK250.out 1).trans rfl⟩ (fun hHeld => ?_); refine with_tabW impl_MapMirror.tab3 impl_MapMirror.bits3 (fun HT_ HW_ => ?_)
  generalize w10.drew = w11 at BK250 BK251 HB hHeld ⊢
  refine pure_ (i := 0) (N := some 8) (v := ?_) (a' := ?_) #[true, false, false, false, false, false, false, false, false] rfl rfl (any_of HT_.out (by kernel_rfl)) (fun _ _ _ h => h) (Or.inl ⟨by rfl, ?_⟩) ?_ ?_
  rotate_left
  ·
   intro w'
   go_simp
   with_reducible rfl
  rotate_left
  ·
   simp only [Act.put, List.setIfInBounds_toArray, List.set_cons_zero, List.set_cons_succ, i64_w, i32_w]
   rfl
  refine pure_ (i := 3) (N := some 11) (v := ?_) (a' := ?_) #[true, false, false, true, false, false, false, false, false] rfl rfl (any_of HT_.out (by kernel_rfl)) (fun _ _ _ h => h) (Or.inl ⟨by rfl, ?_⟩) ?_ ?_
  rotate_left
  ·
   intro w'
   go_simp
   with_reducible rfl
  rotate_left
  ·
   simp only [Act.put, List.setIfInBounds_toArray, List.set_cons_zero, List.set_cons_succ, i64_w, i32_w]
   rfl
  refine take_ (i := 1) (N := some 9) (v := ?_) (a' := ?_) #[true, true, false, true, false, false, false, false, false] rfl rfl (take_ofW HT_.out HW_.out (by kernel_rfl)) (fun _ _ _ h => h) (Or.inl ⟨by rfl, ?_⟩) hHeld ?_ ?_
  rotate_left
  ·
   rintro w' ⟨s0, s1⟩
   go_simp
   with_reducible rfl
  rotate_left
  ·
   simp only [Act.put, List.setIfInBounds_toArray, List.set_cons_zero, List.set_cons_succ, i64_w, i32_w]
   rfl
  refine take_ (i := 4) (N := some 12) (v := ?_) (a' := ?_) #[true, true, false, true, true, false, false, false, false] rfl rfl (take_ofW HT_.out HW_.out (by kernel_rfl)) (fun _ _ _ h => h) (Or.inl ⟨by rfl, ?_⟩) hHeld ?_ ?_
  rotate_left
  ·
   rintro w' ⟨s0, s1⟩
   go_simp
   with_reducible rfl
  rotate_left
  ·
   simp only [Act.put, List.setIfInBounds_toArray, List.set_cons_zero, List.set_cons_succ, i64_w, i32_w]
   rfl
  refine one_ (i := 2) (N := some 10) #[true, true, true, true, true, false, false, false, false] rfl rfl (one_of HT_.out (by kernel_rfl)) (by decide) (fun K hK => ?_)
  refine goes_ Try.func90 (by kernel_rfl) rfl #[.slice A0_0 l0_0.length c0_0] (by rfl) rfl rfl (by (try simp only [List.map_toArray, List.map_cons, List.map_nil]); first | done | rfl | (simp only [List.length_drop, List.length_take]; rfl)) ?_
  with_reducible refine (impl_back.calls k _ _ l0_0 t253 _ ?side1 ?side2 A4.out).mono ?_
  (case side1 => exact cU (Kd.C_below HR0_0.out HB.out))
  (case side2 => exact HC0_0.out)
  rintro e w12 ⟨v254, rfl, ho0, hb⟩
  refine ⟨_, rfl, ?_⟩
  have n0_ := Az (Kd.R_lower ho0 (below_size (bU2 HB.out GE250.out GE251.out))); have n1_ := Az (blk_below (g := gb250) (o := .cells #[.slice A0_0 l0_0.length c0_0, .slice A0_1 l0_1.length c0_1] 25 (0, 0)) (kU BK250.out) hb); have n2_ := Az (blk_below (g := gb251) (o := .cells #[.slice none 0 0, .slice none 0 0] 25 (0, 0)) (kU BK251.out) hb); have n3_ := Az (below_step (bU2 HB.out GE250.out GE251.out) hb); clear BK250 BK251 HB; have HO255 := n0_; have BK250 := n1_; have BK251 := n2_; have HB := n3_; clear n0_ n1_ n2_ n3_; (try clear hb); (try clear hb2); (try clear hk); (try clear hi); (try clear ho0)
  refine hK.out _ _ ⟨(blk_cell BK250.out 0).trans rfl, (blk_cell BK250.out 1).trans rfl⟩ (fun hHeld => ?_)
  clear hK K
  refine norm_ (a' := ?_) ?_ ?_
  rotate_left
  ·
   show Act.put _ (some 10) _ = _
   simp only [Act.put, List.setIfInBounds_toArray, List.set_cons_zero, List.set_cons_succ, i64_w, i32_w]
   rfl
  refine one_ (i := 5) (N := some 13) #[true, true, true, true, true, true, false, false, false] rfl rfl (one_of HT_.out (by kernel_rfl)) (by decide) (fun K hK => ?_)
  refine goes_ Try.func68 (by kernel_rfl) rfl #[.slice A0_1 l0_1.length c0_1] (by rfl) rfl rfl (by (try simp only [List.map_toArray, List.map_cons, List.map_nil]); first | done | rfl | (simp only [List.length_drop, List.length_take]; rfl)) ?_
  with_reducible refine (slices_Clone_int_int.calls _ _ l0_1 t256 _ ?side1 ?side2 A5.out).mono ?_
  (case side1 => exact cU (Kd.C_below HR0_1.out HB.out))
  (case side2 => exact HC0_1.out)
  rintro e w13 ⟨v257, rfl, ho0, hb⟩
  refine ⟨_, rfl, ?_⟩
  have n0_ := Az (Kd.R_elder' (rU HO255.out) (Kd.R_base ho0) hb); have n1_ := Az (Kd.R_lower (Kd.R_new' ho0 (Kd.R_lt (rU HO255.out))) (below_size (bU2 HB.out GE250.out GE251.out))); have n2_ := Az (blk_below (g := gb250) (o := .cells #[.slice A0_0 l0_0.length c0_0, .slice A0_1 l0_1.length c0_1] 25 (0, 0)) (kU BK250.out) hb); have n3_ := Az (blk_below (g := gb251) (o := .cells #[.slice none 0 0, .slice none 0 0] 25 (0, 0)) (kU BK251.out) hb); have n4_ := Az (below_step (bU2 HB.out GE250.out GE251.out) hb); clear HO255 BK250 BK251 HB; have HO255 := n0_; have HO258 := n1_; have BK250 := n2_; have BK251 := n3_; have HB := n4_; clear n0_ n1_ n2_ n3_ n4_; (try clear hb); (try clear hb2); (try clear hk); (try clear hi); (try clear ho0); obtain ⟨Ao14, co14, eo14⟩ := Kd.R_slice HO258.out; (first | subst eo14 | (injection eo14 with f1_ f2_ f3_; have f4_ := f1_.symm; have f5_ := f3_.symm; clear f1_ f2_ f3_; subst f4_; subst f5_)); obtain ⟨Ao15, co15, eo15⟩ := Kd.R_slice HO255.out; (first | subst eo15 | (injection eo15 with f1_ f2_ f3_; have f4_ := f1_.symm; have f5_ := f3_.symm; clear f1_ f2_ f3_; subst f4_; subst f5_))
  refine hK.out _ _ ⟨(blk_cell BK250.out 0).trans rfl, (blk_cell BK250.out 1).trans rfl⟩ (fun hHeld => ?_)
  clear hK K
  refine norm_ (a' := ?_) ?_ ?_
  rotate_left
  ·
   show Act.put _ (some 13) _ = _
   simp only [Act.put, List.setIfInBounds_toArray, List.set_cons_zero, List.set_cons_succ, i64_w, i32_w]
   rfl
  refine pure_ (i := 6) (N := some 14) (v := ?_) (a' := ?_) #[true, true, true, true, true, true, true, false, false] rfl rfl (any_of HT_.out (by kernel_rfl)) (fun _ _ _ h => h) (Or.inl ⟨by rfl, ?_⟩) ?_ ?_
  rotate_left
  ·
   intro w'
   go_simp
   with_reducible rfl
  rotate_left
  ·
   simp only [Act.put, List.setIfInBounds_toArray, List.set_cons_zero, List.set_cons_succ, i64_w, i32_w]
   rfl
  refine one_ (i := 7) (N := none) #[true, true, true, true, true, true, true, true, false] rfl rfl (one_of HT_.out (by kernel_rfl)) (by decide) (fun K hK => ?_)
  have hs16 : w13.cell? ⟨gb251, 0, none⟩ = some (.slice none 0 0) := (blk_cell BK251.out 0).trans rfl; have hfs16 := blk_frozen BK251.out 0; have hns16_0 := NB250_251.out; have hms16_0 := NB251_250.out; have hs17 : w13.cell? ⟨gb251, 1, none⟩ = some (.slice none 0 0) := (blk_cell BK251.out 1).trans rfl; have hfs17 := blk_frozen BK251.out 1; have hns17_0 := NB250_251.out; have hms17_0 := NB251_250.out
  refine skip_ (w1 := ?_) (by rfl) rfl ?_ ?_
  rotate_left
  ·
   go_simp
   rfl
  refine hK.out _ _ ⟨((cell_far (p := ⟨gb251, _, none⟩) NB250_251.out _).trans (((cell_far (p := ⟨gb251, _, none⟩) NB250_251.out _).trans (hHeld.1)))), ((cell_far (p := ⟨gb251, _, none⟩) NB250_251.out _).trans (((cell_far (p := ⟨gb251, _, none⟩) NB250_251.out _).trans (hHeld.2))))⟩ (fun hHeld => ?_)
  clear hK K
  refine pure_ (i := 8) (N := some 3) (v := ?_) (a' := ?_) #[true, true, true, true, true, true, true, true, true] rfl rfl (any_of HT_.out (by kernel_rfl)) (fun _ _ _ h => h) (Or.inl ⟨by rfl, ?_⟩) ?_ ?_
  rotate_left
  ·
   intro w'
   go_simp
   with_reducible rfl
  rotate_left
  ·
   simp only [Act.put, List.setIfInBounds_toArray, List.set_cons_zero, List.set_cons_succ, i64_w, i32_w]
   rfl
  refine done_ (done_of HT_.out (by kernel_rfl)) ?_
  try go_wp2
  refine bodyPost_ret (results_ct rfl _ _ gb251 25 #[.slice Ao15 t253.length co15, .slice Ao14 t256.length co14] (0, 0) _ rfl (by (with_reducible repeat (first | refine blk_drewN ?_ _ | refine blk_drew ?_ | refine blk_alloc ?_ _)); refine blk_put (cs := #[.slice Ao15 t253.length co15, .slice none 0 0]) ?_ 1 _ rfl; (with_reducible repeat (first | refine blk_drewN ?_ _ | refine blk_drew ?_ | refine blk_alloc ?_ _)); refine blk_put (cs := #[.slice none 0 0, .slice none 0 0]) ?_ 0 _ rfl; (with_reducible repeat (first | refine blk_drewN ?_ _ | refine blk_drew ?_ | refine blk_alloc ?_ _)); exact BK251.out) Try.underlying25 rfl (by kernel_rfl)) rfl ?_
  exact ⟨_, _, rE, by (with_reducible repeat (first | apply Kd.R_alloc | apply Kd.R_drewN | apply Kd.R_drew)); exact Kd.R_mono (Kd.R_far (p := ⟨gb251, 1, none⟩) (Kd.R_far (p := ⟨gb251, 0, none⟩) (Kd.R_types HO255.out BK251.out (by decide)) (fun _ hk => hk.2) (.slice Ao15 t253.length co15)) (fun _ hk => hk.2) (.slice Ao14 t256.length co14)) (fun _ hk => hk.1.2), by (with_reducible repeat (first | apply Kd.R_alloc | apply Kd.R_drewN | apply Kd.R_drew)); exact Kd.R_mono (Kd.R_far (p := ⟨gb251, 1, none⟩) (Kd.R_far (p := ⟨gb251, 0, none⟩) (Kd.R_types HO258.out BK251.out (by decide)) (fun _ hk => hk.2) (.slice Ao15 t253.length co15)) (fun _ hk => hk.2) (.slice Ao14 t256.length co14)) (fun _ hk => hk.1.2), bU2 HB.out GE250.out GE251.out⟩
 ·
  replace c3 := Bool.eq_false_iff.mpr c3; subst c3
  have H1 : (some (([] : List Int), ([] : List Int), false)) = some (r1, r2, r3) := by rw [if_neg (show ¬ (false = true) by decide)] at H; exact H
  clear H; have H := H1; clear H1; simp only [Option.some.injEq, Prod.mk.injEq] at H; obtain ⟨rfl, rfl, rfl⟩ := H
  go_enter Try.func48, Try.ntmps48
  go_wp2_with (first | ((with_reducible refine gate_dst (N := 1) rfl ?_); refine box_event ?hg (N := 1) ?hd (cs := #[.slice A0_0 l0_0.length c0_0, .slice A0_1 l0_1.length c0_1]) (t := 25) ?hr ?_; (case hd => rfl); (case hg => rfl); (case hr => first | (go_simp; done) | (go_simp; rfl)); intro gb250 hg w18 hbox hb; have n0_ := Az (below_step (bU0 HB.out) hb); have n1_ := Az (hbox); have n2_ := Az ((by rw [hg]; exact (below_size (bU0 HB.out)) : w.heap.size ≤ gb250)); have n3_ := n2_; clear HB; have HB := n0_; have BK250 := n1_; have GW250 := n2_; have GE250 := n3_; clear n0_ n1_ n2_ n3_; clear hb hbox hg) | ((with_reducible refine gate_dst (N := 2) rfl ?_); refine box_event ?hg (N := 2) ?hd (cs := #[.slice none 0 0, .slice none 0 0]) (t := 25) ?hr ?_; (case hd => rfl); (case hg => rfl); (case hr => first | (go_simp; done) | (go_simp; rfl)); intro gb251 hg w19 hbox hb; have n0_ := Az (blk_below (g := gb250) (o := .cells #[.slice A0_0 l0_0.length c0_0, .slice A0_1 l0_1.length c0_1] 25 (0, 0)) (kU BK250.out) hb); have n1_ := Az (below_step (bU1 HB.out GE250.out) hb); have n2_ := Az (hbox); have n3_ := Az ((by rw [hg]; exact (below_size (bU1 HB.out GE250.out)) : w.heap.size ≤ gb251)); have n4_ := n3_; have n5_ := Az ((by rw [hg]; exact Nat.ne_of_lt (blk_lt (g := gb250) (o := .cells #[.slice A0_0 l0_0.length c0_0, .slice A0_1 l0_1.length c0_1] 25 (0, 0)) (kU BK250.out)) : gb250 ≠ gb251)); have n6_ := Az ((by rw [hg]; exact Nat.ne_of_gt (blk_lt (g := gb250) (o := .cells #[.slice A0_0 l0_0.length c0_0, .slice A0_1 l0_1.length c0_1] 25 (0, 0)) (kU BK250.out)) : gb251 ≠ gb250)); clear BK250 HB; have BK250 := n0_; have HB := n1_; have BK251 := n2_; have GW251 := n3_; have GE251 := n4_; have NB250_251 := n5_; have NB251_250 := n6_; clear n0_ n1_ n2_ n3_ n4_ n5_ n6_ hb hbox hg; have hnb20 := NB250_251.out; have hnc20 := NB251_250.out; have hcz21_0 : w19.cell? ⟨gb250, 0, none⟩ = some (.slice A0_0 l0_0.length c0_0) := (blk_cell BK250.out 0).trans rfl; have hcz21_1 : w19.cell? ⟨gb250, 1, none⟩ = some (.slice A0_1 l0_1.length c0_1) := (blk_cell BK250.out 1).trans rfl; have hfz21_0 := blk_frozen BK250.out 0; have hfz21_1 := blk_frozen BK250.out 1) | ((with_reducible refine gate_callee (f := 59) rfl ?_); refine goesL_ (some 5) rfl rfl Try.func59 (by kernel_rfl) rfl #[.agg #[.slice A0_0 l0_0.length c0_0, .slice A0_1 l0_1.length c0_1]] rfl (by (try simp only [List.map_toArray, List.map_cons, List.map_nil]); first | done | rfl | (simp only [List.length_drop, List.length_take]; rfl)) ?_; (with_reducible refine (impl_MapValid.calls k (fun k_ => k_ < w.heap.size) _ _ l0_0 (fun k_ => k_ < w.heap.size) _ _ l0_1 false _ ?side1 ?side2 A2.out).mono ?_); (case side1 => exact Kd.V_mk HC0_0.out (Kd.F_below (Kd.C_F (Kd.heap_int .i64) HR0_0.out) (bU2 HB.out GE250.out GE251.out))); (case side2 => exact Kd.V_mk HC0_1.out (Kd.F_below (Kd.C_F (Kd.heap_int .i64) HR0_1.out) (bU2 HB.out GE250.out GE251.out))); rintro e w22 ⟨rfl, hb⟩; refine ⟨_, rfl, ?_⟩; have n0_ := Az (blk_below (g := gb250) (o := .cells #[.slice A0_0 l0_0.length c0_0, .slice A0_1 l0_1.length c0_1] 25 (0, 0)) (kU BK250.out) hb); have n1_ := Az (blk_below (g := gb251) (o := .cells #[.slice none 0 0, .slice none 0 0] 25 (0, 0)) (kU BK251.out) hb); have n2_ := Az (below_step (bU2 HB.out GE250.out GE251.out) hb); clear BK250 BK251 HB; have BK250 := n0_; have BK251 := n1_; have HB := n2_; clear n0_ n1_ n2_; (try clear hb); (try clear hb2); (try clear hk); (try clear hi); have hcz23_0 : w22.cell? ⟨gb251, 0, none⟩ = some (.slice none 0 0) := (blk_cell BK251.out 0).trans rfl; have hcz23_1 : w22.cell? ⟨gb251, 1, none⟩ = some (.slice none 0 0) := (blk_cell BK251.out 1).trans rfl; have hfz23_0 := blk_frozen BK251.out 0; have hfz23_1 := blk_frozen BK251.out 1))
  refine bodyPost_ret (results_ct rfl _ _ gb251 25 #[.slice none 0 0, .slice none 0 0] (0, 0) _ rfl (by (with_reducible repeat (first | refine blk_drewN ?_ _ | refine blk_drew ?_ | refine blk_alloc ?_ _)); refine blk_put (cs := #[.slice none 0 0, .slice none 0 0]) ?_ 1 _ rfl; (with_reducible repeat (first | refine blk_drewN ?_ _ | refine blk_drew ?_ | refine blk_alloc ?_ _)); refine blk_put (cs := #[.slice none 0 0, .slice none 0 0]) ?_ 0 _ rfl; (with_reducible repeat (first | refine blk_drewN ?_ _ | refine blk_drew ?_ | refine blk_alloc ?_ _)); exact BK251.out) Try.underlying25 rfl (by kernel_rfl)) rfl ?_
  exact ⟨_, _, rE, by first | exact Kd.R_nil _ _ _ _ _ | exact Kd.N_nil _ _ _ _ _ | exact Kd.V_nil _ _ _ _ _ | exact Kd.Q_nil _ _ _ _ _ | exact Kd.S_nil _ _ _ _ _, by first | exact Kd.R_nil _ _ _ _ _ | exact Kd.N_nil _ _ _ _ _ | exact Kd.V_nil _ _ _ _ _ | exact Kd.Q_nil _ _ _ _ _ | exact Kd.S_nil _ _ _ _ _, bU2 HB.out GE250.out GE251.out⟩
def IsS73 (w0 W : World) (g : Nat) (f0 : List Int) (f1 : Int) : Prop := ∃ A0 c0, W.heap[g]? = some (.cells #[.slice A0 f0.length c0, .int .i64 f1] 73 (0, 0)) ∧ w0.heap.size ≤ g ∧ Kd.C (Kd.int .u8) w0 A0 f0.length f0
theorem IsS73.grown {w0 W : World} {g : Nat} {f0 : List Int} {f1 : Int} {W1 : World} {row : Option Nat} (h : IsS73 w0 W g f0 f1) (hw : W.grownBy W1 row) (hne : some g ≠ row) : IsS73 w0 W1 g f0 f1 := by
 obtain ⟨A0, c0, hb, hg, hr0⟩ := h
 exact ⟨A0, c0, blk_grown hb hw hne, hg, hr0⟩
theorem IsS73.fresh {w0 W : World} {g : Nat} {f0 : List Int} {f1 : Int} (h : IsS73 w0 W g f0 f1) : ∀ k, W.heap.size ≤ k → k ≠ g := by
 obtain ⟨A0, c0, hb, hg, hr0⟩ := h
 exact Kd.freshB hb
theorem IsS73.kept {w0 W : World} {g : Nat} {f0 : List Int} {f1 : Int} {W1 : World} {S : Nat → Prop} (h : IsS73 w0 W g f0 f1) (hk : Kept W W1 S) (hne : ¬ S g) : IsS73 w0 W1 g f0 f1 := by
 obtain ⟨A0, c0, hb, hg, hr0⟩ := h
 exact ⟨A0, c0, blk_kept hb hk hne, hg, hr0⟩
theorem IsS73.below {w0 W : World} {g : Nat} {f0 : List Int} {f1 : Int} {W1 : World} (h : IsS73 w0 W g f0 f1) (hw : Below W.heap.size W W1) : IsS73 w0 W1 g f0 f1 := h.grown (grown_of_below hw none) (by simp)
theorem IsS73.alloc {w0 W : World} {g : Nat} {f0 : List Int} {f1 : Int} (h : IsS73 w0 W g f0 f1) (o : Obj) : IsS73 w0 (W.alloc o) g f0 f1 := h.below (below_alloc (Below.refl _ _) o)
theorem IsS73.drewN {w0 W : World} {g : Nat} {f0 : List Int} {f1 : Int} (h : IsS73 w0 W g f0 f1) (m : Nat) : IsS73 w0 (W.drewN m) g f0 f1 := h
theorem IsS73.drew {w0 W : World} {g : Nat} {f0 : List Int} {f1 : Int} (h : IsS73 w0 W g f0 f1) : IsS73 w0 W.drew g f0 f1 := h
theorem IsS73.at_ {w0 W : World} {g : Nat} {f0 : List Int} {f1 : Int} {w' : World} {m : Nat} (hq : W.drewN m = w') (h : IsS73 w0 W g f0 f1) : IsS73 w0 w' g f0 f1 := by subst hq; exact IsS73.drewN h m
theorem IsS73.apart {w0 W : World} {g : Nat} {f0 : List Int} {f1 : Int} {α : Type} {d : Kd α} {e : Nat} {base : Nat} {ok : Nat → Prop} {v : Value} {xs : List α} (h : IsS73 w0 W g f0 f1) (ho : d.R e W base ok v xs) (ht : ∀ q, q ∈ e :: d.E → q ≠ 73) : d.R e W base (fun k => ok k ∧ k ≠ g) v xs := by
 obtain ⟨A0, c0, hb, hg, hr0⟩ := h
 exact Kd.R_types ho hb ht
theorem IsS73.own_ne {w0 W : World} {g : Nat} {f0 : List Int} {f1 : Int} {α : Type} {d : Kd α} {e : Nat} {base : Nat} {ok : Nat → Prop} {v : Value} {xs : List α} (h : IsS73 w0 W g f0 f1) (ho : d.R e W base ok v xs) (ht : e ≠ 73) : some g ≠ v.ownBlock := by
 obtain ⟨A0, c0, hb, hg, hr0⟩ := h
 exact Kd.R_ne ho hb ht
theorem IsS73.apartQ {w0 W : World} {g : Nat} {f0 : List Int} {f1 : Int} {α : Type} {d : Kd α} {e : Nat} {base : Nat} {ok : Nat → Prop} {v : Value} {xs : List α} (h : IsS73 w0 W g f0 f1) (ho : d.Q e W base ok v xs) (ht : ∀ q, q ∈ e :: d.E → q ≠ 73) : d.Q e W base (fun k => ok k ∧ k ≠ g) v xs := by
 obtain ⟨A0, c0, hb, hg, hr0⟩ := h
 exact Kd.Q_types ho hb ht
theorem IsS73.own_neQ {w0 W : World} {g : Nat} {f0 : List Int} {f1 : Int} {α : Type} {d : Kd α} {e : Nat} {base : Nat} {ok : Nat → Prop} {v : Value} {xs : List α} (h : IsS73 w0 W g f0 f1) (ho : d.Q e W base ok v xs) (ht : e ≠ 73) : some g ≠ v.ownBlock := by
 obtain ⟨A0, c0, hb, hg, hr0⟩ := h
 exact Kd.Q_ne ho hb ht
theorem IsS73.lt {w0 W : World} {g : Nat} {f0 : List Int} {f1 : Int} (h : IsS73 w0 W g f0 f1) : g < W.heap.size := by
 obtain ⟨A0, c0, hb, hg, hr0⟩ := h
 exact blk_lt hb
theorem IsS73.ge {w0 W : World} {g : Nat} {f0 : List Int} {f1 : Int} (h : IsS73 w0 W g f0 f1) : w0.heap.size ≤ g := by
 obtain ⟨A0, c0, hb, hg, hr0⟩ := h
 exact hg
theorem IsS73.ne_blk {w0 W : World} {g : Nat} {f0 : List Int} {f1 : Int} {a : Nat} {cs : Array Value} {t : TypeId} {fr : Nat × Nat} (h : IsS73 w0 W g f0 f1) (hb2 : W.heap[a]? = some (.cells cs t fr)) (ht : t ≠ 73) : g ≠ a := by
 obtain ⟨A0, c0, hb, hg, hr0⟩ := h
 rintro rfl
 rw [hb] at hb2; injection hb2 with hb2; injection hb2 with _ ht2
 exact ht ht2.symm
theorem IsS73.far {w0 W : World} {g : Nat} {f0 : List Int} {f1 : Int} {p : Addr} (h : IsS73 w0 W g f0 f1) (hne : g ≠ p.block) (u : Value) : IsS73 w0 (W.setCell p u) g f0 f1 := by
 obtain ⟨A0, c0, hb, hg, hr0⟩ := h
 exact ⟨A0, c0, blk_far hb hne u, hg, hr0⟩
theorem cellS73_0 {W : World} {g : Nat} {A0 : Option Addr} {c0 : Nat} {f0 : List Int} {f1 : Int} (h : W.heap[g]? = some (.cells #[.slice A0 f0.length c0, .int .i64 f1] 73 (0, 0))) : W.cell? ⟨g, 0, none⟩ = some (.slice A0 f0.length c0) := (blk_cell h 0).trans rfl
theorem cellS73_1 {W : World} {g : Nat} {A0 : Option Addr} {c0 : Nat} {f0 : List Int} {f1 : Int} (h : W.heap[g]? = some (.cells #[.slice A0 f0.length c0, .int .i64 f1] 73 (0, 0))) : W.cell? ⟨g, 1, none⟩ = some (.int .i64 f1) := (blk_cell h 1).trans rfl
theorem IsS73.set_1 {w0 W : World} {g : Nat} {f0 : List Int} {f1 : Int} (h : IsS73 w0 W g f0 f1) (x : Int) : IsS73 w0 (W.setCell ⟨g, 1, none⟩ (.int .i64 x)) g f0 x := by
 obtain ⟨A0, c0, hb, hg, hr0⟩ := h
 exact ⟨A0, c0, by simpa using blk_set hb 1 (.int .i64 x), hg, hr0⟩
def spec_l6Open.f (l0 : List Int) : Option (List Int × Int) := if (l0.length : Int) > 2000 then (if 2000 ≤ (l0.length : Int) then (some (l0.take 2000, 0)) else (none)) else (some (l0, 0))
set_option maxHeartbeats 8000000 in
set_option maxRecDepth 100000 in
theorem spec_l6Open.calls (A0 : Option Addr) (c0 : Nat) (l0 : List Int) (r1 : List Int) (r2 : Int) (w0 w : World) (hB : Below w0.heap.size w0 w) (hr0 : Kd.C (Kd.int .u8) w0 A0 l0.length l0) (hc0 : l0.length ≤ c0) (h : spec_l6Open.f l0 = some (r1, r2)) :
  Calls Try.prog 58 #[.slice A0 l0.length c0] w fun e w' => ∃ g_ : Nat, e = .returned (.pointer (some ⟨g_, 0, none⟩)) ∧ IsS73 w0 w' g_ r1 r2 ∧ Below w0.heap.size w0 w' ∧ Below w.heap.size w w' := by
 have hu73 := Try.underlying73; have HR0 := Az hr0; have HC0 := Az hc0; clear hr0 hc0; have HBW := Az (Below.refl w.heap.size w); have HW0 := Az hB.size; have HB := Az hB; clear hB; have H : (if (l0.length : Int) > 2000 then (if 2000 ≤ (l0.length : Int) then (some (l0.take 2000, 0)) else (none)) else (some (l0, 0))) = some (r1, r2) := h; clear h
 by_cases c2 : (l0.length : Int) > 2000
 ·
  rw [if_pos c2] at H; have c2b0 := decide_eq_true c2; have c2b1 : decide (2000 < l0.length) = true := decide_eq_true (by omega); clear c2
  by_cases c3 : 2000 ≤ (l0.length : Int)
  ·
   rw [if_pos c3] at H; have c3b0 := eq_true c3; have c3b1 := decide_eq_true c3; clear c3; simp only [Option.some.injEq, Prod.mk.injEq] at H; obtain ⟨rfl, rfl⟩ := H; obtain ⟨i04, hi04, _, hsz4, _⟩ := info_parts info5; obtain ⟨hcut4, hA4, hC4⟩ := print_take_of (P := Try.prog) (Value.int .u8) 0 22 5 .i64 Try.underlying22 hi04 hsz4 A0 c0 l0 2000 (by omega) (oA) HC0.out; have HR259 := Az (Kd.C_of_reads (h1 := fun _ => rfl) (hA4 _ (Kd.reads_of_C HR0.out))); have HC259 := Az hC4; clear hA4 hC4 hi04 hsz4
   go_enter Try.func58, Try.ntmps58
   go_wp2_with (first | ((with_reducible refine gate_dst (N := 10) rfl ?_); refine box_event ?hg (N := 10) ?hd (cs := #[.slice A0 (l0.take 2000).length c0, .int .i64 0]) (t := 73) ?hr ?_; (case hd => rfl); (case hg => rfl); (case hr => first | (go_simp; done) | (go_simp; rfl)); intro gb260 hg w5 hbox hb; have n0_ := Az (below_step HBW.out hb); have n1_ := Az (below_step (bU0 HB.out) hb); have n2_ := Az (hbox); have n3_ := Az ((by rw [hg]; exact (below_size (by repeat (first | (with_reducible first | exact HBW.out | apply below_alloc | apply pw_below_drewN | apply below_drew1) | exact HBW.out))) : w.heap.size ≤ gb260)); have n4_ := Az ((Nat.le_trans HW0.out (by rw [hg]; exact (below_size (by repeat (first | (with_reducible first | exact HBW.out | apply below_alloc | apply pw_below_drewN | apply below_drew1) | exact HBW.out))) : w.heap.size ≤ gb260) : w0.heap.size ≤ gb260)); clear HBW HB; have HBW := n0_; have HB := n1_; have BK260 := n2_; have GW260 := n3_; have GE260 := n4_; clear n0_ n1_ n2_ n3_ n4_; clear hb hbox hg))
   go_ret
   exact ⟨_, rfl, (show IsS73 w0 _ gb260 (l0.take 2000) 0 from ⟨_, _, kU BK260.out, GE260.out, HR259.out⟩), bU1 HB.out GE260.out, by repeat (first | (with_reducible first | exact HBW.out | apply below_alloc | apply pw_below_drewN | apply below_drew1 | refine below_set ?_ GW260.out) | exact HBW.out)⟩
  ·
   rw [if_neg c3] at H
   exact absurd H (by simp)
 ·
  rw [if_neg c2] at H; have c2b0 := decide_eq_false c2; have c2b1 : decide (2000 < l0.length) = false := decide_eq_false (by omega); clear c2; simp only [Option.some.injEq, Prod.mk.injEq] at H; obtain ⟨rfl, rfl⟩ := H
  go_enter Try.func58, Try.ntmps58
  go_wp2_with (first | ((with_reducible refine gate_dst (N := 10) rfl ?_); refine box_event ?hg (N := 10) ?hd (cs := #[.slice A0 l0.length c0, .int .i64 0]) (t := 73) ?hr ?_; (case hd => rfl); (case hg => rfl); (case hr => first | (go_simp; done) | (go_simp; rfl)); intro gb261 hg w6 hbox hb; have n0_ := Az (below_step HBW.out hb); have n1_ := Az (below_step (bU0 HB.out) hb); have n2_ := Az (hbox); have n3_ := Az ((by rw [hg]; exact (below_size (by repeat (first | (with_reducible first | exact HBW.out | apply below_alloc | apply pw_below_drewN | apply below_drew1) | exact HBW.out))) : w.heap.size ≤ gb261)); have n4_ := Az ((Nat.le_trans HW0.out (by rw [hg]; exact (below_size (by repeat (first | (with_reducible first | exact HBW.out | apply below_alloc | apply pw_below_drewN | apply below_drew1) | exact HBW.out))) : w.heap.size ≤ gb261) : w0.heap.size ≤ gb261)); clear HBW HB; have HBW := n0_; have HB := n1_; have BK261 := n2_; have GW261 := n3_; have GE261 := n4_; clear n0_ n1_ n2_ n3_ n4_; clear hb hbox hg))
  go_ret
  exact ⟨_, rfl, (show IsS73 w0 _ gb261 l0 0 from ⟨_, _, kU BK261.out, GE261.out, HR0.out⟩), bU1 HB.out GE261.out, by repeat (first | (with_reducible first | exact HBW.out | apply below_alloc | apply pw_below_drewN | apply below_drew1 | refine below_set ?_ GW261.out) | exact HBW.out)⟩
def spec_l6In.f (a0 : Int) (a1 : Int) (a2 : Int) : Option (Bool) := if a0 ≥ a1 then (some (decide (a0 ≤ a2))) else (some false)
set_option maxHeartbeats 8000000 in
set_option maxRecDepth 100000 in
theorem spec_l6In.calls (a0 : Int) (a1 : Int) (a2 : Int) (r : Bool) (w : World) (h : spec_l6In.f a0 a1 a2 = some r) :
  Calls Try.prog 60 #[.int .i64 a0, .int .i64 a1, .int .i64 a2] w fun e w' => e = .returned (.bool r) ∧ Drawn0 w w' := by
 have H : (if a0 ≥ a1 then (some (decide (a0 ≤ a2))) else (some false)) = some r := h; clear h
 by_cases c4 : a0 ≥ a1
 ·
  rw [if_pos c4] at H; have c4b0 := decide_eq_true c4; clear c4; obtain rfl := Option.some.inj H
  go_enter Try.func60, Try.ntmps60
  go_wp2
  go_ret
  exact ⟨by first | rfl | (simp; done) | (simp [*]; done), by repeat (first | exact Drawn0.refl _ | apply Drawn0.step)⟩
 ·
  rw [if_neg c4] at H; have c4b0 := decide_eq_false c4; clear c4; obtain rfl := Option.some.inj H
  go_enter Try.func60, Try.ntmps60
  go_wp2
  go_ret
  exact ⟨by first | rfl | (simp; done) | (simp [*]; done), by repeat (first | exact Drawn0.refl _ | apply Drawn0.step)⟩
mutual
def spec_PermValid.l0 : Nat → List Int → Int → Option (Bool)
 | 0, _, _ => none
 | k + 1, x0, x3 => if x3 < (x0.length : Int) then (if 0 ≤ x3 then ((spec_l6In.f (rd x0 x3) 0 (wrap64 ((x0.length : Int) - 1))).bind fun t264 => (if t264 = true then (spec_PermValid.l1 k x0 x3 0) else (some false))) else (none)) else ((spec_l6In.f (x0.length : Int) 1 12).bind fun t262 => (some t262))
def spec_PermValid.l1 : Nat → List Int → Int → Int → Option (Bool)
 | 0, _, _, _ => none
 | k + 1, x0, x3, x4 => if x4 < x3 then (if 0 ≤ x4 then (if x4 < (x0.length : Int) then (if 0 ≤ x3 then (if x3 < (x0.length : Int) then (if (rd x0 x4) = (rd x0 x3) then (some false) else (spec_PermValid.l1 k x0 x3 (wrap64 (x4 + 1)))) else (none)) else (none)) else (none)) else (none)) else (spec_PermValid.l0 k x0 (wrap64 (x3 + 1)))
end
def spec_PermValid.f (k : Nat) (l0 : List Int) : Option (Bool) := spec_PermValid.l0 k l0 0
set_option maxHeartbeats 8000000 in
set_option maxRecDepth 100000 in
theorem spec_PermValid.calls (k : Nat) (A0 : Option Addr) (c0 : Nat) (l0 : List Int) (r : Bool) (w : World) (hr0 : Kd.C (Kd.int .i64) w A0 l0.length l0) (hc0 : l0.length ≤ c0) (h : spec_PermValid.f k l0 = some r) :
  Calls Try.prog 109 #[.slice A0 l0.length c0] w fun e w' => e = .returned (.bool r) ∧ Drawn0 w w' := by
 have HR0 := Az hr0; have HC0 := Az hc0; clear hr0 hc0; have H : (spec_PermValid.l0 k l0 0) = some r := h; clear h; have H' := Az H; clear H
 go_enter Try.func109, Try.ntmps109
 go_wp2
 repeat (go_quiet (fail); try go_wp2)
 go_loopg [3] k (fun kq v3 w' => ∃ (x3_1 : Int), v3 = .int .i64 x3_1 ∧ Aside0 (spec_PermValid.l0 kq l0 x3_1 = some r) ∧ Aside0 (kq ≤ k) ∧ Drawn0 w w')
 case atStart => exact ⟨(0), rS, H', ⟨Nat.le_refl _⟩, by repeat (first | exact Drawn0.refl _ | apply Drawn0.step)⟩
 case round =>
  clear H'; (try clear c1); obtain ⟨x3_1, rfl, HA, HK1, ⟨m1, rfl⟩⟩ := hrel
  cases gk with
  | zero => exact absurd HA.out (by simp [spec_PermValid.l0])
  | succ k1 =>
   have H := HA.out; clear HA; simp only [spec_PermValid.l0] at H
   by_cases c2 : x3_1 < (l0.length : Int)
   ·
    rw [if_pos c2] at H; have c2b0 := decide_eq_true c2; clear c2
    by_cases c3 : 0 ≤ x3_1
    ·
     rw [if_pos c3] at H; have c3b0 := decide_eq_true c3; clear c3; replace H := Option.bind_eq_some_iff.mp H; obtain ⟨t264, A40, H⟩ := H; replace H : (if t264 = true then (spec_PermValid.l1 k1 l0 x3_1 0) else (some false)) = some r := H; have A4 := Az A40; clear A40
     by_cases c5 : t264 = true
     ·
      subst c5
      have H1 : (spec_PermValid.l1 k1 l0 x3_1 0) = some r := by rw [if_pos rfl] at H; exact H
      clear H; have H := H1; clear H1; have H' := Az H; clear H; have p263 : 0 ≤ (x3_1 : Int) := oA; have q263 : x3_1 < (l0.length : Int) := oA; obtain ⟨ad263, e263, hx263_0⟩ := Kd.at_int HR0.out x3_1 p263 q263
      cases e263
      replace p263 := eq_true p263; replace q263 := eq_true q263
      go_wp2_with (first | (go_at_call 60; (with_reducible refine (spec_l6In.calls (rd l0 x3_1) 0 (wrap64 ((l0.length : Int) - 1)) true _ A4.out).mono ?_); rintro e w' ⟨rfl, ⟨nd, rfl⟩⟩; (try first | exact ⟨rfl, _, World.drewN_drewN _ _ _⟩ | exact ⟨rfl, _, Eq.trans (World.drewN_drewN _ _ _) (congrArg (World.drewN _) (Nat.add_assoc _ _ _))⟩)))
      repeat (go_quiet (fail); try go_wp2_with (fail))
      go_loopg [4] k1 (fun kq v4 w' => ∃ (x4_2 : Int), v4 = .int .i64 x4_2 ∧ Aside0 (spec_PermValid.l1 kq l0 x3_1 x4_2 = some r) ∧ Aside0 (kq ≤ k1) ∧ Drawn0 w w')
      case atStart => exact ⟨(0), rS, H', ⟨Nat.le_refl _⟩, by repeat (first | exact Drawn0.refl _ | apply Drawn0.step)⟩
      case round =>
       clear H'; (try clear c1); (try clear c2); (try clear c2b0); (try clear p2); (try clear q2); (try clear hx2); (try clear c3); (try clear c3b0); (try clear c5); (try clear hx263_0); (try clear p263); (try clear q263); obtain ⟨x4_2, rfl, HA, HK2, ⟨m2, rfl⟩⟩ := hrel
       cases gk with
       | zero => exact absurd HA.out (by simp [spec_PermValid.l1])
       | succ k2 =>
        have H := HA.out; clear HA; simp only [spec_PermValid.l1] at H
        by_cases c6 : x4_2 < x3_1
        ·
         rw [if_pos c6] at H; have c6b0 := decide_eq_true c6; clear c6
         by_cases c7 : 0 ≤ x4_2
         ·
          rw [if_pos c7] at H; have c7b0 := decide_eq_true c7; clear c7
          by_cases c8 : x4_2 < (l0.length : Int)
          ·
           rw [if_pos c8] at H; have c8b0 := decide_eq_true c8; clear c8
           by_cases c9 : 0 ≤ x3_1
           ·
            rw [if_pos c9] at H; have c9b0 := decide_eq_true c9; clear c9
            by_cases c10 : x3_1 < (l0.length : Int)
            ·
             rw [if_pos c10] at H; have c10b0 := decide_eq_true c10; clear c10
             by_cases c11 : (rd l0 x4_2) = (rd l0 x3_1)
             ·
              rw [if_pos c11] at H; have c11b0 := beq_iff_eq.mpr c11; have c11b1 := bne_eq_false_iff_eq.mpr c11; clear c11; obtain rfl := Option.some.inj H; have p265 : 0 ≤ (x4_2 : Int) := oA; have q265 : x4_2 < (l0.length : Int) := oA; obtain ⟨ad265, e265, hx265_0⟩ := Kd.at_int HR0.out x4_2 p265 q265; obtain rfl : ad263 = ad265 := (by injection e265); replace p265 := eq_true p265; replace q265 := eq_true q265; have p266 : 0 ≤ (x3_1 : Int) := oA; have q266 : x3_1 < (l0.length : Int) := oA; obtain ⟨ad266, e266, hx266_0⟩ := Kd.at_int HR0.out x3_1 p266 q266; obtain rfl : ad263 = ad266 := (by injection e266); replace p266 := eq_true p266; replace q266 := eq_true q266
              go_wp2
              repeat (go_quiet (fail); try go_wp2)
              go_ret
              exact ⟨by first | rfl | (simp; done) | (simp [*]; done), by repeat (first | exact Drawn0.refl _ | apply Drawn0.step)⟩
             ·
              rw [if_neg c11] at H; have c11b0 := beq_eq_false_iff_ne.mpr c11; have c11b1 := bne_iff_ne.mpr c11; have H' := Az H; clear H; have p265 : 0 ≤ (x4_2 : Int) := oA; have q265 : x4_2 < (l0.length : Int) := oA; obtain ⟨ad265, e265, hx265_0⟩ := Kd.at_int HR0.out x4_2 p265 q265; obtain rfl : ad263 = ad265 := (by injection e265); replace p265 := eq_true p265; replace q265 := eq_true q265; have p266 : 0 ≤ (x3_1 : Int) := oA; have q266 : x3_1 < (l0.length : Int) := oA; obtain ⟨ad266, e266, hx266_0⟩ := Kd.at_int HR0.out x3_1 p266 q266; obtain rfl : ad263 = ad266 := (by injection e266); replace p266 := eq_true p266; replace q266 := eq_true q266
              go_wp2
              repeat (go_quiet (fail); try go_wp2)
              (first | go_roundg k2 | (refine Handed.intro k2 ?measure ?_; rotate_left; go_step; (try simp only [add_plain]); (repeat apply Exists.intro); refine ⟨?rel, rfl⟩))
              case measure => have := HK1.out; have := HK2.out; omega
              case rel => exact ⟨(wrap64 (x4_2 + 1)), rS, H', ⟨by have := HK1.out; have := HK2.out; omega⟩, by repeat (first | exact Drawn0.refl _ | apply Drawn0.step)⟩
            ·
             rw [if_neg c10] at H
             exact absurd H (by simp)
           ·
            rw [if_neg c9] at H
            exact absurd H (by simp)
          ·
           rw [if_neg c8] at H
           exact absurd H (by simp)
         ·
          rw [if_neg c7] at H
          exact absurd H (by simp)
        ·
         rw [if_neg c6] at H; have c6b0 := decide_eq_false c6; clear c6; have H' := Az H; clear H
         go_wp2
         repeat (go_quiet (fail); try go_wp2)
         (first | go_roundg k2 | (refine Handed.intro k2 ?measure ?_; rotate_left; go_step; (try simp only [add_plain]); (repeat apply Exists.intro); refine ⟨?rel, rfl⟩))
         case measure => have := HK1.out; have := HK2.out; omega
         case rel => exact ⟨(wrap64 (x3_1 + 1)), rS, H', ⟨by have := HK1.out; have := HK2.out; omega⟩, by repeat (first | exact Drawn0.refl _ | apply Drawn0.step)⟩
     ·
      replace c5 := Bool.eq_false_iff.mpr c5; subst c5
      have H1 : (some false) = some r := by rw [if_neg (show ¬ (false = true) by decide)] at H; exact H
      clear H; have H := H1; clear H1; obtain rfl := Option.some.inj H; have p263 : 0 ≤ (x3_1 : Int) := oA; have q263 : x3_1 < (l0.length : Int) := oA; obtain ⟨ad263, e263, hx263_0⟩ := Kd.at_int HR0.out x3_1 p263 q263
      cases e263
      replace p263 := eq_true p263; replace q263 := eq_true q263
      go_wp2_with (first | (go_at_call 60; (with_reducible refine (spec_l6In.calls (rd l0 x3_1) 0 (wrap64 ((l0.length : Int) - 1)) false _ A4.out).mono ?_); rintro e w' ⟨rfl, ⟨nd, rfl⟩⟩; (try first | exact ⟨rfl, _, World.drewN_drewN _ _ _⟩ | exact ⟨rfl, _, Eq.trans (World.drewN_drewN _ _ _) (congrArg (World.drewN _) (Nat.add_assoc _ _ _))⟩)))
      repeat (go_quiet (fail); try go_wp2_with (fail))
      go_ret
      exact ⟨by first | rfl | (simp; done) | (simp [*]; done), by repeat (first | exact Drawn0.refl _ | apply Drawn0.step)⟩
    ·
     rw [if_neg c3] at H
     exact absurd H (by simp)
   ·
    rw [if_neg c2] at H; have c2b0 := decide_eq_false c2; clear c2; replace H := Option.bind_eq_some_iff.mp H; obtain ⟨t262, A120, H⟩ := H; replace H : (some t262) = some r := H; have A12 := Az A120; clear A120; obtain rfl := Option.some.inj H
    go_wp2_with (first | (go_at_call 60; (with_reducible refine (spec_l6In.calls (l0.length : Int) 1 12 t262 _ A12.out).mono ?_); rintro e w' ⟨rfl, ⟨nd, rfl⟩⟩; (try first | exact ⟨rfl, _, World.drewN_drewN _ _ _⟩ | exact ⟨rfl, _, Eq.trans (World.drewN_drewN _ _ _) (congrArg (World.drewN _) (Nat.add_assoc _ _ _))⟩)))
    repeat (go_quiet (fail); try go_wp2_with (fail))
    go_ret
    exact ⟨by first | rfl | (simp; done) | (simp [*]; done), by repeat (first | exact Drawn0.refl _ | apply Drawn0.step)⟩
def spec_l1Both.f (k : Nat) (l0 : List Int) (l1 : List Int) : Option (Bool) := (spec_PermValid.f k l0).bind fun t267 => (if t267 = true then ((spec_PermValid.f k l1).bind fun t268 => (if t268 = true then (some ((l0.length : Int) == (l1.length : Int))) else (some false))) else (some false))
set_option maxHeartbeats 8000000 in
set_option maxRecDepth 100000 in
theorem spec_l1Both.calls (k : Nat) (A0 : Option Addr) (c0 : Nat) (l0 : List Int) (A1 : Option Addr) (c1 : Nat) (l1 : List Int) (r : Bool) (w : World) (hr0 : Kd.C (Kd.int .i64) w A0 l0.length l0) (hc0 : l0.length ≤ c0) (hr1 : Kd.C (Kd.int .i64) w A1 l1.length l1) (hc1 : l1.length ≤ c1) (h : spec_l1Both.f k l0 l1 = some r) :
  Calls Try.prog 98 #[.slice A0 l0.length c0, .slice A1 l1.length c1] w fun e w' => e = .returned (.bool r) ∧ Drawn0 w w' := by
 have HR0 := Az hr0; have HC0 := Az hc0; clear hr0 hc0; have HR1 := Az hr1; have HC1 := Az hc1; clear hr1 hc1; have H : ((spec_PermValid.f k l0).bind fun t267 => (if t267 = true then ((spec_PermValid.f k l1).bind fun t268 => (if t268 = true then (some ((l0.length : Int) == (l1.length : Int))) else (some false))) else (some false))) = some r := h; clear h; replace H := Option.bind_eq_some_iff.mp H; obtain ⟨t267, A30, H⟩ := H; replace H : (if t267 = true then ((spec_PermValid.f k l1).bind fun t268 => (if t268 = true then (some ((l0.length : Int) == (l1.length : Int))) else (some false))) else (some false)) = some r := H; have A3 := Az A30; clear A30
 by_cases c4 : t267 = true
 ·
  subst c4
  have H1 : ((spec_PermValid.f k l1).bind fun t268 => (if t268 = true then (some ((l0.length : Int) == (l1.length : Int))) else (some false))) = some r := by rw [if_pos rfl] at H; exact H
  clear H; have H := H1; clear H1; replace H := Option.bind_eq_some_iff.mp H; obtain ⟨t268, A50, H⟩ := H; replace H : (if t268 = true then (some ((l0.length : Int) == (l1.length : Int))) else (some false)) = some r := H; have A5 := Az A50; clear A50
  by_cases c6 : t268 = true
  ·
   subst c6
   have H1 : (some ((l0.length : Int) == (l1.length : Int))) = some r := by rw [if_pos rfl] at H; exact H
   clear H; have H := H1; clear H1; obtain rfl := Option.some.inj H
   go_enter Try.func98, Try.ntmps98
   go_wp2_with (first | ((with_reducible refine gate_callee (f := 109) rfl ?_); refine goesL_ (some 6) rfl rfl Try.func109 (by kernel_rfl) rfl #[.slice A0 l0.length c0] rfl (by (try simp only [List.map_toArray, List.map_cons, List.map_nil]); first | done | rfl | (simp only [List.length_drop, List.length_take]; rfl)) ?_; (with_reducible refine (spec_PermValid.calls k _ _ l0 true _ ?side1 ?side2 A3.out).mono ?_); (case side1 => exact cU (HR0.out)); (case side2 => exact HC0.out); rintro e w' ⟨rfl, ⟨nd, rfl⟩⟩; refine ⟨_, rfl, ?_⟩) | (go_at_call 109; (with_reducible refine (spec_PermValid.calls k _ _ l1 true _ ?side1 ?side2 A5.out).mono ?_); (case side1 => exact cU (HR1.out)); (case side2 => exact HC1.out); rintro e w' ⟨rfl, ⟨nd, rfl⟩⟩))
   go_ret
   exact ⟨by first | rfl | (simp; done) | (simp [*]; done), by repeat (first | exact Drawn0.refl _ | apply Drawn0.step)⟩
  ·
   replace c6 := Bool.eq_false_iff.mpr c6; subst c6
   have H1 : (some false) = some r := by rw [if_neg (show ¬ (false = true) by decide)] at H; exact H
   clear H; have H := H1; clear H1; obtain rfl := Option.some.inj H
   go_enter Try.func98, Try.ntmps98
   go_wp2_with (first | ((with_reducible refine gate_callee (f := 109) rfl ?_); refine goesL_ (some 6) rfl rfl Try.func109 (by kernel_rfl) rfl #[.slice A0 l0.length c0] rfl (by (try simp only [List.map_toArray, List.map_cons, List.map_nil]); first | done | rfl | (simp only [List.length_drop, List.length_take]; rfl)) ?_; (with_reducible refine (spec_PermValid.calls k _ _ l0 true _ ?side1 ?side2 A3.out).mono ?_); (case side1 => exact cU (HR0.out)); (case side2 => exact HC0.out); rintro e w' ⟨rfl, ⟨nd, rfl⟩⟩; refine ⟨_, rfl, ?_⟩) | (go_at_call 109; (with_reducible refine (spec_PermValid.calls k _ _ l1 false _ ?side1 ?side2 A5.out).mono ?_); (case side1 => exact cU (HR1.out)); (case side2 => exact HC1.out); rintro e w' ⟨rfl, ⟨nd, rfl⟩⟩))
   go_ret
   exact ⟨by first | rfl | (simp; done) | (simp [*]; done), by repeat (first | exact Drawn0.refl _ | apply Drawn0.step)⟩
 ·
  replace c4 := Bool.eq_false_iff.mpr c4; subst c4
  have H1 : (some false) = some r := by rw [if_neg (show ¬ (false = true) by decide)] at H; exact H
  clear H; have H := H1; clear H1; obtain rfl := Option.some.inj H
  go_enter Try.func98, Try.ntmps98
  go_wp2_with (first | ((with_reducible refine gate_callee (f := 109) rfl ?_); refine goesL_ (some 6) rfl rfl Try.func109 (by kernel_rfl) rfl #[.slice A0 l0.length c0] rfl (by (try simp only [List.map_toArray, List.map_cons, List.map_nil]); first | done | rfl | (simp only [List.length_drop, List.length_take]; rfl)) ?_; (with_reducible refine (spec_PermValid.calls k _ _ l0 false _ ?side1 ?side2 A3.out).mono ?_); (case side1 => exact cU (HR0.out)); (case side2 => exact HC0.out); rintro e w' ⟨rfl, ⟨nd, rfl⟩⟩; refine ⟨_, rfl, ?_⟩))
  go_ret
  exact ⟨by first | rfl | (simp; done) | (simp [*]; done), by repeat (first | exact Drawn0.refl _ | apply Drawn0.step)⟩
def spec_l1Same.l0 : Nat → Int → List Int → Int → Option (List Int)
 | 0, _, _, _ => none
 | k + 1, x0, x3, x4 => if x4 < x0 then (if x3.length < 17592186044416 then (spec_l1Same.l0 k x0 (x3 ++ [x4]) (wrap64 (x4 + 1))) else (none)) else (some x3)
def spec_l1Same.f (k : Nat) (a0 : Int) : Option (List Int) := spec_l1Same.l0 k a0 (([] : List Int)) 0
set_option maxHeartbeats 8000000 in
set_option maxRecDepth 100000 in
theorem spec_l1Same.calls (k : Nat) (a0 : Int) (r : List Int) (w : World) (h : spec_l1Same.f k a0 = some r) :
  Calls Try.prog 108 #[.int .i64 a0] w fun e w' => ∃ v0_ : Value, e = .returned (v0_) ∧ Kd.R (Kd.int .i64) 3 w' w.heap.size (fun _ => True) v0_ r ∧ Below w.heap.size w w' := by
 have HB := Az (Below.refl w.heap.size w); have H : (spec_l1Same.l0 k a0 (([] : List Int)) 0) = some r := h; clear h; obtain ⟨y269, hy269⟩ : ∃ y_ : List Int, y_ = (([] : List Int)) := ⟨_, rfl⟩; replace H : (spec_l1Same.l0 k a0 y269 0) = some r := hR hy269 H; have Ny269 := Az hy269; clear hy269; have H' := Az H; clear H
 go_enter Try.func108, Try.ntmps108
 go_wp2_with (first | ((with_reducible refine gate_dst (N := 5) rfl ?_); refine Kd.R_lit (Kd.int .i64) _ 3 ?hg (N := 5) ?hd (xs := ([] : List Int)) (inner := []) (ok := fun _ => True) (okp := fun _ => True) ?hr ?hp (fun _ hk => hk) trivial (Below.refl _ _) (Nat.le_refl _) (by simp) ?_; (case hd => rfl); (case hg => rfl); (case hr => first | (go_simp; done) | (go_simp; rfl)); (case hp => exact (Reps.none _ _)); intro v270 w2 ho3 hb hg_ hnew_; clear hg_ hnew_; (first | rw [← Ny269.out] at ho3 | (simp only [Int.reduceToNat] at ho3; rw [← Ny269.out] at ho3)); have n0 := Az (Kd.R_lower ho3 (below_size (bU0 HB.out))); have n1 := Az (below_step (bU0 HB.out) hb); clear HB; have HO271 := n0; have HB := n1; clear n0 n1; clear hb ho3))
 go_loopg [3, 4] k (fun kq v3 v4 w' => ∃ (x3_1 : List Int) (x4_1 : Int), v4 = .int .i64 x4_1 ∧ Aside0 (spec_l1Same.l0 kq a0 x3_1 x4_1 = some r) ∧ Aside0 (kq ≤ k) ∧ Aside0 (Kd.R (Kd.int .i64) 3 w' w.heap.size (fun _ => True) v3 x3_1) ∧ Aside0 (Below w.heap.size w w'))
 case atStart => exact ⟨(y269), (0), rS, H', ⟨Nat.le_refl _⟩, ⟨rU HO271.out⟩, ⟨bU0 HB.out⟩⟩
 case round =>
  clear H'; (try clear c1); (try clear p2); obtain ⟨x3_1, x4_1, rfl, HA, HK1, HO_3, HB⟩ := hrel
  cases gk with
  | zero => exact absurd HA.out (by simp [spec_l1Same.l0])
  | succ k1 =>
   have H := HA.out; clear HA; simp only [spec_l1Same.l0] at H
   by_cases c4 : x4_1 < a0
   ·
    rw [if_pos c4] at H; have c4b0 := decide_eq_true c4; clear c4
    by_cases c5 : x3_1.length < 17592186044416
    ·
     rw [if_pos c5] at H; have LMc5 := Az c5; clear c5; obtain ⟨y272, hy272⟩ : ∃ y_ : List Int, y_ = (x3_1 ++ [x4_1]) := ⟨_, rfl⟩; replace H : (spec_l1Same.l0 k1 a0 y272 (wrap64 (x4_1 + 1))) = some r := hR hy272 H; have Ny272 := Az hy272; clear hy272; have H' := Az H; clear H
     go_wp2_with (first | ((with_reducible refine gate_builtin (b := .append) (xs := #[.tmp 11, .tmp 13]) rfl ?_); at_builtin; refine Kd.R_append (Kd.int .i64) (w0 := w) w.heap.size rfl (.tmp 11) (.tmp 13) 23 3 (.int .i64 0) 8 rfl Try.underlying23 info3 rfl (by decide) (by omega) u3 x3_1 x4_1 [.int .i64 x4_1] (fun _ => True) (fun _ => False) rfl rfl ?aP (fun _ hk => hk.elim) ?aF ?aO ?aB ?aS ?aL ?_; (case aP => exact rfl); (case aB => exact (bU0 HB.out)); (case aF => exact (fun _ _ => trivial)); (case aO => exact (rU HO_3.out)); (case aS => exact (below_size (bU0 HB.out))); (case aL => have := LMc5.out; omega); intro v273 w6 ho hb hg hat; rw [← Ny272.out] at ho; have n0 := Az (hb); have n1 := Az (ho); clear HB HO_3; have HB := n0; have HO274 := n1; clear n0 n1; clear ho hb hg hat))
     (first | go_roundg k1 | (refine Handed.intro k1 ?measure ?_; rotate_left; go_step; (try simp only [add_plain]); (repeat apply Exists.intro); refine ⟨?rel, rfl⟩))
     case measure => have := HK1.out; omega
     case rel => exact ⟨(y272), (wrap64 (x4_1 + 1)), rS, H', ⟨by have := HK1.out; omega⟩, ⟨rU HO274.out⟩, ⟨bU0 HB.out⟩⟩
    ·
     rw [if_neg c5] at H
     exact absurd H (by simp)
   ·
    rw [if_neg c4] at H; have c4b0 := decide_eq_false c4; clear c4; obtain rfl := Option.some.inj H
    go_wp2
    go_ret
    exact ⟨_, rE, rU HO_3.out, bU0 HB.out⟩
mutual
def spec_l1Orbits.l0 : Nat → List Int → List Int → List Int → Int → Option (List Int)
 | 0, _, _, _, _ => none
 | k + 1, x0, x1, x5, x6 => if x6 < (x0.length : Int) then (spec_l1Orbits.l1 k x0 x1 x5 x6 0) else (some x5)
def spec_l1Orbits.l1 : Nat → List Int → List Int → List Int → Int → Int → Option (List Int)
 | 0, _, _, _, _, _ => none
 | k + 1, x0, x1, x5, x6, x7 => if x7 < (x0.length : Int) then (if 0 ≤ x7 then (if x7 < (x5.length : Int) then (if 0 ≤ (rd x0 x7) then (if (rd x0 x7) < (x5.length : Int) then (if x7 < (x1.length : Int) then (if 0 ≤ (rd x1 x7) then (if (rd x1 x7) < (x5.length : Int) then (spec_l1Orbits.l1 k x0 x1 (((x5.set (x7 : Int).toNat (mn (rd x5 x7) (mn (rd x5 (rd x0 x7)) (rd x5 (rd x1 x7))))).set ((rd x0 x7) : Int).toNat (mn (rd x5 x7) (mn (rd x5 (rd x0 x7)) (rd x5 (rd x1 x7))))).set ((rd x1 x7) : Int).toNat (mn (rd x5 x7) (mn (rd x5 (rd x0 x7)) (rd x5 (rd x1 x7))))) x6 (wrap64 (x7 + 1))) else (none)) else (none)) else (none)) else (none)) else (none)) else (none)) else (none)) else (spec_l1Orbits.l0 k x0 x1 x5 (wrap64 (x6 + 1)))
end
def spec_l1Orbits.f (k : Nat) (l0 : List Int) (l1 : List Int) : Option (List Int) := (spec_l1Same.f k (l0.length : Int)).bind fun t275 => (spec_l1Orbits.l0 k l0 l1 t275 0)
set_option maxHeartbeats 8000000 in
set_option maxRecDepth 100000 in
theorem spec_l1Orbits.calls (k : Nat) (A0 : Option Addr) (c0 : Nat) (l0 : List Int) (A1 : Option Addr) (c1 : Nat) (l1 : List Int) (r : List Int) (w : World) (hr0 : Kd.C (Kd.int .i64) w A0 l0.length l0) (hc0 : l0.length ≤ c0) (hr1 : Kd.C (Kd.int .i64) w A1 l1.length l1) (hc1 : l1.length ≤ c1) (h : spec_l1Orbits.f k l0 l1 = some r) :
  Calls Try.prog 99 #[.slice A0 l0.length c0, .slice A1 l1.length c1] w fun e w' => ∃ v0_ : Value, e = .returned (v0_) ∧ Kd.R (Kd.int .i64) 3 w' w.heap.size (fun _ => True) v0_ r ∧ Below w.heap.size w w' := by
 have HR0 := Az hr0; have HC0 := Az hc0; clear hr0 hc0; have HR1 := Az hr1; have HC1 := Az hc1; clear hr1 hc1; have HB := Az (Below.refl w.heap.size w); have H : ((spec_l1Same.f k (l0.length : Int)).bind fun t275 => (spec_l1Orbits.l0 k l0 l1 t275 0)) = some r := h; clear h; replace H := Option.bind_eq_some_iff.mp H; obtain ⟨t275, A30, H⟩ := H; replace H : (spec_l1Orbits.l0 k l0 l1 t275 0) = some r := H; have A3 := Az A30; clear A30; have H' := Az H; clear H
 go_enter Try.func99, Try.ntmps99
 go_wp2_with (first | (go_at_call 108; (with_reducible refine (spec_l1Same.calls k (l0.length : Int) t275 _ A3.out).mono ?_); rintro e w4 ⟨v276, rfl, ho0, hb⟩; have n0 := Az (Kd.R_lower ho0 (below_size (bU0 HB.out))); have n1 := Az (below_step (bU0 HB.out) hb); clear HB; have HO277 := n0; have HB := n1; clear n0 n1; (try clear hb); (try clear hb2); (try clear hk); (try clear hi); (try clear ho0)))
 repeat (go_quiet (fail); try go_wp2_with (fail))
 go_loopg [6] k (fun kq v6 w' => ∃ (x5_1 : List Int) (x6_1 : Int), v6 = .int .i64 x6_1 ∧ Aside0 (spec_l1Orbits.l0 kq l0 l1 x5_1 x6_1 = some r) ∧ Aside0 (kq ≤ k) ∧ Aside0 (Kd.R (Kd.int .i64) 3 w' w.heap.size (fun _ => True) v276 x5_1) ∧ Aside0 (Below w.heap.size w w'))
 case atStart => exact ⟨(t275), (0), rS, H', ⟨Nat.le_refl _⟩, ⟨rU HO277.out⟩, ⟨bU0 HB.out⟩⟩
 case round =>
  clear H'; (try clear c1); (try clear p2); obtain ⟨x5_1, x6_1, rfl, HA, HK1, HO_5, HB⟩ := hrel
  cases gk with
  | zero => exact absurd HA.out (by simp [spec_l1Orbits.l0])
  | succ k1 =>
   have H := HA.out; clear HA; simp only [spec_l1Orbits.l0] at H
   by_cases c5 : x6_1 < (l0.length : Int)
   ·
    rw [if_pos c5] at H; have c5b0 := decide_eq_true c5; clear c5; have H' := Az H; clear H
    go_wp2
    repeat (go_quiet (fail); try go_wp2)
    go_loopg [7] k1 (fun kq v7 w' => ∃ (x5_2 : List Int) (x7_2 : Int), v7 = .int .i64 x7_2 ∧ Aside0 (spec_l1Orbits.l1 kq l0 l1 x5_2 x6_1 x7_2 = some r) ∧ Aside0 (kq ≤ k1) ∧ Aside0 (Kd.R (Kd.int .i64) 3 w' w.heap.size (fun _ => True) v276 x5_2) ∧ Aside0 (Below w.heap.size w w'))
    case atStart => exact ⟨(x5_1), (0), rS, H', ⟨Nat.le_refl _⟩, ⟨rU HO_5.out⟩, ⟨bU0 HB.out⟩⟩
    case round =>
     clear H'; (try clear c1); (try clear p2); (try clear c5); (try clear c5b0); (try clear p2); obtain ⟨x5_2, x7_2, rfl, HA, HK2, HO_5, HB⟩ := hrel
     cases gk with
     | zero => exact absurd HA.out (by simp [spec_l1Orbits.l1])
     | succ k2 =>
      have H := HA.out; clear HA; simp only [spec_l1Orbits.l1] at H
      by_cases c6 : x7_2 < (l0.length : Int)
      ·
       rw [if_pos c6] at H; have c6b0 := decide_eq_true c6; clear c6
       by_cases c7 : 0 ≤ x7_2
       ·
        rw [if_pos c7] at H; have c7b0 := decide_eq_true c7; clear c7
        by_cases c8 : x7_2 < (x5_2.length : Int)
        ·
         rw [if_pos c8] at H; have c8b0 := decide_eq_true c8; clear c8
         by_cases c9 : 0 ≤ (rd l0 x7_2)
         ·
          rw [if_pos c9] at H; have c9b0 := decide_eq_true c9; clear c9
          by_cases c10 : (rd l0 x7_2) < (x5_2.length : Int)
          ·
           rw [if_pos c10] at H; have c10b0 := decide_eq_true c10; clear c10
           by_cases c11 : x7_2 < (l1.length : Int)
           ·
            rw [if_pos c11] at H; have c11b0 := decide_eq_true c11; clear c11
            by_cases c12 : 0 ≤ (rd l1 x7_2)
            ·
             rw [if_pos c12] at H; have c12b0 := decide_eq_true c12; clear c12
             by_cases c13 : (rd l1 x7_2) < (x5_2.length : Int)
             ·
              rw [if_pos c13] at H; have c13b0 := decide_eq_true c13; clear c13; obtain ⟨ji14, hji14⟩ : ∃ j_ : Int, (mn (rd x5_2 (rd l0 x7_2)) (rd x5_2 (rd l1 x7_2))) = j_ := ⟨_, rfl⟩
              replace H : (spec_l1Orbits.l1 k2 l0 l1 (((x5_2.set (x7_2 : Int).toNat (mn (rd x5_2 x7_2) (ji14))).set ((rd l0 x7_2) : Int).toNat (mn (rd x5_2 x7_2) (ji14))).set ((rd l1 x7_2) : Int).toNat (mn (rd x5_2 x7_2) (ji14))) x6_1 (wrap64 (x7_2 + 1))) = some r := by first | (rw [hji14] at H; exact H) | (simp only [hji14] at H ⊢; exact H)
              have hji14_ : (if (rd x5_2 (rd l1 x7_2)) < (rd x5_2 (rd l0 x7_2)) then (rd x5_2 (rd l1 x7_2)) else (rd x5_2 (rd l0 x7_2))) = ji14 := hji14; obtain ⟨ji15, hji15⟩ : ∃ j_ : Int, (mn (rd x5_2 x7_2) (ji14)) = j_ := ⟨_, rfl⟩
              replace H : (spec_l1Orbits.l1 k2 l0 l1 (((x5_2.set (x7_2 : Int).toNat (ji15)).set ((rd l0 x7_2) : Int).toNat (ji15)).set ((rd l1 x7_2) : Int).toNat (ji15)) x6_1 (wrap64 (x7_2 + 1))) = some r := by first | (rw [hji15] at H; exact H) | (simp only [hji15] at H ⊢; exact H)
              have hji15_ : (if (ji14) < (rd x5_2 x7_2) then (ji14) else (rd x5_2 x7_2)) = ji15 := hji15; obtain ⟨y283, hy283⟩ : ∃ y_ : List Int, y_ = (x5_2.set (x7_2 : Int).toNat (ji15)) := ⟨_, rfl⟩; replace H : (spec_l1Orbits.l1 k2 l0 l1 ((y283.set ((rd l0 x7_2) : Int).toNat (ji15)).set ((rd l1 x7_2) : Int).toNat (ji15)) x6_1 (wrap64 (x7_2 + 1))) = some r := hR hy283 H; have Ny283 := Az hy283; clear hy283; obtain ⟨y285, hy285⟩ : ∃ y_ : List Int, y_ = (y283.set ((rd l0 x7_2) : Int).toNat (ji15)) := ⟨_, rfl⟩; replace H : (spec_l1Orbits.l1 k2 l0 l1 (y285.set ((rd l1 x7_2) : Int).toNat (ji15)) x6_1 (wrap64 (x7_2 + 1))) = some r := hR hy285 H; have Ny285 := Az hy285; clear hy285; obtain ⟨y287, hy287⟩ : ∃ y_ : List Int, y_ = (y285.set ((rd l1 x7_2) : Int).toNat (ji15)) := ⟨_, rfl⟩; replace H : (spec_l1Orbits.l1 k2 l0 l1 y287 x6_1 (wrap64 (x7_2 + 1))) = some r := hR hy287 H; have Ny287 := Az hy287; clear hy287; have H' := Az H; clear H; obtain ⟨Ao19, co19, eo19⟩ := Kd.R_slice HO_5.out; subst eo19; have p278 : 0 ≤ (x7_2 : Int) := oA; have q278 : x7_2 < (x5_2.length : Int) := oA; obtain ⟨ad278, e278, hx278_0⟩ := Kd.at_int (Kd.R_reads' HO_5.out).2.2 x7_2 p278 q278
              cases e278
              replace p278 := eq_true p278; replace q278 := eq_true q278; have p279 : 0 ≤ (x7_2 : Int) := oA; have q279 : x7_2 < (l0.length : Int) := oA; obtain ⟨ad279, e279, hx279_0⟩ := Kd.at_int HR0.out x7_2 p279 q279
              cases e279
              (try replace hx279_0 := (HB.out.cell (World.block_lt_of_cell? w _ hx279_0)).trans hx279_0); replace p279 := eq_true p279; replace q279 := eq_true q279; have p280 : 0 ≤ ((rd l0 x7_2) : Int) := oA; have q280 : (rd l0 x7_2) < (x5_2.length : Int) := oA; obtain ⟨ad280, e280, hx280_0⟩ := Kd.at_int (Kd.R_reads' HO_5.out).2.2 (rd l0 x7_2) p280 q280; obtain rfl : ad278 = ad280 := (by injection e280); replace p280 := eq_true p280; replace q280 := eq_true q280; have p281 : 0 ≤ (x7_2 : Int) := oA; have q281 : x7_2 < (l1.length : Int) := oA; obtain ⟨ad281, e281, hx281_0⟩ := Kd.at_int HR1.out x7_2 p281 q281
              cases e281
              (try replace hx281_0 := (HB.out.cell (World.block_lt_of_cell? w _ hx281_0)).trans hx281_0); replace p281 := eq_true p281; replace q281 := eq_true q281; have p282 : 0 ≤ ((rd l1 x7_2) : Int) := oA; have q282 : (rd l1 x7_2) < (x5_2.length : Int) := oA; obtain ⟨ad282, e282, hx282_0⟩ := Kd.at_int (Kd.R_reads' HO_5.out).2.2 (rd l1 x7_2) p282 q282; obtain rfl : ad278 = ad282 := (by injection e282); replace p282 := eq_true p282; replace q282 := eq_true q282; have p16 : 0 ≤ (x7_2 : Int) := oA; have q16 : (x7_2 : Int) < ((x5_2.length : Int) : Int) := oA; obtain ⟨go16, co16, eo16, gb16, gl16, cl16, HG16⟩ := Kd.R_form HO_5.out (by omega); (first | cases eo16 | (injection eo16 with ea_ en_ ec_; (first | subst ea_ | (injection ea_ with ea_; subst ea_)); subst ec_; clear en_)); have GB16 := Az gb16; have GG16 := Az HG16; clear gb16 gl16 HG16; (first | simp only [add_plain] at hx278_0 | skip); (first | simp only [add_plain] at hx280_0 | skip); (first | simp only [add_plain] at hx282_0 | skip); obtain ⟨hx16_0, hf16_0⟩ := Kd.R_celln 0 HO_5.out (x7_2 : Int) p16 q16; replace p16 := eq_true p16; replace q16 := eq_true q16; obtain ⟨hy20_, hz20_⟩ := Kd.R_celln 0 HO_5.out (x7_2 : Int) (oA) (oA); have HP20 := Kd.R_putg HO_5.out (x7_2 : Int) ji15
              go_wp2_with (fail)
              repeat (go_quiet (fail); try go_wp2_with (first | ((with_reducible refine gate_store (t := 3) (p := 47) rfl ?_); (try (rw [drewN_self wr]; generalize hq_ : World.drewN wr _ = wr; have n0 := Az (Kd.R_at hq_ HO_5.out); have n1 := Az (below_at hq_ HB.out); clear hq_ HO_5 HB; have HO_5 := n0; have HB := n1; clear n0 n1; (try (obtain ⟨hy20_, hz20_⟩ := Kd.R_celln 0 HO_5.out (x7_2 : Int) (oA) (oA))); (try (have HP20 := Kd.R_putg HO_5.out (x7_2 : Int) ji15)))); refine store_event (t := 3) (p := 47) (v := ?vo_w21) (w1 := (wr.setCell ⟨go16, (x7_2 : Int).toNat, none⟩ (.int .i64 ji15))) ?hg ?ho ?hn ?hr ?_; (case ho => rfl); (case hg => rfl); (case hn => rfl); (case hr => first | (go_simp; done) | (go_simp; rfl)); intro w21 hw; have hg : wr.grownBy w21 (some go16) := (by rw [hw]; exact HP20.2); have hp_ : Kd.R (Kd.int .i64) 3 w21 w.heap.size (fun _ => True) (.slice (some ⟨go16, 0, none⟩) x5_2.length co19) y283 := (by rw [hw, Ny283.out]; exact HP20.1); clear HP20; have n0 := Az (hp_); have n1 := Az ((by rw [hw]; exact below_set (HB.out) GB16.out : Below w.heap.size w w21)); clear HO_5 HB; have HO_5 := n0; have HB := n1; clear n0 n1 hg hw hp_; have p284 : 0 ≤ (x7_2 : Int) := oA; have q284 : x7_2 < (l0.length : Int) := oA; obtain ⟨ad284, e284, hx284_0⟩ := Kd.at_int HR0.out x7_2 p284 q284; obtain rfl : ad279 = ad284 := (by injection e284); replace hx284_0 := (HB.out.cell (World.block_lt_of_cell? w _ hx284_0)).trans hx284_0; replace p284 := eq_true p284; replace q284 := eq_true q284; have p17 : 0 ≤ ((rd l0 x7_2) : Int) := oA; have q17 : ((rd l0 x7_2) : Int) < ((x5_2.length : Int) : Int) := oA; obtain ⟨hx17_0, hf17_0⟩ := Kd.R_celln 0 HO_5.out ((rd l0 x7_2) : Int) p17 q17; replace p17 := eq_true p17; replace q17 := eq_true q17; obtain ⟨hy22_, hz22_⟩ := Kd.R_celln 0 HO_5.out ((rd l0 x7_2) : Int) (oA) (oA); have HP22 := Kd.R_putg HO_5.out ((rd l0 x7_2) : Int) ji15) | ((with_reducible refine gate_store (t := 3) (p := 54) rfl ?_); (try (rw [drewN_self w21]; generalize hq_ : World.drewN w21 _ = w21; have n0 := Az (Kd.R_at hq_ HO_5.out); have n1 := Az (below_at hq_ HB.out); clear hq_ HO_5 HB; have HO_5 := n0; have HB := n1; clear n0 n1; (try (obtain ⟨hy22_, hz22_⟩ := Kd.R_celln 0 HO_5.out ((rd l0 x7_2) : Int) (oA) (oA))); (try (have HP22 := Kd.R_putg HO_5.out ((rd l0 x7_2) : Int) ji15)))); refine store_event (t := 3) (p := 54) (v := ?vo_w23) (w1 := (w21.setCell ⟨go16, ((rd l0 x7_2) : Int).toNat, none⟩ (.int .i64 ji15))) ?hg ?ho ?hn ?hr ?_; (case ho => rfl); (case hg => rfl); (case hn => rfl); (case hr => first | (go_simp; done) | (go_simp; rfl)); intro w23 hw; have hg : w21.grownBy w23 (some go16) := (by rw [hw]; exact HP22.2); have hp_ : Kd.R (Kd.int .i64) 3 w23 w.heap.size (fun _ => True) (.slice (some ⟨go16, 0, none⟩) x5_2.length co19) y285 := (by rw [hw, Ny285.out]; exact HP22.1); clear HP22; have n0 := Az (hp_); have n1 := Az ((by rw [hw]; exact below_set (HB.out) GB16.out : Below w.heap.size w w23)); clear HO_5 HB; have HO_5 := n0; have HB := n1; clear n0 n1 hg hw hp_; have p286 : 0 ≤ (x7_2 : Int) := oA; have q286 : x7_2 < (l1.length : Int) := oA; obtain ⟨ad286, e286, hx286_0⟩ := Kd.at_int HR1.out x7_2 p286 q286; obtain rfl : ad281 = ad286 := (by injection e286); replace hx286_0 := (HB.out.cell (World.block_lt_of_cell? w _ hx286_0)).trans hx286_0; replace p286 := eq_true p286; replace q286 := eq_true q286; have p18 : 0 ≤ ((rd l1 x7_2) : Int) := oA; have q18 : ((rd l1 x7_2) : Int) < ((x5_2.length : Int) : Int) := oA; obtain ⟨hx18_0, hf18_0⟩ := Kd.R_celln 0 HO_5.out ((rd l1 x7_2) : Int) p18 q18; replace p18 := eq_true p18; replace q18 := eq_true q18; obtain ⟨hy24_, hz24_⟩ := Kd.R_celln 0 HO_5.out ((rd l1 x7_2) : Int) (oA) (oA); have HP24 := Kd.R_putg HO_5.out ((rd l1 x7_2) : Int) ji15) | ((with_reducible refine gate_store (t := 3) (p := 61) rfl ?_); (try (rw [drewN_self w23]; generalize hq_ : World.drewN w23 _ = w23; have n0 := Az (Kd.R_at hq_ HO_5.out); have n1 := Az (below_at hq_ HB.out); clear hq_ HO_5 HB; have HO_5 := n0; have HB := n1; clear n0 n1; (try (obtain ⟨hy24_, hz24_⟩ := Kd.R_celln 0 HO_5.out ((rd l1 x7_2) : Int) (oA) (oA))); (try (have HP24 := Kd.R_putg HO_5.out ((rd l1 x7_2) : Int) ji15)))); refine store_event (t := 3) (p := 61) (v := ?vo_w25) (w1 := (w23.setCell ⟨go16, ((rd l1 x7_2) : Int).toNat, none⟩ (.int .i64 ji15))) ?hg ?ho ?hn ?hr ?_; (case ho => rfl); (case hg => rfl); (case hn => rfl); (case hr => first | (go_simp; done) | (go_simp; rfl)); intro w25 hw; have hg : w23.grownBy w25 (some go16) := (by rw [hw]; exact HP24.2); have hp_ : Kd.R (Kd.int .i64) 3 w25 w.heap.size (fun _ => True) (.slice (some ⟨go16, 0, none⟩) x5_2.length co19) y287 := (by rw [hw, Ny287.out]; exact HP24.1); clear HP24; have n0 := Az (hp_); have n1 := Az ((by rw [hw]; exact below_set (HB.out) GB16.out : Below w.heap.size w w25)); clear HO_5 HB; have HO_5 := n0; have HB := n1; clear n0 n1; clear hg hw hp_)))
              (first | go_roundg k2 | (refine Handed.intro k2 ?measure ?_; rotate_left; go_step; (try simp only [add_plain]); (repeat apply Exists.intro); refine ⟨?rel, rfl⟩))
              case measure => have := HK1.out; have := HK2.out; omega
              case rel => exact ⟨(y287), (wrap64 (x7_2 + 1)), rS, H', ⟨by have := HK1.out; have := HK2.out; omega⟩, ⟨rU HO_5.out⟩, ⟨bU0 HB.out⟩⟩
             ·
              rw [if_neg c13] at H
              exact absurd H (by simp)
            ·
             rw [if_neg c12] at H
             exact absurd H (by simp)
           ·
            rw [if_neg c11] at H
            exact absurd H (by simp)
          ·
           rw [if_neg c10] at H
           exact absurd H (by simp)
         ·
          rw [if_neg c9] at H
          exact absurd H (by simp)
        ·
         rw [if_neg c8] at H
         exact absurd H (by simp)
       ·
        rw [if_neg c7] at H
        exact absurd H (by simp)
      ·
       rw [if_neg c6] at H; have c6b0 := decide_eq_false c6; clear c6; have H' := Az H; clear H
       go_wp2
       repeat (go_quiet (fail); try go_wp2)
       (first | go_roundg k2 | (refine Handed.intro k2 ?measure ?_; rotate_left; go_step; (try simp only [add_plain]); (repeat apply Exists.intro); refine ⟨?rel, rfl⟩))
       case measure => have := HK1.out; have := HK2.out; omega
       case rel => exact ⟨(x5_2), (wrap64 (x6_1 + 1)), rS, H', ⟨by have := HK1.out; have := HK2.out; omega⟩, ⟨rU HO_5.out⟩, ⟨bU0 HB.out⟩⟩
   ·
    rw [if_neg c5] at H; have c5b0 := decide_eq_false c5; clear c5; obtain rfl := Option.some.inj H
    go_wp2
    repeat (go_quiet (fail); try go_wp2)
    go_ret
    exact ⟨_, rE, rU HO_5.out, bU0 HB.out⟩
mutual
def spec_MapValid.l0 : Nat → Int → List Int → List Int → Option (Bool)
 | 0, _, _, _ => none
 | k + 1, x3, xZ0, xZ1 => if x3 < (xZ1.length : Int) then (if 0 ≤ x3 then (if (rd xZ1 x3) = x3 then (some false) else (if 0 ≤ (rd xZ1 x3) then (if (rd xZ1 x3) < (xZ1.length : Int) then (if (rd xZ1 (rd xZ1 x3)) = x3 then (spec_MapValid.l0 k (wrap64 (x3 + 1)) xZ0 xZ1) else (some false)) else (none)) else (none))) else (none)) else ((spec_l1Orbits.f k xZ0 xZ1).bind fun t293 => (spec_MapValid.l1 k t293 0))
def spec_MapValid.l1 : Nat → List Int → Int → Option (Bool)
 | 0, _, _ => none
 | k + 1, x4, x5 => if x5 < (x4.length : Int) then (if 0 ≤ x5 then (if (rd x4 x5) = 0 then (spec_MapValid.l1 k x4 (wrap64 (x5 + 1))) else (some false)) else (none)) else (some true)
end
def spec_MapValid.f (k : Nat) (l0_0 : List Int) (l0_1 : List Int) : Option (Bool) := (spec_l1Both.f k l0_0 l0_1).bind fun t289 => (if t289 = true then (spec_MapValid.l0 k 0 l0_0 l0_1) else (some false))
set_option maxHeartbeats 8000000 in
set_option maxRecDepth 100000 in
theorem spec_MapValid.calls (k : Nat) (A0_0 : Option Addr) (c0_0 : Nat) (l0_0 : List Int) (A0_1 : Option Addr) (c0_1 : Nat) (l0_1 : List Int) (r : Bool) (w : World) (hr0_0 : Kd.C (Kd.int .i64) w A0_0 l0_0.length l0_0) (hc0_0 : l0_0.length ≤ c0_0) (hr0_1 : Kd.C (Kd.int .i64) w A0_1 l0_1.length l0_1) (hc0_1 : l0_1.length ≤ c0_1) (h : spec_MapValid.f k l0_0 l0_1 = some r) :
  Calls Try.prog 61 #[.agg #[.slice A0_0 l0_0.length c0_0, .slice A0_1 l0_1.length c0_1]] w fun e w' => e = .returned (.bool r) ∧ Below w.heap.size w w' := by
 have hu25 := Try.underlying25; have HR0_0 := Az hr0_0; have HC0_0 := Az hc0_0; clear hr0_0 hc0_0; have HR0_1 := Az hr0_1; have HC0_1 := Az hc0_1; clear hr0_1 hc0_1; have HB := Az (Below.refl w.heap.size w); have H : ((spec_l1Both.f k l0_0 l0_1).bind fun t289 => (if t289 = true then (spec_MapValid.l0 k 0 l0_0 l0_1) else (some false))) = some r := h; clear h; replace H := Option.bind_eq_some_iff.mp H; obtain ⟨t289, A20, H⟩ := H; replace H : (if t289 = true then (spec_MapValid.l0 k 0 l0_0 l0_1) else (some false)) = some r := H; have A2 := Az A20; clear A20
 by_cases c3 : t289 = true
 ·
  subst c3
  have H1 : (spec_MapValid.l0 k 0 l0_0 l0_1) = some r := by rw [if_pos rfl] at H; exact H
  clear H; have H := H1; clear H1; have H' := Az H; clear H
  go_enter Try.func61, Try.ntmps61
  go_wp2_with (first | ((with_reducible refine gate_dst (N := 1) rfl ?_); refine box_event ?hg (N := 1) ?hd (cs := #[.slice A0_0 l0_0.length c0_0, .slice A0_1 l0_1.length c0_1]) (t := 25) ?hr ?_; (case hd => rfl); (case hg => rfl); (case hr => first | (go_simp; done) | (go_simp; rfl)); intro gb288 hg w4 hbox hb; have n0 := Az (below_step (bU0 HB.out) hb); have n1 := Az (hbox); have n2 := Az ((by rw [hg]; exact (below_size (bU0 HB.out)) : w.heap.size ≤ gb288)); have n3 := n2; clear HB; have HB := n0; have BK288 := n1; have GW288 := n2; have GE288 := n3; clear n0 n1 n2 n3 hb hbox hg; have hcz5_0 : w4.cell? ⟨gb288, 0, none⟩ = some (.slice A0_0 l0_0.length c0_0) := (blk_cell BK288.out 0).trans rfl; have hcz5_1 : w4.cell? ⟨gb288, 1, none⟩ = some (.slice A0_1 l0_1.length c0_1) := (blk_cell BK288.out 1).trans rfl; have hfz5_0 := blk_frozen BK288.out 0; have hfz5_1 := blk_frozen BK288.out 1) | (go_at_call 98; (with_reducible refine (spec_l1Both.calls k _ _ l0_0 _ _ l0_1 true _ ?side1 ?side2 ?side3 ?side4 A2.out).mono ?_); (case side1 => exact cU (Kd.C_below HR0_0.out HB.out)); (case side2 => exact HC0_0.out); (case side3 => exact cU (Kd.C_below HR0_1.out HB.out)); (case side4 => exact HC0_1.out); rintro e w' ⟨rfl, ⟨nd, rfl⟩⟩; (try first | exact ⟨rfl, _, World.drewN_drewN _ _ _⟩ | exact ⟨rfl, _, Eq.trans (World.drewN_drewN _ _ _) (congrArg (World.drewN _) (Nat.add_assoc _ _ _))⟩)))
  repeat (go_quiet (fail); try go_wp2_with (fail))
  go_loopg [3] k (fun kq v3 w' => ∃ (x3_1 : Int), v3 = .int .i64 x3_1 ∧ Aside0 (spec_MapValid.l0 kq x3_1 l0_0 l0_1 = some r) ∧ Aside0 (kq ≤ k) ∧ Aside0 (w'.heap[gb288]? = some (.cells #[(.slice A0_0 l0_0.length c0_0), (.slice A0_1 l0_1.length c0_1)] 25 (0, 0))) ∧ Aside0 (Below w.heap.size w w'))
  case atStart => exact ⟨(0), rS, H', ⟨Nat.le_refl _⟩, ⟨kU BK288.out⟩, ⟨bU1 HB.out GE288.out⟩⟩
  case round =>
   clear H'; (try clear p2); (try clear c3); (try clear hcz5_0); (try clear hcz5_1); (try clear hfz5_0); (try clear hfz5_1); obtain ⟨x3_1, rfl, HA, HK1, BK288, HB⟩ := hrel
   cases gk with
   | zero => exact absurd HA.out (by simp [spec_MapValid.l0])
   | succ k1 =>
    have H := HA.out; clear HA; simp only [spec_MapValid.l0] at H
    by_cases c6 : x3_1 < (l0_1.length : Int)
    ·
     rw [if_pos c6] at H; have c6b0 := decide_eq_true c6; clear c6
     by_cases c7 : 0 ≤ x3_1
     ·
      rw [if_pos c7] at H; have c7b0 := decide_eq_true c7; clear c7
      by_cases c8 : (rd l0_1 x3_1) = x3_1
      ·
       rw [if_pos c8] at H; have c8b0 := beq_iff_eq.mpr c8; have c8b1 := bne_eq_false_iff_eq.mpr c8; clear c8; obtain rfl := Option.some.inj H; have hcz9_0 : wr.cell? ⟨gb288, 0, none⟩ = some (.slice A0_0 l0_0.length c0_0) := (blk_cell BK288.out 0).trans rfl; have hcz9_1 : wr.cell? ⟨gb288, 1, none⟩ = some (.slice A0_1 l0_1.length c0_1) := (blk_cell BK288.out 1).trans rfl; have hfz9_0 := blk_frozen BK288.out 0; have hfz9_1 := blk_frozen BK288.out 1; have p290 : 0 ≤ (x3_1 : Int) := oA; have q290 : x3_1 < (l0_1.length : Int) := oA; obtain ⟨ad290, e290, hx290_0⟩ := Kd.at_int HR0_1.out x3_1 p290 q290
       cases e290
       (try replace hx290_0 := (HB.out.cell (World.block_lt_of_cell? w _ hx290_0)).trans hx290_0); replace p290 := eq_true p290; replace q290 := eq_true q290
       go_wp2
       repeat (go_quiet (fail); try go_wp2)
       go_ret
       exact ⟨rE, bU1 HB.out GE288.out⟩
      ·
       rw [if_neg c8] at H; have c8b0 := beq_eq_false_iff_ne.mpr c8; have c8b1 := bne_iff_ne.mpr c8
       by_cases c10 : 0 ≤ (rd l0_1 x3_1)
       ·
        rw [if_pos c10] at H; have c10b0 := decide_eq_true c10; clear c10
        by_cases c11 : (rd l0_1 x3_1) < (l0_1.length : Int)
        ·
         rw [if_pos c11] at H; have c11b0 := decide_eq_true c11; clear c11
         by_cases c12 : (rd l0_1 (rd l0_1 x3_1)) = x3_1
         ·
          rw [if_pos c12] at H; have c12b0 := beq_iff_eq.mpr c12; have c12b1 := bne_eq_false_iff_eq.mpr c12; clear c12; have H' := Az H; clear H; have hcz13_0 : wr.cell? ⟨gb288, 0, none⟩ = some (.slice A0_0 l0_0.length c0_0) := (blk_cell BK288.out 0).trans rfl; have hcz13_1 : wr.cell? ⟨gb288, 1, none⟩ = some (.slice A0_1 l0_1.length c0_1) := (blk_cell BK288.out 1).trans rfl; have hfz13_0 := blk_frozen BK288.out 0; have hfz13_1 := blk_frozen BK288.out 1; have p290 : 0 ≤ (x3_1 : Int) := oA; have q290 : x3_1 < (l0_1.length : Int) := oA; obtain ⟨ad290, e290, hx290_0⟩ := Kd.at_int HR0_1.out x3_1 p290 q290
          cases e290
          (try replace hx290_0 := (HB.out.cell (World.block_lt_of_cell? w _ hx290_0)).trans hx290_0); replace p290 := eq_true p290; replace q290 := eq_true q290; have p291 : 0 ≤ (x3_1 : Int) := oA; have q291 : x3_1 < (l0_1.length : Int) := oA; obtain ⟨ad291, e291, hx291_0⟩ := Kd.at_int HR0_1.out x3_1 p291 q291; obtain rfl : ad290 = ad291 := (by injection e291); (try replace hx291_0 := (HB.out.cell (World.block_lt_of_cell? w _ hx291_0)).trans hx291_0); replace p291 := eq_true p291; replace q291 := eq_true q291; have p292 : 0 ≤ ((rd l0_1 x3_1) : Int) := oA; have q292 : (rd l0_1 x3_1) < (l0_1.length : Int) := oA; obtain ⟨ad292, e292, hx292_0⟩ := Kd.at_int HR0_1.out (rd l0_1 x3_1) p292 q292; obtain rfl : ad290 = ad292 := (by injection e292); (try replace hx292_0 := (HB.out.cell (World.block_lt_of_cell? w _ hx292_0)).trans hx292_0); replace p292 := eq_true p292; replace q292 := eq_true q292
          go_wp2
          repeat (go_quiet (fail); try go_wp2)
          (first | go_roundg k1 | (refine Handed.intro k1 ?measure ?_; rotate_left; go_step; (try simp only [add_plain]); (repeat apply Exists.intro); refine ⟨?rel, rfl⟩))
          case measure => have := HK1.out; omega
          case rel => exact ⟨(wrap64 (x3_1 + 1)), rS, H', ⟨by have := HK1.out; omega⟩, ⟨kU BK288.out⟩, ⟨bU1 HB.out GE288.out⟩⟩
         ·
          rw [if_neg c12] at H; have c12b0 := beq_eq_false_iff_ne.mpr c12; have c12b1 := bne_iff_ne.mpr c12; obtain rfl := Option.some.inj H; have hcz14_0 : wr.cell? ⟨gb288, 0, none⟩ = some (.slice A0_0 l0_0.length c0_0) := (blk_cell BK288.out 0).trans rfl; have hcz14_1 : wr.cell? ⟨gb288, 1, none⟩ = some (.slice A0_1 l0_1.length c0_1) := (blk_cell BK288.out 1).trans rfl; have hfz14_0 := blk_frozen BK288.out 0; have hfz14_1 := blk_frozen BK288.out 1; have p290 : 0 ≤ (x3_1 : Int) := oA; have q290 : x3_1 < (l0_1.length : Int) := oA; obtain ⟨ad290, e290, hx290_0⟩ := Kd.at_int HR0_1.out x3_1 p290 q290
          cases e290
          (try replace hx290_0 := (HB.out.cell (World.block_lt_of_cell? w _ hx290_0)).trans hx290_0); replace p290 := eq_true p290; replace q290 := eq_true q290; have p291 : 0 ≤ (x3_1 : Int) := oA; have q291 : x3_1 < (l0_1.length : Int) := oA; obtain ⟨ad291, e291, hx291_0⟩ := Kd.at_int HR0_1.out x3_1 p291 q291; obtain rfl : ad290 = ad291 := (by injection e291); (try replace hx291_0 := (HB.out.cell (World.block_lt_of_cell? w _ hx291_0)).trans hx291_0); replace p291 := eq_true p291; replace q291 := eq_true q291; have p292 : 0 ≤ ((rd l0_1 x3_1) : Int) := oA; have q292 : (rd l0_1 x3_1) < (l0_1.length : Int) := oA; obtain ⟨ad292, e292, hx292_0⟩ := Kd.at_int HR0_1.out (rd l0_1 x3_1) p292 q292; obtain rfl : ad290 = ad292 := (by injection e292); (try replace hx292_0 := (HB.out.cell (World.block_lt_of_cell? w _ hx292_0)).trans hx292_0); replace p292 := eq_true p292; replace q292 := eq_true q292
          go_wp2
          repeat (go_quiet (fail); try go_wp2)
          go_ret
          exact ⟨rE, bU1 HB.out GE288.out⟩
        ·
         rw [if_neg c11] at H
         exact absurd H (by simp)
       ·
        rw [if_neg c10] at H
        exact absurd H (by simp)
     ·
      rw [if_neg c7] at H
      exact absurd H (by simp)
    ·
     rw [if_neg c6] at H; have c6b0 := decide_eq_false c6; clear c6; replace H := Option.bind_eq_some_iff.mp H; obtain ⟨t293, A150, H⟩ := H; replace H : (spec_MapValid.l1 k1 t293 0) = some r := H; have A15 := Az A150; clear A150; have H' := Az H; clear H; have hcz16_0 : wr.cell? ⟨gb288, 0, none⟩ = some (.slice A0_0 l0_0.length c0_0) := (blk_cell BK288.out 0).trans rfl; have hcz16_1 : wr.cell? ⟨gb288, 1, none⟩ = some (.slice A0_1 l0_1.length c0_1) := (blk_cell BK288.out 1).trans rfl; have hfz16_0 := blk_frozen BK288.out 0; have hfz16_1 := blk_frozen BK288.out 1
     go_wp2_with (first | (go_at_call 99; (with_reducible refine (spec_l1Orbits.calls k1 _ _ l0_0 _ _ l0_1 t293 _ ?side1 ?side2 ?side3 ?side4 A15.out).mono ?_); (case side1 => exact cU (Kd.C_below HR0_0.out HB.out)); (case side2 => exact HC0_0.out); (case side3 => exact cU (Kd.C_below HR0_1.out HB.out)); (case side4 => exact HC0_1.out); rintro e w17 ⟨v294, rfl, ho0, hb⟩; have n0 := Az (Kd.R_lower ho0 (below_size (bU1 HB.out GE288.out))); have n1 := Az (blk_below (g := gb288) (o := .cells #[.slice A0_0 l0_0.length c0_0, .slice A0_1 l0_1.length c0_1] 25 (0, 0)) (kU BK288.out) hb); have n2 := Az (below_step (bU1 HB.out GE288.out) hb); clear BK288 HB; have HO295 := n0; have BK288 := n1; have HB := n2; clear n0 n1 n2; (try clear hb); (try clear hb2); (try clear hk); (try clear hi); (try clear ho0)))
     repeat (go_quiet (fail); try go_wp2_with (fail))
     go_loopg [5] k1 (fun kq v5 w' => ∃ (x5_2 : Int), v5 = .int .i64 x5_2 ∧ Aside0 (spec_MapValid.l1 kq t293 x5_2 = some r) ∧ Aside0 (kq ≤ k1) ∧ Aside0 (Kd.R (Kd.int .i64) 3 w' w.heap.size (fun _ => True) v294 t293) ∧ Aside0 (w'.heap[gb288]? = some (.cells #[(.slice A0_0 l0_0.length c0_0), (.slice A0_1 l0_1.length c0_1)] 25 (0, 0))) ∧ Aside0 (Below w.heap.size w w'))
     case atStart => exact ⟨(0), rS, H', ⟨Nat.le_refl _⟩, ⟨rU HO295.out⟩, ⟨kU BK288.out⟩, ⟨bU1 HB.out GE288.out⟩⟩
     case round =>
      clear H'; (try clear c1); (try clear p2); (try clear q2); (try clear hx2); (try clear c3); (try clear c6); (try clear c6b0); (try clear p6); (try clear c7); (try clear c7b0); (try clear c8); (try clear c8b0); (try clear c8b1); (try clear c10); (try clear c10b0); (try clear c11); (try clear c11b0); (try clear c12); (try clear c12b0); (try clear c12b1); (try clear hcz13_0); (try clear hcz13_1); (try clear hcz14_0); (try clear hcz14_1); (try clear hcz16_0); (try clear hcz16_1); (try clear hcz5_0); (try clear hcz5_1); (try clear hcz9_0); (try clear hcz9_1); (try clear hfz13_0); (try clear hfz13_1); (try clear hfz14_0); (try clear hfz14_1); (try clear hfz16_0); (try clear hfz16_1); (try clear hfz5_0); (try clear hfz5_1); (try clear hfz9_0); (try clear hfz9_1); (try clear hx290_0); (try clear hx291_0); (try clear hx292_0); (try clear p2); (try clear p290); (try clear p291); (try clear p292); (try clear q290); (try clear q291); (try clear q292); obtain ⟨x5_2, rfl, HA, HK2, HO_4, BK288, HB⟩ := hrel
      cases gk with
      | zero => exact absurd HA.out (by simp [spec_MapValid.l1])
      | succ k2 =>
       have H := HA.out; clear HA; simp only [spec_MapValid.l1] at H
       by_cases c18 : x5_2 < (t293.length : Int)
       ·
        rw [if_pos c18] at H; have c18b0 := decide_eq_true c18; clear c18
        by_cases c19 : 0 ≤ x5_2
        ·
         rw [if_pos c19] at H; have c19b0 := decide_eq_true c19; clear c19
         by_cases c20 : (rd t293 x5_2) = 0
         ·
          rw [if_pos c20] at H; have c20b0 := beq_iff_eq.mpr c20; have c20b1 := bne_eq_false_iff_eq.mpr c20; clear c20; have H' := Az H; clear H; obtain ⟨Ao21, co21, eo21⟩ := Kd.R_slice HO_4.out; subst eo21; have p296 : 0 ≤ (x5_2 : Int) := oA; have q296 : x5_2 < (t293.length : Int) := oA; obtain ⟨ad296, e296, hx296_0⟩ := Kd.at_int (Kd.R_reads' HO_4.out).2.2 x5_2 p296 q296
          cases e296
          replace p296 := eq_true p296; replace q296 := eq_true q296
          go_wp2
          repeat (go_quiet (fail); try go_wp2)
          (first | go_roundg k2 | (refine Handed.intro k2 ?measure ?_; rotate_left; go_step; (try simp only [add_plain]); (repeat apply Exists.intro); refine ⟨?rel, rfl⟩))
          case measure => have := HK1.out; have := HK2.out; omega
          case rel => exact ⟨(wrap64 (x5_2 + 1)), rS, H', ⟨by have := HK1.out; have := HK2.out; omega⟩, ⟨rU HO_4.out⟩, ⟨kU BK288.out⟩, ⟨bU1 HB.out GE288.out⟩⟩
         ·
          rw [if_neg c20] at H; have c20b0 := beq_eq_false_iff_ne.mpr c20; have c20b1 := bne_iff_ne.mpr c20; obtain rfl := Option.some.inj H; obtain ⟨Ao22, co22, eo22⟩ := Kd.R_slice HO_4.out; subst eo22; have p296 : 0 ≤ (x5_2 : Int) := oA; have q296 : x5_2 < (t293.length : Int) := oA; obtain ⟨ad296, e296, hx296_0⟩ := Kd.at_int (Kd.R_reads' HO_4.out).2.2 x5_2 p296 q296
          cases e296
          replace p296 := eq_true p296; replace q296 := eq_true q296
          go_wp2
          repeat (go_quiet (fail); try go_wp2)
          go_ret
          exact ⟨rE, bU1 HB.out GE288.out⟩
        ·
         rw [if_neg c19] at H
         exact absurd H (by simp)
       ·
        rw [if_neg c18] at H; have c18b0 := decide_eq_false c18; clear c18; obtain rfl := Option.some.inj H; obtain ⟨Ao23, co23, eo23⟩ := Kd.R_slice HO_4.out; subst eo23
        go_wp2
        repeat (go_quiet (fail); try go_wp2)
        go_ret
        exact ⟨rE, bU1 HB.out GE288.out⟩
 ·
  replace c3 := Bool.eq_false_iff.mpr c3; subst c3
  have H1 : (some false) = some r := by rw [if_neg (show ¬ (false = true) by decide)] at H; exact H
  clear H; have H := H1; clear H1; obtain rfl := Option.some.inj H
  go_enter Try.func61, Try.ntmps61
  go_wp2_with (first | ((with_reducible refine gate_dst (N := 1) rfl ?_); refine box_event ?hg (N := 1) ?hd (cs := #[.slice A0_0 l0_0.length c0_0, .slice A0_1 l0_1.length c0_1]) (t := 25) ?hr ?_; (case hd => rfl); (case hg => rfl); (case hr => first | (go_simp; done) | (go_simp; rfl)); intro gb288 hg w24 hbox hb; have n0 := Az (below_step (bU0 HB.out) hb); have n1 := Az (hbox); have n2 := Az ((by rw [hg]; exact (below_size (bU0 HB.out)) : w.heap.size ≤ gb288)); have n3 := n2; clear HB; have HB := n0; have BK288 := n1; have GW288 := n2; have GE288 := n3; clear n0 n1 n2 n3 hb hbox hg; have hcz25_0 : w24.cell? ⟨gb288, 0, none⟩ = some (.slice A0_0 l0_0.length c0_0) := (blk_cell BK288.out 0).trans rfl; have hcz25_1 : w24.cell? ⟨gb288, 1, none⟩ = some (.slice A0_1 l0_1.length c0_1) := (blk_cell BK288.out 1).trans rfl; have hfz25_0 := blk_frozen BK288.out 0; have hfz25_1 := blk_frozen BK288.out 1) | (go_at_call 98; (with_reducible refine (spec_l1Both.calls k _ _ l0_0 _ _ l0_1 false _ ?side1 ?side2 ?side3 ?side4 A2.out).mono ?_); (case side1 => exact cU (Kd.C_below HR0_0.out HB.out)); (case side2 => exact HC0_0.out); (case side3 => exact cU (Kd.C_below HR0_1.out HB.out)); (case side4 => exact HC0_1.out); rintro e w' ⟨rfl, ⟨nd, rfl⟩⟩; (try first | exact ⟨rfl, _, World.drewN_drewN _ _ _⟩ | exact ⟨rfl, _, Eq.trans (World.drewN_drewN _ _ _) (congrArg (World.drewN _) (Nat.add_assoc _ _ _))⟩)))
  repeat (go_quiet (fail); try go_wp2_with (fail))
  go_ret
  exact ⟨rE, bU1 HB.out GE288.out⟩
def spec_l6Rd_pick.j0 : Nat → Int → Bool → List Int → Int → Option (Int × Int)
 | 0, _, _, _, _ => none
 | k + 1, x1, x24, x1000, x1001 => if x24 = true then (some (0, x1001)) else (if (wrap64 (x1001 - 1)) < (x1000.length : Int) then (if 0 ≤ (wrap64 (x1001 - 1)) then (if x1 = 0 then (none) else (some (Int.tmod (wrap64 (rd x1000 (wrap64 (x1001 - 1)))) x1, x1001))) else (none)) else (if (x1000.length : Int) = 0 then (none) else (if 0 ≤ (Int.tmod (wrap64 (x1001 - 1)) (x1000.length : Int)) then (if (Int.tmod (wrap64 (x1001 - 1)) (x1000.length : Int)) < (x1000.length : Int) then (if 0 ≤ (Int.tmod (wrap64 ((wrap64 ((wrap64 (x1001 - 1)) * 7)) + 3)) (x1000.length : Int)) then (if (Int.tmod (wrap64 ((wrap64 ((wrap64 (x1001 - 1)) * 7)) + 3)) (x1000.length : Int)) < (x1000.length : Int) then (if x1 = 0 then (none) else (some (Int.tmod (Go.bits .xor .i64 (wrap64 ((wrap64 ((wrap64 ((wrap64 ((wrap64 (rd x1000 (Int.tmod (wrap64 (x1001 - 1)) (x1000.length : Int)))) * 131)) + (wrap64 ((wrap64 (rd x1000 (Int.tmod (wrap64 ((wrap64 ((wrap64 (x1001 - 1)) * 7)) + 3)) (x1000.length : Int)))) * 1117)))) + (wrap64 ((wrap64 (x1001 - 1)) * 29)))) + (wrap64 ((wrap64 (Int.tdiv (wrap64 (x1001 - 1)) (x1000.length : Int))) * 53)))) (wrap64 (Int.tdiv (wrap64 ((wrap64 ((wrap64 ((wrap64 ((wrap64 (rd x1000 (Int.tmod (wrap64 (x1001 - 1)) (x1000.length : Int)))) * 131)) + (wrap64 ((wrap64 (rd x1000 (Int.tmod (wrap64 ((wrap64 ((wrap64 (x1001 - 1)) * 7)) + 3)) (x1000.length : Int)))) * 1117)))) + (wrap64 ((wrap64 (x1001 - 1)) * 29)))) + (wrap64 ((wrap64 (Int.tdiv (wrap64 (x1001 - 1)) (x1000.length : Int))) * 53)))) 64))) x1, x1001))) else (none)) else (none)) else (none)) else (none))))
def spec_l6Rd_pick.f (k : Nat) (s0_0 : List Int) (s0_1 : Int) (a1 : Int) : Option (Int × Int) := if a1 < 1 then (spec_l6Rd_pick.j0 k a1 true s0_0 (wrap64 (s0_1 + 1))) else (spec_l6Rd_pick.j0 k a1 ((s0_0.length : Int) == 0) s0_0 (wrap64 (s0_1 + 1)))
set_option maxHeartbeats 8000000 in
set_option maxRecDepth 100000 in
theorem spec_l6Rd_pick.calls (k : Nat) (g : Nat) (s0_0 : List Int) (s0_1 : Int) (a1 : Int) (r1 : Int) (r2 : Int) (w0 w : World) (hI : IsS73 w0 w g s0_0 s0_1) (hB : Below w0.heap.size w0 w) (h : spec_l6Rd_pick.f k s0_0 s0_1 a1 = some (r1, r2)) :
  Calls Try.prog 71 #[.pointer (some ⟨g, 0, none⟩), .int .i64 a1] w fun e w' => e = .returned (.int .i64 r1) ∧ IsS73 w0 w' g s0_0 r2 ∧ Below w0.heap.size w0 w' ∧ KeepBut w w' g none := by
 have HI0 := Az hI; have HK := Az (KeepBut.refl w g none); have HL := Az hB.size; clear hI; have HW0 := Az hB.size; have HB := Az hB; clear hB; have H : (if a1 < 1 then (spec_l6Rd_pick.j0 k a1 true s0_0 (wrap64 (s0_1 + 1))) else (spec_l6Rd_pick.j0 k a1 ((s0_0.length : Int) == 0) s0_0 (wrap64 (s0_1 + 1)))) = some (r1, r2) := h; clear h; have HC3 := Az H; clear H; obtain ⟨ASz4_0, cSz4_0, HGz4, hgz4, HSz4_0⟩ := HI0.out; have hcz4_0 := cellS73_0 HGz4; have hcz4_1 := cellS73_1 HGz4; have hfz4_1 := blk_frozen HGz4 1; clear HGz4 hgz4
 go_enter Try.func71, Try.ntmps71
 go_upto_region 2 with (fail)
 repeat (go_quiet (fail); go_upto_region 2 with (fail))
 go_cut [24] (fun v24 wc => ∃ (kq : Nat) (x24_2 : Bool), v24 = .bool x24_2 ∧ Aside0 (spec_l6Rd_pick.j0 kq a1 x24_2 s0_0 (wrap64 (s0_1 + 1)) = some (r1, r2)) ∧ Aside0 (kq ≤ k) ∧ Aside0 (IsS73 w0 wc g s0_0 (wrap64 (s0_1 + 1))) ∧ Aside0 (KeepBut w wc g none) ∧ Aside0 (Below w0.heap.size w0 wc))
 case first =>
  have H := HC3.out; clear HC3
  by_cases c5 : a1 < 1
  ·
   rw [if_pos c5] at H; have c5b0 := decide_eq_true c5; clear c5; (first | rw [c5b0] | (simp only [i64_w, i32_w]; rw [c5b0]) | skip); have H' := Az H; clear H
   go_wp2
   repeat (go_quiet (fail); try go_wp2)
   go_meet
   case rel => exact ⟨_, (true), rS, H', ⟨by first | omega | exact Nat.le_refl _⟩, ⟨by repeat (first | (with_reducible first | exact HI0.out | apply IsS73.alloc | apply IsS73.drewN | apply IsS73.drew | apply IsS73.set_1) | exact HI0.out)⟩, ⟨by repeat (first | (with_reducible first | exact HK.out | apply KeepBut.set_ | apply keep_drewN | apply keep_drew | apply keep_alloc) | exact HK.out)⟩, ⟨by repeat (first | (with_reducible first | exact HB.out | apply below_alloc | apply pw_below_drewN | apply below_drew1 | refine below_set ?_ (IsS73.ge HI0.out)) | exact HB.out)⟩⟩
  ·
   rw [if_neg c5] at H; have c5b0 := decide_eq_false c5; clear c5; (first | rw [c5b0] | (simp only [i64_w, i32_w]; rw [c5b0]) | skip); have H' := Az H; clear H; obtain ⟨ASz6_0, cSz6_0, HGz6, hgz6, HSz6_0⟩ := HI0.out; have hcz6_0 := cellS73_0 HGz6; have hcz6_1 := cellS73_1 HGz6; have hfz6_1 := blk_frozen HGz6 1; clear HGz6 hgz6
   go_wp2
   repeat (go_quiet (fail); try go_wp2)
   go_meet
   case rel => exact ⟨_, (((s0_0.length : Int) == 0)), rS, H', ⟨by first | omega | exact Nat.le_refl _⟩, ⟨by repeat (first | (with_reducible first | exact HI0.out | apply IsS73.alloc | apply IsS73.drewN | apply IsS73.drew | apply IsS73.set_1) | exact HI0.out)⟩, ⟨by repeat (first | (with_reducible first | exact HK.out | apply KeepBut.set_ | apply keep_drewN | apply keep_drew | apply keep_alloc) | exact HK.out)⟩, ⟨by repeat (first | (with_reducible first | exact HB.out | apply below_alloc | apply pw_below_drewN | apply below_drew1 | refine below_set ?_ (IsS73.ge HI0.out)) | exact HB.out)⟩⟩
 case rest =>
  clear HC3; (try clear p2); (try clear c5); (try clear c5b0); (try clear p6); (try clear hcz4_0); (try clear hcz4_1); (try clear hcz6_0); (try clear hcz6_1); (try clear hfz4_1); (try clear hfz6_1); obtain ⟨kq, x24_2, rfl, HA, HJ2, HI0, HK, HB⟩ := hcut
  cases kq with
  | zero => exact absurd HA.out (by simp [spec_l6Rd_pick.j0])
  | succ kj2 =>
   have H := HA.out; clear HA; simp only [spec_l6Rd_pick.j0] at H
   by_cases c7 : x24_2 = true
   ·
    subst c7
    have H1 : (some (0, (wrap64 (s0_1 + 1)))) = some (r1, r2) := by rw [if_pos rfl] at H; exact H
    clear H; have H := H1; clear H1; simp only [Option.some.injEq, Prod.mk.injEq] at H; obtain ⟨rfl, rfl⟩ := H
    go_wp2
    repeat (go_quiet (fail); try go_wp2)
    go_ret
    exact ⟨rE, by repeat (first | (with_reducible first | exact HI0.out | apply IsS73.alloc | apply IsS73.drewN | apply IsS73.drew | apply IsS73.set_1) | exact HI0.out), by repeat (first | (with_reducible first | exact HB.out | apply below_alloc | apply pw_below_drewN | apply below_drew1 | refine below_set ?_ (IsS73.ge HI0.out)) | exact HB.out), by repeat (first | (with_reducible first | exact HK.out | apply KeepBut.set_ | apply keep_drewN | apply keep_drew | apply keep_alloc) | exact HK.out)⟩
   ·
    replace c7 := Bool.eq_false_iff.mpr c7; subst c7
    have H1 : (if (wrap64 ((wrap64 (s0_1 + 1)) - 1)) < (s0_0.length : Int) then (if 0 ≤ (wrap64 ((wrap64 (s0_1 + 1)) - 1)) then (if a1 = 0 then (none) else (some (Int.tmod (wrap64 (rd s0_0 (wrap64 ((wrap64 (s0_1 + 1)) - 1)))) a1, (wrap64 (s0_1 + 1))))) else (none)) else (if (s0_0.length : Int) = 0 then (none) else (if 0 ≤ (Int.tmod (wrap64 ((wrap64 (s0_1 + 1)) - 1)) (s0_0.length : Int)) then (if (Int.tmod (wrap64 ((wrap64 (s0_1 + 1)) - 1)) (s0_0.length : Int)) < (s0_0.length : Int) then (if 0 ≤ (Int.tmod (wrap64 ((wrap64 ((wrap64 ((wrap64 (s0_1 + 1)) - 1)) * 7)) + 3)) (s0_0.length : Int)) then (if (Int.tmod (wrap64 ((wrap64 ((wrap64 ((wrap64 (s0_1 + 1)) - 1)) * 7)) + 3)) (s0_0.length : Int)) < (s0_0.length : Int) then (if a1 = 0 then (none) else (some (Int.tmod (Go.bits .xor .i64 (wrap64 ((wrap64 ((wrap64 ((wrap64 ((wrap64 (rd s0_0 (Int.tmod (wrap64 ((wrap64 (s0_1 + 1)) - 1)) (s0_0.length : Int)))) * 131)) + (wrap64 ((wrap64 (rd s0_0 (Int.tmod (wrap64 ((wrap64 ((wrap64 ((wrap64 (s0_1 + 1)) - 1)) * 7)) + 3)) (s0_0.length : Int)))) * 1117)))) + (wrap64 ((wrap64 ((wrap64 (s0_1 + 1)) - 1)) * 29)))) + (wrap64 ((wrap64 (Int.tdiv (wrap64 ((wrap64 (s0_1 + 1)) - 1)) (s0_0.length : Int))) * 53)))) (wrap64 (Int.tdiv (wrap64 ((wrap64 ((wrap64 ((wrap64 ((wrap64 (rd s0_0 (Int.tmod (wrap64 ((wrap64 (s0_1 + 1)) - 1)) (s0_0.length : Int)))) * 131)) + (wrap64 ((wrap64 (rd s0_0 (Int.tmod (wrap64 ((wrap64 ((wrap64 ((wrap64 (s0_1 + 1)) - 1)) * 7)) + 3)) (s0_0.length : Int)))) * 1117)))) + (wrap64 ((wrap64 ((wrap64 (s0_1 + 1)) - 1)) * 29)))) + (wrap64 ((wrap64 (Int.tdiv (wrap64 ((wrap64 (s0_1 + 1)) - 1)) (s0_0.length : Int))) * 53)))) 64))) a1, (wrap64 (s0_1 + 1))))) else (none)) else (none)) else (none)) else (none)))) = some (r1, r2) := by rw [if_neg (show ¬ (false = true) by decide)] at H; exact H
    clear H; have H := H1; clear H1
    by_cases c8 : (wrap64 ((wrap64 (s0_1 + 1)) - 1)) < (s0_0.length : Int)
    ·
     rw [if_pos c8] at H; have c8b0 := decide_eq_true c8; clear c8; obtain ⟨ji9, hji9⟩ : ∃ j_ : Int, (wrap64 ((wrap64 (s0_1 + 1)) - 1)) = j_ := ⟨_, rfl⟩
     replace H : (if 0 ≤ (ji9) then (if a1 = 0 then (none) else (some (Int.tmod (wrap64 (rd s0_0 (ji9))) a1, (wrap64 (s0_1 + 1))))) else (none)) = some (r1, r2) := by first | (rw [hji9] at H; exact H) | (simp only [hji9] at H ⊢; exact H)
     (try rw [hji9] at c8b0); have hji9w : (IntKind.i64.wrap ((wrap64 (s0_1 + 1)) - 1)) = ji9 := (i64_w _).trans hji9
     by_cases c10 : 0 ≤ (ji9)
     ·
      rw [if_pos c10] at H; have c10b0 := decide_eq_true c10; clear c10
      by_cases c11 : a1 = 0
      ·
       rw [if_pos c11] at H
       exact absurd H (by simp)
      ·
       rw [if_neg c11] at H; have c11b0 := beq_eq_false_iff_ne.mpr c11; have c11b1 := bne_iff_ne.mpr c11; simp only [Option.some.injEq, Prod.mk.injEq] at H; obtain ⟨rfl, rfl⟩ := H; obtain ⟨ASz12_0, cSz12_0, HGz12, hgz12, HSz12_0⟩ := HI0.out; have hcz12_0 := cellS73_0 HGz12; have hcz12_1 := cellS73_1 HGz12; have hfz12_1 := blk_frozen HGz12 1; clear HGz12 hgz12; have p297 : 0 ≤ ((ji9) : Int) := oA; have q297 : (ji9) < (s0_0.length : Int) := oA; obtain ⟨ad297, e297, hx297_0⟩ := Kd.at_int HSz12_0 (ji9) p297 q297
       cases e297
       replace hx297_0 := pw_cell_below HB.out hx297_0; replace p297 := eq_true p297; replace q297 := eq_true q297
       go_wp2
       repeat (go_quiet (fail); try go_wp2)
       go_ret
       exact ⟨by first | rfl | (simp [errW_none, errW_some] <;> rfl) | (simp only [← hji9]; first | rfl | (simp [errW_none, errW_some] <;> rfl)) | (simp [*, errW_none, errW_some] <;> rfl), by repeat (first | (with_reducible first | exact HI0.out | apply IsS73.alloc | apply IsS73.drewN | apply IsS73.drew | apply IsS73.set_1) | exact HI0.out), by repeat (first | (with_reducible first | exact HB.out | apply below_alloc | apply pw_below_drewN | apply below_drew1 | refine below_set ?_ (IsS73.ge HI0.out)) | exact HB.out), by repeat (first | (with_reducible first | exact HK.out | apply KeepBut.set_ | apply keep_drewN | apply keep_drew | apply keep_alloc) | exact HK.out)⟩
     ·
      rw [if_neg c10] at H
      exact absurd H (by simp)
    ·
     rw [if_neg c8] at H; have c8b0 := decide_eq_false c8; clear c8
     by_cases c13 : (s0_0.length : Int) = 0
     ·
      rw [if_pos c13] at H
      exact absurd H (by simp)
     ·
      rw [if_neg c13] at H; have c13b0 := beq_eq_false_iff_ne.mpr c13; have c13b1 := bne_iff_ne.mpr c13
      have c13b2 : ¬ (s0_0 = []) := fun h_ => c13 (by rw [h_]; rfl)
      obtain ⟨ji14, hji14⟩ : ∃ j_ : Int, (Int.tmod (wrap64 ((wrap64 (s0_1 + 1)) - 1)) (s0_0.length : Int)) = j_ := ⟨_, rfl⟩
      replace H : (if 0 ≤ (ji14) then (if (ji14) < (s0_0.length : Int) then (if 0 ≤ (Int.tmod (wrap64 ((wrap64 ((wrap64 ((wrap64 (s0_1 + 1)) - 1)) * 7)) + 3)) (s0_0.length : Int)) then (if (Int.tmod (wrap64 ((wrap64 ((wrap64 ((wrap64 (s0_1 + 1)) - 1)) * 7)) + 3)) (s0_0.length : Int)) < (s0_0.length : Int) then (if a1 = 0 then (none) else (some (Int.tmod (Go.bits .xor .i64 (wrap64 ((wrap64 ((wrap64 ((wrap64 ((wrap64 (rd s0_0 (ji14))) * 131)) + (wrap64 ((wrap64 (rd s0_0 (Int.tmod (wrap64 ((wrap64 ((wrap64 ((wrap64 (s0_1 + 1)) - 1)) * 7)) + 3)) (s0_0.length : Int)))) * 1117)))) + (wrap64 ((wrap64 ((wrap64 (s0_1 + 1)) - 1)) * 29)))) + (wrap64 ((wrap64 (Int.tdiv (wrap64 ((wrap64 (s0_1 + 1)) - 1)) (s0_0.length : Int))) * 53)))) (wrap64 (Int.tdiv (wrap64 ((wrap64 ((wrap64 ((wrap64 ((wrap64 (rd s0_0 (ji14))) * 131)) + (wrap64 ((wrap64 (rd s0_0 (Int.tmod (wrap64 ((wrap64 ((wrap64 ((wrap64 (s0_1 + 1)) - 1)) * 7)) + 3)) (s0_0.length : Int)))) * 1117)))) + (wrap64 ((wrap64 ((wrap64 (s0_1 + 1)) - 1)) * 29)))) + (wrap64 ((wrap64 (Int.tdiv (wrap64 ((wrap64 (s0_1 + 1)) - 1)) (s0_0.length : Int))) * 53)))) 64))) a1, (wrap64 (s0_1 + 1))))) else (none)) else (none)) else (none)) else (none)) = some (r1, r2) := by first | (rw [hji14] at H; exact H) | (simp only [hji14] at H ⊢; exact H)
      by_cases c15 : 0 ≤ (ji14)
      ·
       rw [if_pos c15] at H; have c15b0 := decide_eq_true c15; clear c15
       by_cases c16 : (ji14) < (s0_0.length : Int)
       ·
        rw [if_pos c16] at H; have c16b0 := decide_eq_true c16; clear c16; obtain ⟨ji17, hji17⟩ : ∃ j_ : Int, (Int.tmod (wrap64 ((wrap64 ((wrap64 ((wrap64 (s0_1 + 1)) - 1)) * 7)) + 3)) (s0_0.length : Int)) = j_ := ⟨_, rfl⟩
        replace H : (if 0 ≤ (ji17) then (if (ji17) < (s0_0.length : Int) then (if a1 = 0 then (none) else (some (Int.tmod (Go.bits .xor .i64 (wrap64 ((wrap64 ((wrap64 ((wrap64 ((wrap64 (rd s0_0 (ji14))) * 131)) + (wrap64 ((wrap64 (rd s0_0 (ji17))) * 1117)))) + (wrap64 ((wrap64 ((wrap64 (s0_1 + 1)) - 1)) * 29)))) + (wrap64 ((wrap64 (Int.tdiv (wrap64 ((wrap64 (s0_1 + 1)) - 1)) (s0_0.length : Int))) * 53)))) (wrap64 (Int.tdiv (wrap64 ((wrap64 ((wrap64 ((wrap64 ((wrap64 (rd s0_0 (ji14))) * 131)) + (wrap64 ((wrap64 (rd s0_0 (ji17))) * 1117)))) + (wrap64 ((wrap64 ((wrap64 (s0_1 + 1)) - 1)) * 29)))) + (wrap64 ((wrap64 (Int.tdiv (wrap64 ((wrap64 (s0_1 + 1)) - 1)) (s0_0.length : Int))) * 53)))) 64))) a1, (wrap64 (s0_1 + 1))))) else (none)) else (none)) = some (r1, r2) := by first | (rw [hji17] at H; exact H) | (simp only [hji17] at H ⊢; exact H)
        by_cases c18 : 0 ≤ (ji17)
        ·
         rw [if_pos c18] at H; have c18b0 := decide_eq_true c18; clear c18
         by_cases c19 : (ji17) < (s0_0.length : Int)
         ·
          rw [if_pos c19] at H; have c19b0 := decide_eq_true c19; clear c19
          by_cases c20 : a1 = 0
          ·
           rw [if_pos c20] at H
           exact absurd H (by simp)
          ·
           rw [if_neg c20] at H; have c20b0 := beq_eq_false_iff_ne.mpr c20; have c20b1 := bne_iff_ne.mpr c20; simp only [Option.some.injEq, Prod.mk.injEq] at H; obtain ⟨rfl, rfl⟩ := H; obtain ⟨ASz21_0, cSz21_0, HGz21, hgz21, HSz21_0⟩ := HI0.out; have hcz21_0 := cellS73_0 HGz21; have hcz21_1 := cellS73_1 HGz21; have hfz21_1 := blk_frozen HGz21 1; clear HGz21 hgz21; have p298 : 0 ≤ ((ji14) : Int) := oA; have q298 : (ji14) < (s0_0.length : Int) := oA; obtain ⟨ad298, e298, hx298_0⟩ := Kd.at_int HSz21_0 (ji14) p298 q298
           cases e298
           replace hx298_0 := pw_cell_below HB.out hx298_0; replace p298 := eq_true p298; replace q298 := eq_true q298; have p299 : 0 ≤ ((ji17) : Int) := oA; have q299 : (ji17) < (s0_0.length : Int) := oA; obtain ⟨ad299, e299, hx299_0⟩ := Kd.at_int HSz21_0 (ji17) p299 q299; obtain rfl : ad298 = ad299 := (by injection e299); replace hx299_0 := pw_cell_below HB.out hx299_0; replace p299 := eq_true p299; replace q299 := eq_true q299
           go_wp2
           repeat (go_quiet (fail); try go_wp2)
           go_ret
           exact ⟨by first | rfl | (simp [errW_none, errW_some] <;> rfl) | (simp only [← hji14, ← hji17]; first | rfl | (simp [errW_none, errW_some] <;> rfl)) | (simp [*, errW_none, errW_some] <;> rfl), by repeat (first | (with_reducible first | exact HI0.out | apply IsS73.alloc | apply IsS73.drewN | apply IsS73.drew | apply IsS73.set_1) | exact HI0.out), by repeat (first | (with_reducible first | exact HB.out | apply below_alloc | apply pw_below_drewN | apply below_drew1 | refine below_set ?_ (IsS73.ge HI0.out)) | exact HB.out), by repeat (first | (with_reducible first | exact HK.out | apply KeepBut.set_ | apply keep_drewN | apply keep_drew | apply keep_alloc) | exact HK.out)⟩
         ·
          rw [if_neg c19] at H
          exact absurd H (by simp)
        ·
         rw [if_neg c18] at H
         exact absurd H (by simp)
       ·
        rw [if_neg c16] at H
        exact absurd H (by simp)
      ·
       rw [if_neg c15] at H
       exact absurd H (by simp)
end Go.Proofs.Ytjgknblneokhlaa.PR
