/- For every code: of the map and the choice that the statement draws, ChoiceCounts of the program answers what the reference answers; the five numbers are those of a ribbon surface, whose genus lies between none and the map's; and an edge more makes one side more or one less. There are no conditions. -/
import Derived.Test.YtjgknblneokhlaaKFnChoiceCountsOwnx3
namespace Go.Proofs.Ytjgknblneokhlaa.PI
open Go.RowKit Go.Proofs.YtjgknblneokhlaaW.PrintWords Go.Proofs.YtjgknblneokhlaaW.PrintLast Go.Proofs.YtjgknblneokhlaaW.PrintMore
attribute [local go_sem] max2_int min2_int max_two min_two max_three min_three max_four min_four   -- for this text's walks alone
set_option linter.unusedVariables false
set_option linter.unusedSimpArgs false
def laws_FnChoiceCounts_up (L : List (Nat × Option Tmp)) (n : Nat) : Array Bool := ((List.range n).map (fun i => !(L.map Prod.fst).contains i)).toArray
section
variable {P : Program} {ops : Array Oper} {Q : Exit → Act → World → Prop} {md : Region.Mode} {S : World → Prop} {ds : List Nat}
theorem laws_FnChoiceCounts_uS {i n : Nat} {N : Option Tmp} {L : List (Nat × Option Tmp)} {oi : Oper} {fuel : Nat} {a : Act} {w : World} (hi : ops[i]? = some oi) (hN : oi.dst = N) (hc : anyB md ops (laws_FnChoiceCounts_up ((i, N) :: L) n) (laws_FnChoiceCounts_up L n) i = true)
  (hQ : ∀ c a w, Q (.panic c) (a.put oi.dst undef) w → Q (.panic c) a w) (hw : Region.wanted oi (yielded ops a.tmps) = false) {a' : Act} (ha : a.put N undef = a')
  (h : wpAnyLast P md ops Q S ds fuel (laws_FnChoiceCounts_up L n) a' w) : wpAnyLast P md ops Q S ds (fuel + 1) (laws_FnChoiceCounts_up ((i, N) :: L) n) a w := pure_ (laws_FnChoiceCounts_up L n) hi hN hc hQ (Or.inr ⟨hw, rfl⟩) ha h
theorem laws_FnChoiceCounts_uP {i n : Nat} {N : Option Tmp} {L : List (Nat × Option Tmp)} {oi : Oper} {v : Value} {fuel : Nat} {a : Act} {w : World} (hi : ops[i]? = some oi) (hN : oi.dst = N) (hc : anyB md ops (laws_FnChoiceCounts_up ((i, N) :: L) n) (laws_FnChoiceCounts_up L n) i = true)
  (hQ : ∀ c a w, Q (.panic c) (a.put oi.dst v) w → Q (.panic c) a w) (hw : Region.wanted oi (yielded ops a.tmps) = true) (hy : ∀ w, (execOp a.eval oi).run P w = .ok (.value v) w) {a' : Act} (ha : a.put N v = a')
  (h : wpAnyLast P md ops Q S ds fuel (laws_FnChoiceCounts_up L n) a' w) : wpAnyLast P md ops Q S ds (fuel + 1) (laws_FnChoiceCounts_up ((i, N) :: L) n) a w := pure_ (laws_FnChoiceCounts_up L n) hi hN hc hQ (Or.inl ⟨hw, hy⟩) ha h
theorem laws_FnChoiceCounts_uT {i n : Nat} {N : Option Tmp} {L : List (Nat × Option Tmp)} {oi : Oper} {v : Value} {fuel : Nat} {a : Act} {w : World} (hi : ops[i]? = some oi) (hN : oi.dst = N) (hc : takeB md ops ds (laws_FnChoiceCounts_up ((i, N) :: L) n) (laws_FnChoiceCounts_up L n) i = true)
  (hQ : ∀ c a w, Q (.panic c) (a.put oi.dst v) w → Q (.panic c) a w) (hw : Region.wanted oi (yielded ops a.tmps) = true) (hy : ∀ w, S w → (execOp a.eval oi).run P w = .ok (.value v) w) (hS : S w) {a' : Act} (ha : a.put N v = a')
  (h : wpAnyLast P md ops Q S ds fuel (laws_FnChoiceCounts_up L n) a' w) : wpAnyLast P md ops Q S ds (fuel + 1) (laws_FnChoiceCounts_up ((i, N) :: L) n) a w := take_ (laws_FnChoiceCounts_up L n) hi hN hc hQ (Or.inl ⟨hw, hy⟩) hS ha h
theorem laws_FnChoiceCounts_uO {i n : Nat} {N : Option Tmp} {L : List (Nat × Option Tmp)} {oi : Oper} {fuel : Nat} {a : Act} {w : World} (hi : ops[i]? = some oi) (hN : oi.dst = N) (hc : readyB md ops (laws_FnChoiceCounts_up ((i, N) :: L) n) (laws_FnChoiceCounts_up L n) i = true) (hd : i ∉ ds)
  (h : ∀ K : Act → World → Prop, Shut (∀ a' w', S w' → (S w' → wpAnyLast P md ops Q S ds fuel (laws_FnChoiceCounts_up L n) a' w') → K a' w') → if Region.wanted oi (yielded ops a.tmps) = true then Oper.wp P oi a w K Q else K (a.put N undef) w) :
  wpAnyLast P md ops Q S ds (fuel + 1) (laws_FnChoiceCounts_up ((i, N) :: L) n) a w := one_ (laws_FnChoiceCounts_up L n) hi hN hc hd h
end
mutual
def laws_FnChoiceCounts.j0 : Nat → List Int → List Int → Bool → Option (Bool)
 | 0, _, _, _ => none
 | k + 1, x0, x1, x26 => if x26 = true then (some true) else ((spec_DrawChoiceCounts.f k x0).bind fun bt633 => ((impl_ChoiceCounts.f k bt633.1 bt633.2.1 bt633.2.2).bind fun bt643 => ((spec_ChoiceCounts.f k bt633.1 bt633.2.1 bt633.2.2).bind fun bt647 => (if (bt643.2 != bt647.2) = true then (laws_FnChoiceCounts.j1 k x1 bt633.2.2 bt643.1 bt643.2 bt647.1 bt647.2 true bt633.1 bt633.2.1) else ((laws_sameInts.f k bt643.1 bt647.1).bind fun t651 => (if t651 = true then (laws_FnChoiceCounts.j1 k x1 bt633.2.2 bt643.1 bt643.2 bt647.1 bt647.2 (!bt643.2) bt633.1 bt633.2.1) else (laws_FnChoiceCounts.j1 k x1 bt633.2.2 bt643.1 bt643.2 bt647.1 bt647.2 true bt633.1 bt633.2.1)))))))
def laws_FnChoiceCounts.j1 : Nat → List Int → List Int → List Int → Bool → List Int → Bool → Bool → List Int → List Int → Option (Bool)
 | 0, _, _, _, _, _, _, _, _, _ => none
 | k + 1, x1, x6, x7, x8, x9, x10, x56, xZ0, xZ1 => if x56 = true then (if (x8 == x10) = true then ((laws_sameInts.f k x7 x9).bind fun t652 => (some t652)) else (some false)) else ((impl_MapCounts.f k xZ0 xZ1).bind fun bt653 => (if bt653.2 = true then (if 2 < (x7.length : Int) then (if 3 < (x7.length : Int) then (if (wrap64 ((rd x7 2) + (rd x7 3))) = (x6.length : Int) then (if 0 < (x7.length : Int) then (if 0 < (bt653.1.length : Int) then (if 1 < (x7.length : Int) then (if 4 < (x7.length : Int) then (if (wrap64 ((wrap64 ((wrap64 ((wrap64 (2 * (rd x7 0))) - (rd bt653.1 0))) + (x6.length : Int))) - (rd x7 1))) = (wrap64 (2 * (rd x7 4))) then (if (rd x7 4) < 0 then (laws_FnChoiceCounts.j2 k x1 x6 x7 bt653.1 true xZ0 xZ1) else ((impl_MapGenus.f k xZ0 xZ1).bind fun t665 => (if (rd x7 4) > t665 then (laws_FnChoiceCounts.j2 k x1 x6 x7 bt653.1 true xZ0 xZ1) else (laws_FnChoiceCounts.j2 k x1 x6 x7 bt653.1 (decide ((rd x7 3) < 0)) xZ0 xZ1)))) else (laws_FnChoiceCounts.j2 k x1 x6 x7 bt653.1 true xZ0 xZ1)) else (none)) else (none)) else (none)) else (none)) else (laws_FnChoiceCounts.j2 k x1 x6 x7 bt653.1 true xZ0 xZ1)) else (none)) else (none)) else (laws_FnChoiceCounts.j2 k x1 x6 x7 bt653.1 true xZ0 xZ1)))
def laws_FnChoiceCounts.j2 : Nat → List Int → List Int → List Int → List Int → Bool → List Int → List Int → Option (Bool)
 | 0, _, _, _, _, _, _, _ => none
 | k + 1, x1, x6, x7, x11, x125, xZ0, xZ1 => if x125 = true then (some false) else (if 1 < (x11.length : Int) then (if (rd x11 1) = 0 then (none) else ((laws_hasInt.f k x6 ((x1.length : Int) % (rd x11 1))).bind fun t668 => (if t668 = true then (some true) else (laws_FnChoiceCounts.l0 k x6 x7 x11 ((x1.length : Int) % (rd x11 1)) (([] : List Int)) 0 xZ0 xZ1)))) else (none))
def laws_FnChoiceCounts.l0 : Nat → List Int → List Int → List Int → Int → List Int → Int → List Int → List Int → Option (Bool)
 | 0, _, _, _, _, _, _, _, _ => none
 | k + 1, x6, x7, x11, x13, x14, x15, xZ0, xZ1 => if 1 < (x11.length : Int) then (if x15 < (rd x11 1) then (if x15 = x13 then (if x14.length < 17592186044416 then (laws_FnChoiceCounts.l0 k x6 x7 x11 x13 (x14 ++ [x15]) (wrap64 (x15 + 1)) xZ0 xZ1) else (none)) else ((laws_hasInt.f k x6 x15).bind fun t676 => (if t676 = true then (if x14.length < 17592186044416 then (laws_FnChoiceCounts.l0 k x6 x7 x11 x13 (x14 ++ [x15]) (wrap64 (x15 + 1)) xZ0 xZ1) else (none)) else (laws_FnChoiceCounts.l0 k x6 x7 x11 x13 x14 (wrap64 (x15 + 1)) xZ0 xZ1)))) else ((impl_ChoiceCounts.f k xZ0 xZ1 x14).bind fun bt680 => (if 1 < (bt680.1.length : Int) then (if 1 < (x7.length : Int) then (if bt680.2 = true then (if (wrap64 ((rd bt680.1 1) - (rd x7 1))) = 1 then (if 0 < (bt680.1.length : Int) then (if 0 < (x7.length : Int) then (if (rd bt680.1 0) = (rd x7 0) then (some true) else (if (rd bt680.1 0) = (wrap64 ((rd x7 0) - 1)) then (some ((wrap64 ((rd bt680.1 1) - (rd x7 1))) == (-1))) else (some false))) else (none)) else (none)) else (if (wrap64 ((rd bt680.1 1) - (rd x7 1))) = (-1) then (if 0 < (bt680.1.length : Int) then (if 0 < (x7.length : Int) then (if (rd bt680.1 0) = (rd x7 0) then (some true) else (if (rd bt680.1 0) = (wrap64 ((rd x7 0) - 1)) then (some ((wrap64 ((rd bt680.1 1) - (rd x7 1))) == (-1))) else (some false))) else (none)) else (none)) else (some false))) else (some false)) else (none)) else (none)))) else (none)
end
def laws_FnChoiceCounts.f (k : Nat) (l0 : List Int) (l1 : List Int) : Option (Bool) := if (l0.length : Int) > 1048576 then (laws_FnChoiceCounts.j0 k l0 l1 true) else (laws_FnChoiceCounts.j0 k l0 l1 (decide ((l1.length : Int) > 1048576)))
def laws_FnChoiceCounts.T9 : Bool × List (List Nat × List Nat) := (true, [([], []), ([0], [0]), ([1], [1]), ([2], [2]), ([3, 2], [2, 3]), ([4, 2], [2, 4]), ([2], [2]), ([6, 2], [2, 6]), ([7, 2], [2, 7]), ([5, 8, 2], [2, 5, 8]), ([2], [2]), ([10, 2], [2, 10]), ([9, 11, 2], [2, 9, 11]), ([2, 12], [2, 12]), ([13, 2], [13]), ([14], [14]), ([15, 14], [14, 15]), ([16, 14], [14, 16]), ([17, 14], [14, 17]), ([14], [14]), ([19, 14], [14, 19]), ([20, 14], [14, 20]), ([18, 21, 14], [14, 18, 21]), ([14], [14]), ([23, 14], [14, 23]), ([22, 24, 14], [14, 22, 24]), ([14], [14]), ([26, 14], [14, 26]), ([27, 14], [14, 27]), ([25, 28, 14], [14, 25, 28]), ([14], [14]), ([30, 14], [14, 30]), ([31, 14], [14, 31]), ([32, 14], [14, 32]), ([29, 33, 14], [14, 29, 33]), ([14, 34], [14, 34]), ([35, 14], [35]), ([36], [36]), ([37, 36], [36, 37]), ([38, 36], [36, 38]), ([39, 36], [36, 39]), ([36, 40], [36, 40]), ([41, 36], [41]), ([42], [42]), ([43, 42], [42, 43]), ([44, 42], [42, 44]), ([42], [42]), ([46, 42, 42], [42, 46]), ([45, 47, 42], [42, 45, 47]), ([42, 48], [42, 48]), ([49, 47], [49]), ([50], [50]), ([51, 50], [50, 51]), ([52, 50], [50, 52]), ([53, 50], [50, 53]), ([50, 54], [50, 54])])
def laws_FnChoiceCounts.B9 : List Nat := [0, 1, 3, 7, 15, 31, 7, 71, 199, 511, 7, 1031, 4095, 8191, 16383, 32767, 65535, 131071, 262143, 32767, 557055, 1605631, 4194303, 32767, 8421375, 33554431, 32767, 67141631, 201359359, 536870911, 32767, 1073774591, 3221258239, 7516225535, 17179869183, 34359738367, 68719476735, 137438953471, 274877906943, 549755813887, 1099511627775, 2199023255551, 4398046511103, 8796093022207, 17592186044415, 35184372088831, 8796093022207, 79164837199871, 281474976710655, 562949953421311, 1125899906842623, 2251799813685247, 4503599627370495, 9007199254740991, 18014398509481983, 36028797018963967]
theorem laws_FnChoiceCounts.tab9 : rtab .any (opsOf Try.f6 9) = laws_FnChoiceCounts.T9 := by kernel_rfl
theorem laws_FnChoiceCounts.bits9 : waitsOk laws_FnChoiceCounts.T9.2 laws_FnChoiceCounts.B9 = true := by kernel_rfl
def laws_FnChoiceCounts.T21 : Bool × List (List Nat × List Nat) := (true, [([], []), ([0], [0]), ([1], [1]), ([], []), ([3], [3]), ([4], [4]), ([2, 5], [2, 5]), ([6, 0, 1, 2, 3, 4, 5, 6], [6])])
def laws_FnChoiceCounts.B21 : List Nat := [0, 1, 3, 0, 8, 24, 63, 127]
theorem laws_FnChoiceCounts.tab21 : rtab .any (opsOf Try.f6 21) = laws_FnChoiceCounts.T21 := by kernel_rfl
theorem laws_FnChoiceCounts.bits21 : waitsOk laws_FnChoiceCounts.T21.2 laws_FnChoiceCounts.B21 = true := by kernel_rfl
def laws_FnChoiceCounts.T22 : Bool × List (List Nat × List Nat) := (true, [([], []), ([0], [0]), ([1], [1]), ([2, 1], [1, 2]), ([3, 1, 1], [1, 3]), ([4], [4]), ([5, 4], [4, 5]), ([4, 6, 1], [1, 4, 6]), ([1, 7], [1, 7]), ([8, 4], [8]), ([9], [9]), ([10, 9], [9, 10]), ([11, 9], [9, 11]), ([9], [9]), ([13, 9], [9, 13]), ([14, 9], [9, 14]), ([12, 15, 9], [9, 12, 15]), ([16, 9, 9], [9, 16]), ([17], [17]), ([18, 17], [17, 18]), ([19, 17], [17, 19]), ([17], [17]), ([21, 17], [17, 21]), ([22, 17], [17, 22]), ([23, 17], [17, 23]), ([20, 24, 17], [17, 20, 24]), ([25, 17, 17], [17, 25]), ([26], [26]), ([27, 26], [26, 27]), ([26, 28, 17], [17, 26, 28]), ([17, 29, 9], [9, 17, 29]), ([9, 30], [9, 30]), ([31, 26, 0, 1, 2, 3, 4, 5, 6, 7, 8, 9, 10, 11, 12, 13, 14, 15, 16, 17, 18, 19, 20, 21, 22, 23, 24, 25, 26, 27, 28, 29, 30, 31], [31])])
def laws_FnChoiceCounts.B22 : List Nat := [0, 1, 3, 7, 15, 31, 63, 127, 255, 511, 1023, 2047, 4095, 1023, 9215, 25599, 65535, 131071, 262143, 524287, 1048575, 262143, 2359295, 6553599, 14942207, 33554431, 67108863, 134217727, 268435455, 536870911, 1073741823, 2147483647, 4294967295]
theorem laws_FnChoiceCounts.tab22 : rtab .any (opsOf Try.f6 22) = laws_FnChoiceCounts.T22 := by kernel_rfl
theorem laws_FnChoiceCounts.bits22 : waitsOk laws_FnChoiceCounts.T22.2 laws_FnChoiceCounts.B22 = true := by kernel_rfl
set_option maxHeartbeats 8000000 in
set_option maxRecDepth 100000 in
theorem laws_FnChoiceCounts.calls (k : Nat) (A0 : Option Addr) (c0 : Nat) (l0 : List Int) (A1 : Option Addr) (c1 : Nat) (l1 : List Int) (r : Bool) (w : World) (hr0 : Kd.C (Kd.int .u8) w A0 l0.length l0) (hc0 : l0.length ≤ c0) (hr1 : Kd.C (Kd.int .u8) w A1 l1.length l1) (hc1 : l1.length ≤ c1) (h : laws_FnChoiceCounts.f k l0 l1 = some r) :
  Calls Try.prog 6 #[.slice A0 l0.length c0, .slice A1 l1.length c1] w fun e w' => e = .returned (.bool r) ∧ Below w.heap.size w w' := by
 have hu25 := Try.underlying25; have HR0 := Az hr0; have HC0 := Az hc0; clear hr0 hc0; have HR1 := Az hr1; have HC1 := Az hc1; clear hr1 hc1; have HB := Az (Below.refl w.heap.size w); have H : (if (l0.length : Int) > 1048576 then (laws_FnChoiceCounts.j0 k l0 l1 true) else (laws_FnChoiceCounts.j0 k l0 l1 (decide ((l1.length : Int) > 1048576)))) = some r := h; clear h; have HC3 := Az H; clear H
 go_enter Try.func6, Try.ntmps6
 go_upto_region 1 with (fail)
 go_cut [26] (fun v26 wc => ∃ (kq : Nat) (x26_2 : Bool), v26 = .bool x26_2 ∧ Aside0 (laws_FnChoiceCounts.j0 kq l0 l1 x26_2 = some r) ∧ Aside0 (kq ≤ k) ∧ Aside0 (Below w.heap.size w wc))
 case first =>
  have H := HC3.out; clear HC3
  by_cases c4 : (l0.length : Int) > 1048576
  ·
   rw [if_pos c4] at H; have c4b0 := decide_eq_true c4; have c4b1 : decide (1048576 < l0.length) = true := decide_eq_true (by omega); clear c4; (first | rw [c4b0] | (simp only [i64_w, i32_w]; rw [c4b0]) | skip); have H' := Az H; clear H
   go_wp2
   go_meet
   case rel => exact ⟨_, (true), rS, H', ⟨by first | omega | exact Nat.le_refl _⟩, ⟨bU0 HB.out⟩⟩
  ·
   rw [if_neg c4] at H; have c4b0 := decide_eq_false c4; have c4b1 : decide (1048576 < l0.length) = false := decide_eq_false (by omega); clear c4; (first | rw [c4b0] | (simp only [i64_w, i32_w]; rw [c4b0]) | skip); have H' := Az H; clear H
   go_wp2
   go_meet
   case rel => exact ⟨_, (decide ((l1.length : Int) > 1048576)), rS, H', ⟨by first | omega | exact Nat.le_refl _⟩, ⟨bU0 HB.out⟩⟩
 case rest =>
  as_aux_lemma =>
   clear HC3; (try clear c1); (try clear p2); (try clear c4); (try clear c4b0); (try clear c4b1); obtain ⟨kq, x26_2, rfl, HA, HJ2, HB⟩ := hcut
   cases kq with
   | zero => exact absurd HA.out (by simp [laws_FnChoiceCounts.j0])
   | succ kj2 =>
    have H := HA.out; clear HA; simp only [laws_FnChoiceCounts.j0] at H
    by_cases c5 : x26_2 = true
    ·
     subst c5
     have H1 : (some true) = some r := by rw [if_pos rfl] at H; exact H
     clear H; have H := H1; clear H1; obtain rfl := Option.some.inj H
     go_wp2
     go_ret
     exact ⟨rE, bU0 HB.out⟩
    ·
     replace c5 := Bool.eq_false_iff.mpr c5; subst c5
     have H1 : ((spec_DrawChoiceCounts.f kj2 l0).bind fun bt633 => ((impl_ChoiceCounts.f kj2 bt633.1 bt633.2.1 bt633.2.2).bind fun bt643 => ((spec_ChoiceCounts.f kj2 bt633.1 bt633.2.1 bt633.2.2).bind fun bt647 => (if (bt643.2 != bt647.2) = true then (laws_FnChoiceCounts.j1 kj2 l1 bt633.2.2 bt643.1 bt643.2 bt647.1 bt647.2 true bt633.1 bt633.2.1) else ((laws_sameInts.f kj2 bt643.1 bt647.1).bind fun t651 => (if t651 = true then (laws_FnChoiceCounts.j1 kj2 l1 bt633.2.2 bt643.1 bt643.2 bt647.1 bt647.2 (!bt643.2) bt633.1 bt633.2.1) else (laws_FnChoiceCounts.j1 kj2 l1 bt633.2.2 bt643.1 bt643.2 bt647.1 bt647.2 true bt633.1 bt633.2.1))))))) = some r := by rw [if_neg (show ¬ (false = true) by decide)] at H; exact H
     clear H; have H := H1; clear H1; replace H := Option.bind_eq_some_iff.mp H; obtain ⟨⟨t633, t636, t639⟩, A60, H⟩ := H; replace H : ((impl_ChoiceCounts.f kj2 t633 t636 t639).bind fun bt643 => ((spec_ChoiceCounts.f kj2 t633 t636 t639).bind fun bt647 => (if (bt643.2 != bt647.2) = true then (laws_FnChoiceCounts.j1 kj2 l1 t639 bt643.1 bt643.2 bt647.1 bt647.2 true t633 t636) else ((laws_sameInts.f kj2 bt643.1 bt647.1).bind fun t651 => (if t651 = true then (laws_FnChoiceCounts.j1 kj2 l1 t639 bt643.1 bt643.2 bt647.1 bt647.2 (!bt643.2) t633 t636) else (laws_FnChoiceCounts.j1 kj2 l1 t639 bt643.1 bt643.2 bt647.1 bt647.2 true t633 t636)))))) = some r := H; have A6 := Az A60; clear A60; replace H := Option.bind_eq_some_iff.mp H; obtain ⟨⟨t643, t646⟩, A70, H⟩ := H; replace H : ((spec_ChoiceCounts.f kj2 t633 t636 t639).bind fun bt647 => (if (t646 != bt647.2) = true then (laws_FnChoiceCounts.j1 kj2 l1 t639 t643 t646 bt647.1 bt647.2 true t633 t636) else ((laws_sameInts.f kj2 t643 bt647.1).bind fun t651 => (if t651 = true then (laws_FnChoiceCounts.j1 kj2 l1 t639 t643 t646 bt647.1 bt647.2 (!t646) t633 t636) else (laws_FnChoiceCounts.j1 kj2 l1 t639 t643 t646 bt647.1 bt647.2 true t633 t636))))) = some r := H; have A7 := Az A70; clear A70; replace H := Option.bind_eq_some_iff.mp H; obtain ⟨⟨t647, t650⟩, A80, H⟩ := H; replace H : (if (t646 != t650) = true then (laws_FnChoiceCounts.j1 kj2 l1 t639 t643 t646 t647 t650 true t633 t636) else ((laws_sameInts.f kj2 t643 t647).bind fun t651 => (if t651 = true then (laws_FnChoiceCounts.j1 kj2 l1 t639 t643 t646 t647 t650 (!t646) t633 t636) else (laws_FnChoiceCounts.j1 kj2 l1 t639 t643 t646 t647 t650 true t633 t636)))) = some r := H; have A8 := Az A80; clear A80; have HC9 := Az H; clear H
     go_upto_region 6 with (first | ((with_reducible refine gate_callee (f := 31) rfl ?_); refine goesL_ (some 29) rfl rfl Try.func31 (by kernel_rfl) rfl #[.slice A0 l0.length c0] rfl (by (try simp only [List.map_toArray, List.map_cons, List.map_nil]); first | done | rfl | (simp only [List.length_drop, List.length_take]; rfl)) ?_; (with_reducible refine (spec_DrawChoiceCounts.calls kj2 _ _ l0 t633 t636 t639 _ ?side1 ?side2 A6.out).mono ?_); (case side1 => exact cU (Kd.C_below HR0.out HB.out)); (case side2 => exact HC0.out); rintro e w10 ⟨v634, v637, v640, rfl, ho0, ho1, ho2, hb⟩; refine ⟨_, rfl, ?_⟩; have n0 := Az (Kd.Q_lower ho0 (below_size (bU0 HB.out))); have n1 := Az (Kd.R_lower ho1 (below_size (bU0 HB.out))); have n2 := Az (Kd.R_lower ho2 (below_size (bU0 HB.out))); have n3 := Az (below_step (bU0 HB.out) hb); clear HB; have HO635 := n0; have HO638 := n1; have HO641 := n2; have HB := n3; clear n0 n1 n2 n3; (try clear hb); (try clear hb2); (try clear hk); (try clear hi); (try clear ho0); (try clear ho1); (try clear ho2)) | ((with_reducible refine gate_dst (N := 5) rfl ?_); (try (refine gate_guard (by rfl) ?_; dsimp only)); refine box_event ?hg (N := 5) ?hd (cs := #[.slice none 0 0, .slice none 0 0]) (t := 25) ?hr ?_; (case hd => rfl); (case hg => rfl); (case hr => first | (go_simp; done) | (go_simp; rfl)); intro gb642 hg w11 hbox hb; have n0 := Az (Kd.Q_below (qU HO635.out) hb); have n1 := Az (Kd.R_below (rU HO638.out) hb); have n2 := Az (Kd.R_below (rU HO641.out) hb); have n3 := Az (below_step (bU0 HB.out) hb); have n4 := Az (hbox); have n5 := Az ((by rw [hg]; exact (below_size (bU0 HB.out)) : w.heap.size ≤ gb642)); have n6 := n5; clear HO635 HO638 HO641 HB; have HO635 := n0; have HO638 := n1; have HO641 := n2; have HB := n3; have BK642 := n4; have GW642 := n5; have GE642 := n6; clear n0 n1 n2 n3 n4 n5 n6 hb hbox hg; obtain ⟨Ao12, co12, eo12, _⟩ := Kd.Q_slice HO635.out; subst eo12; have hcz13_0 : w11.cell? ⟨gb642, 0, none⟩ = some (.slice none 0 0) := (blk_cell BK642.out 0).trans rfl; have hcz13_1 : w11.cell? ⟨gb642, 1, none⟩ = some (.slice none 0 0) := (blk_cell BK642.out 1).trans rfl; have hfz13_0 := blk_frozen BK642.out 0; have hfz13_1 := blk_frozen BK642.out 1; obtain ⟨Ao14, co14, eo14⟩ := Kd.R_slice HO638.out; subst eo14; obtain ⟨Ao15, co15, eo15⟩ := Kd.R_slice HO641.out; subst eo15) | ((with_reducible refine gate_callee (f := 20) rfl ?_); refine goesL_ (some 35) rfl rfl Try.func20 (by kernel_rfl) rfl #[.agg #[.slice Ao12 t633.length co12, .slice Ao14 t636.length co14], .slice Ao15 t639.length co15] rfl (by (try simp only [List.map_toArray, List.map_cons, List.map_nil]); first | done | rfl | (simp only [List.length_drop, List.length_take]; rfl)) ?_; (with_reducible refine (impl_ChoiceCounts.calls kj2 _ _ t633 _ _ t636 _ _ t639 t643 t646 _ ?side1 ?side2 ?side3 ?side4 ?side5 ?side6 A7.out).mono ?_); (case side1 => refine (Kd.Q_reads' (e := 3) (base := w.heap.size) (ok := fun k_ => (some k_ ≠ (.slice Ao14 t636.length co14 : Value).ownBlock ∧ some k_ ≠ (.slice Ao15 t639.length co15 : Value).ownBlock)) (n := t633.length) (c := co12) ?_).2.2; exact (by (with_reducible repeat (first | apply Kd.Q_alloc | apply Kd.Q_drewN | apply Kd.Q_drew)); exact (Kd.Q_mono (Kd.Q_far (p := ⟨gb642, 1, none⟩) (Kd.Q_far (p := ⟨gb642, 0, none⟩) (Kd.Q_types HO635.out BK642.out (by decide)) (fun _ hk => hk.2) (.slice Ao12 t633.length co12)) (fun _ hk => hk.2) (.slice Ao14 t636.length co14)) (fun _ h_ => h_.1)))); (case side2 => exact (Kd.Q_reads' HO635.out).2.1); (case side3 => refine (Kd.R_reads' (e := 3) (base := w.heap.size) (ok := fun k_ => (some k_ ≠ (.slice Ao12 t633.length co12 : Value).ownBlock ∧ some k_ ≠ (.slice Ao15 t639.length co15 : Value).ownBlock)) (n := t636.length) (c := co14) ?_).2.2; exact (by (with_reducible repeat (first | apply Kd.R_alloc | apply Kd.R_drewN | apply Kd.R_drew)); exact (Kd.R_mono (Kd.R_far (p := ⟨gb642, 1, none⟩) (Kd.R_far (p := ⟨gb642, 0, none⟩) (Kd.R_types HO638.out BK642.out (by decide)) (fun _ hk => hk.2) (.slice Ao12 t633.length co12)) (fun _ hk => hk.2) (.slice Ao14 t636.length co14)) (fun _ h_ => h_.1)))); (case side4 => exact (Kd.R_reads' HO638.out).2.1); (case side5 => refine (Kd.R_reads' (e := 3) (base := w.heap.size) (ok := fun k_ => (some k_ ≠ (.slice Ao12 t633.length co12 : Value).ownBlock ∧ some k_ ≠ (.slice Ao14 t636.length co14 : Value).ownBlock)) (n := t639.length) (c := co15) ?_).2.2; exact (by (with_reducible repeat (first | apply Kd.R_alloc | apply Kd.R_drewN | apply Kd.R_drew)); exact (Kd.R_mono (Kd.R_far (p := ⟨gb642, 1, none⟩) (Kd.R_far (p := ⟨gb642, 0, none⟩) (Kd.R_types HO641.out BK642.out (by decide)) (fun _ hk => hk.2) (.slice Ao12 t633.length co12)) (fun _ hk => hk.2) (.slice Ao14 t636.length co14)) (fun _ h_ => h_.1)))); (case side6 => exact (Kd.R_reads' HO641.out).2.1); rintro e w16 ⟨v644, rfl, ho0, hb⟩; refine ⟨_, rfl, ?_⟩; have n0 := Az (Kd.Q_elder' (by (with_reducible repeat (first | apply Kd.Q_alloc | apply Kd.Q_drewN | apply Kd.Q_drew)); exact (Kd.Q_mono (Kd.Q_far (p := ⟨gb642, 1, none⟩) (Kd.Q_far (p := ⟨gb642, 0, none⟩) (Kd.Q_types HO635.out BK642.out (by decide)) (fun _ hk => hk.2) (.slice Ao12 t633.length co12)) (fun _ hk => hk.2) (.slice Ao14 t636.length co14)) (fun _ h_ => h_.1))) (Kd.R_base ho0) hb); have n1 := Az (Kd.R_elder' (by (with_reducible repeat (first | apply Kd.R_alloc | apply Kd.R_drewN | apply Kd.R_drew)); exact (Kd.R_mono (Kd.R_far (p := ⟨gb642, 1, none⟩) (Kd.R_far (p := ⟨gb642, 0, none⟩) (Kd.R_types HO638.out BK642.out (by decide)) (fun _ hk => hk.2) (.slice Ao12 t633.length co12)) (fun _ hk => hk.2) (.slice Ao14 t636.length co14)) (fun _ h_ => h_.1))) (Kd.R_base ho0) hb); have n2 := Az (Kd.R_elder' (by (with_reducible repeat (first | apply Kd.R_alloc | apply Kd.R_drewN | apply Kd.R_drew)); exact (Kd.R_mono (Kd.R_far (p := ⟨gb642, 1, none⟩) (Kd.R_far (p := ⟨gb642, 0, none⟩) (Kd.R_types HO641.out BK642.out (by decide)) (fun _ hk => hk.2) (.slice Ao12 t633.length co12)) (fun _ hk => hk.2) (.slice Ao14 t636.length co14)) (fun _ h_ => h_.1))) (Kd.R_base ho0) hb); have n3 := Az (Kd.R_lower (Kd.R_new' (Kd.R_new' (Kd.R_new' ho0 (Kd.Q_lt (by (with_reducible repeat (first | apply Kd.Q_alloc | apply Kd.Q_drewN | apply Kd.Q_drew)); exact (Kd.Q_mono (Kd.Q_far (p := ⟨gb642, 1, none⟩) (Kd.Q_far (p := ⟨gb642, 0, none⟩) (Kd.Q_types HO635.out BK642.out (by decide)) (fun _ hk => hk.2) (.slice Ao12 t633.length co12)) (fun _ hk => hk.2) (.slice Ao14 t636.length co14)) (fun _ h_ => h_.1))))) (Kd.R_lt (by (with_reducible repeat (first | apply Kd.R_alloc | apply Kd.R_drewN | apply Kd.R_drew)); exact (Kd.R_mono (Kd.R_far (p := ⟨gb642, 1, none⟩) (Kd.R_far (p := ⟨gb642, 0, none⟩) (Kd.R_types HO638.out BK642.out (by decide)) (fun _ hk => hk.2) (.slice Ao12 t633.length co12)) (fun _ hk => hk.2) (.slice Ao14 t636.length co14)) (fun _ h_ => h_.1))))) (Kd.R_lt (by (with_reducible repeat (first | apply Kd.R_alloc | apply Kd.R_drewN | apply Kd.R_drew)); exact (Kd.R_mono (Kd.R_far (p := ⟨gb642, 1, none⟩) (Kd.R_far (p := ⟨gb642, 0, none⟩) (Kd.R_types HO641.out BK642.out (by decide)) (fun _ hk => hk.2) (.slice Ao12 t633.length co12)) (fun _ hk => hk.2) (.slice Ao14 t636.length co14)) (fun _ h_ => h_.1))))) (below_size (bU1 HB.out GE642.out))); have n4 := Az (blk_below (g := gb642) (o := .cells #[.slice Ao12 t633.length co12, .slice Ao14 t636.length co14] 25 (0, 0)) (by (with_reducible repeat (first | refine blk_drewN ?_ _ | refine blk_drew ?_ | refine blk_alloc ?_ _)); refine blk_put (cs := #[.slice Ao12 t633.length co12, .slice none 0 0]) ?_ 1 _ rfl; (with_reducible repeat (first | refine blk_drewN ?_ _ | refine blk_drew ?_ | refine blk_alloc ?_ _)); refine blk_put (cs := #[.slice none 0 0, .slice none 0 0]) ?_ 0 _ rfl; (with_reducible repeat (first | refine blk_drewN ?_ _ | refine blk_drew ?_ | refine blk_alloc ?_ _)); exact BK642.out) hb); have n5 := Az (below_step (bU1 HB.out GE642.out) hb); clear HO635 HO638 HO641 BK642 HB; have HO635 := n0; have HO638 := n1; have HO641 := n2; have HO645 := n3; have BK642 := n4; have HB := n5; clear n0 n1 n2 n3 n4 n5; (try clear hb); (try clear hb2); (try clear hk); (try clear hi); (try clear ho0); have hcz17_0 : w16.cell? ⟨gb642, 0, none⟩ = some (.slice Ao12 t633.length co12) := (blk_cell BK642.out 0).trans rfl; have hcz17_1 : w16.cell? ⟨gb642, 1, none⟩ = some (.slice Ao14 t636.length co14) := (blk_cell BK642.out 1).trans rfl; have hfz17_0 := blk_frozen BK642.out 0; have hfz17_1 := blk_frozen BK642.out 1) | ((with_reducible refine gate_callee (f := 32) rfl ?_); refine goesL_ (some 41) rfl rfl Try.func32 (by kernel_rfl) rfl #[.agg #[.slice Ao12 t633.length co12, .slice Ao14 t636.length co14], .slice Ao15 t639.length co15] rfl (by (try simp only [List.map_toArray, List.map_cons, List.map_nil]); first | done | rfl | (simp only [List.length_drop, List.length_take]; rfl)) ?_; (with_reducible refine (spec_ChoiceCounts.calls kj2 _ _ t633 _ _ t636 _ _ t639 t647 t650 _ ?side1 ?side2 ?side3 ?side4 ?side5 ?side6 A8.out).mono ?_); (case side1 => exact cU ((Kd.Q_reads' HO635.out).2.2)); (case side2 => exact (Kd.Q_reads' HO635.out).2.1); (case side3 => exact cU ((Kd.R_reads' HO638.out).2.2)); (case side4 => exact (Kd.R_reads' HO638.out).2.1); (case side5 => exact cU ((Kd.R_reads' HO641.out).2.2)); (case side6 => exact (Kd.R_reads' HO641.out).2.1); rintro e w18 ⟨v648, rfl, ho0, hb⟩; refine ⟨_, rfl, ?_⟩; have n0 := Az (Kd.Q_elder' (qU HO635.out) (Kd.R_base ho0) hb); have n1 := Az (Kd.R_elder' (rU HO638.out) (Kd.R_base ho0) hb); have n2 := Az (Kd.R_elder' (rU HO641.out) (Kd.R_base ho0) hb); have n3 := Az (Kd.R_elder' (rU HO645.out) (Kd.R_base ho0) hb); have n4 := Az (Kd.R_lower (Kd.R_new' (Kd.R_new' (Kd.R_new' (Kd.R_new' ho0 (Kd.Q_lt (qU HO635.out))) (Kd.R_lt (rU HO638.out))) (Kd.R_lt (rU HO641.out))) (Kd.R_lt (rU HO645.out))) (below_size (bU1 HB.out GE642.out))); have n5 := Az (blk_below (g := gb642) (o := .cells #[.slice Ao12 t633.length co12, .slice Ao14 t636.length co14] 25 (0, 0)) (kU BK642.out) hb); have n6 := Az (below_step (bU1 HB.out GE642.out) hb); clear HO635 HO638 HO641 HO645 BK642 HB; have HO635 := n0; have HO638 := n1; have HO641 := n2; have HO645 := n3; have HO649 := n4; have BK642 := n5; have HB := n6; clear n0 n1 n2 n3 n4 n5 n6; (try clear hb); (try clear hb2); (try clear hk); (try clear hi); (try clear ho0)))
     (try simp only [Act.put, List.setIfInBounds_toArray, List.set_cons_zero, List.set_cons_succ])
     go_cut [56] (fun v56 wc => ∃ (kq : Nat) (x56_8 : Bool), v56 = .bool x56_8 ∧ Aside0 (laws_FnChoiceCounts.j1 kq l1 t639 t643 t646 t647 t650 x56_8 t633 t636 = some r) ∧ Aside0 (kq ≤ kj2) ∧ Aside0 (Kd.R (Kd.int .i64) 3 wc w.heap.size (fun k_ => some k_ ≠ (v644 : Value).ownBlock ∧ some k_ ≠ (v648 : Value).ownBlock ∧ some k_ ≠ ((.slice Ao12 t633.length co12) : Value).ownBlock ∧ some k_ ≠ ((.slice Ao14 t636.length co14) : Value).ownBlock) (.slice Ao15 t639.length co15) t639) ∧ Aside0 (Kd.R (Kd.int .i64) 3 wc w.heap.size (fun k_ => some k_ ≠ ((.slice Ao15 t639.length co15) : Value).ownBlock ∧ some k_ ≠ (v648 : Value).ownBlock ∧ some k_ ≠ ((.slice Ao12 t633.length co12) : Value).ownBlock ∧ some k_ ≠ ((.slice Ao14 t636.length co14) : Value).ownBlock) v644 t643) ∧ Aside0 (Kd.R (Kd.int .i64) 3 wc w.heap.size (fun k_ => some k_ ≠ ((.slice Ao15 t639.length co15) : Value).ownBlock ∧ some k_ ≠ (v644 : Value).ownBlock ∧ some k_ ≠ ((.slice Ao12 t633.length co12) : Value).ownBlock ∧ some k_ ≠ ((.slice Ao14 t636.length co14) : Value).ownBlock) v648 t647) ∧ Aside0 (Kd.Q (Kd.int .i64) 3 wc w.heap.size (fun k_ => some k_ ≠ ((.slice Ao15 t639.length co15) : Value).ownBlock ∧ some k_ ≠ (v644 : Value).ownBlock ∧ some k_ ≠ (v648 : Value).ownBlock ∧ some k_ ≠ ((.slice Ao14 t636.length co14) : Value).ownBlock) (.slice Ao12 t633.length co12) t633) ∧ Aside0 (Kd.R (Kd.int .i64) 3 wc w.heap.size (fun k_ => some k_ ≠ ((.slice Ao15 t639.length co15) : Value).ownBlock ∧ some k_ ≠ (v644 : Value).ownBlock ∧ some k_ ≠ (v648 : Value).ownBlock ∧ some k_ ≠ ((.slice Ao12 t633.length co12) : Value).ownBlock) (.slice Ao14 t636.length co14) t636) ∧ Aside0 (wc.heap[gb642]? = some (.cells #[(.slice Ao12 t633.length co12), (.slice Ao14 t636.length co14)] 25 (0, 0))) ∧ Aside0 (Below w.heap.size w wc))
     case first =>
      have H := HC9.out; clear HC9
      by_cases c19 : (t646 != t650) = true
      ·
       rw [if_pos c19] at H; have c19b0 : (t646 != t650) = true := c19; (try (have c19b1 : decide (t646 = t650) = false := by simpa using c19)); (try (have c19b2 : (t646 == t650) = false := by simpa using c19)); (try (have c19b3 : ¬ (t646 = t650) := by simpa using c19)); clear c19; (first | rw [c19b0] | (simp only [i64_w, i32_w]; rw [c19b0]) | skip); have H' := Az H; clear H
       go_wp2
       go_meet
       case rel => exact ⟨_, (true), rS, H', ⟨by have := HJ2.out; first | omega | exact Nat.le_refl _⟩, ⟨by (with_reducible repeat (first | apply Kd.R_alloc | apply Kd.R_drewN | apply Kd.R_drew)); exact Kd.R_mono HO641.out (fun _ hk => ⟨hk.1.2, ⟨hk.2, ⟨hk.1.1.1, hk.1.1.2⟩⟩⟩)⟩, ⟨by (with_reducible repeat (first | apply Kd.R_alloc | apply Kd.R_drewN | apply Kd.R_drew)); exact Kd.R_mono HO645.out (fun _ hk => ⟨hk.1.2, ⟨hk.2, ⟨hk.1.1.1.2, hk.1.1.2⟩⟩⟩)⟩, ⟨by (with_reducible repeat (first | apply Kd.R_alloc | apply Kd.R_drewN | apply Kd.R_drew)); exact Kd.R_mono HO649.out (fun _ hk => ⟨hk.1.2, ⟨hk.2, ⟨hk.1.1.1.2, hk.1.1.2⟩⟩⟩)⟩, ⟨by (with_reducible repeat (first | apply Kd.Q_alloc | apply Kd.Q_drewN | apply Kd.Q_drew)); exact Kd.Q_mono HO635.out (fun _ hk => ⟨hk.1.1.2, ⟨hk.1.2, ⟨hk.2, hk.1.1.1⟩⟩⟩)⟩, ⟨by (with_reducible repeat (first | apply Kd.R_alloc | apply Kd.R_drewN | apply Kd.R_drew)); exact Kd.R_mono HO638.out (fun _ hk => ⟨hk.1.1.2, ⟨hk.1.2, ⟨hk.2, hk.1.1.1⟩⟩⟩)⟩, ⟨kU BK642.out⟩, ⟨bU1 HB.out GE642.out⟩⟩
      ·
       rw [if_neg c19] at H
       have c19b0 : (t646 != t650) = false := by simpa using c19
       (try (have c19b1 : decide (t646 = t650) = true := by simpa using c19)); (try (have c19b2 : (t646 == t650) = true := by simpa using c19)); clear c19; (first | rw [c19b0] | (simp only [i64_w, i32_w]; rw [c19b0]) | skip); replace H := Option.bind_eq_some_iff.mp H; obtain ⟨t651, A200, H⟩ := H; replace H : (if t651 = true then (laws_FnChoiceCounts.j1 kj2 l1 t639 t643 t646 t647 t650 (!t646) t633 t636) else (laws_FnChoiceCounts.j1 kj2 l1 t639 t643 t646 t647 t650 true t633 t636)) = some r := H; have A20 := Az A200; clear A200
       by_cases c21 : t651 = true
       ·
        subst c21
        have H1 : (laws_FnChoiceCounts.j1 kj2 l1 t639 t643 t646 t647 t650 (!t646) t633 t636) = some r := by rw [if_pos rfl] at H; exact H
        clear H; have H := H1; clear H1; have H' := Az H; clear H; obtain ⟨Ao22, co22, eo22⟩ := Kd.R_slice HO645.out; subst eo22; obtain ⟨Ao23, co23, eo23⟩ := Kd.R_slice HO649.out; subst eo23
        go_wp2_with (first | (go_at_call 25; (with_reducible refine (laws_sameInts.calls kj2 _ _ t643 _ _ t647 true _ ?side1 ?side2 ?side3 ?side4 A20.out).mono ?_); (case side1 => exact cU ((Kd.R_reads' HO645.out).2.2)); (case side2 => exact (Kd.R_reads' HO645.out).2.1); (case side3 => exact cU ((Kd.R_reads' HO649.out).2.2)); (case side4 => exact (Kd.R_reads' HO649.out).2.1); rintro e w' ⟨rfl, ⟨nd, rfl⟩⟩))
        go_meet
        case rel => exact ⟨_, (!t646), rS, H', ⟨by have := HJ2.out; first | omega | exact Nat.le_refl _⟩, ⟨by (with_reducible repeat (first | apply Kd.R_alloc | apply Kd.R_drewN | apply Kd.R_drew)); exact Kd.R_mono HO641.out (fun _ hk => ⟨hk.1.2, ⟨hk.2, ⟨hk.1.1.1, hk.1.1.2⟩⟩⟩)⟩, ⟨by (with_reducible repeat (first | apply Kd.R_alloc | apply Kd.R_drewN | apply Kd.R_drew)); exact Kd.R_mono HO645.out (fun _ hk => ⟨hk.1.2, ⟨hk.2, ⟨hk.1.1.1.2, hk.1.1.2⟩⟩⟩)⟩, ⟨by (with_reducible repeat (first | apply Kd.R_alloc | apply Kd.R_drewN | apply Kd.R_drew)); exact Kd.R_mono HO649.out (fun _ hk => ⟨hk.1.2, ⟨hk.2, ⟨hk.1.1.1.2, hk.1.1.2⟩⟩⟩)⟩, ⟨by (with_reducible repeat (first | apply Kd.Q_alloc | apply Kd.Q_drewN | apply Kd.Q_drew)); exact Kd.Q_mono HO635.out (fun _ hk => ⟨hk.1.1.2, ⟨hk.1.2, ⟨hk.2, hk.1.1.1⟩⟩⟩)⟩, ⟨by (with_reducible repeat (first | apply Kd.R_alloc | apply Kd.R_drewN | apply Kd.R_drew)); exact Kd.R_mono HO638.out (fun _ hk => ⟨hk.1.1.2, ⟨hk.1.2, ⟨hk.2, hk.1.1.1⟩⟩⟩)⟩, ⟨kU BK642.out⟩, ⟨bU1 HB.out GE642.out⟩⟩
       ·
        replace c21 := Bool.eq_false_iff.mpr c21; subst c21
        have H1 : (laws_FnChoiceCounts.j1 kj2 l1 t639 t643 t646 t647 t650 true t633 t636) = some r := by rw [if_neg (show ¬ (false = true) by decide)] at H; exact H
        clear H; have H := H1; clear H1; have H' := Az H; clear H; obtain ⟨Ao24, co24, eo24⟩ := Kd.R_slice HO645.out; subst eo24; obtain ⟨Ao25, co25, eo25⟩ := Kd.R_slice HO649.out; subst eo25
        go_wp2_with (first | (go_at_call 25; (with_reducible refine (laws_sameInts.calls kj2 _ _ t643 _ _ t647 false _ ?side1 ?side2 ?side3 ?side4 A20.out).mono ?_); (case side1 => exact cU ((Kd.R_reads' HO645.out).2.2)); (case side2 => exact (Kd.R_reads' HO645.out).2.1); (case side3 => exact cU ((Kd.R_reads' HO649.out).2.2)); (case side4 => exact (Kd.R_reads' HO649.out).2.1); rintro e w' ⟨rfl, ⟨nd, rfl⟩⟩))
        go_meet
        case rel => exact ⟨_, (true), rS, H', ⟨by have := HJ2.out; first | omega | exact Nat.le_refl _⟩, ⟨by (with_reducible repeat (first | apply Kd.R_alloc | apply Kd.R_drewN | apply Kd.R_drew)); exact Kd.R_mono HO641.out (fun _ hk => ⟨hk.1.2, ⟨hk.2, ⟨hk.1.1.1, hk.1.1.2⟩⟩⟩)⟩, ⟨by (with_reducible repeat (first | apply Kd.R_alloc | apply Kd.R_drewN | apply Kd.R_drew)); exact Kd.R_mono HO645.out (fun _ hk => ⟨hk.1.2, ⟨hk.2, ⟨hk.1.1.1.2, hk.1.1.2⟩⟩⟩)⟩, ⟨by (with_reducible repeat (first | apply Kd.R_alloc | apply Kd.R_drewN | apply Kd.R_drew)); exact Kd.R_mono HO649.out (fun _ hk => ⟨hk.1.2, ⟨hk.2, ⟨hk.1.1.1.2, hk.1.1.2⟩⟩⟩)⟩, ⟨by (with_reducible repeat (first | apply Kd.Q_alloc | apply Kd.Q_drewN | apply Kd.Q_drew)); exact Kd.Q_mono HO635.out (fun _ hk => ⟨hk.1.1.2, ⟨hk.1.2, ⟨hk.2, hk.1.1.1⟩⟩⟩)⟩, ⟨by (with_reducible repeat (first | apply Kd.R_alloc | apply Kd.R_drewN | apply Kd.R_drew)); exact Kd.R_mono HO638.out (fun _ hk => ⟨hk.1.1.2, ⟨hk.1.2, ⟨hk.2, hk.1.1.1⟩⟩⟩)⟩, ⟨kU BK642.out⟩, ⟨bU1 HB.out GE642.out⟩⟩
     case rest =>
      as_aux_lemma =>
       clear HC9; (try clear c1); (try clear c2); (try clear p2); (try clear c3); (try clear c4); (try clear c4b0); (try clear c4b1); (try clear c5); (try clear c6); (try clear c19); (try clear c19b0); (try clear c19b1); (try clear c19b2); (try clear c20); (try clear c21); (try clear hcz13_0); (try clear hcz13_1); (try clear hcz17_0); (try clear hcz17_1); (try clear hfz13_0); (try clear hfz13_1); (try clear hfz17_0); (try clear hfz17_1); (try clear p2); obtain ⟨kq, x56_8, rfl, HA, HJ8, HO_6, HO_7, HO_9, HO_Z0, HO_Z1, BK642, HB⟩ := hcut
       cases kq with
       | zero => exact absurd HA.out (by simp [laws_FnChoiceCounts.j1])
       | succ kj8 =>
        have H := HA.out; clear HA; simp only [laws_FnChoiceCounts.j1] at H
        by_cases c26 : x56_8 = true
        ·
         subst c26
         have H1 : (if (t646 == t650) = true then ((laws_sameInts.f kj8 t643 t647).bind fun t652 => (some t652)) else (some false)) = some r := by rw [if_pos rfl] at H; exact H
         clear H; have H := H1; clear H1
         by_cases c27 : (t646 == t650) = true
         ·
          rw [if_pos c27] at H; have c27b0 : (t646 == t650) = true := c27; (try (have c27b1 : decide (t646 = t650) = true := by simpa using c27)); (try (have c27b2 : (t646 == t650) = true := by simpa using c27)); clear c27; replace H := Option.bind_eq_some_iff.mp H; obtain ⟨t652, A280, H⟩ := H; replace H : (some t652) = some r := H; have A28 := Az A280; clear A280; obtain rfl := Option.some.inj H; obtain ⟨Ao29, co29, eo29⟩ := Kd.R_slice HO_7.out; subst eo29; obtain ⟨Ao30, co30, eo30⟩ := Kd.R_slice HO_9.out; subst eo30
          go_wp2_with (first | (go_at_call 25; (with_reducible refine (laws_sameInts.calls kj8 _ _ t643 _ _ t647 t652 _ ?side1 ?side2 ?side3 ?side4 A28.out).mono ?_); (case side1 => exact cU ((Kd.R_reads' HO_7.out).2.2)); (case side2 => exact (Kd.R_reads' HO_7.out).2.1); (case side3 => exact cU ((Kd.R_reads' HO_9.out).2.2)); (case side4 => exact (Kd.R_reads' HO_9.out).2.1); rintro e w' ⟨rfl, ⟨nd, rfl⟩⟩))
          go_ret
          exact ⟨rE, bU1 HB.out GE642.out⟩
         ·
          rw [if_neg c27] at H
          have c27b0 : (t646 == t650) = false := by simpa using c27
          (try (have c27b1 : decide (t646 = t650) = false := by simpa using c27)); (try (have c27b2 : (t646 == t650) = false := by simpa using c27)); (try (have c27b3 : ¬ (t646 = t650) := by simpa using c27)); clear c27; obtain rfl := Option.some.inj H
          go_wp2
          go_ret
          exact ⟨rE, bU1 HB.out GE642.out⟩
        ·
         replace c26 := Bool.eq_false_iff.mpr c26; subst c26
         have H1 : ((impl_MapCounts.f kj8 t633 t636).bind fun bt653 => (if bt653.2 = true then (if 2 < (t643.length : Int) then (if 3 < (t643.length : Int) then (if (wrap64 ((rd t643 2) + (rd t643 3))) = (t639.length : Int) then (if 0 < (t643.length : Int) then (if 0 < (bt653.1.length : Int) then (if 1 < (t643.length : Int) then (if 4 < (t643.length : Int) then (if (wrap64 ((wrap64 ((wrap64 ((wrap64 (2 * (rd t643 0))) - (rd bt653.1 0))) + (t639.length : Int))) - (rd t643 1))) = (wrap64 (2 * (rd t643 4))) then (if (rd t643 4) < 0 then (laws_FnChoiceCounts.j2 kj8 l1 t639 t643 bt653.1 true t633 t636) else ((impl_MapGenus.f kj8 t633 t636).bind fun t665 => (if (rd t643 4) > t665 then (laws_FnChoiceCounts.j2 kj8 l1 t639 t643 bt653.1 true t633 t636) else (laws_FnChoiceCounts.j2 kj8 l1 t639 t643 bt653.1 (decide ((rd t643 3) < 0)) t633 t636)))) else (laws_FnChoiceCounts.j2 kj8 l1 t639 t643 bt653.1 true t633 t636)) else (none)) else (none)) else (none)) else (none)) else (laws_FnChoiceCounts.j2 kj8 l1 t639 t643 bt653.1 true t633 t636)) else (none)) else (none)) else (laws_FnChoiceCounts.j2 kj8 l1 t639 t643 bt653.1 true t633 t636))) = some r := by rw [if_neg (show ¬ (false = true) by decide)] at H; exact H
         clear H; have H := H1; clear H1; replace H := Option.bind_eq_some_iff.mp H; obtain ⟨⟨t653, t656⟩, A310, H⟩ := H; replace H : (if t656 = true then (if 2 < (t643.length : Int) then (if 3 < (t643.length : Int) then (if (wrap64 ((rd t643 2) + (rd t643 3))) = (t639.length : Int) then (if 0 < (t643.length : Int) then (if 0 < (t653.length : Int) then (if 1 < (t643.length : Int) then (if 4 < (t643.length : Int) then (if (wrap64 ((wrap64 ((wrap64 ((wrap64 (2 * (rd t643 0))) - (rd t653 0))) + (t639.length : Int))) - (rd t643 1))) = (wrap64 (2 * (rd t643 4))) then (if (rd t643 4) < 0 then (laws_FnChoiceCounts.j2 kj8 l1 t639 t643 t653 true t633 t636) else ((impl_MapGenus.f kj8 t633 t636).bind fun t665 => (if (rd t643 4) > t665 then (laws_FnChoiceCounts.j2 kj8 l1 t639 t643 t653 true t633 t636) else (laws_FnChoiceCounts.j2 kj8 l1 t639 t643 t653 (decide ((rd t643 3) < 0)) t633 t636)))) else (laws_FnChoiceCounts.j2 kj8 l1 t639 t643 t653 true t633 t636)) else (none)) else (none)) else (none)) else (none)) else (laws_FnChoiceCounts.j2 kj8 l1 t639 t643 t653 true t633 t636)) else (none)) else (none)) else (laws_FnChoiceCounts.j2 kj8 l1 t639 t643 t653 true t633 t636)) = some r := H; have A31 := Az A310; clear A310; have HC32 := Az H; clear H; have hcz33_0 : wc.cell? ⟨gb642, 0, none⟩ = some (.slice Ao12 t633.length co12) := (blk_cell BK642.out 0).trans rfl; have hcz33_1 : wc.cell? ⟨gb642, 1, none⟩ = some (.slice Ao14 t636.length co14) := (blk_cell BK642.out 1).trans rfl; have hfz33_0 := blk_frozen BK642.out 0; have hfz33_1 := blk_frozen BK642.out 1
         go_upto_region 9 with (first | ((with_reducible refine gate_callee (f := 19) rfl ?_); refine goesL_ (some 67) rfl rfl Try.func19 (by kernel_rfl) rfl #[.agg #[.slice Ao12 t633.length co12, .slice Ao14 t636.length co14]] rfl (by (try simp only [List.map_toArray, List.map_cons, List.map_nil]); first | done | rfl | (simp only [List.length_drop, List.length_take]; rfl)) ?_; (with_reducible refine (impl_MapCounts.calls kj8 _ _ t633 _ _ t636 t653 t656 _ ?side1 ?side2 ?side3 ?side4 A31.out).mono ?_); (case side1 => exact cU ((Kd.Q_reads' HO_Z0.out).2.2)); (case side2 => exact (Kd.Q_reads' HO_Z0.out).2.1); (case side3 => exact cU ((Kd.R_reads' HO_Z1.out).2.2)); (case side4 => exact (Kd.R_reads' HO_Z1.out).2.1); rintro e w34 ⟨v654, rfl, ho0, hb⟩; refine ⟨_, rfl, ?_⟩; have n0 := Az (Kd.R_elder' (rU HO_6.out) (Kd.R_base ho0) hb); have n1 := Az (Kd.R_elder' (rU HO_7.out) (Kd.R_base ho0) hb); have n2 := Az (Kd.R_elder' (rU HO_9.out) (Kd.R_base ho0) hb); have n3 := Az (Kd.Q_elder' (qU HO_Z0.out) (Kd.R_base ho0) hb); have n4 := Az (Kd.R_elder' (rU HO_Z1.out) (Kd.R_base ho0) hb); have n5 := Az (Kd.R_lower (Kd.R_new' (Kd.R_new' (Kd.R_new' (Kd.R_new' (Kd.R_new' ho0 (Kd.R_lt (rU HO_6.out))) (Kd.R_lt (rU HO_7.out))) (Kd.R_lt (rU HO_9.out))) (Kd.Q_lt (qU HO_Z0.out))) (Kd.R_lt (rU HO_Z1.out))) (below_size (bU1 HB.out GE642.out))); have n6 := Az (blk_below (g := gb642) (o := .cells #[.slice Ao12 t633.length co12, .slice Ao14 t636.length co14] 25 (0, 0)) (kU BK642.out) hb); have n7 := Az (below_step (bU1 HB.out GE642.out) hb); clear HO_6 HO_7 HO_9 HO_Z0 HO_Z1 BK642 HB; have HO_6 := n0; have HO_7 := n1; have HO_9 := n2; have HO_Z0 := n3; have HO_Z1 := n4; have HO655 := n5; have BK642 := n6; have HB := n7; clear n0 n1 n2 n3 n4 n5 n6 n7; (try clear hb); (try clear hb2); (try clear hk); (try clear hi); (try clear ho0)))
         (try simp only [Act.put, List.setIfInBounds_toArray, List.set_cons_zero, List.set_cons_succ])
         go_cut [125] (fun v125 wc => ∃ (kq : Nat) (x125_31 : Bool), v125 = .bool x125_31 ∧ Aside0 (laws_FnChoiceCounts.j2 kq l1 t639 t643 t653 x125_31 t633 t636 = some r) ∧ Aside0 (kq ≤ kj8) ∧ Aside0 (Kd.R (Kd.int .i64) 3 wc w.heap.size (fun k_ => some k_ ≠ (v644 : Value).ownBlock ∧ some k_ ≠ (v654 : Value).ownBlock ∧ some k_ ≠ ((.slice Ao12 t633.length co12) : Value).ownBlock ∧ some k_ ≠ ((.slice Ao14 t636.length co14) : Value).ownBlock) (.slice Ao15 t639.length co15) t639) ∧ Aside0 (Kd.R (Kd.int .i64) 3 wc w.heap.size (fun k_ => some k_ ≠ ((.slice Ao15 t639.length co15) : Value).ownBlock ∧ some k_ ≠ (v654 : Value).ownBlock ∧ some k_ ≠ ((.slice Ao12 t633.length co12) : Value).ownBlock ∧ some k_ ≠ ((.slice Ao14 t636.length co14) : Value).ownBlock) v644 t643) ∧ Aside0 (Kd.R (Kd.int .i64) 3 wc w.heap.size (fun k_ => some k_ ≠ ((.slice Ao15 t639.length co15) : Value).ownBlock ∧ some k_ ≠ (v644 : Value).ownBlock ∧ some k_ ≠ ((.slice Ao12 t633.length co12) : Value).ownBlock ∧ some k_ ≠ ((.slice Ao14 t636.length co14) : Value).ownBlock) v654 t653) ∧ Aside0 (Kd.Q (Kd.int .i64) 3 wc w.heap.size (fun k_ => some k_ ≠ ((.slice Ao15 t639.length co15) : Value).ownBlock ∧ some k_ ≠ (v644 : Value).ownBlock ∧ some k_ ≠ (v654 : Value).ownBlock ∧ some k_ ≠ ((.slice Ao14 t636.length co14) : Value).ownBlock) (.slice Ao12 t633.length co12) t633) ∧ Aside0 (Kd.R (Kd.int .i64) 3 wc w.heap.size (fun k_ => some k_ ≠ ((.slice Ao15 t639.length co15) : Value).ownBlock ∧ some k_ ≠ (v644 : Value).ownBlock ∧ some k_ ≠ (v654 : Value).ownBlock ∧ some k_ ≠ ((.slice Ao12 t633.length co12) : Value).ownBlock) (.slice Ao14 t636.length co14) t636) ∧ Aside0 (wc.heap[gb642]? = some (.cells #[(.slice Ao12 t633.length co12), (.slice Ao14 t636.length co14)] 25 (0, 0))) ∧ Aside0 (Below w.heap.size w wc))
         case first =>
          have H := HC32.out; clear HC32
          by_cases c35 : t656 = true
          ·
           subst c35
           have H1 : (if 2 < (t643.length : Int) then (if 3 < (t643.length : Int) then (if (wrap64 ((rd t643 2) + (rd t643 3))) = (t639.length : Int) then (if 0 < (t643.length : Int) then (if 0 < (t653.length : Int) then (if 1 < (t643.length : Int) then (if 4 < (t643.length : Int) then (if (wrap64 ((wrap64 ((wrap64 ((wrap64 (2 * (rd t643 0))) - (rd t653 0))) + (t639.length : Int))) - (rd t643 1))) = (wrap64 (2 * (rd t643 4))) then (if (rd t643 4) < 0 then (laws_FnChoiceCounts.j2 kj8 l1 t639 t643 t653 true t633 t636) else ((impl_MapGenus.f kj8 t633 t636).bind fun t665 => (if (rd t643 4) > t665 then (laws_FnChoiceCounts.j2 kj8 l1 t639 t643 t653 true t633 t636) else (laws_FnChoiceCounts.j2 kj8 l1 t639 t643 t653 (decide ((rd t643 3) < 0)) t633 t636)))) else (laws_FnChoiceCounts.j2 kj8 l1 t639 t643 t653 true t633 t636)) else (none)) else (none)) else (none)) else (none)) else (laws_FnChoiceCounts.j2 kj8 l1 t639 t643 t653 true t633 t636)) else (none)) else (none)) = some r := by rw [if_pos rfl] at H; exact H
           clear H; have H := H1; clear H1
           by_cases c36 : 2 < (t643.length : Int)
           ·
            rw [if_pos c36] at H; have c36b0 := decide_eq_true c36; have c36b1 : decide (2 < t643.length) = true := decide_eq_true (by omega); clear c36; (first | rw [c36b0] | (simp only [i64_w, i32_w]; rw [c36b0]) | skip)
            by_cases c37 : 3 < (t643.length : Int)
            ·
             rw [if_pos c37] at H; have c37b0 := decide_eq_true c37; have c37b1 : decide (3 < t643.length) = true := decide_eq_true (by omega); clear c37
             by_cases c38 : (wrap64 ((rd t643 2) + (rd t643 3))) = (t639.length : Int)
             ·
              rw [if_pos c38] at H; have c38b0 := beq_iff_eq.mpr c38; have c38b1 := bne_eq_false_iff_eq.mpr c38; clear c38
              by_cases c39 : 0 < (t643.length : Int)
              ·
               rw [if_pos c39] at H; have c39b0 := decide_eq_true c39; have c39b1 : decide (0 < t643.length) = true := decide_eq_true (by omega); clear c39
               by_cases c40 : 0 < (t653.length : Int)
               ·
                rw [if_pos c40] at H; have c40b0 := decide_eq_true c40; have c40b1 : decide (0 < t653.length) = true := decide_eq_true (by omega); clear c40
                by_cases c41 : 1 < (t643.length : Int)
                ·
                 rw [if_pos c41] at H; have c41b0 := decide_eq_true c41; have c41b1 : decide (1 < t643.length) = true := decide_eq_true (by omega); clear c41
                 by_cases c42 : 4 < (t643.length : Int)
                 ·
                  rw [if_pos c42] at H; have c42b0 := decide_eq_true c42; have c42b1 : decide (4 < t643.length) = true := decide_eq_true (by omega); clear c42
                  by_cases c43 : (wrap64 ((wrap64 ((wrap64 ((wrap64 (2 * (rd t643 0))) - (rd t653 0))) + (t639.length : Int))) - (rd t643 1))) = (wrap64 (2 * (rd t643 4)))
                  ·
                   rw [if_pos c43] at H; have c43b0 := beq_iff_eq.mpr c43; have c43b1 := bne_eq_false_iff_eq.mpr c43; clear c43
                   by_cases c44 : (rd t643 4) < 0
                   ·
                    rw [if_pos c44] at H; have c44b0 := decide_eq_true c44; clear c44; have H' := Az H; clear H
                    try go_wp2
                    have n0 := Az (Kd.R_drew HO_6.out); have n1 := Az (Kd.R_drew HO_7.out); have n2 := Az (Kd.R_drew HO_9.out); have n3 := Az (Kd.Q_drew HO_Z0.out); have n4 := Az (Kd.R_drew HO_Z1.out); have n5 := Az (Kd.R_drew HO655.out); have n6 := Az (blk_drew BK642.out); have n7 := Az (below_drew1 HB.out); clear HO_6 HO_7 HO_9 HO_Z0 HO_Z1 HO655 BK642 HB; have HO_6 := n0; have HO_7 := n1; have HO_9 := n2; have HO_Z0 := n3; have HO_Z1 := n4; have HO655 := n5; have BK642 := n6; have HB := n7; clear n0 n1 n2 n3 n4 n5 n6 n7; obtain ⟨Ao46, co46, eo46⟩ := Kd.R_slice HO_7.out; (first | subst eo46 | (injection eo46 with f1_ f2_ f3_; have f4_ := f1_.symm; have f5_ := f3_.symm; clear f1_ f2_ f3_; subst f4_; subst f5_)); have p657 : 0 ≤ (2 : Int) := (by omega); have q657 : 2 < (t643.length : Int) := oA; obtain ⟨ad657, e657, hx657_0⟩ := Kd.at_int (Kd.R_reads' HO_7.out).2.2 2 p657 q657
                    cases e657
                    (try simp only [show (2 : Int).toNat = 2 from rfl, Nat.reduceMul, Nat.reduceEqDiff, Go.Addr.add, ↓reduceIte] at hx657_0); have qi657 : (2 < t643.length) = True := eq_true (by omega); (try rw [show ((2 : Int)).toNat = 2 from rfl] at hx657_0); replace p657 := eq_true p657; replace q657 := eq_true q657; have p658 : 0 ≤ (3 : Int) := (by omega); have q658 : 3 < (t643.length : Int) := oA; obtain ⟨ad658, e658, hx658_0⟩ := Kd.at_int (Kd.R_reads' HO_7.out).2.2 3 p658 q658; obtain rfl : ad657 = ad658 := (by injection e658); (try simp only [show (3 : Int).toNat = 3 from rfl, Nat.reduceMul, Nat.reduceEqDiff, Go.Addr.add, ↓reduceIte] at hx658_0); have qi658 : (3 < t643.length) = True := eq_true (by omega); (try rw [show ((3 : Int)).toNat = 3 from rfl] at hx658_0); replace p658 := eq_true p658; replace q658 := eq_true q658; have p659 : 0 ≤ (0 : Int) := (by omega); have q659 : 0 < (t643.length : Int) := oA; obtain ⟨ad659, e659, hx659_0⟩ := Kd.at_int (Kd.R_reads' HO_7.out).2.2 0 p659 q659; obtain rfl : ad657 = ad659 := (by injection e659); have qi659 : (0 < t643.length) = True := eq_true (by omega); (try rw [show ((0 : Int)).toNat = 0 from rfl] at hx659_0); (try rw [Addr.add_zero'] at hx659_0); replace p659 := eq_true p659; replace q659 := eq_true q659; obtain ⟨Ao47, co47, eo47⟩ := Kd.R_slice HO655.out; (first | subst eo47 | (injection eo47 with f1_ f2_ f3_; have f4_ := f1_.symm; have f5_ := f3_.symm; clear f1_ f2_ f3_; subst f4_; subst f5_)); have p660 : 0 ≤ (0 : Int) := (by omega); have q660 : 0 < (t653.length : Int) := oA; obtain ⟨ad660, e660, hx660_0⟩ := Kd.at_int (Kd.R_reads' HO655.out).2.2 0 p660 q660
                    cases e660
                    have qi660 : (0 < t653.length) = True := eq_true (by omega); (try rw [show ((0 : Int)).toNat = 0 from rfl] at hx660_0); (try rw [Addr.add_zero'] at hx660_0); replace p660 := eq_true p660; replace q660 := eq_true q660; have p661 : 0 ≤ (1 : Int) := (by omega); have q661 : 1 < (t643.length : Int) := oA; obtain ⟨ad661, e661, hx661_0⟩ := Kd.at_int (Kd.R_reads' HO_7.out).2.2 1 p661 q661; obtain rfl : ad657 = ad661 := (by injection e661); (try simp only [show (1 : Int).toNat = 1 from rfl, Nat.reduceMul, Nat.reduceEqDiff, Go.Addr.add, ↓reduceIte] at hx661_0); have qi661 : (1 < t643.length) = True := eq_true (by omega); (try rw [show ((1 : Int)).toNat = 1 from rfl] at hx661_0); replace p661 := eq_true p661; replace q661 := eq_true q661; have p662 : 0 ≤ (4 : Int) := (by omega); have q662 : 4 < (t643.length : Int) := oA; obtain ⟨ad662, e662, hx662_0⟩ := Kd.at_int (Kd.R_reads' HO_7.out).2.2 4 p662 q662; obtain rfl : ad657 = ad662 := (by injection e662); (try simp only [show (4 : Int).toNat = 4 from rfl, Nat.reduceMul, Nat.reduceEqDiff, Go.Addr.add, ↓reduceIte] at hx662_0); have qi662 : (4 < t643.length) = True := eq_true (by omega); (try rw [show ((4 : Int)).toNat = 4 from rfl] at hx662_0); replace p662 := eq_true p662; replace q662 := eq_true q662; have p663 : 0 ≤ (4 : Int) := (by omega); have q663 : 4 < (t643.length : Int) := oA; obtain ⟨ad663, e663, hx663_0⟩ := Kd.at_int (Kd.R_reads' HO_7.out).2.2 4 p663 q663; obtain rfl : ad657 = ad663 := (by injection e663); (try simp only [show (4 : Int).toNat = 4 from rfl, Nat.reduceMul, Nat.reduceEqDiff, Go.Addr.add, ↓reduceIte] at hx663_0); have qi663 : (4 < t643.length) = True := eq_true (by omega); (try rw [show ((4 : Int)).toNat = 4 from rfl] at hx663_0); replace p663 := eq_true p663; replace q663 := eq_true q663
                    refine start_ (n := 56) (S := fun w' => w'.cell? ⟨ad657.block, ad657.off + 2, none⟩ = some (.int .i64 (rd t643 2)) ∧ w'.cell? ⟨ad657.block, ad657.off + 3, none⟩ = some (.int .i64 (rd t643 3)) ∧ w'.cell? ad657 = some (.int .i64 (rd t643 0)) ∧ w'.cell? ad660 = some (.int .i64 (rd t653 0)) ∧ w'.cell? ⟨ad657.block, ad657.off + 1, none⟩ = some (.int .i64 (rd t643 1)) ∧ w'.cell? ⟨ad657.block, ad657.off + 4, none⟩ = some (.int .i64 (rd t643 4)) ∧ w'.cell? ⟨ad657.block, ad657.off + 4, none⟩ = some (.int .i64 (rd t643 4))) (ds := []) (laws_FnChoiceCounts_up [(0, some 70), (1, some 71), (2, some 72), (3, some 73), (4, some 74), (6, some 76), (7, some 77), (10, some 80), (11, some 81), (5, some 75), (8, some 78), (9, some 79), (12, some 82), (13, some 83), (14, some 84), (15, some 85), (16, some 86), (19, some 89), (20, some 90), (23, some 93), (24, some 94), (26, some 96), (27, some 97), (30, some 100), (31, some 101), (17, some 87), (18, some 88), (21, some 91), (22, some 92), (25, some 95), (28, some 98), (29, some 99), (32, some 102), (33, some 103), (34, some 104), (35, some 105), (36, some 106), (37, some 107), (38, some 108), (39, some 109), (40, some 110), (41, some 111), (42, some 112), (43, some 113), (44, some 114), (45, some 115), (46, some 116), (47, some 117), (48, some 118), (49, some 119), (50, some 120), (51, some 121), (52, some 122), (53, some 123), (54, some 124), (55, some 125)] 56) (by as_aux_lemma => kernel_rfl) rfl rfl ⟨hx657_0, hx658_0, hx659_0, hx660_0, hx661_0, hx662_0, hx663_0⟩ (fun hHeld => ?_); refine with_tabW laws_FnChoiceCounts.tab9 laws_FnChoiceCounts.bits9 (fun HT_ HW_ => ?_)
                    generalize w34.drew = w45 at HO_6 HO_7 HO_9 HO_Z0 HO_Z1 HO655 BK642 HB hx657_0 hx658_0 hx659_0 hx660_0 hx661_0 hx662_0 hx663_0 hHeld ⊢
                    repeat (first | (refine laws_FnChoiceCounts_uS rfl rfl (any_of HT_.out (by as_aux_lemma => kernel_rfl)) (fun _ _ _ h => h) (by rfl) (a' := ?_) ?_ ?_; rotate_left; (· simp only [Act.put, List.setIfInBounds_toArray, List.set_cons_zero, List.set_cons_succ, i64_w, i32_w]; rfl)) | (refine laws_FnChoiceCounts_uP rfl rfl (any_of HT_.out (by as_aux_lemma => kernel_rfl)) (fun _ _ _ h => h) (by rfl) (v := ?_) (a' := ?_) ?_ ?_ ?_; rotate_left; (· intro w'; go_simp; with_reducible rfl); rotate_left; (· simp only [Act.put, List.setIfInBounds_toArray, List.set_cons_zero, List.set_cons_succ, i64_w, i32_w]; rfl)) | (refine laws_FnChoiceCounts_uT rfl rfl (take_ofW HT_.out HW_.out (by as_aux_lemma => kernel_rfl)) (fun _ _ _ h => h) (by rfl) (v := ?_) (a' := ?_) ?_ hHeld ?_ ?_; rotate_left; (· rintro w' ⟨s0, s1, s2, s3, s4, s5, s6⟩; go_simp; with_reducible rfl); rotate_left; (· simp only [Act.put, List.setIfInBounds_toArray, List.set_cons_zero, List.set_cons_succ, i64_w, i32_w]; rfl)))
                    refine done_ (done_of HT_.out (by as_aux_lemma => kernel_rfl)) ?_
                    try go_wp2
                    go_meet
                    case rel => exact ⟨_, (true), rS, H', ⟨by have := HJ2.out; have := HJ8.out; first | omega | exact Nat.le_refl _⟩, ⟨by (with_reducible repeat (first | apply Kd.R_alloc | apply Kd.R_drewN | apply Kd.R_drew)); exact Kd.R_mono HO_6.out (fun _ hk => ⟨hk.1.1, ⟨hk.2, ⟨hk.1.2.2.1, hk.1.2.2.2⟩⟩⟩)⟩, ⟨by (with_reducible repeat (first | apply Kd.R_alloc | apply Kd.R_drewN | apply Kd.R_drew)); exact Kd.R_mono HO_7.out (fun _ hk => ⟨hk.1.1, ⟨hk.2, ⟨hk.1.2.2.1, hk.1.2.2.2⟩⟩⟩)⟩, ⟨by (with_reducible repeat (first | apply Kd.R_alloc | apply Kd.R_drewN | apply Kd.R_drew)); exact Kd.R_mono HO655.out (fun _ hk => ⟨hk.1.1.1.1.2, ⟨hk.1.1.1.2, ⟨hk.1.2, hk.2⟩⟩⟩)⟩, ⟨by (with_reducible repeat (first | apply Kd.Q_alloc | apply Kd.Q_drewN | apply Kd.Q_drew)); exact Kd.Q_mono HO_Z0.out (fun _ hk => ⟨hk.1.1, ⟨hk.1.2.1, ⟨hk.2, hk.1.2.2.2⟩⟩⟩)⟩, ⟨by (with_reducible repeat (first | apply Kd.R_alloc | apply Kd.R_drewN | apply Kd.R_drew)); exact Kd.R_mono HO_Z1.out (fun _ hk => ⟨hk.1.1, ⟨hk.1.2.1, ⟨hk.2, hk.1.2.2.2⟩⟩⟩)⟩, ⟨kU BK642.out⟩, ⟨bU1 HB.out GE642.out⟩⟩
                   ·
                    rw [if_neg c44] at H; have c44b0 := decide_eq_false c44; clear c44; replace H := Option.bind_eq_some_iff.mp H; obtain ⟨t665, A480, H⟩ := H; replace H : (if (rd t643 4) > t665 then (laws_FnChoiceCounts.j2 kj8 l1 t639 t643 t653 true t633 t636) else (laws_FnChoiceCounts.j2 kj8 l1 t639 t643 t653 (decide ((rd t643 3) < 0)) t633 t636)) = some r := H; have A48 := Az A480; clear A480
                    by_cases c49 : (rd t643 4) > t665
                    ·
                     rw [if_pos c49] at H; have c49b0 := decide_eq_true c49; clear c49; have H' := Az H; clear H
                     try go_wp2
                     have n0 := Az (Kd.R_drew HO_6.out); have n1 := Az (Kd.R_drew HO_7.out); have n2 := Az (Kd.R_drew HO_9.out); have n3 := Az (Kd.Q_drew HO_Z0.out); have n4 := Az (Kd.R_drew HO_Z1.out); have n5 := Az (Kd.R_drew HO655.out); have n6 := Az (blk_drew BK642.out); have n7 := Az (below_drew1 HB.out); clear HO_6 HO_7 HO_9 HO_Z0 HO_Z1 HO655 BK642 HB; have HO_6 := n0; have HO_7 := n1; have HO_9 := n2; have HO_Z0 := n3; have HO_Z1 := n4; have HO655 := n5; have BK642 := n6; have HB := n7; clear n0 n1 n2 n3 n4 n5 n6 n7; obtain ⟨Ao51, co51, eo51⟩ := Kd.R_slice HO_7.out; (first | subst eo51 | (injection eo51 with f1_ f2_ f3_; have f4_ := f1_.symm; have f5_ := f3_.symm; clear f1_ f2_ f3_; subst f4_; subst f5_)); have p657 : 0 ≤ (2 : Int) := (by omega); have q657 : 2 < (t643.length : Int) := oA; obtain ⟨ad657, e657, hx657_0⟩ := Kd.at_int (Kd.R_reads' HO_7.out).2.2 2 p657 q657
                     cases e657
                     (try simp only [show (2 : Int).toNat = 2 from rfl, Nat.reduceMul, Nat.reduceEqDiff, Go.Addr.add, ↓reduceIte] at hx657_0); have qi657 : (2 < t643.length) = True := eq_true (by omega); (try rw [show ((2 : Int)).toNat = 2 from rfl] at hx657_0); replace p657 := eq_true p657; replace q657 := eq_true q657; have p658 : 0 ≤ (3 : Int) := (by omega); have q658 : 3 < (t643.length : Int) := oA; obtain ⟨ad658, e658, hx658_0⟩ := Kd.at_int (Kd.R_reads' HO_7.out).2.2 3 p658 q658; obtain rfl : ad657 = ad658 := (by injection e658); (try simp only [show (3 : Int).toNat = 3 from rfl, Nat.reduceMul, Nat.reduceEqDiff, Go.Addr.add, ↓reduceIte] at hx658_0); have qi658 : (3 < t643.length) = True := eq_true (by omega); (try rw [show ((3 : Int)).toNat = 3 from rfl] at hx658_0); replace p658 := eq_true p658; replace q658 := eq_true q658; have p659 : 0 ≤ (0 : Int) := (by omega); have q659 : 0 < (t643.length : Int) := oA; obtain ⟨ad659, e659, hx659_0⟩ := Kd.at_int (Kd.R_reads' HO_7.out).2.2 0 p659 q659; obtain rfl : ad657 = ad659 := (by injection e659); have qi659 : (0 < t643.length) = True := eq_true (by omega); (try rw [show ((0 : Int)).toNat = 0 from rfl] at hx659_0); (try rw [Addr.add_zero'] at hx659_0); replace p659 := eq_true p659; replace q659 := eq_true q659; obtain ⟨Ao52, co52, eo52⟩ := Kd.R_slice HO655.out; (first | subst eo52 | (injection eo52 with f1_ f2_ f3_; have f4_ := f1_.symm; have f5_ := f3_.symm; clear f1_ f2_ f3_; subst f4_; subst f5_)); have p660 : 0 ≤ (0 : Int) := (by omega); have q660 : 0 < (t653.length : Int) := oA; obtain ⟨ad660, e660, hx660_0⟩ := Kd.at_int (Kd.R_reads' HO655.out).2.2 0 p660 q660
                     cases e660
                     have qi660 : (0 < t653.length) = True := eq_true (by omega); (try rw [show ((0 : Int)).toNat = 0 from rfl] at hx660_0); (try rw [Addr.add_zero'] at hx660_0); replace p660 := eq_true p660; replace q660 := eq_true q660; have p661 : 0 ≤ (1 : Int) := (by omega); have q661 : 1 < (t643.length : Int) := oA; obtain ⟨ad661, e661, hx661_0⟩ := Kd.at_int (Kd.R_reads' HO_7.out).2.2 1 p661 q661; obtain rfl : ad657 = ad661 := (by injection e661); (try simp only [show (1 : Int).toNat = 1 from rfl, Nat.reduceMul, Nat.reduceEqDiff, Go.Addr.add, ↓reduceIte] at hx661_0); have qi661 : (1 < t643.length) = True := eq_true (by omega); (try rw [show ((1 : Int)).toNat = 1 from rfl] at hx661_0); replace p661 := eq_true p661; replace q661 := eq_true q661; have p662 : 0 ≤ (4 : Int) := (by omega); have q662 : 4 < (t643.length : Int) := oA; obtain ⟨ad662, e662, hx662_0⟩ := Kd.at_int (Kd.R_reads' HO_7.out).2.2 4 p662 q662; obtain rfl : ad657 = ad662 := (by injection e662); (try simp only [show (4 : Int).toNat = 4 from rfl, Nat.reduceMul, Nat.reduceEqDiff, Go.Addr.add, ↓reduceIte] at hx662_0); have qi662 : (4 < t643.length) = True := eq_true (by omega); (try rw [show ((4 : Int)).toNat = 4 from rfl] at hx662_0); replace p662 := eq_true p662; replace q662 := eq_true q662; have p663 : 0 ≤ (4 : Int) := (by omega); have q663 : 4 < (t643.length : Int) := oA; obtain ⟨ad663, e663, hx663_0⟩ := Kd.at_int (Kd.R_reads' HO_7.out).2.2 4 p663 q663; obtain rfl : ad657 = ad663 := (by injection e663); (try simp only [show (4 : Int).toNat = 4 from rfl, Nat.reduceMul, Nat.reduceEqDiff, Go.Addr.add, ↓reduceIte] at hx663_0); have qi663 : (4 < t643.length) = True := eq_true (by omega); (try rw [show ((4 : Int)).toNat = 4 from rfl] at hx663_0); replace p663 := eq_true p663; replace q663 := eq_true q663; have p664 : 0 ≤ (4 : Int) := (by omega); have q664 : 4 < (t643.length : Int) := oA; obtain ⟨ad664, e664, hx664_0⟩ := Kd.at_int (Kd.R_reads' HO_7.out).2.2 4 p664 q664; obtain rfl : ad657 = ad664 := (by injection e664); (try simp only [show (4 : Int).toNat = 4 from rfl, Nat.reduceMul, Nat.reduceEqDiff, Go.Addr.add, ↓reduceIte] at hx664_0); have qi664 : (4 < t643.length) = True := eq_true (by omega); (try rw [show ((4 : Int)).toNat = 4 from rfl] at hx664_0); replace p664 := eq_true p664; replace q664 := eq_true q664
                     refine start_ (n := 56) (S := fun w' => w'.cell? ⟨gb642, 0, none⟩ = some (.slice Ao12 t633.length co12) ∧ w'.cell? ⟨gb642, 1, none⟩ = some (.slice Ao14 t636.length co14) ∧ w'.cell? ⟨ad657.block, ad657.off + 2, none⟩ = some (.int .i64 (rd t643 2)) ∧ w'.cell? ⟨ad657.block, ad657.off + 3, none⟩ = some (.int .i64 (rd t643 3)) ∧ w'.cell? ad657 = some (.int .i64 (rd t643 0)) ∧ w'.cell? ad660 = some (.int .i64 (rd t653 0)) ∧ w'.cell? ⟨ad657.block, ad657.off + 1, none⟩ = some (.int .i64 (rd t643 1)) ∧ w'.cell? ⟨ad657.block, ad657.off + 4, none⟩ = some (.int .i64 (rd t643 4)) ∧ w'.cell? ⟨ad657.block, ad657.off + 4, none⟩ = some (.int .i64 (rd t643 4)) ∧ w'.cell? ⟨ad657.block, ad657.off + 4, none⟩ = some (.int .i64 (rd t643 4))) (ds := []) (laws_FnChoiceCounts_up [(0, some 70), (1, some 71), (2, some 72), (3, some 73), (4, some 74), (6, some 76), (7, some 77), (10, some 80), (11, some 81), (5, some 75), (8, some 78), (9, some 79), (12, some 82), (13, some 83), (14, some 84), (15, some 85), (16, some 86), (19, some 89), (20, some 90), (23, some 93), (24, some 94), (26, some 96), (27, some 97), (30, some 100), (31, some 101), (17, some 87), (18, some 88), (21, some 91), (22, some 92), (25, some 95), (28, some 98), (29, some 99), (32, some 102), (33, some 103), (34, some 104), (35, some 105), (36, some 106), (37, some 107), (38, some 108), (39, some 109), (40, some 110), (41, some 111), (42, some 112), (43, some 113), (44, some 114), (45, some 115), (46, some 116), (47, some 117), (48, some 118), (49, some 119), (50, some 120), (51, some 121), (52, some 122), (53, some 123), (54, some 124), (55, some 125)] 56) (by as_aux_lemma => kernel_rfl) rfl rfl ⟨(blk_cell BK642.out 0).trans rfl, (blk_cell BK642.out 1).trans rfl, hx657_0, hx658_0, hx659_0, hx660_0, hx661_0, hx662_0, hx663_0, hx664_0⟩ (fun hHeld => ?_); refine with_tabW laws_FnChoiceCounts.tab9 laws_FnChoiceCounts.bits9 (fun HT_ HW_ => ?_)
                     generalize w34.drew = w50 at HO_6 HO_7 HO_9 HO_Z0 HO_Z1 HO655 BK642 HB hx657_0 hx658_0 hx659_0 hx660_0 hx661_0 hx662_0 hx663_0 hx664_0 hHeld ⊢
                     repeat (first | (refine laws_FnChoiceCounts_uP rfl rfl (any_of HT_.out (by as_aux_lemma => kernel_rfl)) (fun _ _ _ h => h) (by rfl) (v := ?_) (a' := ?_) ?_ ?_ ?_; rotate_left; (· intro w'; go_simp; with_reducible rfl); rotate_left; (· simp only [Act.put, List.setIfInBounds_toArray, List.set_cons_zero, List.set_cons_succ, i64_w, i32_w]; rfl)) | (refine laws_FnChoiceCounts_uT rfl rfl (take_ofW HT_.out HW_.out (by as_aux_lemma => kernel_rfl)) (fun _ _ _ h => h) (by rfl) (v := ?_) (a' := ?_) ?_ hHeld ?_ ?_; rotate_left; (· rintro w' ⟨s0, s1, s2, s3, s4, s5, s6, s7, s8, s9⟩; go_simp; with_reducible rfl); rotate_left; (· simp only [Act.put, List.setIfInBounds_toArray, List.set_cons_zero, List.set_cons_succ, i64_w, i32_w]; rfl)))
                     refine laws_FnChoiceCounts_uO rfl rfl (one_of HT_.out (by as_aux_lemma => kernel_rfl)) (by decide) (fun K hK => ?_)
                     refine goes_ Try.func22 (by kernel_rfl) rfl #[.agg #[.slice Ao12 t633.length co12, .slice Ao14 t636.length co14]] (by rfl) rfl rfl (by (try simp only [List.map_toArray, List.map_cons, List.map_nil]); first | done | rfl | (simp only [List.length_drop, List.length_take]; rfl)) ?_
                     with_reducible refine (impl_MapGenus.calls kj8 _ _ t633 _ _ t636 t665 _ ?side1 ?side2 ?side3 ?side4 A48.out).mono ?_
                     (case side1 => exact cU ((Kd.Q_reads' HO_Z0.out).2.2))
                     (case side2 => exact (Kd.Q_reads' HO_Z0.out).2.1)
                     (case side3 => exact cU ((Kd.R_reads' HO_Z1.out).2.2))
                     (case side4 => exact (Kd.R_reads' HO_Z1.out).2.1)
                     rintro e w53 ⟨rfl, hb⟩
                     have HS2_ := (hb.cell (World.block_lt_of_cell? _ _ (hHeld.2.2.1))).trans (hHeld.2.2.1); have HS3_ := (hb.cell (World.block_lt_of_cell? _ _ (hHeld.2.2.2.1))).trans (hHeld.2.2.2.1); have HS4_ := (hb.cell (World.block_lt_of_cell? _ _ (hHeld.2.2.2.2.1))).trans (hHeld.2.2.2.2.1); have HS5_ := (hb.cell (World.block_lt_of_cell? _ _ (hHeld.2.2.2.2.2.1))).trans (hHeld.2.2.2.2.2.1); have HS6_ := (hb.cell (World.block_lt_of_cell? _ _ (hHeld.2.2.2.2.2.2.1))).trans (hHeld.2.2.2.2.2.2.1); have HS7_ := (hb.cell (World.block_lt_of_cell? _ _ (hHeld.2.2.2.2.2.2.2.1))).trans (hHeld.2.2.2.2.2.2.2.1); have HS8_ := (hb.cell (World.block_lt_of_cell? _ _ (hHeld.2.2.2.2.2.2.2.2.1))).trans (hHeld.2.2.2.2.2.2.2.2.1); have HS9_ := (hb.cell (World.block_lt_of_cell? _ _ (hHeld.2.2.2.2.2.2.2.2.2))).trans (hHeld.2.2.2.2.2.2.2.2.2)
                     refine ⟨_, rfl, ?_⟩
                     have n0 := Az (Kd.R_below (rU HO_6.out) hb); have n1 := Az (Kd.R_below (rU HO_7.out) hb); have n2 := Az (Kd.R_below (rU HO_9.out) hb); have n3 := Az (Kd.Q_below (qU HO_Z0.out) hb); have n4 := Az (Kd.R_below (rU HO_Z1.out) hb); have n5 := Az (Kd.R_below (rU HO655.out) hb); have n6 := Az (blk_below (g := gb642) (o := .cells #[.slice Ao12 t633.length co12, .slice Ao14 t636.length co14] 25 (0, 0)) (kU BK642.out) hb); have n7 := Az (below_step (bU1 HB.out GE642.out) hb); clear HO_6 HO_7 HO_9 HO_Z0 HO_Z1 HO655 BK642 HB; have HO_6 := n0; have HO_7 := n1; have HO_9 := n2; have HO_Z0 := n3; have HO_Z1 := n4; have HO655 := n5; have BK642 := n6; have HB := n7; clear n0 n1 n2 n3 n4 n5 n6 n7; (try clear hb); (try clear hb2); (try clear hk); (try clear hi)
                     refine hK.out _ _ ⟨(blk_cell BK642.out 0).trans rfl, (blk_cell BK642.out 1).trans rfl, HS2_, HS3_, HS4_, HS5_, HS6_, HS7_, HS8_, HS9_⟩ (fun hHeld => ?_)
                     clear hK K
                     refine norm_ (a' := ?_) ?_ ?_
                     rotate_left
                     ·
                      show Act.put _ (some 117) _ = _
                      simp only [Act.put, List.setIfInBounds_toArray, List.set_cons_zero, List.set_cons_succ, i64_w, i32_w]
                      rfl
                     repeat (first | (refine laws_FnChoiceCounts_uS rfl rfl (any_of HT_.out (by as_aux_lemma => kernel_rfl)) (fun _ _ _ h => h) (by rfl) (a' := ?_) ?_ ?_; rotate_left; (· simp only [Act.put, List.setIfInBounds_toArray, List.set_cons_zero, List.set_cons_succ, i64_w, i32_w]; rfl)) | (refine laws_FnChoiceCounts_uP rfl rfl (any_of HT_.out (by as_aux_lemma => kernel_rfl)) (fun _ _ _ h => h) (by rfl) (v := ?_) (a' := ?_) ?_ ?_ ?_; rotate_left; (· intro w'; go_simp; with_reducible rfl); rotate_left; (· simp only [Act.put, List.setIfInBounds_toArray, List.set_cons_zero, List.set_cons_succ, i64_w, i32_w]; rfl)))
                     refine done_ (done_of HT_.out (by as_aux_lemma => kernel_rfl)) ?_
                     try go_wp2
                     go_meet
                     case rel => exact ⟨_, (true), rS, H', ⟨by have := HJ2.out; have := HJ8.out; first | omega | exact Nat.le_refl _⟩, ⟨by (with_reducible repeat (first | apply Kd.R_alloc | apply Kd.R_drewN | apply Kd.R_drew)); exact Kd.R_mono HO_6.out (fun _ hk => ⟨hk.1.1, ⟨hk.2, ⟨hk.1.2.2.1, hk.1.2.2.2⟩⟩⟩)⟩, ⟨by (with_reducible repeat (first | apply Kd.R_alloc | apply Kd.R_drewN | apply Kd.R_drew)); exact Kd.R_mono HO_7.out (fun _ hk => ⟨hk.1.1, ⟨hk.2, ⟨hk.1.2.2.1, hk.1.2.2.2⟩⟩⟩)⟩, ⟨by (with_reducible repeat (first | apply Kd.R_alloc | apply Kd.R_drewN | apply Kd.R_drew)); exact Kd.R_mono HO655.out (fun _ hk => ⟨hk.1.1.1.1.2, ⟨hk.1.1.1.2, ⟨hk.1.2, hk.2⟩⟩⟩)⟩, ⟨by (with_reducible repeat (first | apply Kd.Q_alloc | apply Kd.Q_drewN | apply Kd.Q_drew)); exact Kd.Q_mono HO_Z0.out (fun _ hk => ⟨hk.1.1, ⟨hk.1.2.1, ⟨hk.2, hk.1.2.2.2⟩⟩⟩)⟩, ⟨by (with_reducible repeat (first | apply Kd.R_alloc | apply Kd.R_drewN | apply Kd.R_drew)); exact Kd.R_mono HO_Z1.out (fun _ hk => ⟨hk.1.1, ⟨hk.1.2.1, ⟨hk.2, hk.1.2.2.2⟩⟩⟩)⟩, ⟨kU BK642.out⟩, ⟨bU1 HB.out GE642.out⟩⟩
                    ·
                     rw [if_neg c49] at H; have c49b0 := decide_eq_false c49; clear c49; have H' := Az H; clear H
                     try go_wp2
                     have n0 := Az (Kd.R_drew HO_6.out); have n1 := Az (Kd.R_drew HO_7.out); have n2 := Az (Kd.R_drew HO_9.out); have n3 := Az (Kd.Q_drew HO_Z0.out); have n4 := Az (Kd.R_drew HO_Z1.out); have n5 := Az (Kd.R_drew HO655.out); have n6 := Az (blk_drew BK642.out); have n7 := Az (below_drew1 HB.out); clear HO_6 HO_7 HO_9 HO_Z0 HO_Z1 HO655 BK642 HB; have HO_6 := n0; have HO_7 := n1; have HO_9 := n2; have HO_Z0 := n3; have HO_Z1 := n4; have HO655 := n5; have BK642 := n6; have HB := n7; clear n0 n1 n2 n3 n4 n5 n6 n7; obtain ⟨Ao55, co55, eo55⟩ := Kd.R_slice HO_7.out; (first | subst eo55 | (injection eo55 with f1_ f2_ f3_; have f4_ := f1_.symm; have f5_ := f3_.symm; clear f1_ f2_ f3_; subst f4_; subst f5_)); have p657 : 0 ≤ (2 : Int) := (by omega); have q657 : 2 < (t643.length : Int) := oA; obtain ⟨ad657, e657, hx657_0⟩ := Kd.at_int (Kd.R_reads' HO_7.out).2.2 2 p657 q657
                     cases e657
                     (try simp only [show (2 : Int).toNat = 2 from rfl, Nat.reduceMul, Nat.reduceEqDiff, Go.Addr.add, ↓reduceIte] at hx657_0); have qi657 : (2 < t643.length) = True := eq_true (by omega); (try rw [show ((2 : Int)).toNat = 2 from rfl] at hx657_0); replace p657 := eq_true p657; replace q657 := eq_true q657; have p658 : 0 ≤ (3 : Int) := (by omega); have q658 : 3 < (t643.length : Int) := oA; obtain ⟨ad658, e658, hx658_0⟩ := Kd.at_int (Kd.R_reads' HO_7.out).2.2 3 p658 q658; obtain rfl : ad657 = ad658 := (by injection e658); (try simp only [show (3 : Int).toNat = 3 from rfl, Nat.reduceMul, Nat.reduceEqDiff, Go.Addr.add, ↓reduceIte] at hx658_0); have qi658 : (3 < t643.length) = True := eq_true (by omega); (try rw [show ((3 : Int)).toNat = 3 from rfl] at hx658_0); replace p658 := eq_true p658; replace q658 := eq_true q658; have p659 : 0 ≤ (0 : Int) := (by omega); have q659 : 0 < (t643.length : Int) := oA; obtain ⟨ad659, e659, hx659_0⟩ := Kd.at_int (Kd.R_reads' HO_7.out).2.2 0 p659 q659; obtain rfl : ad657 = ad659 := (by injection e659); have qi659 : (0 < t643.length) = True := eq_true (by omega); (try rw [show ((0 : Int)).toNat = 0 from rfl] at hx659_0); (try rw [Addr.add_zero'] at hx659_0); replace p659 := eq_true p659; replace q659 := eq_true q659; obtain ⟨Ao56, co56, eo56⟩ := Kd.R_slice HO655.out; (first | subst eo56 | (injection eo56 with f1_ f2_ f3_; have f4_ := f1_.symm; have f5_ := f3_.symm; clear f1_ f2_ f3_; subst f4_; subst f5_)); have p660 : 0 ≤ (0 : Int) := (by omega); have q660 : 0 < (t653.length : Int) := oA; obtain ⟨ad660, e660, hx660_0⟩ := Kd.at_int (Kd.R_reads' HO655.out).2.2 0 p660 q660
                     cases e660
                     have qi660 : (0 < t653.length) = True := eq_true (by omega); (try rw [show ((0 : Int)).toNat = 0 from rfl] at hx660_0); (try rw [Addr.add_zero'] at hx660_0); replace p660 := eq_true p660; replace q660 := eq_true q660; have p661 : 0 ≤ (1 : Int) := (by omega); have q661 : 1 < (t643.length : Int) := oA; obtain ⟨ad661, e661, hx661_0⟩ := Kd.at_int (Kd.R_reads' HO_7.out).2.2 1 p661 q661; obtain rfl : ad657 = ad661 := (by injection e661); (try simp only [show (1 : Int).toNat = 1 from rfl, Nat.reduceMul, Nat.reduceEqDiff, Go.Addr.add, ↓reduceIte] at hx661_0); have qi661 : (1 < t643.length) = True := eq_true (by omega); (try rw [show ((1 : Int)).toNat = 1 from rfl] at hx661_0); replace p661 := eq_true p661; replace q661 := eq_true q661; have p662 : 0 ≤ (4 : Int) := (by omega); have q662 : 4 < (t643.length : Int) := oA; obtain ⟨ad662, e662, hx662_0⟩ := Kd.at_int (Kd.R_reads' HO_7.out).2.2 4 p662 q662; obtain rfl : ad657 = ad662 := (by injection e662); (try simp only [show (4 : Int).toNat = 4 from rfl, Nat.reduceMul, Nat.reduceEqDiff, Go.Addr.add, ↓reduceIte] at hx662_0); have qi662 : (4 < t643.length) = True := eq_true (by omega); (try rw [show ((4 : Int)).toNat = 4 from rfl] at hx662_0); replace p662 := eq_true p662; replace q662 := eq_true q662; have p663 : 0 ≤ (4 : Int) := (by omega); have q663 : 4 < (t643.length : Int) := oA; obtain ⟨ad663, e663, hx663_0⟩ := Kd.at_int (Kd.R_reads' HO_7.out).2.2 4 p663 q663; obtain rfl : ad657 = ad663 := (by injection e663); (try simp only [show (4 : Int).toNat = 4 from rfl, Nat.reduceMul, Nat.reduceEqDiff, Go.Addr.add, ↓reduceIte] at hx663_0); have qi663 : (4 < t643.length) = True := eq_true (by omega); (try rw [show ((4 : Int)).toNat = 4 from rfl] at hx663_0); replace p663 := eq_true p663; replace q663 := eq_true q663; have p664 : 0 ≤ (4 : Int) := (by omega); have q664 : 4 < (t643.length : Int) := oA; obtain ⟨ad664, e664, hx664_0⟩ := Kd.at_int (Kd.R_reads' HO_7.out).2.2 4 p664 q664; obtain rfl : ad657 = ad664 := (by injection e664); (try simp only [show (4 : Int).toNat = 4 from rfl, Nat.reduceMul, Nat.reduceEqDiff, Go.Addr.add, ↓reduceIte] at hx664_0); have qi664 : (4 < t643.length) = True := eq_true (by omega); (try rw [show ((4 : Int)).toNat = 4 from rfl] at hx664_0); replace p664 := eq_true p664; replace q664 := eq_true q664; have p666 : 0 ≤ (3 : Int) := (by omega); have q666 : 3 < (t643.length : Int) := oA; obtain ⟨ad666, e666, hx666_0⟩ := Kd.at_int (Kd.R_reads' HO_7.out).2.2 3 p666 q666; obtain rfl : ad657 = ad666 := (by injection e666); (try simp only [show (3 : Int).toNat = 3 from rfl, Nat.reduceMul, Nat.reduceEqDiff, Go.Addr.add, ↓reduceIte] at hx666_0); have qi666 : (3 < t643.length) = True := eq_true (by omega); (try rw [show ((3 : Int)).toNat = 3 from rfl] at hx666_0); replace p666 := eq_true p666; replace q666 := eq_true q666
                     refine start_ (n := 56) (S := fun w' => w'.cell? ⟨gb642, 0, none⟩ = some (.slice Ao12 t633.length co12) ∧ w'.cell? ⟨gb642, 1, none⟩ = some (.slice Ao14 t636.length co14) ∧ w'.cell? ⟨ad657.block, ad657.off + 2, none⟩ = some (.int .i64 (rd t643 2)) ∧ w'.cell? ⟨ad657.block, ad657.off + 3, none⟩ = some (.int .i64 (rd t643 3)) ∧ w'.cell? ad657 = some (.int .i64 (rd t643 0)) ∧ w'.cell? ad660 = some (.int .i64 (rd t653 0)) ∧ w'.cell? ⟨ad657.block, ad657.off + 1, none⟩ = some (.int .i64 (rd t643 1)) ∧ w'.cell? ⟨ad657.block, ad657.off + 4, none⟩ = some (.int .i64 (rd t643 4)) ∧ w'.cell? ⟨ad657.block, ad657.off + 4, none⟩ = some (.int .i64 (rd t643 4)) ∧ w'.cell? ⟨ad657.block, ad657.off + 4, none⟩ = some (.int .i64 (rd t643 4)) ∧ w'.cell? ⟨ad657.block, ad657.off + 3, none⟩ = some (.int .i64 (rd t643 3))) (ds := []) (laws_FnChoiceCounts_up [(0, some 70), (1, some 71), (2, some 72), (3, some 73), (4, some 74), (6, some 76), (7, some 77), (10, some 80), (11, some 81), (5, some 75), (8, some 78), (9, some 79), (12, some 82), (13, some 83), (14, some 84), (15, some 85), (16, some 86), (19, some 89), (20, some 90), (23, some 93), (24, some 94), (26, some 96), (27, some 97), (30, some 100), (31, some 101), (17, some 87), (18, some 88), (21, some 91), (22, some 92), (25, some 95), (28, some 98), (29, some 99), (32, some 102), (33, some 103), (34, some 104), (35, some 105), (36, some 106), (37, some 107), (38, some 108), (39, some 109), (40, some 110), (41, some 111), (42, some 112), (43, some 113), (44, some 114), (45, some 115), (46, some 116), (47, some 117), (48, some 118), (49, some 119), (50, some 120), (51, some 121), (52, some 122), (53, some 123), (54, some 124), (55, some 125)] 56) (by as_aux_lemma => kernel_rfl) rfl rfl ⟨(blk_cell BK642.out 0).trans rfl, (blk_cell BK642.out 1).trans rfl, hx657_0, hx658_0, hx659_0, hx660_0, hx661_0, hx662_0, hx663_0, hx664_0, hx666_0⟩ (fun hHeld => ?_); refine with_tabW laws_FnChoiceCounts.tab9 laws_FnChoiceCounts.bits9 (fun HT_ HW_ => ?_)
                     generalize w34.drew = w54 at HO_6 HO_7 HO_9 HO_Z0 HO_Z1 HO655 BK642 HB hx657_0 hx658_0 hx659_0 hx660_0 hx661_0 hx662_0 hx663_0 hx664_0 hx666_0 hHeld ⊢
                     repeat (first | (refine laws_FnChoiceCounts_uP rfl rfl (any_of HT_.out (by as_aux_lemma => kernel_rfl)) (fun _ _ _ h => h) (by rfl) (v := ?_) (a' := ?_) ?_ ?_ ?_; rotate_left; (· intro w'; go_simp; with_reducible rfl); rotate_left; (· simp only [Act.put, List.setIfInBounds_toArray, List.set_cons_zero, List.set_cons_succ, i64_w, i32_w]; rfl)) | (refine laws_FnChoiceCounts_uT rfl rfl (take_ofW HT_.out HW_.out (by as_aux_lemma => kernel_rfl)) (fun _ _ _ h => h) (by rfl) (v := ?_) (a' := ?_) ?_ hHeld ?_ ?_; rotate_left; (· rintro w' ⟨s0, s1, s2, s3, s4, s5, s6, s7, s8, s9, s10⟩; go_simp; with_reducible rfl); rotate_left; (· simp only [Act.put, List.setIfInBounds_toArray, List.set_cons_zero, List.set_cons_succ, i64_w, i32_w]; rfl)))
                     refine laws_FnChoiceCounts_uO rfl rfl (one_of HT_.out (by as_aux_lemma => kernel_rfl)) (by decide) (fun K hK => ?_)
                     refine goes_ Try.func22 (by kernel_rfl) rfl #[.agg #[.slice Ao12 t633.length co12, .slice Ao14 t636.length co14]] (by rfl) rfl rfl (by (try simp only [List.map_toArray, List.map_cons, List.map_nil]); first | done | rfl | (simp only [List.length_drop, List.length_take]; rfl)) ?_
                     with_reducible refine (impl_MapGenus.calls kj8 _ _ t633 _ _ t636 t665 _ ?side1 ?side2 ?side3 ?side4 A48.out).mono ?_
                     (case side1 => exact cU ((Kd.Q_reads' HO_Z0.out).2.2))
                     (case side2 => exact (Kd.Q_reads' HO_Z0.out).2.1)
                     (case side3 => exact cU ((Kd.R_reads' HO_Z1.out).2.2))
                     (case side4 => exact (Kd.R_reads' HO_Z1.out).2.1)
                     rintro e w57 ⟨rfl, hb⟩
                     have HS2_ := (hb.cell (World.block_lt_of_cell? _ _ (hHeld.2.2.1))).trans (hHeld.2.2.1); have HS3_ := (hb.cell (World.block_lt_of_cell? _ _ (hHeld.2.2.2.1))).trans (hHeld.2.2.2.1); have HS4_ := (hb.cell (World.block_lt_of_cell? _ _ (hHeld.2.2.2.2.1))).trans (hHeld.2.2.2.2.1); have HS5_ := (hb.cell (World.block_lt_of_cell? _ _ (hHeld.2.2.2.2.2.1))).trans (hHeld.2.2.2.2.2.1); have HS6_ := (hb.cell (World.block_lt_of_cell? _ _ (hHeld.2.2.2.2.2.2.1))).trans (hHeld.2.2.2.2.2.2.1); have HS7_ := (hb.cell (World.block_lt_of_cell? _ _ (hHeld.2.2.2.2.2.2.2.1))).trans (hHeld.2.2.2.2.2.2.2.1); have HS8_ := (hb.cell (World.block_lt_of_cell? _ _ (hHeld.2.2.2.2.2.2.2.2.1))).trans (hHeld.2.2.2.2.2.2.2.2.1); have HS9_ := (hb.cell (World.block_lt_of_cell? _ _ (hHeld.2.2.2.2.2.2.2.2.2.1))).trans (hHeld.2.2.2.2.2.2.2.2.2.1); have HS10_ := (hb.cell (World.block_lt_of_cell? _ _ (hHeld.2.2.2.2.2.2.2.2.2.2))).trans (hHeld.2.2.2.2.2.2.2.2.2.2)
                     refine ⟨_, rfl, ?_⟩
                     have n0 := Az (Kd.R_below (rU HO_6.out) hb); have n1 := Az (Kd.R_below (rU HO_7.out) hb); have n2 := Az (Kd.R_below (rU HO_9.out) hb); have n3 := Az (Kd.Q_below (qU HO_Z0.out) hb); have n4 := Az (Kd.R_below (rU HO_Z1.out) hb); have n5 := Az (Kd.R_below (rU HO655.out) hb); have n6 := Az (blk_below (g := gb642) (o := .cells #[.slice Ao12 t633.length co12, .slice Ao14 t636.length co14] 25 (0, 0)) (kU BK642.out) hb); have n7 := Az (below_step (bU1 HB.out GE642.out) hb); clear HO_6 HO_7 HO_9 HO_Z0 HO_Z1 HO655 BK642 HB; have HO_6 := n0; have HO_7 := n1; have HO_9 := n2; have HO_Z0 := n3; have HO_Z1 := n4; have HO655 := n5; have BK642 := n6; have HB := n7; clear n0 n1 n2 n3 n4 n5 n6 n7; (try clear hb); (try clear hb2); (try clear hk); (try clear hi)
                     refine hK.out _ _ ⟨(blk_cell BK642.out 0).trans rfl, (blk_cell BK642.out 1).trans rfl, HS2_, HS3_, HS4_, HS5_, HS6_, HS7_, HS8_, HS9_, HS10_⟩ (fun hHeld => ?_)
                     clear hK K
                     refine norm_ (a' := ?_) ?_ ?_
                     rotate_left
                     ·
                      show Act.put _ (some 117) _ = _
                      simp only [Act.put, List.setIfInBounds_toArray, List.set_cons_zero, List.set_cons_succ, i64_w, i32_w]
                      rfl
                     repeat (first | (refine laws_FnChoiceCounts_uP rfl rfl (any_of HT_.out (by as_aux_lemma => kernel_rfl)) (fun _ _ _ h => h) (by rfl) (v := ?_) (a' := ?_) ?_ ?_ ?_; rotate_left; (· intro w'; go_simp; with_reducible rfl); rotate_left; (· simp only [Act.put, List.setIfInBounds_toArray, List.set_cons_zero, List.set_cons_succ, i64_w, i32_w]; rfl)) | (refine laws_FnChoiceCounts_uT rfl rfl (take_ofW HT_.out HW_.out (by as_aux_lemma => kernel_rfl)) (fun _ _ _ h => h) (by rfl) (v := ?_) (a' := ?_) ?_ hHeld ?_ ?_; rotate_left; (· rintro w' ⟨s0, s1, s2, s3, s4, s5, s6, s7, s8, s9, s10⟩; go_simp; with_reducible rfl); rotate_left; (· simp only [Act.put, List.setIfInBounds_toArray, List.set_cons_zero, List.set_cons_succ, i64_w, i32_w]; rfl)))
                     refine done_ (done_of HT_.out (by as_aux_lemma => kernel_rfl)) ?_
                     try go_wp2
                     go_meet
                     case rel => exact ⟨_, (decide ((rd t643 3) < 0)), rS, H', ⟨by have := HJ2.out; have := HJ8.out; first | omega | exact Nat.le_refl _⟩, ⟨by (with_reducible repeat (first | apply Kd.R_alloc | apply Kd.R_drewN | apply Kd.R_drew)); exact Kd.R_mono HO_6.out (fun _ hk => ⟨hk.1.1, ⟨hk.2, ⟨hk.1.2.2.1, hk.1.2.2.2⟩⟩⟩)⟩, ⟨by (with_reducible repeat (first | apply Kd.R_alloc | apply Kd.R_drewN | apply Kd.R_drew)); exact Kd.R_mono HO_7.out (fun _ hk => ⟨hk.1.1, ⟨hk.2, ⟨hk.1.2.2.1, hk.1.2.2.2⟩⟩⟩)⟩, ⟨by (with_reducible repeat (first | apply Kd.R_alloc | apply Kd.R_drewN | apply Kd.R_drew)); exact Kd.R_mono HO655.out (fun _ hk => ⟨hk.1.1.1.1.2, ⟨hk.1.1.1.2, ⟨hk.1.2, hk.2⟩⟩⟩)⟩, ⟨by (with_reducible repeat (first | apply Kd.Q_alloc | apply Kd.Q_drewN | apply Kd.Q_drew)); exact Kd.Q_mono HO_Z0.out (fun _ hk => ⟨hk.1.1, ⟨hk.1.2.1, ⟨hk.2, hk.1.2.2.2⟩⟩⟩)⟩, ⟨by (with_reducible repeat (first | apply Kd.R_alloc | apply Kd.R_drewN | apply Kd.R_drew)); exact Kd.R_mono HO_Z1.out (fun _ hk => ⟨hk.1.1, ⟨hk.1.2.1, ⟨hk.2, hk.1.2.2.2⟩⟩⟩)⟩, ⟨kU BK642.out⟩, ⟨bU1 HB.out GE642.out⟩⟩
                  ·
                   rw [if_neg c43] at H; have c43b0 := beq_eq_false_iff_ne.mpr c43; have c43b1 := bne_iff_ne.mpr c43; have H' := Az H; clear H
                   try go_wp2
                   have n0 := Az (Kd.R_drew HO_6.out); have n1 := Az (Kd.R_drew HO_7.out); have n2 := Az (Kd.R_drew HO_9.out); have n3 := Az (Kd.Q_drew HO_Z0.out); have n4 := Az (Kd.R_drew HO_Z1.out); have n5 := Az (Kd.R_drew HO655.out); have n6 := Az (blk_drew BK642.out); have n7 := Az (below_drew1 HB.out); clear HO_6 HO_7 HO_9 HO_Z0 HO_Z1 HO655 BK642 HB; have HO_6 := n0; have HO_7 := n1; have HO_9 := n2; have HO_Z0 := n3; have HO_Z1 := n4; have HO655 := n5; have BK642 := n6; have HB := n7; clear n0 n1 n2 n3 n4 n5 n6 n7; obtain ⟨Ao59, co59, eo59⟩ := Kd.R_slice HO_7.out; (first | subst eo59 | (injection eo59 with f1_ f2_ f3_; have f4_ := f1_.symm; have f5_ := f3_.symm; clear f1_ f2_ f3_; subst f4_; subst f5_)); have p657 : 0 ≤ (2 : Int) := (by omega); have q657 : 2 < (t643.length : Int) := oA; obtain ⟨ad657, e657, hx657_0⟩ := Kd.at_int (Kd.R_reads' HO_7.out).2.2 2 p657 q657
                   cases e657
                   (try simp only [show (2 : Int).toNat = 2 from rfl, Nat.reduceMul, Nat.reduceEqDiff, Go.Addr.add, ↓reduceIte] at hx657_0); have qi657 : (2 < t643.length) = True := eq_true (by omega); (try rw [show ((2 : Int)).toNat = 2 from rfl] at hx657_0); replace p657 := eq_true p657; replace q657 := eq_true q657; have p658 : 0 ≤ (3 : Int) := (by omega); have q658 : 3 < (t643.length : Int) := oA; obtain ⟨ad658, e658, hx658_0⟩ := Kd.at_int (Kd.R_reads' HO_7.out).2.2 3 p658 q658; obtain rfl : ad657 = ad658 := (by injection e658); (try simp only [show (3 : Int).toNat = 3 from rfl, Nat.reduceMul, Nat.reduceEqDiff, Go.Addr.add, ↓reduceIte] at hx658_0); have qi658 : (3 < t643.length) = True := eq_true (by omega); (try rw [show ((3 : Int)).toNat = 3 from rfl] at hx658_0); replace p658 := eq_true p658; replace q658 := eq_true q658; have p659 : 0 ≤ (0 : Int) := (by omega); have q659 : 0 < (t643.length : Int) := oA; obtain ⟨ad659, e659, hx659_0⟩ := Kd.at_int (Kd.R_reads' HO_7.out).2.2 0 p659 q659; obtain rfl : ad657 = ad659 := (by injection e659); have qi659 : (0 < t643.length) = True := eq_true (by omega); (try rw [show ((0 : Int)).toNat = 0 from rfl] at hx659_0); (try rw [Addr.add_zero'] at hx659_0); replace p659 := eq_true p659; replace q659 := eq_true q659; obtain ⟨Ao60, co60, eo60⟩ := Kd.R_slice HO655.out; (first | subst eo60 | (injection eo60 with f1_ f2_ f3_; have f4_ := f1_.symm; have f5_ := f3_.symm; clear f1_ f2_ f3_; subst f4_; subst f5_)); have p660 : 0 ≤ (0 : Int) := (by omega); have q660 : 0 < (t653.length : Int) := oA; obtain ⟨ad660, e660, hx660_0⟩ := Kd.at_int (Kd.R_reads' HO655.out).2.2 0 p660 q660
                   cases e660
                   have qi660 : (0 < t653.length) = True := eq_true (by omega); (try rw [show ((0 : Int)).toNat = 0 from rfl] at hx660_0); (try rw [Addr.add_zero'] at hx660_0); replace p660 := eq_true p660; replace q660 := eq_true q660; have p661 : 0 ≤ (1 : Int) := (by omega); have q661 : 1 < (t643.length : Int) := oA; obtain ⟨ad661, e661, hx661_0⟩ := Kd.at_int (Kd.R_reads' HO_7.out).2.2 1 p661 q661; obtain rfl : ad657 = ad661 := (by injection e661); (try simp only [show (1 : Int).toNat = 1 from rfl, Nat.reduceMul, Nat.reduceEqDiff, Go.Addr.add, ↓reduceIte] at hx661_0); have qi661 : (1 < t643.length) = True := eq_true (by omega); (try rw [show ((1 : Int)).toNat = 1 from rfl] at hx661_0); replace p661 := eq_true p661; replace q661 := eq_true q661; have p662 : 0 ≤ (4 : Int) := (by omega); have q662 : 4 < (t643.length : Int) := oA; obtain ⟨ad662, e662, hx662_0⟩ := Kd.at_int (Kd.R_reads' HO_7.out).2.2 4 p662 q662; obtain rfl : ad657 = ad662 := (by injection e662); (try simp only [show (4 : Int).toNat = 4 from rfl, Nat.reduceMul, Nat.reduceEqDiff, Go.Addr.add, ↓reduceIte] at hx662_0); have qi662 : (4 < t643.length) = True := eq_true (by omega); (try rw [show ((4 : Int)).toNat = 4 from rfl] at hx662_0); replace p662 := eq_true p662; replace q662 := eq_true q662
                   refine start_ (n := 56) (S := fun w' => w'.cell? ⟨ad657.block, ad657.off + 2, none⟩ = some (.int .i64 (rd t643 2)) ∧ w'.cell? ⟨ad657.block, ad657.off + 3, none⟩ = some (.int .i64 (rd t643 3)) ∧ w'.cell? ad657 = some (.int .i64 (rd t643 0)) ∧ w'.cell? ad660 = some (.int .i64 (rd t653 0)) ∧ w'.cell? ⟨ad657.block, ad657.off + 1, none⟩ = some (.int .i64 (rd t643 1)) ∧ w'.cell? ⟨ad657.block, ad657.off + 4, none⟩ = some (.int .i64 (rd t643 4))) (ds := []) (laws_FnChoiceCounts_up [(0, some 70), (1, some 71), (2, some 72), (3, some 73), (4, some 74), (6, some 76), (7, some 77), (10, some 80), (11, some 81), (5, some 75), (8, some 78), (9, some 79), (12, some 82), (13, some 83), (14, some 84), (15, some 85), (16, some 86), (19, some 89), (20, some 90), (23, some 93), (24, some 94), (26, some 96), (27, some 97), (30, some 100), (31, some 101), (17, some 87), (18, some 88), (21, some 91), (22, some 92), (25, some 95), (28, some 98), (29, some 99), (32, some 102), (33, some 103), (34, some 104), (35, some 105), (36, some 106), (37, some 107), (38, some 108), (39, some 109), (40, some 110), (41, some 111), (42, some 112), (43, some 113), (44, some 114), (45, some 115), (46, some 116), (47, some 117), (48, some 118), (49, some 119), (50, some 120), (51, some 121), (52, some 122), (53, some 123), (54, some 124), (55, some 125)] 56) (by as_aux_lemma => kernel_rfl) rfl rfl ⟨hx657_0, hx658_0, hx659_0, hx660_0, hx661_0, hx662_0⟩ (fun hHeld => ?_); refine with_tabW laws_FnChoiceCounts.tab9 laws_FnChoiceCounts.bits9 (fun HT_ HW_ => ?_)
                   generalize w34.drew = w58 at HO_6 HO_7 HO_9 HO_Z0 HO_Z1 HO655 BK642 HB hx657_0 hx658_0 hx659_0 hx660_0 hx661_0 hx662_0 hHeld ⊢
                   repeat (first | (refine laws_FnChoiceCounts_uS rfl rfl (any_of HT_.out (by as_aux_lemma => kernel_rfl)) (fun _ _ _ h => h) (by rfl) (a' := ?_) ?_ ?_; rotate_left; (· simp only [Act.put, List.setIfInBounds_toArray, List.set_cons_zero, List.set_cons_succ, i64_w, i32_w]; rfl)) | (refine laws_FnChoiceCounts_uP rfl rfl (any_of HT_.out (by as_aux_lemma => kernel_rfl)) (fun _ _ _ h => h) (by rfl) (v := ?_) (a' := ?_) ?_ ?_ ?_; rotate_left; (· intro w'; go_simp; with_reducible rfl); rotate_left; (· simp only [Act.put, List.setIfInBounds_toArray, List.set_cons_zero, List.set_cons_succ, i64_w, i32_w]; rfl)) | (refine laws_FnChoiceCounts_uT rfl rfl (take_ofW HT_.out HW_.out (by as_aux_lemma => kernel_rfl)) (fun _ _ _ h => h) (by rfl) (v := ?_) (a' := ?_) ?_ hHeld ?_ ?_; rotate_left; (· rintro w' ⟨s0, s1, s2, s3, s4, s5⟩; go_simp; with_reducible rfl); rotate_left; (· simp only [Act.put, List.setIfInBounds_toArray, List.set_cons_zero, List.set_cons_succ, i64_w, i32_w]; rfl)))
                   refine done_ (done_of HT_.out (by as_aux_lemma => kernel_rfl)) ?_
                   try go_wp2
                   go_meet
                   case rel => exact ⟨_, (true), rS, H', ⟨by have := HJ2.out; have := HJ8.out; first | omega | exact Nat.le_refl _⟩, ⟨by (with_reducible repeat (first | apply Kd.R_alloc | apply Kd.R_drewN | apply Kd.R_drew)); exact Kd.R_mono HO_6.out (fun _ hk => ⟨hk.1.1, ⟨hk.2, ⟨hk.1.2.2.1, hk.1.2.2.2⟩⟩⟩)⟩, ⟨by (with_reducible repeat (first | apply Kd.R_alloc | apply Kd.R_drewN | apply Kd.R_drew)); exact Kd.R_mono HO_7.out (fun _ hk => ⟨hk.1.1, ⟨hk.2, ⟨hk.1.2.2.1, hk.1.2.2.2⟩⟩⟩)⟩, ⟨by (with_reducible repeat (first | apply Kd.R_alloc | apply Kd.R_drewN | apply Kd.R_drew)); exact Kd.R_mono HO655.out (fun _ hk => ⟨hk.1.1.1.1.2, ⟨hk.1.1.1.2, ⟨hk.1.2, hk.2⟩⟩⟩)⟩, ⟨by (with_reducible repeat (first | apply Kd.Q_alloc | apply Kd.Q_drewN | apply Kd.Q_drew)); exact Kd.Q_mono HO_Z0.out (fun _ hk => ⟨hk.1.1, ⟨hk.1.2.1, ⟨hk.2, hk.1.2.2.2⟩⟩⟩)⟩, ⟨by (with_reducible repeat (first | apply Kd.R_alloc | apply Kd.R_drewN | apply Kd.R_drew)); exact Kd.R_mono HO_Z1.out (fun _ hk => ⟨hk.1.1, ⟨hk.1.2.1, ⟨hk.2, hk.1.2.2.2⟩⟩⟩)⟩, ⟨kU BK642.out⟩, ⟨bU1 HB.out GE642.out⟩⟩
                 ·
                  rw [if_neg c42] at H
                  exact absurd H (by simp)
                ·
                 rw [if_neg c41] at H
                 exact absurd H (by simp)
               ·
                rw [if_neg c40] at H
                exact absurd H (by simp)
              ·
               rw [if_neg c39] at H
               exact absurd H (by simp)
             ·
              rw [if_neg c38] at H; have c38b0 := beq_eq_false_iff_ne.mpr c38; have c38b1 := bne_iff_ne.mpr c38; have H' := Az H; clear H
              try go_wp2
              have n0 := Az (Kd.R_drew HO_6.out); have n1 := Az (Kd.R_drew HO_7.out); have n2 := Az (Kd.R_drew HO_9.out); have n3 := Az (Kd.Q_drew HO_Z0.out); have n4 := Az (Kd.R_drew HO_Z1.out); have n5 := Az (Kd.R_drew HO655.out); have n6 := Az (blk_drew BK642.out); have n7 := Az (below_drew1 HB.out); clear HO_6 HO_7 HO_9 HO_Z0 HO_Z1 HO655 BK642 HB; have HO_6 := n0; have HO_7 := n1; have HO_9 := n2; have HO_Z0 := n3; have HO_Z1 := n4; have HO655 := n5; have BK642 := n6; have HB := n7; clear n0 n1 n2 n3 n4 n5 n6 n7; obtain ⟨Ao62, co62, eo62⟩ := Kd.R_slice HO_7.out; (first | subst eo62 | (injection eo62 with f1_ f2_ f3_; have f4_ := f1_.symm; have f5_ := f3_.symm; clear f1_ f2_ f3_; subst f4_; subst f5_)); have p657 : 0 ≤ (2 : Int) := (by omega); have q657 : 2 < (t643.length : Int) := oA; obtain ⟨ad657, e657, hx657_0⟩ := Kd.at_int (Kd.R_reads' HO_7.out).2.2 2 p657 q657
              cases e657
              (try simp only [show (2 : Int).toNat = 2 from rfl, Nat.reduceMul, Nat.reduceEqDiff, Go.Addr.add, ↓reduceIte] at hx657_0); have qi657 : (2 < t643.length) = True := eq_true (by omega); (try rw [show ((2 : Int)).toNat = 2 from rfl] at hx657_0); replace p657 := eq_true p657; replace q657 := eq_true q657; have p658 : 0 ≤ (3 : Int) := (by omega); have q658 : 3 < (t643.length : Int) := oA; obtain ⟨ad658, e658, hx658_0⟩ := Kd.at_int (Kd.R_reads' HO_7.out).2.2 3 p658 q658; obtain rfl : ad657 = ad658 := (by injection e658); (try simp only [show (3 : Int).toNat = 3 from rfl, Nat.reduceMul, Nat.reduceEqDiff, Go.Addr.add, ↓reduceIte] at hx658_0); have qi658 : (3 < t643.length) = True := eq_true (by omega); (try rw [show ((3 : Int)).toNat = 3 from rfl] at hx658_0); replace p658 := eq_true p658; replace q658 := eq_true q658
              refine start_ (n := 56) (S := fun w' => w'.cell? ⟨ad657.block, ad657.off + 2, none⟩ = some (.int .i64 (rd t643 2)) ∧ w'.cell? ⟨ad657.block, ad657.off + 3, none⟩ = some (.int .i64 (rd t643 3))) (ds := []) (laws_FnChoiceCounts_up [(0, some 70), (1, some 71), (2, some 72), (3, some 73), (4, some 74), (6, some 76), (7, some 77), (10, some 80), (11, some 81), (5, some 75), (8, some 78), (9, some 79), (12, some 82), (13, some 83), (14, some 84), (15, some 85), (16, some 86), (17, some 87), (18, some 88), (19, some 89), (20, some 90), (21, some 91), (22, some 92), (23, some 93), (24, some 94), (25, some 95), (26, some 96), (27, some 97), (28, some 98), (29, some 99), (30, some 100), (31, some 101), (32, some 102), (33, some 103), (34, some 104), (35, some 105), (36, some 106), (37, some 107), (38, some 108), (39, some 109), (40, some 110), (41, some 111), (42, some 112), (43, some 113), (44, some 114), (45, some 115), (46, some 116), (47, some 117), (48, some 118), (49, some 119), (50, some 120), (51, some 121), (52, some 122), (53, some 123), (54, some 124), (55, some 125)] 56) (by as_aux_lemma => kernel_rfl) rfl rfl ⟨hx657_0, hx658_0⟩ (fun hHeld => ?_); refine with_tabW laws_FnChoiceCounts.tab9 laws_FnChoiceCounts.bits9 (fun HT_ HW_ => ?_)
              generalize w34.drew = w61 at HO_6 HO_7 HO_9 HO_Z0 HO_Z1 HO655 BK642 HB hx657_0 hx658_0 hHeld ⊢
              repeat (first | (refine laws_FnChoiceCounts_uS rfl rfl (any_of HT_.out (by as_aux_lemma => kernel_rfl)) (fun _ _ _ h => h) (by rfl) (a' := ?_) ?_ ?_; rotate_left; (· simp only [Act.put, List.setIfInBounds_toArray, List.set_cons_zero, List.set_cons_succ, i64_w, i32_w]; rfl)) | (refine laws_FnChoiceCounts_uP rfl rfl (any_of HT_.out (by as_aux_lemma => kernel_rfl)) (fun _ _ _ h => h) (by rfl) (v := ?_) (a' := ?_) ?_ ?_ ?_; rotate_left; (· intro w'; go_simp; with_reducible rfl); rotate_left; (· simp only [Act.put, List.setIfInBounds_toArray, List.set_cons_zero, List.set_cons_succ, i64_w, i32_w]; rfl)) | (refine laws_FnChoiceCounts_uT rfl rfl (take_ofW HT_.out HW_.out (by as_aux_lemma => kernel_rfl)) (fun _ _ _ h => h) (by rfl) (v := ?_) (a' := ?_) ?_ hHeld ?_ ?_; rotate_left; (· rintro w' ⟨s0, s1⟩; go_simp; with_reducible rfl); rotate_left; (· simp only [Act.put, List.setIfInBounds_toArray, List.set_cons_zero, List.set_cons_succ, i64_w, i32_w]; rfl)))
              refine done_ (done_of HT_.out (by as_aux_lemma => kernel_rfl)) ?_
              try go_wp2
              go_meet
              case rel => exact ⟨_, (true), rS, H', ⟨by have := HJ2.out; have := HJ8.out; first | omega | exact Nat.le_refl _⟩, ⟨by (with_reducible repeat (first | apply Kd.R_alloc | apply Kd.R_drewN | apply Kd.R_drew)); exact Kd.R_mono HO_6.out (fun _ hk => ⟨hk.1.1, ⟨hk.2, ⟨hk.1.2.2.1, hk.1.2.2.2⟩⟩⟩)⟩, ⟨by (with_reducible repeat (first | apply Kd.R_alloc | apply Kd.R_drewN | apply Kd.R_drew)); exact Kd.R_mono HO_7.out (fun _ hk => ⟨hk.1.1, ⟨hk.2, ⟨hk.1.2.2.1, hk.1.2.2.2⟩⟩⟩)⟩, ⟨by (with_reducible repeat (first | apply Kd.R_alloc | apply Kd.R_drewN | apply Kd.R_drew)); exact Kd.R_mono HO655.out (fun _ hk => ⟨hk.1.1.1.1.2, ⟨hk.1.1.1.2, ⟨hk.1.2, hk.2⟩⟩⟩)⟩, ⟨by (with_reducible repeat (first | apply Kd.Q_alloc | apply Kd.Q_drewN | apply Kd.Q_drew)); exact Kd.Q_mono HO_Z0.out (fun _ hk => ⟨hk.1.1, ⟨hk.1.2.1, ⟨hk.2, hk.1.2.2.2⟩⟩⟩)⟩, ⟨by (with_reducible repeat (first | apply Kd.R_alloc | apply Kd.R_drewN | apply Kd.R_drew)); exact Kd.R_mono HO_Z1.out (fun _ hk => ⟨hk.1.1, ⟨hk.1.2.1, ⟨hk.2, hk.1.2.2.2⟩⟩⟩)⟩, ⟨kU BK642.out⟩, ⟨bU1 HB.out GE642.out⟩⟩
            ·
             rw [if_neg c37] at H
             exact absurd H (by simp)
           ·
            rw [if_neg c36] at H
            exact absurd H (by simp)
          ·
           replace c35 := Bool.eq_false_iff.mpr c35; subst c35
           have H1 : (laws_FnChoiceCounts.j2 kj8 l1 t639 t643 t653 true t633 t636) = some r := by rw [if_neg (show ¬ (false = true) by decide)] at H; exact H
           clear H; have H := H1; clear H1; have H' := Az H; clear H
           try go_wp2
           have n0 := Az (Kd.R_drew HO_6.out); have n1 := Az (Kd.R_drew HO_7.out); have n2 := Az (Kd.R_drew HO_9.out); have n3 := Az (Kd.Q_drew HO_Z0.out); have n4 := Az (Kd.R_drew HO_Z1.out); have n5 := Az (Kd.R_drew HO655.out); have n6 := Az (blk_drew BK642.out); have n7 := Az (below_drew1 HB.out); clear HO_6 HO_7 HO_9 HO_Z0 HO_Z1 HO655 BK642 HB; have HO_6 := n0; have HO_7 := n1; have HO_9 := n2; have HO_Z0 := n3; have HO_Z1 := n4; have HO655 := n5; have BK642 := n6; have HB := n7; clear n0 n1 n2 n3 n4 n5 n6 n7
           refine start_ (n := 56) (S := fun w' => True) (ds := []) (laws_FnChoiceCounts_up [(0, some 70), (1, some 71), (2, some 72), (3, some 73), (4, some 74), (5, some 75), (6, some 76), (7, some 77), (8, some 78), (9, some 79), (10, some 80), (11, some 81), (12, some 82), (13, some 83), (14, some 84), (15, some 85), (16, some 86), (17, some 87), (18, some 88), (19, some 89), (20, some 90), (21, some 91), (22, some 92), (23, some 93), (24, some 94), (25, some 95), (26, some 96), (27, some 97), (28, some 98), (29, some 99), (30, some 100), (31, some 101), (32, some 102), (33, some 103), (34, some 104), (35, some 105), (36, some 106), (37, some 107), (38, some 108), (39, some 109), (40, some 110), (41, some 111), (42, some 112), (43, some 113), (44, some 114), (45, some 115), (46, some 116), (47, some 117), (48, some 118), (49, some 119), (50, some 120), (51, some 121), (52, some 122), (53, some 123), (54, some 124), (55, some 125)] 56) (by as_aux_lemma => kernel_rfl) rfl rfl trivial (fun hHeld => ?_); refine with_tabW laws_FnChoiceCounts.tab9 laws_FnChoiceCounts.bits9 (fun HT_ HW_ => ?_)
           generalize w34.drew = w63 at HO_6 HO_7 HO_9 HO_Z0 HO_Z1 HO655 BK642 HB hHeld ⊢
           repeat (first | (refine laws_FnChoiceCounts_uS rfl rfl (any_of HT_.out (by as_aux_lemma => kernel_rfl)) (fun _ _ _ h => h) (by rfl) (a' := ?_) ?_ ?_; rotate_left; (· simp only [Act.put, List.setIfInBounds_toArray, List.set_cons_zero, List.set_cons_succ, i64_w, i32_w]; rfl)) | (refine laws_FnChoiceCounts_uP rfl rfl (any_of HT_.out (by as_aux_lemma => kernel_rfl)) (fun _ _ _ h => h) (by rfl) (v := ?_) (a' := ?_) ?_ ?_ ?_; rotate_left; (· intro w'; go_simp; with_reducible rfl); rotate_left; (· simp only [Act.put, List.setIfInBounds_toArray, List.set_cons_zero, List.set_cons_succ, i64_w, i32_w]; rfl)))
           refine done_ (done_of HT_.out (by as_aux_lemma => kernel_rfl)) ?_
           try go_wp2
           go_meet
           case rel => exact ⟨_, (true), rS, H', ⟨by have := HJ2.out; have := HJ8.out; first | omega | exact Nat.le_refl _⟩, ⟨by (with_reducible repeat (first | apply Kd.R_alloc | apply Kd.R_drewN | apply Kd.R_drew)); exact Kd.R_mono HO_6.out (fun _ hk => ⟨hk.1.1, ⟨hk.2, ⟨hk.1.2.2.1, hk.1.2.2.2⟩⟩⟩)⟩, ⟨by (with_reducible repeat (first | apply Kd.R_alloc | apply Kd.R_drewN | apply Kd.R_drew)); exact Kd.R_mono HO_7.out (fun _ hk => ⟨hk.1.1, ⟨hk.2, ⟨hk.1.2.2.1, hk.1.2.2.2⟩⟩⟩)⟩, ⟨by (with_reducible repeat (first | apply Kd.R_alloc | apply Kd.R_drewN | apply Kd.R_drew)); exact Kd.R_mono HO655.out (fun _ hk => ⟨hk.1.1.1.1.2, ⟨hk.1.1.1.2, ⟨hk.1.2, hk.2⟩⟩⟩)⟩, ⟨by (with_reducible repeat (first | apply Kd.Q_alloc | apply Kd.Q_drewN | apply Kd.Q_drew)); exact Kd.Q_mono HO_Z0.out (fun _ hk => ⟨hk.1.1, ⟨hk.1.2.1, ⟨hk.2, hk.1.2.2.2⟩⟩⟩)⟩, ⟨by (with_reducible repeat (first | apply Kd.R_alloc | apply Kd.R_drewN | apply Kd.R_drew)); exact Kd.R_mono HO_Z1.out (fun _ hk => ⟨hk.1.1, ⟨hk.1.2.1, ⟨hk.2, hk.1.2.2.2⟩⟩⟩)⟩, ⟨kU BK642.out⟩, ⟨bU1 HB.out GE642.out⟩⟩
         case rest =>
          as_aux_lemma =>
           clear HC32; (try clear p2); (try clear c3); (try clear c35); (try clear c36); (try clear c37); obtain ⟨kq, x125_31, rfl, HA, HJ31, HO_6, HO_7, HO_11, HO_Z0, HO_Z1, BK642, HB⟩ := hcut
           cases kq with
           | zero => exact absurd HA.out (by simp [laws_FnChoiceCounts.j2])
           | succ kj31 =>
            have H := HA.out; clear HA; simp only [laws_FnChoiceCounts.j2] at H
            by_cases c64 : x125_31 = true
            ·
             subst c64
             have H1 : (some false) = some r := by rw [if_pos rfl] at H; exact H
             clear H; have H := H1; clear H1; obtain rfl := Option.some.inj H
             go_wp2
             go_ret
             exact ⟨rE, bU1 HB.out GE642.out⟩
            ·
             replace c64 := Bool.eq_false_iff.mpr c64; subst c64
             have H1 : (if 1 < (t653.length : Int) then (if (rd t653 1) = 0 then (none) else ((laws_hasInt.f kj31 t639 ((l1.length : Int) % (rd t653 1))).bind fun t668 => (if t668 = true then (some true) else (laws_FnChoiceCounts.l0 kj31 t639 t643 t653 ((l1.length : Int) % (rd t653 1)) (([] : List Int)) 0 t633 t636)))) else (none)) = some r := by rw [if_neg (show ¬ (false = true) by decide)] at H; exact H
             clear H; have H := H1; clear H1
             by_cases c65 : 1 < (t653.length : Int)
             ·
              rw [if_pos c65] at H; have c65b0 := decide_eq_true c65; have c65b1 : decide (1 < t653.length) = true := decide_eq_true (by omega); clear c65
              by_cases c66 : (rd t653 1) = 0
              ·
               rw [if_pos c66] at H
               exact absurd H (by simp)
              ·
               rw [if_neg c66] at H; have c66b0 := beq_eq_false_iff_ne.mpr c66; have c66b1 := bne_iff_ne.mpr c66; replace H := Option.bind_eq_some_iff.mp H; obtain ⟨t668, A670, H⟩ := H; replace H : (if t668 = true then (some true) else (laws_FnChoiceCounts.l0 kj31 t639 t643 t653 ((l1.length : Int) % (rd t653 1)) (([] : List Int)) 0 t633 t636)) = some r := H; have A67 := Az A670; clear A670
               by_cases c68 : t668 = true
               ·
                subst c68
                have H1 : (some true) = some r := by rw [if_pos rfl] at H; exact H
                clear H; have H := H1; clear H1; obtain rfl := Option.some.inj H; obtain ⟨Ao69, co69, eo69⟩ := Kd.R_slice HO_11.out; subst eo69; have p667 : 0 ≤ (1 : Int) := (by omega); have q667 : 1 < (t653.length : Int) := oA; obtain ⟨ad667, e667, hx667_0⟩ := Kd.at_int (Kd.R_reads' HO_11.out).2.2 1 p667 q667
                cases e667
                (try simp only [show (1 : Int).toNat = 1 from rfl, Nat.reduceMul, Nat.reduceEqDiff, Go.Addr.add, ↓reduceIte] at hx667_0); have qi667 : (1 < t653.length) = True := eq_true (by omega); (try rw [show ((1 : Int)).toNat = 1 from rfl] at hx667_0); replace p667 := eq_true p667; replace q667 := eq_true q667
                go_wp2_with (first | ((with_reducible refine gate_callee (f := 33) rfl ?_); refine goesL_ (some 134) rfl rfl Try.func33 (by kernel_rfl) rfl #[.slice Ao15 t639.length co15, .int .i64 ((l1.length : Int) % (rd t653 1))] rfl (by (try simp only [List.map_toArray, List.map_cons, List.map_nil]); first | done | rfl | (simp only [List.length_drop, List.length_take]; rfl)) ?_; (with_reducible refine (laws_hasInt.calls kj31 _ _ t639 ((l1.length : Int) % (rd t653 1)) true _ ?side1 ?side2 A67.out).mono ?_); (case side1 => exact cU ((Kd.R_reads' HO_6.out).2.2)); (case side2 => exact (Kd.R_reads' HO_6.out).2.1); rintro e w' ⟨rfl, ⟨nd, rfl⟩⟩; refine ⟨_, rfl, ?_⟩))
                go_ret
                exact ⟨rE, bU1 HB.out GE642.out⟩
               ·
                replace c68 := Bool.eq_false_iff.mpr c68; subst c68
                have H1 : (laws_FnChoiceCounts.l0 kj31 t639 t643 t653 ((l1.length : Int) % (rd t653 1)) (([] : List Int)) 0 t633 t636) = some r := by rw [if_neg (show ¬ (false = true) by decide)] at H; exact H
                clear H; have H := H1; clear H1; obtain ⟨y669, hy669⟩ : ∃ y_ : List Int, y_ = (([] : List Int)) := ⟨_, rfl⟩; replace H : (laws_FnChoiceCounts.l0 kj31 t639 t643 t653 ((l1.length : Int) % (rd t653 1)) y669 0 t633 t636) = some r := hR hy669 H; have Ny669 := Az hy669; clear hy669; have H' := Az H; clear H; obtain ⟨Ao70, co70, eo70⟩ := Kd.R_slice HO_11.out; subst eo70; have p667 : 0 ≤ (1 : Int) := (by omega); have q667 : 1 < (t653.length : Int) := oA; obtain ⟨ad667, e667, hx667_0⟩ := Kd.at_int (Kd.R_reads' HO_11.out).2.2 1 p667 q667
                cases e667
                (try simp only [show (1 : Int).toNat = 1 from rfl, Nat.reduceMul, Nat.reduceEqDiff, Go.Addr.add, ↓reduceIte] at hx667_0); have qi667 : (1 < t653.length) = True := eq_true (by omega); (try rw [show ((1 : Int)).toNat = 1 from rfl] at hx667_0); replace p667 := eq_true p667; replace q667 := eq_true q667
                go_wp2_with (first | ((with_reducible refine gate_callee (f := 33) rfl ?_); refine goesL_ (some 134) rfl rfl Try.func33 (by kernel_rfl) rfl #[.slice Ao15 t639.length co15, .int .i64 ((l1.length : Int) % (rd t653 1))] rfl (by (try simp only [List.map_toArray, List.map_cons, List.map_nil]); first | done | rfl | (simp only [List.length_drop, List.length_take]; rfl)) ?_; (with_reducible refine (laws_hasInt.calls kj31 _ _ t639 ((l1.length : Int) % (rd t653 1)) false _ ?side1 ?side2 A67.out).mono ?_); (case side1 => exact cU ((Kd.R_reads' HO_6.out).2.2)); (case side2 => exact (Kd.R_reads' HO_6.out).2.1); rintro e w' ⟨rfl, ⟨nd, rfl⟩⟩; refine ⟨_, rfl, ?_⟩) | ((with_reducible refine gate_dst (N := 135) rfl ?_); (try (refine gate_guard (by rfl) ?_; dsimp only)); refine Kd.R_lit (Kd.int .i64) _ 3 ?hg (N := 135) ?hd (xs := ([] : List Int)) (inner := []) (ok := fun _ => True) (okp := fun _ => True) ?hr ?hp (fun _ hk => hk) trivial (Below.refl _ _) (Nat.le_refl _) (by simp) ?_; (case hd => rfl); (case hg => rfl); (case hr => first | (go_simp; done) | (go_simp; rfl)); (case hp => exact (Reps.none _ _)); intro v670 w71 ho72 hb hg_ hnew_; clear hg_ hnew_; (first | rw [← Ny669.out] at ho72 | (simp only [Int.reduceToNat] at ho72; rw [← Ny669.out] at ho72)); have n0 := Az (Kd.R_elder' (rU HO_6.out) (Kd.R_base ho72) hb); have n1 := Az (Kd.R_elder' (rU HO_7.out) (Kd.R_base ho72) hb); have n2 := Az (Kd.R_elder' (rU HO_11.out) (Kd.R_base ho72) hb); have n3 := Az (Kd.Q_elder' (qU HO_Z0.out) (Kd.R_base ho72) hb); have n4 := Az (Kd.R_elder' (rU HO_Z1.out) (Kd.R_base ho72) hb); have n5 := Az (Kd.R_lower (Kd.R_new' (Kd.R_new' (Kd.R_new' (Kd.R_new' (Kd.R_new' ho72 (Kd.R_lt (rU HO_6.out))) (Kd.R_lt (rU HO_7.out))) (Kd.R_lt (rU HO_11.out))) (Kd.Q_lt (qU HO_Z0.out))) (Kd.R_lt (rU HO_Z1.out))) (below_size (bU1 HB.out GE642.out))); have n6 := Az (blk_below (g := gb642) (o := .cells #[.slice Ao12 t633.length co12, .slice Ao14 t636.length co14] 25 (0, 0)) (kU BK642.out) hb); have n7 := Az (below_step (bU1 HB.out GE642.out) hb); clear HO_6 HO_7 HO_11 HO_Z0 HO_Z1 BK642 HB; have HO_6 := n0; have HO_7 := n1; have HO_11 := n2; have HO_Z0 := n3; have HO_Z1 := n4; have HO671 := n5; have BK642 := n6; have HB := n7; clear n0 n1 n2 n3 n4 n5 n6 n7; clear hb ho72))
                go_loopg [14, 15] kj31 (fun kq v14 v15 w' => ∃ (x14_4 : List Int) (x15_4 : Int), v15 = .int .i64 x15_4 ∧ Aside0 (laws_FnChoiceCounts.l0 kq t639 t643 t653 ((l1.length : Int) % (rd t653 1)) x14_4 x15_4 t633 t636 = some r) ∧ Aside0 (kq ≤ kj31) ∧ Aside0 (Kd.R (Kd.int .i64) 3 w' w.heap.size (fun k_ => some k_ ≠ (v644 : Value).ownBlock ∧ some k_ ≠ ((.slice (some ad667) t653.length co70) : Value).ownBlock ∧ some k_ ≠ (v14 : Value).ownBlock ∧ some k_ ≠ ((.slice Ao12 t633.length co12) : Value).ownBlock ∧ some k_ ≠ ((.slice Ao14 t636.length co14) : Value).ownBlock) (.slice Ao15 t639.length co15) t639) ∧ Aside0 (Kd.R (Kd.int .i64) 3 w' w.heap.size (fun k_ => some k_ ≠ ((.slice Ao15 t639.length co15) : Value).ownBlock ∧ some k_ ≠ ((.slice (some ad667) t653.length co70) : Value).ownBlock ∧ some k_ ≠ (v14 : Value).ownBlock ∧ some k_ ≠ ((.slice Ao12 t633.length co12) : Value).ownBlock ∧ some k_ ≠ ((.slice Ao14 t636.length co14) : Value).ownBlock) v644 t643) ∧ Aside0 (Kd.R (Kd.int .i64) 3 w' w.heap.size (fun k_ => some k_ ≠ ((.slice Ao15 t639.length co15) : Value).ownBlock ∧ some k_ ≠ (v644 : Value).ownBlock ∧ some k_ ≠ (v14 : Value).ownBlock ∧ some k_ ≠ ((.slice Ao12 t633.length co12) : Value).ownBlock ∧ some k_ ≠ ((.slice Ao14 t636.length co14) : Value).ownBlock) (.slice (some ad667) t653.length co70) t653) ∧ Aside0 (Kd.R (Kd.int .i64) 3 w' w.heap.size (fun k_ => some k_ ≠ ((.slice Ao15 t639.length co15) : Value).ownBlock ∧ some k_ ≠ (v644 : Value).ownBlock ∧ some k_ ≠ ((.slice (some ad667) t653.length co70) : Value).ownBlock ∧ some k_ ≠ ((.slice Ao12 t633.length co12) : Value).ownBlock ∧ some k_ ≠ ((.slice Ao14 t636.length co14) : Value).ownBlock) v14 x14_4) ∧ Aside0 (Kd.Q (Kd.int .i64) 3 w' w.heap.size (fun k_ => some k_ ≠ ((.slice Ao15 t639.length co15) : Value).ownBlock ∧ some k_ ≠ (v644 : Value).ownBlock ∧ some k_ ≠ ((.slice (some ad667) t653.length co70) : Value).ownBlock ∧ some k_ ≠ (v14 : Value).ownBlock ∧ some k_ ≠ ((.slice Ao14 t636.length co14) : Value).ownBlock) (.slice Ao12 t633.length co12) t633) ∧ Aside0 (Kd.R (Kd.int .i64) 3 w' w.heap.size (fun k_ => some k_ ≠ ((.slice Ao15 t639.length co15) : Value).ownBlock ∧ some k_ ≠ (v644 : Value).ownBlock ∧ some k_ ≠ ((.slice (some ad667) t653.length co70) : Value).ownBlock ∧ some k_ ≠ (v14 : Value).ownBlock ∧ some k_ ≠ ((.slice Ao12 t633.length co12) : Value).ownBlock) (.slice Ao14 t636.length co14) t636) ∧ Aside0 (w'.heap[gb642]? = some (.cells #[(.slice Ao12 t633.length co12), (.slice Ao14 t636.length co14)] 25 (0, 0))) ∧ Aside0 (Below w.heap.size w w'))
                case atStart => exact ⟨(y669), (0), rS, H', ⟨Nat.le_refl _⟩, ⟨by (with_reducible repeat (first | apply Kd.R_alloc | apply Kd.R_drewN | apply Kd.R_drew)); exact Kd.R_mono HO_6.out (fun _ hk => ⟨hk.1.1, ⟨hk.1.2.1, ⟨hk.2, ⟨hk.1.2.2.1, hk.1.2.2.2⟩⟩⟩⟩)⟩, ⟨by (with_reducible repeat (first | apply Kd.R_alloc | apply Kd.R_drewN | apply Kd.R_drew)); exact Kd.R_mono HO_7.out (fun _ hk => ⟨hk.1.1, ⟨hk.1.2.1, ⟨hk.2, ⟨hk.1.2.2.1, hk.1.2.2.2⟩⟩⟩⟩)⟩, ⟨by (with_reducible repeat (first | apply Kd.R_alloc | apply Kd.R_drewN | apply Kd.R_drew)); exact Kd.R_mono HO_11.out (fun _ hk => ⟨hk.1.1, ⟨hk.1.2.1, ⟨hk.2, ⟨hk.1.2.2.1, hk.1.2.2.2⟩⟩⟩⟩)⟩, ⟨by (with_reducible repeat (first | apply Kd.R_alloc | apply Kd.R_drewN | apply Kd.R_drew)); exact Kd.R_mono HO671.out (fun _ hk => ⟨hk.1.1.1.1.2, ⟨hk.1.1.1.2, ⟨hk.1.1.2, ⟨hk.1.2, hk.2⟩⟩⟩⟩)⟩, ⟨by (with_reducible repeat (first | apply Kd.Q_alloc | apply Kd.Q_drewN | apply Kd.Q_drew)); exact Kd.Q_mono HO_Z0.out (fun _ hk => ⟨hk.1.1, ⟨hk.1.2.1, ⟨hk.1.2.2.1, ⟨hk.2, hk.1.2.2.2⟩⟩⟩⟩)⟩, ⟨by (with_reducible repeat (first | apply Kd.R_alloc | apply Kd.R_drewN | apply Kd.R_drew)); exact Kd.R_mono HO_Z1.out (fun _ hk => ⟨hk.1.1, ⟨hk.1.2.1, ⟨hk.1.2.2.1, ⟨hk.2, hk.1.2.2.2⟩⟩⟩⟩)⟩, ⟨kU BK642.out⟩, ⟨bU1 HB.out GE642.out⟩⟩
                case round =>
                 clear H'; (try clear p2); (try clear c3); (try clear c6); (try clear p6); (try clear q6); (try clear hx6); (try clear qi6); (try clear c33); (try clear c35); (try clear c36); (try clear c37); (try clear c64); (try clear c65); (try clear c65b0); (try clear c65b1); (try clear c66); (try clear c66b0); (try clear c66b1); (try clear p66); (try clear q66); (try clear hx66); (try clear qi66); (try clear c68); (try clear hx667_0); (try clear p2); (try clear p667); (try clear q667); obtain ⟨x14_4, x15_4, rfl, HA, HK4, HO_6, HO_7, HO_11, HO_14, HO_Z0, HO_Z1, BK642, HB⟩ := hrel
                 cases gk with
                 | zero => exact absurd HA.out (by simp [laws_FnChoiceCounts.l0])
                 | succ k4 =>
                  have H := HA.out; clear HA; simp only [laws_FnChoiceCounts.l0] at H
                  by_cases c73 : 1 < (t653.length : Int)
                  ·
                   rw [if_pos c73] at H; have c73b0 := decide_eq_true c73; have c73b1 : decide (1 < t653.length) = true := decide_eq_true (by omega); clear c73
                   by_cases c74 : x15_4 < (rd t653 1)
                   ·
                    rw [if_pos c74] at H; have c74b0 := decide_eq_true c74; clear c74
                    by_cases c75 : x15_4 = ((l1.length : Int) % (rd t653 1))
                    ·
                     rw [if_pos c75] at H; have c75b0 := beq_iff_eq.mpr c75; have c75b1 := bne_eq_false_iff_eq.mpr c75; clear c75
                     by_cases c76 : x14_4.length < 17592186044416
                     ·
                      rw [if_pos c76] at H; have LMc76 := Az c76; clear c76; obtain ⟨y673, hy673⟩ : ∃ y_ : List Int, y_ = (x14_4 ++ [x15_4]) := ⟨_, rfl⟩; replace H : (laws_FnChoiceCounts.l0 k4 t639 t643 t653 ((l1.length : Int) % (rd t653 1)) y673 (wrap64 (x15_4 + 1)) t633 t636) = some r := hR hy673 H; have Ny673 := Az hy673; clear hy673; have H' := Az H; clear H; have p672 : 0 ≤ (1 : Int) := (by omega); have q672 : 1 < (t653.length : Int) := oA; obtain ⟨ad672, e672, hx672_0⟩ := Kd.at_int (Kd.R_reads' HO_11.out).2.2 1 p672 q672; obtain rfl : ad667 = ad672 := (by injection e672); (try simp only [show (1 : Int).toNat = 1 from rfl, Nat.reduceMul, Nat.reduceEqDiff, Go.Addr.add, ↓reduceIte] at hx672_0); have qi672 : (1 < t653.length) = True := eq_true (by omega); (try rw [show ((1 : Int)).toNat = 1 from rfl] at hx672_0); replace p672 := eq_true p672; replace q672 := eq_true q672
                      go_wp2_with (first | ((with_reducible refine gate_builtin (b := .append) (xs := #[.tmp 151, .tmp 153]) rfl ?_); (try (refine gate_guard (by rfl) ?_; dsimp only)); at_builtin; refine Kd.R_append (Kd.int .i64) (w0 := w) w.heap.size rfl (.tmp 151) (.tmp 153) 23 3 (.int .i64 0) 8 rfl Try.underlying23 info3 rfl (by decide) (by omega) u14 x14_4 x15_4 [.int .i64 x15_4] (fun k_ => some k_ ≠ (.slice Ao15 t639.length co15 : Value).ownBlock ∧ some k_ ≠ (v644 : Value).ownBlock ∧ some k_ ≠ (.slice (some ad667) t653.length co70 : Value).ownBlock ∧ some k_ ≠ (.slice Ao12 t633.length co12 : Value).ownBlock ∧ some k_ ≠ (.slice Ao14 t636.length co14 : Value).ownBlock) (fun _ => False) rfl rfl ?aP (fun _ hk => hk.elim) ?aF ?aO ?aB ?aS ?aL ?_; (case aP => exact rfl); (case aB => exact (bU1 HB.out GE642.out)); (case aF => exact (fun k_ hk => ⟨Kd.fresh' (Kd.R_lt (rU HO_6.out)) k_ hk, Kd.fresh' (Kd.R_lt (rU HO_7.out)) k_ hk, Kd.fresh' (Kd.R_lt (rU HO_11.out)) k_ hk, Kd.fresh' (Kd.Q_lt (qU HO_Z0.out)) k_ hk, Kd.fresh' (Kd.R_lt (rU HO_Z1.out)) k_ hk⟩)); (case aO => exact (rU HO_14.out)); (case aS => exact (below_size (bU1 HB.out GE642.out))); (case aL => have := LMc76.out; omega); intro v674 w77 ho hb hg hat; rw [← Ny673.out] at ho; have n0 := Az (Kd.R_after (ok := (fun k_ => some k_ ≠ (v644 : Value).ownBlock ∧ some k_ ≠ (.slice (some ad667) t653.length co70 : Value).ownBlock ∧ some k_ ≠ (.slice Ao12 t633.length co12 : Value).ownBlock ∧ some k_ ≠ (.slice Ao14 t636.length co14 : Value).ownBlock)) (by (with_reducible repeat (first | apply Kd.R_alloc | apply Kd.R_drewN | apply Kd.R_drew)); exact Kd.R_mono HO_6.out (fun _ hk => ⟨⟨hk.1, ⟨hk.2.1, ⟨hk.2.2.2.1, hk.2.2.2.2⟩⟩⟩, hk.2.2.1⟩)) hg hat); have n1 := Az (Kd.R_after (ok := (fun k_ => some k_ ≠ (.slice Ao15 t639.length co15 : Value).ownBlock ∧ some k_ ≠ (.slice (some ad667) t653.length co70 : Value).ownBlock ∧ some k_ ≠ (.slice Ao12 t633.length co12 : Value).ownBlock ∧ some k_ ≠ (.slice Ao14 t636.length co14 : Value).ownBlock)) (by (with_reducible repeat (first | apply Kd.R_alloc | apply Kd.R_drewN | apply Kd.R_drew)); exact Kd.R_mono HO_7.out (fun _ hk => ⟨⟨hk.1, ⟨hk.2.1, ⟨hk.2.2.2.1, hk.2.2.2.2⟩⟩⟩, hk.2.2.1⟩)) hg hat); have n2 := Az (Kd.R_after (ok := (fun k_ => some k_ ≠ (.slice Ao15 t639.length co15 : Value).ownBlock ∧ some k_ ≠ (v644 : Value).ownBlock ∧ some k_ ≠ (.slice Ao12 t633.length co12 : Value).ownBlock ∧ some k_ ≠ (.slice Ao14 t636.length co14 : Value).ownBlock)) (by (with_reducible repeat (first | apply Kd.R_alloc | apply Kd.R_drewN | apply Kd.R_drew)); exact Kd.R_mono HO_11.out (fun _ hk => ⟨⟨hk.1, ⟨hk.2.1, ⟨hk.2.2.2.1, hk.2.2.2.2⟩⟩⟩, hk.2.2.1⟩)) hg hat); have n3 := Az (Kd.Q_after (ok := (fun k_ => some k_ ≠ (.slice Ao15 t639.length co15 : Value).ownBlock ∧ some k_ ≠ (v644 : Value).ownBlock ∧ some k_ ≠ (.slice (some ad667) t653.length co70 : Value).ownBlock ∧ some k_ ≠ (.slice Ao14 t636.length co14 : Value).ownBlock)) (by (with_reducible repeat (first | apply Kd.Q_alloc | apply Kd.Q_drewN | apply Kd.Q_drew)); exact Kd.Q_mono HO_Z0.out (fun _ hk => ⟨⟨hk.1, ⟨hk.2.1, ⟨hk.2.2.1, hk.2.2.2.2⟩⟩⟩, hk.2.2.2.1⟩)) hg hat); have n4 := Az (Kd.R_after (ok := (fun k_ => some k_ ≠ (.slice Ao15 t639.length co15 : Value).ownBlock ∧ some k_ ≠ (v644 : Value).ownBlock ∧ some k_ ≠ (.slice (some ad667) t653.length co70 : Value).ownBlock ∧ some k_ ≠ (.slice Ao12 t633.length co12 : Value).ownBlock)) (by (with_reducible repeat (first | apply Kd.R_alloc | apply Kd.R_drewN | apply Kd.R_drew)); exact Kd.R_mono HO_Z1.out (fun _ hk => ⟨⟨hk.1, ⟨hk.2.1, ⟨hk.2.2.1, hk.2.2.2.2⟩⟩⟩, hk.2.2.2.1⟩)) hg hat); have n5 := Az (blk_grown (g := gb642) (o := .cells #[.slice Ao12 t633.length co12, .slice Ao14 t636.length co14] 25 (0, 0)) (kU BK642.out) hg (Kd.R_ne HO_14.out BK642.out (by decide))); have n6 := Az (hb); have n7 := Az (ho); clear HO_6 HO_7 HO_11 HO_Z0 HO_Z1 BK642 HB HO_14; have HO_6 := n0; have HO_7 := n1; have HO_11 := n2; have HO_Z0 := n3; have HO_Z1 := n4; have BK642 := n5; have HB := n6; have HO675 := n7; clear n0 n1 n2 n3 n4 n5 n6 n7; clear ho hb hg hat))
                      (first | go_roundg k4 | (refine Handed.intro k4 ?measure ?_; rotate_left; go_step; (try simp only [add_plain]); (repeat apply Exists.intro); refine ⟨?rel, rfl⟩))
                      case measure => have := HJ2.out; have := HJ8.out; have := HJ31.out; have := HK4.out; omega
                      case rel => exact ⟨(y673), (wrap64 (x15_4 + 1)), rS, H', ⟨by have := HJ2.out; have := HJ8.out; have := HJ31.out; have := HK4.out; omega⟩, ⟨by (with_reducible repeat (first | apply Kd.R_alloc | apply Kd.R_drewN | apply Kd.R_drew)); exact Kd.R_mono HO_6.out (fun _ hk => ⟨hk.1.1, ⟨hk.1.2.1, ⟨hk.2, ⟨hk.1.2.2.1, hk.1.2.2.2⟩⟩⟩⟩)⟩, ⟨by (with_reducible repeat (first | apply Kd.R_alloc | apply Kd.R_drewN | apply Kd.R_drew)); exact Kd.R_mono HO_7.out (fun _ hk => ⟨hk.1.1, ⟨hk.1.2.1, ⟨hk.2, ⟨hk.1.2.2.1, hk.1.2.2.2⟩⟩⟩⟩)⟩, ⟨by (with_reducible repeat (first | apply Kd.R_alloc | apply Kd.R_drewN | apply Kd.R_drew)); exact Kd.R_mono HO_11.out (fun _ hk => ⟨hk.1.1, ⟨hk.1.2.1, ⟨hk.2, ⟨hk.1.2.2.1, hk.1.2.2.2⟩⟩⟩⟩)⟩, ⟨rU HO675.out⟩, ⟨by (with_reducible repeat (first | apply Kd.Q_alloc | apply Kd.Q_drewN | apply Kd.Q_drew)); exact Kd.Q_mono HO_Z0.out (fun _ hk => ⟨hk.1.1, ⟨hk.1.2.1, ⟨hk.1.2.2.1, ⟨hk.2, hk.1.2.2.2⟩⟩⟩⟩)⟩, ⟨by (with_reducible repeat (first | apply Kd.R_alloc | apply Kd.R_drewN | apply Kd.R_drew)); exact Kd.R_mono HO_Z1.out (fun _ hk => ⟨hk.1.1, ⟨hk.1.2.1, ⟨hk.1.2.2.1, ⟨hk.2, hk.1.2.2.2⟩⟩⟩⟩)⟩, ⟨kU BK642.out⟩, ⟨bU1 HB.out GE642.out⟩⟩
                     ·
                      rw [if_neg c76] at H
                      exact absurd H (by simp)
                    ·
                     rw [if_neg c75] at H; have c75b0 := beq_eq_false_iff_ne.mpr c75; have c75b1 := bne_iff_ne.mpr c75; replace H := Option.bind_eq_some_iff.mp H; obtain ⟨t676, A780, H⟩ := H; replace H : (if t676 = true then (if x14_4.length < 17592186044416 then (laws_FnChoiceCounts.l0 k4 t639 t643 t653 ((l1.length : Int) % (rd t653 1)) (x14_4 ++ [x15_4]) (wrap64 (x15_4 + 1)) t633 t636) else (none)) else (laws_FnChoiceCounts.l0 k4 t639 t643 t653 ((l1.length : Int) % (rd t653 1)) x14_4 (wrap64 (x15_4 + 1)) t633 t636)) = some r := H; have A78 := Az A780; clear A780
                     by_cases c79 : t676 = true
                     ·
                      subst c79
                      have H1 : (if x14_4.length < 17592186044416 then (laws_FnChoiceCounts.l0 k4 t639 t643 t653 ((l1.length : Int) % (rd t653 1)) (x14_4 ++ [x15_4]) (wrap64 (x15_4 + 1)) t633 t636) else (none)) = some r := by rw [if_pos rfl] at H; exact H
                      clear H; have H := H1; clear H1
                      by_cases c80 : x14_4.length < 17592186044416
                      ·
                       rw [if_pos c80] at H; have LMc80 := Az c80; clear c80; obtain ⟨y677, hy677⟩ : ∃ y_ : List Int, y_ = (x14_4 ++ [x15_4]) := ⟨_, rfl⟩; replace H : (laws_FnChoiceCounts.l0 k4 t639 t643 t653 ((l1.length : Int) % (rd t653 1)) y677 (wrap64 (x15_4 + 1)) t633 t636) = some r := hR hy677 H; have Ny677 := Az hy677; clear hy677; have H' := Az H; clear H; have p672 : 0 ≤ (1 : Int) := (by omega); have q672 : 1 < (t653.length : Int) := oA; obtain ⟨ad672, e672, hx672_0⟩ := Kd.at_int (Kd.R_reads' HO_11.out).2.2 1 p672 q672; obtain rfl : ad667 = ad672 := (by injection e672); (try simp only [show (1 : Int).toNat = 1 from rfl, Nat.reduceMul, Nat.reduceEqDiff, Go.Addr.add, ↓reduceIte] at hx672_0); have qi672 : (1 < t653.length) = True := eq_true (by omega); (try rw [show ((1 : Int)).toNat = 1 from rfl] at hx672_0); replace p672 := eq_true p672; replace q672 := eq_true q672
                       go_wp2_with (first | (go_at_call 33; (with_reducible refine (laws_hasInt.calls k4 _ _ t639 x15_4 true _ ?side1 ?side2 A78.out).mono ?_); (case side1 => exact cU ((Kd.R_reads' HO_6.out).2.2)); (case side2 => exact (Kd.R_reads' HO_6.out).2.1); rintro e w' ⟨rfl, ⟨nd, rfl⟩⟩) | ((with_reducible refine gate_builtin (b := .append) (xs := #[.tmp 151, .tmp 153]) rfl ?_); (try (refine gate_guard (by rfl) ?_; dsimp only)); at_builtin; refine Kd.R_append (Kd.int .i64) (w0 := w) w.heap.size rfl (.tmp 151) (.tmp 153) 23 3 (.int .i64 0) 8 rfl Try.underlying23 info3 rfl (by decide) (by omega) u14 x14_4 x15_4 [.int .i64 x15_4] (fun k_ => some k_ ≠ (.slice Ao15 t639.length co15 : Value).ownBlock ∧ some k_ ≠ (v644 : Value).ownBlock ∧ some k_ ≠ (.slice (some ad667) t653.length co70 : Value).ownBlock ∧ some k_ ≠ (.slice Ao12 t633.length co12 : Value).ownBlock ∧ some k_ ≠ (.slice Ao14 t636.length co14 : Value).ownBlock) (fun _ => False) rfl rfl ?aP (fun _ hk => hk.elim) ?aF ?aO ?aB ?aS ?aL ?_; (case aP => exact rfl); (case aB => exact (bU1 HB.out GE642.out)); (case aF => exact (fun k_ hk => ⟨Kd.fresh' (Kd.R_lt (rU HO_6.out)) k_ hk, Kd.fresh' (Kd.R_lt (rU HO_7.out)) k_ hk, Kd.fresh' (Kd.R_lt (rU HO_11.out)) k_ hk, Kd.fresh' (Kd.Q_lt (qU HO_Z0.out)) k_ hk, Kd.fresh' (Kd.R_lt (rU HO_Z1.out)) k_ hk⟩)); (case aO => exact (rU HO_14.out)); (case aS => exact (below_size (bU1 HB.out GE642.out))); (case aL => have := LMc80.out; omega); intro v678 w81 ho hb hg hat; rw [← Ny677.out] at ho; have n0 := Az (Kd.R_after (ok := (fun k_ => some k_ ≠ (v644 : Value).ownBlock ∧ some k_ ≠ (.slice (some ad667) t653.length co70 : Value).ownBlock ∧ some k_ ≠ (.slice Ao12 t633.length co12 : Value).ownBlock ∧ some k_ ≠ (.slice Ao14 t636.length co14 : Value).ownBlock)) (by (with_reducible repeat (first | apply Kd.R_alloc | apply Kd.R_drewN | apply Kd.R_drew)); exact Kd.R_mono HO_6.out (fun _ hk => ⟨⟨hk.1, ⟨hk.2.1, ⟨hk.2.2.2.1, hk.2.2.2.2⟩⟩⟩, hk.2.2.1⟩)) hg hat); have n1 := Az (Kd.R_after (ok := (fun k_ => some k_ ≠ (.slice Ao15 t639.length co15 : Value).ownBlock ∧ some k_ ≠ (.slice (some ad667) t653.length co70 : Value).ownBlock ∧ some k_ ≠ (.slice Ao12 t633.length co12 : Value).ownBlock ∧ some k_ ≠ (.slice Ao14 t636.length co14 : Value).ownBlock)) (by (with_reducible repeat (first | apply Kd.R_alloc | apply Kd.R_drewN | apply Kd.R_drew)); exact Kd.R_mono HO_7.out (fun _ hk => ⟨⟨hk.1, ⟨hk.2.1, ⟨hk.2.2.2.1, hk.2.2.2.2⟩⟩⟩, hk.2.2.1⟩)) hg hat); have n2 := Az (Kd.R_after (ok := (fun k_ => some k_ ≠ (.slice Ao15 t639.length co15 : Value).ownBlock ∧ some k_ ≠ (v644 : Value).ownBlock ∧ some k_ ≠ (.slice Ao12 t633.length co12 : Value).ownBlock ∧ some k_ ≠ (.slice Ao14 t636.length co14 : Value).ownBlock)) (by (with_reducible repeat (first | apply Kd.R_alloc | apply Kd.R_drewN | apply Kd.R_drew)); exact Kd.R_mono HO_11.out (fun _ hk => ⟨⟨hk.1, ⟨hk.2.1, ⟨hk.2.2.2.1, hk.2.2.2.2⟩⟩⟩, hk.2.2.1⟩)) hg hat); have n3 := Az (Kd.Q_after (ok := (fun k_ => some k_ ≠ (.slice Ao15 t639.length co15 : Value).ownBlock ∧ some k_ ≠ (v644 : Value).ownBlock ∧ some k_ ≠ (.slice (some ad667) t653.length co70 : Value).ownBlock ∧ some k_ ≠ (.slice Ao14 t636.length co14 : Value).ownBlock)) (by (with_reducible repeat (first | apply Kd.Q_alloc | apply Kd.Q_drewN | apply Kd.Q_drew)); exact Kd.Q_mono HO_Z0.out (fun _ hk => ⟨⟨hk.1, ⟨hk.2.1, ⟨hk.2.2.1, hk.2.2.2.2⟩⟩⟩, hk.2.2.2.1⟩)) hg hat); have n4 := Az (Kd.R_after (ok := (fun k_ => some k_ ≠ (.slice Ao15 t639.length co15 : Value).ownBlock ∧ some k_ ≠ (v644 : Value).ownBlock ∧ some k_ ≠ (.slice (some ad667) t653.length co70 : Value).ownBlock ∧ some k_ ≠ (.slice Ao12 t633.length co12 : Value).ownBlock)) (by (with_reducible repeat (first | apply Kd.R_alloc | apply Kd.R_drewN | apply Kd.R_drew)); exact Kd.R_mono HO_Z1.out (fun _ hk => ⟨⟨hk.1, ⟨hk.2.1, ⟨hk.2.2.1, hk.2.2.2.2⟩⟩⟩, hk.2.2.2.1⟩)) hg hat); have n5 := Az (blk_grown (g := gb642) (o := .cells #[.slice Ao12 t633.length co12, .slice Ao14 t636.length co14] 25 (0, 0)) (kU BK642.out) hg (Kd.R_ne HO_14.out BK642.out (by decide))); have n6 := Az (hb); have n7 := Az (ho); clear HO_6 HO_7 HO_11 HO_Z0 HO_Z1 BK642 HB HO_14; have HO_6 := n0; have HO_7 := n1; have HO_11 := n2; have HO_Z0 := n3; have HO_Z1 := n4; have BK642 := n5; have HB := n6; have HO679 := n7; clear n0 n1 n2 n3 n4 n5 n6 n7; clear ho hb hg hat))
                       (first | go_roundg k4 | (refine Handed.intro k4 ?measure ?_; rotate_left; go_step; (try simp only [add_plain]); (repeat apply Exists.intro); refine ⟨?rel, rfl⟩))
                       case measure => have := HJ2.out; have := HJ8.out; have := HJ31.out; have := HK4.out; omega
                       case rel => exact ⟨(y677), (wrap64 (x15_4 + 1)), rS, H', ⟨by have := HJ2.out; have := HJ8.out; have := HJ31.out; have := HK4.out; omega⟩, ⟨by (with_reducible repeat (first | apply Kd.R_alloc | apply Kd.R_drewN | apply Kd.R_drew)); exact Kd.R_mono HO_6.out (fun _ hk => ⟨hk.1.1, ⟨hk.1.2.1, ⟨hk.2, ⟨hk.1.2.2.1, hk.1.2.2.2⟩⟩⟩⟩)⟩, ⟨by (with_reducible repeat (first | apply Kd.R_alloc | apply Kd.R_drewN | apply Kd.R_drew)); exact Kd.R_mono HO_7.out (fun _ hk => ⟨hk.1.1, ⟨hk.1.2.1, ⟨hk.2, ⟨hk.1.2.2.1, hk.1.2.2.2⟩⟩⟩⟩)⟩, ⟨by (with_reducible repeat (first | apply Kd.R_alloc | apply Kd.R_drewN | apply Kd.R_drew)); exact Kd.R_mono HO_11.out (fun _ hk => ⟨hk.1.1, ⟨hk.1.2.1, ⟨hk.2, ⟨hk.1.2.2.1, hk.1.2.2.2⟩⟩⟩⟩)⟩, ⟨rU HO679.out⟩, ⟨by (with_reducible repeat (first | apply Kd.Q_alloc | apply Kd.Q_drewN | apply Kd.Q_drew)); exact Kd.Q_mono HO_Z0.out (fun _ hk => ⟨hk.1.1, ⟨hk.1.2.1, ⟨hk.1.2.2.1, ⟨hk.2, hk.1.2.2.2⟩⟩⟩⟩)⟩, ⟨by (with_reducible repeat (first | apply Kd.R_alloc | apply Kd.R_drewN | apply Kd.R_drew)); exact Kd.R_mono HO_Z1.out (fun _ hk => ⟨hk.1.1, ⟨hk.1.2.1, ⟨hk.1.2.2.1, ⟨hk.2, hk.1.2.2.2⟩⟩⟩⟩)⟩, ⟨kU BK642.out⟩, ⟨bU1 HB.out GE642.out⟩⟩
                      ·
                       rw [if_neg c80] at H
                       exact absurd H (by simp)
                     ·
                      replace c79 := Bool.eq_false_iff.mpr c79; subst c79
                      have H1 : (laws_FnChoiceCounts.l0 k4 t639 t643 t653 ((l1.length : Int) % (rd t653 1)) x14_4 (wrap64 (x15_4 + 1)) t633 t636) = some r := by rw [if_neg (show ¬ (false = true) by decide)] at H; exact H
                      clear H; have H := H1; clear H1; have H' := Az H; clear H; have p672 : 0 ≤ (1 : Int) := (by omega); have q672 : 1 < (t653.length : Int) := oA; obtain ⟨ad672, e672, hx672_0⟩ := Kd.at_int (Kd.R_reads' HO_11.out).2.2 1 p672 q672; obtain rfl : ad667 = ad672 := (by injection e672); (try simp only [show (1 : Int).toNat = 1 from rfl, Nat.reduceMul, Nat.reduceEqDiff, Go.Addr.add, ↓reduceIte] at hx672_0); have qi672 : (1 < t653.length) = True := eq_true (by omega); (try rw [show ((1 : Int)).toNat = 1 from rfl] at hx672_0); replace p672 := eq_true p672; replace q672 := eq_true q672
                      go_wp2_with (first | (go_at_call 33; (with_reducible refine (laws_hasInt.calls k4 _ _ t639 x15_4 false _ ?side1 ?side2 A78.out).mono ?_); (case side1 => exact cU ((Kd.R_reads' HO_6.out).2.2)); (case side2 => exact (Kd.R_reads' HO_6.out).2.1); rintro e w' ⟨rfl, ⟨nd, rfl⟩⟩))
                      (first | go_roundg k4 | (refine Handed.intro k4 ?measure ?_; rotate_left; go_step; (try simp only [add_plain]); (repeat apply Exists.intro); refine ⟨?rel, rfl⟩))
                      case measure => have := HJ2.out; have := HJ8.out; have := HJ31.out; have := HK4.out; omega
                      case rel => exact ⟨(x14_4), (wrap64 (x15_4 + 1)), rS, H', ⟨by have := HJ2.out; have := HJ8.out; have := HJ31.out; have := HK4.out; omega⟩, ⟨rU HO_6.out⟩, ⟨rU HO_7.out⟩, ⟨rU HO_11.out⟩, ⟨rU HO_14.out⟩, ⟨qU HO_Z0.out⟩, ⟨rU HO_Z1.out⟩, ⟨kU BK642.out⟩, ⟨bU1 HB.out GE642.out⟩⟩
                   ·
                    rw [if_neg c74] at H; have c74b0 := decide_eq_false c74; clear c74; replace H := Option.bind_eq_some_iff.mp H; obtain ⟨⟨t680, t683⟩, A820, H⟩ := H; replace H : (if 1 < (t680.length : Int) then (if 1 < (t643.length : Int) then (if t683 = true then (if (wrap64 ((rd t680 1) - (rd t643 1))) = 1 then (if 0 < (t680.length : Int) then (if 0 < (t643.length : Int) then (if (rd t680 0) = (rd t643 0) then (some true) else (if (rd t680 0) = (wrap64 ((rd t643 0) - 1)) then (some ((wrap64 ((rd t680 1) - (rd t643 1))) == (-1))) else (some false))) else (none)) else (none)) else (if (wrap64 ((rd t680 1) - (rd t643 1))) = (-1) then (if 0 < (t680.length : Int) then (if 0 < (t643.length : Int) then (if (rd t680 0) = (rd t643 0) then (some true) else (if (rd t680 0) = (wrap64 ((rd t643 0) - 1)) then (some ((wrap64 ((rd t680 1) - (rd t643 1))) == (-1))) else (some false))) else (none)) else (none)) else (some false))) else (some false)) else (none)) else (none)) = some r := H; have A82 := Az A820; clear A820
                    by_cases c83 : 1 < (t680.length : Int)
                    ·
                     rw [if_pos c83] at H; have c83b0 := decide_eq_true c83; have c83b1 : decide (1 < t680.length) = true := decide_eq_true (by omega); clear c83
                     by_cases c84 : 1 < (t643.length : Int)
                     ·
                      rw [if_pos c84] at H; have c84b0 := decide_eq_true c84; have c84b1 : decide (1 < t643.length) = true := decide_eq_true (by omega); clear c84; have p672 : 0 ≤ (1 : Int) := (by omega); have q672 : 1 < (t653.length : Int) := oA; obtain ⟨ad672, e672, hx672_0⟩ := Kd.at_int (Kd.R_reads' HO_11.out).2.2 1 p672 q672; obtain rfl : ad667 = ad672 := (by injection e672); (try simp only [show (1 : Int).toNat = 1 from rfl, Nat.reduceMul, Nat.reduceEqDiff, Go.Addr.add, ↓reduceIte] at hx672_0); have qi672 : (1 < t653.length) = True := eq_true (by omega); (try rw [show ((1 : Int)).toNat = 1 from rfl] at hx672_0); replace p672 := eq_true p672; replace q672 := eq_true q672; have hcz90_0 : wr.cell? ⟨gb642, 0, none⟩ = some (.slice Ao12 t633.length co12) := (blk_cell BK642.out 0).trans rfl; have hcz90_1 : wr.cell? ⟨gb642, 1, none⟩ = some (.slice Ao14 t636.length co14) := (blk_cell BK642.out 1).trans rfl; have hfz90_0 := blk_frozen BK642.out 0; have hfz90_1 := blk_frozen BK642.out 1; obtain ⟨Ao91, co91, eo91⟩ := Kd.R_slice HO_14.out; subst eo91
                      try go_wp2_with (first | ((with_reducible refine gate_callee (f := 20) rfl ?_); refine goesL_ (some 158) rfl rfl Try.func20 (by kernel_rfl) rfl #[.agg #[.slice Ao12 t633.length co12, .slice Ao14 t636.length co14], .slice Ao91 x14_4.length co91] rfl (by (try simp only [List.map_toArray, List.map_cons, List.map_nil]); first | done | rfl | (simp only [List.length_drop, List.length_take]; rfl)) ?_; (with_reducible refine (impl_ChoiceCounts.calls k4 _ _ t633 _ _ t636 _ _ x14_4 t680 t683 _ ?side1 ?side2 ?side3 ?side4 ?side5 ?side6 A82.out).mono ?_); (case side1 => exact cU ((Kd.Q_reads' HO_Z0.out).2.2)); (case side2 => exact (Kd.Q_reads' HO_Z0.out).2.1); (case side3 => exact cU ((Kd.R_reads' HO_Z1.out).2.2)); (case side4 => exact (Kd.R_reads' HO_Z1.out).2.1); (case side5 => exact cU ((Kd.R_reads' HO_14.out).2.2)); (case side6 => exact (Kd.R_reads' HO_14.out).2.1); rintro e w92 ⟨v681, rfl, ho0, hb⟩; refine ⟨_, rfl, ?_⟩; have n0 := Az (Kd.R_elder' (rU HO_6.out) (Kd.R_base ho0) hb); have n1 := Az (Kd.R_elder' (rU HO_7.out) (Kd.R_base ho0) hb); have n2 := Az (Kd.R_elder' (rU HO_11.out) (Kd.R_base ho0) hb); have n3 := Az (Kd.R_elder' (rU HO_14.out) (Kd.R_base ho0) hb); have n4 := Az (Kd.Q_elder' (qU HO_Z0.out) (Kd.R_base ho0) hb); have n5 := Az (Kd.R_elder' (rU HO_Z1.out) (Kd.R_base ho0) hb); have n6 := Az (Kd.R_lower (Kd.R_new' (Kd.R_new' (Kd.R_new' (Kd.R_new' (Kd.R_new' (Kd.R_new' ho0 (Kd.R_lt (rU HO_6.out))) (Kd.R_lt (rU HO_7.out))) (Kd.R_lt (rU HO_11.out))) (Kd.R_lt (rU HO_14.out))) (Kd.Q_lt (qU HO_Z0.out))) (Kd.R_lt (rU HO_Z1.out))) (below_size (bU1 HB.out GE642.out))); have n7 := Az (blk_below (g := gb642) (o := .cells #[.slice Ao12 t633.length co12, .slice Ao14 t636.length co14] 25 (0, 0)) (kU BK642.out) hb); have n8 := Az (below_step (bU1 HB.out GE642.out) hb); clear HO_6 HO_7 HO_11 HO_14 HO_Z0 HO_Z1 BK642 HB; have HO_6 := n0; have HO_7 := n1; have HO_11 := n2; have HO_14 := n3; have HO_Z0 := n4; have HO_Z1 := n5; have HO682 := n6; have BK642 := n7; have HB := n8; clear n0 n1 n2 n3 n4 n5 n6 n7 n8; (try clear hb); (try clear hb2); (try clear hk); (try clear hi); (try clear ho0)))
                      have n0 := Az (Kd.R_drew HO_6.out); have n1 := Az (Kd.R_drew HO_7.out); have n2 := Az (Kd.R_drew HO_11.out); have n3 := Az (Kd.R_drew HO_14.out); have n4 := Az (Kd.Q_drew HO_Z0.out); have n5 := Az (Kd.R_drew HO_Z1.out); have n6 := Az (Kd.R_drew HO682.out); have n7 := Az (blk_drew BK642.out); have n8 := Az (below_drew1 HB.out); clear HO_6 HO_7 HO_11 HO_14 HO_Z0 HO_Z1 HO682 BK642 HB; have HO_6 := n0; have HO_7 := n1; have HO_11 := n2; have HO_14 := n3; have HO_Z0 := n4; have HO_Z1 := n5; have HO682 := n6; have BK642 := n7; have HB := n8; clear n0 n1 n2 n3 n4 n5 n6 n7 n8; obtain ⟨Ao94, co94, eo94⟩ := Kd.R_slice HO682.out; (first | subst eo94 | (injection eo94 with f1_ f2_ f3_; have f4_ := f1_.symm; have f5_ := f3_.symm; clear f1_ f2_ f3_; subst f4_; subst f5_)); have p684 : 0 ≤ (1 : Int) := (by omega); have q684 : 1 < (t680.length : Int) := oA; obtain ⟨ad684, e684, hx684_0⟩ := Kd.at_int (Kd.R_reads' HO682.out).2.2 1 p684 q684
                      cases e684
                      (try simp only [show (1 : Int).toNat = 1 from rfl, Nat.reduceMul, Nat.reduceEqDiff, Go.Addr.add, ↓reduceIte] at hx684_0); have qi684 : (1 < t680.length) = True := eq_true (by omega); (try rw [show ((1 : Int)).toNat = 1 from rfl] at hx684_0); replace p684 := eq_true p684; replace q684 := eq_true q684; obtain ⟨Ao95, co95, eo95⟩ := Kd.R_slice HO_7.out; (first | subst eo95 | (injection eo95 with f1_ f2_ f3_; have f4_ := f1_.symm; have f5_ := f3_.symm; clear f1_ f2_ f3_; subst f4_; subst f5_)); have p685 : 0 ≤ (1 : Int) := (by omega); have q685 : 1 < (t643.length : Int) := oA; obtain ⟨ad685, e685, hx685_0⟩ := Kd.at_int (Kd.R_reads' HO_7.out).2.2 1 p685 q685
                      cases e685
                      (try simp only [show (1 : Int).toNat = 1 from rfl, Nat.reduceMul, Nat.reduceEqDiff, Go.Addr.add, ↓reduceIte] at hx685_0); have qi685 : (1 < t643.length) = True := eq_true (by omega); (try rw [show ((1 : Int)).toNat = 1 from rfl] at hx685_0); replace p685 := eq_true p685; replace q685 := eq_true q685
                      refine start_ (n := 8) (S := fun w' => w'.cell? ⟨ad684.block, ad684.off + 1, none⟩ = some (.int .i64 (rd t680 1)) ∧ w'.cell? ⟨ad685.block, ad685.off + 1, none⟩ = some (.int .i64 (rd t643 1))) (ds := []) (laws_FnChoiceCounts_up [(0, some 161), (1, some 162), (3, some 164), (4, some 165), (2, some 163), (5, some 166), (6, some 167), (7, some 18)] 8) (by as_aux_lemma => kernel_rfl) rfl rfl ⟨hx684_0, hx685_0⟩ (fun hHeld => ?_); refine with_tabW laws_FnChoiceCounts.tab21 laws_FnChoiceCounts.bits21 (fun HT_ HW_ => ?_)
                      generalize w92.drew = w93 at HO_6 HO_7 HO_11 HO_14 HO_Z0 HO_Z1 HO682 BK642 HB hx684_0 hx685_0 hHeld ⊢
                      repeat (first | (refine laws_FnChoiceCounts_uP rfl rfl (any_of HT_.out (by as_aux_lemma => kernel_rfl)) (fun _ _ _ h => h) (by rfl) (v := ?_) (a' := ?_) ?_ ?_ ?_; rotate_left; (· intro w'; go_simp; with_reducible rfl); rotate_left; (· simp only [Act.put, List.setIfInBounds_toArray, List.set_cons_zero, List.set_cons_succ, i64_w, i32_w]; rfl)) | (refine laws_FnChoiceCounts_uT rfl rfl (take_ofW HT_.out HW_.out (by as_aux_lemma => kernel_rfl)) (fun _ _ _ h => h) (by rfl) (v := ?_) (a' := ?_) ?_ hHeld ?_ ?_; rotate_left; (· rintro w' ⟨s0, s1⟩; go_simp; with_reducible rfl); rotate_left; (· simp only [Act.put, List.setIfInBounds_toArray, List.set_cons_zero, List.set_cons_succ, i64_w, i32_w]; rfl)))
                      refine done_ (done_of HT_.out (by as_aux_lemma => kernel_rfl)) ?_
                      try go_wp2
                      have n0 := Az (Kd.R_drew HO_6.out); have n1 := Az (Kd.R_drew HO_7.out); have n2 := Az (Kd.R_drew HO_11.out); have n3 := Az (Kd.R_drew HO_14.out); have n4 := Az (Kd.Q_drew HO_Z0.out); have n5 := Az (Kd.R_drew HO_Z1.out); have n6 := Az (Kd.R_drew HO682.out); have n7 := Az (blk_drew BK642.out); have n8 := Az (below_drew1 HB.out); clear HO_6 HO_7 HO_11 HO_14 HO_Z0 HO_Z1 HO682 BK642 HB; have HO_6 := n0; have HO_7 := n1; have HO_11 := n2; have HO_14 := n3; have HO_Z0 := n4; have HO_Z1 := n5; have HO682 := n6; have BK642 := n7; have HB := n8; clear n0 n1 n2 n3 n4 n5 n6 n7 n8
                      by_cases c85 : t683 = true
                      ·
                       subst c85
                       have H1 : (if (wrap64 ((rd t680 1) - (rd t643 1))) = 1 then (if 0 < (t680.length : Int) then (if 0 < (t643.length : Int) then (if (rd t680 0) = (rd t643 0) then (some true) else (if (rd t680 0) = (wrap64 ((rd t643 0) - 1)) then (some ((wrap64 ((rd t680 1) - (rd t643 1))) == (-1))) else (some false))) else (none)) else (none)) else (if (wrap64 ((rd t680 1) - (rd t643 1))) = (-1) then (if 0 < (t680.length : Int) then (if 0 < (t643.length : Int) then (if (rd t680 0) = (rd t643 0) then (some true) else (if (rd t680 0) = (wrap64 ((rd t643 0) - 1)) then (some ((wrap64 ((rd t680 1) - (rd t643 1))) == (-1))) else (some false))) else (none)) else (none)) else (some false))) = some r := by rw [if_pos rfl] at H; exact H
                       clear H; have H := H1; clear H1
                       by_cases c86 : (wrap64 ((rd t680 1) - (rd t643 1))) = 1
                       ·
                        rw [if_pos c86] at H; have c86b0 := beq_iff_eq.mpr c86; have c86b1 := bne_eq_false_iff_eq.mpr c86; clear c86
                        by_cases c87 : 0 < (t680.length : Int)
                        ·
                         rw [if_pos c87] at H; have c87b0 := decide_eq_true c87; have c87b1 : decide (0 < t680.length) = true := decide_eq_true (by omega); clear c87
                         by_cases c88 : 0 < (t643.length : Int)
                         ·
                          rw [if_pos c88] at H; have c88b0 := decide_eq_true c88; have c88b1 : decide (0 < t643.length) = true := decide_eq_true (by omega); clear c88
                          by_cases c89 : (rd t680 0) = (rd t643 0)
                          ·
                           rw [if_pos c89] at H; have c89b0 := beq_iff_eq.mpr c89; have c89b1 := bne_eq_false_iff_eq.mpr c89; clear c89; obtain rfl := Option.some.inj H; have p686 : 0 ≤ (0 : Int) := (by omega); have q686 : 0 < (t680.length : Int) := oA; obtain ⟨ad686, e686, hx686_0⟩ := Kd.at_int (Kd.R_reads' HO682.out).2.2 0 p686 q686; obtain rfl : ad684 = ad686 := (by injection e686); have qi686 : (0 < t680.length) = True := eq_true (by omega); (try rw [show ((0 : Int)).toNat = 0 from rfl] at hx686_0); (try rw [Addr.add_zero'] at hx686_0); replace p686 := eq_true p686; replace q686 := eq_true q686; have p687 : 0 ≤ (0 : Int) := (by omega); have q687 : 0 < (t643.length : Int) := oA; obtain ⟨ad687, e687, hx687_0⟩ := Kd.at_int (Kd.R_reads' HO_7.out).2.2 0 p687 q687; obtain rfl : ad685 = ad687 := (by injection e687); have qi687 : (0 < t643.length) = True := eq_true (by omega); (try rw [show ((0 : Int)).toNat = 0 from rfl] at hx687_0); (try rw [Addr.add_zero'] at hx687_0); replace p687 := eq_true p687; replace q687 := eq_true q687
                           refine start_ (n := 33) (S := fun w' => w'.cell? ad684 = some (.int .i64 (rd t680 0)) ∧ w'.cell? ad685 = some (.int .i64 (rd t643 0))) (ds := []) (laws_FnChoiceCounts_up [(0, some 168), (1, some 169), (2, some 170), (3, some 171), (4, some 172), (5, some 173), (6, some 174), (7, some 175), (8, some 176), (9, some 177), (10, some 178), (11, some 179), (13, some 181), (14, some 182), (12, some 180), (15, some 183), (16, some 184), (17, some 185), (18, some 186), (19, some 187), (20, some 188), (21, some 189), (22, some 190), (23, some 191), (24, some 192), (25, some 193), (26, some 194), (27, some 195), (28, some 196), (29, some 197), (30, some 198), (31, some 199), (32, some 4)] 33) (by as_aux_lemma => kernel_rfl) rfl rfl ⟨hx686_0, hx687_0⟩ (fun hHeld => ?_); refine with_tabW laws_FnChoiceCounts.tab22 laws_FnChoiceCounts.bits22 (fun HT_ HW_ => ?_)
                           generalize w93.drew = w96 at HO_6 HO_7 HO_11 HO_14 HO_Z0 HO_Z1 HO682 BK642 HB hx686_0 hx687_0 hHeld ⊢
                           repeat (first | (refine laws_FnChoiceCounts_uS rfl rfl (any_of HT_.out (by as_aux_lemma => kernel_rfl)) (fun _ _ _ h => h) (by rfl) (a' := ?_) ?_ ?_; rotate_left; (· simp only [Act.put, List.setIfInBounds_toArray, List.set_cons_zero, List.set_cons_succ, i64_w, i32_w]; rfl)) | (refine laws_FnChoiceCounts_uP rfl rfl (any_of HT_.out (by as_aux_lemma => kernel_rfl)) (fun _ _ _ h => h) (by rfl) (v := ?_) (a' := ?_) ?_ ?_ ?_; rotate_left; (· intro w'; go_simp; with_reducible rfl); rotate_left; (· simp only [Act.put, List.setIfInBounds_toArray, List.set_cons_zero, List.set_cons_succ, i64_w, i32_w]; rfl)) | (refine laws_FnChoiceCounts_uT rfl rfl (take_ofW HT_.out HW_.out (by as_aux_lemma => kernel_rfl)) (fun _ _ _ h => h) (by rfl) (v := ?_) (a' := ?_) ?_ hHeld ?_ ?_; rotate_left; (· rintro w' ⟨s0, s1⟩; go_simp; with_reducible rfl); rotate_left; (· simp only [Act.put, List.setIfInBounds_toArray, List.set_cons_zero, List.set_cons_succ, i64_w, i32_w]; rfl)))
                           refine done_ (done_of HT_.out (by as_aux_lemma => kernel_rfl)) ?_
                           try go_wp2
                           go_ret
                           exact ⟨rE, bU1 HB.out GE642.out⟩
                          ·
                           rw [if_neg c89] at H; have c89b0 := beq_eq_false_iff_ne.mpr c89; have c89b1 := bne_iff_ne.mpr c89
                           by_cases c97 : (rd t680 0) = (wrap64 ((rd t643 0) - 1))
                           ·
                            rw [if_pos c97] at H; have c97b0 := beq_iff_eq.mpr c97; have c97b1 := bne_eq_false_iff_eq.mpr c97; clear c97; obtain rfl := Option.some.inj H; have p686 : 0 ≤ (0 : Int) := (by omega); have q686 : 0 < (t680.length : Int) := oA; obtain ⟨ad686, e686, hx686_0⟩ := Kd.at_int (Kd.R_reads' HO682.out).2.2 0 p686 q686; obtain rfl : ad684 = ad686 := (by injection e686); have qi686 : (0 < t680.length) = True := eq_true (by omega); (try rw [show ((0 : Int)).toNat = 0 from rfl] at hx686_0); (try rw [Addr.add_zero'] at hx686_0); replace p686 := eq_true p686; replace q686 := eq_true q686; have p687 : 0 ≤ (0 : Int) := (by omega); have q687 : 0 < (t643.length : Int) := oA; obtain ⟨ad687, e687, hx687_0⟩ := Kd.at_int (Kd.R_reads' HO_7.out).2.2 0 p687 q687; obtain rfl : ad685 = ad687 := (by injection e687); have qi687 : (0 < t643.length) = True := eq_true (by omega); (try rw [show ((0 : Int)).toNat = 0 from rfl] at hx687_0); (try rw [Addr.add_zero'] at hx687_0); replace p687 := eq_true p687; replace q687 := eq_true q687; have p688 : 0 ≤ (0 : Int) := (by omega); have q688 : 0 < (t680.length : Int) := oA; obtain ⟨ad688, e688, hx688_0⟩ := Kd.at_int (Kd.R_reads' HO682.out).2.2 0 p688 q688; obtain rfl : ad684 = ad688 := (by injection e688); have qi688 : (0 < t680.length) = True := eq_true (by omega); (try rw [show ((0 : Int)).toNat = 0 from rfl] at hx688_0); (try rw [Addr.add_zero'] at hx688_0); replace p688 := eq_true p688; replace q688 := eq_true q688; have p689 : 0 ≤ (0 : Int) := (by omega); have q689 : 0 < (t643.length : Int) := oA; obtain ⟨ad689, e689, hx689_0⟩ := Kd.at_int (Kd.R_reads' HO_7.out).2.2 0 p689 q689; obtain rfl : ad685 = ad689 := (by injection e689); have qi689 : (0 < t643.length) = True := eq_true (by omega); (try rw [show ((0 : Int)).toNat = 0 from rfl] at hx689_0); (try rw [Addr.add_zero'] at hx689_0); replace p689 := eq_true p689; replace q689 := eq_true q689
                            refine start_ (n := 33) (S := fun w' => w'.cell? ad684 = some (.int .i64 (rd t680 0)) ∧ w'.cell? ad685 = some (.int .i64 (rd t643 0)) ∧ w'.cell? ad684 = some (.int .i64 (rd t680 0)) ∧ w'.cell? ad685 = some (.int .i64 (rd t643 0))) (ds := []) (laws_FnChoiceCounts_up [(0, some 168), (1, some 169), (2, some 170), (3, some 171), (4, some 172), (5, some 173), (6, some 174), (7, some 175), (8, some 176), (9, some 177), (10, some 178), (11, some 179), (13, some 181), (14, some 182), (12, some 180), (15, some 183), (16, some 184), (17, some 185), (18, some 186), (19, some 187), (21, some 189), (22, some 190), (20, some 188), (23, some 191), (24, some 192), (25, some 193), (26, some 194), (27, some 195), (28, some 196), (29, some 197), (30, some 198), (31, some 199), (32, some 4)] 33) (by as_aux_lemma => kernel_rfl) rfl rfl ⟨hx686_0, hx687_0, hx688_0, hx689_0⟩ (fun hHeld => ?_); refine with_tabW laws_FnChoiceCounts.tab22 laws_FnChoiceCounts.bits22 (fun HT_ HW_ => ?_)
                            generalize w93.drew = w104 at HO_6 HO_7 HO_11 HO_14 HO_Z0 HO_Z1 HO682 BK642 HB hx686_0 hx687_0 hx688_0 hx689_0 hHeld ⊢
                            repeat (first | (refine laws_FnChoiceCounts_uS rfl rfl (any_of HT_.out (by as_aux_lemma => kernel_rfl)) (fun _ _ _ h => h) (by rfl) (a' := ?_) ?_ ?_; rotate_left; (· simp only [Act.put, List.setIfInBounds_toArray, List.set_cons_zero, List.set_cons_succ, i64_w, i32_w]; rfl)) | (refine laws_FnChoiceCounts_uP rfl rfl (any_of HT_.out (by as_aux_lemma => kernel_rfl)) (fun _ _ _ h => h) (by rfl) (v := ?_) (a' := ?_) ?_ ?_ ?_; rotate_left; (· intro w'; go_simp; with_reducible rfl); rotate_left; (· simp only [Act.put, List.setIfInBounds_toArray, List.set_cons_zero, List.set_cons_succ, i64_w, i32_w]; rfl)) | (refine laws_FnChoiceCounts_uT rfl rfl (take_ofW HT_.out HW_.out (by as_aux_lemma => kernel_rfl)) (fun _ _ _ h => h) (by rfl) (v := ?_) (a' := ?_) ?_ hHeld ?_ ?_; rotate_left; (· rintro w' ⟨s0, s1, s2, s3⟩; go_simp; with_reducible rfl); rotate_left; (· simp only [Act.put, List.setIfInBounds_toArray, List.set_cons_zero, List.set_cons_succ, i64_w, i32_w]; rfl)))
                            refine done_ (done_of HT_.out (by as_aux_lemma => kernel_rfl)) ?_
                            try go_wp2
                            go_ret
                            exact ⟨rE, bU1 HB.out GE642.out⟩
                           ·
                            rw [if_neg c97] at H; have c97b0 := beq_eq_false_iff_ne.mpr c97; have c97b1 := bne_iff_ne.mpr c97; obtain rfl := Option.some.inj H; have p686 : 0 ≤ (0 : Int) := (by omega); have q686 : 0 < (t680.length : Int) := oA; obtain ⟨ad686, e686, hx686_0⟩ := Kd.at_int (Kd.R_reads' HO682.out).2.2 0 p686 q686; obtain rfl : ad684 = ad686 := (by injection e686); have qi686 : (0 < t680.length) = True := eq_true (by omega); (try rw [show ((0 : Int)).toNat = 0 from rfl] at hx686_0); (try rw [Addr.add_zero'] at hx686_0); replace p686 := eq_true p686; replace q686 := eq_true q686; have p687 : 0 ≤ (0 : Int) := (by omega); have q687 : 0 < (t643.length : Int) := oA; obtain ⟨ad687, e687, hx687_0⟩ := Kd.at_int (Kd.R_reads' HO_7.out).2.2 0 p687 q687; obtain rfl : ad685 = ad687 := (by injection e687); have qi687 : (0 < t643.length) = True := eq_true (by omega); (try rw [show ((0 : Int)).toNat = 0 from rfl] at hx687_0); (try rw [Addr.add_zero'] at hx687_0); replace p687 := eq_true p687; replace q687 := eq_true q687; have p688 : 0 ≤ (0 : Int) := (by omega); have q688 : 0 < (t680.length : Int) := oA; obtain ⟨ad688, e688, hx688_0⟩ := Kd.at_int (Kd.R_reads' HO682.out).2.2 0 p688 q688; obtain rfl : ad684 = ad688 := (by injection e688); have qi688 : (0 < t680.length) = True := eq_true (by omega); (try rw [show ((0 : Int)).toNat = 0 from rfl] at hx688_0); (try rw [Addr.add_zero'] at hx688_0); replace p688 := eq_true p688; replace q688 := eq_true q688; have p689 : 0 ≤ (0 : Int) := (by omega); have q689 : 0 < (t643.length : Int) := oA; obtain ⟨ad689, e689, hx689_0⟩ := Kd.at_int (Kd.R_reads' HO_7.out).2.2 0 p689 q689; obtain rfl : ad685 = ad689 := (by injection e689); have qi689 : (0 < t643.length) = True := eq_true (by omega); (try rw [show ((0 : Int)).toNat = 0 from rfl] at hx689_0); (try rw [Addr.add_zero'] at hx689_0); replace p689 := eq_true p689; replace q689 := eq_true q689
                            refine start_ (n := 33) (S := fun w' => w'.cell? ad684 = some (.int .i64 (rd t680 0)) ∧ w'.cell? ad685 = some (.int .i64 (rd t643 0)) ∧ w'.cell? ad684 = some (.int .i64 (rd t680 0)) ∧ w'.cell? ad685 = some (.int .i64 (rd t643 0))) (ds := []) (laws_FnChoiceCounts_up [(0, some 168), (1, some 169), (2, some 170), (3, some 171), (4, some 172), (5, some 173), (6, some 174), (7, some 175), (8, some 176), (9, some 177), (10, some 178), (11, some 179), (13, some 181), (14, some 182), (12, some 180), (15, some 183), (16, some 184), (17, some 185), (18, some 186), (19, some 187), (21, some 189), (22, some 190), (20, some 188), (23, some 191), (24, some 192), (25, some 193), (26, some 194), (27, some 195), (28, some 196), (29, some 197), (30, some 198), (31, some 199), (32, some 4)] 33) (by as_aux_lemma => kernel_rfl) rfl rfl ⟨hx686_0, hx687_0, hx688_0, hx689_0⟩ (fun hHeld => ?_); refine with_tabW laws_FnChoiceCounts.tab22 laws_FnChoiceCounts.bits22 (fun HT_ HW_ => ?_)
                            generalize w93.drew = w111 at HO_6 HO_7 HO_11 HO_14 HO_Z0 HO_Z1 HO682 BK642 HB hx686_0 hx687_0 hx688_0 hx689_0 hHeld ⊢
                            repeat (first | (refine laws_FnChoiceCounts_uS rfl rfl (any_of HT_.out (by as_aux_lemma => kernel_rfl)) (fun _ _ _ h => h) (by rfl) (a' := ?_) ?_ ?_; rotate_left; (· simp only [Act.put, List.setIfInBounds_toArray, List.set_cons_zero, List.set_cons_succ, i64_w, i32_w]; rfl)) | (refine laws_FnChoiceCounts_uP rfl rfl (any_of HT_.out (by as_aux_lemma => kernel_rfl)) (fun _ _ _ h => h) (by rfl) (v := ?_) (a' := ?_) ?_ ?_ ?_; rotate_left; (· intro w'; go_simp; with_reducible rfl); rotate_left; (· simp only [Act.put, List.setIfInBounds_toArray, List.set_cons_zero, List.set_cons_succ, i64_w, i32_w]; rfl)) | (refine laws_FnChoiceCounts_uT rfl rfl (take_ofW HT_.out HW_.out (by as_aux_lemma => kernel_rfl)) (fun _ _ _ h => h) (by rfl) (v := ?_) (a' := ?_) ?_ hHeld ?_ ?_; rotate_left; (· rintro w' ⟨s0, s1, s2, s3⟩; go_simp; with_reducible rfl); rotate_left; (· simp only [Act.put, List.setIfInBounds_toArray, List.set_cons_zero, List.set_cons_succ, i64_w, i32_w]; rfl)))
                            refine done_ (done_of HT_.out (by as_aux_lemma => kernel_rfl)) ?_
                            try go_wp2
                            go_ret
                            exact ⟨rE, bU1 HB.out GE642.out⟩
                         ·
                          rw [if_neg c88] at H
                          exact absurd H (by simp)
                        ·
                         rw [if_neg c87] at H
                         exact absurd H (by simp)
                       ·
                        rw [if_neg c86] at H; have c86b0 := beq_eq_false_iff_ne.mpr c86; have c86b1 := bne_iff_ne.mpr c86
                        by_cases c112 : (wrap64 ((rd t680 1) - (rd t643 1))) = (-1)
                        ·
                         rw [if_pos c112] at H; have c112b0 := beq_iff_eq.mpr c112; have c112b1 := bne_eq_false_iff_eq.mpr c112; clear c112
                         by_cases c113 : 0 < (t680.length : Int)
                         ·
                          rw [if_pos c113] at H; have c113b0 := decide_eq_true c113; have c113b1 : decide (0 < t680.length) = true := decide_eq_true (by omega); clear c113
                          by_cases c114 : 0 < (t643.length : Int)
                          ·
                           rw [if_pos c114] at H; have c114b0 := decide_eq_true c114; have c114b1 : decide (0 < t643.length) = true := decide_eq_true (by omega); clear c114
                           by_cases c115 : (rd t680 0) = (rd t643 0)
                           ·
                            rw [if_pos c115] at H; have c115b0 := beq_iff_eq.mpr c115; have c115b1 := bne_eq_false_iff_eq.mpr c115; clear c115; obtain rfl := Option.some.inj H; have p690 : 0 ≤ (0 : Int) := (by omega); have q690 : 0 < (t680.length : Int) := oA; obtain ⟨ad690, e690, hx690_0⟩ := Kd.at_int (Kd.R_reads' HO682.out).2.2 0 p690 q690; obtain rfl : ad684 = ad690 := (by injection e690); have qi690 : (0 < t680.length) = True := eq_true (by omega); (try rw [show ((0 : Int)).toNat = 0 from rfl] at hx690_0); (try rw [Addr.add_zero'] at hx690_0); replace p690 := eq_true p690; replace q690 := eq_true q690; have p691 : 0 ≤ (0 : Int) := (by omega); have q691 : 0 < (t643.length : Int) := oA; obtain ⟨ad691, e691, hx691_0⟩ := Kd.at_int (Kd.R_reads' HO_7.out).2.2 0 p691 q691; obtain rfl : ad685 = ad691 := (by injection e691); have qi691 : (0 < t643.length) = True := eq_true (by omega); (try rw [show ((0 : Int)).toNat = 0 from rfl] at hx691_0); (try rw [Addr.add_zero'] at hx691_0); replace p691 := eq_true p691; replace q691 := eq_true q691
                            refine start_ (n := 33) (S := fun w' => w'.cell? ad684 = some (.int .i64 (rd t680 0)) ∧ w'.cell? ad685 = some (.int .i64 (rd t643 0))) (ds := []) (laws_FnChoiceCounts_up [(0, some 168), (1, some 169), (2, some 170), (3, some 171), (4, some 172), (5, some 173), (6, some 174), (7, some 175), (8, some 176), (9, some 177), (10, some 178), (11, some 179), (13, some 181), (14, some 182), (12, some 180), (15, some 183), (16, some 184), (17, some 185), (18, some 186), (19, some 187), (20, some 188), (21, some 189), (22, some 190), (23, some 191), (24, some 192), (25, some 193), (26, some 194), (27, some 195), (28, some 196), (29, some 197), (30, some 198), (31, some 199), (32, some 4)] 33) (by as_aux_lemma => kernel_rfl) rfl rfl ⟨hx690_0, hx691_0⟩ (fun hHeld => ?_); refine with_tabW laws_FnChoiceCounts.tab22 laws_FnChoiceCounts.bits22 (fun HT_ HW_ => ?_)
                            generalize w93.drew = w122 at HO_6 HO_7 HO_11 HO_14 HO_Z0 HO_Z1 HO682 BK642 HB hx690_0 hx691_0 hHeld ⊢
                            repeat (first | (refine laws_FnChoiceCounts_uS rfl rfl (any_of HT_.out (by as_aux_lemma => kernel_rfl)) (fun _ _ _ h => h) (by rfl) (a' := ?_) ?_ ?_; rotate_left; (· simp only [Act.put, List.setIfInBounds_toArray, List.set_cons_zero, List.set_cons_succ, i64_w, i32_w]; rfl)) | (refine laws_FnChoiceCounts_uP rfl rfl (any_of HT_.out (by as_aux_lemma => kernel_rfl)) (fun _ _ _ h => h) (by rfl) (v := ?_) (a' := ?_) ?_ ?_ ?_; rotate_left; (· intro w'; go_simp; with_reducible rfl); rotate_left; (· simp only [Act.put, List.setIfInBounds_toArray, List.set_cons_zero, List.set_cons_succ, i64_w, i32_w]; rfl)) | (refine laws_FnChoiceCounts_uT rfl rfl (take_ofW HT_.out HW_.out (by as_aux_lemma => kernel_rfl)) (fun _ _ _ h => h) (by rfl) (v := ?_) (a' := ?_) ?_ hHeld ?_ ?_; rotate_left; (· rintro w' ⟨s0, s1⟩; go_simp; with_reducible rfl); rotate_left; (· simp only [Act.put, List.setIfInBounds_toArray, List.set_cons_zero, List.set_cons_succ, i64_w, i32_w]; rfl)))
                            refine done_ (done_of HT_.out (by as_aux_lemma => kernel_rfl)) ?_
                            try go_wp2
                            go_ret
                            exact ⟨rE, bU1 HB.out GE642.out⟩
                           ·
                            rw [if_neg c115] at H; have c115b0 := beq_eq_false_iff_ne.mpr c115; have c115b1 := bne_iff_ne.mpr c115
                            by_cases c123 : (rd t680 0) = (wrap64 ((rd t643 0) - 1))
                            ·
                             rw [if_pos c123] at H; have c123b0 := beq_iff_eq.mpr c123; have c123b1 := bne_eq_false_iff_eq.mpr c123; clear c123; obtain rfl := Option.some.inj H; have p690 : 0 ≤ (0 : Int) := (by omega); have q690 : 0 < (t680.length : Int) := oA; obtain ⟨ad690, e690, hx690_0⟩ := Kd.at_int (Kd.R_reads' HO682.out).2.2 0 p690 q690; obtain rfl : ad684 = ad690 := (by injection e690); have qi690 : (0 < t680.length) = True := eq_true (by omega); (try rw [show ((0 : Int)).toNat = 0 from rfl] at hx690_0); (try rw [Addr.add_zero'] at hx690_0); replace p690 := eq_true p690; replace q690 := eq_true q690; have p691 : 0 ≤ (0 : Int) := (by omega); have q691 : 0 < (t643.length : Int) := oA; obtain ⟨ad691, e691, hx691_0⟩ := Kd.at_int (Kd.R_reads' HO_7.out).2.2 0 p691 q691; obtain rfl : ad685 = ad691 := (by injection e691); have qi691 : (0 < t643.length) = True := eq_true (by omega); (try rw [show ((0 : Int)).toNat = 0 from rfl] at hx691_0); (try rw [Addr.add_zero'] at hx691_0); replace p691 := eq_true p691; replace q691 := eq_true q691; have p692 : 0 ≤ (0 : Int) := (by omega); have q692 : 0 < (t680.length : Int) := oA; obtain ⟨ad692, e692, hx692_0⟩ := Kd.at_int (Kd.R_reads' HO682.out).2.2 0 p692 q692; obtain rfl : ad684 = ad692 := (by injection e692); have qi692 : (0 < t680.length) = True := eq_true (by omega); (try rw [show ((0 : Int)).toNat = 0 from rfl] at hx692_0); (try rw [Addr.add_zero'] at hx692_0); replace p692 := eq_true p692; replace q692 := eq_true q692; have p693 : 0 ≤ (0 : Int) := (by omega); have q693 : 0 < (t643.length : Int) := oA; obtain ⟨ad693, e693, hx693_0⟩ := Kd.at_int (Kd.R_reads' HO_7.out).2.2 0 p693 q693; obtain rfl : ad685 = ad693 := (by injection e693); have qi693 : (0 < t643.length) = True := eq_true (by omega); (try rw [show ((0 : Int)).toNat = 0 from rfl] at hx693_0); (try rw [Addr.add_zero'] at hx693_0); replace p693 := eq_true p693; replace q693 := eq_true q693
                             refine start_ (n := 33) (S := fun w' => w'.cell? ad684 = some (.int .i64 (rd t680 0)) ∧ w'.cell? ad685 = some (.int .i64 (rd t643 0)) ∧ w'.cell? ad684 = some (.int .i64 (rd t680 0)) ∧ w'.cell? ad685 = some (.int .i64 (rd t643 0))) (ds := []) (laws_FnChoiceCounts_up [(0, some 168), (1, some 169), (2, some 170), (3, some 171), (4, some 172), (5, some 173), (6, some 174), (7, some 175), (8, some 176), (9, some 177), (10, some 178), (11, some 179), (13, some 181), (14, some 182), (12, some 180), (15, some 183), (16, some 184), (17, some 185), (18, some 186), (19, some 187), (21, some 189), (22, some 190), (20, some 188), (23, some 191), (24, some 192), (25, some 193), (26, some 194), (27, some 195), (28, some 196), (29, some 197), (30, some 198), (31, some 199), (32, some 4)] 33) (by as_aux_lemma => kernel_rfl) rfl rfl ⟨hx690_0, hx691_0, hx692_0, hx693_0⟩ (fun hHeld => ?_); refine with_tabW laws_FnChoiceCounts.tab22 laws_FnChoiceCounts.bits22 (fun HT_ HW_ => ?_)
                             generalize w93.drew = w130 at HO_6 HO_7 HO_11 HO_14 HO_Z0 HO_Z1 HO682 BK642 HB hx690_0 hx691_0 hx692_0 hx693_0 hHeld ⊢
                             repeat (first | (refine laws_FnChoiceCounts_uP rfl rfl (any_of HT_.out (by as_aux_lemma => kernel_rfl)) (fun _ _ _ h => h) (by rfl) (v := ?_) (a' := ?_) ?_ ?_ ?_; rotate_left; (· intro w'; go_simp; with_reducible rfl); rotate_left; (· simp only [Act.put, List.setIfInBounds_toArray, List.set_cons_zero, List.set_cons_succ, i64_w, i32_w]; rfl)) | (refine laws_FnChoiceCounts_uT rfl rfl (take_ofW HT_.out HW_.out (by as_aux_lemma => kernel_rfl)) (fun _ _ _ h => h) (by rfl) (v := ?_) (a' := ?_) ?_ hHeld ?_ ?_; rotate_left; (· rintro w' ⟨s0, s1, s2, s3⟩; go_simp; with_reducible rfl); rotate_left; (· simp only [Act.put, List.setIfInBounds_toArray, List.set_cons_zero, List.set_cons_succ, i64_w, i32_w]; rfl)))
                             refine done_ (done_of HT_.out (by as_aux_lemma => kernel_rfl)) ?_
                             try go_wp2
                             go_ret
                             exact ⟨rE, bU1 HB.out GE642.out⟩
                            ·
                             rw [if_neg c123] at H; have c123b0 := beq_eq_false_iff_ne.mpr c123; have c123b1 := bne_iff_ne.mpr c123; obtain rfl := Option.some.inj H; have p690 : 0 ≤ (0 : Int) := (by omega); have q690 : 0 < (t680.length : Int) := oA; obtain ⟨ad690, e690, hx690_0⟩ := Kd.at_int (Kd.R_reads' HO682.out).2.2 0 p690 q690; obtain rfl : ad684 = ad690 := (by injection e690); have qi690 : (0 < t680.length) = True := eq_true (by omega); (try rw [show ((0 : Int)).toNat = 0 from rfl] at hx690_0); (try rw [Addr.add_zero'] at hx690_0); replace p690 := eq_true p690; replace q690 := eq_true q690; have p691 : 0 ≤ (0 : Int) := (by omega); have q691 : 0 < (t643.length : Int) := oA; obtain ⟨ad691, e691, hx691_0⟩ := Kd.at_int (Kd.R_reads' HO_7.out).2.2 0 p691 q691; obtain rfl : ad685 = ad691 := (by injection e691); have qi691 : (0 < t643.length) = True := eq_true (by omega); (try rw [show ((0 : Int)).toNat = 0 from rfl] at hx691_0); (try rw [Addr.add_zero'] at hx691_0); replace p691 := eq_true p691; replace q691 := eq_true q691; have p692 : 0 ≤ (0 : Int) := (by omega); have q692 : 0 < (t680.length : Int) := oA; obtain ⟨ad692, e692, hx692_0⟩ := Kd.at_int (Kd.R_reads' HO682.out).2.2 0 p692 q692; obtain rfl : ad684 = ad692 := (by injection e692); have qi692 : (0 < t680.length) = True := eq_true (by omega); (try rw [show ((0 : Int)).toNat = 0 from rfl] at hx692_0); (try rw [Addr.add_zero'] at hx692_0); replace p692 := eq_true p692; replace q692 := eq_true q692; have p693 : 0 ≤ (0 : Int) := (by omega); have q693 : 0 < (t643.length : Int) := oA; obtain ⟨ad693, e693, hx693_0⟩ := Kd.at_int (Kd.R_reads' HO_7.out).2.2 0 p693 q693; obtain rfl : ad685 = ad693 := (by injection e693); have qi693 : (0 < t643.length) = True := eq_true (by omega); (try rw [show ((0 : Int)).toNat = 0 from rfl] at hx693_0); (try rw [Addr.add_zero'] at hx693_0); replace p693 := eq_true p693; replace q693 := eq_true q693
                             refine start_ (n := 33) (S := fun w' => w'.cell? ad684 = some (.int .i64 (rd t680 0)) ∧ w'.cell? ad685 = some (.int .i64 (rd t643 0)) ∧ w'.cell? ad684 = some (.int .i64 (rd t680 0)) ∧ w'.cell? ad685 = some (.int .i64 (rd t643 0))) (ds := []) (laws_FnChoiceCounts_up [(0, some 168), (1, some 169), (2, some 170), (3, some 171), (4, some 172), (5, some 173), (6, some 174), (7, some 175), (8, some 176), (9, some 177), (10, some 178), (11, some 179), (13, some 181), (14, some 182), (12, some 180), (15, some 183), (16, some 184), (17, some 185), (18, some 186), (19, some 187), (21, some 189), (22, some 190), (20, some 188), (23, some 191), (24, some 192), (25, some 193), (26, some 194), (27, some 195), (28, some 196), (29, some 197), (30, some 198), (31, some 199), (32, some 4)] 33) (by as_aux_lemma => kernel_rfl) rfl rfl ⟨hx690_0, hx691_0, hx692_0, hx693_0⟩ (fun hHeld => ?_); refine with_tabW laws_FnChoiceCounts.tab22 laws_FnChoiceCounts.bits22 (fun HT_ HW_ => ?_)
                             generalize w93.drew = w137 at HO_6 HO_7 HO_11 HO_14 HO_Z0 HO_Z1 HO682 BK642 HB hx690_0 hx691_0 hx692_0 hx693_0 hHeld ⊢
                             repeat (first | (refine laws_FnChoiceCounts_uS rfl rfl (any_of HT_.out (by as_aux_lemma => kernel_rfl)) (fun _ _ _ h => h) (by rfl) (a' := ?_) ?_ ?_; rotate_left; (· simp only [Act.put, List.setIfInBounds_toArray, List.set_cons_zero, List.set_cons_succ, i64_w, i32_w]; rfl)) | (refine laws_FnChoiceCounts_uP rfl rfl (any_of HT_.out (by as_aux_lemma => kernel_rfl)) (fun _ _ _ h => h) (by rfl) (v := ?_) (a' := ?_) ?_ ?_ ?_; rotate_left; (· intro w'; go_simp; with_reducible rfl); rotate_left; (· simp only [Act.put, List.setIfInBounds_toArray, List.set_cons_zero, List.set_cons_succ, i64_w, i32_w]; rfl)) | (refine laws_FnChoiceCounts_uT rfl rfl (take_ofW HT_.out HW_.out (by as_aux_lemma => kernel_rfl)) (fun _ _ _ h => h) (by rfl) (v := ?_) (a' := ?_) ?_ hHeld ?_ ?_; rotate_left; (· rintro w' ⟨s0, s1, s2, s3⟩; go_simp; with_reducible rfl); rotate_left; (· simp only [Act.put, List.setIfInBounds_toArray, List.set_cons_zero, List.set_cons_succ, i64_w, i32_w]; rfl)))
                             refine done_ (done_of HT_.out (by as_aux_lemma => kernel_rfl)) ?_
                             try go_wp2
                             go_ret
                             exact ⟨rE, bU1 HB.out GE642.out⟩
                          ·
                           rw [if_neg c114] at H
                           exact absurd H (by simp)
                         ·
                          rw [if_neg c113] at H
                          exact absurd H (by simp)
                        ·
                         rw [if_neg c112] at H; have c112b0 := beq_eq_false_iff_ne.mpr c112; have c112b1 := bne_iff_ne.mpr c112; obtain rfl := Option.some.inj H
                         refine start_ (n := 33) (S := fun w' => True) (ds := []) (laws_FnChoiceCounts_up [(0, some 168), (1, some 169), (2, some 170), (3, some 171), (4, some 172), (5, some 173), (6, some 174), (7, some 175), (8, some 176), (9, some 177), (10, some 178), (11, some 179), (12, some 180), (13, some 181), (14, some 182), (15, some 183), (16, some 184), (17, some 185), (18, some 186), (19, some 187), (20, some 188), (21, some 189), (22, some 190), (23, some 191), (24, some 192), (25, some 193), (26, some 194), (27, some 195), (28, some 196), (29, some 197), (30, some 198), (31, some 199), (32, some 4)] 33) (by as_aux_lemma => kernel_rfl) rfl rfl trivial (fun hHeld => ?_); refine with_tabW laws_FnChoiceCounts.tab22 laws_FnChoiceCounts.bits22 (fun HT_ HW_ => ?_)
                         generalize w93.drew = w144 at HO_6 HO_7 HO_11 HO_14 HO_Z0 HO_Z1 HO682 BK642 HB hHeld ⊢
                         repeat (first | (refine laws_FnChoiceCounts_uS rfl rfl (any_of HT_.out (by as_aux_lemma => kernel_rfl)) (fun _ _ _ h => h) (by rfl) (a' := ?_) ?_ ?_; rotate_left; (· simp only [Act.put, List.setIfInBounds_toArray, List.set_cons_zero, List.set_cons_succ, i64_w, i32_w]; rfl)) | (refine laws_FnChoiceCounts_uP rfl rfl (any_of HT_.out (by as_aux_lemma => kernel_rfl)) (fun _ _ _ h => h) (by rfl) (v := ?_) (a' := ?_) ?_ ?_ ?_; rotate_left; (· intro w'; go_simp; with_reducible rfl); rotate_left; (· simp only [Act.put, List.setIfInBounds_toArray, List.set_cons_zero, List.set_cons_succ, i64_w, i32_w]; rfl)))
                         refine done_ (done_of HT_.out (by as_aux_lemma => kernel_rfl)) ?_
                         try go_wp2
                         go_ret
                         exact ⟨rE, bU1 HB.out GE642.out⟩
                      ·
                       replace c85 := Bool.eq_false_iff.mpr c85; subst c85
                       have H1 : (some false) = some r := by rw [if_neg (show ¬ (false = true) by decide)] at H; exact H
                       clear H; have H := H1; clear H1; obtain rfl := Option.some.inj H
                       refine start_ (n := 33) (S := fun w' => True) (ds := []) (laws_FnChoiceCounts_up [(0, some 168), (1, some 169), (2, some 170), (3, some 171), (4, some 172), (5, some 173), (6, some 174), (7, some 175), (8, some 176), (9, some 177), (10, some 178), (11, some 179), (12, some 180), (13, some 181), (14, some 182), (15, some 183), (16, some 184), (17, some 185), (18, some 186), (19, some 187), (20, some 188), (21, some 189), (22, some 190), (23, some 191), (24, some 192), (25, some 193), (26, some 194), (27, some 195), (28, some 196), (29, some 197), (30, some 198), (31, some 199), (32, some 4)] 33) (by as_aux_lemma => kernel_rfl) rfl rfl trivial (fun hHeld => ?_); refine with_tabW laws_FnChoiceCounts.tab22 laws_FnChoiceCounts.bits22 (fun HT_ HW_ => ?_)
                       generalize w93.drew = w151 at HO_6 HO_7 HO_11 HO_14 HO_Z0 HO_Z1 HO682 BK642 HB hHeld ⊢
                       repeat (first | (refine laws_FnChoiceCounts_uS rfl rfl (any_of HT_.out (by as_aux_lemma => kernel_rfl)) (fun _ _ _ h => h) (by rfl) (a' := ?_) ?_ ?_; rotate_left; (· simp only [Act.put, List.setIfInBounds_toArray, List.set_cons_zero, List.set_cons_succ, i64_w, i32_w]; rfl)) | (refine laws_FnChoiceCounts_uP rfl rfl (any_of HT_.out (by as_aux_lemma => kernel_rfl)) (fun _ _ _ h => h) (by rfl) (v := ?_) (a' := ?_) ?_ ?_ ?_; rotate_left; (· intro w'; go_simp; with_reducible rfl); rotate_left; (· simp only [Act.put, List.setIfInBounds_toArray, List.set_cons_zero, List.set_cons_succ, i64_w, i32_w]; rfl)))
                       refine done_ (done_of HT_.out (by as_aux_lemma => kernel_rfl)) ?_
                       try go_wp2
                       go_ret
                       exact ⟨rE, bU1 HB.out GE642.out⟩
                     ·
                      rw [if_neg c84] at H
                      exact absurd H (by simp)
                    ·
                     rw [if_neg c83] at H
                     exact absurd H (by simp)
                  ·
                   rw [if_neg c73] at H
                   exact absurd H (by simp)
             ·
              rw [if_neg c65] at H
              exact absurd H (by simp)
def laws_FnChoiceCounts.Pure : Prop := ∀ (l0 : List Int) (l1 : List Int), l0.length ≤ maxLen → l0.length * 1 ≤ 140737488351232 → (∀ x ∈ l0, (Lit.int .u8 x).wf = true) → l1.length ≤ maxLen → l1.length * 1 ≤ 140737488351232 → (∀ x ∈ l1, (Lit.int .u8 x).wf = true) → ∃ k, laws_FnChoiceCounts.f k l0 l1 = some true
theorem laws_FnChoiceCounts.walk (P : laws_FnChoiceCounts.Pure) (a0 : Option Addr) (len0 cap0 : Nat) (z0 : List Int) (a1 : Option Addr) (len1 cap1 : Nat) (z1 : List Int) (w : World) (w0 : (a0 = none ∧ len0 = 0 ∧ cap0 = 0 ∧ z0 = []) ∨ ∃ x, a0 = some x ∧ len0 ≤ cap0 ∧ cap0 ≤ maxLen ∧ z0.length = cap0 ∧ (∀ i, i < z0.length → w.cell? (x.add i) = some (.int .u8 (z0.getD i 0))) ∧ ∀ n ∈ z0, (Lit.int .u8 n).wf = true) (y0 : len0 * 1 ≤ 140737488351232) (w1 : (a1 = none ∧ len1 = 0 ∧ cap1 = 0 ∧ z1 = []) ∨ ∃ x, a1 = some x ∧ len1 ≤ cap1 ∧ cap1 ≤ maxLen ∧ z1.length = cap1 ∧ (∀ i, i < z1.length → w.cell? (x.add i) = some (.int .u8 (z1.getD i 0))) ∧ ∀ n ∈ z1, (Lit.int .u8 n).wf = true) (y1 : len1 * 1 ≤ 140737488351232) :
  Calls Try.prog 6 #[.slice a0 len0 cap0, .slice a1 len1 cap1] w fun e w' => e = .returned (.bool true) ∧ Below w.heap.size w w' := by
 obtain ⟨l0, rfl, hr0, hm0, hw0, hc0⟩ := ReadsInt.ofRowC w0; obtain ⟨l1, rfl, hr1, hm1, hw1, hc1⟩ := ReadsInt.ofRowC w1; obtain ⟨k, h⟩ := P l0 l1 hm0 y0 hw0 hm1 y1 hw1
 refine (laws_FnChoiceCounts.calls k _ _ l0 _ _ l1 true w (Kd.C_of_reads (d := (0 : Int)) (h1 := fun _ => rfl) hr0) hc0 (Kd.C_of_reads (d := (0 : Int)) (h1 := fun _ => rfl) hr1) hc1 h).mono ?_
 rintro e w' ⟨rfl, hd⟩
 exact ⟨rfl, hd⟩
end Go.Proofs.Ytjgknblneokhlaa.PI

set_option linter.unusedVariables false
set_option linter.unusedSimpArgs false
namespace Go.Proofs.Ytjgknblneokhlaa.PI
open Go.RowKit Go.Proofs.YtjgknblneokhlaaW.PrintWords Go.Proofs.YtjgknblneokhlaaW.PrintLast Go.Proofs.YtjgknblneokhlaaW.PrintMore
theorem Ev.s {α : Type} {g : Nat → Option α} {r : α} (h : Ev (fun k => g (k + 1)) r) : Ev g r := Ev.step (fun _ => rfl) h
theorem Ev.const {α : Type} {o : Option α} {r : α} (h : o = some r) : Ev (fun _ => o) r := ⟨0, fun _ _ => h⟩
theorem Ev.uniq {α : Type} {g : Nat → Option α} {r r' : α} (h : Ev g r) (h' : Ev g r') : r = r' := by
  obtain ⟨K, h⟩ := h
  obtain ⟨K', h'⟩ := h'
  have h1 := h (max K K') (by omega)
  rw [h' (max K K') (by omega)] at h1
  exact (Option.some.inj h1).symm
theorem w64 {x : Int} (h1 : -9223372036854775808 ≤ x) (h2 : x < 9223372036854775808) : wrap64 x = x := by unfold wrap64; omega
theorem w64r {x : Int} (h : -9223372036854775808 ≤ x ∧ x < 9223372036854775808) : wrap64 x = x := w64 h.1 h.2
theorem w64n {i : Nat} (h : i < 4611686018427387904) : wrap64 ((i : Int) + 1) = ((i + 1 : Nat) : Int) := by rw [w64 (by omega) (by omega)]; omega
theorem xor_nonneg (a b : Int) (ha : 0 ≤ a) (hb : 0 ≤ b) (ha' : a < 9223372036854775808) (hb' : b < 9223372036854775808) : 0 ≤ Go.bits .xor .i64 a b := by
  obtain ⟨n, rfl⟩ := Int.eq_ofNat_of_zero_le ha
  obtain ⟨m, rfl⟩ := Int.eq_ofNat_of_zero_le hb
  have hn : n % 2 ^ 64 = n := Nat.mod_eq_of_lt (by omega)
  have hm : m % 2 ^ 64 = m := Nat.mod_eq_of_lt (by omega)
  have hx : n ^^^ m < 2 ^ 63 := Nat.xor_lt_two_pow (by omega) (by omega)
  have e : Go.bits .xor .i64 (n : Int) (m : Int) = IntKind.i64.wrap ((n ^^^ m : Nat) : Int) := by
    simp only [Go.bits, BitVec.ofInt_natCast]
    show IntKind.i64.wrap (((BitVec.ofNat 64 n ^^^ BitVec.ofNat 64 m).toNat : Nat) : Int) = _
    rw [BitVec.toNat_xor, BitVec.toNat_ofNat, BitVec.toNat_ofNat, hn, hm]
  rw [e, IntKind.wrap_i64]
  omega
def bytesOk (l : List Int) : Prop := l.length ≤ 2000 ∧ ∀ x ∈ l, 0 ≤ x ∧ x ≤ 255
theorem rd_byte (l : List Int) (h : bytesOk l) (i : Int) : 0 ≤ rd l i ∧ rd l i ≤ 255 := by
  unfold rd
  by_cases hi : i.toNat < l.length
  · rw [List.getD_eq_getElem?_getD, List.getElem?_eq_getElem hi]
    exact h.2 _ (List.getElem_mem hi)
  · rw [List.getD_eq_getElem?_getD, List.getElem?_eq_none (by omega)]
    decide
theorem pick_ev (l : List Int) (h : bytesOk l) (p : Int) (hp : 0 ≤ p) (hp' : p ≤ 1000000) (n : Int) (hn : 1 ≤ n) (hn' : n ≤ 1000000) : ∃ v, Ev (fun k => spec_l6Rd_pick.f k l p n) (v, p + 1) ∧ 0 ≤ v ∧ v < n := by
  have w0 : wrap64 (p + 1) = p + 1 := w64 (by omega) (by omega)
  have w1 : wrap64 (p + 1 - 1) = p := by rw [w64 (by omega) (by omega)]; omega
  have hl := h.1
  unfold spec_l6Rd_pick.f
  simp only [show ¬ n < 1 by omega, if_false, w0]
  by_cases hz : l.length = 0
  · refine ⟨0, Ev.s ?_, by omega, by omega⟩
    have : (((l.length : Int)) == 0) = true := by simp [hz]
    simp only [this, spec_l6Rd_pick.j0, if_true]
    exact Ev.const rfl
  · have hb : (((l.length : Int)) == 0) = false := by rw [beq_eq_false_iff_ne]; omega
    have hn0 : ¬ n = 0 := by omega
    by_cases hlt : p < (l.length : Int)
    · have hr := rd_byte l h p
      have wr : wrap64 (rd l p) = rd l p := w64 (by omega) (by omega)
      refine ⟨Int.tmod (rd l p) n, Ev.s ?_, Int.tmod_nonneg _ (by omega), Int.tmod_lt_of_pos _ (by omega)⟩
      simp only [hb, spec_l6Rd_pick.j0, w1, hlt, hp, hn0, wr, Bool.false_eq_true, if_true, if_false]
      exact Ev.const rfl
    · have hl0 : ¬ (l.length : Int) = 0 := by omega
      have wk : wrap64 (p * 7) = p * 7 := w64 (by omega) (by omega)
      have wk3 : wrap64 (p * 7 + 3) = p * 7 + 3 := w64 (by omega) (by omega)
      have t1 := Int.tmod_nonneg (a := p) (l.length : Int) hp
      have t2 := Int.tmod_lt_of_pos p (b := (l.length : Int)) (by omega)
      have t3 := Int.tmod_nonneg (a := p * 7 + 3) (l.length : Int) (by omega)
      have t4 := Int.tmod_lt_of_pos (p * 7 + 3) (b := (l.length : Int)) (by omega)
      have r1 := rd_byte l h (Int.tmod p (l.length : Int))
      have r2 := rd_byte l h (Int.tmod (p * 7 + 3) (l.length : Int))
      have d1 : 0 ≤ Int.tdiv p (l.length : Int) := Int.tdiv_nonneg hp (by omega)
      have d2 : Int.tdiv p (l.length : Int) ≤ p := Int.tdiv_le_self _ hp
      obtain ⟨X, hX, hX0, hX1⟩ : ∃ X, (wrap64 ((wrap64 ((wrap64 ((wrap64 ((wrap64 (rd l (Int.tmod p (l.length : Int)))) * 131)) + (wrap64 ((wrap64 (rd l (Int.tmod (p * 7 + 3) (l.length : Int)))) * 1117)))) + (wrap64 (p * 29)))) + (wrap64 ((wrap64 (Int.tdiv p (l.length : Int))) * 53)))) = X ∧ 0 ≤ X ∧ X < 4611686018427387904 := by
        refine ⟨_, rfl, ?_, ?_⟩
        all_goals
          generalize rd l (Int.tmod p (l.length : Int)) = a at *
          generalize rd l (Int.tmod (p * 7 + 3) (l.length : Int)) = b at *
          generalize Int.tdiv p (l.length : Int) = c at *
          rw [w64 (x := a) (by omega) (by omega), w64 (x := b) (by omega) (by omega), w64 (x := a * 131) (by omega) (by omega), w64 (x := b * 1117) (by omega) (by omega), w64 (x := a * 131 + b * 1117) (by omega) (by omega), w64 (x := p * 29) (by omega) (by omega), w64 (x := a * 131 + b * 1117 + p * 29) (by omega) (by omega), w64 (x := c) (by omega) (by omega), w64 (x := c * 53) (by omega) (by omega), w64 (x := a * 131 + b * 1117 + p * 29 + c * 53) (by omega) (by omega)]
          omega
      have hd : 0 ≤ wrap64 (Int.tdiv X 64) ∧ wrap64 (Int.tdiv X 64) < 9223372036854775808 := by
        have := Int.tdiv_nonneg hX0 (show (0 : Int) ≤ 64 by decide)
        have := Int.tdiv_le_self 64 hX0
        rw [w64 (by omega) (by omega)]
        omega
      have hx := xor_nonneg X (wrap64 (Int.tdiv X 64)) hX0 hd.1 (by omega) hd.2
      refine ⟨Int.tmod (Go.bits .xor .i64 X (wrap64 (Int.tdiv X 64))) n, Ev.s ?_, Int.tmod_nonneg _ hx, Int.tmod_lt_of_pos _ (by omega)⟩
      simp only [hb, spec_l6Rd_pick.j0, w1, hlt, hl0, wk, wk3, t1, t2, t3, t4, hn0, hX, Bool.false_eq_true, if_true, if_false]
      exact Ev.const rfl
theorem open_ev (l : List Int) (hb : ∀ x ∈ l, (Lit.int .u8 x).wf = true) : ∃ l', spec_l6Open.f l = some (l', 0) ∧ bytesOk l' := by
  have hb' : ∀ x ∈ l, 0 ≤ x ∧ x ≤ 255 := by
    intro x hx
    have := hb x hx
    simp only [Lit.wf, IntKind.min, IntKind.max, IntKind.signed, IntKind.bits, Bool.and_eq_true, decide_eq_true_eq, Bool.false_eq_true, if_false] at this
    omega
  unfold spec_l6Open.f
  by_cases h : (l.length : Int) > 2000
  · refine ⟨l.take 2000, ?_, ?_, fun x hx => hb' x (List.mem_of_mem_take hx)⟩
    · rw [if_pos h, if_pos (by omega)]
    · rw [List.length_take]; omega
  · exact ⟨l, by rw [if_neg h], by omega, hb'⟩
theorem rd_lt (l : List Int) (i : Nat) (h : i < l.length) : rd l (i : Int) = l[i] := by
  unfold rd
  rw [Int.toNat_natCast, List.getD_eq_getElem?_getD, List.getElem?_eq_getElem h]
  rfl
def okAt (l : List Int) (i : Nat) : Prop := 0 ≤ rd l i ∧ rd l i < l.length ∧ ∀ k : Nat, k < i → rd l k ≠ rd l i
def isPerm (l : List Int) : Prop := 1 ≤ l.length ∧ l.length ≤ 12 ∧ ∀ i : Nat, i < l.length → okAt l i
theorem l6In_eq (a b c : Int) : spec_l6In.f a b c = some (decide (b ≤ a ∧ a ≤ c)) := by
  unfold spec_l6In.f
  by_cases h1 : a ≥ b
  · by_cases h2 : a ≤ c <;> simp [h1, h2]
  · simp [h1]
theorem specPerm_in (l : List Int) (hl : l.length ≤ 1048576) (i : Nat) (hi : i < l.length) : ∀ (d k : Nat), i - k = d → k ≤ i →
    ((∀ q : Nat, k ≤ q → q < i → rd l q ≠ rd l i) → ∀ r, Ev (fun z => spec_PermValid.l0 z l ((i + 1 : Nat) : Int)) r → Ev (fun z => spec_PermValid.l1 z l i k) r) ∧
    (¬ (∀ q : Nat, k ≤ q → q < i → rd l q ≠ rd l i) → Ev (fun z => spec_PermValid.l1 z l i k) false)
  | 0, k, hd, hk => by
    refine ⟨fun _ r h => Ev.s ?_, fun h => absurd (fun q h1 h2 => by omega) h⟩
    simp only [spec_PermValid.l1, show ¬ (k : Int) < (i : Int) by omega, if_false]
    rw [w64 (x := (i : Int) + 1) (by omega) (by omega), show ((i : Int) + 1) = ((i + 1 : Nat) : Int) by omega]
    exact h
  | d + 1, k, hd, hk => by
    have ih := specPerm_in l hl i hi d (k + 1) (by omega) (by omega)
    have hw : wrap64 ((k : Int) + 1) = ((k + 1 : Nat) : Int) := by rw [w64 (by omega) (by omega)]; omega
    by_cases e : rd l k = rd l i
    · refine ⟨fun h => absurd e (h k (Nat.le_refl _) (by omega)), fun h => Ev.s ?_⟩
      simp only [spec_PermValid.l1, show (k : Int) < (i : Int) by omega, show (0 : Int) ≤ k by omega, show (k : Int) < (l.length : Int) by omega, show (0 : Int) ≤ i by omega, show (i : Int) < (l.length : Int) by omega, e, if_true]
      exact Ev.const rfl
    · refine ⟨fun h r hr => Ev.s ?_, fun h => Ev.s ?_⟩
      · simp only [spec_PermValid.l1, show (k : Int) < (i : Int) by omega, show (0 : Int) ≤ k by omega, show (k : Int) < (l.length : Int) by omega, show (0 : Int) ≤ i by omega, show (i : Int) < (l.length : Int) by omega, e, if_true, if_false, hw]
        exact ih.1 (fun q h1 h2 => h q (by omega) h2) r hr
      · simp only [spec_PermValid.l1, show (k : Int) < (i : Int) by omega, show (0 : Int) ≤ k by omega, show (k : Int) < (l.length : Int) by omega, show (0 : Int) ≤ i by omega, show (i : Int) < (l.length : Int) by omega, e, if_true, if_false, hw]
        refine ih.2 fun h' => h fun q h1 h2 => ?_
        by_cases eq : q = k
        · rw [eq]; exact e
        · exact h' q (by omega) h2
theorem specPerm_run (l : List Int) (hl : l.length ≤ 1048576) : ∀ (d i : Nat), l.length - i = d → i ≤ l.length →
    ((∀ q : Nat, i ≤ q → q < l.length → okAt l q) → Ev (fun z => spec_PermValid.l0 z l i) (decide (1 ≤ (l.length : Int) ∧ (l.length : Int) ≤ 12))) ∧
    (¬ (∀ q : Nat, i ≤ q → q < l.length → okAt l q) → Ev (fun z => spec_PermValid.l0 z l i) false)
  | 0, i, hd, hi => by
    refine ⟨fun _ => Ev.s ?_, fun h => absurd (fun q h1 h2 => by omega) h⟩
    simp only [spec_PermValid.l0, show ¬ (i : Int) < (l.length : Int) by omega, if_false, l6In_eq, Option.bind_some]
    exact Ev.const rfl
  | d + 1, i, hd, hi => by
    have hlt : i < l.length := by omega
    have ih := specPerm_run l hl d (i + 1) (by omega) (by omega)
    have hin := specPerm_in l hl i hlt i 0 (by omega) (by omega)
    have hwl : wrap64 ((l.length : Int) - 1) = (l.length : Int) - 1 := w64 (by omega) (by omega)
    by_cases hr : 0 ≤ rd l i ∧ rd l i ≤ (l.length : Int) - 1
    · by_cases hn : ∀ q : Nat, 0 ≤ q → q < i → rd l q ≠ rd l i
      · refine ⟨fun h => Ev.s ?_, fun h => Ev.s ?_⟩
        · simp only [spec_PermValid.l0, show (i : Int) < (l.length : Int) by omega, show (0 : Int) ≤ i by omega, if_true, l6In_eq, Option.bind_some, hwl, hr, decide_true, and_self]
          exact hin.1 hn _ (ih.1 fun q h1 h2 => h q (by omega) h2)
        · simp only [spec_PermValid.l0, show (i : Int) < (l.length : Int) by omega, show (0 : Int) ≤ i by omega, if_true, l6In_eq, Option.bind_some, hwl, hr, decide_true, and_self]
          refine hin.1 hn _ (ih.2 fun h' => h fun q h1 h2 => ?_)
          by_cases e : q = i
          · rw [e]; exact ⟨hr.1, by omega, fun k hk => hn k (by omega) hk⟩
          · exact h' q (by omega) h2
      · refine ⟨fun h => absurd (fun q _ h2 => (h i (Nat.le_refl _) hlt).2.2 q h2) hn, fun h => Ev.s ?_⟩
        simp only [spec_PermValid.l0, show (i : Int) < (l.length : Int) by omega, show (0 : Int) ≤ i by omega, if_true, l6In_eq, Option.bind_some, hwl, hr, decide_true, and_self]
        exact hin.2 hn
    · refine ⟨fun h => absurd ⟨(h i (Nat.le_refl _) hlt).1, by have := (h i (Nat.le_refl _) hlt).2.1; omega⟩ hr, fun h => Ev.s ?_⟩
      simp only [spec_PermValid.l0, show (i : Int) < (l.length : Int) by omega, show (0 : Int) ≤ i by omega, if_true, l6In_eq, Option.bind_some, hwl, hr, decide_false, Bool.false_eq_true, if_false]
      exact Ev.const rfl
theorem implPerm_run (l : List Int) (hl : l.length ≤ 12) : ∀ (d i : Nat) (s : List Bool), l.length - i = d → i ≤ l.length → s.length = 12 → (∀ v : Nat, v < 12 → (s.getD v false = true ↔ ∃ k : Nat, k < i ∧ rd l k = v)) →
    ((∀ q : Nat, i ≤ q → q < l.length → okAt l q) → Ev (fun z => impl_PermValid.l0 z l s i) true) ∧
    (¬ (∀ q : Nat, i ≤ q → q < l.length → okAt l q) → Ev (fun z => impl_PermValid.l0 z l s i) false)
  | 0, i, s, hd, hi, hs, hv => by
    refine ⟨fun _ => Ev.s ?_, fun h => absurd (fun q h1 h2 => by omega) h⟩
    simp only [impl_PermValid.l0, show ¬ (i : Int) < (l.length : Int) by omega, if_false]
    exact Ev.const rfl
  | d + 1, i, s, hd, hi, hs, hv => by
    have hlt : i < l.length := by omega
    have hd1 : l.length - (i + 1) = d := by omega
    have hw : wrap64 ((i : Int) + 1) = ((i + 1 : Nat) : Int) := by rw [w64 (by omega) (by omega)]; omega
    by_cases h0 : rd l i < 0
    · refine ⟨fun h => absurd (h i (Nat.le_refl _) hlt).1 (by omega), fun h => Ev.s ?_⟩
      simp only [impl_PermValid.l0, show (i : Int) < (l.length : Int) by omega, show (0 : Int) ≤ i by omega, h0, if_true]
      exact Ev.const rfl
    · by_cases h1 : rd l i ≥ (l.length : Int)
      · refine ⟨fun h => absurd (h i (Nat.le_refl _) hlt).2.1 (by omega), fun h => Ev.s ?_⟩
        simp only [impl_PermValid.l0, show (i : Int) < (l.length : Int) by omega, show (0 : Int) ≤ i by omega, h0, h1, if_true, if_false]
        exact Ev.const rfl
      · have hvi := hv (rd l i).toNat (by omega)
        have hcast : (((rd l i).toNat : Nat) : Int) = rd l i := by omega
        rw [hcast] at hvi
        by_cases h2 : s.getD (rd l i).toNat false = true
        · obtain ⟨k, hk, hke⟩ := hvi.1 h2
          refine ⟨fun h => absurd hke ((h i (Nat.le_refl _) hlt).2.2 k hk), fun h => Ev.s ?_⟩
          simp only [impl_PermValid.l0, show (i : Int) < (l.length : Int) by omega, show (0 : Int) ≤ i by omega, h0, h1, h2, if_true, if_false]
          exact Ev.const rfl
        · have hnew : ∀ k : Nat, k < i → rd l k ≠ rd l i := fun k hk e => h2 (hvi.2 ⟨k, hk, e⟩)
          have ih := implPerm_run l hl d (i + 1) (s.set (rd l i).toNat true) hd1 hlt (by simpa using hs) (fun v hv12 => by
            by_cases ev : v = (rd l i).toNat
            · subst ev
              rw [List.getD_eq_getElem?_getD, List.getElem?_set_self (by omega)]
              simp only [Option.getD_some, true_iff]
              exact ⟨i, Nat.lt_succ_self i, hcast.symm⟩
            · rw [List.getD_eq_getElem?_getD, List.getElem?_set_ne (Ne.symm ev), ← List.getD_eq_getElem?_getD, hv v hv12]
              constructor
              · rintro ⟨k, hk, hke⟩; exact ⟨k, by omega, hke⟩
              · rintro ⟨k, hk, hke⟩
                by_cases e : k = i
                · subst e; omega
                · exact ⟨k, by omega, hke⟩)
          refine ⟨fun h => Ev.s ?_, fun h => Ev.s ?_⟩
          · simp only [impl_PermValid.l0, show (i : Int) < (l.length : Int) by omega, show (0 : Int) ≤ i by omega, h0, h1, h2, if_true, if_false, hw]
            exact ih.1 fun q g1 g2 => h q (by omega) g2
          · simp only [impl_PermValid.l0, show (i : Int) < (l.length : Int) by omega, show (0 : Int) ≤ i by omega, h0, h1, h2, if_true, if_false, hw]
            refine ih.2 fun h' => h fun q g1 g2 => ?_
            by_cases e : q = i
            · rw [e]; exact ⟨by omega, by omega, hnew⟩
            · exact h' q (by omega) g2
theorem permValid_both (l : List Int) (hl : l.length ≤ 1048576) : ∃ b : Bool, Ev (fun k => spec_PermValid.f k l) b ∧ Ev (fun k => impl_PermValid.f k l) b ∧ (b = true ↔ isPerm l) := by
  unfold spec_PermValid.f impl_PermValid.f
  have hs := specPerm_run l hl l.length 0 (by omega) (by omega)
  by_cases hall : ∀ q : Nat, 0 ≤ q → q < l.length → okAt l q
  · refine ⟨decide (1 ≤ (l.length : Int) ∧ (l.length : Int) ≤ 12), hs.1 hall, ?_, ?_⟩
    · by_cases h1 : (l.length : Int) < 1
      · simp only [h1, if_true]
        exact Ev.const (by congr 1; symm; rw [decide_eq_false_iff_not]; omega)
      · by_cases h2 : (l.length : Int) > 12
        · simp only [h1, h2, if_true, if_false]
          exact Ev.const (by congr 1; symm; rw [decide_eq_false_iff_not]; omega)
        · simp only [h1, h2, if_false]
          rw [decide_eq_true (by omega)]
          refine (implPerm_run l (by omega) l.length 0 _ (by omega) (by omega) (by simp) fun v hv => ?_).1 hall
          constructor
          · intro h
            rw [List.getD_eq_getElem?_getD, List.getElem?_replicate, if_pos hv] at h
            cases h
          · rintro ⟨k, hk, _⟩; omega
    · rw [decide_eq_true_eq]
      exact ⟨fun h => ⟨by omega, by omega, fun i hi => hall i (by omega) hi⟩, fun h => ⟨by have := h.1; omega, by have := h.2.1; omega⟩⟩
  · refine ⟨false, hs.2 hall, ?_, ?_⟩
    · by_cases h1 : (l.length : Int) < 1
      · simp only [h1, if_true]; exact Ev.const rfl
      · by_cases h2 : (l.length : Int) > 12
        · simp only [h1, h2, if_true, if_false]; exact Ev.const rfl
        · simp only [h1, h2, if_false]
          refine (implPerm_run l (by omega) l.length 0 _ (by omega) (by omega) (by simp) fun v hv => ?_).2 hall
          constructor
          · intro h
            rw [List.getD_eq_getElem?_getD, List.getElem?_replicate, if_pos hv] at h
            cases h
          · rintro ⟨k, hk, _⟩; omega
    · exact ⟨fun h => (by cases h), fun h => absurd (fun q _ hq => h.2.2 q hq) hall⟩
def stl (n : Nat) : List Int := (List.range n).map fun (i : Nat) => (i : Int)
theorem stl_length (n : Nat) : (stl n).length = n := by simp [stl]
theorem stl_rd (n i : Nat) (h : i < n) : rd (stl n) i = i := by
  rw [rd_lt _ _ (by rw [stl_length]; exact h)]
  simp [stl]
theorem stl_succ (n : Nat) : stl (n + 1) = stl n ++ [(n : Int)] := by simp [stl, List.range_succ]
theorem rd_set_self (l : List Int) (i : Nat) (v : Int) (h : i < l.length) : rd (l.set i v) i = v := by
  rw [rd_lt _ _ (by simpa using h)]; simp
theorem rd_set_ne (l : List Int) (i j : Nat) (v : Int) (h : i ≠ j) : rd (l.set i v) j = rd l j := by
  unfold rd
  rw [Int.toNat_natCast, List.getD_eq_getElem?_getD, List.getD_eq_getElem?_getD, List.getElem?_set_ne h]
theorem rd_app_lt (l m : List Int) (i : Nat) (h : i < l.length) : rd (l ++ m) i = rd l i := by
  unfold rd
  rw [Int.toNat_natCast, List.getD_eq_getElem?_getD, List.getD_eq_getElem?_getD, List.getElem?_append_left h]
theorem list_ext (a b : List Int) (h : a.length = b.length) (hr : ∀ i : Nat, i < a.length → rd a i = rd b i) : a = b := by
  refine List.ext_getElem h fun i h1 h2 => ?_
  have := hr i h1
  rwa [rd_lt a i h1, rd_lt b i h2] at this
theorem same_run (n : Nat) (hn : n ≤ 1048576) : ∀ (d i : Nat), n - i = d → i ≤ n → Ev (fun k => spec_l1Same.l0 k n (stl i) i) (stl n)
  | 0, i, hd, hi => by
    refine Ev.s ?_
    simp only [spec_l1Same.l0, show ¬ (i : Int) < (n : Int) by omega, if_false]
    have : i = n := by omega
    subst this
    exact Ev.const rfl
  | d + 1, i, hd, hi => by
    refine Ev.s ?_
    simp only [spec_l1Same.l0, show (i : Int) < (n : Int) by omega, if_true, stl_length, show i < 17592186044416 by omega]
    rw [w64 (x := (i : Int) + 1) (by omega) (by omega), show ((i : Int) + 1) = ((i + 1 : Nat) : Int) by omega, ← stl_succ]
    exact same_run n hn d (i + 1) (by omega) (by omega)
theorem same_ev (n : Nat) (hn : n ≤ 1048576) : Ev (fun k => spec_l1Same.f k n) (stl n) := by
  unfold spec_l1Same.f
  exact same_run n hn n 0 (by omega) (by omega)
theorem still_run (n : Nat) (hn : n ≤ 1048576) : ∀ (d i : Nat) (l : List Int), n - i = d → i ≤ n → l.length = n → l.take i = (stl n).take i → Ev (fun k => impl_still.l0 k l n i) (stl n)
  | 0, i, l, hd, hi, hl, ht => by
    refine Ev.s ?_
    simp only [impl_still.l0, show ¬ (i : Int) < (n : Int) by omega, if_false]
    have : i = n := by omega
    subst this
    have e : (stl i).take i = stl i := by rw [List.take_of_length_le]; rw [stl_length]; exact Nat.le_refl _
    rw [e, List.take_of_length_le (by omega)] at ht
    exact Ev.const (by rw [ht])
  | d + 1, i, l, hd, hi, hl, ht => by
    have hlt : i < l.length := by omega
    refine Ev.s ?_
    simp only [impl_still.l0, show (i : Int) < (n : Int) by omega, show (0 : Int) ≤ i by omega, show (i : Int) < (l.length : Int) by omega, if_true]
    rw [w64 (x := (i : Int) + 1) (by omega) (by omega), show ((i : Int) + 1) = ((i + 1 : Nat) : Int) by omega, Int.toNat_natCast]
    refine still_run n hn d (i + 1) _ (by omega) (by omega) (by simpa using hl) ?_
    have h2 : i < (stl n).length := by rw [stl_length]; omega
    rw [List.take_succ_eq_append_getElem (by simpa using hlt), List.take_succ_eq_append_getElem h2, List.take_set_of_le (Nat.le_refl _), ht]
    simp [stl]
theorem still_ev (n : Nat) (hn : n ≤ 1048576) : Ev (fun k => impl_still.f k n) (stl n) := by
  unfold impl_still.f
  have h1 : n ≤ 35184372088832 := by omega
  have h2 : (0 : Int) ≤ (n : Int) := by omega
  simp only [Int.toNat_natCast, h1, h2, if_true, Option.bind_some, List.length_replicate]
  exact still_run n hn n 0 _ (by omega) (by omega) (by simp) (by simp)
def inR (n : Nat) (p : List Int) : Prop := p.length = n ∧ ∀ i : Nat, i < n → 0 ≤ rd p i ∧ rd p i < n
def closedL (ps : List (List Int)) (n : Nat) (S : Nat → Prop) : Prop := ∀ p ∈ ps, ∀ k, k < n → (S k ↔ S (rd p k).toNat)
def Reach (ps : List (List Int)) (n : Nat) (i j : Nat) : Prop := ∀ S, closedL ps n S → (S i ↔ S j)
theorem Reach.refl (ps : List (List Int)) (n i : Nat) : Reach ps n i i := fun S _ => Iff.rfl
theorem Reach.symm {ps : List (List Int)} {n i j : Nat} (h : Reach ps n i j) : Reach ps n j i := fun S c => (h S c).symm
theorem Reach.trans {ps : List (List Int)} {n i j k : Nat} (h : Reach ps n i j) (h' : Reach ps n j k) : Reach ps n i k := fun S c => (h S c).trans (h' S c)
theorem Reach.step {ps : List (List Int)} {n : Nat} {p : List Int} (hp : p ∈ ps) {k : Nat} (hk : k < n) : Reach ps n k (rd p k).toNat := fun S c => c p hp k hk
def orbI (ps : List (List Int)) (n : Nat) (o : List Int) : Prop := o.length = n ∧ ∀ i : Nat, i < n → 0 ≤ rd o i ∧ rd o i ≤ i ∧ Reach ps n (rd o i).toNat i
def orbOk (ps : List (List Int)) (n : Nat) (o : List Int) : Prop := orbI ps n o ∧ ∀ p ∈ ps, ∀ i : Nat, i < n → rd o (rd p i) = rd o i
theorem stl_orbI (ps : List (List Int)) (n : Nat) : orbI ps n (stl n) := by
  refine ⟨stl_length n, fun i hi => ?_⟩
  rw [stl_rd n i hi]
  exact ⟨by omega, by omega, by rw [Int.toNat_natCast]; exact Reach.refl _ _ _⟩
theorem orbOk_const {ps : List (List Int)} {n : Nat} {o : List Int} (h : orbOk ps n o) (hp : ∀ p ∈ ps, inR n p) {i j : Nat} (hr : Reach ps n i j) : rd o i = rd o j := by
  have := hr (fun k => rd o k = rd o i) (fun p hp' k hk => by
    have h1 := h.2 p hp' k hk
    have h2 := (hp p hp').2 k hk
    have e : (((rd p k).toNat : Nat) : Int) = rd p k := by omega
    show (rd o k = rd o i) ↔ (rd o (((rd p k).toNat : Nat) : Int) = rd o i)
    rw [e, h1])
  exact (this.1 rfl).symm
theorem orbOk_le {ps : List (List Int)} {n : Nat} {o o' : List Int} (h : orbOk ps n o) (h' : orbI ps n o') (hp : ∀ p ∈ ps, inR n p) {i : Nat} (hi : i < n) : rd o i ≤ rd o' i := by
  obtain ⟨g0, g1, g2⟩ := h'.2 i hi
  have e := orbOk_const h hp g2
  have hlt : (rd o' i).toNat < n := by omega
  have := (h.1.2 _ hlt).2.1
  have e2 : (((rd o' i).toNat : Nat) : Int) = rd o' i := by omega
  omega
theorem mn_le (a b : Int) : mn a b ≤ a ∧ mn a b ≤ b ∧ (mn a b = a ∨ mn a b = b) := by unfold mn; split <;> omega
theorem orbI_put {ps : List (List Int)} {n : Nat} {o : List Int} (h : orbI ps n o) {i : Nat} (hi : i < n) {v : Int} (h0 : 0 ≤ v) (h1 : v ≤ i) (hr : Reach ps n v.toNat i) : orbI ps n (o.set i v) := by
  refine ⟨by simpa using h.1, fun j hj => ?_⟩
  by_cases e : i = j
  · subst e
    rw [rd_set_self _ _ _ (by rw [h.1]; exact hi)]
    exact ⟨h0, h1, hr⟩
  · rw [rd_set_ne _ _ _ _ e]
    exact h.2 j hj
def tot : List Int → Int
  | [] => 0
  | x :: xs => x + tot xs
theorem tot_set : ∀ (l : List Int) (i : Nat) (v : Int), i < l.length → tot (l.set i v) + rd l i = tot l + v
  | [], i, v, h => by simp at h
  | x :: xs, 0, v, h => by simp [tot, rd]; omega
  | x :: xs, i + 1, v, h => by
    have ih := tot_set xs i v (by simpa using h)
    have e : rd (x :: xs) ((i + 1 : Nat) : Int) = rd xs i := by unfold rd; rw [Int.toNat_natCast, Int.toNat_natCast]; rfl
    rw [e]
    simp only [List.set_cons_succ, tot]
    omega
theorem tot_nonneg : ∀ (l : List Int), (∀ i : Nat, i < l.length → 0 ≤ rd l i) → 0 ≤ tot l
  | [], _ => by simp [tot]
  | x :: xs, h => by
    have h0 := h 0 (by simp)
    have e0 : rd (x :: xs) ((0 : Nat) : Int) = x := rfl
    rw [e0] at h0
    have := tot_nonneg xs fun i hi => by
      have := h (i + 1) (by simpa using hi)
      have e : rd (x :: xs) ((i + 1 : Nat) : Int) = rd xs i := by unfold rd; rw [Int.toNat_natCast, Int.toNat_natCast]; rfl
      rwa [e] at this
    simp only [tot]
    omega
theorem rdL_nth (ps : List (List Int)) (q : Nat) (h : q < ps.length) : rd_L1 ps (q : Int) = ps[q] := by
  have e : (q : Int).toNat = q := Int.toNat_natCast q
  unfold rd_L1
  rw [e, List.getD_eq_getElem?_getD, List.getElem?_eq_getElem h]
  rfl
theorem implOrb_in (ps : List (List Int)) (n : Nat) (hn : n ≤ 12) (q : Nat) (hq : q < ps.length) (hL : ps.length ≤ 1048576) (P : List Int) (hP : P ∈ ps) (pl : P.length = n) (pr : ∀ i : Nat, i < n → 0 ≤ rd P i ∧ rd P i < n) : ∀ (d i : Nat) (o : List Int) (g : Bool), n - i = d → i ≤ n → orbI ps n o →
    ∃ (o' : List Int) (g' : Bool), orbI ps n o' ∧ (∀ r, Ev (fun k => impl_orbits.l1 k ps o' g' ps ps.length ((q + 1 : Nat) : Int)) r → Ev (fun k => impl_orbits.l2 k ps o g ps ps.length q P n i) r) ∧ tot o' ≤ tot o ∧
      (g' = true → g = true ∨ tot o' < tot o) ∧ (g' = false → g = false ∧ o' = o ∧ ∀ j : Nat, i ≤ j → j < n → rd o (rd P j) = rd o j)
  | 0, i, o, g, hd, hi, ho => by
    refine ⟨o, g, ho, fun r h => Ev.s ?_, by omega, fun h => .inl h, fun h => ⟨h, rfl, fun j h1 h2 => by omega⟩⟩
    simp only [impl_orbits.l2, show ¬ (i : Int) < (n : Int) by omega, if_false]
    rw [w64 (x := (q : Int) + 1) (by omega) (by omega), show ((q : Int) + 1) = ((q + 1 : Nat) : Int) by omega]
    exact h
  | d + 1, i, o, g, hd, hi, ho => by
    have hlt : i < n := by omega
    have hd1 : n - (i + 1) = d := by omega
    have hw : wrap64 ((i : Int) + 1) = ((i + 1 : Nat) : Int) := by rw [w64 (by omega) (by omega)]; omega
    have hr := pr i hlt
    have hst := Reach.step hP hlt
    have hlen := ho.1
    obtain ⟨t, ht⟩ : ∃ t : Nat, rd P i = t := ⟨(rd P i).toNat, by omega⟩
    rw [ht, Int.toNat_natCast] at hst
    have htn : t < n := by omega
    obtain ⟨i0, i1, i2⟩ := ho.2 i hlt
    obtain ⟨t0, t1, t2⟩ := ho.2 t htn
    obtain ⟨hm1, hm2, hm3⟩ := mn_le (rd o i) (rd o t)
    have g1 : (i : Int) < (n : Int) := by omega
    have g2 : (0 : Int) ≤ (i : Int) := by omega
    have g3 : (0 : Int) ≤ (t : Int) := by omega
    have g4 : (t : Int) < (n : Int) := by omega
    obtain ⟨v, hv⟩ : ∃ v, mn (rd o i) (rd o t) = v := ⟨_, rfl⟩
    rw [hv] at hm1 hm2 hm3
    by_cases hc : rd o i = v ∧ rd o t = v
    · obtain ⟨c1, c2⟩ := hc
      obtain ⟨o', g', a1, a2, a3, a4, a5⟩ := implOrb_in ps n hn q hq hL P hP pl pr d (i + 1) o g hd1 hlt ho
      refine ⟨o', g', a1, fun r h => Ev.s ?_, a3, a4, fun h => ?_⟩
      · simp only [impl_orbits.l2, g1, g2, g3, g4, pl, hlen, ht, hv, if_true, hw]
        simp only [c1, c2, if_true]
        exact a2 r h
      · obtain ⟨b1, b2, b3⟩ := a5 h
        refine ⟨b1, b2, fun j h1 h2 => ?_⟩
        by_cases e : j = i
        · rw [e, ht]; omega
        · exact b3 j (by omega) h2
    · have hv0 : 0 ≤ v := by omega
      have hrv : Reach ps n v.toNat i := by
        rcases hm3 with e | e
        · rw [e]; exact i2
        · rw [e]; exact t2.trans hst.symm
      have ho1 := orbI_put ho hlt hv0 (by omega) hrv
      have ho2 := orbI_put ho1 htn hv0 (by omega) (hrv.trans hst)
      have hd2 : tot ((o.set i v).set t v) < tot o := by
        have z1 := tot_set o i v (by omega)
        have z2 := tot_set (o.set i v) t v (by rw [List.length_set]; omega)
        by_cases e : i = t
        · subst e
          rw [rd_set_self _ _ _ (by omega)] at z2
          omega
        · rw [rd_set_ne _ _ _ _ e] at z2
          omega
      obtain ⟨o', g', a1, a2, a3, a4, a5⟩ := implOrb_in ps n hn q hq hL P hP pl pr d (i + 1) ((o.set i v).set t v) true hd1 hlt ho2
      refine ⟨o', g', a1, fun r h => Ev.s ?_, by omega, fun h => .inr (by omega), fun h => ?_⟩
      · have hgo := a2 r h
        by_cases c1 : rd o i = v
        · have c2 : ¬ rd o t = v := fun e => hc ⟨c1, e⟩
          simp only [impl_orbits.l2, g1, g2, g3, g4, pl, hlen, ht, hv, if_true, hw, Int.toNat_natCast]
          simp only [c1, c2, if_true, if_false]
          exact hgo
        · simp only [impl_orbits.l2, g1, g2, g3, g4, pl, hlen, ht, hv, if_true, hw, Int.toNat_natCast]
          simp only [c1, if_false]
          exact hgo
      · have := (a5 h).1
        cases this
theorem implOrb_pass (ps : List (List Int)) (n : Nat) (hn : n ≤ 12) (hL : ps.length ≤ 1048576) (hp : ∀ p ∈ ps, inR n p) : ∀ (d q : Nat) (o : List Int) (g : Bool), ps.length - q = d → q ≤ ps.length → orbI ps n o →
    ∃ (o' : List Int) (g' : Bool), orbI ps n o' ∧ (∀ r, Ev (fun k => impl_orbits.l0 k ps o' g') r → Ev (fun k => impl_orbits.l1 k ps o g ps ps.length q) r) ∧ tot o' ≤ tot o ∧
      (g' = true → g = true ∨ tot o' < tot o) ∧ (g' = false → g = false ∧ o' = o ∧ ∀ z : Nat, q ≤ z → z < ps.length → ∀ j : Nat, j < n → rd o (rd (rd_L1 ps z) j) = rd o j)
  | 0, q, o, g, hd, hi, ho => by
    refine ⟨o, g, ho, fun r h => Ev.s ?_, by omega, fun h => .inl h, fun h => ⟨h, rfl, fun j h1 h2 => by omega⟩⟩
    simp only [impl_orbits.l1, show ¬ (q : Int) < (ps.length : Int) by omega, if_false]
    exact h
  | d + 1, q, o, g, hd, hi, ho => by
    have hlt : q < ps.length := by omega
    have hd1 : ps.length - (q + 1) = d := by omega
    have hP : rd_L1 ps q ∈ ps := by rw [rdL_nth ps q hlt]; exact List.getElem_mem hlt
    obtain ⟨pl, pr⟩ := hp _ hP
    obtain ⟨o1, b1, c1, c2, c3, c4, c5⟩ := implOrb_in ps n hn q hlt hL _ hP pl pr n 0 o g (by omega) (by omega) ho
    obtain ⟨o2, b2, e1, e2, e3, e4, e5⟩ := implOrb_pass ps n hn hL hp d (q + 1) o1 b1 hd1 hlt c1
    refine ⟨o2, b2, e1, fun r h => Ev.s ?_, by omega, fun h => ?_, fun h => ?_⟩
    · simp only [impl_orbits.l1, show (q : Int) < (ps.length : Int) by omega, show (0 : Int) ≤ (q : Int) by omega, if_true, pl]
      exact c2 r (e2 r h)
    · rcases e4 h with z | z
      · rcases c4 z with y | y
        · exact .inl y
        · exact .inr (by omega)
      · exact .inr (by omega)
    · obtain ⟨f1, f2, f3⟩ := e5 h
      obtain ⟨g1, g2, g3⟩ := c5 f1
      refine ⟨g1, f2.trans g2, fun z hz hz' j hj => ?_⟩
      by_cases e : z = q
      · rw [e]; exact g3 j (by omega) hj
      · have := f3 z (by omega) hz' j hj
        rwa [g2] at this
theorem implOrb_loop (ps : List (List Int)) (n : Nat) (hn : n ≤ 12) (hL : ps.length ≤ 1048576) (hp : ∀ p ∈ ps, inR n p) : ∀ (m : Nat) (o : List Int), tot o ≤ m → orbI ps n o → ∃ o', orbOk ps n o' ∧ Ev (fun k => impl_orbits.l0 k ps o true) o' := by
  intro m
  induction m using Nat.strongRecOn with
  | _ m ih =>
    intro o hm ho
    obtain ⟨o1, g1, c1, c2, c3, c4, c5⟩ := implOrb_pass ps n hn hL hp ps.length 0 o false (by omega) (by omega) ho
    cases g1 with
    | false =>
      obtain ⟨_, e2, e3⟩ := c5 rfl
      refine ⟨o, ⟨ho, fun p hp' i hi => ?_⟩, Ev.s ?_⟩
      · obtain ⟨z, hz, rfl⟩ := List.mem_iff_getElem.1 hp'
        have := e3 z (by omega) hz i hi
        rwa [rdL_nth ps z hz] at this
      · simp only [impl_orbits.l0, if_true]
        refine c2 o (Ev.s ?_)
        simp only [impl_orbits.l0, Bool.false_eq_true, if_false]
        exact Ev.const (by rw [e2])
    | true =>
      have hlt : tot o1 < tot o := by
        rcases c4 rfl with z | z
        · cases z
        · exact z
      have h0 := tot_nonneg o1 fun i hi => (c1.2 i (by rw [← c1.1]; exact hi)).1
      obtain ⟨o', h1, h2⟩ := ih (tot o1).toNat (by omega) o1 (by omega) c1
      refine ⟨o', h1, Ev.s ?_⟩
      simp only [impl_orbits.l0, if_true]
      exact c2 o' h2
theorem implOrb_ev (ps : List (List Int)) (n : Nat) (hn : n ≤ 12) (h0 : 0 < ps.length) (hL : ps.length ≤ 1048576) (hp : ∀ p ∈ ps, inR n p) : ∃ o, orbOk ps n o ∧ Ev (fun k => impl_orbits.f k ps) o := by
  obtain ⟨o, h1, h2⟩ := implOrb_loop ps n hn hL hp (tot (stl n)).toNat (stl n) (by have := tot_nonneg (stl n) (fun i hi => by rw [stl_rd n i (by rwa [stl_length] at hi)]; omega); omega) (stl_orbI ps n)
  refine ⟨o, h1, ?_⟩
  unfold impl_orbits.f
  have hz : (rd_L1 ps 0).length = n := by
    have := rdL_nth ps 0 h0
    rw [show ((0 : Nat) : Int) = 0 from rfl] at this
    rw [this]
    exact (hp _ (List.getElem_mem h0)).1
  simp only [show (0 : Int) < (ps.length : Int) by omega, if_true, hz]
  exact Ev.bind (still_ev n (by omega)) h2
def lag (o g : List Int) : Nat → Nat
  | 0 => 0
  | i + 1 => (if rd o i = rd g i then 0 else 1) + lag o g i
theorem lag_le (o g : List Int) : ∀ i, lag o g i ≤ i
  | 0 => Nat.le_refl _
  | i + 1 => by have := lag_le o g i; simp only [lag]; split <;> omega
theorem lag_zero (o g : List Int) : ∀ n, lag o g n = 0 → ∀ i, i < n → rd o i = rd g i
  | 0, _, i, h => by omega
  | n + 1, hz, i, h => by
    simp only [lag] at hz
    by_cases e : i = n
    · subst e
      by_cases c : rd o i = rd g i
      · exact c
      · rw [if_neg c] at hz; omega
    · exact lag_zero o g n (by omega) i (by omega)
theorem lag_mono (o o' g : List Int) (h : ∀ i : Nat, rd o i = rd g i → rd o' i = rd g i) : ∀ n, lag o' g n ≤ lag o g n
  | 0 => Nat.le_refl _
  | n + 1 => by
    have ih := lag_mono o o' g h n
    simp only [lag]
    by_cases c : rd o n = rd g n
    · rw [if_pos c, if_pos (h n c)]; omega
    · rw [if_neg c]; split <;> omega
theorem lag_lt (o o' g : List Int) (h : ∀ i : Nat, rd o i = rd g i → rd o' i = rd g i) (z : Nat) (hz : rd o z ≠ rd g z) (hz' : rd o' z = rd g z) : ∀ n, z < n → lag o' g n < lag o g n
  | 0, hn => by omega
  | n + 1, hn => by
    simp only [lag]
    by_cases e : z = n
    · subst e
      have := lag_mono o o' g h z
      rw [if_neg hz, if_pos hz']; omega
    · have ih := lag_lt o o' g h z hz hz' n (by omega)
      by_cases c : rd o n = rd g n
      · rw [if_pos c, if_pos (h n c)]; omega
      · rw [if_neg c]; split <;> omega
theorem mn_eq (a b : Int) : mn a b = if a ≤ b then a else b := by unfold mn; split <;> split <;> omega
theorem specOrb_sweep (t f : List Int) (n : Nat) (hn : n ≤ 12) (ht : inR n t) (hf : inR n f) (g : List Int) (hg : orbOk [t, f] n g) (round : Int) : ∀ (d i : Nat) (o : List Int), n - i = d → i ≤ n → orbI [t, f] n o →
    ∃ o', orbI [t, f] n o' ∧ (∀ r, Ev (fun k => spec_l1Orbits.l0 k t f o' (wrap64 (round + 1))) r → Ev (fun k => spec_l1Orbits.l1 k t f o round i) r) ∧ (∀ z : Nat, z < n → rd o z = rd g z → rd o' z = rd g z) ∧
      (∀ j : Nat, i ≤ j → j < n → (rd o j = rd g j ∨ rd o (rd t j) = rd g (rd t j) ∨ rd o (rd f j) = rd g (rd f j)) → rd o' j = rd g j ∧ rd o' (rd t j) = rd g (rd t j) ∧ rd o' (rd f j) = rd g (rd f j))
  | 0, i, o, hd, hi, ho => by
    refine ⟨o, ho, fun r h => Ev.s ?_, fun z _ h => h, fun j h1 h2 => by omega⟩
    simp only [spec_l1Orbits.l1, ht.1, show ¬ (i : Int) < (n : Int) by omega, if_false]
    exact h
  | d + 1, i, o, hd, hi, ho => by
    have hlt : i < n := by omega
    have hd1 : n - (i + 1) = d := by omega
    have hw : wrap64 ((i : Int) + 1) = ((i + 1 : Nat) : Int) := by rw [w64 (by omega) (by omega)]; omega
    have hps : ∀ p ∈ [t, f], inR n p := by intro p hp; simp at hp; rcases hp with rfl | rfl <;> assumption
    have hra := ht.2 i hlt
    have hrb := hf.2 i hlt
    have sta := Reach.step (ps := [t, f]) (p := t) (by simp) hlt
    have stb := Reach.step (ps := [t, f]) (p := f) (by simp) hlt
    have ca := hg.2 t (by simp) i hlt
    have cb := hg.2 f (by simp) i hlt
    obtain ⟨a, hta⟩ : ∃ a : Nat, rd t i = a := ⟨(rd t i).toNat, by omega⟩
    obtain ⟨b, hfb⟩ : ∃ b : Nat, rd f i = b := ⟨(rd f i).toNat, by omega⟩
    rw [hta, Int.toNat_natCast] at sta
    rw [hfb, Int.toNat_natCast] at stb
    rw [hta] at ca
    rw [hfb] at cb
    have han : a < n := by omega
    have hbn : b < n := by omega
    have hlen := ho.1
    obtain ⟨i0, i1, i2⟩ := ho.2 i hlt
    obtain ⟨a0, a1, a2⟩ := ho.2 a han
    obtain ⟨b0, b1, b2⟩ := ho.2 b hbn
    have li := orbOk_le hg ho hps hlt
    have la := orbOk_le hg ho hps han
    have lb := orbOk_le hg ho hps hbn
    obtain ⟨v, hv⟩ : ∃ v, mn (rd o i) (mn (rd o a) (rd o b)) = v := ⟨_, rfl⟩
    have hvm : v ≤ rd o i ∧ v ≤ rd o a ∧ v ≤ rd o b ∧ (v = rd o i ∨ v = rd o a ∨ v = rd o b) := by
      rw [← hv, mn_eq, mn_eq]
      split <;> split at * <;> omega
    have hv0 : 0 ≤ v := by omega
    have hrv : Reach [t, f] n v.toNat i := by
      rcases hvm.2.2.2 with e | e | e
      · rw [e]; exact i2
      · rw [e]; exact a2.trans sta.symm
      · rw [e]; exact b2.trans stb.symm
    have ho1 := orbI_put ho hlt hv0 (by omega) hrv
    have ho2 := orbI_put ho1 han hv0 (by omega) (hrv.trans sta)
    have ho3 := orbI_put ho2 hbn hv0 (by omega) (hrv.trans stb)
    obtain ⟨o3, ho3e⟩ : ∃ o3, ((o.set i v).set a v).set b v = o3 := ⟨_, rfl⟩
    rw [ho3e] at ho3
    have rdo3 : ∀ z : Nat, rd o3 z = if z = i ∨ z = a ∨ z = b then v else rd o z := by
      intro z
      rw [← ho3e]
      by_cases z3 : b = z
      · subst z3; rw [rd_set_self _ _ _ (by simp; omega)]; simp
      · rw [rd_set_ne _ _ _ _ z3]
        by_cases z2 : a = z
        · subst z2; rw [rd_set_self _ _ _ (by simp; omega)]; simp
        · rw [rd_set_ne _ _ _ _ z2]
          by_cases z1 : i = z
          · subst z1; rw [rd_set_self _ _ _ (by omega)]; simp
          · rw [rd_set_ne _ _ _ _ z1, if_neg (by omega)]
    have keep3 : ∀ z : Nat, z < n → rd o z = rd g z → rd o3 z = rd g z := by
      intro z hz e
      have l3 := orbOk_le hg ho3 hps hz
      rw [rdo3 z] at l3 ⊢
      by_cases c : z = i ∨ z = a ∨ z = b
      · rw [if_pos c] at l3 ⊢
        have : v ≤ rd o z := by rcases c with rfl | rfl | rfl <;> omega
        omega
      · rw [if_neg c]; exact e
    obtain ⟨o', c1, c2, c3, c4⟩ := specOrb_sweep t f n hn ht hf g hg round d (i + 1) o3 hd1 hlt ho3
    refine ⟨o', c1, fun r h => Ev.s ?_, fun z hz e => c3 z hz (keep3 z hz e), fun j h1 h2 hj => ?_⟩
    · have hgo := c2 r h
      have g1 : (i : Int) < (n : Int) := by omega
      have g2 : (0 : Int) ≤ (i : Int) := by omega
      have g3 : (0 : Int) ≤ (a : Int) := by omega
      have g4 : (a : Int) < (n : Int) := by omega
      have g5 : (0 : Int) ≤ (b : Int) := by omega
      have g6 : (b : Int) < (n : Int) := by omega
      simp only [spec_l1Orbits.l1, ht.1, hf.1, hlen, g1, g2, g3, g4, g5, g6, hta, hfb, hv, if_true, hw, Int.toNat_natCast, ho3e]
      exact hgo
    · by_cases e : j = i
      · subst e
        have l3 := orbOk_le hg ho3 hps hlt
        have e3 : rd o3 j = v := by rw [rdo3 j, if_pos (.inl rfl)]
        have ea3 : rd o3 a = v := by rw [rdo3 a, if_pos (.inr (.inl rfl))]
        have eb3 : rd o3 b = v := by rw [rdo3 b, if_pos (.inr (.inr rfl))]
        rw [hta, hfb] at hj ⊢
        have hvg : v = rd g j := by
          rcases hj with z | z | z <;> omega
        exact ⟨c3 j hlt (by omega), c3 a han (by omega), c3 b hbn (by omega)⟩
      · refine c4 j (by omega) h2 ?_
        have hta' := ht.2 j h2
        have hfb' := hf.2 j h2
        obtain ⟨a', ha'⟩ : ∃ a' : Nat, rd t j = a' := ⟨(rd t j).toNat, by omega⟩
        obtain ⟨b', hb'⟩ : ∃ b' : Nat, rd f j = b' := ⟨(rd f j).toNat, by omega⟩
        rw [ha', hb'] at hj ⊢
        rcases hj with z | z | z
        · exact .inl (keep3 j h2 z)
        · exact .inr (.inl (keep3 a' (by omega) z))
        · exact .inr (.inr (keep3 b' (by omega) z))
theorem specOrb_loop (t f : List Int) (n : Nat) (hn : n ≤ 12) (ht : inR n t) (hf : inR n f) (g : List Int) (hg : orbOk [t, f] n g) : ∀ (d i : Nat) (o : List Int), n - i = d → i ≤ n → orbI [t, f] n o → lag o g n ≤ d → Ev (fun k => spec_l1Orbits.l0 k t f o i) g
  | 0, i, o, hd, hi, ho, hl => by
    refine Ev.s ?_
    simp only [spec_l1Orbits.l0, ht.1, show ¬ (i : Int) < (n : Int) by omega, if_false]
    have : o = g := list_ext o g (ho.1.trans hg.1.1.symm) fun z hz => lag_zero o g n (by omega) z (by rw [← ho.1]; exact hz)
    exact Ev.const (by rw [this])
  | d + 1, i, o, hd, hi, ho, hl => by
    have hlt : i < n := by omega
    have hd1 : n - (i + 1) = d := by omega
    have hw : wrap64 ((i : Int) + 1) = ((i + 1 : Nat) : Int) := by rw [w64 (by omega) (by omega)]; omega
    have hps : ∀ p ∈ [t, f], inR n p := by intro p hp; simp at hp; rcases hp with rfl | rfl <;> assumption
    obtain ⟨o', c1, c2, c3, c4⟩ := specOrb_sweep t f n hn ht hf g hg i n 0 o (by omega) (by omega) ho
    refine Ev.s ?_
    simp only [spec_l1Orbits.l0, ht.1, show (i : Int) < (n : Int) by omega, if_true]
    refine c2 g ?_
    rw [hw]
    refine specOrb_loop t f n hn ht hf g hg d (i + 1) o' hd1 hlt c1 ?_
    have hout : ∀ z : Nat, ¬ z < n → rd o z = rd o' z := by
      intro z hz
      unfold rd
      rw [Int.toNat_natCast, List.getD_eq_getElem?_getD, List.getD_eq_getElem?_getD, List.getElem?_eq_none (by rw [ho.1]; omega), List.getElem?_eq_none (by rw [c1.1]; omega)]
    have keep : ∀ z : Nat, rd o z = rd g z → rd o' z = rd g z := fun z e => by
      by_cases hz : z < n
      · exact c3 z hz e
      · rw [← hout z hz]; exact e
    by_cases hz : lag o g n = 0
    · have := lag_mono o o' g keep n
      omega
    · -- some point has not its label: some step leads from one that has it to one that has it not
      have hex : ∃ z : Nat, z < n ∧ rd o z ≠ rd g z ∧ rd o' z = rd g z := by
        refine Classical.byContradiction fun hno => ?_
        have hsame : ∀ z : Nat, z < n → (rd o z = rd g z ↔ rd o' z = rd g z) := fun z hz => ⟨keep z, fun e => Classical.byContradiction fun hne => hno ⟨z, hz, hne, e⟩⟩
        have hcl : closedL [t, f] n (fun z => rd o z = rd g z) := by
          intro p hp k hk
          have hr := (hps p hp).2 k hk
          obtain ⟨a, ha⟩ : ∃ a : Nat, rd p k = a := ⟨(rd p k).toNat, by omega⟩
          have han : a < n := by omega
          rw [ha, Int.toNat_natCast]
          show rd o k = rd g k ↔ rd o a = rd g a
          have h4 := c4 k (by omega) hk
          simp at hp
          rcases hp with rfl | rfl
          · rw [ha] at h4
            exact ⟨fun e => (hsame a han).2 (h4 (.inl e)).2.1, fun e => (hsame k hk).2 (h4 (.inr (.inl e))).1⟩
          · rw [ha] at h4
            exact ⟨fun e => (hsame a han).2 (h4 (.inl e)).2.2, fun e => (hsame k hk).2 (h4 (.inr (.inr e))).1⟩
        have hall : ∀ z : Nat, z < n → rd o z = rd g z := by
          intro z hz
          obtain ⟨g0, g1, g2⟩ := hg.1.2 z hz
          have hm : (rd g z).toNat < n := by omega
          have e1 : ((rd g z).toNat : Int) = rd g z := by omega
          have hgm : rd g ((rd g z).toNat : Nat) = rd g z := orbOk_const hg hps g2
          have hom : rd o ((rd g z).toNat : Nat) = rd g ((rd g z).toNat : Nat) := by
            have h1 := orbOk_le hg ho hps hm
            have h2 := (ho.2 _ hm).2.1
            omega
          exact (g2 _ hcl).1 hom
        have : lag o g n = 0 := by
          have hz0 : ∀ m, m ≤ n → lag o g m = 0 := by
            intro m
            induction m with
            | zero => intro _; rfl
            | succ m ih => intro hm; simp only [lag]; rw [if_pos (hall m (by omega)), ih (by omega)]
          exact hz0 n (Nat.le_refl _)
        exact hz this
      obtain ⟨z, z1, z2, z3⟩ := hex
      have := lag_lt o o' g keep z z2 z3 n z1
      omega
theorem orb_both (t f : List Int) (n : Nat) (hn : n ≤ 12) (h1 : 1 ≤ n) (ht : inR n t) (hf : inR n f) : ∃ o, orbOk [t, f] n o ∧ Ev (fun k => spec_l1Orbits.f k t f) o ∧ Ev (fun k => impl_orbits.f k [t, f]) o := by
  have hps : ∀ p ∈ [t, f], inR n p := by intro p hp; simp at hp; rcases hp with rfl | rfl <;> assumption
  obtain ⟨o, ho, he⟩ := implOrb_ev [t, f] n hn (by simp) (by simp) hps
  refine ⟨o, ho, ?_, he⟩
  unfold spec_l1Orbits.f
  rw [ht.1]
  refine Ev.bind (same_ev n (by omega)) ?_
  refine specOrb_loop t f n hn ht hf o ho n 0 (stl n) (by omega) (by omega) (stl_orbI _ n) ?_
  exact lag_le _ _ n
theorem isPerm_inR (l : List Int) (h : isPerm l) : inR l.length l := ⟨rfl, fun i hi => ⟨(h.2.2 i hi).1, (h.2.2 i hi).2.1⟩⟩
def flipAt (f : List Int) (i : Nat) : Prop := rd f i ≠ i ∧ rd f (rd f i) = i
def isMap (t f : List Int) : Prop := isPerm t ∧ isPerm f ∧ t.length = f.length ∧ (∀ i : Nat, i < f.length → flipAt f i) ∧ ∀ i j : Nat, i < f.length → j < f.length → Reach [t, f] f.length i j
def maxF : List Int → Int → Int
  | [], m => m
  | x :: xs, m => maxF xs (mx m x)
theorem maxF_zero : ∀ (l : List Int) (m : Int), 0 ≤ m → (∀ x ∈ l, 0 ≤ x) → 0 ≤ maxF l m ∧ (maxF l m = 0 ↔ m = 0 ∧ ∀ x ∈ l, x = 0)
  | [], m, hm, _ => by simp [maxF, hm]
  | x :: xs, m, hm, hx => by
    have hx0 := hx x (by simp)
    have hmx : 0 ≤ mx m x ∧ (mx m x = 0 ↔ m = 0 ∧ x = 0) := by unfold mx; split <;> omega
    obtain ⟨h1, h2⟩ := maxF_zero xs (mx m x) hmx.1 fun y hy => hx y (by simp [hy])
    refine ⟨h1, ?_⟩
    simp only [maxF, h2, hmx.2, List.mem_cons, forall_eq_or_imp, and_assoc]
theorem max_run (l : List Int) (hl : l.length ≤ 1048576) : ∀ (d i : Nat) (m : Int), l.length - i = d → i ≤ l.length → Ev (fun k => slices_Max_int_int.l0 k l m i) (maxF (l.drop i) m)
  | 0, i, m, hd, hi => by
    refine Ev.s ?_
    simp only [slices_Max_int_int.l0, show ¬ (i : Int) < (l.length : Int) by omega, if_false]
    rw [List.drop_eq_nil_of_le (by omega)]
    exact Ev.const rfl
  | d + 1, i, m, hd, hi => by
    have hlt : i < l.length := by omega
    refine Ev.s ?_
    simp only [slices_Max_int_int.l0, show (i : Int) < (l.length : Int) by omega, show (0 : Int) ≤ (i : Int) by omega, if_true]
    rw [w64 (x := (i : Int) + 1) (by omega) (by omega), show ((i : Int) + 1) = ((i + 1 : Nat) : Int) by omega, List.drop_eq_getElem_cons hlt, rd_lt l i hlt]
    exact max_run l hl d (i + 1) _ (by omega) (by omega)
theorem max_ev (l : List Int) (hl : l.length ≤ 1048576) (h1 : 1 ≤ l.length) (h0 : ∀ x ∈ l, 0 ≤ x) : ∃ m, Ev (fun k => slices_Max_int_int.f k l) m ∧ (m = 0 ↔ ∀ x ∈ l, x = 0) := by
  cases l with
  | nil => simp at h1
  | cons x xs =>
    refine ⟨maxF xs x, ?_, ?_⟩
    · unfold slices_Max_int_int.f
      simp only [show ¬ (((x :: xs).length : Nat) : Int) < 1 by omega, show (0 : Int) < (((x :: xs).length : Nat) : Int) by omega, if_true, if_false]
      exact max_run (x :: xs) hl _ 1 x rfl h1
    · rw [(maxF_zero xs x (h0 x (by simp)) fun y hy => h0 y (by simp [hy])).2]
      simp
theorem specFlip_run (t f : List Int) (hf : isPerm f) : ∀ (d i : Nat), f.length - i = d → i ≤ f.length →
    ((∀ q : Nat, i ≤ q → q < f.length → flipAt f q) → ∀ r, Ev (fun k => (spec_l1Orbits.f k t f).bind fun o => spec_MapValid.l1 k o 0) r → Ev (fun k => spec_MapValid.l0 k i t f) r) ∧ (¬ (∀ q : Nat, i ≤ q → q < f.length → flipAt f q) → Ev (fun k => spec_MapValid.l0 k i t f) false)
  | 0, i, hd, hi => by
    refine ⟨fun _ r h => Ev.s ?_, fun h => absurd (fun q h1 h2 => by omega) h⟩
    simp only [spec_MapValid.l0, show ¬ (i : Int) < (f.length : Int) by omega, if_false]
    exact h
  | d + 1, i, hd, hi => by
    have hlt : i < f.length := by omega
    have hl12 := hf.2.1
    have hr := (isPerm_inR f hf).2 i hlt
    have ih := specFlip_run t f hf d (i + 1) (by omega) (by omega)
    have hw : wrap64 ((i : Int) + 1) = ((i + 1 : Nat) : Int) := by rw [w64 (by omega) (by omega)]; omega
    have g1 : (i : Int) < (f.length : Int) := by omega
    have g2 : (0 : Int) ≤ (i : Int) := by omega
    by_cases c1 : rd f i = i
    · refine ⟨fun h => absurd c1 (h i (Nat.le_refl _) hlt).1, fun h => Ev.s ?_⟩
      simp only [spec_MapValid.l0, g1, g2, c1, if_true]
      exact Ev.const rfl
    · by_cases c2 : rd f (rd f i) = i
      · refine ⟨fun h r hr' => Ev.s ?_, fun h => Ev.s ?_⟩
        · simp only [spec_MapValid.l0, g1, g2, c1, c2, hr.1, hr.2, if_true, if_false, hw]
          exact ih.1 (fun q h1 h2 => h q (by omega) h2) r hr'
        · simp only [spec_MapValid.l0, g1, g2, c1, c2, hr.1, hr.2, if_true, if_false, hw]
          refine ih.2 fun h' => h fun q h1 h2 => ?_
          by_cases e : q = i
          · rw [e]; exact ⟨c1, c2⟩
          · exact h' q (by omega) h2
      · refine ⟨fun h => absurd (h i (Nat.le_refl _) hlt).2 c2, fun h => Ev.s ?_⟩
        simp only [spec_MapValid.l0, g1, g2, c1, c2, hr.1, hr.2, if_true, if_false]
        exact Ev.const rfl
theorem implFlip_run (t f : List Int) (hf : isPerm f) : ∀ (d i : Nat), f.length - i = d → i ≤ f.length →
    ((∀ q : Nat, i ≤ q → q < f.length → flipAt f q) → ∀ r, Ev (fun k => (impl_orbits.f k [t, f]).bind fun o => (slices_Max_int_int.f k o).bind fun m => some (m == 0)) r → Ev (fun k => impl_MapValid.l0 k f f.length i t f) r) ∧ (¬ (∀ q : Nat, i ≤ q → q < f.length → flipAt f q) → Ev (fun k => impl_MapValid.l0 k f f.length i t f) false)
  | 0, i, hd, hi => by
    refine ⟨fun _ r h => Ev.s ?_, fun h => absurd (fun q h1 h2 => by omega) h⟩
    simp only [impl_MapValid.l0, show ¬ (i : Int) < (f.length : Int) by omega, if_false]
    exact h
  | d + 1, i, hd, hi => by
    have hlt : i < f.length := by omega
    have hl12 := hf.2.1
    have hr := (isPerm_inR f hf).2 i hlt
    have ih := implFlip_run t f hf d (i + 1) (by omega) (by omega)
    have hw : wrap64 ((i : Int) + 1) = ((i + 1 : Nat) : Int) := by rw [w64 (by omega) (by omega)]; omega
    have g1 : (i : Int) < (f.length : Int) := by omega
    have g2 : (0 : Int) ≤ (i : Int) := by omega
    by_cases c1 : rd f i = i
    · refine ⟨fun h => absurd c1 (h i (Nat.le_refl _) hlt).1, fun h => Ev.s ?_⟩
      simp only [impl_MapValid.l0, g1, g2, c1, if_true]
      exact Ev.const rfl
    · by_cases c2 : rd f (rd f i) = i
      · refine ⟨fun h r hr' => Ev.s ?_, fun h => Ev.s ?_⟩
        · simp only [impl_MapValid.l0, g1, g2, c1, c2, hr.1, hr.2, if_true, if_false, hw]
          exact ih.1 (fun q h1 h2 => h q (by omega) h2) r hr'
        · simp only [impl_MapValid.l0, g1, g2, c1, c2, hr.1, hr.2, if_true, if_false, hw]
          refine ih.2 fun h' => h fun q h1 h2 => ?_
          by_cases e : q = i
          · rw [e]; exact ⟨c1, c2⟩
          · exact h' q (by omega) h2
      · refine ⟨fun h => absurd (h i (Nat.le_refl _) hlt).2 c2, fun h => Ev.s ?_⟩
        simp only [impl_MapValid.l0, g1, g2, c1, c2, hr.1, hr.2, if_true, if_false]
        exact Ev.const rfl
theorem zero_run (o : List Int) (hl : o.length ≤ 1048576) : ∀ (d i : Nat), o.length - i = d → i ≤ o.length →
    ((∀ q : Nat, i ≤ q → q < o.length → rd o q = 0) → Ev (fun k => spec_MapValid.l1 k o i) true) ∧ (¬ (∀ q : Nat, i ≤ q → q < o.length → rd o q = 0) → Ev (fun k => spec_MapValid.l1 k o i) false)
  | 0, i, hd, hi => by
    refine ⟨fun _ => Ev.s ?_, fun h => absurd (fun q h1 h2 => by omega) h⟩
    simp only [spec_MapValid.l1, show ¬ (i : Int) < (o.length : Int) by omega, if_false]
    exact Ev.const rfl
  | d + 1, i, hd, hi => by
    have hlt : i < o.length := by omega
    have ih := zero_run o hl d (i + 1) (by omega) (by omega)
    have hw : wrap64 ((i : Int) + 1) = ((i + 1 : Nat) : Int) := by rw [w64 (by omega) (by omega)]; omega
    have g1 : (i : Int) < (o.length : Int) := by omega
    have g2 : (0 : Int) ≤ (i : Int) := by omega
    by_cases c : rd o i = 0
    · refine ⟨fun h => Ev.s ?_, fun h => Ev.s ?_⟩
      · simp only [spec_MapValid.l1, g1, g2, c, if_true, hw]
        exact ih.1 fun q h1 h2 => h q (by omega) h2
      · simp only [spec_MapValid.l1, g1, g2, c, if_true, hw]
        refine ih.2 fun h' => h fun q h1 h2 => ?_
        by_cases e : q = i
        · rw [e]; exact c
        · exact h' q (by omega) h2
    · refine ⟨fun h => absurd (h i (Nat.le_refl _) hlt) c, fun h => Ev.s ?_⟩
      simp only [spec_MapValid.l1, g1, g2, c, if_true, if_false]
      exact Ev.const rfl
theorem orb_zero (t f : List Int) (n : Nat) (h1 : 1 ≤ n) (ht : inR n t) (hf : inR n f) (o : List Int) (ho : orbOk [t, f] n o) : (∀ q : Nat, q < n → rd o q = 0) ↔ ∀ i j : Nat, i < n → j < n → Reach [t, f] n i j := by
  have hps : ∀ p ∈ [t, f], inR n p := by intro p hp; simp at hp; rcases hp with rfl | rfl <;> assumption
  constructor
  · intro h i j hi hj
    have e1 := (ho.1.2 i hi).2.2
    have e2 := (ho.1.2 j hj).2.2
    rw [h i hi] at e1
    rw [h j hj] at e2
    exact e1.symm.trans e2
  · intro h q hq
    have := orbOk_const ho hps (h q 0 hq (by omega))
    have h0 := ho.1.2 0 (by omega)
    omega
theorem mapValid_both (t f : List Int) (ht : t.length ≤ 1048576) (hf : f.length ≤ 1048576) : ∃ b : Bool, Ev (fun k => spec_MapValid.f k t f) b ∧ Ev (fun k => impl_MapValid.f k t f) b ∧ (b = true ↔ isMap t f) := by
  obtain ⟨bt, t1, t2, t3⟩ := permValid_both t ht
  obtain ⟨bf, f1, f2, f3⟩ := permValid_both f hf
  have hb : ∀ b : Bool, (∃ c : Bool, Ev (fun k => spec_l1Both.f k t f) c ∧ (c = true ↔ isPerm t ∧ isPerm f ∧ t.length = f.length)) := fun _ => by
    unfold spec_l1Both.f
    cases bt with
    | false => exact ⟨false, Ev.bind t1 (Ev.const rfl), ⟨fun h => (by cases h), fun h => absurd (t3.2 h.1) (by decide)⟩⟩
    | true =>
      cases bf with
      | false => exact ⟨false, Ev.bind t1 (by simp only [if_true]; exact Ev.bind f1 (Ev.const rfl)), ⟨fun h => (by cases h), fun h => absurd (f3.2 h.2.1) (by decide)⟩⟩
      | true => exact ⟨((t.length : Int) == (f.length : Int)), Ev.bind t1 (by simp only [if_true]; exact Ev.bind f1 (Ev.const rfl)), ⟨fun h => ⟨t3.1 rfl, f3.1 rfl, by have := beq_iff_eq.1 h; omega⟩, fun h => by rw [beq_iff_eq]; omega⟩⟩
  obtain ⟨c, c1, c2⟩ := hb true
  by_cases hall : isPerm t ∧ isPerm f ∧ t.length = f.length
  · obtain ⟨pt, pf, hlen⟩ := hall
    have hc : c = true := c2.2 ⟨pt, pf, hlen⟩
    subst hc
    have hbt : bt = true := t3.2 pt
    have hbf : bf = true := f3.2 pf
    subst hbt; subst hbf
    have hne : (((t.length : Int)) != (f.length : Int)) = false := by rw [bne_eq_false_iff_eq]; omega
    have hrt : inR f.length t := by have := isPerm_inR t pt; rwa [hlen] at this
    have hrf := isPerm_inR f pf
    obtain ⟨o, o1, o2, o3⟩ := orb_both t f f.length pf.2.1 pf.1 hrt hrf
    have hS : ∀ r, Ev (fun k => spec_MapValid.l0 k 0 t f) r → Ev (fun k => spec_MapValid.f k t f) r := fun r h => by
      unfold spec_MapValid.f
      refine Ev.bind c1 ?_
      simp only [if_true]
      exact h
    have hI : ∀ r, Ev (fun k => impl_MapValid.l0 k f f.length 0 t f) r → Ev (fun k => impl_MapValid.f k t f) r := fun r h => by
      unfold impl_MapValid.f
      refine Ev.bind t2 ?_
      simp only [if_true]
      refine Ev.bind f2 ?_
      simp only [if_true, hne]
      refine Ev.s ?_
      simp only [impl_MapValid.j0, Bool.false_eq_true, if_false]
      exact h
    have sF := specFlip_run t f pf f.length 0 (by omega) (by omega)
    have iF := implFlip_run t f pf f.length 0 (by omega) (by omega)
    by_cases hfl : ∀ q : Nat, 0 ≤ q → q < f.length → flipAt f q
    · have zr := zero_run o (by rw [o1.1.1]; omega) o.length 0 (by omega) (by omega)
      have oz := orb_zero t f f.length pf.1 hrt hrf o o1
      obtain ⟨m, m1, m2⟩ := max_ev o (by rw [o1.1.1]; omega) (by rw [o1.1.1]; exact pf.1) (fun x hx => by
        obtain ⟨i, hi, rfl⟩ := List.mem_iff_getElem.1 hx
        have := (o1.1.2 i (by rw [← o1.1.1]; exact hi)).1
        rwa [rd_lt o i hi] at this)
      have hmz : m = 0 ↔ ∀ q : Nat, 0 ≤ q → q < o.length → rd o q = 0 := by
        rw [m2]
        constructor
        · intro h q _ hq
          rw [rd_lt o q hq]
          exact h _ (List.getElem_mem hq)
        · intro h x hx
          obtain ⟨i, hi, rfl⟩ := List.mem_iff_getElem.1 hx
          have := h i (by omega) hi
          rwa [rd_lt o i hi] at this
      by_cases hz : ∀ q : Nat, 0 ≤ q → q < o.length → rd o q = 0
      · refine ⟨true, hS _ (sF.1 hfl _ (Ev.bind o2 (zr.1 hz))), hI _ (iF.1 hfl _ (Ev.bind o3 (Ev.bind m1 (Ev.const ?_)))), ?_⟩
        · rw [hmz.2 hz]; rfl
        · refine ⟨fun _ => ⟨pt, pf, hlen, fun i hi => hfl i (by omega) hi, oz.1 fun q hq => hz q (by omega) (by rw [o1.1.1]; exact hq)⟩, fun _ => rfl⟩
      · refine ⟨false, hS _ (sF.1 hfl _ (Ev.bind o2 (zr.2 hz))), hI _ (iF.1 hfl _ (Ev.bind o3 (Ev.bind m1 (Ev.const ?_)))), ?_⟩
        · have : ¬ m = 0 := fun e => hz (hmz.1 e)
          simp [this]
        · exact ⟨fun h => (by cases h), fun h => absurd (fun q _ hq => oz.2 h.2.2.2.2 q (by rw [← o1.1.1]; exact hq)) hz⟩
    · exact ⟨false, hS _ (sF.2 hfl), hI _ (iF.2 hfl), ⟨fun h => (by cases h), fun h => absurd (fun q _ hq => h.2.2.2.1 q hq) hfl⟩⟩
  · have hc : c = false := by
      cases c with
      | false => rfl
      | true => exact absurd (c2.1 rfl) hall
    subst hc
    refine ⟨false, ?_, ?_, ⟨fun h => (by cases h), fun h => absurd ⟨h.1, h.2.1, h.2.2.1⟩ hall⟩⟩
    · unfold spec_MapValid.f
      exact Ev.bind c1 (Ev.const rfl)
    · have hj : Ev (fun k => impl_MapValid.j0 k true t f) false := by
        refine Ev.s ?_
        simp only [impl_MapValid.j0, if_true]
        exact Ev.const rfl
      unfold impl_MapValid.f
      refine Ev.bind t2 ?_
      cases bt with
      | false => simp only [Bool.false_eq_true, if_false]; exact hj
      | true =>
        simp only [if_true]
        refine Ev.bind f2 ?_
        cases bf with
        | false => simp only [Bool.false_eq_true, if_false]; exact hj
        | true =>
          have hne : (((t.length : Int)) != (f.length : Int)) = true := by
            rw [bne_iff_ne]
            intro e
            exact hall ⟨t3.1 rfl, f3.1 rfl, by omega⟩
          simp only [if_true, hne]
          exact hj
def edL (f : List Int) : Nat → List Int
  | 0 => []
  | i + 1 => if (i : Int) < rd f i then edL f i ++ [(i : Int)] else edL f i
def geL (f : List Int) (n : Nat) : Nat → List Int
  | 0 => List.replicate n 0
  | i + 1 => if (i : Int) < rd f i then ((geL f n i).set i ((edL f i).length : Int)).set (rd f i).toNat ((edL f i).length : Int) else geL f n i
theorem edL_le (f : List Int) : ∀ i, (edL f i).length ≤ i
  | 0 => Nat.le_refl _
  | i + 1 => by
    have ih := edL_le f i
    simp only [edL]
    split
    · simp only [List.length_append, List.length_cons, List.length_nil]; omega
    · omega
theorem geL_len (f : List Int) (n : Nat) : ∀ i, (geL f n i).length = n
  | 0 => by simp [geL]
  | i + 1 => by
    simp only [geL]
    split
    · simp [geL_len f n i]
    · exact geL_len f n i
theorem implEdges_run (n : Nat) (hn : n ≤ 1048576) (f : List Int) (hf : inR n f) : ∀ (d i : Nat), n - i = d → i ≤ n → Ev (fun k => impl_edgesOf.l0 k (edL f i) f n i) (edL f n)
  | 0, i, hd, hi => by
    have : i = n := by omega
    subst this
    refine Ev.s ?_
    simp only [impl_edgesOf.l0, show ¬ (i : Int) < (i : Int) by omega, if_false]
    exact Ev.const rfl
  | d + 1, i, hd, hi => by
    have ih := implEdges_run n hn f hf d (i + 1) (by omega) (by omega)
    have h1 := edL_le f i
    refine Ev.s ?_
    simp only [impl_edgesOf.l0, hf.1, show (i : Int) < (n : Int) by omega, show (0 : Int) ≤ (i : Int) by omega, show (edL f i).length < 17592186044416 by omega, if_true]
    rw [w64n (by omega)]
    simp only [edL] at ih
    by_cases e : (i : Int) < rd f i
    · simp only [e, if_true] at ih ⊢; exact ih
    · simp only [e, if_false] at ih ⊢; exact ih
theorem implEdges_ev (n : Nat) (hn : n ≤ 1048576) (t f : List Int) (hf : inR n f) : Ev (fun k => impl_edgesOf.f k t f) (edL f n) := by
  unfold impl_edgesOf.f
  rw [hf.1]
  exact implEdges_run n hn f hf n 0 (by omega) (by omega)
theorem specEdges_run (n : Nat) (hn : n ≤ 1048576) (t f : List Int) (hf : inR n f) : ∀ (d i : Nat), n - i = d → i ≤ n → Ev (fun k => spec_l7Edges.l0 k (geL f n i) ((edL f i).length : Int) i t f) (geL f n n)
  | 0, i, hd, hi => by
    have : i = n := by omega
    subst this
    refine Ev.s ?_
    simp only [spec_l7Edges.l0, geL_len, show ¬ (i : Int) < (i : Int) by omega, if_false]
    exact Ev.const rfl
  | d + 1, i, hd, hi => by
    have ih := specEdges_run n hn t f hf d (i + 1) (by omega) (by omega)
    have h1 := edL_le f i
    have h2 := hf.2 i (by omega)
    refine Ev.s ?_
    simp only [spec_l7Edges.l0, geL_len, hf.1, show (i : Int) < (n : Int) by omega, show (0 : Int) ≤ (i : Int) by omega, h2.1, h2.2, if_true, Int.toNat_natCast]
    rw [w64n (by omega), w64n (i := i) (by omega)]
    simp only [edL, geL] at ih
    by_cases e : (i : Int) < rd f i
    · simp only [e, if_true, List.length_append, List.length_cons, List.length_nil] at ih ⊢; exact ih
    · simp only [e, if_false] at ih ⊢; exact ih
theorem specEdges_ev (n : Nat) (hn : n ≤ 1048576) (t f : List Int) (hf : inR n f) : Ev (fun k => spec_l7Edges.f k t f) (geL f n n) := by
  unfold spec_l7Edges.f
  have h1 : n ≤ 35184372088832 := by omega
  have h2 : (0 : Int) ≤ (n : Int) := by omega
  simp only [hf.1, Int.toNat_natCast, h1, h2, if_true]
  exact specEdges_run n hn t f hf n 0 (by omega) (by omega)
def least (f : List Int) (d : Nat) : Nat := if (d : Int) < rd f d then d else (rd f d).toNat
theorem edL_lt (f : List Int) (m : Nat) (hm : (m : Int) < rd f m) : ∀ n, m < n → (edL f m).length < (edL f n).length
  | n + 1, h => by
    simp only [edL]
    by_cases e : m = n
    · subst e
      simp only [hm, if_true, List.length_append, List.length_cons, List.length_nil]; omega
    · have ih := edL_lt f m hm n (by omega)
      split
      · simp only [List.length_append, List.length_cons, List.length_nil]; omega
      · exact ih
theorem edL_at (f : List Int) (m : Nat) (hm : (m : Int) < rd f m) : ∀ n, m < n → rd (edL f n) ((edL f m).length : Int) = m
  | n + 1, h => by
    simp only [edL]
    by_cases e : m = n
    · subst e
      simp only [hm, if_true]
      rw [rd_lt _ _ (by simp), List.getElem_append_right (Nat.le_refl _)]
      simp
    · have ih := edL_at f m hm n (by omega)
      split
      · rw [rd_app_lt _ _ _ (edL_lt f m hm n (by omega))]; exact ih
      · exact ih
theorem least_lt (f : List Int) (n : Nat) (hf : inR n f) (hfl : ∀ i : Nat, i < n → flipAt f i) (d : Nat) (hd : d < n) : least f d < n ∧ (least f d : Int) < rd f (least f d) := by
  have h1 := hf.2 d hd
  obtain ⟨h2, h3⟩ := hfl d hd
  unfold least
  split
  · exact ⟨hd, by assumption⟩
  · refine ⟨by omega, ?_⟩
    rw [show (((rd f d).toNat : Nat) : Int) = rd f d by omega, h3]
    omega
theorem geL_at (f : List Int) (n : Nat) (hf : inR n f) (hfl : ∀ i : Nat, i < n → flipAt f i) : ∀ i, i ≤ n → ∀ d : Nat, d < n → least f d < i → rd (geL f n i) d = ((edL f (least f d)).length : Int)
  | i + 1, hi, d, hd, h => by
    have ih := geL_at f n hf hfl i (by omega) d hd
    have hl := geL_len f n i
    have h1 := hf.2 d hd
    obtain ⟨h2, h3⟩ := hfl d hd
    have g1 := hf.2 i (by omega)
    obtain ⟨g2, g3⟩ := hfl i (by omega)
    have hll := least_lt f n hf hfl d hd
    simp only [geL]
    by_cases e : least f d = i
    · rw [e] at hll
      simp only [hll.2, if_true]
      rw [e]
      by_cases e2 : d = (rd f i).toNat
      · subst e2
        rw [rd_set_self _ _ _ (by simp; omega)]
      · have e3 : d = i := by
          unfold least at e
          split at e
          · exact e
          · exfalso
            apply e2
            rw [show (i : Int) = rd f d by omega, h3]
            omega
        rw [rd_set_ne _ _ _ _ (fun h => e2 h.symm)]
        subst e3
        rw [rd_set_self _ _ _ (by omega)]
    · have ih' := ih (by omega)
      by_cases c : (i : Int) < rd f i
      · simp only [c, if_true]
        have n1 : (rd f i).toNat ≠ d := by
          intro h
          apply e
          have hd' : rd f i = d := by omega
          have : rd f d = i := by rw [← hd', g3]
          unfold least
          rw [if_neg (by omega)]
          omega
        have n2 : i ≠ d := by
          intro h
          apply e
          subst h
          unfold least
          rw [if_pos c]
        rw [rd_set_ne _ _ _ _ n1, rd_set_ne _ _ _ _ n2]
        exact ih'
      · simp only [c, if_false]
        exact ih'
theorem len_le_of_sub : ∀ (a b : List Nat), a.Nodup → (∀ x ∈ a, x ∈ b) → a.length ≤ b.length
  | [], b, _, _ => Nat.zero_le _
  | x :: a, b, hn, h => by
    have hx := h x (by simp)
    obtain ⟨hxa, hna⟩ := List.nodup_cons.1 hn
    have ih := len_le_of_sub a (b.erase x) hna fun y hy => (List.mem_erase_of_ne (by rintro rfl; exact hxa hy)).2 (h y (by simp [hy]))
    rw [List.length_erase_of_mem hx] at ih
    have := List.length_pos_of_mem hx
    simp only [List.length_cons]
    omega
theorem edL_filter (f : List Int) : ∀ n, (edL f n).length = ((List.range n).filter fun (i : Nat) => decide ((i : Int) < rd f i)).length
  | 0 => rfl
  | n + 1 => by
    rw [List.range_succ, List.filter_append, List.length_append, ← edL_filter f n]
    simp only [edL]
    by_cases e : (n : Int) < rd f n <;> simp [e]
theorem edL_half (f : List Int) (n : Nat) (hf : inR n f) (hfl : ∀ i : Nat, i < n → flipAt f i) : 2 * (edL f n).length = n := by
  rw [edL_filter]
  have hA := List.length_eq_countP_add_countP (fun (i : Nat) => decide ((i : Int) < rd f i)) (l := List.range n)
  rw [List.countP_eq_length_filter, List.countP_eq_length_filter, List.length_range] at hA
  have sub : ∀ (P Q : Nat → Bool), (∀ i, i < n → P i = true → Q (rd f i).toNat = true) → ((List.range n).filter P).length ≤ ((List.range n).filter Q).length := by
    intro P Q h
    rw [← List.length_map (f := fun (i : Nat) => (rd f i).toNat)]
    refine len_le_of_sub _ _ ?_ ?_
    · rw [List.Nodup, List.pairwise_map]
      refine List.Pairwise.imp_of_mem ?_ ((List.nodup_range (n := n)).filter P)
      intro a b ha hb hab e
      have ha' := List.mem_range.1 (List.mem_filter.1 ha).1
      have hb' := List.mem_range.1 (List.mem_filter.1 hb).1
      have h1 := hf.2 a ha'
      have h2 := hf.2 b hb'
      have e2 : rd f a = rd f b := by omega
      have h3 := (hfl a ha').2
      rw [e2, (hfl b hb').2] at h3
      omega
    · intro x hx
      obtain ⟨a, ha, rfl⟩ := List.mem_map.1 hx
      obtain ⟨ha1, ha2⟩ := List.mem_filter.1 ha
      have ha' := List.mem_range.1 ha1
      have h1 := hf.2 a ha'
      exact List.mem_filter.2 ⟨List.mem_range.2 (by omega), h a ha' ha2⟩
  have back : ∀ i : Nat, i < n → (((rd f i).toNat : Nat) : Int) = rd f i := fun i hi => by have := hf.2 i hi; omega
  have h1 := sub (fun (i : Nat) => decide ((i : Int) < rd f i)) (fun (i : Nat) => decide ¬ decide ((i : Int) < rd f i) = true) (fun i hi h => by
    have h3 := (hfl i hi).2
    simp only [decide_eq_true_eq] at h
    simp only [back i hi, h3, decide_eq_true_eq]
    omega)
  have h2 := sub (fun (i : Nat) => decide ¬ decide ((i : Int) < rd f i) = true) (fun (i : Nat) => decide ((i : Int) < rd f i)) (fun i hi h => by
    have h3 := hfl i hi
    simp only [decide_eq_true_eq] at h
    simp only [back i hi, h3.2, decide_eq_true_eq]
    have := h3.1
    omega)
  omega
def cw (p : List Int) : Nat → List Bool → List Int → Int → List Bool × List Int
  | 0, s, c, a => (s, c)
  | f + 1, s, c, a => if rdOf false s a = true then (s, c) else cw p f (s.set a.toNat true) (c ++ [a]) (rd p a)
def fresh (s : List Bool) : Nat := s.countP (fun b => !b)
def cyS (p : List Int) (n : Nat) : Nat → List Bool × List (List Int)
  | 0 => (List.replicate n false, [])
  | i + 1 =>
    let q := cw p (n + 1) (cyS p n i).1 [] i
    (q.1, if q.2 = [] then (cyS p n i).2 else (cyS p n i).2 ++ [q.2])
theorem fresh_set : ∀ (s : List Bool) (i : Nat), i < s.length → s.getD i false = false → fresh (s.set i true) + 1 = fresh s
  | b :: s, 0, _, h => by
    simp only [List.getD_cons_zero] at h
    subst h
    simp [fresh]
  | b :: s, i + 1, hi, h => by
    simp only [List.getD_cons_succ] at h
    have ih := fresh_set s i (by simpa using hi) h
    simp only [fresh, List.set_cons_succ, List.countP_cons] at ih ⊢
    omega
theorem rdOf_nat (s : List Bool) (a : Int) (h0 : 0 ≤ a) : rdOf false s a = s.getD a.toNat false := by
  unfold rdOf
  rfl
theorem cw_len (p : List Int) : ∀ (f : Nat) (s : List Bool) (c : List Int) (a : Int), (cw p f s c a).1.length = s.length
  | 0, s, c, a => rfl
  | f + 1, s, c, a => by
    simp only [cw]
    split
    · rfl
    · rw [cw_len p f]; simp
theorem spec_cw (p : List Int) (n : Nat) (hn : n ≤ 1048576) (hp : inR n p) (L : List (List Int)) (hL : L.length ≤ 1048576) (i : Int) (r : List (List Int)) : ∀ (f : Nat) (s : List Bool) (c : List Int) (a : Int), s.length = n → 0 ≤ a → a < n → fresh s < f → c.length + fresh s ≤ 1048577 →
    Ev (fun k => spec_l1Cycles.l0 k p (L ++ [(cw p f s c a).2]) (cw p f s c a).1 (wrap64 (i + 1))) r → Ev (fun k => spec_l1Cycles.l1 k p L s i c a) r
  | 0, s, c, a, hs, h0, h1, hf, hc, h => absurd hf (Nat.not_lt_zero _)
  | f + 1, s, c, a, hs, h0, h1, hf, hc, h => by
    refine Ev.s ?_
    simp only [cw] at h
    have hL' : L.length < 5864062014805 := by omega
    have hc' : c.length < 17592186044416 := by omega
    simp only [spec_l1Cycles.l1, h0, hs, h1, hp.1, hL', hc', if_true]
    by_cases e : rdOf false s a = true
    · simp only [e, if_true] at h ⊢
      exact h
    · simp only [e, if_false] at h ⊢
      have h3 : s.getD a.toNat false = false := by rw [← rdOf_nat s a h0]; simpa using e
      have h4 := fresh_set s a.toNat (by omega) h3
      have h5 := hp.2 a.toNat (by omega)
      rw [show ((a.toNat : Nat) : Int) = a by omega] at h5
      exact spec_cw p n hn hp L hL i r f _ _ _ (by simpa using hs) h5.1 h5.2 (by omega) (by simp only [List.length_append, List.length_cons, List.length_nil]; omega) h
theorem impl_cw (p : List Int) (n : Nat) (hn : n ≤ 1048576) (hp : inR n p) (L : List (List Int)) (hL : L.length ≤ 1048576) (m i : Int) (r : List (List Int)) : ∀ (f : Nat) (s : List Bool) (c : List Int) (a : Int), s.length = n → 0 ≤ a → a < n → fresh s < f → c.length + fresh s ≤ 1048577 →
    Ev (fun k => impl_cyclesOf.l0 k p (if (cw p f s c a).2 = [] then L else L ++ [(cw p f s c a).2]) (cw p f s c a).1 m (wrap64 (i + 1))) r → Ev (fun k => impl_cyclesOf.l1 k p L s c a m i) r
  | 0, s, c, a, hs, h0, h1, hf, hc, h => absurd hf (Nat.not_lt_zero _)
  | f + 1, s, c, a, hs, h0, h1, hf, hc, h => by
    refine Ev.s ?_
    simp only [cw] at h
    have hL' : L.length < 5864062014805 := by omega
    have hc' : c.length < 17592186044416 := by omega
    simp only [impl_cyclesOf.l1, h0, hs, h1, hp.1, hL', hc', if_true]
    by_cases e : rdOf false s a = true
    · simp only [e, if_true] at h ⊢
      cases c with
      | nil => simpa using h
      | cons b c => simpa using h
    · simp only [e, if_false] at h ⊢
      have h3 : s.getD a.toNat false = false := by rw [← rdOf_nat s a h0]; simpa using e
      have h4 := fresh_set s a.toNat (by omega) h3
      have h5 := hp.2 a.toNat (by omega)
      rw [show ((a.toNat : Nat) : Int) = a by omega] at h5
      exact impl_cw p n hn hp L hL m i r f _ _ _ (by simpa using hs) h5.1 h5.2 (by omega) (by simp only [List.length_append, List.length_cons, List.length_nil]; omega) h
theorem fresh_le (s : List Bool) : fresh s ≤ s.length := List.countP_le_length
theorem cyS_len (p : List Int) (n : Nat) : ∀ i, (cyS p n i).1.length = n
  | 0 => by simp [cyS]
  | i + 1 => by simp only [cyS]; rw [cw_len, cyS_len p n i]
theorem cyS_many (p : List Int) (n : Nat) : ∀ i, (cyS p n i).2.length ≤ i
  | 0 => by simp [cyS]
  | i + 1 => by
    have ih := cyS_many p n i
    simp only [cyS]
    split
    · omega
    · simp only [List.length_append, List.length_cons, List.length_nil]; omega
theorem cw_seen (p : List Int) (f : Nat) (s : List Bool) (c : List Int) (a : Int) (h : rdOf false s a = true) : cw p f s c a = (s, c) := by
  cases f with
  | zero => rfl
  | succ f => simp only [cw, h, if_true]
theorem cw_more (p : List Int) : ∀ (f : Nat) (s : List Bool) (c : List Int) (a : Int), c.length ≤ (cw p f s c a).2.length
  | 0, s, c, a => Nat.le_refl _
  | f + 1, s, c, a => by
    simp only [cw]
    split
    · exact Nat.le_refl _
    · have := cw_more p f (s.set a.toNat true) (c ++ [a]) (rd p a)
      simp only [List.length_append, List.length_cons, List.length_nil] at this
      omega
theorem cw_new (p : List Int) (f : Nat) (s : List Bool) (a : Int) (h : ¬ rdOf false s a = true) : (cw p (f + 1) s [] a).2 ≠ [] := by
  simp only [cw, h, Bool.false_eq_true, if_false]
  intro e
  have := cw_more p f (s.set a.toNat true) ([] ++ [a]) (rd p a)
  rw [e] at this
  simp at this
theorem specCyc_run (p : List Int) (n : Nat) (hn : n ≤ 1048575) (hp : inR n p) : ∀ (d i : Nat), n - i = d → i ≤ n → Ev (fun k => spec_l1Cycles.l0 k p (cyS p n i).2 (cyS p n i).1 i) (cyS p n n).2
  | 0, i, hd, hi => by
    have : i = n := by omega
    subst this
    refine Ev.s ?_
    simp only [spec_l1Cycles.l0, hp.1, show ¬ (i : Int) < (i : Int) by omega, if_false]
    exact Ev.const rfl
  | d + 1, i, hd, hi => by
    have ih := specCyc_run p n hn hp d (i + 1) (by omega) (by omega)
    have hl := cyS_len p n i
    have hm := cyS_many p n i
    have hf := fresh_le (cyS p n i).1
    have h1 : (i : Int) < (n : Int) := by omega
    have h0 : (0 : Int) ≤ (i : Int) := by omega
    refine Ev.s ?_
    simp only [spec_l1Cycles.l0, hp.1, hl, h1, h0, if_true]
    by_cases e : rdOf false (cyS p n i).1 (i : Int) = true
    · simp only [e, if_true]
      rw [w64n (by omega)]
      simp only [cyS, cw_seen p (n + 1) (cyS p n i).1 [] i e, if_true] at ih
      exact ih
    · simp only [e, if_false]
      refine spec_cw p n (by omega) hp _ (by omega) i _ (n + 1) _ _ _ hl h0 h1 (by omega) (by simp only [List.length_nil]; omega) ?_
      rw [w64n (by omega)]
      simp only [cyS, cw_new p n (cyS p n i).1 i e, if_false] at ih
      exact ih
theorem implCyc_run (p : List Int) (n : Nat) (hn : n ≤ 1048575) (hp : inR n p) : ∀ (d i : Nat), n - i = d → i ≤ n → Ev (fun k => impl_cyclesOf.l0 k p (cyS p n i).2 (cyS p n i).1 n i) (cyS p n n).2
  | 0, i, hd, hi => by
    have : i = n := by omega
    subst this
    refine Ev.s ?_
    simp only [impl_cyclesOf.l0, show ¬ (i : Int) < (i : Int) by omega, if_false]
    exact Ev.const rfl
  | d + 1, i, hd, hi => by
    have ih := implCyc_run p n hn hp d (i + 1) (by omega) (by omega)
    have hl := cyS_len p n i
    have hm := cyS_many p n i
    have hf := fresh_le (cyS p n i).1
    have h1 : (i : Int) < (n : Int) := by omega
    have h0 : (0 : Int) ≤ (i : Int) := by omega
    refine Ev.s ?_
    simp only [impl_cyclesOf.l0, h1, if_true]
    refine impl_cw p n (by omega) hp _ (by omega) n i _ (n + 1) _ _ _ hl h0 h1 (by omega) (by simp only [List.length_nil]; omega) ?_
    rw [w64n (by omega)]
    simp only [cyS] at ih
    exact ih
theorem specCyc_ev (p : List Int) (n : Nat) (hn : n ≤ 1048575) (hp : inR n p) : Ev (fun k => spec_l1Cycles.f k p) (cyS p n n).2 := by
  unfold spec_l1Cycles.f
  have h1 : n ≤ 281474976710656 := by omega
  have h2 : (0 : Int) ≤ (n : Int) := by omega
  simp only [hp.1, Int.toNat_natCast, h1, h2, if_true]
  exact specCyc_run p n hn hp n 0 (by omega) (by omega)
theorem implCyc_ev (p : List Int) (n : Nat) (hn : n ≤ 1048575) (hp : inR n p) : Ev (fun k => impl_cyclesOf.f k p) (cyS p n n).2 := by
  unfold impl_cyclesOf.f
  have h1 : n ≤ 281474976710656 := by omega
  have h2 : (0 : Int) ≤ (n : Int) := by omega
  simp only [hp.1, Int.toNat_natCast, h1, h2, if_true]
  exact implCyc_run p n hn hp n 0 (by omega) (by omega)
def ahead (c : List Int) (i : Nat) : Int := if i = 0 then -1 else rd c ((i - 1 : Nat) : Int)
def ascAt (c : List Int) (m : Int) (i : Nat) : Prop := ahead c i < rd c i ∧ rd c i < m
def isChoice (c : List Int) (m : Int) : Prop := ∀ i : Nat, i < c.length → ascAt c m i
theorem ahead_zero (c : List Int) : ahead c 0 = -1 := by unfold ahead; rw [if_pos rfl]
theorem ahead_succ (c : List Int) (i : Nat) : ahead c (i + 1) = rd c i := by unfold ahead; rw [if_neg (by omega), Nat.add_sub_cancel]
theorem asc_nonneg (c : List Int) (m : Int) : ∀ i : Nat, (∀ j : Nat, j < i → ascAt c m j) → -1 ≤ ahead c i ∧ (ahead c i = -1 ∨ ahead c i < m)
  | 0, _ => by rw [ahead_zero]; omega
  | i + 1, h => by
    have h1 := h i (Nat.lt_succ_self i)
    have h2 := (asc_nonneg c m i fun j hj => h j (by omega)).1
    unfold ascAt at h1
    rw [ahead_succ]
    omega
theorem specChoice_run (t f c : List Int) (m : Int) (hm : (f.length : Int) / 2 = m) (m0 : 0 ≤ m) (m1 : m ≤ 1048576) (hc : c.length ≤ 1048576) : ∀ (d i : Nat), c.length - i = d → i ≤ c.length → (∀ j : Nat, j < i → ascAt c m j) →
    ((∀ q : Nat, i ≤ q → q < c.length → ascAt c m q) → ∀ r, Ev (fun k => spec_MapValid.f k t f) r → Ev (fun k => spec_ChoiceValid.l0 k c (ahead c i) i t f) r) ∧ (¬ (∀ q : Nat, i ≤ q → q < c.length → ascAt c m q) → Ev (fun k => spec_ChoiceValid.l0 k c (ahead c i) i t f) false)
  | 0, i, hd, hi, hp => by
    refine ⟨fun _ r h => Ev.s ?_, fun h => absurd (fun q h1 h2 => by omega) h⟩
    simp only [spec_ChoiceValid.l0, show ¬ (i : Int) < (c.length : Int) by omega, if_false]
    exact Ev.bind h (Ev.const rfl)
  | d + 1, i, hd, hi, hp => by
    have hlt : i < c.length := by omega
    have hd1 : c.length - (i + 1) = d := by omega
    obtain ⟨p1, p2⟩ := asc_nonneg c _ i hp
    have hA : ascAt c m i ↔ (ahead c i + 1 ≤ rd c i ∧ rd c i ≤ m - 1) := by unfold ascAt; omega
    have w1 : -9223372036854775808 ≤ ahead c i + 1 ∧ ahead c i + 1 < 9223372036854775808 := by omega
    have w2 : -9223372036854775808 ≤ m ∧ m < 9223372036854775808 := by omega
    have w3 : -9223372036854775808 ≤ m - 1 ∧ m - 1 < 9223372036854775808 := by omega
    have w4 : i < 4611686018427387904 := by omega
    have g1 : (i : Int) < (c.length : Int) := by omega
    have g2 : (0 : Int) ≤ (i : Int) := by omega
    by_cases h : ascAt c m i
    · have hin := hA.1 h
      have ih := specChoice_run t f c m hm m0 m1 hc d (i + 1) hd1 hlt (fun j hj => by
        by_cases e : j = i
        · rw [e]; exact h
        · exact hp j (by omega))
      rw [ahead_succ] at ih
      refine ⟨fun ha r hr => Ev.s ?_, fun ha => Ev.s ?_⟩
      · simp only [spec_ChoiceValid.l0, g1, g2, if_true, hm, w64r w1, w64r w2, w64r w3, w64n w4, l6In_eq, Option.bind_some, hin, decide_true, and_self]
        exact ih.1 (fun q h1 h2 => ha q (by omega) h2) r hr
      · simp only [spec_ChoiceValid.l0, g1, g2, if_true, hm, w64r w1, w64r w2, w64r w3, w64n w4, l6In_eq, Option.bind_some, hin, decide_true, and_self]
        refine ih.2 fun h' => ha fun q h1 h2 => ?_
        by_cases e : q = i
        · rw [e]; exact h
        · exact h' q (by omega) h2
    · have hin : ¬ (ahead c i + 1 ≤ rd c i ∧ rd c i ≤ m - 1) := fun z => h (hA.2 z)
      refine ⟨fun ha => absurd (ha i (Nat.le_refl _) hlt) h, fun ha => Ev.s ?_⟩
      simp only [spec_ChoiceValid.l0, g1, g2, if_true, hm, w64r w1, w64r w2, w64r w3, w64n w4, l6In_eq, Option.bind_some, hin, decide_false, Bool.false_eq_true, if_false]
      exact Ev.const rfl
theorem implChoice_run (t f c : List Int) (m : Int) (hm : (f.length : Int) / 2 = m) (m0 : 0 ≤ m) (m1 : m ≤ 1048576) (hc : c.length ≤ 1048576) : ∀ (d i : Nat), c.length - i = d → i ≤ c.length → (∀ j : Nat, j < i → ascAt c m j) →
    ((∀ q : Nat, i ≤ q → q < c.length → ascAt c m q) → Ev (fun k => impl_ChoiceValid.l0 k c c c.length i t f) true) ∧ (¬ (∀ q : Nat, i ≤ q → q < c.length → ascAt c m q) → Ev (fun k => impl_ChoiceValid.l0 k c c c.length i t f) false)
  | 0, i, hd, hi, hp => by
    refine ⟨fun _ => Ev.s ?_, fun h => absurd (fun q h1 h2 => by omega) h⟩
    simp only [impl_ChoiceValid.l0, show ¬ (i : Int) < (c.length : Int) by omega, if_false]
    exact Ev.const rfl
  | d + 1, i, hd, hi, hp => by
    have hlt : i < c.length := by omega
    have hd1 : c.length - (i + 1) = d := by omega
    obtain ⟨p1, p2⟩ := asc_nonneg c _ i hp
    have w2 : -9223372036854775808 ≤ m ∧ m < 9223372036854775808 := by omega
    have w4 : i < 4611686018427387904 := by omega
    have g1 : (i : Int) < (c.length : Int) := by omega
    have g2 : (0 : Int) ≤ (i : Int) := by omega
    have hA1 : ascAt c m i → 0 ≤ rd c i ∧ rd c i < m := by unfold ascAt; omega
    by_cases k1 : rd c i < 0
    · refine ⟨fun ha => absurd (hA1 (ha i (Nat.le_refl _) hlt)) (by omega), fun ha => Ev.s ?_⟩
      simp only [impl_ChoiceValid.l0, g1, g2, k1, if_true]
      exact Ev.const rfl
    · by_cases k2 : rd c i ≥ m
      · refine ⟨fun ha => absurd (hA1 (ha i (Nat.le_refl _) hlt)) (by omega), fun ha => Ev.s ?_⟩
        simp only [impl_ChoiceValid.l0, g1, g2, k1, k2, hm, w64r w2, if_true, if_false]
        exact Ev.const rfl
      · have ih := fun h => implChoice_run t f c m hm m0 m1 hc d (i + 1) hd1 hlt (fun j hj => by
          by_cases e : j = i
          · rw [e]; exact h
          · exact hp j (by omega))
        cases i with
        | zero =>
          have h : ascAt c m 0 := by unfold ascAt; rw [ahead_zero]; omega
          have k3 : ¬ (((0 : Nat) : Int) > 0) := by omega
          refine ⟨fun ha => Ev.s ?_, fun ha => Ev.s ?_⟩
          · simp only [impl_ChoiceValid.l0, g1, g2, k1, k2, k3, hm, w64r w2, w64n w4, if_true, if_false]
            exact (ih h).1 fun q h1 h2 => ha q (by omega) h2
          · simp only [impl_ChoiceValid.l0, g1, g2, k1, k2, k3, hm, w64r w2, w64n w4, if_true, if_false]
            refine (ih h).2 fun h' => ha fun q h1 h2 => ?_
            by_cases e : q = 0
            · rw [e]; exact h
            · exact h' q (by omega) h2
        | succ i =>
          have k3 : (((i + 1 : Nat) : Int) > 0) := by omega
          have w5 : -9223372036854775808 ≤ (i : Int) ∧ (i : Int) < 9223372036854775808 := by omega
          have w6 : (((i + 1 : Nat) : Int) - 1) = (i : Int) := by omega
          have g3 : (0 : Int) ≤ (i : Int) := by omega
          have g4 : (i : Int) < (c.length : Int) := by omega
          by_cases k4 : rd c ((i + 1 : Nat) : Int) ≤ rd c (i : Int)
          · refine ⟨fun ha => absurd (ha (i + 1) (Nat.le_refl _) hlt) (by unfold ascAt; rw [ahead_succ]; omega), fun ha => Ev.s ?_⟩
            simp only [impl_ChoiceValid.l0, g1, g2, g3, g4, k1, k2, k3, k4, hm, w64r w2, w64r w5, w6, if_true, if_false]
            exact Ev.const rfl
          · have h : ascAt c m (i + 1) := by unfold ascAt; rw [ahead_succ]; omega
            refine ⟨fun ha => Ev.s ?_, fun ha => Ev.s ?_⟩
            · simp only [impl_ChoiceValid.l0, g1, g2, g3, g4, k1, k2, k3, k4, hm, w64r w2, w64n w4, w64r w5, w6, if_true, if_false]
              exact (ih h).1 fun q h1 h2 => ha q (by omega) h2
            · simp only [impl_ChoiceValid.l0, g1, g2, g3, g4, k1, k2, k3, k4, hm, w64r w2, w64n w4, w64r w5, w6, if_true, if_false]
              refine (ih h).2 fun h' => ha fun q h1 h2 => ?_
              by_cases e : q = i + 1
              · rw [e]; exact h
              · exact h' q (by omega) h2
theorem choiceValid_both (t f c : List Int) (ht : t.length ≤ 1048576) (hf : f.length ≤ 1048576) (hc : c.length ≤ 1048576) : ∃ b : Bool, Ev (fun k => spec_ChoiceValid.f k t f c) b ∧ Ev (fun k => impl_ChoiceValid.f k t f c) b ∧ (b = true ↔ isMap t f ∧ isChoice c ((f.length : Int) / 2)) := by
  obtain ⟨b, b1, b2, b3⟩ := mapValid_both t f ht hf
  have hs := specChoice_run t f c _ rfl (by omega) (by omega) hc c.length 0 (by omega) (by omega) (fun j hj => by omega)
  have hi := implChoice_run t f c _ rfl (by omega) (by omega) hc c.length 0 (by omega) (by omega) (fun j hj => by omega)
  have e1 : ∀ r, Ev (fun k => spec_ChoiceValid.l0 k c (ahead c 0) ((0 : Nat) : Int) t f) r → Ev (fun k => spec_ChoiceValid.f k t f c) r := fun r h => h
  by_cases ha : ∀ q : Nat, 0 ≤ q → q < c.length → ascAt c ((f.length : Int) / 2) q
  · refine ⟨b, e1 _ (hs.1 ha b b1), ?_, ?_⟩
    · unfold impl_ChoiceValid.f
      refine Ev.bind b2 ?_
      cases b with
      | false => simp only [Bool.false_eq_true, if_false]; exact Ev.const rfl
      | true => simp only [if_true]; exact hi.1 ha
    · rw [b3]
      exact ⟨fun h => ⟨h, fun i hi' => ha i (by omega) hi'⟩, fun h => h.1⟩
  · refine ⟨false, e1 _ (hs.2 ha), ?_, ⟨fun h => (by cases h), fun h => absurd (fun q _ hq => h.2 q hq) ha⟩⟩
    unfold impl_ChoiceValid.f
    refine Ev.bind b2 ?_
    cases b with
    | false => simp only [Bool.false_eq_true, if_false]; exact Ev.const rfl
    | true => simp only [if_true]; exact hi.2 ha
theorem has_run (c : List Int) (hc : c.length ≤ 1048576) (x : Int) : ∀ (d i : Nat), c.length - i = d → i ≤ c.length → Ev (fun k => spec_l7Has.l0 k c x i) (decide (x ∈ c.drop i))
  | 0, i, hd, hi => by
    refine Ev.s ?_
    simp only [spec_l7Has.l0, show ¬ (i : Int) < (c.length : Int) by omega, if_false]
    rw [List.drop_eq_nil_of_le (by omega)]
    exact Ev.const (by simp)
  | d + 1, i, hd, hi => by
    have hlt : i < c.length := by omega
    refine Ev.s ?_
    simp only [spec_l7Has.l0, show (i : Int) < (c.length : Int) by omega, show (0 : Int) ≤ (i : Int) by omega, if_true, w64n (show i < 4611686018427387904 by omega)]
    rw [List.drop_eq_getElem_cons hlt]
    have e := rd_lt c i hlt
    by_cases h : rd c i = x
    · simp only [h, if_true]
      exact Ev.const (by rw [decide_eq_true]; rw [← h, e]; exact List.mem_cons_self)
    · simp only [h, if_false]
      have := has_run c hc x d (i + 1) (by omega) (by omega)
      have e2 : decide (x ∈ c[i] :: c.drop (i + 1)) = decide (x ∈ c.drop (i + 1)) := by
        rw [Bool.eq_iff_iff, decide_eq_true_eq, decide_eq_true_eq, List.mem_cons]
        exact ⟨fun z => z.elim (fun y => absurd (by rw [e, y]) h) id, .inr⟩
      rw [e2]
      exact this
theorem has_ev (c : List Int) (hc : c.length ≤ 1048576) (x : Int) : Ev (fun k => spec_l7Has.f k c x) (decide (x ∈ c)) := has_run c hc x c.length 0 (by omega) (by omega)
def restL (c : List Int) (m : Nat) : List Int := ((List.range m).filter fun (i : Nat) => !decide ((i : Int) ∈ c)).map fun (i : Nat) => (i : Int)
theorem restL_succ (c : List Int) (m : Nat) : restL c (m + 1) = if (m : Int) ∈ c then restL c m else restL c m ++ [(m : Int)] := by
  unfold restL
  rw [List.range_succ, List.filter_append]
  by_cases h : (m : Int) ∈ c <;> simp [h]
theorem restL_len (c : List Int) (m : Nat) : (restL c m).length ≤ m := by
  unfold restL
  rw [List.length_map]
  have := List.length_filter_le (fun (i : Nat) => !decide ((i : Int) ∈ c)) (List.range m)
  rwa [List.length_range] at this
def chB (f : List Int) (n : Nat) (c : List Int) (d : Int) : Bool := decide (rd (geL f n n) d ∈ c)
def flC (f : List Int) (n : Nat) (c : List Int) : List Int := (List.range n).map fun (d : Nat) => if chB f n c (d : Int) = true then rd f (d : Int) else (d : Int)
theorem flC_len (f : List Int) (n : Nat) (c : List Int) : (flC f n c).length = n := by simp [flC]
theorem flC_rd (f : List Int) (n : Nat) (c : List Int) (d : Nat) (h : d < n) : rd (flC f n c) (d : Int) = if chB f n c (d : Int) = true then rd f (d : Int) else (d : Int) := by
  rw [rd_lt _ _ (by simp [flC]; exact h)]
  simp [flC]
theorem flC_inR (f : List Int) (n : Nat) (hf : inR n f) (c : List Int) : inR n (flC f n c) := by
  refine ⟨flC_len f n c, fun i hi => ?_⟩
  rw [flC_rd f n c i hi]
  have := hf.2 i hi
  split <;> omega
theorem edL_get (f : List Int) : ∀ (n e : Nat), e < (edL f n).length → ∃ a : Nat, a < n ∧ (a : Int) < rd f a ∧ rd (edL f n) (e : Int) = a ∧ (edL f a).length = e
  | 0, e, h => by simp [edL] at h
  | n + 1, e, h => by
    simp only [edL] at h ⊢
    by_cases hc : (n : Int) < rd f n
    · simp only [hc, if_true, List.length_append, List.length_cons, List.length_nil] at h ⊢
      by_cases he : e < (edL f n).length
      · obtain ⟨a, h1, h2, h3, h4⟩ := edL_get f n e he
        exact ⟨a, by omega, h2, by rw [rd_app_lt _ _ _ he]; exact h3, h4⟩
      · have e1 : (edL f n).length = e := by omega
        refine ⟨n, by omega, hc, ?_, e1⟩
        rw [rd_lt _ _ (by simp; omega), List.getElem_append_right (by omega)]
        simp [e1]
    · simp only [hc, if_false] at h ⊢
      obtain ⟨a, h1, h2, h3, h4⟩ := edL_get f n e h
      exact ⟨a, by omega, h2, h3, h4⟩
theorem edge_at (f : List Int) (n : Nat) (hf : inR n f) (hfl : ∀ i : Nat, i < n → flipAt f i) (e : Nat) (he : e < (edL f n).length) : ∃ a b : Nat, a < n ∧ b < n ∧ a ≠ b ∧ rd (edL f n) (e : Int) = a ∧ rd f a = b ∧ rd f b = a ∧ ∀ d : Nat, d < n → (rd (geL f n n) (d : Int) = e ↔ d = a ∨ d = b) := by
  obtain ⟨a, h1, h2, h3, h4⟩ := edL_get f n e he
  have g1 := hf.2 a h1
  obtain ⟨g2, g3⟩ := hfl a h1
  have hb : (((rd f a).toNat : Nat) : Int) = rd f a := by omega
  refine ⟨a, (rd f a).toNat, h1, by omega, by omega, h3, hb.symm, by rw [hb]; exact g3, fun d hd => ?_⟩
  have l1 := least_lt f n hf hfl d hd
  rw [geL_at f n hf hfl n (Nat.le_refl _) d hd l1.1]
  have d1 := hf.2 d hd
  obtain ⟨d2, d3⟩ := hfl d hd
  constructor
  · intro h
    have i1 := edL_at f (least f d) l1.2 n l1.1
    rw [h, h3] at i1
    have i2 : least f d = a := by omega
    unfold least at i2
    split at i2
    · exact .inl i2
    · right
      have : rd f d = a := by omega
      rw [this] at d3
      omega
  · rintro (rfl | rfl)
    · rw [show least f d = d from if_pos h2, h4]
    · have : least f (rd f a).toNat = a := by
        unfold least
        rw [hb, g3, if_neg (by omega)]
        omega
      rw [this, h4]
theorem take_get (c : List Int) (i : Nat) (h : i < c.length) : c.take (i + 1) = c.take i ++ [rd c i] := by
  rw [List.take_add_one, rd_lt c i h]
  simp [h]
theorem asc_mono (c : List Int) (m : Int) (hc : isChoice c m) : ∀ (i j : Nat), i < c.length → j < i → rd c j < rd c i
  | i + 1, j, hi, hj => by
    have h := (hc (i + 1) hi).1
    rw [ahead_succ] at h
    by_cases e : j = i
    · rw [e]; exact h
    · have := asc_mono c m hc i j (by omega) (by omega)
      omega
theorem choice_range (c : List Int) (m : Int) (hc : isChoice c m) (i : Nat) (hi : i < c.length) : 0 ≤ rd c i ∧ rd c i < m := by
  have h := hc i hi
  have h2 := asc_nonneg c m i (fun j hj => hc j (by omega))
  unfold ascAt at h
  omega
theorem not_ahead (c : List Int) (m : Int) (hc : isChoice c m) (i : Nat) (hi : i < c.length) : rd c i ∉ c.take i := by
  intro h
  obtain ⟨j, hj, e⟩ := List.getElem_of_mem h
  rw [List.length_take] at hj
  have h1 := asc_mono c m hc i j hi (by omega)
  rw [List.getElem_take] at e
  rw [rd_lt c j (by omega), e] at h1
  omega
def itr (t : List Int) : Nat → Int → Int
  | 0, x => x
  | k + 1, x => itr t k (rd t x)
theorem itr_in (t : List Int) (n : Nat) (ht : inR n t) : ∀ (k : Nat) (x : Int), 0 ≤ x ∧ x < n → 0 ≤ itr t k x ∧ itr t k x < n
  | 0, x, h => h
  | k + 1, x, h => by
    have := ht.2 x.toNat (by omega)
    rw [show ((x.toNat : Nat) : Int) = x by omega] at this
    exact itr_in t n ht k _ this
theorem itr_add (t : List Int) : ∀ (a b : Nat) (x : Int), itr t (a + b) x = itr t b (itr t a x)
  | 0, b, x => by rw [Nat.zero_add]; rfl
  | a + 1, b, x => by
    rw [show a + 1 + b = (a + b) + 1 by omega]
    exact itr_add t a b _
def injR (n : Nat) (t : List Int) : Prop := ∀ i j : Nat, i < n → j < n → rd t i = rd t j → i = j
theorem itr_inj (t : List Int) (n : Nat) (ht : inR n t) (hi : injR n t) : ∀ (k : Nat) (x y : Int), 0 ≤ x ∧ x < n → 0 ≤ y ∧ y < n → itr t k x = itr t k y → x = y
  | 0, x, y, _, _, h => h
  | k + 1, x, y, hx, hy, h => by
    have a1 := ht.2 x.toNat (by omega)
    have a2 := ht.2 y.toNat (by omega)
    have ex : ((x.toNat : Nat) : Int) = x := by omega
    have ey : ((y.toNat : Nat) : Int) = y := by omega
    rw [ex] at a1
    rw [ey] at a2
    have h1 := itr_inj t n ht hi k _ _ a1 a2 h
    have := hi x.toNat y.toNat (by omega) (by omega) (by rw [ex, ey]; exact h1)
    omega
theorem itr_back (t : List Int) (n : Nat) (ht : inR n t) (hi : injR n t) (x : Int) (hx : 0 ≤ x ∧ x < n) : ∃ k : Nat, k < n ∧ itr t (k + 1) x = x := by
  by_cases h : ∃ i j : Nat, i < j ∧ j ≤ n ∧ itr t i x = itr t j x
  · obtain ⟨i, j, h1, h2, h3⟩ := h
    refine ⟨j - i - 1, by omega, ?_⟩
    have e : itr t j x = itr t i (itr t (j - i - 1 + 1) x) := by rw [← itr_add, show j - i - 1 + 1 + i = j by omega]
    rw [e] at h3
    exact (itr_inj t n ht hi i _ _ hx (itr_in t n ht _ x hx) h3).symm
  · exfalso
    have h1 := len_le_of_sub ((List.range (n + 1)).map fun i => (itr t i x).toNat) (List.range n) ?_ ?_
    · rw [List.length_map, List.length_range, List.length_range] at h1
      omega
    · rw [List.Nodup, List.pairwise_map]
      refine List.Pairwise.imp_of_mem ?_ (List.pairwise_lt_range (n := n + 1))
      intro a b ha hb hab e
      have ia := itr_in t n ht a x hx
      have ib := itr_in t n ht b x hx
      exact h ⟨a, b, hab, by have := List.mem_range.1 hb; omega, by omega⟩
    · intro y hy
      obtain ⟨a, ha, rfl⟩ := List.mem_map.1 hy
      have ia := itr_in t n ht a x hx
      exact List.mem_range.2 (by omega)
def fc (t : List Int) (ch : Int → Bool) : Nat → Int → Int
  | 0, x => x
  | m + 1, x => if ch x = true then x else fc t ch m (rd t x)
theorem fc_hit (t : List Int) (ch : Int → Bool) : ∀ (m : Nat) (x : Int), (∃ k : Nat, k ≤ m ∧ ch (itr t k x) = true) → ch (fc t ch m x) = true
  | 0, x, ⟨k, hk, h⟩ => by
    have : k = 0 := by omega
    subst this
    exact h
  | m + 1, x, ⟨k, hk, h⟩ => by
    simp only [fc]
    split
    · assumption
    · cases k with
      | zero => exact absurd h (by assumption)
      | succ k => exact fc_hit t ch m _ ⟨k, by omega, h⟩
theorem fc_in (t : List Int) (n : Nat) (ht : inR n t) (ch : Int → Bool) : ∀ (m : Nat) (x : Int), 0 ≤ x ∧ x < n → 0 ≤ fc t ch m x ∧ fc t ch m x < n
  | 0, x, h => h
  | m + 1, x, h => by
    simp only [fc]
    split
    · exact h
    · have := ht.2 x.toNat (by omega)
      rw [show ((x.toNat : Nat) : Int) = x by omega] at this
      exact fc_in t n ht ch m _ this
theorem meets (t : List Int) (n : Nat) (ht : inR n t) (hi : injR n t) (ch : Int → Bool) (x : Int) (hx : 0 ≤ x ∧ x < n) (hc : ch x = true) : ∃ k : Nat, k ≤ n ∧ ch (itr t k (rd t x)) = true := by
  obtain ⟨k, h1, h2⟩ := itr_back t n ht hi x hx
  exact ⟨k, by omega, by rw [show itr t k (rd t x) = itr t (k + 1) x from rfl, h2]; exact hc⟩
def faL (t f : List Int) (n : Nat) (c : List Int) : List Int := (List.range n).map fun (d : Nat) => if chB f n c (d : Int) = true then fc t (chB f n c) n (rd t (rd f (d : Int))) else (d : Int)
theorem faL_len (t f : List Int) (n : Nat) (c : List Int) : (faL t f n c).length = n := by simp [faL]
theorem faL_rd (t f : List Int) (n : Nat) (c : List Int) (d : Nat) (h : d < n) : rd (faL t f n c) (d : Int) = if chB f n c (d : Int) = true then fc t (chB f n c) n (rd t (rd f (d : Int))) else (d : Int) := by
  rw [rd_lt _ _ (by simp [faL]; exact h)]
  simp [faL]
theorem geL_flip (f : List Int) (n : Nat) (hf : inR n f) (hfl : ∀ i : Nat, i < n → flipAt f i) (d : Nat) (hd : d < n) : rd (geL f n n) (rd f d) = rd (geL f n n) d := by
  have h1 := hf.2 d hd
  obtain ⟨h2, h3⟩ := hfl d hd
  have hb : (((rd f d).toNat : Nat) : Int) = rd f d := by omega
  have l1 := least_lt f n hf hfl d hd
  have l2 := least_lt f n hf hfl (rd f d).toNat (by omega)
  have e1 := geL_at f n hf hfl n (Nat.le_refl _) d hd l1.1
  have e2 := geL_at f n hf hfl n (Nat.le_refl _) (rd f d).toNat (by omega) l2.1
  rw [hb] at e2
  rw [e1, e2]
  have : least f (rd f d).toNat = least f d := by
    unfold least
    rw [hb, h3]
    split <;> split <;> omega
  rw [this]
theorem chB_flip (f : List Int) (n : Nat) (hf : inR n f) (hfl : ∀ i : Nat, i < n → flipAt f i) (c : List Int) (d : Nat) (hd : d < n) : chB f n c (rd f d) = chB f n c d := by
  unfold chB
  rw [geL_flip f n hf hfl d hd]
theorem fa_ch (t f : List Int) (n : Nat) (ht : inR n t) (hi : injR n t) (hf : inR n f) (hfl : ∀ i : Nat, i < n → flipAt f i) (c : List Int) (d : Nat) (hd : d < n) (hc : chB f n c d = true) :
    chB f n c (rd (faL t f n c) d) = true ∧ 0 ≤ rd (faL t f n c) d ∧ rd (faL t f n c) d < n := by
  have h1 := hf.2 d hd
  rw [faL_rd t f n c d hd, if_pos hc]
  have h2 := ht.2 (rd f d).toNat (by omega)
  rw [show (((rd f d).toNat : Nat) : Int) = rd f d by omega] at h2
  exact ⟨fc_hit t _ n _ (meets t n ht hi _ _ h1 (by rw [chB_flip f n hf hfl c d hd]; exact hc)), fc_in t n ht _ n _ h2⟩
theorem faL_inR (t f : List Int) (n : Nat) (ht : inR n t) (hf : inR n f) (c : List Int) : inR n (faL t f n c) := by
  refine ⟨faL_len t f n c, fun i hi => ?_⟩
  rw [faL_rd t f n c i hi]
  have h1 := hf.2 i hi
  have h2 := ht.2 (rd f i).toNat (by omega)
  rw [show (((rd f i).toNat : Nat) : Int) = rd f i by omega] at h2
  split
  · exact fc_in t n ht _ n _ h2
  · omega
theorem getD_set (s : List Bool) (i j : Nat) (b : Bool) (hi : i < s.length) : (s.set i b).getD j false = if i = j then b else s.getD j false := by
  rw [List.getD_eq_getElem?_getD, List.getElem?_set]
  by_cases e : i = j
  · subst e
    simp [hi]
  · simp [e, List.getD_eq_getElem?_getD]
theorem cw_alike (F : List Int) (n : Nat) (ch : Int → Bool) (hF : ∀ d : Nat, d < n → ch d = true → ch (rd F d) = true ∧ 0 ≤ rd F d ∧ rd F d < n) : ∀ (m : Nat) (a : Nat) (s s' : List Bool) (c c' : List Int), a < n → ch a = true → s.length = n → s'.length = n →
    (∀ d : Nat, d < n → ch d = true → s.getD d false = s'.getD d false) →
    (∀ d : Nat, d < n → ch d = true → (cw F m s c a).1.getD d false = (cw F m s' c' a).1.getD d false) ∧ (∀ d : Nat, d < n → ch d = false → (cw F m s c a).1.getD d false = s.getD d false ∧ (cw F m s' c' a).1.getD d false = s'.getD d false)
  | 0, a, s, s', c, c', ha, hc, hs, hs', h => ⟨h, fun d _ _ => ⟨rfl, rfl⟩⟩
  | m + 1, a, s, s', c, c', ha, hc, hs, hs', h => by
    have e := h a ha hc
    have f1 := hF a ha hc
    simp only [cw]
    rw [rdOf_nat s a (by omega), rdOf_nat s' a (by omega), Int.toNat_natCast, e]
    by_cases k : s'.getD a false = true
    · rw [if_pos k, if_pos k]
      exact ⟨h, fun d _ _ => ⟨rfl, rfl⟩⟩
    · rw [if_neg k, if_neg k]
      have ih := cw_alike F n ch hF m (rd F a).toNat (s.set a true) (s'.set a true) (c ++ [(a : Int)]) (c' ++ [(a : Int)]) (by omega) (by rw [show (((rd F a).toNat : Nat) : Int) = rd F a by omega]; exact f1.1) (by simpa using hs) (by simpa using hs') (fun d hd hcd => by
        rw [getD_set _ _ _ _ (by omega), getD_set _ _ _ _ (by omega)]
        split
        · rfl
        · exact h d hd hcd)
      rw [show (((rd F a).toNat : Nat) : Int) = rd F a by omega] at ih
      refine ⟨ih.1, fun d hd hcd => ?_⟩
      have := ih.2 d hd hcd
      have ne : a ≠ d := by rintro rfl; rw [hc] at hcd; cases hcd
      rw [getD_set _ _ _ _ (by omega), getD_set _ _ _ _ (by omega), if_neg ne, if_neg ne] at this
      exact this
def ribS (F : List Int) (n : Nat) (ch : Int → Bool) : Nat → List Bool × Nat
  | 0 => (List.replicate n false, 0)
  | i + 1 => if ch i = true ∧ (ribS F n ch i).1.getD i false = false then ((cw F (n + 1) (ribS F n ch i).1 [] i).1, (ribS F n ch i).2 + 1) else ribS F n ch i
def uc (ch : Int → Bool) : Nat → Nat
  | 0 => 0
  | i + 1 => if ch i = true then uc ch i else uc ch i + 1
theorem ribS_len (F : List Int) (n : Nat) (ch : Int → Bool) : ∀ i, (ribS F n ch i).1.length = n
  | 0 => by simp [ribS]
  | i + 1 => by
    simp only [ribS]
    split
    · rw [cw_len, ribS_len F n ch i]
    · exact ribS_len F n ch i
theorem ribS_le (F : List Int) (n : Nat) (ch : Int → Bool) : ∀ i, (ribS F n ch i).2 ≤ i
  | 0 => by simp [ribS]
  | i + 1 => by
    have := ribS_le F n ch i
    simp only [ribS]
    split
    · simp only; omega
    · omega
theorem cw_still (F : List Int) (m : Nat) (s : List Bool) (i : Nat) (hi : i < s.length) (hF : rd F i = i) (hs : s.getD i false = false) : cw F (m + 1) s [] i = (s.set i true, [(i : Int)]) := by
  simp only [cw]
  rw [rdOf_nat s i (by omega), Int.toNat_natCast, hs]
  simp only [Bool.false_eq_true, if_false, List.nil_append, hF]
  rw [cw_seen]
  rw [rdOf_nat _ i (by omega), Int.toNat_natCast, getD_set _ _ _ _ hi, if_pos rfl]
theorem ribS_cyS (F : List Int) (n : Nat) (ch : Int → Bool) (hF : ∀ d : Nat, d < n → ch d = true → ch (rd F d) = true ∧ 0 ≤ rd F d ∧ rd F d < n) (hG : ∀ d : Nat, d < n → ch d = false → rd F d = d) : ∀ i, i ≤ n →
    (cyS F n i).2.length = (ribS F n ch i).2 + uc ch i ∧ (∀ d : Nat, d < n → ch d = true → (cyS F n i).1.getD d false = (ribS F n ch i).1.getD d false) ∧ (∀ d : Nat, d < n → ch d = false → i ≤ d → (cyS F n i).1.getD d false = false)
  | 0, _ => by
    refine ⟨by simp [cyS, ribS, uc], fun d hd _ => rfl, fun d hd _ _ => ?_⟩
    simp [cyS, List.getD_eq_getElem?_getD, List.getElem?_replicate, hd]
  | i + 1, hi => by
    obtain ⟨h1, h2, h3⟩ := ribS_cyS F n ch hF hG i (by omega)
    have l1 := cyS_len F n i
    have l2 := ribS_len F n ch i
    cases hc : ch i with
    | true =>
      have e := h2 i (by omega) hc
      have al := cw_alike F n ch hF (n + 1) i (cyS F n i).1 (ribS F n ch i).1 [] [] (by omega) hc l1 l2 h2
      by_cases k : (ribS F n ch i).1.getD i false = false
      · have k' : ¬ rdOf false (cyS F n i).1 (i : Int) = true := by
          rw [rdOf_nat _ _ (by omega), Int.toNat_natCast, e, k]
          simp
        simp only [cyS, ribS, uc, hc, k, if_true, and_self]
        rw [if_neg (cw_new F n _ i k')]
        refine ⟨by simp only [List.length_append, List.length_cons, List.length_nil]; omega, al.1, fun d hd hcd hid => ?_⟩
        rw [(al.2 d hd hcd).1]
        exact h3 d hd hcd (by omega)
      · have k2 : rdOf false (cyS F n i).1 (i : Int) = true := by
          rw [rdOf_nat _ _ (by omega), Int.toNat_natCast, e]
          simpa using k
        simp only [cyS, ribS, uc, hc, k, if_true, if_false, and_false]
        rw [cw_seen F (n + 1) _ _ _ k2]
        exact ⟨h1, h2, fun d hd hcd hid => h3 d hd hcd (by omega)⟩
    | false =>
      have z := h3 i (by omega) hc (Nat.le_refl _)
      simp only [cyS, ribS, uc, hc, Bool.false_eq_true, false_and, if_false]
      rw [cw_still F n _ i (by omega) (hG i (by omega) hc) z]
      refine ⟨by simp only [List.length_append, List.length_cons, List.length_nil, reduceCtorEq, if_false]; omega, fun d hd hcd => ?_, fun d hd hcd hid => ?_⟩
      · have ne : i ≠ d := by rintro rfl; rw [hc] at hcd; cases hcd
        rw [getD_set _ _ _ _ (by omega), if_neg ne]
        exact h2 d hd hcd
      · rw [getD_set _ _ _ _ (by omega), if_neg (by omega)]
        exact h3 d hd hcd (by omega)
theorem uc_eq (ch : Int → Bool) (s : List Bool) : (∀ d : Nat, d < s.length → s.getD d false = ch d) → ∀ i, i ≤ s.length → uc ch i = (s.take i).countP (fun b => !b)
  | h, 0, _ => by simp [uc]
  | h, i + 1, hi => by
    have ih := uc_eq ch s h i (by omega)
    rw [List.take_add_one, List.countP_append, ← ih]
    have e := h i (by omega)
    rw [List.getD_eq_getElem?_getD, List.getElem?_eq_getElem (by omega)] at e
    rw [List.getElem?_eq_getElem (by omega)]
    simp only [Option.getD_some] at e
    simp only [uc, e, Option.toList_some]
    cases ch i <;> simp
theorem uc_fresh (ch : Int → Bool) (s : List Bool) (h : ∀ d : Nat, d < s.length → s.getD d false = ch d) : uc ch s.length = fresh s := by
  rw [uc_eq ch s h s.length (Nat.le_refl _), List.take_length]
  rfl
end Go.Proofs.Ytjgknblneokhlaa.PI
