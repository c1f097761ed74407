/- For every list of bytes, the law FnDegrees answers true: of the map that it draws, MapDegrees of the program answers what the reference answers; a valid map's degrees are as many as its vertices, the dual's as many as its faces, and either's sum is twice the edges. There are no conditions. -/
import Derived.Test.YtggghijamfmenaaKFnDegreesOwnx2
namespace Go.Proofs.Ytggghijamfmenaa.PA
open Go.RowKit Go.Proofs.YtggghijamfmenaaW.PrintWords Go.Proofs.YtggghijamfmenaaW.PrintLast Go.Proofs.YtggghijamfmenaaW.PrintMore
attribute [local go_sem] max2_int min2_int max_two min_two max_three min_three max_four min_four   -- for this text's walks alone
set_option linter.unusedVariables false
set_option linter.unusedSimpArgs false
def laws_FnDegrees_up (L : List (Nat × Option Tmp)) (n : Nat) : Array Bool := ((List.range n).map (fun i => !(L.map Prod.fst).contains i)).toArray
section
variable {P : Program} {ops : Array Oper} {Q : Exit → Act → World → Prop} {md : Region.Mode} {S : World → Prop} {ds : List Nat}
theorem laws_FnDegrees_uS {i n : Nat} {N : Option Tmp} {L : List (Nat × Option Tmp)} {oi : Oper} {fuel : Nat} {a : Act} {w : World} (hi : ops[i]? = some oi) (hN : oi.dst = N) (hc : anyB md ops (laws_FnDegrees_up ((i, N) :: L) n) (laws_FnDegrees_up L n) i = true)
  (hQ : ∀ c a w, Q (.panic c) (a.put oi.dst undef) w → Q (.panic c) a w) (hw : Region.wanted oi (yielded ops a.tmps) = false) {a' : Act} (ha : a.put N undef = a')
  (h : wpAnyLast P md ops Q S ds fuel (laws_FnDegrees_up L n) a' w) : wpAnyLast P md ops Q S ds (fuel + 1) (laws_FnDegrees_up ((i, N) :: L) n) a w := pure_ (laws_FnDegrees_up L n) hi hN hc hQ (Or.inr ⟨hw, rfl⟩) ha h
theorem laws_FnDegrees_uP {i n : Nat} {N : Option Tmp} {L : List (Nat × Option Tmp)} {oi : Oper} {v : Value} {fuel : Nat} {a : Act} {w : World} (hi : ops[i]? = some oi) (hN : oi.dst = N) (hc : anyB md ops (laws_FnDegrees_up ((i, N) :: L) n) (laws_FnDegrees_up L n) i = true)
  (hQ : ∀ c a w, Q (.panic c) (a.put oi.dst v) w → Q (.panic c) a w) (hw : Region.wanted oi (yielded ops a.tmps) = true) (hy : ∀ w, (execOp a.eval oi).run P w = .ok (.value v) w) {a' : Act} (ha : a.put N v = a')
  (h : wpAnyLast P md ops Q S ds fuel (laws_FnDegrees_up L n) a' w) : wpAnyLast P md ops Q S ds (fuel + 1) (laws_FnDegrees_up ((i, N) :: L) n) a w := pure_ (laws_FnDegrees_up L n) hi hN hc hQ (Or.inl ⟨hw, hy⟩) ha h
theorem laws_FnDegrees_uT {i n : Nat} {N : Option Tmp} {L : List (Nat × Option Tmp)} {oi : Oper} {v : Value} {fuel : Nat} {a : Act} {w : World} (hi : ops[i]? = some oi) (hN : oi.dst = N) (hc : takeB md ops ds (laws_FnDegrees_up ((i, N) :: L) n) (laws_FnDegrees_up L n) i = true)
  (hQ : ∀ c a w, Q (.panic c) (a.put oi.dst v) w → Q (.panic c) a w) (hw : Region.wanted oi (yielded ops a.tmps) = true) (hy : ∀ w, S w → (execOp a.eval oi).run P w = .ok (.value v) w) (hS : S w) {a' : Act} (ha : a.put N v = a')
  (h : wpAnyLast P md ops Q S ds fuel (laws_FnDegrees_up L n) a' w) : wpAnyLast P md ops Q S ds (fuel + 1) (laws_FnDegrees_up ((i, N) :: L) n) a w := take_ (laws_FnDegrees_up L n) hi hN hc hQ (Or.inl ⟨hw, hy⟩) hS ha h
theorem laws_FnDegrees_uO {i n : Nat} {N : Option Tmp} {L : List (Nat × Option Tmp)} {oi : Oper} {fuel : Nat} {a : Act} {w : World} (hi : ops[i]? = some oi) (hN : oi.dst = N) (hc : readyB md ops (laws_FnDegrees_up ((i, N) :: L) n) (laws_FnDegrees_up L n) i = true) (hd : i ∉ ds)
  (h : ∀ K : Act → World → Prop, Shut (∀ a' w', S w' → (S w' → wpAnyLast P md ops Q S ds fuel (laws_FnDegrees_up L n) a' w') → K a' w') → if Region.wanted oi (yielded ops a.tmps) = true then Oper.wp P oi a w K Q else K (a.put N undef) w) :
  wpAnyLast P md ops Q S ds (fuel + 1) (laws_FnDegrees_up ((i, N) :: L) n) a w := one_ (laws_FnDegrees_up L n) hi hN hc hd h
end
def laws_FnDegrees.j0 : Nat → List Int → Bool → List Int → Bool → Bool → List Int → List Int → Option (Bool)
 | 0, _, _, _, _, _, _, _ => none
 | k + 1, x4, x5, x6, x7, x41, xZ0, xZ1 => if x41 = true then (if (x5 == x7) = true then ((laws_sameInts.f k x4 x6).bind fun t481 => (some t481)) else (some false)) else ((impl_MapCounts.f k xZ0 xZ1).bind fun bt482 => ((impl_MapDual.f k xZ0 xZ1).bind fun bt486 => ((impl_MapDegrees.f k bt486.1 bt486.2.1).bind fun bt494 => (if bt482.2 = true then (if bt486.2.2 = true then (if bt494.2 = true then ((laws_sumOf.f k x4).bind fun t498 => (if 1 < (bt482.1.length : Int) then (if t498 = (wrap64 (2 * (rd bt482.1 1))) then (if 0 < (bt482.1.length : Int) then (if (x4.length : Int) = (rd bt482.1 0) then (if 2 < (bt482.1.length : Int) then (if (bt494.1.length : Int) = (rd bt482.1 2) then ((laws_sumOf.f k bt494.1).bind fun t502 => (some (t502 == (wrap64 (2 * (rd bt482.1 1)))))) else (some false)) else (none)) else (some false)) else (none)) else (some false)) else (none))) else (some false)) else (some false)) else (some false)))))
def laws_FnDegrees.f (k : Nat) (l0 : List Int) : Option (Bool) := if (l0.length : Int) > 1048576 then (some true) else ((spec_DrawMapDegrees.f k l0).bind fun bt465 => ((impl_MapDegrees.f k bt465.1 bt465.2).bind fun bt472 => ((spec_MapDegrees.f k bt465.1 bt465.2).bind fun bt476 => (if (bt472.2 != bt476.2) = true then (laws_FnDegrees.j0 k bt472.1 bt472.2 bt476.1 bt476.2 true bt465.1 bt465.2) else ((laws_sameInts.f k bt472.1 bt476.1).bind fun t480 => (if t480 = true then (laws_FnDegrees.j0 k bt472.1 bt472.2 bt476.1 bt476.2 (!bt472.2) bt465.1 bt465.2) else (laws_FnDegrees.j0 k bt472.1 bt472.2 bt476.1 bt476.2 true bt465.1 bt465.2)))))))
def laws_FnDegrees.T11 : Bool × List (List Nat × List Nat) := (true, [([], []), ([0], [0]), ([1], [1]), ([1, 2], [1, 2]), ([3, 1], [3]), ([4], [4]), ([4, 5], [4, 5]), ([6, 4], [6]), ([7], [7]), ([8, 7, 7], [7, 8]), ([7], [7]), ([10, 7], [7, 10]), ([11, 7], [7, 11]), ([12, 7], [7, 12]), ([9, 13, 7], [7, 9, 13]), ([7, 14], [7, 14]), ([15, 9], [15]), ([16], [16]), ([17, 16], [16, 17]), ([16], [16]), ([19, 16], [16, 19]), ([20, 16], [16, 20]), ([18, 21, 16], [16, 18, 21]), ([16, 22], [16, 22]), ([23, 16], [23]), ([24], [24]), ([25, 24], [24, 25]), ([24], [24]), ([27, 24], [24, 27]), ([28, 24], [24, 28]), ([26, 29, 24], [24, 26, 29]), ([24, 30], [24, 30]), ([31, 24], [31]), ([32], [32]), ([33, 32, 32], [32, 33]), ([32], [32]), ([35, 32], [32, 35]), ([36, 32], [32, 36]), ([37, 32], [32, 37]), ([34, 38, 32], [32, 34, 38]), ([32, 39], [32, 39]), ([40, 34, 0, 1, 2, 3, 4, 5, 6, 7, 8, 9, 10, 11, 12, 13, 14, 15, 16, 17, 18, 19, 20, 21, 22, 23, 24, 25, 26, 27, 28, 29, 30, 31, 32, 33, 34, 35, 36, 37, 38, 39, 40], [40])])
def laws_FnDegrees.B11 : List Nat := [0, 1, 3, 7, 15, 31, 63, 127, 255, 511, 255, 1279, 3327, 7423, 16383, 32767, 65535, 131071, 262143, 131071, 655359, 1703935, 4194303, 8388607, 16777215, 33554431, 67108863, 33554431, 167772159, 436207615, 1073741823, 2147483647, 4294967295, 8589934591, 17179869183, 8589934591, 42949672959, 111669149695, 249108103167, 549755813887, 1099511627775, 2199023255551]
theorem laws_FnDegrees.tab11 : rtab .any (opsOf Try.f6 11) = laws_FnDegrees.T11 := by kernel_rfl
theorem laws_FnDegrees.bits11 : waitsOk laws_FnDegrees.T11.2 laws_FnDegrees.B11 = true := by kernel_rfl
set_option maxHeartbeats 8000000 in
set_option maxRecDepth 100000 in
theorem laws_FnDegrees.calls (k : Nat) (A0 : Option Addr) (c0 : Nat) (l0 : List Int) (r : Bool) (w : World) (hr0 : Kd.C (Kd.int .u8) w A0 l0.length l0) (hc0 : l0.length ≤ c0) (h : laws_FnDegrees.f k l0 = some r) :
  Calls Try.prog 6 #[.slice A0 l0.length c0] w fun e w' => e = .returned (.bool r) ∧ Below w.heap.size w w' := by
 have hu25 := Try.underlying25; have HR0 := Az hr0; have HC0 := Az hc0; clear hr0 hc0; have HB := Az (Below.refl w.heap.size w); have H : (if (l0.length : Int) > 1048576 then (some true) else ((spec_DrawMapDegrees.f k l0).bind fun bt465 => ((impl_MapDegrees.f k bt465.1 bt465.2).bind fun bt472 => ((spec_MapDegrees.f k bt465.1 bt465.2).bind fun bt476 => (if (bt472.2 != bt476.2) = true then (laws_FnDegrees.j0 k bt472.1 bt472.2 bt476.1 bt476.2 true bt465.1 bt465.2) else ((laws_sameInts.f k bt472.1 bt476.1).bind fun t480 => (if t480 = true then (laws_FnDegrees.j0 k bt472.1 bt472.2 bt476.1 bt476.2 (!bt472.2) bt465.1 bt465.2) else (laws_FnDegrees.j0 k bt472.1 bt472.2 bt476.1 bt476.2 true bt465.1 bt465.2)))))))) = some r := h; clear h
 by_cases c2 : (l0.length : Int) > 1048576
 ·
  rw [if_pos c2] at H; have c2b0 := decide_eq_true c2; have c2b1 : decide (1048576 < l0.length) = true := decide_eq_true (by omega); clear c2; obtain rfl := Option.some.inj H
  go_enter Try.func6, Try.ntmps6
  go_wp2
  go_ret
  exact ⟨rE, bU0 HB.out⟩
 ·
  rw [if_neg c2] at H; have c2b0 := decide_eq_false c2; have c2b1 : decide (1048576 < l0.length) = false := decide_eq_false (by omega); clear c2; replace H := Option.bind_eq_some_iff.mp H; obtain ⟨⟨t465, t468⟩, A30, H⟩ := H; replace H : ((impl_MapDegrees.f k t465 t468).bind fun bt472 => ((spec_MapDegrees.f k t465 t468).bind fun bt476 => (if (bt472.2 != bt476.2) = true then (laws_FnDegrees.j0 k bt472.1 bt472.2 bt476.1 bt476.2 true t465 t468) else ((laws_sameInts.f k bt472.1 bt476.1).bind fun t480 => (if t480 = true then (laws_FnDegrees.j0 k bt472.1 bt472.2 bt476.1 bt476.2 (!bt472.2) t465 t468) else (laws_FnDegrees.j0 k bt472.1 bt472.2 bt476.1 bt476.2 true t465 t468)))))) = some r := H; have A3 := Az A30; clear A30; replace H := Option.bind_eq_some_iff.mp H; obtain ⟨⟨t472, t475⟩, A40, H⟩ := H; replace H : ((spec_MapDegrees.f k t465 t468).bind fun bt476 => (if (t475 != bt476.2) = true then (laws_FnDegrees.j0 k t472 t475 bt476.1 bt476.2 true t465 t468) else ((laws_sameInts.f k t472 bt476.1).bind fun t480 => (if t480 = true then (laws_FnDegrees.j0 k t472 t475 bt476.1 bt476.2 (!t475) t465 t468) else (laws_FnDegrees.j0 k t472 t475 bt476.1 bt476.2 true t465 t468))))) = some r := H; have A4 := Az A40; clear A40; replace H := Option.bind_eq_some_iff.mp H; obtain ⟨⟨t476, t479⟩, A50, H⟩ := H; replace H : (if (t475 != t479) = true then (laws_FnDegrees.j0 k t472 t475 t476 t479 true t465 t468) else ((laws_sameInts.f k t472 t476).bind fun t480 => (if t480 = true then (laws_FnDegrees.j0 k t472 t475 t476 t479 (!t475) t465 t468) else (laws_FnDegrees.j0 k t472 t475 t476 t479 true t465 t468)))) = some r := H; have A5 := Az A50; clear A50; have HC6 := Az H; clear H
  go_enter Try.func6, Try.ntmps6
  go_upto_region 6 with (first | ((with_reducible refine gate_callee (f := 33) rfl ?_); refine goesL_ (some 18) rfl rfl Try.func33 (by kernel_rfl) rfl #[.slice A0 l0.length c0] rfl (by (try simp only [List.map_toArray, List.map_cons, List.map_nil]); first | done | rfl | (simp only [List.length_drop, List.length_take]; rfl)) ?_; (with_reducible refine (spec_DrawMapDegrees.calls k _ _ l0 t465 t468 _ ?side1 ?side2 A3.out).mono ?_); (case side1 => exact cU (HR0.out)); (case side2 => exact HC0.out); rintro e w7 ⟨v466, v469, rfl, ho0, ho1, hb⟩; refine ⟨_, rfl, ?_⟩; have n0 := Az (Kd.Q_lower ho0 (below_size (bU0 HB.out))); have n1 := Az (Kd.R_lower ho1 (below_size (bU0 HB.out))); have n2 := Az (below_step (bU0 HB.out) hb); clear HB; have HO467 := n0; have HO470 := n1; have HB := n2; clear n0 n1 n2; (try clear hb); (try clear hb2); (try clear hk); (try clear hi); (try clear ho0); (try clear ho1)) | ((with_reducible refine gate_dst (N := 3) rfl ?_); (try (refine gate_guard (by rfl) ?_; dsimp only)); refine box_event ?hg (N := 3) ?hd (cs := #[.slice none 0 0, .slice none 0 0]) (t := 25) ?hr ?_; (case hd => rfl); (case hg => rfl); (case hr => first | (go_simp; done) | (go_simp; rfl)); intro gb471 hg w8 hbox hb; have n0 := Az (Kd.Q_below (qU HO467.out) hb); have n1 := Az (Kd.R_below (rU HO470.out) hb); have n2 := Az (below_step (bU0 HB.out) hb); have n3 := Az (hbox); have n4 := Az ((by rw [hg]; exact (below_size (bU0 HB.out)) : w.heap.size ≤ gb471)); have n5 := n4; clear HO467 HO470 HB; have HO467 := n0; have HO470 := n1; have HB := n2; have BK471 := n3; have GW471 := n4; have GE471 := n5; clear n0 n1 n2 n3 n4 n5 hb hbox hg; obtain ⟨Ao9, co9, eo9, _⟩ := Kd.Q_slice HO467.out; subst eo9; have hcz10_0 : w8.cell? ⟨gb471, 0, none⟩ = some (.slice none 0 0) := (blk_cell BK471.out 0).trans rfl; have hcz10_1 : w8.cell? ⟨gb471, 1, none⟩ = some (.slice none 0 0) := (blk_cell BK471.out 1).trans rfl; have hfz10_0 := blk_frozen BK471.out 0; have hfz10_1 := blk_frozen BK471.out 1; obtain ⟨Ao11, co11, eo11⟩ := Kd.R_slice HO470.out; subst eo11) | ((with_reducible refine gate_callee (f := 34) rfl ?_); refine goesL_ (some 21) rfl rfl Try.func34 (by kernel_rfl) rfl #[.agg #[.slice Ao9 t465.length co9, .slice Ao11 t468.length co11]] rfl (by (try simp only [List.map_toArray, List.map_cons, List.map_nil]); first | done | rfl | (simp only [List.length_drop, List.length_take]; rfl)) ?_; (with_reducible refine (impl_MapDegrees.calls k _ _ t465 _ _ t468 t472 t475 _ ?side1 ?side2 ?side3 ?side4 A4.out).mono ?_); (case side1 => refine (Kd.Q_reads' (e := 3) (base := w.heap.size) (ok := fun k_ => some k_ ≠ (.slice Ao11 t468.length co11 : Value).ownBlock) (n := t465.length) (c := co9) ?_).2.2; exact (by (with_reducible repeat (first | apply Kd.Q_alloc | apply Kd.Q_drewN | apply Kd.Q_drew)); exact (Kd.Q_mono (Kd.Q_far (p := ⟨gb471, 1, none⟩) (Kd.Q_far (p := ⟨gb471, 0, none⟩) (Kd.Q_types HO467.out BK471.out (by decide)) (fun _ hk => hk.2) (.slice Ao9 t465.length co9)) (fun _ hk => hk.2) (.slice Ao11 t468.length co11)) (fun _ h_ => h_.1)))); (case side2 => exact (Kd.Q_reads' HO467.out).2.1); (case side3 => refine (Kd.R_reads' (e := 3) (base := w.heap.size) (ok := fun k_ => some k_ ≠ (.slice Ao9 t465.length co9 : Value).ownBlock) (n := t468.length) (c := co11) ?_).2.2; exact (by (with_reducible repeat (first | apply Kd.R_alloc | apply Kd.R_drewN | apply Kd.R_drew)); exact (Kd.R_mono (Kd.R_far (p := ⟨gb471, 1, none⟩) (Kd.R_far (p := ⟨gb471, 0, none⟩) (Kd.R_types HO470.out BK471.out (by decide)) (fun _ hk => hk.2) (.slice Ao9 t465.length co9)) (fun _ hk => hk.2) (.slice Ao11 t468.length co11)) (fun _ h_ => h_.1)))); (case side4 => exact (Kd.R_reads' HO470.out).2.1); rintro e w12 ⟨v473, rfl, ho0, hb⟩; refine ⟨_, rfl, ?_⟩; have n0 := Az (Kd.Q_elder' (by (with_reducible repeat (first | apply Kd.Q_alloc | apply Kd.Q_drewN | apply Kd.Q_drew)); exact (Kd.Q_mono (Kd.Q_far (p := ⟨gb471, 1, none⟩) (Kd.Q_far (p := ⟨gb471, 0, none⟩) (Kd.Q_types HO467.out BK471.out (by decide)) (fun _ hk => hk.2) (.slice Ao9 t465.length co9)) (fun _ hk => hk.2) (.slice Ao11 t468.length co11)) (fun _ h_ => h_.1))) (Kd.R_base ho0) hb); have n1 := Az (Kd.R_elder' (by (with_reducible repeat (first | apply Kd.R_alloc | apply Kd.R_drewN | apply Kd.R_drew)); exact (Kd.R_mono (Kd.R_far (p := ⟨gb471, 1, none⟩) (Kd.R_far (p := ⟨gb471, 0, none⟩) (Kd.R_types HO470.out BK471.out (by decide)) (fun _ hk => hk.2) (.slice Ao9 t465.length co9)) (fun _ hk => hk.2) (.slice Ao11 t468.length co11)) (fun _ h_ => h_.1))) (Kd.R_base ho0) hb); have n2 := Az (Kd.R_lower (Kd.R_new' (Kd.R_new' ho0 (Kd.Q_lt (by (with_reducible repeat (first | apply Kd.Q_alloc | apply Kd.Q_drewN | apply Kd.Q_drew)); exact (Kd.Q_mono (Kd.Q_far (p := ⟨gb471, 1, none⟩) (Kd.Q_far (p := ⟨gb471, 0, none⟩) (Kd.Q_types HO467.out BK471.out (by decide)) (fun _ hk => hk.2) (.slice Ao9 t465.length co9)) (fun _ hk => hk.2) (.slice Ao11 t468.length co11)) (fun _ h_ => h_.1))))) (Kd.R_lt (by (with_reducible repeat (first | apply Kd.R_alloc | apply Kd.R_drewN | apply Kd.R_drew)); exact (Kd.R_mono (Kd.R_far (p := ⟨gb471, 1, none⟩) (Kd.R_far (p := ⟨gb471, 0, none⟩) (Kd.R_types HO470.out BK471.out (by decide)) (fun _ hk => hk.2) (.slice Ao9 t465.length co9)) (fun _ hk => hk.2) (.slice Ao11 t468.length co11)) (fun _ h_ => h_.1))))) (below_size (bU1 HB.out GE471.out))); have n3 := Az (blk_below (g := gb471) (o := .cells #[.slice Ao9 t465.length co9, .slice Ao11 t468.length co11] 25 (0, 0)) (by (with_reducible repeat (first | refine blk_drewN ?_ _ | refine blk_drew ?_ | refine blk_alloc ?_ _)); refine blk_put (cs := #[.slice Ao9 t465.length co9, .slice none 0 0]) ?_ 1 _ rfl; (with_reducible repeat (first | refine blk_drewN ?_ _ | refine blk_drew ?_ | refine blk_alloc ?_ _)); refine blk_put (cs := #[.slice none 0 0, .slice none 0 0]) ?_ 0 _ rfl; (with_reducible repeat (first | refine blk_drewN ?_ _ | refine blk_drew ?_ | refine blk_alloc ?_ _)); exact BK471.out) hb); have n4 := Az (below_step (bU1 HB.out GE471.out) hb); clear HO467 HO470 BK471 HB; have HO467 := n0; have HO470 := n1; have HO474 := n2; have BK471 := n3; have HB := n4; clear n0 n1 n2 n3 n4; (try clear hb); (try clear hb2); (try clear hk); (try clear hi); (try clear ho0); have hcz13_0 : w12.cell? ⟨gb471, 0, none⟩ = some (.slice Ao9 t465.length co9) := (blk_cell BK471.out 0).trans rfl; have hcz13_1 : w12.cell? ⟨gb471, 1, none⟩ = some (.slice Ao11 t468.length co11) := (blk_cell BK471.out 1).trans rfl; have hfz13_0 := blk_frozen BK471.out 0; have hfz13_1 := blk_frozen BK471.out 1) | ((with_reducible refine gate_callee (f := 35) rfl ?_); refine goesL_ (some 26) rfl rfl Try.func35 (by kernel_rfl) rfl #[.agg #[.slice Ao9 t465.length co9, .slice Ao11 t468.length co11]] rfl (by (try simp only [List.map_toArray, List.map_cons, List.map_nil]); first | done | rfl | (simp only [List.length_drop, List.length_take]; rfl)) ?_; (with_reducible refine (spec_MapDegrees.calls k _ _ t465 _ _ t468 t476 t479 _ ?side1 ?side2 ?side3 ?side4 A5.out).mono ?_); (case side1 => exact cU ((Kd.Q_reads' HO467.out).2.2)); (case side2 => exact (Kd.Q_reads' HO467.out).2.1); (case side3 => exact cU ((Kd.R_reads' HO470.out).2.2)); (case side4 => exact (Kd.R_reads' HO470.out).2.1); rintro e w14 ⟨v477, rfl, ho0, hb⟩; refine ⟨_, rfl, ?_⟩; have n0 := Az (Kd.Q_elder' (qU HO467.out) (Kd.R_base ho0) hb); have n1 := Az (Kd.R_elder' (rU HO470.out) (Kd.R_base ho0) hb); have n2 := Az (Kd.R_elder' (rU HO474.out) (Kd.R_base ho0) hb); have n3 := Az (Kd.R_lower (Kd.R_new' (Kd.R_new' (Kd.R_new' ho0 (Kd.Q_lt (qU HO467.out))) (Kd.R_lt (rU HO470.out))) (Kd.R_lt (rU HO474.out))) (below_size (bU1 HB.out GE471.out))); have n4 := Az (blk_below (g := gb471) (o := .cells #[.slice Ao9 t465.length co9, .slice Ao11 t468.length co11] 25 (0, 0)) (kU BK471.out) hb); have n5 := Az (below_step (bU1 HB.out GE471.out) hb); clear HO467 HO470 HO474 BK471 HB; have HO467 := n0; have HO470 := n1; have HO474 := n2; have HO478 := n3; have BK471 := n4; have HB := n5; clear n0 n1 n2 n3 n4 n5; (try clear hb); (try clear hb2); (try clear hk); (try clear hi); (try clear ho0)))
  (try simp only [Act.put, List.setIfInBounds_toArray, List.set_cons_zero, List.set_cons_succ])
  go_cut [41] (fun v41 wc => ∃ (kq : Nat) (x41_5 : Bool), v41 = .bool x41_5 ∧ Aside0 (laws_FnDegrees.j0 kq t472 t475 t476 t479 x41_5 t465 t468 = some r) ∧ Aside0 (kq ≤ k) ∧ Aside0 (Kd.R (Kd.int .i64) 3 wc w.heap.size (fun k_ => some k_ ≠ (v477 : Value).ownBlock ∧ some k_ ≠ ((.slice Ao9 t465.length co9) : Value).ownBlock ∧ some k_ ≠ ((.slice Ao11 t468.length co11) : Value).ownBlock) v473 t472) ∧ Aside0 (Kd.R (Kd.int .i64) 3 wc w.heap.size (fun k_ => some k_ ≠ (v473 : Value).ownBlock ∧ some k_ ≠ ((.slice Ao9 t465.length co9) : Value).ownBlock ∧ some k_ ≠ ((.slice Ao11 t468.length co11) : Value).ownBlock) v477 t476) ∧ Aside0 (Kd.Q (Kd.int .i64) 3 wc w.heap.size (fun k_ => some k_ ≠ (v473 : Value).ownBlock ∧ some k_ ≠ (v477 : Value).ownBlock ∧ some k_ ≠ ((.slice Ao11 t468.length co11) : Value).ownBlock) (.slice Ao9 t465.length co9) t465) ∧ Aside0 (Kd.R (Kd.int .i64) 3 wc w.heap.size (fun k_ => some k_ ≠ (v473 : Value).ownBlock ∧ some k_ ≠ (v477 : Value).ownBlock ∧ some k_ ≠ ((.slice Ao9 t465.length co9) : Value).ownBlock) (.slice Ao11 t468.length co11) t468) ∧ Aside0 (wc.heap[gb471]? = some (.cells #[(.slice Ao9 t465.length co9), (.slice Ao11 t468.length co11)] 25 (0, 0))) ∧ Aside0 (Below w.heap.size w wc))
  case first =>
   have H := HC6.out; clear HC6
   by_cases c15 : (t475 != t479) = true
   ·
    rw [if_pos c15] at H; have c15b0 : (t475 != t479) = true := c15; (try (have c15b1 : decide (t475 = t479) = false := by simpa using c15)); (try (have c15b2 : (t475 == t479) = false := by simpa using c15)); (try (have c15b3 : ¬ (t475 = t479) := by simpa using c15)); clear c15; (first | rw [c15b0] | (simp only [i64_w, i32_w]; rw [c15b0]) | skip); have H' := Az H; clear H
    go_wp2
    go_meet
    case rel => exact ⟨_, (true), rS, H', ⟨by first | omega | exact Nat.le_refl _⟩, ⟨by (with_reducible repeat (first | apply Kd.R_alloc | apply Kd.R_drewN | apply Kd.R_drew)); exact Kd.R_mono HO474.out (fun _ hk => ⟨hk.2, ⟨hk.1.1.2, hk.1.2⟩⟩)⟩, ⟨by (with_reducible repeat (first | apply Kd.R_alloc | apply Kd.R_drewN | apply Kd.R_drew)); exact Kd.R_mono HO478.out (fun _ hk => ⟨hk.2, ⟨hk.1.1.2, hk.1.2⟩⟩)⟩, ⟨by (with_reducible repeat (first | apply Kd.Q_alloc | apply Kd.Q_drewN | apply Kd.Q_drew)); exact Kd.Q_mono HO467.out (fun _ hk => ⟨hk.1.2, ⟨hk.2, hk.1.1⟩⟩)⟩, ⟨by (with_reducible repeat (first | apply Kd.R_alloc | apply Kd.R_drewN | apply Kd.R_drew)); exact Kd.R_mono HO470.out (fun _ hk => ⟨hk.1.2, ⟨hk.2, hk.1.1⟩⟩)⟩, ⟨kU BK471.out⟩, ⟨bU1 HB.out GE471.out⟩⟩
   ·
    rw [if_neg c15] at H
    have c15b0 : (t475 != t479) = false := by simpa using c15
    (try (have c15b1 : decide (t475 = t479) = true := by simpa using c15)); (try (have c15b2 : (t475 == t479) = true := by simpa using c15)); clear c15; (first | rw [c15b0] | (simp only [i64_w, i32_w]; rw [c15b0]) | skip); replace H := Option.bind_eq_some_iff.mp H; obtain ⟨t480, A160, H⟩ := H; replace H : (if t480 = true then (laws_FnDegrees.j0 k t472 t475 t476 t479 (!t475) t465 t468) else (laws_FnDegrees.j0 k t472 t475 t476 t479 true t465 t468)) = some r := H; have A16 := Az A160; clear A160
    by_cases c17 : t480 = true
    ·
     subst c17
     have H1 : (laws_FnDegrees.j0 k t472 t475 t476 t479 (!t475) t465 t468) = some r := by rw [if_pos rfl] at H; exact H
     clear H; have H := H1; clear H1; have H' := Az H; clear H; obtain ⟨Ao18, co18, eo18⟩ := Kd.R_slice HO474.out; subst eo18; obtain ⟨Ao19, co19, eo19⟩ := Kd.R_slice HO478.out; subst eo19
     go_wp2_with (first | (go_at_call 36; (with_reducible refine (laws_sameInts.calls k _ _ t472 _ _ t476 true _ ?side1 ?side2 ?side3 ?side4 A16.out).mono ?_); (case side1 => exact cU ((Kd.R_reads' HO474.out).2.2)); (case side2 => exact (Kd.R_reads' HO474.out).2.1); (case side3 => exact cU ((Kd.R_reads' HO478.out).2.2)); (case side4 => exact (Kd.R_reads' HO478.out).2.1); rintro e w' ⟨rfl, ⟨nd, rfl⟩⟩))
     go_meet
     case rel => exact ⟨_, (!t475), rS, H', ⟨by first | omega | exact Nat.le_refl _⟩, ⟨by (with_reducible repeat (first | apply Kd.R_alloc | apply Kd.R_drewN | apply Kd.R_drew)); exact Kd.R_mono HO474.out (fun _ hk => ⟨hk.2, ⟨hk.1.1.2, hk.1.2⟩⟩)⟩, ⟨by (with_reducible repeat (first | apply Kd.R_alloc | apply Kd.R_drewN | apply Kd.R_drew)); exact Kd.R_mono HO478.out (fun _ hk => ⟨hk.2, ⟨hk.1.1.2, hk.1.2⟩⟩)⟩, ⟨by (with_reducible repeat (first | apply Kd.Q_alloc | apply Kd.Q_drewN | apply Kd.Q_drew)); exact Kd.Q_mono HO467.out (fun _ hk => ⟨hk.1.2, ⟨hk.2, hk.1.1⟩⟩)⟩, ⟨by (with_reducible repeat (first | apply Kd.R_alloc | apply Kd.R_drewN | apply Kd.R_drew)); exact Kd.R_mono HO470.out (fun _ hk => ⟨hk.1.2, ⟨hk.2, hk.1.1⟩⟩)⟩, ⟨kU BK471.out⟩, ⟨bU1 HB.out GE471.out⟩⟩
    ·
     replace c17 := Bool.eq_false_iff.mpr c17; subst c17
     have H1 : (laws_FnDegrees.j0 k t472 t475 t476 t479 true t465 t468) = some r := by rw [if_neg (show ¬ (false = true) by decide)] at H; exact H
     clear H; have H := H1; clear H1; have H' := Az H; clear H; obtain ⟨Ao20, co20, eo20⟩ := Kd.R_slice HO474.out; subst eo20; obtain ⟨Ao21, co21, eo21⟩ := Kd.R_slice HO478.out; subst eo21
     go_wp2_with (first | (go_at_call 36; (with_reducible refine (laws_sameInts.calls k _ _ t472 _ _ t476 false _ ?side1 ?side2 ?side3 ?side4 A16.out).mono ?_); (case side1 => exact cU ((Kd.R_reads' HO474.out).2.2)); (case side2 => exact (Kd.R_reads' HO474.out).2.1); (case side3 => exact cU ((Kd.R_reads' HO478.out).2.2)); (case side4 => exact (Kd.R_reads' HO478.out).2.1); rintro e w' ⟨rfl, ⟨nd, rfl⟩⟩))
     go_meet
     case rel => exact ⟨_, (true), rS, H', ⟨by first | omega | exact Nat.le_refl _⟩, ⟨by (with_reducible repeat (first | apply Kd.R_alloc | apply Kd.R_drewN | apply Kd.R_drew)); exact Kd.R_mono HO474.out (fun _ hk => ⟨hk.2, ⟨hk.1.1.2, hk.1.2⟩⟩)⟩, ⟨by (with_reducible repeat (first | apply Kd.R_alloc | apply Kd.R_drewN | apply Kd.R_drew)); exact Kd.R_mono HO478.out (fun _ hk => ⟨hk.2, ⟨hk.1.1.2, hk.1.2⟩⟩)⟩, ⟨by (with_reducible repeat (first | apply Kd.Q_alloc | apply Kd.Q_drewN | apply Kd.Q_drew)); exact Kd.Q_mono HO467.out (fun _ hk => ⟨hk.1.2, ⟨hk.2, hk.1.1⟩⟩)⟩, ⟨by (with_reducible repeat (first | apply Kd.R_alloc | apply Kd.R_drewN | apply Kd.R_drew)); exact Kd.R_mono HO470.out (fun _ hk => ⟨hk.1.2, ⟨hk.2, hk.1.1⟩⟩)⟩, ⟨kU BK471.out⟩, ⟨bU1 HB.out GE471.out⟩⟩
  case rest =>
   clear HC6; (try clear c1); (try clear c2); (try clear c2b0); (try clear c2b1); (try clear p2); (try clear c3); (try clear c6); (try clear c15); (try clear c15b0); (try clear c15b1); (try clear c15b2); (try clear c17); (try clear hcz10_0); (try clear hcz10_1); (try clear hcz13_0); (try clear hcz13_1); (try clear hfz10_0); (try clear hfz10_1); (try clear hfz13_0); (try clear hfz13_1); obtain ⟨kq, x41_5, rfl, HA, HJ5, HO_4, HO_6, HO_Z0, HO_Z1, BK471, HB⟩ := hcut
   cases kq with
   | zero => exact absurd HA.out (by simp [laws_FnDegrees.j0])
   | succ kj5 =>
    have H := HA.out; clear HA; simp only [laws_FnDegrees.j0] at H
    by_cases c22 : x41_5 = true
    ·
     subst c22
     have H1 : (if (t475 == t479) = true then ((laws_sameInts.f kj5 t472 t476).bind fun t481 => (some t481)) else (some false)) = some r := by rw [if_pos rfl] at H; exact H
     clear H; have H := H1; clear H1
     by_cases c23 : (t475 == t479) = true
     ·
      rw [if_pos c23] at H; have c23b0 : (t475 == t479) = true := c23; (try (have c23b1 : decide (t475 = t479) = true := by simpa using c23)); (try (have c23b2 : (t475 == t479) = true := by simpa using c23)); clear c23; replace H := Option.bind_eq_some_iff.mp H; obtain ⟨t481, A240, H⟩ := H; replace H : (some t481) = some r := H; have A24 := Az A240; clear A240; obtain rfl := Option.some.inj H; obtain ⟨Ao25, co25, eo25⟩ := Kd.R_slice HO_4.out; subst eo25; obtain ⟨Ao26, co26, eo26⟩ := Kd.R_slice HO_6.out; subst eo26
      go_wp2_with (first | (go_at_call 36; (with_reducible refine (laws_sameInts.calls kj5 _ _ t472 _ _ t476 t481 _ ?side1 ?side2 ?side3 ?side4 A24.out).mono ?_); (case side1 => exact cU ((Kd.R_reads' HO_4.out).2.2)); (case side2 => exact (Kd.R_reads' HO_4.out).2.1); (case side3 => exact cU ((Kd.R_reads' HO_6.out).2.2)); (case side4 => exact (Kd.R_reads' HO_6.out).2.1); rintro e w' ⟨rfl, ⟨nd, rfl⟩⟩))
      go_ret
      exact ⟨rE, bU1 HB.out GE471.out⟩
     ·
      rw [if_neg c23] at H
      have c23b0 : (t475 == t479) = false := by simpa using c23
      (try (have c23b1 : decide (t475 = t479) = false := by simpa using c23)); (try (have c23b2 : (t475 == t479) = false := by simpa using c23)); (try (have c23b3 : ¬ (t475 = t479) := by simpa using c23)); clear c23; obtain rfl := Option.some.inj H
      go_wp2
      go_ret
      exact ⟨rE, bU1 HB.out GE471.out⟩
    ·
     replace c22 := Bool.eq_false_iff.mpr c22; subst c22
     have H1 : ((impl_MapCounts.f kj5 t465 t468).bind fun bt482 => ((impl_MapDual.f kj5 t465 t468).bind fun bt486 => ((impl_MapDegrees.f kj5 bt486.1 bt486.2.1).bind fun bt494 => (if bt482.2 = true then (if bt486.2.2 = true then (if bt494.2 = true then ((laws_sumOf.f kj5 t472).bind fun t498 => (if 1 < (bt482.1.length : Int) then (if t498 = (wrap64 (2 * (rd bt482.1 1))) then (if 0 < (bt482.1.length : Int) then (if (t472.length : Int) = (rd bt482.1 0) then (if 2 < (bt482.1.length : Int) then (if (bt494.1.length : Int) = (rd bt482.1 2) then ((laws_sumOf.f kj5 bt494.1).bind fun t502 => (some (t502 == (wrap64 (2 * (rd bt482.1 1)))))) else (some false)) else (none)) else (some false)) else (none)) else (some false)) else (none))) else (some false)) else (some false)) else (some false))))) = some r := by rw [if_neg (show ¬ (false = true) by decide)] at H; exact H
     clear H; have H := H1; clear H1; replace H := Option.bind_eq_some_iff.mp H; obtain ⟨⟨t482, t485⟩, A270, H⟩ := H; replace H : ((impl_MapDual.f kj5 t465 t468).bind fun bt486 => ((impl_MapDegrees.f kj5 bt486.1 bt486.2.1).bind fun bt494 => (if t485 = true then (if bt486.2.2 = true then (if bt494.2 = true then ((laws_sumOf.f kj5 t472).bind fun t498 => (if 1 < (t482.length : Int) then (if t498 = (wrap64 (2 * (rd t482 1))) then (if 0 < (t482.length : Int) then (if (t472.length : Int) = (rd t482 0) then (if 2 < (t482.length : Int) then (if (bt494.1.length : Int) = (rd t482 2) then ((laws_sumOf.f kj5 bt494.1).bind fun t502 => (some (t502 == (wrap64 (2 * (rd t482 1)))))) else (some false)) else (none)) else (some false)) else (none)) else (some false)) else (none))) else (some false)) else (some false)) else (some false)))) = some r := H; have A27 := Az A270; clear A270; replace H := Option.bind_eq_some_iff.mp H; obtain ⟨⟨t486, t489, t492⟩, A280, H⟩ := H; replace H : ((impl_MapDegrees.f kj5 t486 t489).bind fun bt494 => (if t485 = true then (if t492 = true then (if bt494.2 = true then ((laws_sumOf.f kj5 t472).bind fun t498 => (if 1 < (t482.length : Int) then (if t498 = (wrap64 (2 * (rd t482 1))) then (if 0 < (t482.length : Int) then (if (t472.length : Int) = (rd t482 0) then (if 2 < (t482.length : Int) then (if (bt494.1.length : Int) = (rd t482 2) then ((laws_sumOf.f kj5 bt494.1).bind fun t502 => (some (t502 == (wrap64 (2 * (rd t482 1)))))) else (some false)) else (none)) else (some false)) else (none)) else (some false)) else (none))) else (some false)) else (some false)) else (some false))) = some r := H; have A28 := Az A280; clear A280; replace H := Option.bind_eq_some_iff.mp H; obtain ⟨⟨t494, t497⟩, A290, H⟩ := H; replace H : (if t485 = true then (if t492 = true then (if t497 = true then ((laws_sumOf.f kj5 t472).bind fun t498 => (if 1 < (t482.length : Int) then (if t498 = (wrap64 (2 * (rd t482 1))) then (if 0 < (t482.length : Int) then (if (t472.length : Int) = (rd t482 0) then (if 2 < (t482.length : Int) then (if (t494.length : Int) = (rd t482 2) then ((laws_sumOf.f kj5 t494).bind fun t502 => (some (t502 == (wrap64 (2 * (rd t482 1)))))) else (some false)) else (none)) else (some false)) else (none)) else (some false)) else (none))) else (some false)) else (some false)) else (some false)) = some r := H; have A29 := Az A290; clear A290
     by_cases c30 : t485 = true
     ·
      subst c30
      have H1 : (if t492 = true then (if t497 = true then ((laws_sumOf.f kj5 t472).bind fun t498 => (if 1 < (t482.length : Int) then (if t498 = (wrap64 (2 * (rd t482 1))) then (if 0 < (t482.length : Int) then (if (t472.length : Int) = (rd t482 0) then (if 2 < (t482.length : Int) then (if (t494.length : Int) = (rd t482 2) then ((laws_sumOf.f kj5 t494).bind fun t502 => (some (t502 == (wrap64 (2 * (rd t482 1)))))) else (some false)) else (none)) else (some false)) else (none)) else (some false)) else (none))) else (some false)) else (some false)) = some r := by rw [if_pos rfl] at H; exact H
      clear H; have H := H1; clear H1
      by_cases c31 : t492 = true
      ·
       subst c31
       have H1 : (if t497 = true then ((laws_sumOf.f kj5 t472).bind fun t498 => (if 1 < (t482.length : Int) then (if t498 = (wrap64 (2 * (rd t482 1))) then (if 0 < (t482.length : Int) then (if (t472.length : Int) = (rd t482 0) then (if 2 < (t482.length : Int) then (if (t494.length : Int) = (rd t482 2) then ((laws_sumOf.f kj5 t494).bind fun t502 => (some (t502 == (wrap64 (2 * (rd t482 1)))))) else (some false)) else (none)) else (some false)) else (none)) else (some false)) else (none))) else (some false)) = some r := by rw [if_pos rfl] at H; exact H
       clear H; have H := H1; clear H1
       by_cases c32 : t497 = true
       ·
        subst c32
        have H1 : ((laws_sumOf.f kj5 t472).bind fun t498 => (if 1 < (t482.length : Int) then (if t498 = (wrap64 (2 * (rd t482 1))) then (if 0 < (t482.length : Int) then (if (t472.length : Int) = (rd t482 0) then (if 2 < (t482.length : Int) then (if (t494.length : Int) = (rd t482 2) then ((laws_sumOf.f kj5 t494).bind fun t502 => (some (t502 == (wrap64 (2 * (rd t482 1)))))) else (some false)) else (none)) else (some false)) else (none)) else (some false)) else (none))) = some r := by rw [if_pos rfl] at H; exact H
        clear H; have H := H1; clear H1; replace H := Option.bind_eq_some_iff.mp H; obtain ⟨t498, A330, H⟩ := H; replace H : (if 1 < (t482.length : Int) then (if t498 = (wrap64 (2 * (rd t482 1))) then (if 0 < (t482.length : Int) then (if (t472.length : Int) = (rd t482 0) then (if 2 < (t482.length : Int) then (if (t494.length : Int) = (rd t482 2) then ((laws_sumOf.f kj5 t494).bind fun t502 => (some (t502 == (wrap64 (2 * (rd t482 1)))))) else (some false)) else (none)) else (some false)) else (none)) else (some false)) else (none)) = some r := H; have A33 := Az A330; clear A330
        by_cases c34 : 1 < (t482.length : Int)
        ·
         rw [if_pos c34] at H; have c34b0 := decide_eq_true c34; have c34b1 : decide (1 < t482.length) = true := decide_eq_true (by omega); clear c34
         by_cases c35 : t498 = (wrap64 (2 * (rd t482 1)))
         ·
          rw [if_pos c35] at H; have c35b0 := beq_iff_eq.mpr c35; have c35b1 := bne_eq_false_iff_eq.mpr c35; clear c35
          by_cases c36 : 0 < (t482.length : Int)
          ·
           rw [if_pos c36] at H; have c36b0 := decide_eq_true c36; have c36b1 : decide (0 < t482.length) = true := decide_eq_true (by omega); clear c36
           by_cases c37 : (t472.length : Int) = (rd t482 0)
           ·
            rw [if_pos c37] at H; have c37b0 := beq_iff_eq.mpr c37; have c37b1 := bne_eq_false_iff_eq.mpr c37; clear c37
            by_cases c38 : 2 < (t482.length : Int)
            ·
             rw [if_pos c38] at H; have c38b0 := decide_eq_true c38; have c38b1 : decide (2 < t482.length) = true := decide_eq_true (by omega); clear c38
             by_cases c39 : (t494.length : Int) = (rd t482 2)
             ·
              rw [if_pos c39] at H; have c39b0 := beq_iff_eq.mpr c39; have c39b1 := bne_eq_false_iff_eq.mpr c39; clear c39; replace H := Option.bind_eq_some_iff.mp H; obtain ⟨t502, A400, H⟩ := H; replace H : (some (t502 == (wrap64 (2 * (rd t482 1))))) = some r := H; have A40 := Az A400; clear A400; obtain rfl := Option.some.inj H; have hcz41_0 : wc.cell? ⟨gb471, 0, none⟩ = some (.slice Ao9 t465.length co9) := (blk_cell BK471.out 0).trans rfl; have hcz41_1 : wc.cell? ⟨gb471, 1, none⟩ = some (.slice Ao11 t468.length co11) := (blk_cell BK471.out 1).trans rfl; have hfz41_0 := blk_frozen BK471.out 0; have hfz41_1 := blk_frozen BK471.out 1
              try go_wp2_with (first | ((with_reducible refine gate_callee (f := 16) rfl ?_); refine goesL_ (some 52) rfl rfl Try.func16 (by kernel_rfl) rfl #[.agg #[.slice Ao9 t465.length co9, .slice Ao11 t468.length co11]] rfl (by (try simp only [List.map_toArray, List.map_cons, List.map_nil]); first | done | rfl | (simp only [List.length_drop, List.length_take]; rfl)) ?_; (with_reducible refine (impl_MapCounts.calls kj5 _ _ t465 _ _ t468 t482 true _ ?side1 ?side2 ?side3 ?side4 A27.out).mono ?_); (case side1 => exact cU ((Kd.Q_reads' HO_Z0.out).2.2)); (case side2 => exact (Kd.Q_reads' HO_Z0.out).2.1); (case side3 => exact cU ((Kd.R_reads' HO_Z1.out).2.2)); (case side4 => exact (Kd.R_reads' HO_Z1.out).2.1); rintro e w42 ⟨v483, rfl, ho0, hb⟩; refine ⟨_, rfl, ?_⟩; have n0 := Az (Kd.R_elder' (rU HO_4.out) (Kd.R_base ho0) hb); have n1 := Az (Kd.R_elder' (rU HO_6.out) (Kd.R_base ho0) hb); have n2 := Az (Kd.Q_elder' (qU HO_Z0.out) (Kd.R_base ho0) hb); have n3 := Az (Kd.R_elder' (rU HO_Z1.out) (Kd.R_base ho0) hb); have n4 := Az (Kd.R_lower (Kd.R_new' (Kd.R_new' (Kd.R_new' (Kd.R_new' ho0 (Kd.R_lt (rU HO_4.out))) (Kd.R_lt (rU HO_6.out))) (Kd.Q_lt (qU HO_Z0.out))) (Kd.R_lt (rU HO_Z1.out))) (below_size (bU1 HB.out GE471.out))); have n5 := Az (blk_below (g := gb471) (o := .cells #[.slice Ao9 t465.length co9, .slice Ao11 t468.length co11] 25 (0, 0)) (kU BK471.out) hb); have n6 := Az (below_step (bU1 HB.out GE471.out) hb); clear HO_4 HO_6 HO_Z0 HO_Z1 BK471 HB; have HO_4 := n0; have HO_6 := n1; have HO_Z0 := n2; have HO_Z1 := n3; have HO484 := n4; have BK471 := n5; have HB := n6; clear n0 n1 n2 n3 n4 n5 n6; (try clear hb); (try clear hb2); (try clear hk); (try clear hi); (try clear ho0); have hcz43_0 : w42.cell? ⟨gb471, 0, none⟩ = some (.slice Ao9 t465.length co9) := (blk_cell BK471.out 0).trans rfl; have hcz43_1 : w42.cell? ⟨gb471, 1, none⟩ = some (.slice Ao11 t468.length co11) := (blk_cell BK471.out 1).trans rfl; have hfz43_0 := blk_frozen BK471.out 0; have hfz43_1 := blk_frozen BK471.out 1) | ((with_reducible refine gate_callee (f := 17) rfl ?_); refine goesL_ (some 57) rfl rfl Try.func17 (by kernel_rfl) rfl #[.agg #[.slice Ao9 t465.length co9, .slice Ao11 t468.length co11]] rfl (by (try simp only [List.map_toArray, List.map_cons, List.map_nil]); first | done | rfl | (simp only [List.length_drop, List.length_take]; rfl)) ?_; (with_reducible refine (impl_MapDual.calls kj5 _ _ t465 _ _ t468 t486 t489 true _ ?side1 ?side2 ?side3 ?side4 A28.out).mono ?_); (case side1 => exact cU ((Kd.Q_reads' HO_Z0.out).2.2)); (case side2 => exact (Kd.Q_reads' HO_Z0.out).2.1); (case side3 => exact cU ((Kd.R_reads' HO_Z1.out).2.2)); (case side4 => exact (Kd.R_reads' HO_Z1.out).2.1); rintro e w44 ⟨v487, v490, rfl, ho0, ho1, hb⟩; refine ⟨_, rfl, ?_⟩; have n0 := Az (Kd.R_mono (Kd.R_told (Kd.R_told (Kd.R_old (rU HO_4.out) hb) (Kd.R_base ho0)) (Kd.R_base ho1)) (fun _ h_ => h_.1)); have n1 := Az (Kd.R_mono (Kd.R_told (Kd.R_told (Kd.R_old (rU HO_6.out) hb) (Kd.R_base ho0)) (Kd.R_base ho1)) (fun _ h_ => h_.1)); have n2 := Az (Kd.Q_mono (Kd.Q_told (Kd.Q_told (Kd.Q_old (qU HO_Z0.out) hb) (Kd.R_base ho0)) (Kd.R_base ho1)) (fun _ h_ => h_.1)); have n3 := Az (Kd.R_mono (Kd.R_told (Kd.R_told (Kd.R_old (rU HO_Z1.out) hb) (Kd.R_base ho0)) (Kd.R_base ho1)) (fun _ h_ => h_.1)); have n4 := Az (Kd.R_mono (Kd.R_told (Kd.R_told (Kd.R_old (rU HO484.out) hb) (Kd.R_base ho0)) (Kd.R_base ho1)) (fun _ h_ => h_.1)); have n5 := Az (Kd.R_lower (Kd.R_new' (Kd.R_new' (Kd.R_new' (Kd.R_new' (Kd.R_new' ho0 (Kd.R_lt (rU HO_4.out))) (Kd.R_lt (rU HO_6.out))) (Kd.Q_lt (qU HO_Z0.out))) (Kd.R_lt (rU HO_Z1.out))) (Kd.R_lt (rU HO484.out))) (below_size (bU1 HB.out GE471.out))); have n6 := Az (Kd.R_lower (Kd.R_new' (Kd.R_new' (Kd.R_new' (Kd.R_new' (Kd.R_new' ho1 (Kd.R_lt (rU HO_4.out))) (Kd.R_lt (rU HO_6.out))) (Kd.Q_lt (qU HO_Z0.out))) (Kd.R_lt (rU HO_Z1.out))) (Kd.R_lt (rU HO484.out))) (below_size (bU1 HB.out GE471.out))); have n7 := Az (blk_below (g := gb471) (o := .cells #[.slice Ao9 t465.length co9, .slice Ao11 t468.length co11] 25 (0, 0)) (kU BK471.out) hb); have n8 := Az (below_step (bU1 HB.out GE471.out) hb); clear HO_4 HO_6 HO_Z0 HO_Z1 HO484 BK471 HB; have HO_4 := n0; have HO_6 := n1; have HO_Z0 := n2; have HO_Z1 := n3; have HO484 := n4; have HO488 := n5; have HO491 := n6; have BK471 := n7; have HB := n8; clear n0 n1 n2 n3 n4 n5 n6 n7 n8; (try clear hb); (try clear hb2); (try clear hk); (try clear hi); (try clear ho0); (try clear ho1)) | ((with_reducible refine gate_dst (N := 10) rfl ?_); (try (refine gate_guard (by rfl) ?_; dsimp only)); refine box_event ?hg (N := 10) ?hd (cs := #[.slice none 0 0, .slice none 0 0]) (t := 25) ?hr ?_; (case hd => rfl); (case hg => rfl); (case hr => first | (go_simp; done) | (go_simp; rfl)); intro gb493 hg w45 hbox hb; have n0 := Az (Kd.R_below (rU HO_4.out) hb); have n1 := Az (Kd.R_below (rU HO_6.out) hb); have n2 := Az (Kd.Q_below (qU HO_Z0.out) hb); have n3 := Az (Kd.R_below (rU HO_Z1.out) hb); have n4 := Az (Kd.R_below (rU HO484.out) hb); have n5 := Az (Kd.R_below (rU HO488.out) hb); have n6 := Az (Kd.R_below (rU HO491.out) hb); have n7 := Az (blk_below (g := gb471) (o := .cells #[.slice Ao9 t465.length co9, .slice Ao11 t468.length co11] 25 (0, 0)) (kU BK471.out) hb); have n8 := Az (below_step (bU1 HB.out GE471.out) hb); have n9 := Az (hbox); have n10 := Az ((by rw [hg]; exact (below_size (bU1 HB.out GE471.out)) : w.heap.size ≤ gb493)); have n11 := n10; have n12 := Az ((by rw [hg]; exact Nat.ne_of_lt (blk_lt (g := gb471) (o := .cells #[.slice Ao9 t465.length co9, .slice Ao11 t468.length co11] 25 (0, 0)) (kU BK471.out)) : gb471 ≠ gb493)); have n13 := Az ((by rw [hg]; exact Nat.ne_of_gt (blk_lt (g := gb471) (o := .cells #[.slice Ao9 t465.length co9, .slice Ao11 t468.length co11] 25 (0, 0)) (kU BK471.out)) : gb493 ≠ gb471)); clear HO_4 HO_6 HO_Z0 HO_Z1 HO484 HO488 HO491 BK471 HB; have HO_4 := n0; have HO_6 := n1; have HO_Z0 := n2; have HO_Z1 := n3; have HO484 := n4; have HO488 := n5; have HO491 := n6; have BK471 := n7; have HB := n8; have BK493 := n9; have GW493 := n10; have GE493 := n11; have NB471_493 := n12; have NB493_471 := n13; clear n0 n1 n2 n3 n4 n5 n6 n7 n8 n9 n10 n11 n12 n13 hb hbox hg; obtain ⟨Ao46, co46, eo46⟩ := Kd.R_slice HO488.out; subst eo46; have hnb47 := NB493_471.out; have hnc47 := NB471_493.out; have hcz48_0 : w45.cell? ⟨gb493, 0, none⟩ = some (.slice none 0 0) := (blk_cell BK493.out 0).trans rfl; have hcz48_1 : w45.cell? ⟨gb493, 1, none⟩ = some (.slice none 0 0) := (blk_cell BK493.out 1).trans rfl; have hfz48_0 := blk_frozen BK493.out 0; have hfz48_1 := blk_frozen BK493.out 1; obtain ⟨Ao49, co49, eo49⟩ := Kd.R_slice HO491.out; subst eo49) | ((with_reducible refine gate_callee (f := 34) rfl ?_); refine goesL_ (some 62) rfl rfl Try.func34 (by kernel_rfl) rfl #[.agg #[.slice Ao46 t486.length co46, .slice Ao49 t489.length co49]] rfl (by (try simp only [List.map_toArray, List.map_cons, List.map_nil]); first | done | rfl | (simp only [List.length_drop, List.length_take]; rfl)) ?_; (with_reducible refine (impl_MapDegrees.calls kj5 _ _ t486 _ _ t489 t494 true _ ?side1 ?side2 ?side3 ?side4 A29.out).mono ?_); (case side1 => refine (Kd.R_reads' (e := 3) (base := w.heap.size) (ok := fun k_ => (((((some k_ ≠ (.slice Ao49 t489.length co49 : Value).ownBlock ∧ some k_ ≠ (v473 : Value).ownBlock) ∧ some k_ ≠ (v477 : Value).ownBlock) ∧ some k_ ≠ (.slice Ao9 t465.length co9 : Value).ownBlock) ∧ some k_ ≠ (.slice Ao11 t468.length co11 : Value).ownBlock) ∧ some k_ ≠ (v483 : Value).ownBlock)) (n := t486.length) (c := co46) ?_).2.2; exact (by (with_reducible repeat (first | apply Kd.R_alloc | apply Kd.R_drewN | apply Kd.R_drew)); exact (Kd.R_mono (Kd.R_far (p := ⟨gb493, 1, none⟩) (Kd.R_far (p := ⟨gb493, 0, none⟩) (Kd.R_types HO488.out BK493.out (by decide)) (fun _ hk => hk.2) (.slice Ao46 t486.length co46)) (fun _ hk => hk.2) (.slice Ao49 t489.length co49)) (fun _ h_ => h_.1)))); (case side2 => exact (Kd.R_reads' HO488.out).2.1); (case side3 => refine (Kd.R_reads' (e := 3) (base := w.heap.size) (ok := fun k_ => (((((some k_ ≠ (.slice Ao46 t486.length co46 : Value).ownBlock ∧ some k_ ≠ (v473 : Value).ownBlock) ∧ some k_ ≠ (v477 : Value).ownBlock) ∧ some k_ ≠ (.slice Ao9 t465.length co9 : Value).ownBlock) ∧ some k_ ≠ (.slice Ao11 t468.length co11 : Value).ownBlock) ∧ some k_ ≠ (v483 : Value).ownBlock)) (n := t489.length) (c := co49) ?_).2.2; exact (by (with_reducible repeat (first | apply Kd.R_alloc | apply Kd.R_drewN | apply Kd.R_drew)); exact (Kd.R_mono (Kd.R_far (p := ⟨gb493, 1, none⟩) (Kd.R_far (p := ⟨gb493, 0, none⟩) (Kd.R_types HO491.out BK493.out (by decide)) (fun _ hk => hk.2) (.slice Ao46 t486.length co46)) (fun _ hk => hk.2) (.slice Ao49 t489.length co49)) (fun _ h_ => h_.1)))); (case side4 => exact (Kd.R_reads' HO491.out).2.1); rintro e w50 ⟨v495, rfl, ho0, hb⟩; refine ⟨_, rfl, ?_⟩; have n0 := Az (Kd.R_elder' (by (with_reducible repeat (first | apply Kd.R_alloc | apply Kd.R_drewN | apply Kd.R_drew)); exact (Kd.R_mono (Kd.R_far (p := ⟨gb493, 1, none⟩) (Kd.R_far (p := ⟨gb493, 0, none⟩) (Kd.R_types HO_4.out BK493.out (by decide)) (fun _ hk => hk.2) (.slice Ao46 t486.length co46)) (fun _ hk => hk.2) (.slice Ao49 t489.length co49)) (fun _ h_ => h_.1))) (Kd.R_base ho0) hb); have n1 := Az (Kd.R_elder' (by (with_reducible repeat (first | apply Kd.R_alloc | apply Kd.R_drewN | apply Kd.R_drew)); exact (Kd.R_mono (Kd.R_far (p := ⟨gb493, 1, none⟩) (Kd.R_far (p := ⟨gb493, 0, none⟩) (Kd.R_types HO_6.out BK493.out (by decide)) (fun _ hk => hk.2) (.slice Ao46 t486.length co46)) (fun _ hk => hk.2) (.slice Ao49 t489.length co49)) (fun _ h_ => h_.1))) (Kd.R_base ho0) hb); have n2 := Az (Kd.Q_elder' (by (with_reducible repeat (first | apply Kd.Q_alloc | apply Kd.Q_drewN | apply Kd.Q_drew)); exact (Kd.Q_mono (Kd.Q_far (p := ⟨gb493, 1, none⟩) (Kd.Q_far (p := ⟨gb493, 0, none⟩) (Kd.Q_types HO_Z0.out BK493.out (by decide)) (fun _ hk => hk.2) (.slice Ao46 t486.length co46)) (fun _ hk => hk.2) (.slice Ao49 t489.length co49)) (fun _ h_ => h_.1))) (Kd.R_base ho0) hb); have n3 := Az (Kd.R_elder' (by (with_reducible repeat (first | apply Kd.R_alloc | apply Kd.R_drewN | apply Kd.R_drew)); exact (Kd.R_mono (Kd.R_far (p := ⟨gb493, 1, none⟩) (Kd.R_far (p := ⟨gb493, 0, none⟩) (Kd.R_types HO_Z1.out BK493.out (by decide)) (fun _ hk => hk.2) (.slice Ao46 t486.length co46)) (fun _ hk => hk.2) (.slice Ao49 t489.length co49)) (fun _ h_ => h_.1))) (Kd.R_base ho0) hb); have n4 := Az (Kd.R_elder' (by (with_reducible repeat (first | apply Kd.R_alloc | apply Kd.R_drewN | apply Kd.R_drew)); exact (Kd.R_mono (Kd.R_far (p := ⟨gb493, 1, none⟩) (Kd.R_far (p := ⟨gb493, 0, none⟩) (Kd.R_types HO484.out BK493.out (by decide)) (fun _ hk => hk.2) (.slice Ao46 t486.length co46)) (fun _ hk => hk.2) (.slice Ao49 t489.length co49)) (fun _ h_ => h_.1))) (Kd.R_base ho0) hb); have n5 := Az (Kd.R_elder' (by (with_reducible repeat (first | apply Kd.R_alloc | apply Kd.R_drewN | apply Kd.R_drew)); exact (Kd.R_mono (Kd.R_far (p := ⟨gb493, 1, none⟩) (Kd.R_far (p := ⟨gb493, 0, none⟩) (Kd.R_types HO488.out BK493.out (by decide)) (fun _ hk => hk.2) (.slice Ao46 t486.length co46)) (fun _ hk => hk.2) (.slice Ao49 t489.length co49)) (fun _ h_ => h_.1))) (Kd.R_base ho0) hb); have n6 := Az (Kd.R_elder' (by (with_reducible repeat (first | apply Kd.R_alloc | apply Kd.R_drewN | apply Kd.R_drew)); exact (Kd.R_mono (Kd.R_far (p := ⟨gb493, 1, none⟩) (Kd.R_far (p := ⟨gb493, 0, none⟩) (Kd.R_types HO491.out BK493.out (by decide)) (fun _ hk => hk.2) (.slice Ao46 t486.length co46)) (fun _ hk => hk.2) (.slice Ao49 t489.length co49)) (fun _ h_ => h_.1))) (Kd.R_base ho0) hb); have n7 := Az (Kd.R_lower (Kd.R_new' (Kd.R_new' (Kd.R_new' (Kd.R_new' (Kd.R_new' (Kd.R_new' (Kd.R_new' ho0 (Kd.R_lt (by (with_reducible repeat (first | apply Kd.R_alloc | apply Kd.R_drewN | apply Kd.R_drew)); exact (Kd.R_mono (Kd.R_far (p := ⟨gb493, 1, none⟩) (Kd.R_far (p := ⟨gb493, 0, none⟩) (Kd.R_types HO_4.out BK493.out (by decide)) (fun _ hk => hk.2) (.slice Ao46 t486.length co46)) (fun _ hk => hk.2) (.slice Ao49 t489.length co49)) (fun _ h_ => h_.1))))) (Kd.R_lt (by (with_reducible repeat (first | apply Kd.R_alloc | apply Kd.R_drewN | apply Kd.R_drew)); exact (Kd.R_mono (Kd.R_far (p := ⟨gb493, 1, none⟩) (Kd.R_far (p := ⟨gb493, 0, none⟩) (Kd.R_types HO_6.out BK493.out (by decide)) (fun _ hk => hk.2) (.slice Ao46 t486.length co46)) (fun _ hk => hk.2) (.slice Ao49 t489.length co49)) (fun _ h_ => h_.1))))) (Kd.Q_lt (by (with_reducible repeat (first | apply Kd.Q_alloc | apply Kd.Q_drewN | apply Kd.Q_drew)); exact (Kd.Q_mono (Kd.Q_far (p := ⟨gb493, 1, none⟩) (Kd.Q_far (p := ⟨gb493, 0, none⟩) (Kd.Q_types HO_Z0.out BK493.out (by decide)) (fun _ hk => hk.2) (.slice Ao46 t486.length co46)) (fun _ hk => hk.2) (.slice Ao49 t489.length co49)) (fun _ h_ => h_.1))))) (Kd.R_lt (by (with_reducible repeat (first | apply Kd.R_alloc | apply Kd.R_drewN | apply Kd.R_drew)); exact (Kd.R_mono (Kd.R_far (p := ⟨gb493, 1, none⟩) (Kd.R_far (p := ⟨gb493, 0, none⟩) (Kd.R_types HO_Z1.out BK493.out (by decide)) (fun _ hk => hk.2) (.slice Ao46 t486.length co46)) (fun _ hk => hk.2) (.slice Ao49 t489.length co49)) (fun _ h_ => h_.1))))) (Kd.R_lt (by (with_reducible repeat (first | apply Kd.R_alloc | apply Kd.R_drewN | apply Kd.R_drew)); exact (Kd.R_mono (Kd.R_far (p := ⟨gb493, 1, none⟩) (Kd.R_far (p := ⟨gb493, 0, none⟩) (Kd.R_types HO484.out BK493.out (by decide)) (fun _ hk => hk.2) (.slice Ao46 t486.length co46)) (fun _ hk => hk.2) (.slice Ao49 t489.length co49)) (fun _ h_ => h_.1))))) (Kd.R_lt (by (with_reducible repeat (first | apply Kd.R_alloc | apply Kd.R_drewN | apply Kd.R_drew)); exact (Kd.R_mono (Kd.R_far (p := ⟨gb493, 1, none⟩) (Kd.R_far (p := ⟨gb493, 0, none⟩) (Kd.R_types HO488.out BK493.out (by decide)) (fun _ hk => hk.2) (.slice Ao46 t486.length co46)) (fun _ hk => hk.2) (.slice Ao49 t489.length co49)) (fun _ h_ => h_.1))))) (Kd.R_lt (by (with_reducible repeat (first | apply Kd.R_alloc | apply Kd.R_drewN | apply Kd.R_drew)); exact (Kd.R_mono (Kd.R_far (p := ⟨gb493, 1, none⟩) (Kd.R_far (p := ⟨gb493, 0, none⟩) (Kd.R_types HO491.out BK493.out (by decide)) (fun _ hk => hk.2) (.slice Ao46 t486.length co46)) (fun _ hk => hk.2) (.slice Ao49 t489.length co49)) (fun _ h_ => h_.1))))) (below_size (bU2 HB.out GE471.out GE493.out))); have n8 := Az (blk_below (g := gb471) (o := .cells #[.slice Ao9 t465.length co9, .slice Ao11 t468.length co11] 25 (0, 0)) (by (with_reducible repeat (first | refine blk_drewN ?_ _ | refine blk_drew ?_ | refine blk_alloc ?_ _)); refine blk_far ?_ NB471_493.out _; (with_reducible repeat (first | refine blk_drewN ?_ _ | refine blk_drew ?_ | refine blk_alloc ?_ _)); refine blk_far ?_ NB471_493.out _; (with_reducible repeat (first | refine blk_drewN ?_ _ | refine blk_drew ?_ | refine blk_alloc ?_ _)); exact BK471.out) hb); have n9 := Az (blk_below (g := gb493) (o := .cells #[.slice Ao46 t486.length co46, .slice Ao49 t489.length co49] 25 (0, 0)) (by (with_reducible repeat (first | refine blk_drewN ?_ _ | refine blk_drew ?_ | refine blk_alloc ?_ _)); refine blk_put (cs := #[.slice Ao46 t486.length co46, .slice none 0 0]) ?_ 1 _ rfl; (with_reducible repeat (first | refine blk_drewN ?_ _ | refine blk_drew ?_ | refine blk_alloc ?_ _)); refine blk_put (cs := #[.slice none 0 0, .slice none 0 0]) ?_ 0 _ rfl; (with_reducible repeat (first | refine blk_drewN ?_ _ | refine blk_drew ?_ | refine blk_alloc ?_ _)); exact BK493.out) hb); have n10 := Az (below_step (bU2 HB.out GE471.out GE493.out) hb); clear HO_4 HO_6 HO_Z0 HO_Z1 HO484 HO488 HO491 BK471 BK493 HB; have HO_4 := n0; have HO_6 := n1; have HO_Z0 := n2; have HO_Z1 := n3; have HO484 := n4; have HO488 := n5; have HO491 := n6; have HO496 := n7; have BK471 := n8; have BK493 := n9; have HB := n10; clear n0 n1 n2 n3 n4 n5 n6 n7 n8 n9 n10; (try clear hb); (try clear hb2); (try clear hk); (try clear hi); (try clear ho0)))
              have n0 := Az (Kd.R_drew HO_4.out); have n1 := Az (Kd.R_drew HO_6.out); have n2 := Az (Kd.Q_drew HO_Z0.out); have n3 := Az (Kd.R_drew HO_Z1.out); have n4 := Az (Kd.R_drew HO484.out); have n5 := Az (Kd.R_drew HO488.out); have n6 := Az (Kd.R_drew HO491.out); have n7 := Az (Kd.R_drew HO496.out); have n8 := Az (blk_drew BK471.out); have n9 := Az (blk_drew BK493.out); have n10 := Az (below_drew1 HB.out); clear HO_4 HO_6 HO_Z0 HO_Z1 HO484 HO488 HO491 HO496 BK471 BK493 HB; have HO_4 := n0; have HO_6 := n1; have HO_Z0 := n2; have HO_Z1 := n3; have HO484 := n4; have HO488 := n5; have HO491 := n6; have HO496 := n7; have BK471 := n8; have BK493 := n9; have HB := n10; clear n0 n1 n2 n3 n4 n5 n6 n7 n8 n9 n10; obtain ⟨Ao52, co52, eo52⟩ := Kd.R_slice HO484.out; (first | subst eo52 | (injection eo52 with f1_ f2_ f3_; have f4_ := f1_.symm; have f5_ := f3_.symm; clear f1_ f2_ f3_; subst f4_; subst f5_)); have p499 : 0 ≤ (1 : Int) := (by omega); have q499 : 1 < (t482.length : Int) := oA; obtain ⟨ad499, e499, hx499_0⟩ := Kd.at_int (Kd.R_reads' HO484.out).2.2 1 p499 q499
              cases e499
              (try simp only [show (1 : Int).toNat = 1 from rfl, Nat.reduceMul, Nat.reduceEqDiff, Go.Addr.add, ↓reduceIte] at hx499_0); have qi499 : (1 < t482.length) = True := eq_true (by omega); (try rw [show ((1 : Int)).toNat = 1 from rfl] at hx499_0); replace p499 := eq_true p499; replace q499 := eq_true q499; obtain ⟨Ao53, co53, eo53⟩ := Kd.R_slice HO_4.out; (first | subst eo53 | (injection eo53 with f1_ f2_ f3_; have f4_ := f1_.symm; have f5_ := f3_.symm; clear f1_ f2_ f3_; subst f4_; subst f5_)); have p500 : 0 ≤ (0 : Int) := (by omega); have q500 : 0 < (t482.length : Int) := oA; obtain ⟨ad500, e500, hx500_0⟩ := Kd.at_int (Kd.R_reads' HO484.out).2.2 0 p500 q500; obtain rfl : ad499 = ad500 := (by injection e500); have qi500 : (0 < t482.length) = True := eq_true (by omega); (try rw [show ((0 : Int)).toNat = 0 from rfl] at hx500_0); (try rw [Addr.add_zero'] at hx500_0); replace p500 := eq_true p500; replace q500 := eq_true q500; have p501 : 0 ≤ (2 : Int) := (by omega); have q501 : 2 < (t482.length : Int) := oA; obtain ⟨ad501, e501, hx501_0⟩ := Kd.at_int (Kd.R_reads' HO484.out).2.2 2 p501 q501; obtain rfl : ad499 = ad501 := (by injection e501); (try simp only [show (2 : Int).toNat = 2 from rfl, Nat.reduceMul, Nat.reduceEqDiff, Go.Addr.add, ↓reduceIte] at hx501_0); have qi501 : (2 < t482.length) = True := eq_true (by omega); (try rw [show ((2 : Int)).toNat = 2 from rfl] at hx501_0); replace p501 := eq_true p501; replace q501 := eq_true q501; have p503 : 0 ≤ (1 : Int) := (by omega); have q503 : 1 < (t482.length : Int) := oA; obtain ⟨ad503, e503, hx503_0⟩ := Kd.at_int (Kd.R_reads' HO484.out).2.2 1 p503 q503; obtain rfl : ad499 = ad503 := (by injection e503); (try simp only [show (1 : Int).toNat = 1 from rfl, Nat.reduceMul, Nat.reduceEqDiff, Go.Addr.add, ↓reduceIte] at hx503_0); have qi503 : (1 < t482.length) = True := eq_true (by omega); (try rw [show ((1 : Int)).toNat = 1 from rfl] at hx503_0); replace p503 := eq_true p503; replace q503 := eq_true q503
              refine start_ (n := 42) (S := fun w' => w'.cell? ⟨ad499.block, ad499.off + 1, none⟩ = some (.int .i64 (rd t482 1)) ∧ w'.cell? ad499 = some (.int .i64 (rd t482 0)) ∧ w'.cell? ⟨ad499.block, ad499.off + 2, none⟩ = some (.int .i64 (rd t482 2)) ∧ w'.cell? ⟨ad499.block, ad499.off + 1, none⟩ = some (.int .i64 (rd t482 1))) (ds := []) (laws_FnDegrees_up [(0, some 65), (1, some 66), (2, some 67), (3, some 68), (4, some 69), (5, some 70), (6, some 71), (7, some 72), (8, some 73), (10, some 75), (11, some 76), (12, some 77), (13, some 78), (9, some 74), (14, some 79), (15, some 80), (16, some 81), (17, some 82), (18, some 83), (19, some 84), (20, some 85), (21, some 86), (22, some 87), (23, some 88), (24, some 89), (25, some 90), (26, some 91), (27, some 92), (28, some 93), (29, some 94), (30, some 95), (31, some 96), (32, some 97), (33, some 98), (35, some 100), (36, some 101), (37, some 102), (38, some 103), (34, some 99), (39, some 104), (40, some 105), (41, some 2)] 42) (by kernel_rfl) rfl rfl ⟨hx499_0, hx500_0, hx501_0, hx503_0⟩ (fun hHeld => ?_); refine with_tabW laws_FnDegrees.tab11 laws_FnDegrees.bits11 (fun HT_ HW_ => ?_)
              generalize w50.drew = w51 at HO_4 HO_6 HO_Z0 HO_Z1 HO484 HO488 HO491 HO496 BK471 BK493 HB hx499_0 hx500_0 hx501_0 hx503_0 hHeld ⊢
              repeat (first | (refine laws_FnDegrees_uP rfl rfl (any_of HT_.out (by kernel_rfl)) (fun _ _ _ h => h) (by rfl) (v := ?_) (a' := ?_) ?_ ?_ ?_; rotate_left; (· intro w'; go_simp; with_reducible rfl); rotate_left; (· simp only [Act.put, List.setIfInBounds_toArray, List.set_cons_zero, List.set_cons_succ, i64_w, i32_w]; rfl)) | (refine laws_FnDegrees_uT rfl rfl (take_ofW HT_.out HW_.out (by kernel_rfl)) (fun _ _ _ h => h) (by rfl) (v := ?_) (a' := ?_) ?_ hHeld ?_ ?_; rotate_left; (· rintro w' ⟨s0, s1, s2, s3⟩; go_simp; with_reducible rfl); rotate_left; (· simp only [Act.put, List.setIfInBounds_toArray, List.set_cons_zero, List.set_cons_succ, i64_w, i32_w]; rfl)))
              refine laws_FnDegrees_uO rfl rfl (one_of HT_.out (by kernel_rfl)) (by decide) (fun K hK => ?_)
              refine goes_ Try.func37 (by kernel_rfl) rfl #[.slice Ao53 t472.length co53] (by rfl) rfl rfl (by (try simp only [List.map_toArray, List.map_cons, List.map_nil]); first | done | rfl | (simp only [List.length_drop, List.length_take]; rfl)) ?_
              with_reducible refine (laws_sumOf.calls kj5 _ _ t472 t498 _ ?side1 ?side2 A33.out).mono ?_
              (case side1 => exact cU ((Kd.R_reads' HO_4.out).2.2))
              (case side2 => exact (Kd.R_reads' HO_4.out).2.1)
              rintro e w' ⟨rfl, ⟨nd, rfl⟩⟩
              refine ⟨_, rfl, ?_⟩
              obtain ⟨Ao54, co54, eo54⟩ := Kd.R_slice HO496.out; (first | subst eo54 | (injection eo54 with f1_ f2_ f3_; have f4_ := f1_.symm; have f5_ := f3_.symm; clear f1_ f2_ f3_; subst f4_; subst f5_))
              refine hK.out _ _ ⟨hHeld.1, hHeld.2.1, hHeld.2.2.1, hHeld.2.2.2⟩ (fun hHeld => ?_)
              clear hK K
              refine norm_ (a' := ?_) ?_ ?_
              rotate_left
              ·
               show Act.put _ (some 74) _ = _
               simp only [Act.put, List.setIfInBounds_toArray, List.set_cons_zero, List.set_cons_succ, i64_w, i32_w]
               rfl
              repeat (first | (refine laws_FnDegrees_uP rfl rfl (any_of HT_.out (by kernel_rfl)) (fun _ _ _ h => h) (by rfl) (v := ?_) (a' := ?_) ?_ ?_ ?_; rotate_left; (· intro w'; go_simp; with_reducible rfl); rotate_left; (· simp only [Act.put, List.setIfInBounds_toArray, List.set_cons_zero, List.set_cons_succ, i64_w, i32_w]; rfl)) | (refine laws_FnDegrees_uT rfl rfl (take_ofW HT_.out HW_.out (by kernel_rfl)) (fun _ _ _ h => h) (by rfl) (v := ?_) (a' := ?_) ?_ hHeld ?_ ?_; rotate_left; (· rintro w' ⟨s0, s1, s2, s3⟩; go_simp; with_reducible rfl); rotate_left; (· simp only [Act.put, List.setIfInBounds_toArray, List.set_cons_zero, List.set_cons_succ, i64_w, i32_w]; rfl)))
              refine laws_FnDegrees_uO rfl rfl (one_of HT_.out (by kernel_rfl)) (by decide) (fun K hK => ?_)
              refine goes_ Try.func37 (by kernel_rfl) rfl #[.slice Ao54 t494.length co54] (by rfl) rfl rfl (by (try simp only [List.map_toArray, List.map_cons, List.map_nil]); first | done | rfl | (simp only [List.length_drop, List.length_take]; rfl)) ?_
              with_reducible refine (laws_sumOf.calls kj5 _ _ t494 t502 _ ?side1 ?side2 A40.out).mono ?_
              (case side1 => exact cU ((Kd.R_reads' HO496.out).2.2))
              (case side2 => exact (Kd.R_reads' HO496.out).2.1)
              rintro e w' ⟨rfl, ⟨nd, rfl⟩⟩
              refine ⟨_, rfl, ?_⟩
              refine hK.out _ _ ⟨hHeld.1, hHeld.2.1, hHeld.2.2.1, hHeld.2.2.2⟩ (fun hHeld => ?_)
              clear hK K
              refine norm_ (a' := ?_) ?_ ?_
              rotate_left
              ·
               show Act.put _ (some 99) _ = _
               simp only [Act.put, List.setIfInBounds_toArray, List.set_cons_zero, List.set_cons_succ, i64_w, i32_w]
               rfl
              repeat (first | (refine laws_FnDegrees_uP rfl rfl (any_of HT_.out (by kernel_rfl)) (fun _ _ _ h => h) (by rfl) (v := ?_) (a' := ?_) ?_ ?_ ?_; rotate_left; (· intro w'; go_simp; with_reducible rfl); rotate_left; (· simp only [Act.put, List.setIfInBounds_toArray, List.set_cons_zero, List.set_cons_succ, i64_w, i32_w]; rfl)))
              refine done_ (done_of HT_.out (by kernel_rfl)) ?_
              try go_wp2
              go_ret
              exact ⟨rE, bU2 HB.out GE471.out GE493.out⟩
             ·
              rw [if_neg c39] at H; have c39b0 := beq_eq_false_iff_ne.mpr c39; have c39b1 := bne_iff_ne.mpr c39; obtain rfl := Option.some.inj H; have hcz55_0 : wc.cell? ⟨gb471, 0, none⟩ = some (.slice Ao9 t465.length co9) := (blk_cell BK471.out 0).trans rfl; have hcz55_1 : wc.cell? ⟨gb471, 1, none⟩ = some (.slice Ao11 t468.length co11) := (blk_cell BK471.out 1).trans rfl; have hfz55_0 := blk_frozen BK471.out 0; have hfz55_1 := blk_frozen BK471.out 1
              try go_wp2_with (first | ((with_reducible refine gate_callee (f := 16) rfl ?_); refine goesL_ (some 52) rfl rfl Try.func16 (by kernel_rfl) rfl #[.agg #[.slice Ao9 t465.length co9, .slice Ao11 t468.length co11]] rfl (by (try simp only [List.map_toArray, List.map_cons, List.map_nil]); first | done | rfl | (simp only [List.length_drop, List.length_take]; rfl)) ?_; (with_reducible refine (impl_MapCounts.calls kj5 _ _ t465 _ _ t468 t482 true _ ?side1 ?side2 ?side3 ?side4 A27.out).mono ?_); (case side1 => exact cU ((Kd.Q_reads' HO_Z0.out).2.2)); (case side2 => exact (Kd.Q_reads' HO_Z0.out).2.1); (case side3 => exact cU ((Kd.R_reads' HO_Z1.out).2.2)); (case side4 => exact (Kd.R_reads' HO_Z1.out).2.1); rintro e w56 ⟨v483, rfl, ho0, hb⟩; refine ⟨_, rfl, ?_⟩; have n0 := Az (Kd.R_elder' (rU HO_4.out) (Kd.R_base ho0) hb); have n1 := Az (Kd.R_elder' (rU HO_6.out) (Kd.R_base ho0) hb); have n2 := Az (Kd.Q_elder' (qU HO_Z0.out) (Kd.R_base ho0) hb); have n3 := Az (Kd.R_elder' (rU HO_Z1.out) (Kd.R_base ho0) hb); have n4 := Az (Kd.R_lower (Kd.R_new' (Kd.R_new' (Kd.R_new' (Kd.R_new' ho0 (Kd.R_lt (rU HO_4.out))) (Kd.R_lt (rU HO_6.out))) (Kd.Q_lt (qU HO_Z0.out))) (Kd.R_lt (rU HO_Z1.out))) (below_size (bU1 HB.out GE471.out))); have n5 := Az (blk_below (g := gb471) (o := .cells #[.slice Ao9 t465.length co9, .slice Ao11 t468.length co11] 25 (0, 0)) (kU BK471.out) hb); have n6 := Az (below_step (bU1 HB.out GE471.out) hb); clear HO_4 HO_6 HO_Z0 HO_Z1 BK471 HB; have HO_4 := n0; have HO_6 := n1; have HO_Z0 := n2; have HO_Z1 := n3; have HO484 := n4; have BK471 := n5; have HB := n6; clear n0 n1 n2 n3 n4 n5 n6; (try clear hb); (try clear hb2); (try clear hk); (try clear hi); (try clear ho0); have hcz57_0 : w56.cell? ⟨gb471, 0, none⟩ = some (.slice Ao9 t465.length co9) := (blk_cell BK471.out 0).trans rfl; have hcz57_1 : w56.cell? ⟨gb471, 1, none⟩ = some (.slice Ao11 t468.length co11) := (blk_cell BK471.out 1).trans rfl; have hfz57_0 := blk_frozen BK471.out 0; have hfz57_1 := blk_frozen BK471.out 1) | ((with_reducible refine gate_callee (f := 17) rfl ?_); refine goesL_ (some 57) rfl rfl Try.func17 (by kernel_rfl) rfl #[.agg #[.slice Ao9 t465.length co9, .slice Ao11 t468.length co11]] rfl (by (try simp only [List.map_toArray, List.map_cons, List.map_nil]); first | done | rfl | (simp only [List.length_drop, List.length_take]; rfl)) ?_; (with_reducible refine (impl_MapDual.calls kj5 _ _ t465 _ _ t468 t486 t489 true _ ?side1 ?side2 ?side3 ?side4 A28.out).mono ?_); (case side1 => exact cU ((Kd.Q_reads' HO_Z0.out).2.2)); (case side2 => exact (Kd.Q_reads' HO_Z0.out).2.1); (case side3 => exact cU ((Kd.R_reads' HO_Z1.out).2.2)); (case side4 => exact (Kd.R_reads' HO_Z1.out).2.1); rintro e w58 ⟨v487, v490, rfl, ho0, ho1, hb⟩; refine ⟨_, rfl, ?_⟩; have n0 := Az (Kd.R_mono (Kd.R_told (Kd.R_told (Kd.R_old (rU HO_4.out) hb) (Kd.R_base ho0)) (Kd.R_base ho1)) (fun _ h_ => h_.1)); have n1 := Az (Kd.R_mono (Kd.R_told (Kd.R_told (Kd.R_old (rU HO_6.out) hb) (Kd.R_base ho0)) (Kd.R_base ho1)) (fun _ h_ => h_.1)); have n2 := Az (Kd.Q_mono (Kd.Q_told (Kd.Q_told (Kd.Q_old (qU HO_Z0.out) hb) (Kd.R_base ho0)) (Kd.R_base ho1)) (fun _ h_ => h_.1)); have n3 := Az (Kd.R_mono (Kd.R_told (Kd.R_told (Kd.R_old (rU HO_Z1.out) hb) (Kd.R_base ho0)) (Kd.R_base ho1)) (fun _ h_ => h_.1)); have n4 := Az (Kd.R_mono (Kd.R_told (Kd.R_told (Kd.R_old (rU HO484.out) hb) (Kd.R_base ho0)) (Kd.R_base ho1)) (fun _ h_ => h_.1)); have n5 := Az (Kd.R_lower (Kd.R_new' (Kd.R_new' (Kd.R_new' (Kd.R_new' (Kd.R_new' ho0 (Kd.R_lt (rU HO_4.out))) (Kd.R_lt (rU HO_6.out))) (Kd.Q_lt (qU HO_Z0.out))) (Kd.R_lt (rU HO_Z1.out))) (Kd.R_lt (rU HO484.out))) (below_size (bU1 HB.out GE471.out))); have n6 := Az (Kd.R_lower (Kd.R_new' (Kd.R_new' (Kd.R_new' (Kd.R_new' (Kd.R_new' ho1 (Kd.R_lt (rU HO_4.out))) (Kd.R_lt (rU HO_6.out))) (Kd.Q_lt (qU HO_Z0.out))) (Kd.R_lt (rU HO_Z1.out))) (Kd.R_lt (rU HO484.out))) (below_size (bU1 HB.out GE471.out))); have n7 := Az (blk_below (g := gb471) (o := .cells #[.slice Ao9 t465.length co9, .slice Ao11 t468.length co11] 25 (0, 0)) (kU BK471.out) hb); have n8 := Az (below_step (bU1 HB.out GE471.out) hb); clear HO_4 HO_6 HO_Z0 HO_Z1 HO484 BK471 HB; have HO_4 := n0; have HO_6 := n1; have HO_Z0 := n2; have HO_Z1 := n3; have HO484 := n4; have HO488 := n5; have HO491 := n6; have BK471 := n7; have HB := n8; clear n0 n1 n2 n3 n4 n5 n6 n7 n8; (try clear hb); (try clear hb2); (try clear hk); (try clear hi); (try clear ho0); (try clear ho1)) | ((with_reducible refine gate_dst (N := 10) rfl ?_); (try (refine gate_guard (by rfl) ?_; dsimp only)); refine box_event ?hg (N := 10) ?hd (cs := #[.slice none 0 0, .slice none 0 0]) (t := 25) ?hr ?_; (case hd => rfl); (case hg => rfl); (case hr => first | (go_simp; done) | (go_simp; rfl)); intro gb493 hg w59 hbox hb; have n0 := Az (Kd.R_below (rU HO_4.out) hb); have n1 := Az (Kd.R_below (rU HO_6.out) hb); have n2 := Az (Kd.Q_below (qU HO_Z0.out) hb); have n3 := Az (Kd.R_below (rU HO_Z1.out) hb); have n4 := Az (Kd.R_below (rU HO484.out) hb); have n5 := Az (Kd.R_below (rU HO488.out) hb); have n6 := Az (Kd.R_below (rU HO491.out) hb); have n7 := Az (blk_below (g := gb471) (o := .cells #[.slice Ao9 t465.length co9, .slice Ao11 t468.length co11] 25 (0, 0)) (kU BK471.out) hb); have n8 := Az (below_step (bU1 HB.out GE471.out) hb); have n9 := Az (hbox); have n10 := Az ((by rw [hg]; exact (below_size (bU1 HB.out GE471.out)) : w.heap.size ≤ gb493)); have n11 := n10; have n12 := Az ((by rw [hg]; exact Nat.ne_of_lt (blk_lt (g := gb471) (o := .cells #[.slice Ao9 t465.length co9, .slice Ao11 t468.length co11] 25 (0, 0)) (kU BK471.out)) : gb471 ≠ gb493)); have n13 := Az ((by rw [hg]; exact Nat.ne_of_gt (blk_lt (g := gb471) (o := .cells #[.slice Ao9 t465.length co9, .slice Ao11 t468.length co11] 25 (0, 0)) (kU BK471.out)) : gb493 ≠ gb471)); clear HO_4 HO_6 HO_Z0 HO_Z1 HO484 HO488 HO491 BK471 HB; have HO_4 := n0; have HO_6 := n1; have HO_Z0 := n2; have HO_Z1 := n3; have HO484 := n4; have HO488 := n5; have HO491 := n6; have BK471 := n7; have HB := n8; have BK493 := n9; have GW493 := n10; have GE493 := n11; have NB471_493 := n12; have NB493_471 := n13; clear n0 n1 n2 n3 n4 n5 n6 n7 n8 n9 n10 n11 n12 n13 hb hbox hg; obtain ⟨Ao60, co60, eo60⟩ := Kd.R_slice HO488.out; subst eo60; have hnb61 := NB493_471.out; have hnc61 := NB471_493.out; have hcz62_0 : w59.cell? ⟨gb493, 0, none⟩ = some (.slice none 0 0) := (blk_cell BK493.out 0).trans rfl; have hcz62_1 : w59.cell? ⟨gb493, 1, none⟩ = some (.slice none 0 0) := (blk_cell BK493.out 1).trans rfl; have hfz62_0 := blk_frozen BK493.out 0; have hfz62_1 := blk_frozen BK493.out 1; obtain ⟨Ao63, co63, eo63⟩ := Kd.R_slice HO491.out; subst eo63) | ((with_reducible refine gate_callee (f := 34) rfl ?_); refine goesL_ (some 62) rfl rfl Try.func34 (by kernel_rfl) rfl #[.agg #[.slice Ao60 t486.length co60, .slice Ao63 t489.length co63]] rfl (by (try simp only [List.map_toArray, List.map_cons, List.map_nil]); first | done | rfl | (simp only [List.length_drop, List.length_take]; rfl)) ?_; (with_reducible refine (impl_MapDegrees.calls kj5 _ _ t486 _ _ t489 t494 true _ ?side1 ?side2 ?side3 ?side4 A29.out).mono ?_); (case side1 => refine (Kd.R_reads' (e := 3) (base := w.heap.size) (ok := fun k_ => (((((some k_ ≠ (.slice Ao63 t489.length co63 : Value).ownBlock ∧ some k_ ≠ (v473 : Value).ownBlock) ∧ some k_ ≠ (v477 : Value).ownBlock) ∧ some k_ ≠ (.slice Ao9 t465.length co9 : Value).ownBlock) ∧ some k_ ≠ (.slice Ao11 t468.length co11 : Value).ownBlock) ∧ some k_ ≠ (v483 : Value).ownBlock)) (n := t486.length) (c := co60) ?_).2.2; exact (by (with_reducible repeat (first | apply Kd.R_alloc | apply Kd.R_drewN | apply Kd.R_drew)); exact (Kd.R_mono (Kd.R_far (p := ⟨gb493, 1, none⟩) (Kd.R_far (p := ⟨gb493, 0, none⟩) (Kd.R_types HO488.out BK493.out (by decide)) (fun _ hk => hk.2) (.slice Ao60 t486.length co60)) (fun _ hk => hk.2) (.slice Ao63 t489.length co63)) (fun _ h_ => h_.1)))); (case side2 => exact (Kd.R_reads' HO488.out).2.1); (case side3 => refine (Kd.R_reads' (e := 3) (base := w.heap.size) (ok := fun k_ => (((((some k_ ≠ (.slice Ao60 t486.length co60 : Value).ownBlock ∧ some k_ ≠ (v473 : Value).ownBlock) ∧ some k_ ≠ (v477 : Value).ownBlock) ∧ some k_ ≠ (.slice Ao9 t465.length co9 : Value).ownBlock) ∧ some k_ ≠ (.slice Ao11 t468.length co11 : Value).ownBlock) ∧ some k_ ≠ (v483 : Value).ownBlock)) (n := t489.length) (c := co63) ?_).2.2; exact (by (with_reducible repeat (first | apply Kd.R_alloc | apply Kd.R_drewN | apply Kd.R_drew)); exact (Kd.R_mono (Kd.R_far (p := ⟨gb493, 1, none⟩) (Kd.R_far (p := ⟨gb493, 0, none⟩) (Kd.R_types HO491.out BK493.out (by decide)) (fun _ hk => hk.2) (.slice Ao60 t486.length co60)) (fun _ hk => hk.2) (.slice Ao63 t489.length co63)) (fun _ h_ => h_.1)))); (case side4 => exact (Kd.R_reads' HO491.out).2.1); rintro e w64 ⟨v495, rfl, ho0, hb⟩; refine ⟨_, rfl, ?_⟩; have n0 := Az (Kd.R_elder' (by (with_reducible repeat (first | apply Kd.R_alloc | apply Kd.R_drewN | apply Kd.R_drew)); exact (Kd.R_mono (Kd.R_far (p := ⟨gb493, 1, none⟩) (Kd.R_far (p := ⟨gb493, 0, none⟩) (Kd.R_types HO_4.out BK493.out (by decide)) (fun _ hk => hk.2) (.slice Ao60 t486.length co60)) (fun _ hk => hk.2) (.slice Ao63 t489.length co63)) (fun _ h_ => h_.1))) (Kd.R_base ho0) hb); have n1 := Az (Kd.R_elder' (by (with_reducible repeat (first | apply Kd.R_alloc | apply Kd.R_drewN | apply Kd.R_drew)); exact (Kd.R_mono (Kd.R_far (p := ⟨gb493, 1, none⟩) (Kd.R_far (p := ⟨gb493, 0, none⟩) (Kd.R_types HO_6.out BK493.out (by decide)) (fun _ hk => hk.2) (.slice Ao60 t486.length co60)) (fun _ hk => hk.2) (.slice Ao63 t489.length co63)) (fun _ h_ => h_.1))) (Kd.R_base ho0) hb); have n2 := Az (Kd.Q_elder' (by (with_reducible repeat (first | apply Kd.Q_alloc | apply Kd.Q_drewN | apply Kd.Q_drew)); exact (Kd.Q_mono (Kd.Q_far (p := ⟨gb493, 1, none⟩) (Kd.Q_far (p := ⟨gb493, 0, none⟩) (Kd.Q_types HO_Z0.out BK493.out (by decide)) (fun _ hk => hk.2) (.slice Ao60 t486.length co60)) (fun _ hk => hk.2) (.slice Ao63 t489.length co63)) (fun _ h_ => h_.1))) (Kd.R_base ho0) hb); have n3 := Az (Kd.R_elder' (by (with_reducible repeat (first | apply Kd.R_alloc | apply Kd.R_drewN | apply Kd.R_drew)); exact (Kd.R_mono (Kd.R_far (p := ⟨gb493, 1, none⟩) (Kd.R_far (p := ⟨gb493, 0, none⟩) (Kd.R_types HO_Z1.out BK493.out (by decide)) (fun _ hk => hk.2) (.slice Ao60 t486.length co60)) (fun _ hk => hk.2) (.slice Ao63 t489.length co63)) (fun _ h_ => h_.1))) (Kd.R_base ho0) hb); have n4 := Az (Kd.R_elder' (by (with_reducible repeat (first | apply Kd.R_alloc | apply Kd.R_drewN | apply Kd.R_drew)); exact (Kd.R_mono (Kd.R_far (p := ⟨gb493, 1, none⟩) (Kd.R_far (p := ⟨gb493, 0, none⟩) (Kd.R_types HO484.out BK493.out (by decide)) (fun _ hk => hk.2) (.slice Ao60 t486.length co60)) (fun _ hk => hk.2) (.slice Ao63 t489.length co63)) (fun _ h_ => h_.1))) (Kd.R_base ho0) hb); have n5 := Az (Kd.R_elder' (by (with_reducible repeat (first | apply Kd.R_alloc | apply Kd.R_drewN | apply Kd.R_drew)); exact (Kd.R_mono (Kd.R_far (p := ⟨gb493, 1, none⟩) (Kd.R_far (p := ⟨gb493, 0, none⟩) (Kd.R_types HO488.out BK493.out (by decide)) (fun _ hk => hk.2) (.slice Ao60 t486.length co60)) (fun _ hk => hk.2) (.slice Ao63 t489.length co63)) (fun _ h_ => h_.1))) (Kd.R_base ho0) hb); have n6 := Az (Kd.R_elder' (by (with_reducible repeat (first | apply Kd.R_alloc | apply Kd.R_drewN | apply Kd.R_drew)); exact (Kd.R_mono (Kd.R_far (p := ⟨gb493, 1, none⟩) (Kd.R_far (p := ⟨gb493, 0, none⟩) (Kd.R_types HO491.out BK493.out (by decide)) (fun _ hk => hk.2) (.slice Ao60 t486.length co60)) (fun _ hk => hk.2) (.slice Ao63 t489.length co63)) (fun _ h_ => h_.1))) (Kd.R_base ho0) hb); have n7 := Az (Kd.R_lower (Kd.R_new' (Kd.R_new' (Kd.R_new' (Kd.R_new' (Kd.R_new' (Kd.R_new' (Kd.R_new' ho0 (Kd.R_lt (by (with_reducible repeat (first | apply Kd.R_alloc | apply Kd.R_drewN | apply Kd.R_drew)); exact (Kd.R_mono (Kd.R_far (p := ⟨gb493, 1, none⟩) (Kd.R_far (p := ⟨gb493, 0, none⟩) (Kd.R_types HO_4.out BK493.out (by decide)) (fun _ hk => hk.2) (.slice Ao60 t486.length co60)) (fun _ hk => hk.2) (.slice Ao63 t489.length co63)) (fun _ h_ => h_.1))))) (Kd.R_lt (by (with_reducible repeat (first | apply Kd.R_alloc | apply Kd.R_drewN | apply Kd.R_drew)); exact (Kd.R_mono (Kd.R_far (p := ⟨gb493, 1, none⟩) (Kd.R_far (p := ⟨gb493, 0, none⟩) (Kd.R_types HO_6.out BK493.out (by decide)) (fun _ hk => hk.2) (.slice Ao60 t486.length co60)) (fun _ hk => hk.2) (.slice Ao63 t489.length co63)) (fun _ h_ => h_.1))))) (Kd.Q_lt (by (with_reducible repeat (first | apply Kd.Q_alloc | apply Kd.Q_drewN | apply Kd.Q_drew)); exact (Kd.Q_mono (Kd.Q_far (p := ⟨gb493, 1, none⟩) (Kd.Q_far (p := ⟨gb493, 0, none⟩) (Kd.Q_types HO_Z0.out BK493.out (by decide)) (fun _ hk => hk.2) (.slice Ao60 t486.length co60)) (fun _ hk => hk.2) (.slice Ao63 t489.length co63)) (fun _ h_ => h_.1))))) (Kd.R_lt (by (with_reducible repeat (first | apply Kd.R_alloc | apply Kd.R_drewN | apply Kd.R_drew)); exact (Kd.R_mono (Kd.R_far (p := ⟨gb493, 1, none⟩) (Kd.R_far (p := ⟨gb493, 0, none⟩) (Kd.R_types HO_Z1.out BK493.out (by decide)) (fun _ hk => hk.2) (.slice Ao60 t486.length co60)) (fun _ hk => hk.2) (.slice Ao63 t489.length co63)) (fun _ h_ => h_.1))))) (Kd.R_lt (by (with_reducible repeat (first | apply Kd.R_alloc | apply Kd.R_drewN | apply Kd.R_drew)); exact (Kd.R_mono (Kd.R_far (p := ⟨gb493, 1, none⟩) (Kd.R_far (p := ⟨gb493, 0, none⟩) (Kd.R_types HO484.out BK493.out (by decide)) (fun _ hk => hk.2) (.slice Ao60 t486.length co60)) (fun _ hk => hk.2) (.slice Ao63 t489.length co63)) (fun _ h_ => h_.1))))) (Kd.R_lt (by (with_reducible repeat (first | apply Kd.R_alloc | apply Kd.R_drewN | apply Kd.R_drew)); exact (Kd.R_mono (Kd.R_far (p := ⟨gb493, 1, none⟩) (Kd.R_far (p := ⟨gb493, 0, none⟩) (Kd.R_types HO488.out BK493.out (by decide)) (fun _ hk => hk.2) (.slice Ao60 t486.length co60)) (fun _ hk => hk.2) (.slice Ao63 t489.length co63)) (fun _ h_ => h_.1))))) (Kd.R_lt (by (with_reducible repeat (first | apply Kd.R_alloc | apply Kd.R_drewN | apply Kd.R_drew)); exact (Kd.R_mono (Kd.R_far (p := ⟨gb493, 1, none⟩) (Kd.R_far (p := ⟨gb493, 0, none⟩) (Kd.R_types HO491.out BK493.out (by decide)) (fun _ hk => hk.2) (.slice Ao60 t486.length co60)) (fun _ hk => hk.2) (.slice Ao63 t489.length co63)) (fun _ h_ => h_.1))))) (below_size (bU2 HB.out GE471.out GE493.out))); have n8 := Az (blk_below (g := gb471) (o := .cells #[.slice Ao9 t465.length co9, .slice Ao11 t468.length co11] 25 (0, 0)) (by (with_reducible repeat (first | refine blk_drewN ?_ _ | refine blk_drew ?_ | refine blk_alloc ?_ _)); refine blk_far ?_ NB471_493.out _; (with_reducible repeat (first | refine blk_drewN ?_ _ | refine blk_drew ?_ | refine blk_alloc ?_ _)); refine blk_far ?_ NB471_493.out _; (with_reducible repeat (first | refine blk_drewN ?_ _ | refine blk_drew ?_ | refine blk_alloc ?_ _)); exact BK471.out) hb); have n9 := Az (blk_below (g := gb493) (o := .cells #[.slice Ao60 t486.length co60, .slice Ao63 t489.length co63] 25 (0, 0)) (by (with_reducible repeat (first | refine blk_drewN ?_ _ | refine blk_drew ?_ | refine blk_alloc ?_ _)); refine blk_put (cs := #[.slice Ao60 t486.length co60, .slice none 0 0]) ?_ 1 _ rfl; (with_reducible repeat (first | refine blk_drewN ?_ _ | refine blk_drew ?_ | refine blk_alloc ?_ _)); refine blk_put (cs := #[.slice none 0 0, .slice none 0 0]) ?_ 0 _ rfl; (with_reducible repeat (first | refine blk_drewN ?_ _ | refine blk_drew ?_ | refine blk_alloc ?_ _)); exact BK493.out) hb); have n10 := Az (below_step (bU2 HB.out GE471.out GE493.out) hb); clear HO_4 HO_6 HO_Z0 HO_Z1 HO484 HO488 HO491 BK471 BK493 HB; have HO_4 := n0; have HO_6 := n1; have HO_Z0 := n2; have HO_Z1 := n3; have HO484 := n4; have HO488 := n5; have HO491 := n6; have HO496 := n7; have BK471 := n8; have BK493 := n9; have HB := n10; clear n0 n1 n2 n3 n4 n5 n6 n7 n8 n9 n10; (try clear hb); (try clear hb2); (try clear hk); (try clear hi); (try clear ho0)))
              have n0 := Az (Kd.R_drew HO_4.out); have n1 := Az (Kd.R_drew HO_6.out); have n2 := Az (Kd.Q_drew HO_Z0.out); have n3 := Az (Kd.R_drew HO_Z1.out); have n4 := Az (Kd.R_drew HO484.out); have n5 := Az (Kd.R_drew HO488.out); have n6 := Az (Kd.R_drew HO491.out); have n7 := Az (Kd.R_drew HO496.out); have n8 := Az (blk_drew BK471.out); have n9 := Az (blk_drew BK493.out); have n10 := Az (below_drew1 HB.out); clear HO_4 HO_6 HO_Z0 HO_Z1 HO484 HO488 HO491 HO496 BK471 BK493 HB; have HO_4 := n0; have HO_6 := n1; have HO_Z0 := n2; have HO_Z1 := n3; have HO484 := n4; have HO488 := n5; have HO491 := n6; have HO496 := n7; have BK471 := n8; have BK493 := n9; have HB := n10; clear n0 n1 n2 n3 n4 n5 n6 n7 n8 n9 n10; obtain ⟨Ao66, co66, eo66⟩ := Kd.R_slice HO484.out; (first | subst eo66 | (injection eo66 with f1_ f2_ f3_; have f4_ := f1_.symm; have f5_ := f3_.symm; clear f1_ f2_ f3_; subst f4_; subst f5_)); have p499 : 0 ≤ (1 : Int) := (by omega); have q499 : 1 < (t482.length : Int) := oA; obtain ⟨ad499, e499, hx499_0⟩ := Kd.at_int (Kd.R_reads' HO484.out).2.2 1 p499 q499
              cases e499
              (try simp only [show (1 : Int).toNat = 1 from rfl, Nat.reduceMul, Nat.reduceEqDiff, Go.Addr.add, ↓reduceIte] at hx499_0); have qi499 : (1 < t482.length) = True := eq_true (by omega); (try rw [show ((1 : Int)).toNat = 1 from rfl] at hx499_0); replace p499 := eq_true p499; replace q499 := eq_true q499; obtain ⟨Ao67, co67, eo67⟩ := Kd.R_slice HO_4.out; (first | subst eo67 | (injection eo67 with f1_ f2_ f3_; have f4_ := f1_.symm; have f5_ := f3_.symm; clear f1_ f2_ f3_; subst f4_; subst f5_)); have p500 : 0 ≤ (0 : Int) := (by omega); have q500 : 0 < (t482.length : Int) := oA; obtain ⟨ad500, e500, hx500_0⟩ := Kd.at_int (Kd.R_reads' HO484.out).2.2 0 p500 q500; obtain rfl : ad499 = ad500 := (by injection e500); have qi500 : (0 < t482.length) = True := eq_true (by omega); (try rw [show ((0 : Int)).toNat = 0 from rfl] at hx500_0); (try rw [Addr.add_zero'] at hx500_0); replace p500 := eq_true p500; replace q500 := eq_true q500; have p501 : 0 ≤ (2 : Int) := (by omega); have q501 : 2 < (t482.length : Int) := oA; obtain ⟨ad501, e501, hx501_0⟩ := Kd.at_int (Kd.R_reads' HO484.out).2.2 2 p501 q501; obtain rfl : ad499 = ad501 := (by injection e501); (try simp only [show (2 : Int).toNat = 2 from rfl, Nat.reduceMul, Nat.reduceEqDiff, Go.Addr.add, ↓reduceIte] at hx501_0); have qi501 : (2 < t482.length) = True := eq_true (by omega); (try rw [show ((2 : Int)).toNat = 2 from rfl] at hx501_0); replace p501 := eq_true p501; replace q501 := eq_true q501
              refine start_ (n := 42) (S := fun w' => w'.cell? ⟨ad499.block, ad499.off + 1, none⟩ = some (.int .i64 (rd t482 1)) ∧ w'.cell? ad499 = some (.int .i64 (rd t482 0)) ∧ w'.cell? ⟨ad499.block, ad499.off + 2, none⟩ = some (.int .i64 (rd t482 2))) (ds := []) (laws_FnDegrees_up [(0, some 65), (1, some 66), (2, some 67), (3, some 68), (4, some 69), (5, some 70), (6, some 71), (7, some 72), (8, some 73), (10, some 75), (11, some 76), (12, some 77), (13, some 78), (9, some 74), (14, some 79), (15, some 80), (16, some 81), (17, some 82), (18, some 83), (19, some 84), (20, some 85), (21, some 86), (22, some 87), (23, some 88), (24, some 89), (25, some 90), (26, some 91), (27, some 92), (28, some 93), (29, some 94), (30, some 95), (31, some 96), (32, some 97), (33, some 98), (34, some 99), (35, some 100), (36, some 101), (37, some 102), (38, some 103), (39, some 104), (40, some 105), (41, some 2)] 42) (by kernel_rfl) rfl rfl ⟨hx499_0, hx500_0, hx501_0⟩ (fun hHeld => ?_); refine with_tabW laws_FnDegrees.tab11 laws_FnDegrees.bits11 (fun HT_ HW_ => ?_)
              generalize w64.drew = w65 at HO_4 HO_6 HO_Z0 HO_Z1 HO484 HO488 HO491 HO496 BK471 BK493 HB hx499_0 hx500_0 hx501_0 hHeld ⊢
              repeat (first | (refine laws_FnDegrees_uP rfl rfl (any_of HT_.out (by kernel_rfl)) (fun _ _ _ h => h) (by rfl) (v := ?_) (a' := ?_) ?_ ?_ ?_; rotate_left; (· intro w'; go_simp; with_reducible rfl); rotate_left; (· simp only [Act.put, List.setIfInBounds_toArray, List.set_cons_zero, List.set_cons_succ, i64_w, i32_w]; rfl)) | (refine laws_FnDegrees_uT rfl rfl (take_ofW HT_.out HW_.out (by kernel_rfl)) (fun _ _ _ h => h) (by rfl) (v := ?_) (a' := ?_) ?_ hHeld ?_ ?_; rotate_left; (· rintro w' ⟨s0, s1, s2⟩; go_simp; with_reducible rfl); rotate_left; (· simp only [Act.put, List.setIfInBounds_toArray, List.set_cons_zero, List.set_cons_succ, i64_w, i32_w]; rfl)))
              refine laws_FnDegrees_uO rfl rfl (one_of HT_.out (by kernel_rfl)) (by decide) (fun K hK => ?_)
              refine goes_ Try.func37 (by kernel_rfl) rfl #[.slice Ao67 t472.length co67] (by rfl) rfl rfl (by (try simp only [List.map_toArray, List.map_cons, List.map_nil]); first | done | rfl | (simp only [List.length_drop, List.length_take]; rfl)) ?_
              with_reducible refine (laws_sumOf.calls kj5 _ _ t472 t498 _ ?side1 ?side2 A33.out).mono ?_
              (case side1 => exact cU ((Kd.R_reads' HO_4.out).2.2))
              (case side2 => exact (Kd.R_reads' HO_4.out).2.1)
              rintro e w' ⟨rfl, ⟨nd, rfl⟩⟩
              refine ⟨_, rfl, ?_⟩
              obtain ⟨Ao68, co68, eo68⟩ := Kd.R_slice HO496.out; (first | subst eo68 | (injection eo68 with f1_ f2_ f3_; have f4_ := f1_.symm; have f5_ := f3_.symm; clear f1_ f2_ f3_; subst f4_; subst f5_))
              refine hK.out _ _ ⟨hHeld.1, hHeld.2.1, hHeld.2.2⟩ (fun hHeld => ?_)
              clear hK K
              refine norm_ (a' := ?_) ?_ ?_
              rotate_left
              ·
               show Act.put _ (some 74) _ = _
               simp only [Act.put, List.setIfInBounds_toArray, List.set_cons_zero, List.set_cons_succ, i64_w, i32_w]
               rfl
              repeat (first | (refine laws_FnDegrees_uS rfl rfl (any_of HT_.out (by kernel_rfl)) (fun _ _ _ h => h) (by rfl) (a' := ?_) ?_ ?_; rotate_left; (· simp only [Act.put, List.setIfInBounds_toArray, List.set_cons_zero, List.set_cons_succ, i64_w, i32_w]; rfl)) | (refine laws_FnDegrees_uP rfl rfl (any_of HT_.out (by kernel_rfl)) (fun _ _ _ h => h) (by rfl) (v := ?_) (a' := ?_) ?_ ?_ ?_; rotate_left; (· intro w'; go_simp; with_reducible rfl); rotate_left; (· simp only [Act.put, List.setIfInBounds_toArray, List.set_cons_zero, List.set_cons_succ, i64_w, i32_w]; rfl)) | (refine laws_FnDegrees_uT rfl rfl (take_ofW HT_.out HW_.out (by kernel_rfl)) (fun _ _ _ h => h) (by rfl) (v := ?_) (a' := ?_) ?_ hHeld ?_ ?_; rotate_left; (· rintro w' ⟨s0, s1, s2⟩; go_simp; with_reducible rfl); rotate_left; (· simp only [Act.put, List.setIfInBounds_toArray, List.set_cons_zero, List.set_cons_succ, i64_w, i32_w]; rfl)))
              refine done_ (done_of HT_.out (by kernel_rfl)) ?_
              try go_wp2
              go_ret
              exact ⟨rE, bU2 HB.out GE471.out GE493.out⟩
            ·
             rw [if_neg c38] at H
             exact absurd H (by simp)
           ·
            rw [if_neg c37] at H; have c37b0 := beq_eq_false_iff_ne.mpr c37; have c37b1 := bne_iff_ne.mpr c37; obtain rfl := Option.some.inj H; have hcz69_0 : wc.cell? ⟨gb471, 0, none⟩ = some (.slice Ao9 t465.length co9) := (blk_cell BK471.out 0).trans rfl; have hcz69_1 : wc.cell? ⟨gb471, 1, none⟩ = some (.slice Ao11 t468.length co11) := (blk_cell BK471.out 1).trans rfl; have hfz69_0 := blk_frozen BK471.out 0; have hfz69_1 := blk_frozen BK471.out 1
            try go_wp2_with (first | ((with_reducible refine gate_callee (f := 16) rfl ?_); refine goesL_ (some 52) rfl rfl Try.func16 (by kernel_rfl) rfl #[.agg #[.slice Ao9 t465.length co9, .slice Ao11 t468.length co11]] rfl (by (try simp only [List.map_toArray, List.map_cons, List.map_nil]); first | done | rfl | (simp only [List.length_drop, List.length_take]; rfl)) ?_; (with_reducible refine (impl_MapCounts.calls kj5 _ _ t465 _ _ t468 t482 true _ ?side1 ?side2 ?side3 ?side4 A27.out).mono ?_); (case side1 => exact cU ((Kd.Q_reads' HO_Z0.out).2.2)); (case side2 => exact (Kd.Q_reads' HO_Z0.out).2.1); (case side3 => exact cU ((Kd.R_reads' HO_Z1.out).2.2)); (case side4 => exact (Kd.R_reads' HO_Z1.out).2.1); rintro e w70 ⟨v483, rfl, ho0, hb⟩; refine ⟨_, rfl, ?_⟩; have n0 := Az (Kd.R_elder' (rU HO_4.out) (Kd.R_base ho0) hb); have n1 := Az (Kd.R_elder' (rU HO_6.out) (Kd.R_base ho0) hb); have n2 := Az (Kd.Q_elder' (qU HO_Z0.out) (Kd.R_base ho0) hb); have n3 := Az (Kd.R_elder' (rU HO_Z1.out) (Kd.R_base ho0) hb); have n4 := Az (Kd.R_lower (Kd.R_new' (Kd.R_new' (Kd.R_new' (Kd.R_new' ho0 (Kd.R_lt (rU HO_4.out))) (Kd.R_lt (rU HO_6.out))) (Kd.Q_lt (qU HO_Z0.out))) (Kd.R_lt (rU HO_Z1.out))) (below_size (bU1 HB.out GE471.out))); have n5 := Az (blk_below (g := gb471) (o := .cells #[.slice Ao9 t465.length co9, .slice Ao11 t468.length co11] 25 (0, 0)) (kU BK471.out) hb); have n6 := Az (below_step (bU1 HB.out GE471.out) hb); clear HO_4 HO_6 HO_Z0 HO_Z1 BK471 HB; have HO_4 := n0; have HO_6 := n1; have HO_Z0 := n2; have HO_Z1 := n3; have HO484 := n4; have BK471 := n5; have HB := n6; clear n0 n1 n2 n3 n4 n5 n6; (try clear hb); (try clear hb2); (try clear hk); (try clear hi); (try clear ho0); have hcz71_0 : w70.cell? ⟨gb471, 0, none⟩ = some (.slice Ao9 t465.length co9) := (blk_cell BK471.out 0).trans rfl; have hcz71_1 : w70.cell? ⟨gb471, 1, none⟩ = some (.slice Ao11 t468.length co11) := (blk_cell BK471.out 1).trans rfl; have hfz71_0 := blk_frozen BK471.out 0; have hfz71_1 := blk_frozen BK471.out 1) | ((with_reducible refine gate_callee (f := 17) rfl ?_); refine goesL_ (some 57) rfl rfl Try.func17 (by kernel_rfl) rfl #[.agg #[.slice Ao9 t465.length co9, .slice Ao11 t468.length co11]] rfl (by (try simp only [List.map_toArray, List.map_cons, List.map_nil]); first | done | rfl | (simp only [List.length_drop, List.length_take]; rfl)) ?_; (with_reducible refine (impl_MapDual.calls kj5 _ _ t465 _ _ t468 t486 t489 true _ ?side1 ?side2 ?side3 ?side4 A28.out).mono ?_); (case side1 => exact cU ((Kd.Q_reads' HO_Z0.out).2.2)); (case side2 => exact (Kd.Q_reads' HO_Z0.out).2.1); (case side3 => exact cU ((Kd.R_reads' HO_Z1.out).2.2)); (case side4 => exact (Kd.R_reads' HO_Z1.out).2.1); rintro e w72 ⟨v487, v490, rfl, ho0, ho1, hb⟩; refine ⟨_, rfl, ?_⟩; have n0 := Az (Kd.R_mono (Kd.R_told (Kd.R_told (Kd.R_old (rU HO_4.out) hb) (Kd.R_base ho0)) (Kd.R_base ho1)) (fun _ h_ => h_.1)); have n1 := Az (Kd.R_mono (Kd.R_told (Kd.R_told (Kd.R_old (rU HO_6.out) hb) (Kd.R_base ho0)) (Kd.R_base ho1)) (fun _ h_ => h_.1)); have n2 := Az (Kd.Q_mono (Kd.Q_told (Kd.Q_told (Kd.Q_old (qU HO_Z0.out) hb) (Kd.R_base ho0)) (Kd.R_base ho1)) (fun _ h_ => h_.1)); have n3 := Az (Kd.R_mono (Kd.R_told (Kd.R_told (Kd.R_old (rU HO_Z1.out) hb) (Kd.R_base ho0)) (Kd.R_base ho1)) (fun _ h_ => h_.1)); have n4 := Az (Kd.R_mono (Kd.R_told (Kd.R_told (Kd.R_old (rU HO484.out) hb) (Kd.R_base ho0)) (Kd.R_base ho1)) (fun _ h_ => h_.1)); have n5 := Az (Kd.R_lower (Kd.R_new' (Kd.R_new' (Kd.R_new' (Kd.R_new' (Kd.R_new' ho0 (Kd.R_lt (rU HO_4.out))) (Kd.R_lt (rU HO_6.out))) (Kd.Q_lt (qU HO_Z0.out))) (Kd.R_lt (rU HO_Z1.out))) (Kd.R_lt (rU HO484.out))) (below_size (bU1 HB.out GE471.out))); have n6 := Az (Kd.R_lower (Kd.R_new' (Kd.R_new' (Kd.R_new' (Kd.R_new' (Kd.R_new' ho1 (Kd.R_lt (rU HO_4.out))) (Kd.R_lt (rU HO_6.out))) (Kd.Q_lt (qU HO_Z0.out))) (Kd.R_lt (rU HO_Z1.out))) (Kd.R_lt (rU HO484.out))) (below_size (bU1 HB.out GE471.out))); have n7 := Az (blk_below (g := gb471) (o := .cells #[.slice Ao9 t465.length co9, .slice Ao11 t468.length co11] 25 (0, 0)) (kU BK471.out) hb); have n8 := Az (below_step (bU1 HB.out GE471.out) hb); clear HO_4 HO_6 HO_Z0 HO_Z1 HO484 BK471 HB; have HO_4 := n0; have HO_6 := n1; have HO_Z0 := n2; have HO_Z1 := n3; have HO484 := n4; have HO488 := n5; have HO491 := n6; have BK471 := n7; have HB := n8; clear n0 n1 n2 n3 n4 n5 n6 n7 n8; (try clear hb); (try clear hb2); (try clear hk); (try clear hi); (try clear ho0); (try clear ho1)) | ((with_reducible refine gate_dst (N := 10) rfl ?_); (try (refine gate_guard (by rfl) ?_; dsimp only)); refine box_event ?hg (N := 10) ?hd (cs := #[.slice none 0 0, .slice none 0 0]) (t := 25) ?hr ?_; (case hd => rfl); (case hg => rfl); (case hr => first | (go_simp; done) | (go_simp; rfl)); intro gb493 hg w73 hbox hb; have n0 := Az (Kd.R_below (rU HO_4.out) hb); have n1 := Az (Kd.R_below (rU HO_6.out) hb); have n2 := Az (Kd.Q_below (qU HO_Z0.out) hb); have n3 := Az (Kd.R_below (rU HO_Z1.out) hb); have n4 := Az (Kd.R_below (rU HO484.out) hb); have n5 := Az (Kd.R_below (rU HO488.out) hb); have n6 := Az (Kd.R_below (rU HO491.out) hb); have n7 := Az (blk_below (g := gb471) (o := .cells #[.slice Ao9 t465.length co9, .slice Ao11 t468.length co11] 25 (0, 0)) (kU BK471.out) hb); have n8 := Az (below_step (bU1 HB.out GE471.out) hb); have n9 := Az (hbox); have n10 := Az ((by rw [hg]; exact (below_size (bU1 HB.out GE471.out)) : w.heap.size ≤ gb493)); have n11 := n10; have n12 := Az ((by rw [hg]; exact Nat.ne_of_lt (blk_lt (g := gb471) (o := .cells #[.slice Ao9 t465.length co9, .slice Ao11 t468.length co11] 25 (0, 0)) (kU BK471.out)) : gb471 ≠ gb493)); have n13 := Az ((by rw [hg]; exact Nat.ne_of_gt (blk_lt (g := gb471) (o := .cells #[.slice Ao9 t465.length co9, .slice Ao11 t468.length co11] 25 (0, 0)) (kU BK471.out)) : gb493 ≠ gb471)); clear HO_4 HO_6 HO_Z0 HO_Z1 HO484 HO488 HO491 BK471 HB; have HO_4 := n0; have HO_6 := n1; have HO_Z0 := n2; have HO_Z1 := n3; have HO484 := n4; have HO488 := n5; have HO491 := n6; have BK471 := n7; have HB := n8; have BK493 := n9; have GW493 := n10; have GE493 := n11; have NB471_493 := n12; have NB493_471 := n13; clear n0 n1 n2 n3 n4 n5 n6 n7 n8 n9 n10 n11 n12 n13 hb hbox hg; obtain ⟨Ao74, co74, eo74⟩ := Kd.R_slice HO488.out; subst eo74; have hnb75 := NB493_471.out; have hnc75 := NB471_493.out; have hcz76_0 : w73.cell? ⟨gb493, 0, none⟩ = some (.slice none 0 0) := (blk_cell BK493.out 0).trans rfl; have hcz76_1 : w73.cell? ⟨gb493, 1, none⟩ = some (.slice none 0 0) := (blk_cell BK493.out 1).trans rfl; have hfz76_0 := blk_frozen BK493.out 0; have hfz76_1 := blk_frozen BK493.out 1; obtain ⟨Ao77, co77, eo77⟩ := Kd.R_slice HO491.out; subst eo77) | ((with_reducible refine gate_callee (f := 34) rfl ?_); refine goesL_ (some 62) rfl rfl Try.func34 (by kernel_rfl) rfl #[.agg #[.slice Ao74 t486.length co74, .slice Ao77 t489.length co77]] rfl (by (try simp only [List.map_toArray, List.map_cons, List.map_nil]); first | done | rfl | (simp only [List.length_drop, List.length_take]; rfl)) ?_; (with_reducible refine (impl_MapDegrees.calls kj5 _ _ t486 _ _ t489 t494 true _ ?side1 ?side2 ?side3 ?side4 A29.out).mono ?_); (case side1 => refine (Kd.R_reads' (e := 3) (base := w.heap.size) (ok := fun k_ => (((((some k_ ≠ (.slice Ao77 t489.length co77 : Value).ownBlock ∧ some k_ ≠ (v473 : Value).ownBlock) ∧ some k_ ≠ (v477 : Value).ownBlock) ∧ some k_ ≠ (.slice Ao9 t465.length co9 : Value).ownBlock) ∧ some k_ ≠ (.slice Ao11 t468.length co11 : Value).ownBlock) ∧ some k_ ≠ (v483 : Value).ownBlock)) (n := t486.length) (c := co74) ?_).2.2; exact (by (with_reducible repeat (first | apply Kd.R_alloc | apply Kd.R_drewN | apply Kd.R_drew)); exact (Kd.R_mono (Kd.R_far (p := ⟨gb493, 1, none⟩) (Kd.R_far (p := ⟨gb493, 0, none⟩) (Kd.R_types HO488.out BK493.out (by decide)) (fun _ hk => hk.2) (.slice Ao74 t486.length co74)) (fun _ hk => hk.2) (.slice Ao77 t489.length co77)) (fun _ h_ => h_.1)))); (case side2 => exact (Kd.R_reads' HO488.out).2.1); (case side3 => refine (Kd.R_reads' (e := 3) (base := w.heap.size) (ok := fun k_ => (((((some k_ ≠ (.slice Ao74 t486.length co74 : Value).ownBlock ∧ some k_ ≠ (v473 : Value).ownBlock) ∧ some k_ ≠ (v477 : Value).ownBlock) ∧ some k_ ≠ (.slice Ao9 t465.length co9 : Value).ownBlock) ∧ some k_ ≠ (.slice Ao11 t468.length co11 : Value).ownBlock) ∧ some k_ ≠ (v483 : Value).ownBlock)) (n := t489.length) (c := co77) ?_).2.2; exact (by (with_reducible repeat (first | apply Kd.R_alloc | apply Kd.R_drewN | apply Kd.R_drew)); exact (Kd.R_mono (Kd.R_far (p := ⟨gb493, 1, none⟩) (Kd.R_far (p := ⟨gb493, 0, none⟩) (Kd.R_types HO491.out BK493.out (by decide)) (fun _ hk => hk.2) (.slice Ao74 t486.length co74)) (fun _ hk => hk.2) (.slice Ao77 t489.length co77)) (fun _ h_ => h_.1)))); (case side4 => exact (Kd.R_reads' HO491.out).2.1); rintro e w78 ⟨v495, rfl, ho0, hb⟩; refine ⟨_, rfl, ?_⟩; have n0 := Az (Kd.R_elder' (by (with_reducible repeat (first | apply Kd.R_alloc | apply Kd.R_drewN | apply Kd.R_drew)); exact (Kd.R_mono (Kd.R_far (p := ⟨gb493, 1, none⟩) (Kd.R_far (p := ⟨gb493, 0, none⟩) (Kd.R_types HO_4.out BK493.out (by decide)) (fun _ hk => hk.2) (.slice Ao74 t486.length co74)) (fun _ hk => hk.2) (.slice Ao77 t489.length co77)) (fun _ h_ => h_.1))) (Kd.R_base ho0) hb); have n1 := Az (Kd.R_elder' (by (with_reducible repeat (first | apply Kd.R_alloc | apply Kd.R_drewN | apply Kd.R_drew)); exact (Kd.R_mono (Kd.R_far (p := ⟨gb493, 1, none⟩) (Kd.R_far (p := ⟨gb493, 0, none⟩) (Kd.R_types HO_6.out BK493.out (by decide)) (fun _ hk => hk.2) (.slice Ao74 t486.length co74)) (fun _ hk => hk.2) (.slice Ao77 t489.length co77)) (fun _ h_ => h_.1))) (Kd.R_base ho0) hb); have n2 := Az (Kd.Q_elder' (by (with_reducible repeat (first | apply Kd.Q_alloc | apply Kd.Q_drewN | apply Kd.Q_drew)); exact (Kd.Q_mono (Kd.Q_far (p := ⟨gb493, 1, none⟩) (Kd.Q_far (p := ⟨gb493, 0, none⟩) (Kd.Q_types HO_Z0.out BK493.out (by decide)) (fun _ hk => hk.2) (.slice Ao74 t486.length co74)) (fun _ hk => hk.2) (.slice Ao77 t489.length co77)) (fun _ h_ => h_.1))) (Kd.R_base ho0) hb); have n3 := Az (Kd.R_elder' (by (with_reducible repeat (first | apply Kd.R_alloc | apply Kd.R_drewN | apply Kd.R_drew)); exact (Kd.R_mono (Kd.R_far (p := ⟨gb493, 1, none⟩) (Kd.R_far (p := ⟨gb493, 0, none⟩) (Kd.R_types HO_Z1.out BK493.out (by decide)) (fun _ hk => hk.2) (.slice Ao74 t486.length co74)) (fun _ hk => hk.2) (.slice Ao77 t489.length co77)) (fun _ h_ => h_.1))) (Kd.R_base ho0) hb); have n4 := Az (Kd.R_elder' (by (with_reducible repeat (first | apply Kd.R_alloc | apply Kd.R_drewN | apply Kd.R_drew)); exact (Kd.R_mono (Kd.R_far (p := ⟨gb493, 1, none⟩) (Kd.R_far (p := ⟨gb493, 0, none⟩) (Kd.R_types HO484.out BK493.out (by decide)) (fun _ hk => hk.2) (.slice Ao74 t486.length co74)) (fun _ hk => hk.2) (.slice Ao77 t489.length co77)) (fun _ h_ => h_.1))) (Kd.R_base ho0) hb); have n5 := Az (Kd.R_elder' (by (with_reducible repeat (first | apply Kd.R_alloc | apply Kd.R_drewN | apply Kd.R_drew)); exact (Kd.R_mono (Kd.R_far (p := ⟨gb493, 1, none⟩) (Kd.R_far (p := ⟨gb493, 0, none⟩) (Kd.R_types HO488.out BK493.out (by decide)) (fun _ hk => hk.2) (.slice Ao74 t486.length co74)) (fun _ hk => hk.2) (.slice Ao77 t489.length co77)) (fun _ h_ => h_.1))) (Kd.R_base ho0) hb); have n6 := Az (Kd.R_elder' (by (with_reducible repeat (first | apply Kd.R_alloc | apply Kd.R_drewN | apply Kd.R_drew)); exact (Kd.R_mono (Kd.R_far (p := ⟨gb493, 1, none⟩) (Kd.R_far (p := ⟨gb493, 0, none⟩) (Kd.R_types HO491.out BK493.out (by decide)) (fun _ hk => hk.2) (.slice Ao74 t486.length co74)) (fun _ hk => hk.2) (.slice Ao77 t489.length co77)) (fun _ h_ => h_.1))) (Kd.R_base ho0) hb); have n7 := Az (Kd.R_lower (Kd.R_new' (Kd.R_new' (Kd.R_new' (Kd.R_new' (Kd.R_new' (Kd.R_new' (Kd.R_new' ho0 (Kd.R_lt (by (with_reducible repeat (first | apply Kd.R_alloc | apply Kd.R_drewN | apply Kd.R_drew)); exact (Kd.R_mono (Kd.R_far (p := ⟨gb493, 1, none⟩) (Kd.R_far (p := ⟨gb493, 0, none⟩) (Kd.R_types HO_4.out BK493.out (by decide)) (fun _ hk => hk.2) (.slice Ao74 t486.length co74)) (fun _ hk => hk.2) (.slice Ao77 t489.length co77)) (fun _ h_ => h_.1))))) (Kd.R_lt (by (with_reducible repeat (first | apply Kd.R_alloc | apply Kd.R_drewN | apply Kd.R_drew)); exact (Kd.R_mono (Kd.R_far (p := ⟨gb493, 1, none⟩) (Kd.R_far (p := ⟨gb493, 0, none⟩) (Kd.R_types HO_6.out BK493.out (by decide)) (fun _ hk => hk.2) (.slice Ao74 t486.length co74)) (fun _ hk => hk.2) (.slice Ao77 t489.length co77)) (fun _ h_ => h_.1))))) (Kd.Q_lt (by (with_reducible repeat (first | apply Kd.Q_alloc | apply Kd.Q_drewN | apply Kd.Q_drew)); exact (Kd.Q_mono (Kd.Q_far (p := ⟨gb493, 1, none⟩) (Kd.Q_far (p := ⟨gb493, 0, none⟩) (Kd.Q_types HO_Z0.out BK493.out (by decide)) (fun _ hk => hk.2) (.slice Ao74 t486.length co74)) (fun _ hk => hk.2) (.slice Ao77 t489.length co77)) (fun _ h_ => h_.1))))) (Kd.R_lt (by (with_reducible repeat (first | apply Kd.R_alloc | apply Kd.R_drewN | apply Kd.R_drew)); exact (Kd.R_mono (Kd.R_far (p := ⟨gb493, 1, none⟩) (Kd.R_far (p := ⟨gb493, 0, none⟩) (Kd.R_types HO_Z1.out BK493.out (by decide)) (fun _ hk => hk.2) (.slice Ao74 t486.length co74)) (fun _ hk => hk.2) (.slice Ao77 t489.length co77)) (fun _ h_ => h_.1))))) (Kd.R_lt (by (with_reducible repeat (first | apply Kd.R_alloc | apply Kd.R_drewN | apply Kd.R_drew)); exact (Kd.R_mono (Kd.R_far (p := ⟨gb493, 1, none⟩) (Kd.R_far (p := ⟨gb493, 0, none⟩) (Kd.R_types HO484.out BK493.out (by decide)) (fun _ hk => hk.2) (.slice Ao74 t486.length co74)) (fun _ hk => hk.2) (.slice Ao77 t489.length co77)) (fun _ h_ => h_.1))))) (Kd.R_lt (by (with_reducible repeat (first | apply Kd.R_alloc | apply Kd.R_drewN | apply Kd.R_drew)); exact (Kd.R_mono (Kd.R_far (p := ⟨gb493, 1, none⟩) (Kd.R_far (p := ⟨gb493, 0, none⟩) (Kd.R_types HO488.out BK493.out (by decide)) (fun _ hk => hk.2) (.slice Ao74 t486.length co74)) (fun _ hk => hk.2) (.slice Ao77 t489.length co77)) (fun _ h_ => h_.1))))) (Kd.R_lt (by (with_reducible repeat (first | apply Kd.R_alloc | apply Kd.R_drewN | apply Kd.R_drew)); exact (Kd.R_mono (Kd.R_far (p := ⟨gb493, 1, none⟩) (Kd.R_far (p := ⟨gb493, 0, none⟩) (Kd.R_types HO491.out BK493.out (by decide)) (fun _ hk => hk.2) (.slice Ao74 t486.length co74)) (fun _ hk => hk.2) (.slice Ao77 t489.length co77)) (fun _ h_ => h_.1))))) (below_size (bU2 HB.out GE471.out GE493.out))); have n8 := Az (blk_below (g := gb471) (o := .cells #[.slice Ao9 t465.length co9, .slice Ao11 t468.length co11] 25 (0, 0)) (by (with_reducible repeat (first | refine blk_drewN ?_ _ | refine blk_drew ?_ | refine blk_alloc ?_ _)); refine blk_far ?_ NB471_493.out _; (with_reducible repeat (first | refine blk_drewN ?_ _ | refine blk_drew ?_ | refine blk_alloc ?_ _)); refine blk_far ?_ NB471_493.out _; (with_reducible repeat (first | refine blk_drewN ?_ _ | refine blk_drew ?_ | refine blk_alloc ?_ _)); exact BK471.out) hb); have n9 := Az (blk_below (g := gb493) (o := .cells #[.slice Ao74 t486.length co74, .slice Ao77 t489.length co77] 25 (0, 0)) (by (with_reducible repeat (first | refine blk_drewN ?_ _ | refine blk_drew ?_ | refine blk_alloc ?_ _)); refine blk_put (cs := #[.slice Ao74 t486.length co74, .slice none 0 0]) ?_ 1 _ rfl; (with_reducible repeat (first | refine blk_drewN ?_ _ | refine blk_drew ?_ | refine blk_alloc ?_ _)); refine blk_put (cs := #[.slice none 0 0, .slice none 0 0]) ?_ 0 _ rfl; (with_reducible repeat (first | refine blk_drewN ?_ _ | refine blk_drew ?_ | refine blk_alloc ?_ _)); exact BK493.out) hb); have n10 := Az (below_step (bU2 HB.out GE471.out GE493.out) hb); clear HO_4 HO_6 HO_Z0 HO_Z1 HO484 HO488 HO491 BK471 BK493 HB; have HO_4 := n0; have HO_6 := n1; have HO_Z0 := n2; have HO_Z1 := n3; have HO484 := n4; have HO488 := n5; have HO491 := n6; have HO496 := n7; have BK471 := n8; have BK493 := n9; have HB := n10; clear n0 n1 n2 n3 n4 n5 n6 n7 n8 n9 n10; (try clear hb); (try clear hb2); (try clear hk); (try clear hi); (try clear ho0)))
            have n0 := Az (Kd.R_drew HO_4.out); have n1 := Az (Kd.R_drew HO_6.out); have n2 := Az (Kd.Q_drew HO_Z0.out); have n3 := Az (Kd.R_drew HO_Z1.out); have n4 := Az (Kd.R_drew HO484.out); have n5 := Az (Kd.R_drew HO488.out); have n6 := Az (Kd.R_drew HO491.out); have n7 := Az (Kd.R_drew HO496.out); have n8 := Az (blk_drew BK471.out); have n9 := Az (blk_drew BK493.out); have n10 := Az (below_drew1 HB.out); clear HO_4 HO_6 HO_Z0 HO_Z1 HO484 HO488 HO491 HO496 BK471 BK493 HB; have HO_4 := n0; have HO_6 := n1; have HO_Z0 := n2; have HO_Z1 := n3; have HO484 := n4; have HO488 := n5; have HO491 := n6; have HO496 := n7; have BK471 := n8; have BK493 := n9; have HB := n10; clear n0 n1 n2 n3 n4 n5 n6 n7 n8 n9 n10; obtain ⟨Ao80, co80, eo80⟩ := Kd.R_slice HO484.out; (first | subst eo80 | (injection eo80 with f1_ f2_ f3_; have f4_ := f1_.symm; have f5_ := f3_.symm; clear f1_ f2_ f3_; subst f4_; subst f5_)); have p499 : 0 ≤ (1 : Int) := (by omega); have q499 : 1 < (t482.length : Int) := oA; obtain ⟨ad499, e499, hx499_0⟩ := Kd.at_int (Kd.R_reads' HO484.out).2.2 1 p499 q499
            cases e499
            (try simp only [show (1 : Int).toNat = 1 from rfl, Nat.reduceMul, Nat.reduceEqDiff, Go.Addr.add, ↓reduceIte] at hx499_0); have qi499 : (1 < t482.length) = True := eq_true (by omega); (try rw [show ((1 : Int)).toNat = 1 from rfl] at hx499_0); replace p499 := eq_true p499; replace q499 := eq_true q499; obtain ⟨Ao81, co81, eo81⟩ := Kd.R_slice HO_4.out; (first | subst eo81 | (injection eo81 with f1_ f2_ f3_; have f4_ := f1_.symm; have f5_ := f3_.symm; clear f1_ f2_ f3_; subst f4_; subst f5_)); have p500 : 0 ≤ (0 : Int) := (by omega); have q500 : 0 < (t482.length : Int) := oA; obtain ⟨ad500, e500, hx500_0⟩ := Kd.at_int (Kd.R_reads' HO484.out).2.2 0 p500 q500; obtain rfl : ad499 = ad500 := (by injection e500); have qi500 : (0 < t482.length) = True := eq_true (by omega); (try rw [show ((0 : Int)).toNat = 0 from rfl] at hx500_0); (try rw [Addr.add_zero'] at hx500_0); replace p500 := eq_true p500; replace q500 := eq_true q500
            refine start_ (n := 42) (S := fun w' => w'.cell? ⟨ad499.block, ad499.off + 1, none⟩ = some (.int .i64 (rd t482 1)) ∧ w'.cell? ad499 = some (.int .i64 (rd t482 0))) (ds := []) (laws_FnDegrees_up [(0, some 65), (1, some 66), (2, some 67), (3, some 68), (4, some 69), (5, some 70), (6, some 71), (7, some 72), (8, some 73), (10, some 75), (11, some 76), (12, some 77), (13, some 78), (9, some 74), (14, some 79), (15, some 80), (16, some 81), (17, some 82), (18, some 83), (19, some 84), (20, some 85), (21, some 86), (22, some 87), (23, some 88), (24, some 89), (25, some 90), (26, some 91), (27, some 92), (28, some 93), (29, some 94), (30, some 95), (31, some 96), (32, some 97), (33, some 98), (34, some 99), (35, some 100), (36, some 101), (37, some 102), (38, some 103), (39, some 104), (40, some 105), (41, some 2)] 42) (by kernel_rfl) rfl rfl ⟨hx499_0, hx500_0⟩ (fun hHeld => ?_); refine with_tabW laws_FnDegrees.tab11 laws_FnDegrees.bits11 (fun HT_ HW_ => ?_)
            generalize w78.drew = w79 at HO_4 HO_6 HO_Z0 HO_Z1 HO484 HO488 HO491 HO496 BK471 BK493 HB hx499_0 hx500_0 hHeld ⊢
            repeat (first | (refine laws_FnDegrees_uP rfl rfl (any_of HT_.out (by kernel_rfl)) (fun _ _ _ h => h) (by rfl) (v := ?_) (a' := ?_) ?_ ?_ ?_; rotate_left; (· intro w'; go_simp; with_reducible rfl); rotate_left; (· simp only [Act.put, List.setIfInBounds_toArray, List.set_cons_zero, List.set_cons_succ, i64_w, i32_w]; rfl)) | (refine laws_FnDegrees_uT rfl rfl (take_ofW HT_.out HW_.out (by kernel_rfl)) (fun _ _ _ h => h) (by rfl) (v := ?_) (a' := ?_) ?_ hHeld ?_ ?_; rotate_left; (· rintro w' ⟨s0, s1⟩; go_simp; with_reducible rfl); rotate_left; (· simp only [Act.put, List.setIfInBounds_toArray, List.set_cons_zero, List.set_cons_succ, i64_w, i32_w]; rfl)))
            refine laws_FnDegrees_uO rfl rfl (one_of HT_.out (by kernel_rfl)) (by decide) (fun K hK => ?_)
            refine goes_ Try.func37 (by kernel_rfl) rfl #[.slice Ao81 t472.length co81] (by rfl) rfl rfl (by (try simp only [List.map_toArray, List.map_cons, List.map_nil]); first | done | rfl | (simp only [List.length_drop, List.length_take]; rfl)) ?_
            with_reducible refine (laws_sumOf.calls kj5 _ _ t472 t498 _ ?side1 ?side2 A33.out).mono ?_
            (case side1 => exact cU ((Kd.R_reads' HO_4.out).2.2))
            (case side2 => exact (Kd.R_reads' HO_4.out).2.1)
            rintro e w' ⟨rfl, ⟨nd, rfl⟩⟩
            refine ⟨_, rfl, ?_⟩
            refine hK.out _ _ ⟨hHeld.1, hHeld.2⟩ (fun hHeld => ?_)
            clear hK K
            refine norm_ (a' := ?_) ?_ ?_
            rotate_left
            ·
             show Act.put _ (some 74) _ = _
             simp only [Act.put, List.setIfInBounds_toArray, List.set_cons_zero, List.set_cons_succ, i64_w, i32_w]
             rfl
            repeat (first | (refine laws_FnDegrees_uS rfl rfl (any_of HT_.out (by kernel_rfl)) (fun _ _ _ h => h) (by rfl) (a' := ?_) ?_ ?_; rotate_left; (· simp only [Act.put, List.setIfInBounds_toArray, List.set_cons_zero, List.set_cons_succ, i64_w, i32_w]; rfl)) | (refine laws_FnDegrees_uP rfl rfl (any_of HT_.out (by kernel_rfl)) (fun _ _ _ h => h) (by rfl) (v := ?_) (a' := ?_) ?_ ?_ ?_; rotate_left; (· intro w'; go_simp; with_reducible rfl); rotate_left; (· simp only [Act.put, List.setIfInBounds_toArray, List.set_cons_zero, List.set_cons_succ, i64_w, i32_w]; rfl)) | (refine laws_FnDegrees_uT rfl rfl (take_ofW HT_.out HW_.out (by kernel_rfl)) (fun _ _ _ h => h) (by rfl) (v := ?_) (a' := ?_) ?_ hHeld ?_ ?_; rotate_left; (· rintro w' ⟨s0, s1⟩; go_simp; with_reducible rfl); rotate_left; (· simp only [Act.put, List.setIfInBounds_toArray, List.set_cons_zero, List.set_cons_succ, i64_w, i32_w]; rfl)))
            refine done_ (done_of HT_.out (by kernel_rfl)) ?_
            try go_wp2
            go_ret
            exact ⟨rE, bU2 HB.out GE471.out GE493.out⟩
          ·
           rw [if_neg c36] at H
           exact absurd H (by simp)
         ·
          rw [if_neg c35] at H; have c35b0 := beq_eq_false_iff_ne.mpr c35; have c35b1 := bne_iff_ne.mpr c35; obtain rfl := Option.some.inj H; have hcz82_0 : wc.cell? ⟨gb471, 0, none⟩ = some (.slice Ao9 t465.length co9) := (blk_cell BK471.out 0).trans rfl; have hcz82_1 : wc.cell? ⟨gb471, 1, none⟩ = some (.slice Ao11 t468.length co11) := (blk_cell BK471.out 1).trans rfl; have hfz82_0 := blk_frozen BK471.out 0; have hfz82_1 := blk_frozen BK471.out 1
          try go_wp2_with (first | ((with_reducible refine gate_callee (f := 16) rfl ?_); refine goesL_ (some 52) rfl rfl Try.func16 (by kernel_rfl) rfl #[.agg #[.slice Ao9 t465.length co9, .slice Ao11 t468.length co11]] rfl (by (try simp only [List.map_toArray, List.map_cons, List.map_nil]); first | done | rfl | (simp only [List.length_drop, List.length_take]; rfl)) ?_; (with_reducible refine (impl_MapCounts.calls kj5 _ _ t465 _ _ t468 t482 true _ ?side1 ?side2 ?side3 ?side4 A27.out).mono ?_); (case side1 => exact cU ((Kd.Q_reads' HO_Z0.out).2.2)); (case side2 => exact (Kd.Q_reads' HO_Z0.out).2.1); (case side3 => exact cU ((Kd.R_reads' HO_Z1.out).2.2)); (case side4 => exact (Kd.R_reads' HO_Z1.out).2.1); rintro e w83 ⟨v483, rfl, ho0, hb⟩; refine ⟨_, rfl, ?_⟩; have n0 := Az (Kd.R_elder' (rU HO_4.out) (Kd.R_base ho0) hb); have n1 := Az (Kd.R_elder' (rU HO_6.out) (Kd.R_base ho0) hb); have n2 := Az (Kd.Q_elder' (qU HO_Z0.out) (Kd.R_base ho0) hb); have n3 := Az (Kd.R_elder' (rU HO_Z1.out) (Kd.R_base ho0) hb); have n4 := Az (Kd.R_lower (Kd.R_new' (Kd.R_new' (Kd.R_new' (Kd.R_new' ho0 (Kd.R_lt (rU HO_4.out))) (Kd.R_lt (rU HO_6.out))) (Kd.Q_lt (qU HO_Z0.out))) (Kd.R_lt (rU HO_Z1.out))) (below_size (bU1 HB.out GE471.out))); have n5 := Az (blk_below (g := gb471) (o := .cells #[.slice Ao9 t465.length co9, .slice Ao11 t468.length co11] 25 (0, 0)) (kU BK471.out) hb); have n6 := Az (below_step (bU1 HB.out GE471.out) hb); clear HO_4 HO_6 HO_Z0 HO_Z1 BK471 HB; have HO_4 := n0; have HO_6 := n1; have HO_Z0 := n2; have HO_Z1 := n3; have HO484 := n4; have BK471 := n5; have HB := n6; clear n0 n1 n2 n3 n4 n5 n6; (try clear hb); (try clear hb2); (try clear hk); (try clear hi); (try clear ho0); have hcz84_0 : w83.cell? ⟨gb471, 0, none⟩ = some (.slice Ao9 t465.length co9) := (blk_cell BK471.out 0).trans rfl; have hcz84_1 : w83.cell? ⟨gb471, 1, none⟩ = some (.slice Ao11 t468.length co11) := (blk_cell BK471.out 1).trans rfl; have hfz84_0 := blk_frozen BK471.out 0; have hfz84_1 := blk_frozen BK471.out 1) | ((with_reducible refine gate_callee (f := 17) rfl ?_); refine goesL_ (some 57) rfl rfl Try.func17 (by kernel_rfl) rfl #[.agg #[.slice Ao9 t465.length co9, .slice Ao11 t468.length co11]] rfl (by (try simp only [List.map_toArray, List.map_cons, List.map_nil]); first | done | rfl | (simp only [List.length_drop, List.length_take]; rfl)) ?_; (with_reducible refine (impl_MapDual.calls kj5 _ _ t465 _ _ t468 t486 t489 true _ ?side1 ?side2 ?side3 ?side4 A28.out).mono ?_); (case side1 => exact cU ((Kd.Q_reads' HO_Z0.out).2.2)); (case side2 => exact (Kd.Q_reads' HO_Z0.out).2.1); (case side3 => exact cU ((Kd.R_reads' HO_Z1.out).2.2)); (case side4 => exact (Kd.R_reads' HO_Z1.out).2.1); rintro e w85 ⟨v487, v490, rfl, ho0, ho1, hb⟩; refine ⟨_, rfl, ?_⟩; have n0 := Az (Kd.R_mono (Kd.R_told (Kd.R_told (Kd.R_old (rU HO_4.out) hb) (Kd.R_base ho0)) (Kd.R_base ho1)) (fun _ h_ => h_.1)); have n1 := Az (Kd.R_mono (Kd.R_told (Kd.R_told (Kd.R_old (rU HO_6.out) hb) (Kd.R_base ho0)) (Kd.R_base ho1)) (fun _ h_ => h_.1)); have n2 := Az (Kd.Q_mono (Kd.Q_told (Kd.Q_told (Kd.Q_old (qU HO_Z0.out) hb) (Kd.R_base ho0)) (Kd.R_base ho1)) (fun _ h_ => h_.1)); have n3 := Az (Kd.R_mono (Kd.R_told (Kd.R_told (Kd.R_old (rU HO_Z1.out) hb) (Kd.R_base ho0)) (Kd.R_base ho1)) (fun _ h_ => h_.1)); have n4 := Az (Kd.R_mono (Kd.R_told (Kd.R_told (Kd.R_old (rU HO484.out) hb) (Kd.R_base ho0)) (Kd.R_base ho1)) (fun _ h_ => h_.1)); have n5 := Az (Kd.R_lower (Kd.R_new' (Kd.R_new' (Kd.R_new' (Kd.R_new' (Kd.R_new' ho0 (Kd.R_lt (rU HO_4.out))) (Kd.R_lt (rU HO_6.out))) (Kd.Q_lt (qU HO_Z0.out))) (Kd.R_lt (rU HO_Z1.out))) (Kd.R_lt (rU HO484.out))) (below_size (bU1 HB.out GE471.out))); have n6 := Az (Kd.R_lower (Kd.R_new' (Kd.R_new' (Kd.R_new' (Kd.R_new' (Kd.R_new' ho1 (Kd.R_lt (rU HO_4.out))) (Kd.R_lt (rU HO_6.out))) (Kd.Q_lt (qU HO_Z0.out))) (Kd.R_lt (rU HO_Z1.out))) (Kd.R_lt (rU HO484.out))) (below_size (bU1 HB.out GE471.out))); have n7 := Az (blk_below (g := gb471) (o := .cells #[.slice Ao9 t465.length co9, .slice Ao11 t468.length co11] 25 (0, 0)) (kU BK471.out) hb); have n8 := Az (below_step (bU1 HB.out GE471.out) hb); clear HO_4 HO_6 HO_Z0 HO_Z1 HO484 BK471 HB; have HO_4 := n0; have HO_6 := n1; have HO_Z0 := n2; have HO_Z1 := n3; have HO484 := n4; have HO488 := n5; have HO491 := n6; have BK471 := n7; have HB := n8; clear n0 n1 n2 n3 n4 n5 n6 n7 n8; (try clear hb); (try clear hb2); (try clear hk); (try clear hi); (try clear ho0); (try clear ho1)) | ((with_reducible refine gate_dst (N := 10) rfl ?_); (try (refine gate_guard (by rfl) ?_; dsimp only)); refine box_event ?hg (N := 10) ?hd (cs := #[.slice none 0 0, .slice none 0 0]) (t := 25) ?hr ?_; (case hd => rfl); (case hg => rfl); (case hr => first | (go_simp; done) | (go_simp; rfl)); intro gb493 hg w86 hbox hb; have n0 := Az (Kd.R_below (rU HO_4.out) hb); have n1 := Az (Kd.R_below (rU HO_6.out) hb); have n2 := Az (Kd.Q_below (qU HO_Z0.out) hb); have n3 := Az (Kd.R_below (rU HO_Z1.out) hb); have n4 := Az (Kd.R_below (rU HO484.out) hb); have n5 := Az (Kd.R_below (rU HO488.out) hb); have n6 := Az (Kd.R_below (rU HO491.out) hb); have n7 := Az (blk_below (g := gb471) (o := .cells #[.slice Ao9 t465.length co9, .slice Ao11 t468.length co11] 25 (0, 0)) (kU BK471.out) hb); have n8 := Az (below_step (bU1 HB.out GE471.out) hb); have n9 := Az (hbox); have n10 := Az ((by rw [hg]; exact (below_size (bU1 HB.out GE471.out)) : w.heap.size ≤ gb493)); have n11 := n10; have n12 := Az ((by rw [hg]; exact Nat.ne_of_lt (blk_lt (g := gb471) (o := .cells #[.slice Ao9 t465.length co9, .slice Ao11 t468.length co11] 25 (0, 0)) (kU BK471.out)) : gb471 ≠ gb493)); have n13 := Az ((by rw [hg]; exact Nat.ne_of_gt (blk_lt (g := gb471) (o := .cells #[.slice Ao9 t465.length co9, .slice Ao11 t468.length co11] 25 (0, 0)) (kU BK471.out)) : gb493 ≠ gb471)); clear HO_4 HO_6 HO_Z0 HO_Z1 HO484 HO488 HO491 BK471 HB; have HO_4 := n0; have HO_6 := n1; have HO_Z0 := n2; have HO_Z1 := n3; have HO484 := n4; have HO488 := n5; have HO491 := n6; have BK471 := n7; have HB := n8; have BK493 := n9; have GW493 := n10; have GE493 := n11; have NB471_493 := n12; have NB493_471 := n13; clear n0 n1 n2 n3 n4 n5 n6 n7 n8 n9 n10 n11 n12 n13 hb hbox hg; obtain ⟨Ao87, co87, eo87⟩ := Kd.R_slice HO488.out; subst eo87; have hnb88 := NB493_471.out; have hnc88 := NB471_493.out; have hcz89_0 : w86.cell? ⟨gb493, 0, none⟩ = some (.slice none 0 0) := (blk_cell BK493.out 0).trans rfl; have hcz89_1 : w86.cell? ⟨gb493, 1, none⟩ = some (.slice none 0 0) := (blk_cell BK493.out 1).trans rfl; have hfz89_0 := blk_frozen BK493.out 0; have hfz89_1 := blk_frozen BK493.out 1; obtain ⟨Ao90, co90, eo90⟩ := Kd.R_slice HO491.out; subst eo90) | ((with_reducible refine gate_callee (f := 34) rfl ?_); refine goesL_ (some 62) rfl rfl Try.func34 (by kernel_rfl) rfl #[.agg #[.slice Ao87 t486.length co87, .slice Ao90 t489.length co90]] rfl (by (try simp only [List.map_toArray, List.map_cons, List.map_nil]); first | done | rfl | (simp only [List.length_drop, List.length_take]; rfl)) ?_; (with_reducible refine (impl_MapDegrees.calls kj5 _ _ t486 _ _ t489 t494 true _ ?side1 ?side2 ?side3 ?side4 A29.out).mono ?_); (case side1 => refine (Kd.R_reads' (e := 3) (base := w.heap.size) (ok := fun k_ => (((((some k_ ≠ (.slice Ao90 t489.length co90 : Value).ownBlock ∧ some k_ ≠ (v473 : Value).ownBlock) ∧ some k_ ≠ (v477 : Value).ownBlock) ∧ some k_ ≠ (.slice Ao9 t465.length co9 : Value).ownBlock) ∧ some k_ ≠ (.slice Ao11 t468.length co11 : Value).ownBlock) ∧ some k_ ≠ (v483 : Value).ownBlock)) (n := t486.length) (c := co87) ?_).2.2; exact (by (with_reducible repeat (first | apply Kd.R_alloc | apply Kd.R_drewN | apply Kd.R_drew)); exact (Kd.R_mono (Kd.R_far (p := ⟨gb493, 1, none⟩) (Kd.R_far (p := ⟨gb493, 0, none⟩) (Kd.R_types HO488.out BK493.out (by decide)) (fun _ hk => hk.2) (.slice Ao87 t486.length co87)) (fun _ hk => hk.2) (.slice Ao90 t489.length co90)) (fun _ h_ => h_.1)))); (case side2 => exact (Kd.R_reads' HO488.out).2.1); (case side3 => refine (Kd.R_reads' (e := 3) (base := w.heap.size) (ok := fun k_ => (((((some k_ ≠ (.slice Ao87 t486.length co87 : Value).ownBlock ∧ some k_ ≠ (v473 : Value).ownBlock) ∧ some k_ ≠ (v477 : Value).ownBlock) ∧ some k_ ≠ (.slice Ao9 t465.length co9 : Value).ownBlock) ∧ some k_ ≠ (.slice Ao11 t468.length co11 : Value).ownBlock) ∧ some k_ ≠ (v483 : Value).ownBlock)) (n := t489.length) (c := co90) ?_).2.2; exact (by (with_reducible repeat (first | apply Kd.R_alloc | apply Kd.R_drewN | apply Kd.R_drew)); exact (Kd.R_mono (Kd.R_far (p := ⟨gb493, 1, none⟩) (Kd.R_far (p := ⟨gb493, 0, none⟩) (Kd.R_types HO491.out BK493.out (by decide)) (fun _ hk => hk.2) (.slice Ao87 t486.length co87)) (fun _ hk => hk.2) (.slice Ao90 t489.length co90)) (fun _ h_ => h_.1)))); (case side4 => exact (Kd.R_reads' HO491.out).2.1); rintro e w91 ⟨v495, rfl, ho0, hb⟩; refine ⟨_, rfl, ?_⟩; have n0 := Az (Kd.R_elder' (by (with_reducible repeat (first | apply Kd.R_alloc | apply Kd.R_drewN | apply Kd.R_drew)); exact (Kd.R_mono (Kd.R_far (p := ⟨gb493, 1, none⟩) (Kd.R_far (p := ⟨gb493, 0, none⟩) (Kd.R_types HO_4.out BK493.out (by decide)) (fun _ hk => hk.2) (.slice Ao87 t486.length co87)) (fun _ hk => hk.2) (.slice Ao90 t489.length co90)) (fun _ h_ => h_.1))) (Kd.R_base ho0) hb); have n1 := Az (Kd.R_elder' (by (with_reducible repeat (first | apply Kd.R_alloc | apply Kd.R_drewN | apply Kd.R_drew)); exact (Kd.R_mono (Kd.R_far (p := ⟨gb493, 1, none⟩) (Kd.R_far (p := ⟨gb493, 0, none⟩) (Kd.R_types HO_6.out BK493.out (by decide)) (fun _ hk => hk.2) (.slice Ao87 t486.length co87)) (fun _ hk => hk.2) (.slice Ao90 t489.length co90)) (fun _ h_ => h_.1))) (Kd.R_base ho0) hb); have n2 := Az (Kd.Q_elder' (by (with_reducible repeat (first | apply Kd.Q_alloc | apply Kd.Q_drewN | apply Kd.Q_drew)); exact (Kd.Q_mono (Kd.Q_far (p := ⟨gb493, 1, none⟩) (Kd.Q_far (p := ⟨gb493, 0, none⟩) (Kd.Q_types HO_Z0.out BK493.out (by decide)) (fun _ hk => hk.2) (.slice Ao87 t486.length co87)) (fun _ hk => hk.2) (.slice Ao90 t489.length co90)) (fun _ h_ => h_.1))) (Kd.R_base ho0) hb); have n3 := Az (Kd.R_elder' (by (with_reducible repeat (first | apply Kd.R_alloc | apply Kd.R_drewN | apply Kd.R_drew)); exact (Kd.R_mono (Kd.R_far (p := ⟨gb493, 1, none⟩) (Kd.R_far (p := ⟨gb493, 0, none⟩) (Kd.R_types HO_Z1.out BK493.out (by decide)) (fun _ hk => hk.2) (.slice Ao87 t486.length co87)) (fun _ hk => hk.2) (.slice Ao90 t489.length co90)) (fun _ h_ => h_.1))) (Kd.R_base ho0) hb); have n4 := Az (Kd.R_elder' (by (with_reducible repeat (first | apply Kd.R_alloc | apply Kd.R_drewN | apply Kd.R_drew)); exact (Kd.R_mono (Kd.R_far (p := ⟨gb493, 1, none⟩) (Kd.R_far (p := ⟨gb493, 0, none⟩) (Kd.R_types HO484.out BK493.out (by decide)) (fun _ hk => hk.2) (.slice Ao87 t486.length co87)) (fun _ hk => hk.2) (.slice Ao90 t489.length co90)) (fun _ h_ => h_.1))) (Kd.R_base ho0) hb); have n5 := Az (Kd.R_elder' (by (with_reducible repeat (first | apply Kd.R_alloc | apply Kd.R_drewN | apply Kd.R_drew)); exact (Kd.R_mono (Kd.R_far (p := ⟨gb493, 1, none⟩) (Kd.R_far (p := ⟨gb493, 0, none⟩) (Kd.R_types HO488.out BK493.out (by decide)) (fun _ hk => hk.2) (.slice Ao87 t486.length co87)) (fun _ hk => hk.2) (.slice Ao90 t489.length co90)) (fun _ h_ => h_.1))) (Kd.R_base ho0) hb); have n6 := Az (Kd.R_elder' (by (with_reducible repeat (first | apply Kd.R_alloc | apply Kd.R_drewN | apply Kd.R_drew)); exact (Kd.R_mono (Kd.R_far (p := ⟨gb493, 1, none⟩) (Kd.R_far (p := ⟨gb493, 0, none⟩) (Kd.R_types HO491.out BK493.out (by decide)) (fun _ hk => hk.2) (.slice Ao87 t486.length co87)) (fun _ hk => hk.2) (.slice Ao90 t489.length co90)) (fun _ h_ => h_.1))) (Kd.R_base ho0) hb); have n7 := Az (Kd.R_lower (Kd.R_new' (Kd.R_new' (Kd.R_new' (Kd.R_new' (Kd.R_new' (Kd.R_new' (Kd.R_new' ho0 (Kd.R_lt (by (with_reducible repeat (first | apply Kd.R_alloc | apply Kd.R_drewN | apply Kd.R_drew)); exact (Kd.R_mono (Kd.R_far (p := ⟨gb493, 1, none⟩) (Kd.R_far (p := ⟨gb493, 0, none⟩) (Kd.R_types HO_4.out BK493.out (by decide)) (fun _ hk => hk.2) (.slice Ao87 t486.length co87)) (fun _ hk => hk.2) (.slice Ao90 t489.length co90)) (fun _ h_ => h_.1))))) (Kd.R_lt (by (with_reducible repeat (first | apply Kd.R_alloc | apply Kd.R_drewN | apply Kd.R_drew)); exact (Kd.R_mono (Kd.R_far (p := ⟨gb493, 1, none⟩) (Kd.R_far (p := ⟨gb493, 0, none⟩) (Kd.R_types HO_6.out BK493.out (by decide)) (fun _ hk => hk.2) (.slice Ao87 t486.length co87)) (fun _ hk => hk.2) (.slice Ao90 t489.length co90)) (fun _ h_ => h_.1))))) (Kd.Q_lt (by (with_reducible repeat (first | apply Kd.Q_alloc | apply Kd.Q_drewN | apply Kd.Q_drew)); exact (Kd.Q_mono (Kd.Q_far (p := ⟨gb493, 1, none⟩) (Kd.Q_far (p := ⟨gb493, 0, none⟩) (Kd.Q_types HO_Z0.out BK493.out (by decide)) (fun _ hk => hk.2) (.slice Ao87 t486.length co87)) (fun _ hk => hk.2) (.slice Ao90 t489.length co90)) (fun _ h_ => h_.1))))) (Kd.R_lt (by (with_reducible repeat (first | apply Kd.R_alloc | apply Kd.R_drewN | apply Kd.R_drew)); exact (Kd.R_mono (Kd.R_far (p := ⟨gb493, 1, none⟩) (Kd.R_far (p := ⟨gb493, 0, none⟩) (Kd.R_types HO_Z1.out BK493.out (by decide)) (fun _ hk => hk.2) (.slice Ao87 t486.length co87)) (fun _ hk => hk.2) (.slice Ao90 t489.length co90)) (fun _ h_ => h_.1))))) (Kd.R_lt (by (with_reducible repeat (first | apply Kd.R_alloc | apply Kd.R_drewN | apply Kd.R_drew)); exact (Kd.R_mono (Kd.R_far (p := ⟨gb493, 1, none⟩) (Kd.R_far (p := ⟨gb493, 0, none⟩) (Kd.R_types HO484.out BK493.out (by decide)) (fun _ hk => hk.2) (.slice Ao87 t486.length co87)) (fun _ hk => hk.2) (.slice Ao90 t489.length co90)) (fun _ h_ => h_.1))))) (Kd.R_lt (by (with_reducible repeat (first | apply Kd.R_alloc | apply Kd.R_drewN | apply Kd.R_drew)); exact (Kd.R_mono (Kd.R_far (p := ⟨gb493, 1, none⟩) (Kd.R_far (p := ⟨gb493, 0, none⟩) (Kd.R_types HO488.out BK493.out (by decide)) (fun _ hk => hk.2) (.slice Ao87 t486.length co87)) (fun _ hk => hk.2) (.slice Ao90 t489.length co90)) (fun _ h_ => h_.1))))) (Kd.R_lt (by (with_reducible repeat (first | apply Kd.R_alloc | apply Kd.R_drewN | apply Kd.R_drew)); exact (Kd.R_mono (Kd.R_far (p := ⟨gb493, 1, none⟩) (Kd.R_far (p := ⟨gb493, 0, none⟩) (Kd.R_types HO491.out BK493.out (by decide)) (fun _ hk => hk.2) (.slice Ao87 t486.length co87)) (fun _ hk => hk.2) (.slice Ao90 t489.length co90)) (fun _ h_ => h_.1))))) (below_size (bU2 HB.out GE471.out GE493.out))); have n8 := Az (blk_below (g := gb471) (o := .cells #[.slice Ao9 t465.length co9, .slice Ao11 t468.length co11] 25 (0, 0)) (by (with_reducible repeat (first | refine blk_drewN ?_ _ | refine blk_drew ?_ | refine blk_alloc ?_ _)); refine blk_far ?_ NB471_493.out _; (with_reducible repeat (first | refine blk_drewN ?_ _ | refine blk_drew ?_ | refine blk_alloc ?_ _)); refine blk_far ?_ NB471_493.out _; (with_reducible repeat (first | refine blk_drewN ?_ _ | refine blk_drew ?_ | refine blk_alloc ?_ _)); exact BK471.out) hb); have n9 := Az (blk_below (g := gb493) (o := .cells #[.slice Ao87 t486.length co87, .slice Ao90 t489.length co90] 25 (0, 0)) (by (with_reducible repeat (first | refine blk_drewN ?_ _ | refine blk_drew ?_ | refine blk_alloc ?_ _)); refine blk_put (cs := #[.slice Ao87 t486.length co87, .slice none 0 0]) ?_ 1 _ rfl; (with_reducible repeat (first | refine blk_drewN ?_ _ | refine blk_drew ?_ | refine blk_alloc ?_ _)); refine blk_put (cs := #[.slice none 0 0, .slice none 0 0]) ?_ 0 _ rfl; (with_reducible repeat (first | refine blk_drewN ?_ _ | refine blk_drew ?_ | refine blk_alloc ?_ _)); exact BK493.out) hb); have n10 := Az (below_step (bU2 HB.out GE471.out GE493.out) hb); clear HO_4 HO_6 HO_Z0 HO_Z1 HO484 HO488 HO491 BK471 BK493 HB; have HO_4 := n0; have HO_6 := n1; have HO_Z0 := n2; have HO_Z1 := n3; have HO484 := n4; have HO488 := n5; have HO491 := n6; have HO496 := n7; have BK471 := n8; have BK493 := n9; have HB := n10; clear n0 n1 n2 n3 n4 n5 n6 n7 n8 n9 n10; (try clear hb); (try clear hb2); (try clear hk); (try clear hi); (try clear ho0)))
          have n0 := Az (Kd.R_drew HO_4.out); have n1 := Az (Kd.R_drew HO_6.out); have n2 := Az (Kd.Q_drew HO_Z0.out); have n3 := Az (Kd.R_drew HO_Z1.out); have n4 := Az (Kd.R_drew HO484.out); have n5 := Az (Kd.R_drew HO488.out); have n6 := Az (Kd.R_drew HO491.out); have n7 := Az (Kd.R_drew HO496.out); have n8 := Az (blk_drew BK471.out); have n9 := Az (blk_drew BK493.out); have n10 := Az (below_drew1 HB.out); clear HO_4 HO_6 HO_Z0 HO_Z1 HO484 HO488 HO491 HO496 BK471 BK493 HB; have HO_4 := n0; have HO_6 := n1; have HO_Z0 := n2; have HO_Z1 := n3; have HO484 := n4; have HO488 := n5; have HO491 := n6; have HO496 := n7; have BK471 := n8; have BK493 := n9; have HB := n10; clear n0 n1 n2 n3 n4 n5 n6 n7 n8 n9 n10; obtain ⟨Ao93, co93, eo93⟩ := Kd.R_slice HO484.out; (first | subst eo93 | (injection eo93 with f1_ f2_ f3_; have f4_ := f1_.symm; have f5_ := f3_.symm; clear f1_ f2_ f3_; subst f4_; subst f5_)); have p499 : 0 ≤ (1 : Int) := (by omega); have q499 : 1 < (t482.length : Int) := oA; obtain ⟨ad499, e499, hx499_0⟩ := Kd.at_int (Kd.R_reads' HO484.out).2.2 1 p499 q499
          cases e499
          (try simp only [show (1 : Int).toNat = 1 from rfl, Nat.reduceMul, Nat.reduceEqDiff, Go.Addr.add, ↓reduceIte] at hx499_0); have qi499 : (1 < t482.length) = True := eq_true (by omega); (try rw [show ((1 : Int)).toNat = 1 from rfl] at hx499_0); replace p499 := eq_true p499; replace q499 := eq_true q499; obtain ⟨Ao94, co94, eo94⟩ := Kd.R_slice HO_4.out; (first | subst eo94 | (injection eo94 with f1_ f2_ f3_; have f4_ := f1_.symm; have f5_ := f3_.symm; clear f1_ f2_ f3_; subst f4_; subst f5_))
          refine start_ (n := 42) (S := fun w' => w'.cell? ⟨ad499.block, ad499.off + 1, none⟩ = some (.int .i64 (rd t482 1))) (ds := []) (laws_FnDegrees_up [(0, some 65), (1, some 66), (2, some 67), (3, some 68), (4, some 69), (5, some 70), (6, some 71), (7, some 72), (8, some 73), (10, some 75), (11, some 76), (12, some 77), (13, some 78), (9, some 74), (14, some 79), (15, some 80), (16, some 81), (17, some 82), (18, some 83), (19, some 84), (20, some 85), (21, some 86), (22, some 87), (23, some 88), (24, some 89), (25, some 90), (26, some 91), (27, some 92), (28, some 93), (29, some 94), (30, some 95), (31, some 96), (32, some 97), (33, some 98), (34, some 99), (35, some 100), (36, some 101), (37, some 102), (38, some 103), (39, some 104), (40, some 105), (41, some 2)] 42) (by kernel_rfl) rfl rfl (hx499_0) (fun hHeld => ?_); refine with_tabW laws_FnDegrees.tab11 laws_FnDegrees.bits11 (fun HT_ HW_ => ?_)
          generalize w91.drew = w92 at HO_4 HO_6 HO_Z0 HO_Z1 HO484 HO488 HO491 HO496 BK471 BK493 HB hx499_0 hHeld ⊢
          repeat (first | (refine laws_FnDegrees_uP rfl rfl (any_of HT_.out (by kernel_rfl)) (fun _ _ _ h => h) (by rfl) (v := ?_) (a' := ?_) ?_ ?_ ?_; rotate_left; (· intro w'; go_simp; with_reducible rfl); rotate_left; (· simp only [Act.put, List.setIfInBounds_toArray, List.set_cons_zero, List.set_cons_succ, i64_w, i32_w]; rfl)) | (refine laws_FnDegrees_uT rfl rfl (take_ofW HT_.out HW_.out (by kernel_rfl)) (fun _ _ _ h => h) (by rfl) (v := ?_) (a' := ?_) ?_ hHeld ?_ ?_; rotate_left; (· intro w' s0; go_simp; with_reducible rfl); rotate_left; (· simp only [Act.put, List.setIfInBounds_toArray, List.set_cons_zero, List.set_cons_succ, i64_w, i32_w]; rfl)))
          refine laws_FnDegrees_uO rfl rfl (one_of HT_.out (by kernel_rfl)) (by decide) (fun K hK => ?_)
          refine goes_ Try.func37 (by kernel_rfl) rfl #[.slice Ao94 t472.length co94] (by rfl) rfl rfl (by (try simp only [List.map_toArray, List.map_cons, List.map_nil]); first | done | rfl | (simp only [List.length_drop, List.length_take]; rfl)) ?_
          with_reducible refine (laws_sumOf.calls kj5 _ _ t472 t498 _ ?side1 ?side2 A33.out).mono ?_
          (case side1 => exact cU ((Kd.R_reads' HO_4.out).2.2))
          (case side2 => exact (Kd.R_reads' HO_4.out).2.1)
          rintro e w' ⟨rfl, ⟨nd, rfl⟩⟩
          refine ⟨_, rfl, ?_⟩
          refine hK.out _ _ (hHeld) (fun hHeld => ?_)
          clear hK K
          refine norm_ (a' := ?_) ?_ ?_
          rotate_left
          ·
           show Act.put _ (some 74) _ = _
           simp only [Act.put, List.setIfInBounds_toArray, List.set_cons_zero, List.set_cons_succ, i64_w, i32_w]
           rfl
          repeat (first | (refine laws_FnDegrees_uS rfl rfl (any_of HT_.out (by kernel_rfl)) (fun _ _ _ h => h) (by rfl) (a' := ?_) ?_ ?_; rotate_left; (· simp only [Act.put, List.setIfInBounds_toArray, List.set_cons_zero, List.set_cons_succ, i64_w, i32_w]; rfl)) | (refine laws_FnDegrees_uP rfl rfl (any_of HT_.out (by kernel_rfl)) (fun _ _ _ h => h) (by rfl) (v := ?_) (a' := ?_) ?_ ?_ ?_; rotate_left; (· intro w'; go_simp; with_reducible rfl); rotate_left; (· simp only [Act.put, List.setIfInBounds_toArray, List.set_cons_zero, List.set_cons_succ, i64_w, i32_w]; rfl)))
          refine done_ (done_of HT_.out (by kernel_rfl)) ?_
          try go_wp2
          go_ret
          exact ⟨rE, bU2 HB.out GE471.out GE493.out⟩
        ·
         rw [if_neg c34] at H
         exact absurd H (by simp)
       ·
        replace c32 := Bool.eq_false_iff.mpr c32; subst c32
        have H1 : (some false) = some r := by rw [if_neg (show ¬ (false = true) by decide)] at H; exact H
        clear H; have H := H1; clear H1; obtain rfl := Option.some.inj H; have hcz95_0 : wc.cell? ⟨gb471, 0, none⟩ = some (.slice Ao9 t465.length co9) := (blk_cell BK471.out 0).trans rfl; have hcz95_1 : wc.cell? ⟨gb471, 1, none⟩ = some (.slice Ao11 t468.length co11) := (blk_cell BK471.out 1).trans rfl; have hfz95_0 := blk_frozen BK471.out 0; have hfz95_1 := blk_frozen BK471.out 1
        try go_wp2_with (first | ((with_reducible refine gate_callee (f := 16) rfl ?_); refine goesL_ (some 52) rfl rfl Try.func16 (by kernel_rfl) rfl #[.agg #[.slice Ao9 t465.length co9, .slice Ao11 t468.length co11]] rfl (by (try simp only [List.map_toArray, List.map_cons, List.map_nil]); first | done | rfl | (simp only [List.length_drop, List.length_take]; rfl)) ?_; (with_reducible refine (impl_MapCounts.calls kj5 _ _ t465 _ _ t468 t482 true _ ?side1 ?side2 ?side3 ?side4 A27.out).mono ?_); (case side1 => exact cU ((Kd.Q_reads' HO_Z0.out).2.2)); (case side2 => exact (Kd.Q_reads' HO_Z0.out).2.1); (case side3 => exact cU ((Kd.R_reads' HO_Z1.out).2.2)); (case side4 => exact (Kd.R_reads' HO_Z1.out).2.1); rintro e w96 ⟨v483, rfl, ho0, hb⟩; refine ⟨_, rfl, ?_⟩; have n0 := Az (Kd.R_elder' (rU HO_4.out) (Kd.R_base ho0) hb); have n1 := Az (Kd.R_elder' (rU HO_6.out) (Kd.R_base ho0) hb); have n2 := Az (Kd.Q_elder' (qU HO_Z0.out) (Kd.R_base ho0) hb); have n3 := Az (Kd.R_elder' (rU HO_Z1.out) (Kd.R_base ho0) hb); have n4 := Az (Kd.R_lower (Kd.R_new' (Kd.R_new' (Kd.R_new' (Kd.R_new' ho0 (Kd.R_lt (rU HO_4.out))) (Kd.R_lt (rU HO_6.out))) (Kd.Q_lt (qU HO_Z0.out))) (Kd.R_lt (rU HO_Z1.out))) (below_size (bU1 HB.out GE471.out))); have n5 := Az (blk_below (g := gb471) (o := .cells #[.slice Ao9 t465.length co9, .slice Ao11 t468.length co11] 25 (0, 0)) (kU BK471.out) hb); have n6 := Az (below_step (bU1 HB.out GE471.out) hb); clear HO_4 HO_6 HO_Z0 HO_Z1 BK471 HB; have HO_4 := n0; have HO_6 := n1; have HO_Z0 := n2; have HO_Z1 := n3; have HO484 := n4; have BK471 := n5; have HB := n6; clear n0 n1 n2 n3 n4 n5 n6; (try clear hb); (try clear hb2); (try clear hk); (try clear hi); (try clear ho0); have hcz97_0 : w96.cell? ⟨gb471, 0, none⟩ = some (.slice Ao9 t465.length co9) := (blk_cell BK471.out 0).trans rfl; have hcz97_1 : w96.cell? ⟨gb471, 1, none⟩ = some (.slice Ao11 t468.length co11) := (blk_cell BK471.out 1).trans rfl; have hfz97_0 := blk_frozen BK471.out 0; have hfz97_1 := blk_frozen BK471.out 1) | ((with_reducible refine gate_callee (f := 17) rfl ?_); refine goesL_ (some 57) rfl rfl Try.func17 (by kernel_rfl) rfl #[.agg #[.slice Ao9 t465.length co9, .slice Ao11 t468.length co11]] rfl (by (try simp only [List.map_toArray, List.map_cons, List.map_nil]); first | done | rfl | (simp only [List.length_drop, List.length_take]; rfl)) ?_; (with_reducible refine (impl_MapDual.calls kj5 _ _ t465 _ _ t468 t486 t489 true _ ?side1 ?side2 ?side3 ?side4 A28.out).mono ?_); (case side1 => exact cU ((Kd.Q_reads' HO_Z0.out).2.2)); (case side2 => exact (Kd.Q_reads' HO_Z0.out).2.1); (case side3 => exact cU ((Kd.R_reads' HO_Z1.out).2.2)); (case side4 => exact (Kd.R_reads' HO_Z1.out).2.1); rintro e w98 ⟨v487, v490, rfl, ho0, ho1, hb⟩; refine ⟨_, rfl, ?_⟩; have n0 := Az (Kd.R_mono (Kd.R_told (Kd.R_told (Kd.R_old (rU HO_4.out) hb) (Kd.R_base ho0)) (Kd.R_base ho1)) (fun _ h_ => h_.1)); have n1 := Az (Kd.R_mono (Kd.R_told (Kd.R_told (Kd.R_old (rU HO_6.out) hb) (Kd.R_base ho0)) (Kd.R_base ho1)) (fun _ h_ => h_.1)); have n2 := Az (Kd.Q_mono (Kd.Q_told (Kd.Q_told (Kd.Q_old (qU HO_Z0.out) hb) (Kd.R_base ho0)) (Kd.R_base ho1)) (fun _ h_ => h_.1)); have n3 := Az (Kd.R_mono (Kd.R_told (Kd.R_told (Kd.R_old (rU HO_Z1.out) hb) (Kd.R_base ho0)) (Kd.R_base ho1)) (fun _ h_ => h_.1)); have n4 := Az (Kd.R_mono (Kd.R_told (Kd.R_told (Kd.R_old (rU HO484.out) hb) (Kd.R_base ho0)) (Kd.R_base ho1)) (fun _ h_ => h_.1)); have n5 := Az (Kd.R_lower (Kd.R_new' (Kd.R_new' (Kd.R_new' (Kd.R_new' (Kd.R_new' ho0 (Kd.R_lt (rU HO_4.out))) (Kd.R_lt (rU HO_6.out))) (Kd.Q_lt (qU HO_Z0.out))) (Kd.R_lt (rU HO_Z1.out))) (Kd.R_lt (rU HO484.out))) (below_size (bU1 HB.out GE471.out))); have n6 := Az (Kd.R_lower (Kd.R_new' (Kd.R_new' (Kd.R_new' (Kd.R_new' (Kd.R_new' ho1 (Kd.R_lt (rU HO_4.out))) (Kd.R_lt (rU HO_6.out))) (Kd.Q_lt (qU HO_Z0.out))) (Kd.R_lt (rU HO_Z1.out))) (Kd.R_lt (rU HO484.out))) (below_size (bU1 HB.out GE471.out))); have n7 := Az (blk_below (g := gb471) (o := .cells #[.slice Ao9 t465.length co9, .slice Ao11 t468.length co11] 25 (0, 0)) (kU BK471.out) hb); have n8 := Az (below_step (bU1 HB.out GE471.out) hb); clear HO_4 HO_6 HO_Z0 HO_Z1 HO484 BK471 HB; have HO_4 := n0; have HO_6 := n1; have HO_Z0 := n2; have HO_Z1 := n3; have HO484 := n4; have HO488 := n5; have HO491 := n6; have BK471 := n7; have HB := n8; clear n0 n1 n2 n3 n4 n5 n6 n7 n8; (try clear hb); (try clear hb2); (try clear hk); (try clear hi); (try clear ho0); (try clear ho1)) | ((with_reducible refine gate_dst (N := 10) rfl ?_); (try (refine gate_guard (by rfl) ?_; dsimp only)); refine box_event ?hg (N := 10) ?hd (cs := #[.slice none 0 0, .slice none 0 0]) (t := 25) ?hr ?_; (case hd => rfl); (case hg => rfl); (case hr => first | (go_simp; done) | (go_simp; rfl)); intro gb493 hg w99 hbox hb; have n0 := Az (Kd.R_below (rU HO_4.out) hb); have n1 := Az (Kd.R_below (rU HO_6.out) hb); have n2 := Az (Kd.Q_below (qU HO_Z0.out) hb); have n3 := Az (Kd.R_below (rU HO_Z1.out) hb); have n4 := Az (Kd.R_below (rU HO484.out) hb); have n5 := Az (Kd.R_below (rU HO488.out) hb); have n6 := Az (Kd.R_below (rU HO491.out) hb); have n7 := Az (blk_below (g := gb471) (o := .cells #[.slice Ao9 t465.length co9, .slice Ao11 t468.length co11] 25 (0, 0)) (kU BK471.out) hb); have n8 := Az (below_step (bU1 HB.out GE471.out) hb); have n9 := Az (hbox); have n10 := Az ((by rw [hg]; exact (below_size (bU1 HB.out GE471.out)) : w.heap.size ≤ gb493)); have n11 := n10; have n12 := Az ((by rw [hg]; exact Nat.ne_of_lt (blk_lt (g := gb471) (o := .cells #[.slice Ao9 t465.length co9, .slice Ao11 t468.length co11] 25 (0, 0)) (kU BK471.out)) : gb471 ≠ gb493)); have n13 := Az ((by rw [hg]; exact Nat.ne_of_gt (blk_lt (g := gb471) (o := .cells #[.slice Ao9 t465.length co9, .slice Ao11 t468.length co11] 25 (0, 0)) (kU BK471.out)) : gb493 ≠ gb471)); clear HO_4 HO_6 HO_Z0 HO_Z1 HO484 HO488 HO491 BK471 HB; have HO_4 := n0; have HO_6 := n1; have HO_Z0 := n2; have HO_Z1 := n3; have HO484 := n4; have HO488 := n5; have HO491 := n6; have BK471 := n7; have HB := n8; have BK493 := n9; have GW493 := n10; have GE493 := n11; have NB471_493 := n12; have NB493_471 := n13; clear n0 n1 n2 n3 n4 n5 n6 n7 n8 n9 n10 n11 n12 n13 hb hbox hg; obtain ⟨Ao100, co100, eo100⟩ := Kd.R_slice HO488.out; subst eo100; have hnb101 := NB493_471.out; have hnc101 := NB471_493.out; have hcz102_0 : w99.cell? ⟨gb493, 0, none⟩ = some (.slice none 0 0) := (blk_cell BK493.out 0).trans rfl; have hcz102_1 : w99.cell? ⟨gb493, 1, none⟩ = some (.slice none 0 0) := (blk_cell BK493.out 1).trans rfl; have hfz102_0 := blk_frozen BK493.out 0; have hfz102_1 := blk_frozen BK493.out 1; obtain ⟨Ao103, co103, eo103⟩ := Kd.R_slice HO491.out; subst eo103) | ((with_reducible refine gate_callee (f := 34) rfl ?_); refine goesL_ (some 62) rfl rfl Try.func34 (by kernel_rfl) rfl #[.agg #[.slice Ao100 t486.length co100, .slice Ao103 t489.length co103]] rfl (by (try simp only [List.map_toArray, List.map_cons, List.map_nil]); first | done | rfl | (simp only [List.length_drop, List.length_take]; rfl)) ?_; (with_reducible refine (impl_MapDegrees.calls kj5 _ _ t486 _ _ t489 t494 false _ ?side1 ?side2 ?side3 ?side4 A29.out).mono ?_); (case side1 => refine (Kd.R_reads' (e := 3) (base := w.heap.size) (ok := fun k_ => (((((some k_ ≠ (.slice Ao103 t489.length co103 : Value).ownBlock ∧ some k_ ≠ (v473 : Value).ownBlock) ∧ some k_ ≠ (v477 : Value).ownBlock) ∧ some k_ ≠ (.slice Ao9 t465.length co9 : Value).ownBlock) ∧ some k_ ≠ (.slice Ao11 t468.length co11 : Value).ownBlock) ∧ some k_ ≠ (v483 : Value).ownBlock)) (n := t486.length) (c := co100) ?_).2.2; exact (by (with_reducible repeat (first | apply Kd.R_alloc | apply Kd.R_drewN | apply Kd.R_drew)); exact (Kd.R_mono (Kd.R_far (p := ⟨gb493, 1, none⟩) (Kd.R_far (p := ⟨gb493, 0, none⟩) (Kd.R_types HO488.out BK493.out (by decide)) (fun _ hk => hk.2) (.slice Ao100 t486.length co100)) (fun _ hk => hk.2) (.slice Ao103 t489.length co103)) (fun _ h_ => h_.1)))); (case side2 => exact (Kd.R_reads' HO488.out).2.1); (case side3 => refine (Kd.R_reads' (e := 3) (base := w.heap.size) (ok := fun k_ => (((((some k_ ≠ (.slice Ao100 t486.length co100 : Value).ownBlock ∧ some k_ ≠ (v473 : Value).ownBlock) ∧ some k_ ≠ (v477 : Value).ownBlock) ∧ some k_ ≠ (.slice Ao9 t465.length co9 : Value).ownBlock) ∧ some k_ ≠ (.slice Ao11 t468.length co11 : Value).ownBlock) ∧ some k_ ≠ (v483 : Value).ownBlock)) (n := t489.length) (c := co103) ?_).2.2; exact (by (with_reducible repeat (first | apply Kd.R_alloc | apply Kd.R_drewN | apply Kd.R_drew)); exact (Kd.R_mono (Kd.R_far (p := ⟨gb493, 1, none⟩) (Kd.R_far (p := ⟨gb493, 0, none⟩) (Kd.R_types HO491.out BK493.out (by decide)) (fun _ hk => hk.2) (.slice Ao100 t486.length co100)) (fun _ hk => hk.2) (.slice Ao103 t489.length co103)) (fun _ h_ => h_.1)))); (case side4 => exact (Kd.R_reads' HO491.out).2.1); rintro e w104 ⟨v495, rfl, ho0, hb⟩; refine ⟨_, rfl, ?_⟩; have n0 := Az (Kd.R_elder' (by (with_reducible repeat (first | apply Kd.R_alloc | apply Kd.R_drewN | apply Kd.R_drew)); exact (Kd.R_mono (Kd.R_far (p := ⟨gb493, 1, none⟩) (Kd.R_far (p := ⟨gb493, 0, none⟩) (Kd.R_types HO_4.out BK493.out (by decide)) (fun _ hk => hk.2) (.slice Ao100 t486.length co100)) (fun _ hk => hk.2) (.slice Ao103 t489.length co103)) (fun _ h_ => h_.1))) (Kd.R_base ho0) hb); have n1 := Az (Kd.R_elder' (by (with_reducible repeat (first | apply Kd.R_alloc | apply Kd.R_drewN | apply Kd.R_drew)); exact (Kd.R_mono (Kd.R_far (p := ⟨gb493, 1, none⟩) (Kd.R_far (p := ⟨gb493, 0, none⟩) (Kd.R_types HO_6.out BK493.out (by decide)) (fun _ hk => hk.2) (.slice Ao100 t486.length co100)) (fun _ hk => hk.2) (.slice Ao103 t489.length co103)) (fun _ h_ => h_.1))) (Kd.R_base ho0) hb); have n2 := Az (Kd.Q_elder' (by (with_reducible repeat (first | apply Kd.Q_alloc | apply Kd.Q_drewN | apply Kd.Q_drew)); exact (Kd.Q_mono (Kd.Q_far (p := ⟨gb493, 1, none⟩) (Kd.Q_far (p := ⟨gb493, 0, none⟩) (Kd.Q_types HO_Z0.out BK493.out (by decide)) (fun _ hk => hk.2) (.slice Ao100 t486.length co100)) (fun _ hk => hk.2) (.slice Ao103 t489.length co103)) (fun _ h_ => h_.1))) (Kd.R_base ho0) hb); have n3 := Az (Kd.R_elder' (by (with_reducible repeat (first | apply Kd.R_alloc | apply Kd.R_drewN | apply Kd.R_drew)); exact (Kd.R_mono (Kd.R_far (p := ⟨gb493, 1, none⟩) (Kd.R_far (p := ⟨gb493, 0, none⟩) (Kd.R_types HO_Z1.out BK493.out (by decide)) (fun _ hk => hk.2) (.slice Ao100 t486.length co100)) (fun _ hk => hk.2) (.slice Ao103 t489.length co103)) (fun _ h_ => h_.1))) (Kd.R_base ho0) hb); have n4 := Az (Kd.R_elder' (by (with_reducible repeat (first | apply Kd.R_alloc | apply Kd.R_drewN | apply Kd.R_drew)); exact (Kd.R_mono (Kd.R_far (p := ⟨gb493, 1, none⟩) (Kd.R_far (p := ⟨gb493, 0, none⟩) (Kd.R_types HO484.out BK493.out (by decide)) (fun _ hk => hk.2) (.slice Ao100 t486.length co100)) (fun _ hk => hk.2) (.slice Ao103 t489.length co103)) (fun _ h_ => h_.1))) (Kd.R_base ho0) hb); have n5 := Az (Kd.R_elder' (by (with_reducible repeat (first | apply Kd.R_alloc | apply Kd.R_drewN | apply Kd.R_drew)); exact (Kd.R_mono (Kd.R_far (p := ⟨gb493, 1, none⟩) (Kd.R_far (p := ⟨gb493, 0, none⟩) (Kd.R_types HO488.out BK493.out (by decide)) (fun _ hk => hk.2) (.slice Ao100 t486.length co100)) (fun _ hk => hk.2) (.slice Ao103 t489.length co103)) (fun _ h_ => h_.1))) (Kd.R_base ho0) hb); have n6 := Az (Kd.R_elder' (by (with_reducible repeat (first | apply Kd.R_alloc | apply Kd.R_drewN | apply Kd.R_drew)); exact (Kd.R_mono (Kd.R_far (p := ⟨gb493, 1, none⟩) (Kd.R_far (p := ⟨gb493, 0, none⟩) (Kd.R_types HO491.out BK493.out (by decide)) (fun _ hk => hk.2) (.slice Ao100 t486.length co100)) (fun _ hk => hk.2) (.slice Ao103 t489.length co103)) (fun _ h_ => h_.1))) (Kd.R_base ho0) hb); have n7 := Az (Kd.R_lower (Kd.R_new' (Kd.R_new' (Kd.R_new' (Kd.R_new' (Kd.R_new' (Kd.R_new' (Kd.R_new' ho0 (Kd.R_lt (by (with_reducible repeat (first | apply Kd.R_alloc | apply Kd.R_drewN | apply Kd.R_drew)); exact (Kd.R_mono (Kd.R_far (p := ⟨gb493, 1, none⟩) (Kd.R_far (p := ⟨gb493, 0, none⟩) (Kd.R_types HO_4.out BK493.out (by decide)) (fun _ hk => hk.2) (.slice Ao100 t486.length co100)) (fun _ hk => hk.2) (.slice Ao103 t489.length co103)) (fun _ h_ => h_.1))))) (Kd.R_lt (by (with_reducible repeat (first | apply Kd.R_alloc | apply Kd.R_drewN | apply Kd.R_drew)); exact (Kd.R_mono (Kd.R_far (p := ⟨gb493, 1, none⟩) (Kd.R_far (p := ⟨gb493, 0, none⟩) (Kd.R_types HO_6.out BK493.out (by decide)) (fun _ hk => hk.2) (.slice Ao100 t486.length co100)) (fun _ hk => hk.2) (.slice Ao103 t489.length co103)) (fun _ h_ => h_.1))))) (Kd.Q_lt (by (with_reducible repeat (first | apply Kd.Q_alloc | apply Kd.Q_drewN | apply Kd.Q_drew)); exact (Kd.Q_mono (Kd.Q_far (p := ⟨gb493, 1, none⟩) (Kd.Q_far (p := ⟨gb493, 0, none⟩) (Kd.Q_types HO_Z0.out BK493.out (by decide)) (fun _ hk => hk.2) (.slice Ao100 t486.length co100)) (fun _ hk => hk.2) (.slice Ao103 t489.length co103)) (fun _ h_ => h_.1))))) (Kd.R_lt (by (with_reducible repeat (first | apply Kd.R_alloc | apply Kd.R_drewN | apply Kd.R_drew)); exact (Kd.R_mono (Kd.R_far (p := ⟨gb493, 1, none⟩) (Kd.R_far (p := ⟨gb493, 0, none⟩) (Kd.R_types HO_Z1.out BK493.out (by decide)) (fun _ hk => hk.2) (.slice Ao100 t486.length co100)) (fun _ hk => hk.2) (.slice Ao103 t489.length co103)) (fun _ h_ => h_.1))))) (Kd.R_lt (by (with_reducible repeat (first | apply Kd.R_alloc | apply Kd.R_drewN | apply Kd.R_drew)); exact (Kd.R_mono (Kd.R_far (p := ⟨gb493, 1, none⟩) (Kd.R_far (p := ⟨gb493, 0, none⟩) (Kd.R_types HO484.out BK493.out (by decide)) (fun _ hk => hk.2) (.slice Ao100 t486.length co100)) (fun _ hk => hk.2) (.slice Ao103 t489.length co103)) (fun _ h_ => h_.1))))) (Kd.R_lt (by (with_reducible repeat (first | apply Kd.R_alloc | apply Kd.R_drewN | apply Kd.R_drew)); exact (Kd.R_mono (Kd.R_far (p := ⟨gb493, 1, none⟩) (Kd.R_far (p := ⟨gb493, 0, none⟩) (Kd.R_types HO488.out BK493.out (by decide)) (fun _ hk => hk.2) (.slice Ao100 t486.length co100)) (fun _ hk => hk.2) (.slice Ao103 t489.length co103)) (fun _ h_ => h_.1))))) (Kd.R_lt (by (with_reducible repeat (first | apply Kd.R_alloc | apply Kd.R_drewN | apply Kd.R_drew)); exact (Kd.R_mono (Kd.R_far (p := ⟨gb493, 1, none⟩) (Kd.R_far (p := ⟨gb493, 0, none⟩) (Kd.R_types HO491.out BK493.out (by decide)) (fun _ hk => hk.2) (.slice Ao100 t486.length co100)) (fun _ hk => hk.2) (.slice Ao103 t489.length co103)) (fun _ h_ => h_.1))))) (below_size (bU2 HB.out GE471.out GE493.out))); have n8 := Az (blk_below (g := gb471) (o := .cells #[.slice Ao9 t465.length co9, .slice Ao11 t468.length co11] 25 (0, 0)) (by (with_reducible repeat (first | refine blk_drewN ?_ _ | refine blk_drew ?_ | refine blk_alloc ?_ _)); refine blk_far ?_ NB471_493.out _; (with_reducible repeat (first | refine blk_drewN ?_ _ | refine blk_drew ?_ | refine blk_alloc ?_ _)); refine blk_far ?_ NB471_493.out _; (with_reducible repeat (first | refine blk_drewN ?_ _ | refine blk_drew ?_ | refine blk_alloc ?_ _)); exact BK471.out) hb); have n9 := Az (blk_below (g := gb493) (o := .cells #[.slice Ao100 t486.length co100, .slice Ao103 t489.length co103] 25 (0, 0)) (by (with_reducible repeat (first | refine blk_drewN ?_ _ | refine blk_drew ?_ | refine blk_alloc ?_ _)); refine blk_put (cs := #[.slice Ao100 t486.length co100, .slice none 0 0]) ?_ 1 _ rfl; (with_reducible repeat (first | refine blk_drewN ?_ _ | refine blk_drew ?_ | refine blk_alloc ?_ _)); refine blk_put (cs := #[.slice none 0 0, .slice none 0 0]) ?_ 0 _ rfl; (with_reducible repeat (first | refine blk_drewN ?_ _ | refine blk_drew ?_ | refine blk_alloc ?_ _)); exact BK493.out) hb); have n10 := Az (below_step (bU2 HB.out GE471.out GE493.out) hb); clear HO_4 HO_6 HO_Z0 HO_Z1 HO484 HO488 HO491 BK471 BK493 HB; have HO_4 := n0; have HO_6 := n1; have HO_Z0 := n2; have HO_Z1 := n3; have HO484 := n4; have HO488 := n5; have HO491 := n6; have HO496 := n7; have BK471 := n8; have BK493 := n9; have HB := n10; clear n0 n1 n2 n3 n4 n5 n6 n7 n8 n9 n10; (try clear hb); (try clear hb2); (try clear hk); (try clear hi); (try clear ho0)))
        have n0 := Az (Kd.R_drew HO_4.out); have n1 := Az (Kd.R_drew HO_6.out); have n2 := Az (Kd.Q_drew HO_Z0.out); have n3 := Az (Kd.R_drew HO_Z1.out); have n4 := Az (Kd.R_drew HO484.out); have n5 := Az (Kd.R_drew HO488.out); have n6 := Az (Kd.R_drew HO491.out); have n7 := Az (Kd.R_drew HO496.out); have n8 := Az (blk_drew BK471.out); have n9 := Az (blk_drew BK493.out); have n10 := Az (below_drew1 HB.out); clear HO_4 HO_6 HO_Z0 HO_Z1 HO484 HO488 HO491 HO496 BK471 BK493 HB; have HO_4 := n0; have HO_6 := n1; have HO_Z0 := n2; have HO_Z1 := n3; have HO484 := n4; have HO488 := n5; have HO491 := n6; have HO496 := n7; have BK471 := n8; have BK493 := n9; have HB := n10; clear n0 n1 n2 n3 n4 n5 n6 n7 n8 n9 n10
        refine start_ (n := 42) (S := fun w' => True) (ds := []) (laws_FnDegrees_up [(0, some 65), (1, some 66), (2, some 67), (3, some 68), (4, some 69), (5, some 70), (6, some 71), (7, some 72), (8, some 73), (9, some 74), (10, some 75), (11, some 76), (12, some 77), (13, some 78), (14, some 79), (15, some 80), (16, some 81), (17, some 82), (18, some 83), (19, some 84), (20, some 85), (21, some 86), (22, some 87), (23, some 88), (24, some 89), (25, some 90), (26, some 91), (27, some 92), (28, some 93), (29, some 94), (30, some 95), (31, some 96), (32, some 97), (33, some 98), (34, some 99), (35, some 100), (36, some 101), (37, some 102), (38, some 103), (39, some 104), (40, some 105), (41, some 2)] 42) (by kernel_rfl) rfl rfl trivial (fun hHeld => ?_); refine with_tabW laws_FnDegrees.tab11 laws_FnDegrees.bits11 (fun HT_ HW_ => ?_)
        generalize w104.drew = w105 at HO_4 HO_6 HO_Z0 HO_Z1 HO484 HO488 HO491 HO496 BK471 BK493 HB hHeld ⊢
        repeat (first | (refine laws_FnDegrees_uS rfl rfl (any_of HT_.out (by kernel_rfl)) (fun _ _ _ h => h) (by rfl) (a' := ?_) ?_ ?_; rotate_left; (· simp only [Act.put, List.setIfInBounds_toArray, List.set_cons_zero, List.set_cons_succ, i64_w, i32_w]; rfl)) | (refine laws_FnDegrees_uP rfl rfl (any_of HT_.out (by kernel_rfl)) (fun _ _ _ h => h) (by rfl) (v := ?_) (a' := ?_) ?_ ?_ ?_; rotate_left; (· intro w'; go_simp; with_reducible rfl); rotate_left; (· simp only [Act.put, List.setIfInBounds_toArray, List.set_cons_zero, List.set_cons_succ, i64_w, i32_w]; rfl)))
        refine done_ (done_of HT_.out (by kernel_rfl)) ?_
        try go_wp2
        go_ret
        exact ⟨rE, bU2 HB.out GE471.out GE493.out⟩
      ·
       replace c31 := Bool.eq_false_iff.mpr c31; subst c31
       have H1 : (some false) = some r := by rw [if_neg (show ¬ (false = true) by decide)] at H; exact H
       clear H; have H := H1; clear H1; obtain rfl := Option.some.inj H; have hcz106_0 : wc.cell? ⟨gb471, 0, none⟩ = some (.slice Ao9 t465.length co9) := (blk_cell BK471.out 0).trans rfl; have hcz106_1 : wc.cell? ⟨gb471, 1, none⟩ = some (.slice Ao11 t468.length co11) := (blk_cell BK471.out 1).trans rfl; have hfz106_0 := blk_frozen BK471.out 0; have hfz106_1 := blk_frozen BK471.out 1
       try go_wp2_with (first | ((with_reducible refine gate_callee (f := 16) rfl ?_); refine goesL_ (some 52) rfl rfl Try.func16 (by kernel_rfl) rfl #[.agg #[.slice Ao9 t465.length co9, .slice Ao11 t468.length co11]] rfl (by (try simp only [List.map_toArray, List.map_cons, List.map_nil]); first | done | rfl | (simp only [List.length_drop, List.length_take]; rfl)) ?_; (with_reducible refine (impl_MapCounts.calls kj5 _ _ t465 _ _ t468 t482 true _ ?side1 ?side2 ?side3 ?side4 A27.out).mono ?_); (case side1 => exact cU ((Kd.Q_reads' HO_Z0.out).2.2)); (case side2 => exact (Kd.Q_reads' HO_Z0.out).2.1); (case side3 => exact cU ((Kd.R_reads' HO_Z1.out).2.2)); (case side4 => exact (Kd.R_reads' HO_Z1.out).2.1); rintro e w107 ⟨v483, rfl, ho0, hb⟩; refine ⟨_, rfl, ?_⟩; have n0 := Az (Kd.R_elder' (rU HO_4.out) (Kd.R_base ho0) hb); have n1 := Az (Kd.R_elder' (rU HO_6.out) (Kd.R_base ho0) hb); have n2 := Az (Kd.Q_elder' (qU HO_Z0.out) (Kd.R_base ho0) hb); have n3 := Az (Kd.R_elder' (rU HO_Z1.out) (Kd.R_base ho0) hb); have n4 := Az (Kd.R_lower (Kd.R_new' (Kd.R_new' (Kd.R_new' (Kd.R_new' ho0 (Kd.R_lt (rU HO_4.out))) (Kd.R_lt (rU HO_6.out))) (Kd.Q_lt (qU HO_Z0.out))) (Kd.R_lt (rU HO_Z1.out))) (below_size (bU1 HB.out GE471.out))); have n5 := Az (blk_below (g := gb471) (o := .cells #[.slice Ao9 t465.length co9, .slice Ao11 t468.length co11] 25 (0, 0)) (kU BK471.out) hb); have n6 := Az (below_step (bU1 HB.out GE471.out) hb); clear HO_4 HO_6 HO_Z0 HO_Z1 BK471 HB; have HO_4 := n0; have HO_6 := n1; have HO_Z0 := n2; have HO_Z1 := n3; have HO484 := n4; have BK471 := n5; have HB := n6; clear n0 n1 n2 n3 n4 n5 n6; (try clear hb); (try clear hb2); (try clear hk); (try clear hi); (try clear ho0); have hcz108_0 : w107.cell? ⟨gb471, 0, none⟩ = some (.slice Ao9 t465.length co9) := (blk_cell BK471.out 0).trans rfl; have hcz108_1 : w107.cell? ⟨gb471, 1, none⟩ = some (.slice Ao11 t468.length co11) := (blk_cell BK471.out 1).trans rfl; have hfz108_0 := blk_frozen BK471.out 0; have hfz108_1 := blk_frozen BK471.out 1) | ((with_reducible refine gate_callee (f := 17) rfl ?_); refine goesL_ (some 57) rfl rfl Try.func17 (by kernel_rfl) rfl #[.agg #[.slice Ao9 t465.length co9, .slice Ao11 t468.length co11]] rfl (by (try simp only [List.map_toArray, List.map_cons, List.map_nil]); first | done | rfl | (simp only [List.length_drop, List.length_take]; rfl)) ?_; (with_reducible refine (impl_MapDual.calls kj5 _ _ t465 _ _ t468 t486 t489 false _ ?side1 ?side2 ?side3 ?side4 A28.out).mono ?_); (case side1 => exact cU ((Kd.Q_reads' HO_Z0.out).2.2)); (case side2 => exact (Kd.Q_reads' HO_Z0.out).2.1); (case side3 => exact cU ((Kd.R_reads' HO_Z1.out).2.2)); (case side4 => exact (Kd.R_reads' HO_Z1.out).2.1); rintro e w109 ⟨v487, v490, rfl, ho0, ho1, hb⟩; refine ⟨_, rfl, ?_⟩; have n0 := Az (Kd.R_mono (Kd.R_told (Kd.R_told (Kd.R_old (rU HO_4.out) hb) (Kd.R_base ho0)) (Kd.R_base ho1)) (fun _ h_ => h_.1)); have n1 := Az (Kd.R_mono (Kd.R_told (Kd.R_told (Kd.R_old (rU HO_6.out) hb) (Kd.R_base ho0)) (Kd.R_base ho1)) (fun _ h_ => h_.1)); have n2 := Az (Kd.Q_mono (Kd.Q_told (Kd.Q_told (Kd.Q_old (qU HO_Z0.out) hb) (Kd.R_base ho0)) (Kd.R_base ho1)) (fun _ h_ => h_.1)); have n3 := Az (Kd.R_mono (Kd.R_told (Kd.R_told (Kd.R_old (rU HO_Z1.out) hb) (Kd.R_base ho0)) (Kd.R_base ho1)) (fun _ h_ => h_.1)); have n4 := Az (Kd.R_mono (Kd.R_told (Kd.R_told (Kd.R_old (rU HO484.out) hb) (Kd.R_base ho0)) (Kd.R_base ho1)) (fun _ h_ => h_.1)); have n5 := Az (Kd.R_lower (Kd.R_new' (Kd.R_new' (Kd.R_new' (Kd.R_new' (Kd.R_new' ho0 (Kd.R_lt (rU HO_4.out))) (Kd.R_lt (rU HO_6.out))) (Kd.Q_lt (qU HO_Z0.out))) (Kd.R_lt (rU HO_Z1.out))) (Kd.R_lt (rU HO484.out))) (below_size (bU1 HB.out GE471.out))); have n6 := Az (Kd.R_lower (Kd.R_new' (Kd.R_new' (Kd.R_new' (Kd.R_new' (Kd.R_new' ho1 (Kd.R_lt (rU HO_4.out))) (Kd.R_lt (rU HO_6.out))) (Kd.Q_lt (qU HO_Z0.out))) (Kd.R_lt (rU HO_Z1.out))) (Kd.R_lt (rU HO484.out))) (below_size (bU1 HB.out GE471.out))); have n7 := Az (blk_below (g := gb471) (o := .cells #[.slice Ao9 t465.length co9, .slice Ao11 t468.length co11] 25 (0, 0)) (kU BK471.out) hb); have n8 := Az (below_step (bU1 HB.out GE471.out) hb); clear HO_4 HO_6 HO_Z0 HO_Z1 HO484 BK471 HB; have HO_4 := n0; have HO_6 := n1; have HO_Z0 := n2; have HO_Z1 := n3; have HO484 := n4; have HO488 := n5; have HO491 := n6; have BK471 := n7; have HB := n8; clear n0 n1 n2 n3 n4 n5 n6 n7 n8; (try clear hb); (try clear hb2); (try clear hk); (try clear hi); (try clear ho0); (try clear ho1)) | ((with_reducible refine gate_dst (N := 10) rfl ?_); (try (refine gate_guard (by rfl) ?_; dsimp only)); refine box_event ?hg (N := 10) ?hd (cs := #[.slice none 0 0, .slice none 0 0]) (t := 25) ?hr ?_; (case hd => rfl); (case hg => rfl); (case hr => first | (go_simp; done) | (go_simp; rfl)); intro gb493 hg w110 hbox hb; have n0 := Az (Kd.R_below (rU HO_4.out) hb); have n1 := Az (Kd.R_below (rU HO_6.out) hb); have n2 := Az (Kd.Q_below (qU HO_Z0.out) hb); have n3 := Az (Kd.R_below (rU HO_Z1.out) hb); have n4 := Az (Kd.R_below (rU HO484.out) hb); have n5 := Az (Kd.R_below (rU HO488.out) hb); have n6 := Az (Kd.R_below (rU HO491.out) hb); have n7 := Az (blk_below (g := gb471) (o := .cells #[.slice Ao9 t465.length co9, .slice Ao11 t468.length co11] 25 (0, 0)) (kU BK471.out) hb); have n8 := Az (below_step (bU1 HB.out GE471.out) hb); have n9 := Az (hbox); have n10 := Az ((by rw [hg]; exact (below_size (bU1 HB.out GE471.out)) : w.heap.size ≤ gb493)); have n11 := n10; have n12 := Az ((by rw [hg]; exact Nat.ne_of_lt (blk_lt (g := gb471) (o := .cells #[.slice Ao9 t465.length co9, .slice Ao11 t468.length co11] 25 (0, 0)) (kU BK471.out)) : gb471 ≠ gb493)); have n13 := Az ((by rw [hg]; exact Nat.ne_of_gt (blk_lt (g := gb471) (o := .cells #[.slice Ao9 t465.length co9, .slice Ao11 t468.length co11] 25 (0, 0)) (kU BK471.out)) : gb493 ≠ gb471)); clear HO_4 HO_6 HO_Z0 HO_Z1 HO484 HO488 HO491 BK471 HB; have HO_4 := n0; have HO_6 := n1; have HO_Z0 := n2; have HO_Z1 := n3; have HO484 := n4; have HO488 := n5; have HO491 := n6; have BK471 := n7; have HB := n8; have BK493 := n9; have GW493 := n10; have GE493 := n11; have NB471_493 := n12; have NB493_471 := n13; clear n0 n1 n2 n3 n4 n5 n6 n7 n8 n9 n10 n11 n12 n13 hb hbox hg; obtain ⟨Ao111, co111, eo111⟩ := Kd.R_slice HO488.out; subst eo111; have hnb112 := NB493_471.out; have hnc112 := NB471_493.out; have hcz113_0 : w110.cell? ⟨gb493, 0, none⟩ = some (.slice none 0 0) := (blk_cell BK493.out 0).trans rfl; have hcz113_1 : w110.cell? ⟨gb493, 1, none⟩ = some (.slice none 0 0) := (blk_cell BK493.out 1).trans rfl; have hfz113_0 := blk_frozen BK493.out 0; have hfz113_1 := blk_frozen BK493.out 1; obtain ⟨Ao114, co114, eo114⟩ := Kd.R_slice HO491.out; subst eo114) | ((with_reducible refine gate_callee (f := 34) rfl ?_); refine goesL_ (some 62) rfl rfl Try.func34 (by kernel_rfl) rfl #[.agg #[.slice Ao111 t486.length co111, .slice Ao114 t489.length co114]] rfl (by (try simp only [List.map_toArray, List.map_cons, List.map_nil]); first | done | rfl | (simp only [List.length_drop, List.length_take]; rfl)) ?_; (with_reducible refine (impl_MapDegrees.calls kj5 _ _ t486 _ _ t489 t494 t497 _ ?side1 ?side2 ?side3 ?side4 A29.out).mono ?_); (case side1 => refine (Kd.R_reads' (e := 3) (base := w.heap.size) (ok := fun k_ => (((((some k_ ≠ (.slice Ao114 t489.length co114 : Value).ownBlock ∧ some k_ ≠ (v473 : Value).ownBlock) ∧ some k_ ≠ (v477 : Value).ownBlock) ∧ some k_ ≠ (.slice Ao9 t465.length co9 : Value).ownBlock) ∧ some k_ ≠ (.slice Ao11 t468.length co11 : Value).ownBlock) ∧ some k_ ≠ (v483 : Value).ownBlock)) (n := t486.length) (c := co111) ?_).2.2; exact (by (with_reducible repeat (first | apply Kd.R_alloc | apply Kd.R_drewN | apply Kd.R_drew)); exact (Kd.R_mono (Kd.R_far (p := ⟨gb493, 1, none⟩) (Kd.R_far (p := ⟨gb493, 0, none⟩) (Kd.R_types HO488.out BK493.out (by decide)) (fun _ hk => hk.2) (.slice Ao111 t486.length co111)) (fun _ hk => hk.2) (.slice Ao114 t489.length co114)) (fun _ h_ => h_.1)))); (case side2 => exact (Kd.R_reads' HO488.out).2.1); (case side3 => refine (Kd.R_reads' (e := 3) (base := w.heap.size) (ok := fun k_ => (((((some k_ ≠ (.slice Ao111 t486.length co111 : Value).ownBlock ∧ some k_ ≠ (v473 : Value).ownBlock) ∧ some k_ ≠ (v477 : Value).ownBlock) ∧ some k_ ≠ (.slice Ao9 t465.length co9 : Value).ownBlock) ∧ some k_ ≠ (.slice Ao11 t468.length co11 : Value).ownBlock) ∧ some k_ ≠ (v483 : Value).ownBlock)) (n := t489.length) (c := co114) ?_).2.2; exact (by (with_reducible repeat (first | apply Kd.R_alloc | apply Kd.R_drewN | apply Kd.R_drew)); exact (Kd.R_mono (Kd.R_far (p := ⟨gb493, 1, none⟩) (Kd.R_far (p := ⟨gb493, 0, none⟩) (Kd.R_types HO491.out BK493.out (by decide)) (fun _ hk => hk.2) (.slice Ao111 t486.length co111)) (fun _ hk => hk.2) (.slice Ao114 t489.length co114)) (fun _ h_ => h_.1)))); (case side4 => exact (Kd.R_reads' HO491.out).2.1); rintro e w115 ⟨v495, rfl, ho0, hb⟩; refine ⟨_, rfl, ?_⟩; have n0 := Az (Kd.R_elder' (by (with_reducible repeat (first | apply Kd.R_alloc | apply Kd.R_drewN | apply Kd.R_drew)); exact (Kd.R_mono (Kd.R_far (p := ⟨gb493, 1, none⟩) (Kd.R_far (p := ⟨gb493, 0, none⟩) (Kd.R_types HO_4.out BK493.out (by decide)) (fun _ hk => hk.2) (.slice Ao111 t486.length co111)) (fun _ hk => hk.2) (.slice Ao114 t489.length co114)) (fun _ h_ => h_.1))) (Kd.R_base ho0) hb); have n1 := Az (Kd.R_elder' (by (with_reducible repeat (first | apply Kd.R_alloc | apply Kd.R_drewN | apply Kd.R_drew)); exact (Kd.R_mono (Kd.R_far (p := ⟨gb493, 1, none⟩) (Kd.R_far (p := ⟨gb493, 0, none⟩) (Kd.R_types HO_6.out BK493.out (by decide)) (fun _ hk => hk.2) (.slice Ao111 t486.length co111)) (fun _ hk => hk.2) (.slice Ao114 t489.length co114)) (fun _ h_ => h_.1))) (Kd.R_base ho0) hb); have n2 := Az (Kd.Q_elder' (by (with_reducible repeat (first | apply Kd.Q_alloc | apply Kd.Q_drewN | apply Kd.Q_drew)); exact (Kd.Q_mono (Kd.Q_far (p := ⟨gb493, 1, none⟩) (Kd.Q_far (p := ⟨gb493, 0, none⟩) (Kd.Q_types HO_Z0.out BK493.out (by decide)) (fun _ hk => hk.2) (.slice Ao111 t486.length co111)) (fun _ hk => hk.2) (.slice Ao114 t489.length co114)) (fun _ h_ => h_.1))) (Kd.R_base ho0) hb); have n3 := Az (Kd.R_elder' (by (with_reducible repeat (first | apply Kd.R_alloc | apply Kd.R_drewN | apply Kd.R_drew)); exact (Kd.R_mono (Kd.R_far (p := ⟨gb493, 1, none⟩) (Kd.R_far (p := ⟨gb493, 0, none⟩) (Kd.R_types HO_Z1.out BK493.out (by decide)) (fun _ hk => hk.2) (.slice Ao111 t486.length co111)) (fun _ hk => hk.2) (.slice Ao114 t489.length co114)) (fun _ h_ => h_.1))) (Kd.R_base ho0) hb); have n4 := Az (Kd.R_elder' (by (with_reducible repeat (first | apply Kd.R_alloc | apply Kd.R_drewN | apply Kd.R_drew)); exact (Kd.R_mono (Kd.R_far (p := ⟨gb493, 1, none⟩) (Kd.R_far (p := ⟨gb493, 0, none⟩) (Kd.R_types HO484.out BK493.out (by decide)) (fun _ hk => hk.2) (.slice Ao111 t486.length co111)) (fun _ hk => hk.2) (.slice Ao114 t489.length co114)) (fun _ h_ => h_.1))) (Kd.R_base ho0) hb); have n5 := Az (Kd.R_elder' (by (with_reducible repeat (first | apply Kd.R_alloc | apply Kd.R_drewN | apply Kd.R_drew)); exact (Kd.R_mono (Kd.R_far (p := ⟨gb493, 1, none⟩) (Kd.R_far (p := ⟨gb493, 0, none⟩) (Kd.R_types HO488.out BK493.out (by decide)) (fun _ hk => hk.2) (.slice Ao111 t486.length co111)) (fun _ hk => hk.2) (.slice Ao114 t489.length co114)) (fun _ h_ => h_.1))) (Kd.R_base ho0) hb); have n6 := Az (Kd.R_elder' (by (with_reducible repeat (first | apply Kd.R_alloc | apply Kd.R_drewN | apply Kd.R_drew)); exact (Kd.R_mono (Kd.R_far (p := ⟨gb493, 1, none⟩) (Kd.R_far (p := ⟨gb493, 0, none⟩) (Kd.R_types HO491.out BK493.out (by decide)) (fun _ hk => hk.2) (.slice Ao111 t486.length co111)) (fun _ hk => hk.2) (.slice Ao114 t489.length co114)) (fun _ h_ => h_.1))) (Kd.R_base ho0) hb); have n7 := Az (Kd.R_lower (Kd.R_new' (Kd.R_new' (Kd.R_new' (Kd.R_new' (Kd.R_new' (Kd.R_new' (Kd.R_new' ho0 (Kd.R_lt (by (with_reducible repeat (first | apply Kd.R_alloc | apply Kd.R_drewN | apply Kd.R_drew)); exact (Kd.R_mono (Kd.R_far (p := ⟨gb493, 1, none⟩) (Kd.R_far (p := ⟨gb493, 0, none⟩) (Kd.R_types HO_4.out BK493.out (by decide)) (fun _ hk => hk.2) (.slice Ao111 t486.length co111)) (fun _ hk => hk.2) (.slice Ao114 t489.length co114)) (fun _ h_ => h_.1))))) (Kd.R_lt (by (with_reducible repeat (first | apply Kd.R_alloc | apply Kd.R_drewN | apply Kd.R_drew)); exact (Kd.R_mono (Kd.R_far (p := ⟨gb493, 1, none⟩) (Kd.R_far (p := ⟨gb493, 0, none⟩) (Kd.R_types HO_6.out BK493.out (by decide)) (fun _ hk => hk.2) (.slice Ao111 t486.length co111)) (fun _ hk => hk.2) (.slice Ao114 t489.length co114)) (fun _ h_ => h_.1))))) (Kd.Q_lt (by (with_reducible repeat (first | apply Kd.Q_alloc | apply Kd.Q_drewN | apply Kd.Q_drew)); exact (Kd.Q_mono (Kd.Q_far (p := ⟨gb493, 1, none⟩) (Kd.Q_far (p := ⟨gb493, 0, none⟩) (Kd.Q_types HO_Z0.out BK493.out (by decide)) (fun _ hk => hk.2) (.slice Ao111 t486.length co111)) (fun _ hk => hk.2) (.slice Ao114 t489.length co114)) (fun _ h_ => h_.1))))) (Kd.R_lt (by (with_reducible repeat (first | apply Kd.R_alloc | apply Kd.R_drewN | apply Kd.R_drew)); exact (Kd.R_mono (Kd.R_far (p := ⟨gb493, 1, none⟩) (Kd.R_far (p := ⟨gb493, 0, none⟩) (Kd.R_types HO_Z1.out BK493.out (by decide)) (fun _ hk => hk.2) (.slice Ao111 t486.length co111)) (fun _ hk => hk.2) (.slice Ao114 t489.length co114)) (fun _ h_ => h_.1))))) (Kd.R_lt (by (with_reducible repeat (first | apply Kd.R_alloc | apply Kd.R_drewN | apply Kd.R_drew)); exact (Kd.R_mono (Kd.R_far (p := ⟨gb493, 1, none⟩) (Kd.R_far (p := ⟨gb493, 0, none⟩) (Kd.R_types HO484.out BK493.out (by decide)) (fun _ hk => hk.2) (.slice Ao111 t486.length co111)) (fun _ hk => hk.2) (.slice Ao114 t489.length co114)) (fun _ h_ => h_.1))))) (Kd.R_lt (by (with_reducible repeat (first | apply Kd.R_alloc | apply Kd.R_drewN | apply Kd.R_drew)); exact (Kd.R_mono (Kd.R_far (p := ⟨gb493, 1, none⟩) (Kd.R_far (p := ⟨gb493, 0, none⟩) (Kd.R_types HO488.out BK493.out (by decide)) (fun _ hk => hk.2) (.slice Ao111 t486.length co111)) (fun _ hk => hk.2) (.slice Ao114 t489.length co114)) (fun _ h_ => h_.1))))) (Kd.R_lt (by (with_reducible repeat (first | apply Kd.R_alloc | apply Kd.R_drewN | apply Kd.R_drew)); exact (Kd.R_mono (Kd.R_far (p := ⟨gb493, 1, none⟩) (Kd.R_far (p := ⟨gb493, 0, none⟩) (Kd.R_types HO491.out BK493.out (by decide)) (fun _ hk => hk.2) (.slice Ao111 t486.length co111)) (fun _ hk => hk.2) (.slice Ao114 t489.length co114)) (fun _ h_ => h_.1))))) (below_size (bU2 HB.out GE471.out GE493.out))); have n8 := Az (blk_below (g := gb471) (o := .cells #[.slice Ao9 t465.length co9, .slice Ao11 t468.length co11] 25 (0, 0)) (by (with_reducible repeat (first | refine blk_drewN ?_ _ | refine blk_drew ?_ | refine blk_alloc ?_ _)); refine blk_far ?_ NB471_493.out _; (with_reducible repeat (first | refine blk_drewN ?_ _ | refine blk_drew ?_ | refine blk_alloc ?_ _)); refine blk_far ?_ NB471_493.out _; (with_reducible repeat (first | refine blk_drewN ?_ _ | refine blk_drew ?_ | refine blk_alloc ?_ _)); exact BK471.out) hb); have n9 := Az (blk_below (g := gb493) (o := .cells #[.slice Ao111 t486.length co111, .slice Ao114 t489.length co114] 25 (0, 0)) (by (with_reducible repeat (first | refine blk_drewN ?_ _ | refine blk_drew ?_ | refine blk_alloc ?_ _)); refine blk_put (cs := #[.slice Ao111 t486.length co111, .slice none 0 0]) ?_ 1 _ rfl; (with_reducible repeat (first | refine blk_drewN ?_ _ | refine blk_drew ?_ | refine blk_alloc ?_ _)); refine blk_put (cs := #[.slice none 0 0, .slice none 0 0]) ?_ 0 _ rfl; (with_reducible repeat (first | refine blk_drewN ?_ _ | refine blk_drew ?_ | refine blk_alloc ?_ _)); exact BK493.out) hb); have n10 := Az (below_step (bU2 HB.out GE471.out GE493.out) hb); clear HO_4 HO_6 HO_Z0 HO_Z1 HO484 HO488 HO491 BK471 BK493 HB; have HO_4 := n0; have HO_6 := n1; have HO_Z0 := n2; have HO_Z1 := n3; have HO484 := n4; have HO488 := n5; have HO491 := n6; have HO496 := n7; have BK471 := n8; have BK493 := n9; have HB := n10; clear n0 n1 n2 n3 n4 n5 n6 n7 n8 n9 n10; (try clear hb); (try clear hb2); (try clear hk); (try clear hi); (try clear ho0)))
       have n0 := Az (Kd.R_drew HO_4.out); have n1 := Az (Kd.R_drew HO_6.out); have n2 := Az (Kd.Q_drew HO_Z0.out); have n3 := Az (Kd.R_drew HO_Z1.out); have n4 := Az (Kd.R_drew HO484.out); have n5 := Az (Kd.R_drew HO488.out); have n6 := Az (Kd.R_drew HO491.out); have n7 := Az (Kd.R_drew HO496.out); have n8 := Az (blk_drew BK471.out); have n9 := Az (blk_drew BK493.out); have n10 := Az (below_drew1 HB.out); clear HO_4 HO_6 HO_Z0 HO_Z1 HO484 HO488 HO491 HO496 BK471 BK493 HB; have HO_4 := n0; have HO_6 := n1; have HO_Z0 := n2; have HO_Z1 := n3; have HO484 := n4; have HO488 := n5; have HO491 := n6; have HO496 := n7; have BK471 := n8; have BK493 := n9; have HB := n10; clear n0 n1 n2 n3 n4 n5 n6 n7 n8 n9 n10
       refine start_ (n := 42) (S := fun w' => True) (ds := []) (laws_FnDegrees_up [(0, some 65), (1, some 66), (2, some 67), (3, some 68), (4, some 69), (5, some 70), (6, some 71), (7, some 72), (8, some 73), (9, some 74), (10, some 75), (11, some 76), (12, some 77), (13, some 78), (14, some 79), (15, some 80), (16, some 81), (17, some 82), (18, some 83), (19, some 84), (20, some 85), (21, some 86), (22, some 87), (23, some 88), (24, some 89), (25, some 90), (26, some 91), (27, some 92), (28, some 93), (29, some 94), (30, some 95), (31, some 96), (32, some 97), (33, some 98), (34, some 99), (35, some 100), (36, some 101), (37, some 102), (38, some 103), (39, some 104), (40, some 105), (41, some 2)] 42) (by kernel_rfl) rfl rfl trivial (fun hHeld => ?_); refine with_tabW laws_FnDegrees.tab11 laws_FnDegrees.bits11 (fun HT_ HW_ => ?_)
       generalize w115.drew = w116 at HO_4 HO_6 HO_Z0 HO_Z1 HO484 HO488 HO491 HO496 BK471 BK493 HB hHeld ⊢
       repeat (first | (refine laws_FnDegrees_uS rfl rfl (any_of HT_.out (by kernel_rfl)) (fun _ _ _ h => h) (by rfl) (a' := ?_) ?_ ?_; rotate_left; (· simp only [Act.put, List.setIfInBounds_toArray, List.set_cons_zero, List.set_cons_succ, i64_w, i32_w]; rfl)) | (refine laws_FnDegrees_uP rfl rfl (any_of HT_.out (by kernel_rfl)) (fun _ _ _ h => h) (by rfl) (v := ?_) (a' := ?_) ?_ ?_ ?_; rotate_left; (· intro w'; go_simp; with_reducible rfl); rotate_left; (· simp only [Act.put, List.setIfInBounds_toArray, List.set_cons_zero, List.set_cons_succ, i64_w, i32_w]; rfl)))
       refine done_ (done_of HT_.out (by kernel_rfl)) ?_
       try go_wp2
       go_ret
       exact ⟨rE, bU2 HB.out GE471.out GE493.out⟩
     ·
      replace c30 := Bool.eq_false_iff.mpr c30; subst c30
      have H1 : (some false) = some r := by rw [if_neg (show ¬ (false = true) by decide)] at H; exact H
      clear H; have H := H1; clear H1; obtain rfl := Option.some.inj H; have hcz117_0 : wc.cell? ⟨gb471, 0, none⟩ = some (.slice Ao9 t465.length co9) := (blk_cell BK471.out 0).trans rfl; have hcz117_1 : wc.cell? ⟨gb471, 1, none⟩ = some (.slice Ao11 t468.length co11) := (blk_cell BK471.out 1).trans rfl; have hfz117_0 := blk_frozen BK471.out 0; have hfz117_1 := blk_frozen BK471.out 1
      try go_wp2_with (first | ((with_reducible refine gate_callee (f := 16) rfl ?_); refine goesL_ (some 52) rfl rfl Try.func16 (by kernel_rfl) rfl #[.agg #[.slice Ao9 t465.length co9, .slice Ao11 t468.length co11]] rfl (by (try simp only [List.map_toArray, List.map_cons, List.map_nil]); first | done | rfl | (simp only [List.length_drop, List.length_take]; rfl)) ?_; (with_reducible refine (impl_MapCounts.calls kj5 _ _ t465 _ _ t468 t482 false _ ?side1 ?side2 ?side3 ?side4 A27.out).mono ?_); (case side1 => exact cU ((Kd.Q_reads' HO_Z0.out).2.2)); (case side2 => exact (Kd.Q_reads' HO_Z0.out).2.1); (case side3 => exact cU ((Kd.R_reads' HO_Z1.out).2.2)); (case side4 => exact (Kd.R_reads' HO_Z1.out).2.1); rintro e w118 ⟨v483, rfl, ho0, hb⟩; refine ⟨_, rfl, ?_⟩; have n0 := Az (Kd.R_elder' (rU HO_4.out) (Kd.R_base ho0) hb); have n1 := Az (Kd.R_elder' (rU HO_6.out) (Kd.R_base ho0) hb); have n2 := Az (Kd.Q_elder' (qU HO_Z0.out) (Kd.R_base ho0) hb); have n3 := Az (Kd.R_elder' (rU HO_Z1.out) (Kd.R_base ho0) hb); have n4 := Az (Kd.R_lower (Kd.R_new' (Kd.R_new' (Kd.R_new' (Kd.R_new' ho0 (Kd.R_lt (rU HO_4.out))) (Kd.R_lt (rU HO_6.out))) (Kd.Q_lt (qU HO_Z0.out))) (Kd.R_lt (rU HO_Z1.out))) (below_size (bU1 HB.out GE471.out))); have n5 := Az (blk_below (g := gb471) (o := .cells #[.slice Ao9 t465.length co9, .slice Ao11 t468.length co11] 25 (0, 0)) (kU BK471.out) hb); have n6 := Az (below_step (bU1 HB.out GE471.out) hb); clear HO_4 HO_6 HO_Z0 HO_Z1 BK471 HB; have HO_4 := n0; have HO_6 := n1; have HO_Z0 := n2; have HO_Z1 := n3; have HO484 := n4; have BK471 := n5; have HB := n6; clear n0 n1 n2 n3 n4 n5 n6; (try clear hb); (try clear hb2); (try clear hk); (try clear hi); (try clear ho0); have hcz119_0 : w118.cell? ⟨gb471, 0, none⟩ = some (.slice Ao9 t465.length co9) := (blk_cell BK471.out 0).trans rfl; have hcz119_1 : w118.cell? ⟨gb471, 1, none⟩ = some (.slice Ao11 t468.length co11) := (blk_cell BK471.out 1).trans rfl; have hfz119_0 := blk_frozen BK471.out 0; have hfz119_1 := blk_frozen BK471.out 1) | ((with_reducible refine gate_callee (f := 17) rfl ?_); refine goesL_ (some 57) rfl rfl Try.func17 (by kernel_rfl) rfl #[.agg #[.slice Ao9 t465.length co9, .slice Ao11 t468.length co11]] rfl (by (try simp only [List.map_toArray, List.map_cons, List.map_nil]); first | done | rfl | (simp only [List.length_drop, List.length_take]; rfl)) ?_; (with_reducible refine (impl_MapDual.calls kj5 _ _ t465 _ _ t468 t486 t489 t492 _ ?side1 ?side2 ?side3 ?side4 A28.out).mono ?_); (case side1 => exact cU ((Kd.Q_reads' HO_Z0.out).2.2)); (case side2 => exact (Kd.Q_reads' HO_Z0.out).2.1); (case side3 => exact cU ((Kd.R_reads' HO_Z1.out).2.2)); (case side4 => exact (Kd.R_reads' HO_Z1.out).2.1); rintro e w120 ⟨v487, v490, rfl, ho0, ho1, hb⟩; refine ⟨_, rfl, ?_⟩; have n0 := Az (Kd.R_mono (Kd.R_told (Kd.R_told (Kd.R_old (rU HO_4.out) hb) (Kd.R_base ho0)) (Kd.R_base ho1)) (fun _ h_ => h_.1)); have n1 := Az (Kd.R_mono (Kd.R_told (Kd.R_told (Kd.R_old (rU HO_6.out) hb) (Kd.R_base ho0)) (Kd.R_base ho1)) (fun _ h_ => h_.1)); have n2 := Az (Kd.Q_mono (Kd.Q_told (Kd.Q_told (Kd.Q_old (qU HO_Z0.out) hb) (Kd.R_base ho0)) (Kd.R_base ho1)) (fun _ h_ => h_.1)); have n3 := Az (Kd.R_mono (Kd.R_told (Kd.R_told (Kd.R_old (rU HO_Z1.out) hb) (Kd.R_base ho0)) (Kd.R_base ho1)) (fun _ h_ => h_.1)); have n4 := Az (Kd.R_mono (Kd.R_told (Kd.R_told (Kd.R_old (rU HO484.out) hb) (Kd.R_base ho0)) (Kd.R_base ho1)) (fun _ h_ => h_.1)); have n5 := Az (Kd.R_lower (Kd.R_new' (Kd.R_new' (Kd.R_new' (Kd.R_new' (Kd.R_new' ho0 (Kd.R_lt (rU HO_4.out))) (Kd.R_lt (rU HO_6.out))) (Kd.Q_lt (qU HO_Z0.out))) (Kd.R_lt (rU HO_Z1.out))) (Kd.R_lt (rU HO484.out))) (below_size (bU1 HB.out GE471.out))); have n6 := Az (Kd.R_lower (Kd.R_new' (Kd.R_new' (Kd.R_new' (Kd.R_new' (Kd.R_new' ho1 (Kd.R_lt (rU HO_4.out))) (Kd.R_lt (rU HO_6.out))) (Kd.Q_lt (qU HO_Z0.out))) (Kd.R_lt (rU HO_Z1.out))) (Kd.R_lt (rU HO484.out))) (below_size (bU1 HB.out GE471.out))); have n7 := Az (blk_below (g := gb471) (o := .cells #[.slice Ao9 t465.length co9, .slice Ao11 t468.length co11] 25 (0, 0)) (kU BK471.out) hb); have n8 := Az (below_step (bU1 HB.out GE471.out) hb); clear HO_4 HO_6 HO_Z0 HO_Z1 HO484 BK471 HB; have HO_4 := n0; have HO_6 := n1; have HO_Z0 := n2; have HO_Z1 := n3; have HO484 := n4; have HO488 := n5; have HO491 := n6; have BK471 := n7; have HB := n8; clear n0 n1 n2 n3 n4 n5 n6 n7 n8; (try clear hb); (try clear hb2); (try clear hk); (try clear hi); (try clear ho0); (try clear ho1)) | ((with_reducible refine gate_dst (N := 10) rfl ?_); (try (refine gate_guard (by rfl) ?_; dsimp only)); refine box_event ?hg (N := 10) ?hd (cs := #[.slice none 0 0, .slice none 0 0]) (t := 25) ?hr ?_; (case hd => rfl); (case hg => rfl); (case hr => first | (go_simp; done) | (go_simp; rfl)); intro gb493 hg w121 hbox hb; have n0 := Az (Kd.R_below (rU HO_4.out) hb); have n1 := Az (Kd.R_below (rU HO_6.out) hb); have n2 := Az (Kd.Q_below (qU HO_Z0.out) hb); have n3 := Az (Kd.R_below (rU HO_Z1.out) hb); have n4 := Az (Kd.R_below (rU HO484.out) hb); have n5 := Az (Kd.R_below (rU HO488.out) hb); have n6 := Az (Kd.R_below (rU HO491.out) hb); have n7 := Az (blk_below (g := gb471) (o := .cells #[.slice Ao9 t465.length co9, .slice Ao11 t468.length co11] 25 (0, 0)) (kU BK471.out) hb); have n8 := Az (below_step (bU1 HB.out GE471.out) hb); have n9 := Az (hbox); have n10 := Az ((by rw [hg]; exact (below_size (bU1 HB.out GE471.out)) : w.heap.size ≤ gb493)); have n11 := n10; have n12 := Az ((by rw [hg]; exact Nat.ne_of_lt (blk_lt (g := gb471) (o := .cells #[.slice Ao9 t465.length co9, .slice Ao11 t468.length co11] 25 (0, 0)) (kU BK471.out)) : gb471 ≠ gb493)); have n13 := Az ((by rw [hg]; exact Nat.ne_of_gt (blk_lt (g := gb471) (o := .cells #[.slice Ao9 t465.length co9, .slice Ao11 t468.length co11] 25 (0, 0)) (kU BK471.out)) : gb493 ≠ gb471)); clear HO_4 HO_6 HO_Z0 HO_Z1 HO484 HO488 HO491 BK471 HB; have HO_4 := n0; have HO_6 := n1; have HO_Z0 := n2; have HO_Z1 := n3; have HO484 := n4; have HO488 := n5; have HO491 := n6; have BK471 := n7; have HB := n8; have BK493 := n9; have GW493 := n10; have GE493 := n11; have NB471_493 := n12; have NB493_471 := n13; clear n0 n1 n2 n3 n4 n5 n6 n7 n8 n9 n10 n11 n12 n13 hb hbox hg; obtain ⟨Ao122, co122, eo122⟩ := Kd.R_slice HO488.out; subst eo122; have hnb123 := NB493_471.out; have hnc123 := NB471_493.out; have hcz124_0 : w121.cell? ⟨gb493, 0, none⟩ = some (.slice none 0 0) := (blk_cell BK493.out 0).trans rfl; have hcz124_1 : w121.cell? ⟨gb493, 1, none⟩ = some (.slice none 0 0) := (blk_cell BK493.out 1).trans rfl; have hfz124_0 := blk_frozen BK493.out 0; have hfz124_1 := blk_frozen BK493.out 1; obtain ⟨Ao125, co125, eo125⟩ := Kd.R_slice HO491.out; subst eo125) | ((with_reducible refine gate_callee (f := 34) rfl ?_); refine goesL_ (some 62) rfl rfl Try.func34 (by kernel_rfl) rfl #[.agg #[.slice Ao122 t486.length co122, .slice Ao125 t489.length co125]] rfl (by (try simp only [List.map_toArray, List.map_cons, List.map_nil]); first | done | rfl | (simp only [List.length_drop, List.length_take]; rfl)) ?_; (with_reducible refine (impl_MapDegrees.calls kj5 _ _ t486 _ _ t489 t494 t497 _ ?side1 ?side2 ?side3 ?side4 A29.out).mono ?_); (case side1 => refine (Kd.R_reads' (e := 3) (base := w.heap.size) (ok := fun k_ => (((((some k_ ≠ (.slice Ao125 t489.length co125 : Value).ownBlock ∧ some k_ ≠ (v473 : Value).ownBlock) ∧ some k_ ≠ (v477 : Value).ownBlock) ∧ some k_ ≠ (.slice Ao9 t465.length co9 : Value).ownBlock) ∧ some k_ ≠ (.slice Ao11 t468.length co11 : Value).ownBlock) ∧ some k_ ≠ (v483 : Value).ownBlock)) (n := t486.length) (c := co122) ?_).2.2; exact (by (with_reducible repeat (first | apply Kd.R_alloc | apply Kd.R_drewN | apply Kd.R_drew)); exact (Kd.R_mono (Kd.R_far (p := ⟨gb493, 1, none⟩) (Kd.R_far (p := ⟨gb493, 0, none⟩) (Kd.R_types HO488.out BK493.out (by decide)) (fun _ hk => hk.2) (.slice Ao122 t486.length co122)) (fun _ hk => hk.2) (.slice Ao125 t489.length co125)) (fun _ h_ => h_.1)))); (case side2 => exact (Kd.R_reads' HO488.out).2.1); (case side3 => refine (Kd.R_reads' (e := 3) (base := w.heap.size) (ok := fun k_ => (((((some k_ ≠ (.slice Ao122 t486.length co122 : Value).ownBlock ∧ some k_ ≠ (v473 : Value).ownBlock) ∧ some k_ ≠ (v477 : Value).ownBlock) ∧ some k_ ≠ (.slice Ao9 t465.length co9 : Value).ownBlock) ∧ some k_ ≠ (.slice Ao11 t468.length co11 : Value).ownBlock) ∧ some k_ ≠ (v483 : Value).ownBlock)) (n := t489.length) (c := co125) ?_).2.2; exact (by (with_reducible repeat (first | apply Kd.R_alloc | apply Kd.R_drewN | apply Kd.R_drew)); exact (Kd.R_mono (Kd.R_far (p := ⟨gb493, 1, none⟩) (Kd.R_far (p := ⟨gb493, 0, none⟩) (Kd.R_types HO491.out BK493.out (by decide)) (fun _ hk => hk.2) (.slice Ao122 t486.length co122)) (fun _ hk => hk.2) (.slice Ao125 t489.length co125)) (fun _ h_ => h_.1)))); (case side4 => exact (Kd.R_reads' HO491.out).2.1); rintro e w126 ⟨v495, rfl, ho0, hb⟩; refine ⟨_, rfl, ?_⟩; have n0 := Az (Kd.R_elder' (by (with_reducible repeat (first | apply Kd.R_alloc | apply Kd.R_drewN | apply Kd.R_drew)); exact (Kd.R_mono (Kd.R_far (p := ⟨gb493, 1, none⟩) (Kd.R_far (p := ⟨gb493, 0, none⟩) (Kd.R_types HO_4.out BK493.out (by decide)) (fun _ hk => hk.2) (.slice Ao122 t486.length co122)) (fun _ hk => hk.2) (.slice Ao125 t489.length co125)) (fun _ h_ => h_.1))) (Kd.R_base ho0) hb); have n1 := Az (Kd.R_elder' (by (with_reducible repeat (first | apply Kd.R_alloc | apply Kd.R_drewN | apply Kd.R_drew)); exact (Kd.R_mono (Kd.R_far (p := ⟨gb493, 1, none⟩) (Kd.R_far (p := ⟨gb493, 0, none⟩) (Kd.R_types HO_6.out BK493.out (by decide)) (fun _ hk => hk.2) (.slice Ao122 t486.length co122)) (fun _ hk => hk.2) (.slice Ao125 t489.length co125)) (fun _ h_ => h_.1))) (Kd.R_base ho0) hb); have n2 := Az (Kd.Q_elder' (by (with_reducible repeat (first | apply Kd.Q_alloc | apply Kd.Q_drewN | apply Kd.Q_drew)); exact (Kd.Q_mono (Kd.Q_far (p := ⟨gb493, 1, none⟩) (Kd.Q_far (p := ⟨gb493, 0, none⟩) (Kd.Q_types HO_Z0.out BK493.out (by decide)) (fun _ hk => hk.2) (.slice Ao122 t486.length co122)) (fun _ hk => hk.2) (.slice Ao125 t489.length co125)) (fun _ h_ => h_.1))) (Kd.R_base ho0) hb); have n3 := Az (Kd.R_elder' (by (with_reducible repeat (first | apply Kd.R_alloc | apply Kd.R_drewN | apply Kd.R_drew)); exact (Kd.R_mono (Kd.R_far (p := ⟨gb493, 1, none⟩) (Kd.R_far (p := ⟨gb493, 0, none⟩) (Kd.R_types HO_Z1.out BK493.out (by decide)) (fun _ hk => hk.2) (.slice Ao122 t486.length co122)) (fun _ hk => hk.2) (.slice Ao125 t489.length co125)) (fun _ h_ => h_.1))) (Kd.R_base ho0) hb); have n4 := Az (Kd.R_elder' (by (with_reducible repeat (first | apply Kd.R_alloc | apply Kd.R_drewN | apply Kd.R_drew)); exact (Kd.R_mono (Kd.R_far (p := ⟨gb493, 1, none⟩) (Kd.R_far (p := ⟨gb493, 0, none⟩) (Kd.R_types HO484.out BK493.out (by decide)) (fun _ hk => hk.2) (.slice Ao122 t486.length co122)) (fun _ hk => hk.2) (.slice Ao125 t489.length co125)) (fun _ h_ => h_.1))) (Kd.R_base ho0) hb); have n5 := Az (Kd.R_elder' (by (with_reducible repeat (first | apply Kd.R_alloc | apply Kd.R_drewN | apply Kd.R_drew)); exact (Kd.R_mono (Kd.R_far (p := ⟨gb493, 1, none⟩) (Kd.R_far (p := ⟨gb493, 0, none⟩) (Kd.R_types HO488.out BK493.out (by decide)) (fun _ hk => hk.2) (.slice Ao122 t486.length co122)) (fun _ hk => hk.2) (.slice Ao125 t489.length co125)) (fun _ h_ => h_.1))) (Kd.R_base ho0) hb); have n6 := Az (Kd.R_elder' (by (with_reducible repeat (first | apply Kd.R_alloc | apply Kd.R_drewN | apply Kd.R_drew)); exact (Kd.R_mono (Kd.R_far (p := ⟨gb493, 1, none⟩) (Kd.R_far (p := ⟨gb493, 0, none⟩) (Kd.R_types HO491.out BK493.out (by decide)) (fun _ hk => hk.2) (.slice Ao122 t486.length co122)) (fun _ hk => hk.2) (.slice Ao125 t489.length co125)) (fun _ h_ => h_.1))) (Kd.R_base ho0) hb); have n7 := Az (Kd.R_lower (Kd.R_new' (Kd.R_new' (Kd.R_new' (Kd.R_new' (Kd.R_new' (Kd.R_new' (Kd.R_new' ho0 (Kd.R_lt (by (with_reducible repeat (first | apply Kd.R_alloc | apply Kd.R_drewN | apply Kd.R_drew)); exact (Kd.R_mono (Kd.R_far (p := ⟨gb493, 1, none⟩) (Kd.R_far (p := ⟨gb493, 0, none⟩) (Kd.R_types HO_4.out BK493.out (by decide)) (fun _ hk => hk.2) (.slice Ao122 t486.length co122)) (fun _ hk => hk.2) (.slice Ao125 t489.length co125)) (fun _ h_ => h_.1))))) (Kd.R_lt (by (with_reducible repeat (first | apply Kd.R_alloc | apply Kd.R_drewN | apply Kd.R_drew)); exact (Kd.R_mono (Kd.R_far (p := ⟨gb493, 1, none⟩) (Kd.R_far (p := ⟨gb493, 0, none⟩) (Kd.R_types HO_6.out BK493.out (by decide)) (fun _ hk => hk.2) (.slice Ao122 t486.length co122)) (fun _ hk => hk.2) (.slice Ao125 t489.length co125)) (fun _ h_ => h_.1))))) (Kd.Q_lt (by (with_reducible repeat (first | apply Kd.Q_alloc | apply Kd.Q_drewN | apply Kd.Q_drew)); exact (Kd.Q_mono (Kd.Q_far (p := ⟨gb493, 1, none⟩) (Kd.Q_far (p := ⟨gb493, 0, none⟩) (Kd.Q_types HO_Z0.out BK493.out (by decide)) (fun _ hk => hk.2) (.slice Ao122 t486.length co122)) (fun _ hk => hk.2) (.slice Ao125 t489.length co125)) (fun _ h_ => h_.1))))) (Kd.R_lt (by (with_reducible repeat (first | apply Kd.R_alloc | apply Kd.R_drewN | apply Kd.R_drew)); exact (Kd.R_mono (Kd.R_far (p := ⟨gb493, 1, none⟩) (Kd.R_far (p := ⟨gb493, 0, none⟩) (Kd.R_types HO_Z1.out BK493.out (by decide)) (fun _ hk => hk.2) (.slice Ao122 t486.length co122)) (fun _ hk => hk.2) (.slice Ao125 t489.length co125)) (fun _ h_ => h_.1))))) (Kd.R_lt (by (with_reducible repeat (first | apply Kd.R_alloc | apply Kd.R_drewN | apply Kd.R_drew)); exact (Kd.R_mono (Kd.R_far (p := ⟨gb493, 1, none⟩) (Kd.R_far (p := ⟨gb493, 0, none⟩) (Kd.R_types HO484.out BK493.out (by decide)) (fun _ hk => hk.2) (.slice Ao122 t486.length co122)) (fun _ hk => hk.2) (.slice Ao125 t489.length co125)) (fun _ h_ => h_.1))))) (Kd.R_lt (by (with_reducible repeat (first | apply Kd.R_alloc | apply Kd.R_drewN | apply Kd.R_drew)); exact (Kd.R_mono (Kd.R_far (p := ⟨gb493, 1, none⟩) (Kd.R_far (p := ⟨gb493, 0, none⟩) (Kd.R_types HO488.out BK493.out (by decide)) (fun _ hk => hk.2) (.slice Ao122 t486.length co122)) (fun _ hk => hk.2) (.slice Ao125 t489.length co125)) (fun _ h_ => h_.1))))) (Kd.R_lt (by (with_reducible repeat (first | apply Kd.R_alloc | apply Kd.R_drewN | apply Kd.R_drew)); exact (Kd.R_mono (Kd.R_far (p := ⟨gb493, 1, none⟩) (Kd.R_far (p := ⟨gb493, 0, none⟩) (Kd.R_types HO491.out BK493.out (by decide)) (fun _ hk => hk.2) (.slice Ao122 t486.length co122)) (fun _ hk => hk.2) (.slice Ao125 t489.length co125)) (fun _ h_ => h_.1))))) (below_size (bU2 HB.out GE471.out GE493.out))); have n8 := Az (blk_below (g := gb471) (o := .cells #[.slice Ao9 t465.length co9, .slice Ao11 t468.length co11] 25 (0, 0)) (by (with_reducible repeat (first | refine blk_drewN ?_ _ | refine blk_drew ?_ | refine blk_alloc ?_ _)); refine blk_far ?_ NB471_493.out _; (with_reducible repeat (first | refine blk_drewN ?_ _ | refine blk_drew ?_ | refine blk_alloc ?_ _)); refine blk_far ?_ NB471_493.out _; (with_reducible repeat (first | refine blk_drewN ?_ _ | refine blk_drew ?_ | refine blk_alloc ?_ _)); exact BK471.out) hb); have n9 := Az (blk_below (g := gb493) (o := .cells #[.slice Ao122 t486.length co122, .slice Ao125 t489.length co125] 25 (0, 0)) (by (with_reducible repeat (first | refine blk_drewN ?_ _ | refine blk_drew ?_ | refine blk_alloc ?_ _)); refine blk_put (cs := #[.slice Ao122 t486.length co122, .slice none 0 0]) ?_ 1 _ rfl; (with_reducible repeat (first | refine blk_drewN ?_ _ | refine blk_drew ?_ | refine blk_alloc ?_ _)); refine blk_put (cs := #[.slice none 0 0, .slice none 0 0]) ?_ 0 _ rfl; (with_reducible repeat (first | refine blk_drewN ?_ _ | refine blk_drew ?_ | refine blk_alloc ?_ _)); exact BK493.out) hb); have n10 := Az (below_step (bU2 HB.out GE471.out GE493.out) hb); clear HO_4 HO_6 HO_Z0 HO_Z1 HO484 HO488 HO491 BK471 BK493 HB; have HO_4 := n0; have HO_6 := n1; have HO_Z0 := n2; have HO_Z1 := n3; have HO484 := n4; have HO488 := n5; have HO491 := n6; have HO496 := n7; have BK471 := n8; have BK493 := n9; have HB := n10; clear n0 n1 n2 n3 n4 n5 n6 n7 n8 n9 n10; (try clear hb); (try clear hb2); (try clear hk); (try clear hi); (try clear ho0)))
      have n0 := Az (Kd.R_drew HO_4.out); have n1 := Az (Kd.R_drew HO_6.out); have n2 := Az (Kd.Q_drew HO_Z0.out); have n3 := Az (Kd.R_drew HO_Z1.out); have n4 := Az (Kd.R_drew HO484.out); have n5 := Az (Kd.R_drew HO488.out); have n6 := Az (Kd.R_drew HO491.out); have n7 := Az (Kd.R_drew HO496.out); have n8 := Az (blk_drew BK471.out); have n9 := Az (blk_drew BK493.out); have n10 := Az (below_drew1 HB.out); clear HO_4 HO_6 HO_Z0 HO_Z1 HO484 HO488 HO491 HO496 BK471 BK493 HB; have HO_4 := n0; have HO_6 := n1; have HO_Z0 := n2; have HO_Z1 := n3; have HO484 := n4; have HO488 := n5; have HO491 := n6; have HO496 := n7; have BK471 := n8; have BK493 := n9; have HB := n10; clear n0 n1 n2 n3 n4 n5 n6 n7 n8 n9 n10
      refine start_ (n := 42) (S := fun w' => True) (ds := []) (laws_FnDegrees_up [(0, some 65), (1, some 66), (2, some 67), (3, some 68), (4, some 69), (5, some 70), (6, some 71), (7, some 72), (8, some 73), (9, some 74), (10, some 75), (11, some 76), (12, some 77), (13, some 78), (14, some 79), (15, some 80), (16, some 81), (17, some 82), (18, some 83), (19, some 84), (20, some 85), (21, some 86), (22, some 87), (23, some 88), (24, some 89), (25, some 90), (26, some 91), (27, some 92), (28, some 93), (29, some 94), (30, some 95), (31, some 96), (32, some 97), (33, some 98), (34, some 99), (35, some 100), (36, some 101), (37, some 102), (38, some 103), (39, some 104), (40, some 105), (41, some 2)] 42) (by kernel_rfl) rfl rfl trivial (fun hHeld => ?_); refine with_tabW laws_FnDegrees.tab11 laws_FnDegrees.bits11 (fun HT_ HW_ => ?_)
      generalize w126.drew = w127 at HO_4 HO_6 HO_Z0 HO_Z1 HO484 HO488 HO491 HO496 BK471 BK493 HB hHeld ⊢
      repeat (first | (refine laws_FnDegrees_uS rfl rfl (any_of HT_.out (by kernel_rfl)) (fun _ _ _ h => h) (by rfl) (a' := ?_) ?_ ?_; rotate_left; (· simp only [Act.put, List.setIfInBounds_toArray, List.set_cons_zero, List.set_cons_succ, i64_w, i32_w]; rfl)) | (refine laws_FnDegrees_uP rfl rfl (any_of HT_.out (by kernel_rfl)) (fun _ _ _ h => h) (by rfl) (v := ?_) (a' := ?_) ?_ ?_ ?_; rotate_left; (· intro w'; go_simp; with_reducible rfl); rotate_left; (· simp only [Act.put, List.setIfInBounds_toArray, List.set_cons_zero, List.set_cons_succ, i64_w, i32_w]; rfl)))
      refine done_ (done_of HT_.out (by kernel_rfl)) ?_
      try go_wp2
      go_ret
      exact ⟨rE, bU2 HB.out GE471.out GE493.out⟩
def laws_FnDegrees.Pure : Prop := ∀ (l0 : List Int), l0.length ≤ maxLen → l0.length * 1 ≤ 140737488351232 → (∀ x ∈ l0, (Lit.int .u8 x).wf = true) → ∃ k, laws_FnDegrees.f k l0 = some true
theorem laws_FnDegrees.walk (P : laws_FnDegrees.Pure) (a0 : Option Addr) (len0 cap0 : Nat) (z0 : List Int) (w : World) (w0 : (a0 = none ∧ len0 = 0 ∧ cap0 = 0 ∧ z0 = []) ∨ ∃ x, a0 = some x ∧ len0 ≤ cap0 ∧ cap0 ≤ maxLen ∧ z0.length = cap0 ∧ (∀ i, i < z0.length → w.cell? (x.add i) = some (.int .u8 (z0.getD i 0))) ∧ ∀ n ∈ z0, (Lit.int .u8 n).wf = true) (y0 : len0 * 1 ≤ 140737488351232) :
  Calls Try.prog 6 #[.slice a0 len0 cap0] w fun e w' => e = .returned (.bool true) ∧ Below w.heap.size w w' := by
 obtain ⟨l0, rfl, hr0, hm0, hw0, hc0⟩ := ReadsInt.ofRowC w0; obtain ⟨k, h⟩ := P l0 hm0 y0 hw0
 refine (laws_FnDegrees.calls k _ _ l0 true w (Kd.C_of_reads (d := (0 : Int)) (h1 := fun _ => rfl) hr0) hc0 h).mono ?_
 rintro e w' ⟨rfl, hd⟩
 exact ⟨rfl, hd⟩
end Go.Proofs.Ytggghijamfmenaa.PA

set_option linter.unusedVariables false
set_option linter.unusedSimpArgs false
namespace Go.Proofs.Ytggghijamfmenaa.PA
open Go.RowKit Go.Proofs.YtggghijamfmenaaW.PrintWords Go.Proofs.YtggghijamfmenaaW.PrintLast Go.Proofs.YtggghijamfmenaaW.PrintMore
theorem Ev.s {α : Type} {g : Nat → Option α} {r : α} (h : Ev (fun k => g (k + 1)) r) : Ev g r := Ev.step (fun _ => rfl) h
theorem Ev.const {α : Type} {o : Option α} {r : α} (h : o = some r) : Ev (fun _ => o) r := ⟨0, fun _ _ => h⟩
theorem w64 {x : Int} (h1 : -9223372036854775808 ≤ x) (h2 : x < 9223372036854775808) : wrap64 x = x := by unfold wrap64; omega
theorem w64n {i : Nat} (h : i < 4611686018427387904) : wrap64 ((i : Int) + 1) = ((i + 1 : Nat) : Int) := by rw [w64 (by omega) (by omega)]; omega
theorem rd_lt (l : List Int) (i : Nat) (h : i < l.length) : rd l (i : Int) = l[i] := by
  unfold rd
  rw [Int.toNat_natCast, List.getD_eq_getElem?_getD, List.getElem?_eq_getElem h]
  rfl
def okAt (l : List Int) (i : Nat) : Prop := 0 ≤ rd l i ∧ rd l i < l.length ∧ ∀ k : Nat, k < i → rd l k ≠ rd l i
def isPerm (l : List Int) : Prop := 1 ≤ l.length ∧ l.length ≤ 12 ∧ ∀ i : Nat, i < l.length → okAt l i
theorem l6In_eq (a b c : Int) : spec_l6In.f a b c = some (decide (b ≤ a ∧ a ≤ c)) := by
  unfold spec_l6In.f
  by_cases h1 : a ≥ b
  · by_cases h2 : a ≤ c <;> simp [h1, h2]
  · simp [h1]
theorem specPerm_in (l : List Int) (hl : l.length ≤ 1048576) (i : Nat) (hi : i < l.length) : ∀ (d k : Nat), i - k = d → k ≤ i →
    ((∀ q : Nat, k ≤ q → q < i → rd l q ≠ rd l i) → ∀ r, Ev (fun z => spec_PermValid.l0 z l ((i + 1 : Nat) : Int)) r → Ev (fun z => spec_PermValid.l1 z l i k) r) ∧
    (¬ (∀ q : Nat, k ≤ q → q < i → rd l q ≠ rd l i) → Ev (fun z => spec_PermValid.l1 z l i k) false)
  | 0, k, hd, hk => by
    refine ⟨fun _ r h => Ev.s ?_, fun h => absurd (fun q h1 h2 => by omega) h⟩
    simp only [spec_PermValid.l1, show ¬ (k : Int) < (i : Int) by omega, if_false]
    rw [w64 (x := (i : Int) + 1) (by omega) (by omega), show ((i : Int) + 1) = ((i + 1 : Nat) : Int) by omega]
    exact h
  | d + 1, k, hd, hk => by
    have ih := specPerm_in l hl i hi d (k + 1) (by omega) (by omega)
    have hw : wrap64 ((k : Int) + 1) = ((k + 1 : Nat) : Int) := by rw [w64 (by omega) (by omega)]; omega
    by_cases e : rd l k = rd l i
    · refine ⟨fun h => absurd e (h k (Nat.le_refl _) (by omega)), fun h => Ev.s ?_⟩
      simp only [spec_PermValid.l1, show (k : Int) < (i : Int) by omega, show (0 : Int) ≤ k by omega, show (k : Int) < (l.length : Int) by omega, show (0 : Int) ≤ i by omega, show (i : Int) < (l.length : Int) by omega, e, if_true]
      exact Ev.const rfl
    · refine ⟨fun h r hr => Ev.s ?_, fun h => Ev.s ?_⟩
      · simp only [spec_PermValid.l1, show (k : Int) < (i : Int) by omega, show (0 : Int) ≤ k by omega, show (k : Int) < (l.length : Int) by omega, show (0 : Int) ≤ i by omega, show (i : Int) < (l.length : Int) by omega, e, if_true, if_false, hw]
        exact ih.1 (fun q h1 h2 => h q (by omega) h2) r hr
      · simp only [spec_PermValid.l1, show (k : Int) < (i : Int) by omega, show (0 : Int) ≤ k by omega, show (k : Int) < (l.length : Int) by omega, show (0 : Int) ≤ i by omega, show (i : Int) < (l.length : Int) by omega, e, if_true, if_false, hw]
        refine ih.2 fun h' => h fun q h1 h2 => ?_
        by_cases eq : q = k
        · rw [eq]; exact e
        · exact h' q (by omega) h2
theorem specPerm_run (l : List Int) (hl : l.length ≤ 1048576) : ∀ (d i : Nat), l.length - i = d → i ≤ l.length →
    ((∀ q : Nat, i ≤ q → q < l.length → okAt l q) → Ev (fun z => spec_PermValid.l0 z l i) (decide (1 ≤ (l.length : Int) ∧ (l.length : Int) ≤ 12))) ∧
    (¬ (∀ q : Nat, i ≤ q → q < l.length → okAt l q) → Ev (fun z => spec_PermValid.l0 z l i) false)
  | 0, i, hd, hi => by
    refine ⟨fun _ => Ev.s ?_, fun h => absurd (fun q h1 h2 => by omega) h⟩
    simp only [spec_PermValid.l0, show ¬ (i : Int) < (l.length : Int) by omega, if_false, l6In_eq, Option.bind_some]
    exact Ev.const rfl
  | d + 1, i, hd, hi => by
    have hlt : i < l.length := by omega
    have ih := specPerm_run l hl d (i + 1) (by omega) (by omega)
    have hin := specPerm_in l hl i hlt i 0 (by omega) (by omega)
    have hwl : wrap64 ((l.length : Int) - 1) = (l.length : Int) - 1 := w64 (by omega) (by omega)
    by_cases hr : 0 ≤ rd l i ∧ rd l i ≤ (l.length : Int) - 1
    · by_cases hn : ∀ q : Nat, 0 ≤ q → q < i → rd l q ≠ rd l i
      · refine ⟨fun h => Ev.s ?_, fun h => Ev.s ?_⟩
        · simp only [spec_PermValid.l0, show (i : Int) < (l.length : Int) by omega, show (0 : Int) ≤ i by omega, if_true, l6In_eq, Option.bind_some, hwl, hr, decide_true, and_self]
          exact hin.1 hn _ (ih.1 fun q h1 h2 => h q (by omega) h2)
        · simp only [spec_PermValid.l0, show (i : Int) < (l.length : Int) by omega, show (0 : Int) ≤ i by omega, if_true, l6In_eq, Option.bind_some, hwl, hr, decide_true, and_self]
          refine hin.1 hn _ (ih.2 fun h' => h fun q h1 h2 => ?_)
          by_cases e : q = i
          · rw [e]; exact ⟨hr.1, by omega, fun k hk => hn k (by omega) hk⟩
          · exact h' q (by omega) h2
      · refine ⟨fun h => absurd (fun q _ h2 => (h i (Nat.le_refl _) hlt).2.2 q h2) hn, fun h => Ev.s ?_⟩
        simp only [spec_PermValid.l0, show (i : Int) < (l.length : Int) by omega, show (0 : Int) ≤ i by omega, if_true, l6In_eq, Option.bind_some, hwl, hr, decide_true, and_self]
        exact hin.2 hn
    · refine ⟨fun h => absurd ⟨(h i (Nat.le_refl _) hlt).1, by have := (h i (Nat.le_refl _) hlt).2.1; omega⟩ hr, fun h => Ev.s ?_⟩
      simp only [spec_PermValid.l0, show (i : Int) < (l.length : Int) by omega, show (0 : Int) ≤ i by omega, if_true, l6In_eq, Option.bind_some, hwl, hr, decide_false, Bool.false_eq_true, if_false]
      exact Ev.const rfl
theorem implPerm_run (l : List Int) (hl : l.length ≤ 12) : ∀ (d i : Nat) (s : List Bool), l.length - i = d → i ≤ l.length → s.length = 12 → (∀ v : Nat, v < 12 → (s.getD v false = true ↔ ∃ k : Nat, k < i ∧ rd l k = v)) →
    ((∀ q : Nat, i ≤ q → q < l.length → okAt l q) → Ev (fun z => impl_PermValid.l0 z l s i) true) ∧
    (¬ (∀ q : Nat, i ≤ q → q < l.length → okAt l q) → Ev (fun z => impl_PermValid.l0 z l s i) false)
  | 0, i, s, hd, hi, hs, hv => by
    refine ⟨fun _ => Ev.s ?_, fun h => absurd (fun q h1 h2 => by omega) h⟩
    simp only [impl_PermValid.l0, show ¬ (i : Int) < (l.length : Int) by omega, if_false]
    exact Ev.const rfl
  | d + 1, i, s, hd, hi, hs, hv => by
    have hlt : i < l.length := by omega
    have hd1 : l.length - (i + 1) = d := by omega
    have hw : wrap64 ((i : Int) + 1) = ((i + 1 : Nat) : Int) := by rw [w64 (by omega) (by omega)]; omega
    by_cases h0 : rd l i < 0
    · refine ⟨fun h => absurd (h i (Nat.le_refl _) hlt).1 (by omega), fun h => Ev.s ?_⟩
      simp only [impl_PermValid.l0, show (i : Int) < (l.length : Int) by omega, show (0 : Int) ≤ i by omega, h0, if_true]
      exact Ev.const rfl
    · by_cases h1 : rd l i ≥ (l.length : Int)
      · refine ⟨fun h => absurd (h i (Nat.le_refl _) hlt).2.1 (by omega), fun h => Ev.s ?_⟩
        simp only [impl_PermValid.l0, show (i : Int) < (l.length : Int) by omega, show (0 : Int) ≤ i by omega, h0, h1, if_true, if_false]
        exact Ev.const rfl
      · have hvi := hv (rd l i).toNat (by omega)
        have hcast : (((rd l i).toNat : Nat) : Int) = rd l i := by omega
        rw [hcast] at hvi
        by_cases h2 : s.getD (rd l i).toNat false = true
        · obtain ⟨k, hk, hke⟩ := hvi.1 h2
          refine ⟨fun h => absurd hke ((h i (Nat.le_refl _) hlt).2.2 k hk), fun h => Ev.s ?_⟩
          simp only [impl_PermValid.l0, show (i : Int) < (l.length : Int) by omega, show (0 : Int) ≤ i by omega, h0, h1, h2, if_true, if_false]
          exact Ev.const rfl
        · have hnew : ∀ k : Nat, k < i → rd l k ≠ rd l i := fun k hk e => h2 (hvi.2 ⟨k, hk, e⟩)
          have ih := implPerm_run l hl d (i + 1) (s.set (rd l i).toNat true) hd1 hlt (by simpa using hs) (fun v hv12 => by
            by_cases ev : v = (rd l i).toNat
            · subst ev
              rw [List.getD_eq_getElem?_getD, List.getElem?_set_self (by omega)]
              simp only [Option.getD_some, true_iff]
              exact ⟨i, Nat.lt_succ_self i, hcast.symm⟩
            · rw [List.getD_eq_getElem?_getD, List.getElem?_set_ne (Ne.symm ev), ← List.getD_eq_getElem?_getD, hv v hv12]
              constructor
              · rintro ⟨k, hk, hke⟩; exact ⟨k, by omega, hke⟩
              · rintro ⟨k, hk, hke⟩
                by_cases e : k = i
                · subst e; omega
                · exact ⟨k, by omega, hke⟩)
          refine ⟨fun h => Ev.s ?_, fun h => Ev.s ?_⟩
          · simp only [impl_PermValid.l0, show (i : Int) < (l.length : Int) by omega, show (0 : Int) ≤ i by omega, h0, h1, h2, if_true, if_false, hw]
            exact ih.1 fun q g1 g2 => h q (by omega) g2
          · simp only [impl_PermValid.l0, show (i : Int) < (l.length : Int) by omega, show (0 : Int) ≤ i by omega, h0, h1, h2, if_true, if_false, hw]
            refine ih.2 fun h' => h fun q g1 g2 => ?_
            by_cases e : q = i
            · rw [e]; exact ⟨by omega, by omega, hnew⟩
            · exact h' q (by omega) g2
theorem permValid_both (l : List Int) (hl : l.length ≤ 1048576) : ∃ b : Bool, Ev (fun k => spec_PermValid.f k l) b ∧ Ev (fun k => impl_PermValid.f k l) b ∧ (b = true ↔ isPerm l) := by
  unfold spec_PermValid.f impl_PermValid.f
  have hs := specPerm_run l hl l.length 0 (by omega) (by omega)
  by_cases hall : ∀ q : Nat, 0 ≤ q → q < l.length → okAt l q
  · refine ⟨decide (1 ≤ (l.length : Int) ∧ (l.length : Int) ≤ 12), hs.1 hall, ?_, ?_⟩
    · by_cases h1 : (l.length : Int) < 1
      · simp only [h1, if_true]
        exact Ev.const (by congr 1; symm; rw [decide_eq_false_iff_not]; omega)
      · by_cases h2 : (l.length : Int) > 12
        · simp only [h1, h2, if_true, if_false]
          exact Ev.const (by congr 1; symm; rw [decide_eq_false_iff_not]; omega)
        · simp only [h1, h2, if_false]
          rw [decide_eq_true (by omega)]
          refine (implPerm_run l (by omega) l.length 0 _ (by omega) (by omega) (by simp) fun v hv => ?_).1 hall
          constructor
          · intro h
            rw [List.getD_eq_getElem?_getD, List.getElem?_replicate, if_pos hv] at h
            cases h
          · rintro ⟨k, hk, _⟩; omega
    · rw [decide_eq_true_eq]
      exact ⟨fun h => ⟨by omega, by omega, fun i hi => hall i (by omega) hi⟩, fun h => ⟨by have := h.1; omega, by have := h.2.1; omega⟩⟩
  · refine ⟨false, hs.2 hall, ?_, ?_⟩
    · by_cases h1 : (l.length : Int) < 1
      · simp only [h1, if_true]; exact Ev.const rfl
      · by_cases h2 : (l.length : Int) > 12
        · simp only [h1, h2, if_true, if_false]; exact Ev.const rfl
        · simp only [h1, h2, if_false]
          refine (implPerm_run l (by omega) l.length 0 _ (by omega) (by omega) (by simp) fun v hv => ?_).2 hall
          constructor
          · intro h
            rw [List.getD_eq_getElem?_getD, List.getElem?_replicate, if_pos hv] at h
            cases h
          · rintro ⟨k, hk, _⟩; omega
    · exact ⟨fun h => (by cases h), fun h => absurd (fun q _ hq => h.2.2 q hq) hall⟩
def stl (n : Nat) : List Int := (List.range n).map fun (i : Nat) => (i : Int)
theorem stl_length (n : Nat) : (stl n).length = n := by simp [stl]
theorem stl_rd (n i : Nat) (h : i < n) : rd (stl n) i = i := by
  rw [rd_lt _ _ (by rw [stl_length]; exact h)]
  simp [stl]
theorem stl_succ (n : Nat) : stl (n + 1) = stl n ++ [(n : Int)] := by simp [stl, List.range_succ]
theorem rd_set_self (l : List Int) (i : Nat) (v : Int) (h : i < l.length) : rd (l.set i v) i = v := by
  rw [rd_lt _ _ (by simpa using h)]; simp
theorem rd_set_ne (l : List Int) (i j : Nat) (v : Int) (h : i ≠ j) : rd (l.set i v) j = rd l j := by
  unfold rd
  rw [Int.toNat_natCast, List.getD_eq_getElem?_getD, List.getD_eq_getElem?_getD, List.getElem?_set_ne h]
theorem rd_app_lt (l m : List Int) (i : Nat) (h : i < l.length) : rd (l ++ m) i = rd l i := by
  unfold rd
  rw [Int.toNat_natCast, List.getD_eq_getElem?_getD, List.getD_eq_getElem?_getD, List.getElem?_append_left h]
theorem list_ext (a b : List Int) (h : a.length = b.length) (hr : ∀ i : Nat, i < a.length → rd a i = rd b i) : a = b := by
  refine List.ext_getElem h fun i h1 h2 => ?_
  have := hr i h1
  rwa [rd_lt a i h1, rd_lt b i h2] at this
theorem same_run (n : Nat) (hn : n ≤ 1048576) : ∀ (d i : Nat), n - i = d → i ≤ n → Ev (fun k => spec_l1Same.l0 k n (stl i) i) (stl n)
  | 0, i, hd, hi => by
    refine Ev.s ?_
    simp only [spec_l1Same.l0, show ¬ (i : Int) < (n : Int) by omega, if_false]
    have : i = n := by omega
    subst this
    exact Ev.const rfl
  | d + 1, i, hd, hi => by
    refine Ev.s ?_
    simp only [spec_l1Same.l0, show (i : Int) < (n : Int) by omega, if_true, stl_length, show i < 17592186044416 by omega]
    rw [w64 (x := (i : Int) + 1) (by omega) (by omega), show ((i : Int) + 1) = ((i + 1 : Nat) : Int) by omega, ← stl_succ]
    exact same_run n hn d (i + 1) (by omega) (by omega)
theorem same_ev (n : Nat) (hn : n ≤ 1048576) : Ev (fun k => spec_l1Same.f k n) (stl n) := by
  unfold spec_l1Same.f
  exact same_run n hn n 0 (by omega) (by omega)
theorem still_run (n : Nat) (hn : n ≤ 1048576) : ∀ (d i : Nat) (l : List Int), n - i = d → i ≤ n → l.length = n → l.take i = (stl n).take i → Ev (fun k => impl_still.l0 k l n i) (stl n)
  | 0, i, l, hd, hi, hl, ht => by
    refine Ev.s ?_
    simp only [impl_still.l0, show ¬ (i : Int) < (n : Int) by omega, if_false]
    have : i = n := by omega
    subst this
    have e : (stl i).take i = stl i := by rw [List.take_of_length_le]; rw [stl_length]; exact Nat.le_refl _
    rw [e, List.take_of_length_le (by omega)] at ht
    exact Ev.const (by rw [ht])
  | d + 1, i, l, hd, hi, hl, ht => by
    have hlt : i < l.length := by omega
    refine Ev.s ?_
    simp only [impl_still.l0, show (i : Int) < (n : Int) by omega, show (0 : Int) ≤ i by omega, show (i : Int) < (l.length : Int) by omega, if_true]
    rw [w64 (x := (i : Int) + 1) (by omega) (by omega), show ((i : Int) + 1) = ((i + 1 : Nat) : Int) by omega, Int.toNat_natCast]
    refine still_run n hn d (i + 1) _ (by omega) (by omega) (by simpa using hl) ?_
    have h2 : i < (stl n).length := by rw [stl_length]; omega
    rw [List.take_succ_eq_append_getElem (by simpa using hlt), List.take_succ_eq_append_getElem h2, List.take_set_of_le (Nat.le_refl _), ht]
    simp [stl]
theorem still_ev (n : Nat) (hn : n ≤ 1048576) : Ev (fun k => impl_still.f k n) (stl n) := by
  unfold impl_still.f
  have h1 : n ≤ 35184372088832 := by omega
  have h2 : (0 : Int) ≤ (n : Int) := by omega
  simp only [Int.toNat_natCast, h1, h2, if_true, Option.bind_some, List.length_replicate]
  exact still_run n hn n 0 _ (by omega) (by omega) (by simp) (by simp)
def inR (n : Nat) (p : List Int) : Prop := p.length = n ∧ ∀ i : Nat, i < n → 0 ≤ rd p i ∧ rd p i < n
def closedL (ps : List (List Int)) (n : Nat) (S : Nat → Prop) : Prop := ∀ p ∈ ps, ∀ k, k < n → (S k ↔ S (rd p k).toNat)
def Reach (ps : List (List Int)) (n : Nat) (i j : Nat) : Prop := ∀ S, closedL ps n S → (S i ↔ S j)
theorem Reach.refl (ps : List (List Int)) (n i : Nat) : Reach ps n i i := fun S _ => Iff.rfl
theorem Reach.symm {ps : List (List Int)} {n i j : Nat} (h : Reach ps n i j) : Reach ps n j i := fun S c => (h S c).symm
theorem Reach.trans {ps : List (List Int)} {n i j k : Nat} (h : Reach ps n i j) (h' : Reach ps n j k) : Reach ps n i k := fun S c => (h S c).trans (h' S c)
theorem Reach.step {ps : List (List Int)} {n : Nat} {p : List Int} (hp : p ∈ ps) {k : Nat} (hk : k < n) : Reach ps n k (rd p k).toNat := fun S c => c p hp k hk
def orbI (ps : List (List Int)) (n : Nat) (o : List Int) : Prop := o.length = n ∧ ∀ i : Nat, i < n → 0 ≤ rd o i ∧ rd o i ≤ i ∧ Reach ps n (rd o i).toNat i
def orbOk (ps : List (List Int)) (n : Nat) (o : List Int) : Prop := orbI ps n o ∧ ∀ p ∈ ps, ∀ i : Nat, i < n → rd o (rd p i) = rd o i
theorem stl_orbI (ps : List (List Int)) (n : Nat) : orbI ps n (stl n) := by
  refine ⟨stl_length n, fun i hi => ?_⟩
  rw [stl_rd n i hi]
  exact ⟨by omega, by omega, by rw [Int.toNat_natCast]; exact Reach.refl _ _ _⟩
theorem orbOk_const {ps : List (List Int)} {n : Nat} {o : List Int} (h : orbOk ps n o) (hp : ∀ p ∈ ps, inR n p) {i j : Nat} (hr : Reach ps n i j) : rd o i = rd o j := by
  have := hr (fun k => rd o k = rd o i) (fun p hp' k hk => by
    have h1 := h.2 p hp' k hk
    have h2 := (hp p hp').2 k hk
    have e : (((rd p k).toNat : Nat) : Int) = rd p k := by omega
    show (rd o k = rd o i) ↔ (rd o (((rd p k).toNat : Nat) : Int) = rd o i)
    rw [e, h1])
  exact (this.1 rfl).symm
theorem orbOk_le {ps : List (List Int)} {n : Nat} {o o' : List Int} (h : orbOk ps n o) (h' : orbI ps n o') (hp : ∀ p ∈ ps, inR n p) {i : Nat} (hi : i < n) : rd o i ≤ rd o' i := by
  obtain ⟨g0, g1, g2⟩ := h'.2 i hi
  have e := orbOk_const h hp g2
  have hlt : (rd o' i).toNat < n := by omega
  have := (h.1.2 _ hlt).2.1
  have e2 : (((rd o' i).toNat : Nat) : Int) = rd o' i := by omega
  omega
theorem mn_le (a b : Int) : mn a b ≤ a ∧ mn a b ≤ b ∧ (mn a b = a ∨ mn a b = b) := by unfold mn; split <;> omega
theorem orbI_put {ps : List (List Int)} {n : Nat} {o : List Int} (h : orbI ps n o) {i : Nat} (hi : i < n) {v : Int} (h0 : 0 ≤ v) (h1 : v ≤ i) (hr : Reach ps n v.toNat i) : orbI ps n (o.set i v) := by
  refine ⟨by simpa using h.1, fun j hj => ?_⟩
  by_cases e : i = j
  · subst e
    rw [rd_set_self _ _ _ (by rw [h.1]; exact hi)]
    exact ⟨h0, h1, hr⟩
  · rw [rd_set_ne _ _ _ _ e]
    exact h.2 j hj
def tot : List Int → Int
  | [] => 0
  | x :: xs => x + tot xs
theorem tot_set : ∀ (l : List Int) (i : Nat) (v : Int), i < l.length → tot (l.set i v) + rd l i = tot l + v
  | [], i, v, h => by simp at h
  | x :: xs, 0, v, h => by simp [tot, rd]; omega
  | x :: xs, i + 1, v, h => by
    have ih := tot_set xs i v (by simpa using h)
    have e : rd (x :: xs) ((i + 1 : Nat) : Int) = rd xs i := by unfold rd; rw [Int.toNat_natCast, Int.toNat_natCast]; rfl
    rw [e]
    simp only [List.set_cons_succ, tot]
    omega
theorem tot_nonneg : ∀ (l : List Int), (∀ i : Nat, i < l.length → 0 ≤ rd l i) → 0 ≤ tot l
  | [], _ => by simp [tot]
  | x :: xs, h => by
    have h0 := h 0 (by simp)
    have e0 : rd (x :: xs) ((0 : Nat) : Int) = x := rfl
    rw [e0] at h0
    have := tot_nonneg xs fun i hi => by
      have := h (i + 1) (by simpa using hi)
      have e : rd (x :: xs) ((i + 1 : Nat) : Int) = rd xs i := by unfold rd; rw [Int.toNat_natCast, Int.toNat_natCast]; rfl
      rwa [e] at this
    simp only [tot]
    omega
theorem rdL_nth (ps : List (List Int)) (q : Nat) (h : q < ps.length) : rd_L1 ps (q : Int) = ps[q] := by
  have e : (q : Int).toNat = q := Int.toNat_natCast q
  unfold rd_L1
  rw [e, List.getD_eq_getElem?_getD, List.getElem?_eq_getElem h]
  rfl
theorem implOrb_in (ps : List (List Int)) (n : Nat) (hn : n ≤ 12) (q : Nat) (hq : q < ps.length) (hL : ps.length ≤ 1048576) (P : List Int) (hP : P ∈ ps) (pl : P.length = n) (pr : ∀ i : Nat, i < n → 0 ≤ rd P i ∧ rd P i < n) : ∀ (d i : Nat) (o : List Int) (g : Bool), n - i = d → i ≤ n → orbI ps n o →
    ∃ (o' : List Int) (g' : Bool), orbI ps n o' ∧ (∀ r, Ev (fun k => impl_orbits.l1 k ps o' g' ps ps.length ((q + 1 : Nat) : Int)) r → Ev (fun k => impl_orbits.l2 k ps o g ps ps.length q P n i) r) ∧ tot o' ≤ tot o ∧
      (g' = true → g = true ∨ tot o' < tot o) ∧ (g' = false → g = false ∧ o' = o ∧ ∀ j : Nat, i ≤ j → j < n → rd o (rd P j) = rd o j)
  | 0, i, o, g, hd, hi, ho => by
    refine ⟨o, g, ho, fun r h => Ev.s ?_, by omega, fun h => .inl h, fun h => ⟨h, rfl, fun j h1 h2 => by omega⟩⟩
    simp only [impl_orbits.l2, show ¬ (i : Int) < (n : Int) by omega, if_false]
    rw [w64 (x := (q : Int) + 1) (by omega) (by omega), show ((q : Int) + 1) = ((q + 1 : Nat) : Int) by omega]
    exact h
  | d + 1, i, o, g, hd, hi, ho => by
    have hlt : i < n := by omega
    have hd1 : n - (i + 1) = d := by omega
    have hw : wrap64 ((i : Int) + 1) = ((i + 1 : Nat) : Int) := by rw [w64 (by omega) (by omega)]; omega
    have hr := pr i hlt
    have hst := Reach.step hP hlt
    have hlen := ho.1
    obtain ⟨t, ht⟩ : ∃ t : Nat, rd P i = t := ⟨(rd P i).toNat, by omega⟩
    rw [ht, Int.toNat_natCast] at hst
    have htn : t < n := by omega
    obtain ⟨i0, i1, i2⟩ := ho.2 i hlt
    obtain ⟨t0, t1, t2⟩ := ho.2 t htn
    obtain ⟨hm1, hm2, hm3⟩ := mn_le (rd o i) (rd o t)
    have g1 : (i : Int) < (n : Int) := by omega
    have g2 : (0 : Int) ≤ (i : Int) := by omega
    have g3 : (0 : Int) ≤ (t : Int) := by omega
    have g4 : (t : Int) < (n : Int) := by omega
    obtain ⟨v, hv⟩ : ∃ v, mn (rd o i) (rd o t) = v := ⟨_, rfl⟩
    rw [hv] at hm1 hm2 hm3
    by_cases hc : rd o i = v ∧ rd o t = v
    · obtain ⟨c1, c2⟩ := hc
      obtain ⟨o', g', a1, a2, a3, a4, a5⟩ := implOrb_in ps n hn q hq hL P hP pl pr d (i + 1) o g hd1 hlt ho
      refine ⟨o', g', a1, fun r h => Ev.s ?_, a3, a4, fun h => ?_⟩
      · simp only [impl_orbits.l2, g1, g2, g3, g4, pl, hlen, ht, hv, if_true, hw]
        simp only [c1, c2, if_true]
        exact a2 r h
      · obtain ⟨b1, b2, b3⟩ := a5 h
        refine ⟨b1, b2, fun j h1 h2 => ?_⟩
        by_cases e : j = i
        · rw [e, ht]; omega
        · exact b3 j (by omega) h2
    · have hv0 : 0 ≤ v := by omega
      have hrv : Reach ps n v.toNat i := by
        rcases hm3 with e | e
        · rw [e]; exact i2
        · rw [e]; exact t2.trans hst.symm
      have ho1 := orbI_put ho hlt hv0 (by omega) hrv
      have ho2 := orbI_put ho1 htn hv0 (by omega) (hrv.trans hst)
      have hd2 : tot ((o.set i v).set t v) < tot o := by
        have z1 := tot_set o i v (by omega)
        have z2 := tot_set (o.set i v) t v (by rw [List.length_set]; omega)
        by_cases e : i = t
        · subst e
          rw [rd_set_self _ _ _ (by omega)] at z2
          omega
        · rw [rd_set_ne _ _ _ _ e] at z2
          omega
      obtain ⟨o', g', a1, a2, a3, a4, a5⟩ := implOrb_in ps n hn q hq hL P hP pl pr d (i + 1) ((o.set i v).set t v) true hd1 hlt ho2
      refine ⟨o', g', a1, fun r h => Ev.s ?_, by omega, fun h => .inr (by omega), fun h => ?_⟩
      · have hgo := a2 r h
        by_cases c1 : rd o i = v
        · have c2 : ¬ rd o t = v := fun e => hc ⟨c1, e⟩
          simp only [impl_orbits.l2, g1, g2, g3, g4, pl, hlen, ht, hv, if_true, hw, Int.toNat_natCast]
          simp only [c1, c2, if_true, if_false]
          exact hgo
        · simp only [impl_orbits.l2, g1, g2, g3, g4, pl, hlen, ht, hv, if_true, hw, Int.toNat_natCast]
          simp only [c1, if_false]
          exact hgo
      · have := (a5 h).1
        cases this
theorem implOrb_pass (ps : List (List Int)) (n : Nat) (hn : n ≤ 12) (hL : ps.length ≤ 1048576) (hp : ∀ p ∈ ps, inR n p) : ∀ (d q : Nat) (o : List Int) (g : Bool), ps.length - q = d → q ≤ ps.length → orbI ps n o →
    ∃ (o' : List Int) (g' : Bool), orbI ps n o' ∧ (∀ r, Ev (fun k => impl_orbits.l0 k ps o' g') r → Ev (fun k => impl_orbits.l1 k ps o g ps ps.length q) r) ∧ tot o' ≤ tot o ∧
      (g' = true → g = true ∨ tot o' < tot o) ∧ (g' = false → g = false ∧ o' = o ∧ ∀ z : Nat, q ≤ z → z < ps.length → ∀ j : Nat, j < n → rd o (rd (rd_L1 ps z) j) = rd o j)
  | 0, q, o, g, hd, hi, ho => by
    refine ⟨o, g, ho, fun r h => Ev.s ?_, by omega, fun h => .inl h, fun h => ⟨h, rfl, fun j h1 h2 => by omega⟩⟩
    simp only [impl_orbits.l1, show ¬ (q : Int) < (ps.length : Int) by omega, if_false]
    exact h
  | d + 1, q, o, g, hd, hi, ho => by
    have hlt : q < ps.length := by omega
    have hd1 : ps.length - (q + 1) = d := by omega
    have hP : rd_L1 ps q ∈ ps := by rw [rdL_nth ps q hlt]; exact List.getElem_mem hlt
    obtain ⟨pl, pr⟩ := hp _ hP
    obtain ⟨o1, b1, c1, c2, c3, c4, c5⟩ := implOrb_in ps n hn q hlt hL _ hP pl pr n 0 o g (by omega) (by omega) ho
    obtain ⟨o2, b2, e1, e2, e3, e4, e5⟩ := implOrb_pass ps n hn hL hp d (q + 1) o1 b1 hd1 hlt c1
    refine ⟨o2, b2, e1, fun r h => Ev.s ?_, by omega, fun h => ?_, fun h => ?_⟩
    · simp only [impl_orbits.l1, show (q : Int) < (ps.length : Int) by omega, show (0 : Int) ≤ (q : Int) by omega, if_true, pl]
      exact c2 r (e2 r h)
    · rcases e4 h with z | z
      · rcases c4 z with y | y
        · exact .inl y
        · exact .inr (by omega)
      · exact .inr (by omega)
    · obtain ⟨f1, f2, f3⟩ := e5 h
      obtain ⟨g1, g2, g3⟩ := c5 f1
      refine ⟨g1, f2.trans g2, fun z hz hz' j hj => ?_⟩
      by_cases e : z = q
      · rw [e]; exact g3 j (by omega) hj
      · have := f3 z (by omega) hz' j hj
        rwa [g2] at this
theorem implOrb_loop (ps : List (List Int)) (n : Nat) (hn : n ≤ 12) (hL : ps.length ≤ 1048576) (hp : ∀ p ∈ ps, inR n p) : ∀ (m : Nat) (o : List Int), tot o ≤ m → orbI ps n o → ∃ o', orbOk ps n o' ∧ Ev (fun k => impl_orbits.l0 k ps o true) o' := by
  intro m
  induction m using Nat.strongRecOn with
  | _ m ih =>
    intro o hm ho
    obtain ⟨o1, g1, c1, c2, c3, c4, c5⟩ := implOrb_pass ps n hn hL hp ps.length 0 o false (by omega) (by omega) ho
    cases g1 with
    | false =>
      obtain ⟨_, e2, e3⟩ := c5 rfl
      refine ⟨o, ⟨ho, fun p hp' i hi => ?_⟩, Ev.s ?_⟩
      · obtain ⟨z, hz, rfl⟩ := List.mem_iff_getElem.1 hp'
        have := e3 z (by omega) hz i hi
        rwa [rdL_nth ps z hz] at this
      · simp only [impl_orbits.l0, if_true]
        refine c2 o (Ev.s ?_)
        simp only [impl_orbits.l0, Bool.false_eq_true, if_false]
        exact Ev.const (by rw [e2])
    | true =>
      have hlt : tot o1 < tot o := by
        rcases c4 rfl with z | z
        · cases z
        · exact z
      have h0 := tot_nonneg o1 fun i hi => (c1.2 i (by rw [← c1.1]; exact hi)).1
      obtain ⟨o', h1, h2⟩ := ih (tot o1).toNat (by omega) o1 (by omega) c1
      refine ⟨o', h1, Ev.s ?_⟩
      simp only [impl_orbits.l0, if_true]
      exact c2 o' h2
theorem implOrb_ev (ps : List (List Int)) (n : Nat) (hn : n ≤ 12) (h0 : 0 < ps.length) (hL : ps.length ≤ 1048576) (hp : ∀ p ∈ ps, inR n p) : ∃ o, orbOk ps n o ∧ Ev (fun k => impl_orbits.f k ps) o := by
  obtain ⟨o, h1, h2⟩ := implOrb_loop ps n hn hL hp (tot (stl n)).toNat (stl n) (by have := tot_nonneg (stl n) (fun i hi => by rw [stl_rd n i (by rwa [stl_length] at hi)]; omega); omega) (stl_orbI ps n)
  refine ⟨o, h1, ?_⟩
  unfold impl_orbits.f
  have hz : (rd_L1 ps 0).length = n := by
    have := rdL_nth ps 0 h0
    rw [show ((0 : Nat) : Int) = 0 from rfl] at this
    rw [this]
    exact (hp _ (List.getElem_mem h0)).1
  simp only [show (0 : Int) < (ps.length : Int) by omega, if_true, hz]
  exact Ev.bind (still_ev n (by omega)) h2
def lag (o g : List Int) : Nat → Nat
  | 0 => 0
  | i + 1 => (if rd o i = rd g i then 0 else 1) + lag o g i
theorem lag_le (o g : List Int) : ∀ i, lag o g i ≤ i
  | 0 => Nat.le_refl _
  | i + 1 => by have := lag_le o g i; simp only [lag]; split <;> omega
theorem lag_zero (o g : List Int) : ∀ n, lag o g n = 0 → ∀ i, i < n → rd o i = rd g i
  | 0, _, i, h => by omega
  | n + 1, hz, i, h => by
    simp only [lag] at hz
    by_cases e : i = n
    · subst e
      by_cases c : rd o i = rd g i
      · exact c
      · rw [if_neg c] at hz; omega
    · exact lag_zero o g n (by omega) i (by omega)
theorem lag_mono (o o' g : List Int) (h : ∀ i : Nat, rd o i = rd g i → rd o' i = rd g i) : ∀ n, lag o' g n ≤ lag o g n
  | 0 => Nat.le_refl _
  | n + 1 => by
    have ih := lag_mono o o' g h n
    simp only [lag]
    by_cases c : rd o n = rd g n
    · rw [if_pos c, if_pos (h n c)]; omega
    · rw [if_neg c]; split <;> omega
theorem lag_lt (o o' g : List Int) (h : ∀ i : Nat, rd o i = rd g i → rd o' i = rd g i) (z : Nat) (hz : rd o z ≠ rd g z) (hz' : rd o' z = rd g z) : ∀ n, z < n → lag o' g n < lag o g n
  | 0, hn => by omega
  | n + 1, hn => by
    simp only [lag]
    by_cases e : z = n
    · subst e
      have := lag_mono o o' g h z
      rw [if_neg hz, if_pos hz']; omega
    · have ih := lag_lt o o' g h z hz hz' n (by omega)
      by_cases c : rd o n = rd g n
      · rw [if_pos c, if_pos (h n c)]; omega
      · rw [if_neg c]; split <;> omega
theorem mn_eq (a b : Int) : mn a b = if a ≤ b then a else b := by unfold mn; split <;> split <;> omega
theorem specOrb_sweep (t f : List Int) (n : Nat) (hn : n ≤ 12) (ht : inR n t) (hf : inR n f) (g : List Int) (hg : orbOk [t, f] n g) (round : Int) : ∀ (d i : Nat) (o : List Int), n - i = d → i ≤ n → orbI [t, f] n o →
    ∃ o', orbI [t, f] n o' ∧ (∀ r, Ev (fun k => spec_l1Orbits.l0 k t f o' (wrap64 (round + 1))) r → Ev (fun k => spec_l1Orbits.l1 k t f o round i) r) ∧ (∀ z : Nat, z < n → rd o z = rd g z → rd o' z = rd g z) ∧
      (∀ j : Nat, i ≤ j → j < n → (rd o j = rd g j ∨ rd o (rd t j) = rd g (rd t j) ∨ rd o (rd f j) = rd g (rd f j)) → rd o' j = rd g j ∧ rd o' (rd t j) = rd g (rd t j) ∧ rd o' (rd f j) = rd g (rd f j))
  | 0, i, o, hd, hi, ho => by
    refine ⟨o, ho, fun r h => Ev.s ?_, fun z _ h => h, fun j h1 h2 => by omega⟩
    simp only [spec_l1Orbits.l1, ht.1, show ¬ (i : Int) < (n : Int) by omega, if_false]
    exact h
  | d + 1, i, o, hd, hi, ho => by
    have hlt : i < n := by omega
    have hd1 : n - (i + 1) = d := by omega
    have hw : wrap64 ((i : Int) + 1) = ((i + 1 : Nat) : Int) := by rw [w64 (by omega) (by omega)]; omega
    have hps : ∀ p ∈ [t, f], inR n p := by intro p hp; simp at hp; rcases hp with rfl | rfl <;> assumption
    have hra := ht.2 i hlt
    have hrb := hf.2 i hlt
    have sta := Reach.step (ps := [t, f]) (p := t) (by simp) hlt
    have stb := Reach.step (ps := [t, f]) (p := f) (by simp) hlt
    have ca := hg.2 t (by simp) i hlt
    have cb := hg.2 f (by simp) i hlt
    obtain ⟨a, hta⟩ : ∃ a : Nat, rd t i = a := ⟨(rd t i).toNat, by omega⟩
    obtain ⟨b, hfb⟩ : ∃ b : Nat, rd f i = b := ⟨(rd f i).toNat, by omega⟩
    rw [hta, Int.toNat_natCast] at sta
    rw [hfb, Int.toNat_natCast] at stb
    rw [hta] at ca
    rw [hfb] at cb
    have han : a < n := by omega
    have hbn : b < n := by omega
    have hlen := ho.1
    obtain ⟨i0, i1, i2⟩ := ho.2 i hlt
    obtain ⟨a0, a1, a2⟩ := ho.2 a han
    obtain ⟨b0, b1, b2⟩ := ho.2 b hbn
    have li := orbOk_le hg ho hps hlt
    have la := orbOk_le hg ho hps han
    have lb := orbOk_le hg ho hps hbn
    obtain ⟨v, hv⟩ : ∃ v, mn (rd o i) (mn (rd o a) (rd o b)) = v := ⟨_, rfl⟩
    have hvm : v ≤ rd o i ∧ v ≤ rd o a ∧ v ≤ rd o b ∧ (v = rd o i ∨ v = rd o a ∨ v = rd o b) := by
      rw [← hv, mn_eq, mn_eq]
      split <;> split at * <;> omega
    have hv0 : 0 ≤ v := by omega
    have hrv : Reach [t, f] n v.toNat i := by
      rcases hvm.2.2.2 with e | e | e
      · rw [e]; exact i2
      · rw [e]; exact a2.trans sta.symm
      · rw [e]; exact b2.trans stb.symm
    have ho1 := orbI_put ho hlt hv0 (by omega) hrv
    have ho2 := orbI_put ho1 han hv0 (by omega) (hrv.trans sta)
    have ho3 := orbI_put ho2 hbn hv0 (by omega) (hrv.trans stb)
    obtain ⟨o3, ho3e⟩ : ∃ o3, ((o.set i v).set a v).set b v = o3 := ⟨_, rfl⟩
    rw [ho3e] at ho3
    have rdo3 : ∀ z : Nat, rd o3 z = if z = i ∨ z = a ∨ z = b then v else rd o z := by
      intro z
      rw [← ho3e]
      by_cases z3 : b = z
      · subst z3; rw [rd_set_self _ _ _ (by simp; omega)]; simp
      · rw [rd_set_ne _ _ _ _ z3]
        by_cases z2 : a = z
        · subst z2; rw [rd_set_self _ _ _ (by simp; omega)]; simp
        · rw [rd_set_ne _ _ _ _ z2]
          by_cases z1 : i = z
          · subst z1; rw [rd_set_self _ _ _ (by omega)]; simp
          · rw [rd_set_ne _ _ _ _ z1, if_neg (by omega)]
    have keep3 : ∀ z : Nat, z < n → rd o z = rd g z → rd o3 z = rd g z := by
      intro z hz e
      have l3 := orbOk_le hg ho3 hps hz
      rw [rdo3 z] at l3 ⊢
      by_cases c : z = i ∨ z = a ∨ z = b
      · rw [if_pos c] at l3 ⊢
        have : v ≤ rd o z := by rcases c with rfl | rfl | rfl <;> omega
        omega
      · rw [if_neg c]; exact e
    obtain ⟨o', c1, c2, c3, c4⟩ := specOrb_sweep t f n hn ht hf g hg round d (i + 1) o3 hd1 hlt ho3
    refine ⟨o', c1, fun r h => Ev.s ?_, fun z hz e => c3 z hz (keep3 z hz e), fun j h1 h2 hj => ?_⟩
    · have hgo := c2 r h
      have g1 : (i : Int) < (n : Int) := by omega
      have g2 : (0 : Int) ≤ (i : Int) := by omega
      have g3 : (0 : Int) ≤ (a : Int) := by omega
      have g4 : (a : Int) < (n : Int) := by omega
      have g5 : (0 : Int) ≤ (b : Int) := by omega
      have g6 : (b : Int) < (n : Int) := by omega
      simp only [spec_l1Orbits.l1, ht.1, hf.1, hlen, g1, g2, g3, g4, g5, g6, hta, hfb, hv, if_true, hw, Int.toNat_natCast, ho3e]
      exact hgo
    · by_cases e : j = i
      · subst e
        have l3 := orbOk_le hg ho3 hps hlt
        have e3 : rd o3 j = v := by rw [rdo3 j, if_pos (.inl rfl)]
        have ea3 : rd o3 a = v := by rw [rdo3 a, if_pos (.inr (.inl rfl))]
        have eb3 : rd o3 b = v := by rw [rdo3 b, if_pos (.inr (.inr rfl))]
        rw [hta, hfb] at hj ⊢
        have hvg : v = rd g j := by
          rcases hj with z | z | z <;> omega
        exact ⟨c3 j hlt (by omega), c3 a han (by omega), c3 b hbn (by omega)⟩
      · refine c4 j (by omega) h2 ?_
        have hta' := ht.2 j h2
        have hfb' := hf.2 j h2
        obtain ⟨a', ha'⟩ : ∃ a' : Nat, rd t j = a' := ⟨(rd t j).toNat, by omega⟩
        obtain ⟨b', hb'⟩ : ∃ b' : Nat, rd f j = b' := ⟨(rd f j).toNat, by omega⟩
        rw [ha', hb'] at hj ⊢
        rcases hj with z | z | z
        · exact .inl (keep3 j h2 z)
        · exact .inr (.inl (keep3 a' (by omega) z))
        · exact .inr (.inr (keep3 b' (by omega) z))
theorem specOrb_loop (t f : List Int) (n : Nat) (hn : n ≤ 12) (ht : inR n t) (hf : inR n f) (g : List Int) (hg : orbOk [t, f] n g) : ∀ (d i : Nat) (o : List Int), n - i = d → i ≤ n → orbI [t, f] n o → lag o g n ≤ d → Ev (fun k => spec_l1Orbits.l0 k t f o i) g
  | 0, i, o, hd, hi, ho, hl => by
    refine Ev.s ?_
    simp only [spec_l1Orbits.l0, ht.1, show ¬ (i : Int) < (n : Int) by omega, if_false]
    have : o = g := list_ext o g (ho.1.trans hg.1.1.symm) fun z hz => lag_zero o g n (by omega) z (by rw [← ho.1]; exact hz)
    exact Ev.const (by rw [this])
  | d + 1, i, o, hd, hi, ho, hl => by
    have hlt : i < n := by omega
    have hd1 : n - (i + 1) = d := by omega
    have hw : wrap64 ((i : Int) + 1) = ((i + 1 : Nat) : Int) := by rw [w64 (by omega) (by omega)]; omega
    have hps : ∀ p ∈ [t, f], inR n p := by intro p hp; simp at hp; rcases hp with rfl | rfl <;> assumption
    obtain ⟨o', c1, c2, c3, c4⟩ := specOrb_sweep t f n hn ht hf g hg i n 0 o (by omega) (by omega) ho
    refine Ev.s ?_
    simp only [spec_l1Orbits.l0, ht.1, show (i : Int) < (n : Int) by omega, if_true]
    refine c2 g ?_
    rw [hw]
    refine specOrb_loop t f n hn ht hf g hg d (i + 1) o' hd1 hlt c1 ?_
    have hout : ∀ z : Nat, ¬ z < n → rd o z = rd o' z := by
      intro z hz
      unfold rd
      rw [Int.toNat_natCast, List.getD_eq_getElem?_getD, List.getD_eq_getElem?_getD, List.getElem?_eq_none (by rw [ho.1]; omega), List.getElem?_eq_none (by rw [c1.1]; omega)]
    have keep : ∀ z : Nat, rd o z = rd g z → rd o' z = rd g z := fun z e => by
      by_cases hz : z < n
      · exact c3 z hz e
      · rw [← hout z hz]; exact e
    by_cases hz : lag o g n = 0
    · have := lag_mono o o' g keep n
      omega
    · -- some point has not its label: some step leads from one that has it to one that has it not
      have hex : ∃ z : Nat, z < n ∧ rd o z ≠ rd g z ∧ rd o' z = rd g z := by
        refine Classical.byContradiction fun hno => ?_
        have hsame : ∀ z : Nat, z < n → (rd o z = rd g z ↔ rd o' z = rd g z) := fun z hz => ⟨keep z, fun e => Classical.byContradiction fun hne => hno ⟨z, hz, hne, e⟩⟩
        have hcl : closedL [t, f] n (fun z => rd o z = rd g z) := by
          intro p hp k hk
          have hr := (hps p hp).2 k hk
          obtain ⟨a, ha⟩ : ∃ a : Nat, rd p k = a := ⟨(rd p k).toNat, by omega⟩
          have han : a < n := by omega
          rw [ha, Int.toNat_natCast]
          show rd o k = rd g k ↔ rd o a = rd g a
          have h4 := c4 k (by omega) hk
          simp at hp
          rcases hp with rfl | rfl
          · rw [ha] at h4
            exact ⟨fun e => (hsame a han).2 (h4 (.inl e)).2.1, fun e => (hsame k hk).2 (h4 (.inr (.inl e))).1⟩
          · rw [ha] at h4
            exact ⟨fun e => (hsame a han).2 (h4 (.inl e)).2.2, fun e => (hsame k hk).2 (h4 (.inr (.inr e))).1⟩
        have hall : ∀ z : Nat, z < n → rd o z = rd g z := by
          intro z hz
          obtain ⟨g0, g1, g2⟩ := hg.1.2 z hz
          have hm : (rd g z).toNat < n := by omega
          have e1 : ((rd g z).toNat : Int) = rd g z := by omega
          have hgm : rd g ((rd g z).toNat : Nat) = rd g z := orbOk_const hg hps g2
          have hom : rd o ((rd g z).toNat : Nat) = rd g ((rd g z).toNat : Nat) := by
            have h1 := orbOk_le hg ho hps hm
            have h2 := (ho.2 _ hm).2.1
            omega
          exact (g2 _ hcl).1 hom
        have : lag o g n = 0 := by
          have hz0 : ∀ m, m ≤ n → lag o g m = 0 := by
            intro m
            induction m with
            | zero => intro _; rfl
            | succ m ih => intro hm; simp only [lag]; rw [if_pos (hall m (by omega)), ih (by omega)]
          exact hz0 n (Nat.le_refl _)
        exact hz this
      obtain ⟨z, z1, z2, z3⟩ := hex
      have := lag_lt o o' g keep z z2 z3 n z1
      omega
theorem orb_both (t f : List Int) (n : Nat) (hn : n ≤ 12) (h1 : 1 ≤ n) (ht : inR n t) (hf : inR n f) : ∃ o, orbOk [t, f] n o ∧ Ev (fun k => spec_l1Orbits.f k t f) o ∧ Ev (fun k => impl_orbits.f k [t, f]) o := by
  have hps : ∀ p ∈ [t, f], inR n p := by intro p hp; simp at hp; rcases hp with rfl | rfl <;> assumption
  obtain ⟨o, ho, he⟩ := implOrb_ev [t, f] n hn (by simp) (by simp) hps
  refine ⟨o, ho, ?_, he⟩
  unfold spec_l1Orbits.f
  rw [ht.1]
  refine Ev.bind (same_ev n (by omega)) ?_
  refine specOrb_loop t f n hn ht hf o ho n 0 (stl n) (by omega) (by omega) (stl_orbI _ n) ?_
  exact lag_le _ _ n
theorem isPerm_inR (l : List Int) (h : isPerm l) : inR l.length l := ⟨rfl, fun i hi => ⟨(h.2.2 i hi).1, (h.2.2 i hi).2.1⟩⟩
def cw (p : List Int) : Nat → List Bool → List Int → Int → List Bool × List Int
  | 0, s, c, a => (s, c)
  | f + 1, s, c, a => if rdOf false s a = true then (s, c) else cw p f (s.set a.toNat true) (c ++ [a]) (rd p a)
def fresh (s : List Bool) : Nat := s.countP (fun b => !b)
def cyS (p : List Int) (n : Nat) : Nat → List Bool × List (List Int)
  | 0 => (List.replicate n false, [])
  | i + 1 =>
    let q := cw p (n + 1) (cyS p n i).1 [] i
    (q.1, if q.2 = [] then (cyS p n i).2 else (cyS p n i).2 ++ [q.2])
theorem fresh_set : ∀ (s : List Bool) (i : Nat), i < s.length → s.getD i false = false → fresh (s.set i true) + 1 = fresh s
  | b :: s, 0, _, h => by
    simp only [List.getD_cons_zero] at h
    subst h
    simp [fresh]
  | b :: s, i + 1, hi, h => by
    simp only [List.getD_cons_succ] at h
    have ih := fresh_set s i (by simpa using hi) h
    simp only [fresh, List.set_cons_succ, List.countP_cons] at ih ⊢
    omega
theorem rdOf_nat (s : List Bool) (a : Int) (h0 : 0 ≤ a) : rdOf false s a = s.getD a.toNat false := by
  unfold rdOf
  rfl
theorem cw_len (p : List Int) : ∀ (f : Nat) (s : List Bool) (c : List Int) (a : Int), (cw p f s c a).1.length = s.length
  | 0, s, c, a => rfl
  | f + 1, s, c, a => by
    simp only [cw]
    split
    · rfl
    · rw [cw_len p f]; simp
theorem spec_cw (p : List Int) (n : Nat) (hn : n ≤ 1048576) (hp : inR n p) (L : List (List Int)) (hL : L.length ≤ 1048576) (i : Int) (r : List (List Int)) : ∀ (f : Nat) (s : List Bool) (c : List Int) (a : Int), s.length = n → 0 ≤ a → a < n → fresh s < f → c.length + fresh s ≤ 1048577 →
    Ev (fun k => spec_l1Cycles.l0 k p (L ++ [(cw p f s c a).2]) (cw p f s c a).1 (wrap64 (i + 1))) r → Ev (fun k => spec_l1Cycles.l1 k p L s i c a) r
  | 0, s, c, a, hs, h0, h1, hf, hc, h => absurd hf (Nat.not_lt_zero _)
  | f + 1, s, c, a, hs, h0, h1, hf, hc, h => by
    refine Ev.s ?_
    simp only [cw] at h
    have hL' : L.length < 5864062014805 := by omega
    have hc' : c.length < 17592186044416 := by omega
    simp only [spec_l1Cycles.l1, h0, hs, h1, hp.1, hL', hc', if_true]
    by_cases e : rdOf false s a = true
    · simp only [e, if_true] at h ⊢
      exact h
    · simp only [e, if_false] at h ⊢
      have h3 : s.getD a.toNat false = false := by rw [← rdOf_nat s a h0]; simpa using e
      have h4 := fresh_set s a.toNat (by omega) h3
      have h5 := hp.2 a.toNat (by omega)
      rw [show ((a.toNat : Nat) : Int) = a by omega] at h5
      exact spec_cw p n hn hp L hL i r f _ _ _ (by simpa using hs) h5.1 h5.2 (by omega) (by simp only [List.length_append, List.length_cons, List.length_nil]; omega) h
theorem impl_cw (p : List Int) (n : Nat) (hn : n ≤ 1048576) (hp : inR n p) (L : List (List Int)) (hL : L.length ≤ 1048576) (m i : Int) (r : List (List Int)) : ∀ (f : Nat) (s : List Bool) (c : List Int) (a : Int), s.length = n → 0 ≤ a → a < n → fresh s < f → c.length + fresh s ≤ 1048577 →
    Ev (fun k => impl_cyclesOf.l0 k p (if (cw p f s c a).2 = [] then L else L ++ [(cw p f s c a).2]) (cw p f s c a).1 m (wrap64 (i + 1))) r → Ev (fun k => impl_cyclesOf.l1 k p L s c a m i) r
  | 0, s, c, a, hs, h0, h1, hf, hc, h => absurd hf (Nat.not_lt_zero _)
  | f + 1, s, c, a, hs, h0, h1, hf, hc, h => by
    refine Ev.s ?_
    simp only [cw] at h
    have hL' : L.length < 5864062014805 := by omega
    have hc' : c.length < 17592186044416 := by omega
    simp only [impl_cyclesOf.l1, h0, hs, h1, hp.1, hL', hc', if_true]
    by_cases e : rdOf false s a = true
    · simp only [e, if_true] at h ⊢
      cases c with
      | nil => simpa using h
      | cons b c => simpa using h
    · simp only [e, if_false] at h ⊢
      have h3 : s.getD a.toNat false = false := by rw [← rdOf_nat s a h0]; simpa using e
      have h4 := fresh_set s a.toNat (by omega) h3
      have h5 := hp.2 a.toNat (by omega)
      rw [show ((a.toNat : Nat) : Int) = a by omega] at h5
      exact impl_cw p n hn hp L hL m i r f _ _ _ (by simpa using hs) h5.1 h5.2 (by omega) (by simp only [List.length_append, List.length_cons, List.length_nil]; omega) h
theorem fresh_le (s : List Bool) : fresh s ≤ s.length := List.countP_le_length
theorem cyS_len (p : List Int) (n : Nat) : ∀ i, (cyS p n i).1.length = n
  | 0 => by simp [cyS]
  | i + 1 => by simp only [cyS]; rw [cw_len, cyS_len p n i]
theorem cyS_many (p : List Int) (n : Nat) : ∀ i, (cyS p n i).2.length ≤ i
  | 0 => by simp [cyS]
  | i + 1 => by
    have ih := cyS_many p n i
    simp only [cyS]
    split
    · omega
    · simp only [List.length_append, List.length_cons, List.length_nil]; omega
theorem cw_seen (p : List Int) (f : Nat) (s : List Bool) (c : List Int) (a : Int) (h : rdOf false s a = true) : cw p f s c a = (s, c) := by
  cases f with
  | zero => rfl
  | succ f => simp only [cw, h, if_true]
theorem cw_more (p : List Int) : ∀ (f : Nat) (s : List Bool) (c : List Int) (a : Int), c.length ≤ (cw p f s c a).2.length
  | 0, s, c, a => Nat.le_refl _
  | f + 1, s, c, a => by
    simp only [cw]
    split
    · exact Nat.le_refl _
    · have := cw_more p f (s.set a.toNat true) (c ++ [a]) (rd p a)
      simp only [List.length_append, List.length_cons, List.length_nil] at this
      omega
theorem cw_new (p : List Int) (f : Nat) (s : List Bool) (a : Int) (h : ¬ rdOf false s a = true) : (cw p (f + 1) s [] a).2 ≠ [] := by
  simp only [cw, h, Bool.false_eq_true, if_false]
  intro e
  have := cw_more p f (s.set a.toNat true) ([] ++ [a]) (rd p a)
  rw [e] at this
  simp at this
theorem specCyc_run (p : List Int) (n : Nat) (hn : n ≤ 1048575) (hp : inR n p) : ∀ (d i : Nat), n - i = d → i ≤ n → Ev (fun k => spec_l1Cycles.l0 k p (cyS p n i).2 (cyS p n i).1 i) (cyS p n n).2
  | 0, i, hd, hi => by
    have : i = n := by omega
    subst this
    refine Ev.s ?_
    simp only [spec_l1Cycles.l0, hp.1, show ¬ (i : Int) < (i : Int) by omega, if_false]
    exact Ev.const rfl
  | d + 1, i, hd, hi => by
    have ih := specCyc_run p n hn hp d (i + 1) (by omega) (by omega)
    have hl := cyS_len p n i
    have hm := cyS_many p n i
    have hf := fresh_le (cyS p n i).1
    have h1 : (i : Int) < (n : Int) := by omega
    have h0 : (0 : Int) ≤ (i : Int) := by omega
    refine Ev.s ?_
    simp only [spec_l1Cycles.l0, hp.1, hl, h1, h0, if_true]
    by_cases e : rdOf false (cyS p n i).1 (i : Int) = true
    · simp only [e, if_true]
      rw [w64n (by omega)]
      simp only [cyS, cw_seen p (n + 1) (cyS p n i).1 [] i e, if_true] at ih
      exact ih
    · simp only [e, if_false]
      refine spec_cw p n (by omega) hp _ (by omega) i _ (n + 1) _ _ _ hl h0 h1 (by omega) (by simp only [List.length_nil]; omega) ?_
      rw [w64n (by omega)]
      simp only [cyS, cw_new p n (cyS p n i).1 i e, if_false] at ih
      exact ih
theorem implCyc_run (p : List Int) (n : Nat) (hn : n ≤ 1048575) (hp : inR n p) : ∀ (d i : Nat), n - i = d → i ≤ n → Ev (fun k => impl_cyclesOf.l0 k p (cyS p n i).2 (cyS p n i).1 n i) (cyS p n n).2
  | 0, i, hd, hi => by
    have : i = n := by omega
    subst this
    refine Ev.s ?_
    simp only [impl_cyclesOf.l0, show ¬ (i : Int) < (i : Int) by omega, if_false]
    exact Ev.const rfl
  | d + 1, i, hd, hi => by
    have ih := implCyc_run p n hn hp d (i + 1) (by omega) (by omega)
    have hl := cyS_len p n i
    have hm := cyS_many p n i
    have hf := fresh_le (cyS p n i).1
    have h1 : (i : Int) < (n : Int) := by omega
    have h0 : (0 : Int) ≤ (i : Int) := by omega
    refine Ev.s ?_
    simp only [impl_cyclesOf.l0, h1, if_true]
    refine impl_cw p n (by omega) hp _ (by omega) n i _ (n + 1) _ _ _ hl h0 h1 (by omega) (by simp only [List.length_nil]; omega) ?_
    rw [w64n (by omega)]
    simp only [cyS] at ih
    exact ih
theorem specCyc_ev (p : List Int) (n : Nat) (hn : n ≤ 1048575) (hp : inR n p) : Ev (fun k => spec_l1Cycles.f k p) (cyS p n n).2 := by
  unfold spec_l1Cycles.f
  have h1 : n ≤ 281474976710656 := by omega
  have h2 : (0 : Int) ≤ (n : Int) := by omega
  simp only [hp.1, Int.toNat_natCast, h1, h2, if_true]
  exact specCyc_run p n hn hp n 0 (by omega) (by omega)
theorem implCyc_ev (p : List Int) (n : Nat) (hn : n ≤ 1048575) (hp : inR n p) : Ev (fun k => impl_cyclesOf.f k p) (cyS p n n).2 := by
  unfold impl_cyclesOf.f
  have h1 : n ≤ 281474976710656 := by omega
  have h2 : (0 : Int) ≤ (n : Int) := by omega
  simp only [hp.1, Int.toNat_natCast, h1, h2, if_true]
  exact implCyc_run p n hn hp n 0 (by omega) (by omega)
end Go.Proofs.Ytggghijamfmenaa.PA

namespace Go.Proofs.Ytggghijamfmenaa.PA
open Go.RowKit Go.Proofs.YtggghijamfmenaaW.PrintWords Go.Proofs.YtggghijamfmenaaW.PrintLast Go.Proofs.YtggghijamfmenaaW.PrintMore
attribute [local go_sem] max2_int min2_int max_two min_two max_three min_three max_four min_four   -- for this text's walks alone
set_option linter.unusedVariables false
set_option linter.unusedSimpArgs false
def spec_TutteQuad.T8 : Bool × List (List Nat × List Nat) := (true, [([], []), ([0], [0]), ([], []), ([2], [2]), ([], []), ([3, 4], [3, 4]), ([5], [5]), ([6], [6]), ([], []), ([], []), ([8, 9], [8, 9]), ([10], [10]), ([11], [11]), ([12], [12]), ([7, 13], [7, 13]), ([1, 14], [1, 14]), ([0, 1, 2, 3, 4, 5, 6, 7, 8, 9, 10, 11, 12, 13, 14, 15], []), ([16, 15, 15, 0, 1, 2, 3, 4, 5, 6, 7, 8, 9, 10, 11, 12, 13, 14, 15], [15, 16])])
def spec_TutteQuad.B8 : List Nat := [0, 1, 0, 4, 0, 28, 60, 124, 0, 0, 768, 1792, 3840, 7936, 16380, 32767, 65535, 131071]
end Go.Proofs.Ytggghijamfmenaa.PA

set_option linter.unusedVariables false
set_option linter.unusedSimpArgs false
namespace Go.Proofs.Ytggghijamfmenaa.PA
open Go.RowKit Go.Proofs.YtggghijamfmenaaW.PrintWords Go.Proofs.YtggghijamfmenaaW.PrintLast Go.Proofs.YtggghijamfmenaaW.PrintMore
theorem take_set_one (l : List Int) (i : Nat) (v : Int) (h : i < l.length) : (l.set i v).take (i + 1) = l.take i ++ [v] := by
  rw [List.take_succ_eq_append_getElem (by simpa using h), List.take_set_of_le (Nat.le_refl _), List.getElem_set_self]
def mulL (a b : List Int) : Nat → List Int
  | 0 => []
  | i + 1 => mulL a b i ++ [rd b (rd a i)]
theorem mulL_length (a b : List Int) : ∀ n, (mulL a b n).length = n
  | 0 => rfl
  | n + 1 => by simp [mulL, mulL_length a b n]
theorem mulL_rd (a b : List Int) : ∀ (n i : Nat), i < n → rd (mulL a b n) i = rd b (rd a i)
  | n + 1, i, h => by
    simp only [mulL]
    by_cases e : i < n
    · rw [rd_app_lt _ _ _ (by rw [mulL_length]; exact e), mulL_rd a b n i e]
    · have : i = n := by omega
      subst this
      have h2 : i < (mulL a b i ++ [rd b (rd a (i : Int))]).length := by simp [mulL_length]
      rw [rd_lt _ i h2, List.getElem_append_right (by rw [mulL_length]; exact Nat.le_refl _)]
      simp [mulL_length]
theorem implMul_run (n : Nat) (hn : n ≤ 1048576) (a b : List Int) (ha : inR n a) (hb : inR n b) : ∀ (d i : Nat) (l : List Int), n - i = d → i ≤ n → l.length = n → l.take i = mulL a b i → Ev (fun k => impl_mul.l0 k b l a n i) (mulL a b n)
  | 0, i, l, hd, hi, hl, ht => by
    have : i = n := by omega
    subst this
    refine Ev.s ?_
    simp only [impl_mul.l0, show ¬ (i : Int) < (i : Int) by omega, if_false]
    rw [List.take_of_length_le (by omega)] at ht
    exact Ev.const (by rw [ht])
  | d + 1, i, l, hd, hi, hl, ht => by
    have h1 := ha.2 i (by omega)
    have hb1 := hb.1
    refine Ev.s ?_
    simp only [impl_mul.l0, ha.1, hb1, hl, show (i : Int) < (n : Int) by omega, show (0 : Int) ≤ (i : Int) by omega, h1.1, h1.2, if_true, Int.toNat_natCast]
    rw [w64n (by omega)]
    refine implMul_run n hn a b ha hb d (i + 1) _ (by omega) (by omega) (by simpa using hl) ?_
    rw [take_set_one _ _ _ (by omega), ht]
    rfl
theorem implMul_ev (n : Nat) (hn : n ≤ 1048576) (a b : List Int) (ha : inR n a) (hb : inR n b) : Ev (fun k => impl_mul.f k a b) (mulL a b n) := by
  unfold impl_mul.f
  have h1 : n ≤ 35184372088832 := by omega
  have h2 : (0 : Int) ≤ (n : Int) := by omega
  simp only [ha.1, Int.toNat_natCast, h1, h2, if_true]
  exact implMul_run n hn a b ha hb n 0 _ (by omega) (by omega) (by simp) (by simp [mulL])
def flipAt (f : List Int) (i : Nat) : Prop := rd f i ≠ i ∧ rd f (rd f i) = i
def isMap (t f : List Int) : Prop := isPerm t ∧ isPerm f ∧ t.length = f.length ∧ (∀ i : Nat, i < f.length → flipAt f i) ∧ ∀ i j : Nat, i < f.length → j < f.length → Reach [t, f] f.length i j
def maxF : List Int → Int → Int
  | [], m => m
  | x :: xs, m => maxF xs (mx m x)
theorem maxF_zero : ∀ (l : List Int) (m : Int), 0 ≤ m → (∀ x ∈ l, 0 ≤ x) → 0 ≤ maxF l m ∧ (maxF l m = 0 ↔ m = 0 ∧ ∀ x ∈ l, x = 0)
  | [], m, hm, _ => by simp [maxF, hm]
  | x :: xs, m, hm, hx => by
    have hx0 := hx x (by simp)
    have hmx : 0 ≤ mx m x ∧ (mx m x = 0 ↔ m = 0 ∧ x = 0) := by unfold mx; split <;> omega
    obtain ⟨h1, h2⟩ := maxF_zero xs (mx m x) hmx.1 fun y hy => hx y (by simp [hy])
    refine ⟨h1, ?_⟩
    simp only [maxF, h2, hmx.2, List.mem_cons, forall_eq_or_imp, and_assoc]
theorem max_run (l : List Int) (hl : l.length ≤ 1048576) : ∀ (d i : Nat) (m : Int), l.length - i = d → i ≤ l.length → Ev (fun k => slices_Max_int_int.l0 k l m i) (maxF (l.drop i) m)
  | 0, i, m, hd, hi => by
    refine Ev.s ?_
    simp only [slices_Max_int_int.l0, show ¬ (i : Int) < (l.length : Int) by omega, if_false]
    rw [List.drop_eq_nil_of_le (by omega)]
    exact Ev.const rfl
  | d + 1, i, m, hd, hi => by
    have hlt : i < l.length := by omega
    refine Ev.s ?_
    simp only [slices_Max_int_int.l0, show (i : Int) < (l.length : Int) by omega, show (0 : Int) ≤ (i : Int) by omega, if_true]
    rw [w64 (x := (i : Int) + 1) (by omega) (by omega), show ((i : Int) + 1) = ((i + 1 : Nat) : Int) by omega, List.drop_eq_getElem_cons hlt, rd_lt l i hlt]
    exact max_run l hl d (i + 1) _ (by omega) (by omega)
theorem max_ev (l : List Int) (hl : l.length ≤ 1048576) (h1 : 1 ≤ l.length) (h0 : ∀ x ∈ l, 0 ≤ x) : ∃ m, Ev (fun k => slices_Max_int_int.f k l) m ∧ (m = 0 ↔ ∀ x ∈ l, x = 0) := by
  cases l with
  | nil => simp at h1
  | cons x xs =>
    refine ⟨maxF xs x, ?_, ?_⟩
    · unfold slices_Max_int_int.f
      simp only [show ¬ (((x :: xs).length : Nat) : Int) < 1 by omega, show (0 : Int) < (((x :: xs).length : Nat) : Int) by omega, if_true, if_false]
      exact max_run (x :: xs) hl _ 1 x rfl h1
    · rw [(maxF_zero xs x (h0 x (by simp)) fun y hy => h0 y (by simp [hy])).2]
      simp
theorem specFlip_run (t f : List Int) (hf : isPerm f) : ∀ (d i : Nat), f.length - i = d → i ≤ f.length →
    ((∀ q : Nat, i ≤ q → q < f.length → flipAt f q) → ∀ r, Ev (fun k => (spec_l1Orbits.f k t f).bind fun o => spec_MapValid.l1 k o 0) r → Ev (fun k => spec_MapValid.l0 k i t f) r) ∧ (¬ (∀ q : Nat, i ≤ q → q < f.length → flipAt f q) → Ev (fun k => spec_MapValid.l0 k i t f) false)
  | 0, i, hd, hi => by
    refine ⟨fun _ r h => Ev.s ?_, fun h => absurd (fun q h1 h2 => by omega) h⟩
    simp only [spec_MapValid.l0, show ¬ (i : Int) < (f.length : Int) by omega, if_false]
    exact h
  | d + 1, i, hd, hi => by
    have hlt : i < f.length := by omega
    have hl12 := hf.2.1
    have hr := (isPerm_inR f hf).2 i hlt
    have ih := specFlip_run t f hf d (i + 1) (by omega) (by omega)
    have hw : wrap64 ((i : Int) + 1) = ((i + 1 : Nat) : Int) := by rw [w64 (by omega) (by omega)]; omega
    have g1 : (i : Int) < (f.length : Int) := by omega
    have g2 : (0 : Int) ≤ (i : Int) := by omega
    by_cases c1 : rd f i = i
    · refine ⟨fun h => absurd c1 (h i (Nat.le_refl _) hlt).1, fun h => Ev.s ?_⟩
      simp only [spec_MapValid.l0, g1, g2, c1, if_true]
      exact Ev.const rfl
    · by_cases c2 : rd f (rd f i) = i
      · refine ⟨fun h r hr' => Ev.s ?_, fun h => Ev.s ?_⟩
        · simp only [spec_MapValid.l0, g1, g2, c1, c2, hr.1, hr.2, if_true, if_false, hw]
          exact ih.1 (fun q h1 h2 => h q (by omega) h2) r hr'
        · simp only [spec_MapValid.l0, g1, g2, c1, c2, hr.1, hr.2, if_true, if_false, hw]
          refine ih.2 fun h' => h fun q h1 h2 => ?_
          by_cases e : q = i
          · rw [e]; exact ⟨c1, c2⟩
          · exact h' q (by omega) h2
      · refine ⟨fun h => absurd (h i (Nat.le_refl _) hlt).2 c2, fun h => Ev.s ?_⟩
        simp only [spec_MapValid.l0, g1, g2, c1, c2, hr.1, hr.2, if_true, if_false]
        exact Ev.const rfl
theorem implFlip_run (t f : List Int) (hf : isPerm f) : ∀ (d i : Nat), f.length - i = d → i ≤ f.length →
    ((∀ q : Nat, i ≤ q → q < f.length → flipAt f q) → ∀ r, Ev (fun k => (impl_orbits.f k [t, f]).bind fun o => (slices_Max_int_int.f k o).bind fun m => some (m == 0)) r → Ev (fun k => impl_MapValid.l0 k f f.length i t f) r) ∧ (¬ (∀ q : Nat, i ≤ q → q < f.length → flipAt f q) → Ev (fun k => impl_MapValid.l0 k f f.length i t f) false)
  | 0, i, hd, hi => by
    refine ⟨fun _ r h => Ev.s ?_, fun h => absurd (fun q h1 h2 => by omega) h⟩
    simp only [impl_MapValid.l0, show ¬ (i : Int) < (f.length : Int) by omega, if_false]
    exact h
  | d + 1, i, hd, hi => by
    have hlt : i < f.length := by omega
    have hl12 := hf.2.1
    have hr := (isPerm_inR f hf).2 i hlt
    have ih := implFlip_run t f hf d (i + 1) (by omega) (by omega)
    have hw : wrap64 ((i : Int) + 1) = ((i + 1 : Nat) : Int) := by rw [w64 (by omega) (by omega)]; omega
    have g1 : (i : Int) < (f.length : Int) := by omega
    have g2 : (0 : Int) ≤ (i : Int) := by omega
    by_cases c1 : rd f i = i
    · refine ⟨fun h => absurd c1 (h i (Nat.le_refl _) hlt).1, fun h => Ev.s ?_⟩
      simp only [impl_MapValid.l0, g1, g2, c1, if_true]
      exact Ev.const rfl
    · by_cases c2 : rd f (rd f i) = i
      · refine ⟨fun h r hr' => Ev.s ?_, fun h => Ev.s ?_⟩
        · simp only [impl_MapValid.l0, g1, g2, c1, c2, hr.1, hr.2, if_true, if_false, hw]
          exact ih.1 (fun q h1 h2 => h q (by omega) h2) r hr'
        · simp only [impl_MapValid.l0, g1, g2, c1, c2, hr.1, hr.2, if_true, if_false, hw]
          refine ih.2 fun h' => h fun q h1 h2 => ?_
          by_cases e : q = i
          · rw [e]; exact ⟨c1, c2⟩
          · exact h' q (by omega) h2
      · refine ⟨fun h => absurd (h i (Nat.le_refl _) hlt).2 c2, fun h => Ev.s ?_⟩
        simp only [impl_MapValid.l0, g1, g2, c1, c2, hr.1, hr.2, if_true, if_false]
        exact Ev.const rfl
theorem zero_run (o : List Int) (hl : o.length ≤ 1048576) : ∀ (d i : Nat), o.length - i = d → i ≤ o.length →
    ((∀ q : Nat, i ≤ q → q < o.length → rd o q = 0) → Ev (fun k => spec_MapValid.l1 k o i) true) ∧ (¬ (∀ q : Nat, i ≤ q → q < o.length → rd o q = 0) → Ev (fun k => spec_MapValid.l1 k o i) false)
  | 0, i, hd, hi => by
    refine ⟨fun _ => Ev.s ?_, fun h => absurd (fun q h1 h2 => by omega) h⟩
    simp only [spec_MapValid.l1, show ¬ (i : Int) < (o.length : Int) by omega, if_false]
    exact Ev.const rfl
  | d + 1, i, hd, hi => by
    have hlt : i < o.length := by omega
    have ih := zero_run o hl d (i + 1) (by omega) (by omega)
    have hw : wrap64 ((i : Int) + 1) = ((i + 1 : Nat) : Int) := by rw [w64 (by omega) (by omega)]; omega
    have g1 : (i : Int) < (o.length : Int) := by omega
    have g2 : (0 : Int) ≤ (i : Int) := by omega
    by_cases c : rd o i = 0
    · refine ⟨fun h => Ev.s ?_, fun h => Ev.s ?_⟩
      · simp only [spec_MapValid.l1, g1, g2, c, if_true, hw]
        exact ih.1 fun q h1 h2 => h q (by omega) h2
      · simp only [spec_MapValid.l1, g1, g2, c, if_true, hw]
        refine ih.2 fun h' => h fun q h1 h2 => ?_
        by_cases e : q = i
        · rw [e]; exact c
        · exact h' q (by omega) h2
    · refine ⟨fun h => absurd (h i (Nat.le_refl _) hlt) c, fun h => Ev.s ?_⟩
      simp only [spec_MapValid.l1, g1, g2, c, if_true, if_false]
      exact Ev.const rfl
theorem orb_zero (t f : List Int) (n : Nat) (h1 : 1 ≤ n) (ht : inR n t) (hf : inR n f) (o : List Int) (ho : orbOk [t, f] n o) : (∀ q : Nat, q < n → rd o q = 0) ↔ ∀ i j : Nat, i < n → j < n → Reach [t, f] n i j := by
  have hps : ∀ p ∈ [t, f], inR n p := by intro p hp; simp at hp; rcases hp with rfl | rfl <;> assumption
  constructor
  · intro h i j hi hj
    have e1 := (ho.1.2 i hi).2.2
    have e2 := (ho.1.2 j hj).2.2
    rw [h i hi] at e1
    rw [h j hj] at e2
    exact e1.symm.trans e2
  · intro h q hq
    have := orbOk_const ho hps (h q 0 hq (by omega))
    have h0 := ho.1.2 0 (by omega)
    omega
theorem mapValid_both (t f : List Int) (ht : t.length ≤ 1048576) (hf : f.length ≤ 1048576) : ∃ b : Bool, Ev (fun k => spec_MapValid.f k t f) b ∧ Ev (fun k => impl_MapValid.f k t f) b ∧ (b = true ↔ isMap t f) := by
  obtain ⟨bt, t1, t2, t3⟩ := permValid_both t ht
  obtain ⟨bf, f1, f2, f3⟩ := permValid_both f hf
  have hb : ∀ b : Bool, (∃ c : Bool, Ev (fun k => spec_l1Both.f k t f) c ∧ (c = true ↔ isPerm t ∧ isPerm f ∧ t.length = f.length)) := fun _ => by
    unfold spec_l1Both.f
    cases bt with
    | false => exact ⟨false, Ev.bind t1 (Ev.const rfl), ⟨fun h => (by cases h), fun h => absurd (t3.2 h.1) (by decide)⟩⟩
    | true =>
      cases bf with
      | false => exact ⟨false, Ev.bind t1 (by simp only [if_true]; exact Ev.bind f1 (Ev.const rfl)), ⟨fun h => (by cases h), fun h => absurd (f3.2 h.2.1) (by decide)⟩⟩
      | true => exact ⟨((t.length : Int) == (f.length : Int)), Ev.bind t1 (by simp only [if_true]; exact Ev.bind f1 (Ev.const rfl)), ⟨fun h => ⟨t3.1 rfl, f3.1 rfl, by have := beq_iff_eq.1 h; omega⟩, fun h => by rw [beq_iff_eq]; omega⟩⟩
  obtain ⟨c, c1, c2⟩ := hb true
  by_cases hall : isPerm t ∧ isPerm f ∧ t.length = f.length
  · obtain ⟨pt, pf, hlen⟩ := hall
    have hc : c = true := c2.2 ⟨pt, pf, hlen⟩
    subst hc
    have hbt : bt = true := t3.2 pt
    have hbf : bf = true := f3.2 pf
    subst hbt; subst hbf
    have hne : (((t.length : Int)) != (f.length : Int)) = false := by rw [bne_eq_false_iff_eq]; omega
    have hrt : inR f.length t := by have := isPerm_inR t pt; rwa [hlen] at this
    have hrf := isPerm_inR f pf
    obtain ⟨o, o1, o2, o3⟩ := orb_both t f f.length pf.2.1 pf.1 hrt hrf
    have hS : ∀ r, Ev (fun k => spec_MapValid.l0 k 0 t f) r → Ev (fun k => spec_MapValid.f k t f) r := fun r h => by
      unfold spec_MapValid.f
      refine Ev.bind c1 ?_
      simp only [if_true]
      exact h
    have hI : ∀ r, Ev (fun k => impl_MapValid.l0 k f f.length 0 t f) r → Ev (fun k => impl_MapValid.f k t f) r := fun r h => by
      unfold impl_MapValid.f
      refine Ev.bind t2 ?_
      simp only [if_true]
      refine Ev.bind f2 ?_
      simp only [if_true, hne]
      refine Ev.s ?_
      simp only [impl_MapValid.j0, Bool.false_eq_true, if_false]
      exact h
    have sF := specFlip_run t f pf f.length 0 (by omega) (by omega)
    have iF := implFlip_run t f pf f.length 0 (by omega) (by omega)
    by_cases hfl : ∀ q : Nat, 0 ≤ q → q < f.length → flipAt f q
    · have zr := zero_run o (by rw [o1.1.1]; omega) o.length 0 (by omega) (by omega)
      have oz := orb_zero t f f.length pf.1 hrt hrf o o1
      obtain ⟨m, m1, m2⟩ := max_ev o (by rw [o1.1.1]; omega) (by rw [o1.1.1]; exact pf.1) (fun x hx => by
        obtain ⟨i, hi, rfl⟩ := List.mem_iff_getElem.1 hx
        have := (o1.1.2 i (by rw [← o1.1.1]; exact hi)).1
        rwa [rd_lt o i hi] at this)
      have hmz : m = 0 ↔ ∀ q : Nat, 0 ≤ q → q < o.length → rd o q = 0 := by
        rw [m2]
        constructor
        · intro h q _ hq
          rw [rd_lt o q hq]
          exact h _ (List.getElem_mem hq)
        · intro h x hx
          obtain ⟨i, hi, rfl⟩ := List.mem_iff_getElem.1 hx
          have := h i (by omega) hi
          rwa [rd_lt o i hi] at this
      by_cases hz : ∀ q : Nat, 0 ≤ q → q < o.length → rd o q = 0
      · refine ⟨true, hS _ (sF.1 hfl _ (Ev.bind o2 (zr.1 hz))), hI _ (iF.1 hfl _ (Ev.bind o3 (Ev.bind m1 (Ev.const ?_)))), ?_⟩
        · rw [hmz.2 hz]; rfl
        · refine ⟨fun _ => ⟨pt, pf, hlen, fun i hi => hfl i (by omega) hi, oz.1 fun q hq => hz q (by omega) (by rw [o1.1.1]; exact hq)⟩, fun _ => rfl⟩
      · refine ⟨false, hS _ (sF.1 hfl _ (Ev.bind o2 (zr.2 hz))), hI _ (iF.1 hfl _ (Ev.bind o3 (Ev.bind m1 (Ev.const ?_)))), ?_⟩
        · have : ¬ m = 0 := fun e => hz (hmz.1 e)
          simp [this]
        · exact ⟨fun h => (by cases h), fun h => absurd (fun q _ hq => oz.2 h.2.2.2.2 q (by rw [← o1.1.1]; exact hq)) hz⟩
    · exact ⟨false, hS _ (sF.2 hfl), hI _ (iF.2 hfl), ⟨fun h => (by cases h), fun h => absurd (fun q _ hq => h.2.2.2.1 q hq) hfl⟩⟩
  · have hc : c = false := by
      cases c with
      | false => rfl
      | true => exact absurd (c2.1 rfl) hall
    subst hc
    refine ⟨false, ?_, ?_, ⟨fun h => (by cases h), fun h => absurd ⟨h.1, h.2.1, h.2.2.1⟩ hall⟩⟩
    · unfold spec_MapValid.f
      exact Ev.bind c1 (Ev.const rfl)
    · have hj : Ev (fun k => impl_MapValid.j0 k true t f) false := by
        refine Ev.s ?_
        simp only [impl_MapValid.j0, if_true]
        exact Ev.const rfl
      unfold impl_MapValid.f
      refine Ev.bind t2 ?_
      cases bt with
      | false => simp only [Bool.false_eq_true, if_false]; exact hj
      | true =>
        simp only [if_true]
        refine Ev.bind f2 ?_
        cases bf with
        | false => simp only [Bool.false_eq_true, if_false]; exact hj
        | true =>
          have hne : (((t.length : Int)) != (f.length : Int)) = true := by
            rw [bne_iff_ne]
            intro e
            exact hall ⟨t3.1 rfl, f3.1 rfl, by omega⟩
          simp only [if_true, hne]
          exact hj
theorem cw_bound (p : List Int) (n : Nat) (hp : inR n p) : ∀ (f : Nat) (s : List Bool) (c : List Int) (a : Int), s.length = n → 0 ≤ a → a < n → (cw p f s c a).2.length + fresh (cw p f s c a).1 ≤ c.length + fresh s
  | 0, s, c, a, hs, h0, h1 => Nat.le_refl _
  | f + 1, s, c, a, hs, h0, h1 => by
    simp only [cw]
    by_cases e : rdOf false s a = true
    · simp only [e, if_true]
      exact Nat.le_refl _
    · simp only [e, Bool.false_eq_true, if_false]
      have h3 : s.getD a.toNat false = false := by rw [← rdOf_nat s a h0]; simpa using e
      have h4 := fresh_set s a.toNat (by omega) h3
      have h5 := hp.2 a.toNat (by omega)
      rw [show ((a.toNat : Nat) : Int) = a by omega] at h5
      have ih := cw_bound p n hp f (s.set a.toNat true) (c ++ [a]) (rd p a) (by simpa using hs) h5.1 h5.2
      rw [List.length_append, List.length_singleton] at ih
      omega
theorem cyS_bound (p : List Int) (n : Nat) (hp : inR n p) : ∀ i, i ≤ n → ∀ l ∈ (cyS p n i).2, 1 ≤ l.length ∧ l.length ≤ n
  | 0, _, l, hl => by simp [cyS] at hl
  | i + 1, hi, l, hl => by
    have ih := cyS_bound p n hp i (by omega) l
    simp only [cyS] at hl
    have hb := cw_bound p n hp (n + 1) (cyS p n i).1 [] i (cyS_len p n i) (by omega) (by omega)
    have hf := fresh_le (cyS p n i).1
    rw [cyS_len] at hf
    rw [List.length_nil, Nat.zero_add] at hb
    by_cases e : (cw p (n + 1) (cyS p n i).1 [] (i : Int)).2 = []
    · rw [if_pos e] at hl
      exact ih hl
    · rw [if_neg e, List.mem_append] at hl
      rcases hl with hl | hl
      · exact ih hl
      · rw [List.mem_singleton.1 hl]
        have : 0 < (cw p (n + 1) (cyS p n i).1 [] (i : Int)).2.length := List.length_pos_iff.2 e
        omega
theorem cyS_pos (p : List Int) (n : Nat) (h1 : 1 ≤ n) : 0 < (cyS p n n).2.length := by
  have hm : ∀ i, 1 ≤ i → 0 < (cyS p n i).2.length := by
    intro i
    induction i with
    | zero => intro h; omega
    | succ i ih =>
      intro _
      simp only [cyS]
      by_cases hi : 1 ≤ i
      · have := ih hi
        split
        · exact this
        · rw [List.length_append]; omega
      · have : i = 0 := by omega
        subst this
        rw [if_neg (cw_new p n _ _ (by show ¬ (List.replicate n false).getD 0 false = true; rw [List.getD_eq_getElem?_getD, List.getElem?_replicate]; split <;> simp))]
        rw [List.length_append, List.length_singleton]
        omega
  exact hm n h1
def lensL (C : List (List Int)) : List Int := C.map fun l => (l.length : Int)
theorem lens_take (C : List (List Int)) (i : Nat) (h : i < C.length) : lensL (C.take (i + 1)) = lensL (C.take i) ++ [((rd_L1 C (i : Int)).length : Int)] := by
  unfold lensL rd_L1
  rw [List.take_succ_eq_append_getElem h, List.map_append, Int.toNat_natCast, List.getD_eq_getElem?_getD, List.getElem?_eq_getElem h]
  rfl
def tlL (C : List (List Int)) : Nat → List Int
  | 0 => []
  | d + 1 => List.replicate (C.countP fun l => decide (l.length = d + 1)) ((d + 1 : Nat) : Int) ++ tlL C d
theorem tlL_mem (C : List (List Int)) (x : Int) : ∀ d, x ∈ tlL C d ↔ ∃ l ∈ C, 1 ≤ l.length ∧ l.length ≤ d ∧ x = (l.length : Int)
  | 0 => by
    simp only [tlL, List.not_mem_nil, false_iff]
    rintro ⟨l, _, h1, h2, _⟩
    omega
  | d + 1 => by
    simp only [tlL, List.mem_append, List.mem_replicate, tlL_mem C x d]
    constructor
    · rintro (⟨h, rfl⟩ | ⟨l, hl, h1, h2, rfl⟩)
      · obtain ⟨l, hl, e⟩ := List.countP_pos_iff.1 (Nat.pos_of_ne_zero h)
        have e := of_decide_eq_true e
        exact ⟨l, hl, by omega, by omega, by rw [e]⟩
      · exact ⟨l, hl, h1, by omega, rfl⟩
    · rintro ⟨l, hl, h1, h2, rfl⟩
      by_cases e : l.length = d + 1
      · exact .inl ⟨Nat.ne_of_gt (List.countP_pos_iff.2 ⟨l, hl, decide_eq_true e⟩), by rw [e]⟩
      · exact .inr ⟨l, hl, h1, by omega, rfl⟩
theorem type_inner (C : List (List Int)) (hC : C.length ≤ 12) (n : Nat) (v : Nat) (hv : v ≤ 12) (r : List Int) : ∀ (d i : Nat) (acc : List Int), C.length - i = d → i ≤ C.length → acc.length + d ≤ 1000 →
    Ev (fun k => spec_l1Type.l0 k (acc ++ List.replicate ((C.drop i).countP fun l => decide (l.length = v)) (v : Int)) C (wrap64 ((v : Int) - 1))) r → Ev (fun k => spec_l1Type.l1 k acc C v i) r
  | 0, i, acc, hd, hi, ha, h => by
    refine Ev.s ?_
    rw [List.drop_eq_nil_of_le (by omega)] at h
    simp only [List.countP_nil, List.replicate_zero, List.append_nil] at h
    simp only [spec_l1Type.l1, show ¬ (i : Int) < (C.length : Int) by omega, if_false]
    exact h
  | d + 1, i, acc, hd, hi, ha, h => by
    have hlt : i < C.length := by omega
    have hrd : rd_L1 C (i : Int) = C[i] := by unfold rd_L1; rw [Int.toNat_natCast, List.getD_eq_getElem?_getD, List.getElem?_eq_getElem hlt]; rfl
    rw [List.drop_eq_getElem_cons hlt, List.countP_cons] at h
    refine Ev.s ?_
    simp only [spec_l1Type.l1, show (i : Int) < (C.length : Int) by omega, show (0 : Int) ≤ (i : Int) by omega, hrd, if_true, w64n (show i < 4611686018427387904 by omega)]
    by_cases e : C[i].length = v
    · simp only [e, decide_true, if_true, show acc.length < 17592186044416 by omega] at h ⊢
      refine type_inner C hC n v hv r d (i + 1) (acc ++ [(v : Int)]) (by omega) (by omega) (by rw [List.length_append, List.length_singleton]; omega) ?_
      rw [List.append_assoc, List.singleton_append, ← List.replicate_succ]
      exact h
    · simp only [e, decide_false, Bool.false_eq_true, if_false, Nat.add_zero] at h
      simp only [show ¬ ((C[i].length : Nat) : Int) = (v : Int) by omega, if_false]
      exact type_inner C hC n v hv r d (i + 1) acc (by omega) (by omega) (by omega) h
theorem type_outer (C : List (List Int)) (hC : C.length ≤ 12) : ∀ (d : Nat) (acc : List Int), d ≤ 12 → acc.length + 12 * d ≤ 500 → Ev (fun k => spec_l1Type.l0 k acc C (d : Int)) (acc ++ tlL C d)
  | 0, acc, hd, ha => by
    refine Ev.s ?_
    simp only [spec_l1Type.l0, tlL, List.append_nil, show ¬ ((0 : Nat) : Int) > 0 by omega, if_false]
    exact Ev.const rfl
  | d + 1, acc, hd, ha => by
    have hc := List.countP_le_length (p := fun l : List Int => decide (l.length = d + 1)) (l := C)
    have ih := type_outer C hC d (acc ++ List.replicate (C.countP fun l => decide (l.length = d + 1)) ((d + 1 : Nat) : Int)) (by omega) (by rw [List.length_append, List.length_replicate]; omega)
    refine Ev.s ?_
    simp only [spec_l1Type.l0, show ((d + 1 : Nat) : Int) > 0 by omega, if_true]
    refine type_inner C hC 0 (d + 1) hd _ C.length 0 acc (by omega) (by omega) (by omega) ?_
    rw [List.drop_zero, w64 (x := ((d + 1 : Nat) : Int) - 1) (by omega) (by omega), show ((d + 1 : Nat) : Int) - 1 = (d : Int) by omega]
    rw [List.append_assoc] at ih
    exact ih
theorem rd_setN (l : List Int) (i j : Nat) (v : Int) (h : i < l.length) : rd (l.set i v) (j : Int) = if j = i then v else rd l (j : Int) := by
  by_cases e : j = i
  · subst e
    rw [if_pos rfl, rd_set_self l j v h]
  · rw [if_neg e, rd_set_ne l i j v (fun z => e z.symm)]
theorem rev_exact_run (l : List Int) (hl : l.length ≤ 1048576) : ∀ (d i : Nat) (m : List Int), l.length - 2 * i ≤ d → 2 * i ≤ l.length + 1 → m.length = l.length →
    (∀ z : Nat, z < l.length → rd m (z : Int) = if z < i ∨ l.length < z + i + 1 then rd l ((l.length - 1 - z : Nat) : Int) else rd l (z : Int)) → Ev (fun k => slices_Reverse_int_int.l0 k m (i : Int) ((l.length : Int) - 1 - (i : Int))) l.reverse
  | d, i, m, hd, hi, hm, hr => by
    by_cases hij : (i : Int) < (l.length : Int) - 1 - (i : Int)
    · obtain ⟨d, rfl⟩ : ∃ e, d = e + 1 := ⟨d - 1, by omega⟩
      have hjn : ((l.length : Int) - 1 - (i : Int)).toNat = l.length - 1 - i := by omega
      have hji : ((l.length : Int) - 1 - (i : Int)) = ((l.length - 1 - i : Nat) : Int) := by omega
      have ih := rev_exact_run l hl d (i + 1) ((m.set (i : Int).toNat (rd m ((l.length : Int) - 1 - (i : Int)))).set ((l.length : Int) - 1 - (i : Int)).toNat (rd m (i : Int))) (by omega) (by omega) (by simpa using hm) (by
        intro z hz
        rw [hjn, Int.toNat_natCast, rd_setN _ _ _ _ (by simp only [List.length_set]; omega), rd_setN _ _ _ _ (by omega), hji, hr (l.length - 1 - i) (by omega), hr i (by omega), hr z hz]
        by_cases e1 : z = l.length - 1 - i
        · subst e1
          rw [if_pos rfl, if_neg (by omega), if_pos (by omega)]
          congr 1
          omega
        · rw [if_neg e1]
          by_cases e2 : z = i
          · subst e2
            rw [if_pos rfl, if_neg (by omega), if_pos (by omega)]
          · rw [if_neg e2]
            by_cases e3 : z < i ∨ l.length < z + i + 1
            · rw [if_pos e3, if_pos (by omega)]
            · rw [if_neg e3, if_neg (by omega)])
      refine Ev.s ?_
      simp only [slices_Reverse_int_int.l0, hij, show (0 : Int) ≤ (l.length : Int) - 1 - (i : Int) by omega, show (l.length : Int) - 1 - (i : Int) < (m.length : Int) by omega, show (0 : Int) ≤ (i : Int) by omega, show (i : Int) < (m.length : Int) by omega, if_true]
      rw [w64 (x := (i : Int) + 1) (by omega) (by omega), w64 (x := (l.length : Int) - 1 - (i : Int) - 1) (by omega) (by omega), show (i : Int) + 1 = ((i + 1 : Nat) : Int) by omega, show (l.length : Int) - 1 - (i : Int) - 1 = (l.length : Int) - 1 - ((i + 1 : Nat) : Int) by omega]
      exact ih
    · have e : m = l.reverse := by
        refine list_ext _ _ (by rw [List.length_reverse, hm]) fun z hz => ?_
        rw [hm] at hz
        have hrev : rd l.reverse (z : Int) = rd l ((l.length - 1 - z : Nat) : Int) := by
          rw [rd_lt _ z (by simpa using hz), rd_lt l (l.length - 1 - z) (by omega), List.getElem_reverse]
        rw [hrev, hr z hz]
        by_cases e3 : z < i ∨ l.length < z + i + 1
        · rw [if_pos e3]
        · rw [if_neg e3]
          congr 1
          omega
      refine Ev.s ?_
      simp only [slices_Reverse_int_int.l0, hij, if_false]
      rw [e]
      exact Ev.const rfl
theorem rev_exact (l : List Int) (hl : l.length ≤ 1048576) : Ev (fun k => slices_Reverse_int_int.f k l) l.reverse := by
  unfold slices_Reverse_int_int.f
  rw [w64 (by omega) (by omega)]
  have := rev_exact_run l hl l.length 0 l (by omega) (by omega) rfl (fun z hz => by rw [if_neg (by omega)])
  simpa using this
theorem desc_uniq : ∀ (a b : List Int), a.Pairwise (fun x y => y ≤ x) → b.Pairwise (fun x y => y ≤ x) → a.Perm b → a = b
  | [], b, _, _, h => (List.nil_perm.1 h).symm
  | x :: a, b, ha, hb, h => by
    match b, hb, h with
    | [], _, h => exact absurd h.length_eq (by simp)
    | y :: b, hb, h =>
      rw [List.pairwise_cons] at ha hb
      have hx : x ∈ y :: b := h.mem_iff.1 (by simp)
      have hy : y ∈ x :: a := h.mem_iff.2 (by simp)
      have hxy : x = y := by
        rcases List.mem_cons.1 hx with e | hx
        · exact e
        · rcases List.mem_cons.1 hy with e | hy
          · exact e.symm
          · have h1 := hb.1 x hx
            have h2 := ha.1 y hy
            omega
      subst hxy
      rw [desc_uniq a b ha.2 hb.2 (List.Perm.cons_inv h)]
theorem tlL_desc (C : List (List Int)) : ∀ d, (tlL C d).Pairwise (fun x y => y ≤ x) ∧ ∀ x ∈ tlL C d, x ≤ (d : Int)
  | 0 => by simp [tlL]
  | d + 1 => by
    obtain ⟨ih1, ih2⟩ := tlL_desc C d
    constructor
    · simp only [tlL]
      rw [List.pairwise_append]
      refine ⟨List.pairwise_replicate.2 (.inr (Int.le_refl _)), ih1, fun x hx y hy => ?_⟩
      have := ih2 y hy
      rw [(List.mem_replicate.1 hx).2]
      omega
    · intro x hx
      simp only [tlL, List.mem_append] at hx
      rcases hx with hx | hx
      · rw [(List.mem_replicate.1 hx).2]; omega
      · have := ih2 x hx; omega
theorem tlL_count (C : List (List Int)) (x : Int) : ∀ d, (tlL C d).count x = C.countP fun l => decide (1 ≤ l.length ∧ l.length ≤ d ∧ (l.length : Int) = x)
  | 0 => by
    simp only [tlL, List.count_nil]
    exact (List.countP_eq_zero.2 fun l _ => by simp only [decide_eq_true_eq]; omega).symm
  | d + 1 => by
    have ih := tlL_count C x d
    simp only [tlL, List.count_append, List.count_replicate, ih]
    by_cases e : x = ((d + 1 : Nat) : Int)
    · subst e
      rw [if_pos (by simp), (List.countP_eq_zero (p := fun l : List Int => decide (1 ≤ l.length ∧ l.length ≤ d ∧ (l.length : Int) = ((d + 1 : Nat) : Int)))).2 (fun l _ => by simp only [decide_eq_true_eq]; omega), Nat.add_zero]
      refine List.countP_congr fun l _ => ?_
      simp only [decide_eq_true_eq]
      omega
    · rw [if_neg (by simp only [beq_iff_eq]; omega), Nat.zero_add]
      refine List.countP_congr fun l _ => ?_
      simp only [decide_eq_true_eq]
      omega
theorem tlL_perm (C : List (List Int)) (d : Nat) (h : ∀ l ∈ C, 1 ≤ l.length ∧ l.length ≤ d) : (tlL C d).Perm (lensL C) := by
  rw [List.perm_iff_count]
  intro x
  rw [tlL_count]
  unfold lensL List.count
  rw [List.countP_map]
  refine List.countP_congr fun l hl => ?_
  have := h l hl
  simp only [decide_eq_true_eq, Function.comp_apply, beq_iff_eq]
  omega
theorem typeOf_ev (p : List Int) (n : Nat) (hn : n ≤ 12) (h1 : 1 ≤ n) (hp : inR n p) : Ev (fun k => impl_typeOf.f k p) (tlL (cyS p n n).2 n) := by
  have hCb := cyS_bound p n hp n (Nat.le_refl _)
  have hCm := cyS_many p n n
  have hCp := cyS_pos p n h1
  have hll : (lensL (cyS p n n).2).length = (cyS p n n).2.length := by simp [lensL]
  have hs : ((lensL (cyS p n n).2).mergeSort fun x y => decide (x ≤ y)).length = (cyS p n n).2.length := by rw [List.length_mergeSort, hll]
  have hrev : ((lensL (cyS p n n).2).mergeSort fun x y => decide (x ≤ y)).reverse = tlL (cyS p n n).2 n := by
    refine desc_uniq _ _ ?_ (tlL_desc _ n).1 ?_
    · rw [List.pairwise_reverse]
      have := List.pairwise_mergeSort (le := fun x y : Int => decide (x ≤ y)) (fun a b c h1 h2 => by simp only [decide_eq_true_eq] at *; omega) (fun a b => by simp only [Bool.or_eq_true, decide_eq_true_eq]; omega) (lensL (cyS p n n).2)
      exact this.imp fun h => by simpa using h
    · exact (List.reverse_perm _).trans ((List.mergeSort_perm _ _).trans (tlL_perm _ n hCb).symm)
  have r1 := rev_exact ((lensL (cyS p n n).2).mergeSort fun x y => decide (x ≤ y)) (by omega)
  rw [hrev] at r1
  have hsort : slices_Sort_int_int.f (lensL (cyS p n n).2) = some ((lensL (cyS p n n).2).mergeSort fun x y => decide (x ≤ y)) := by
    unfold slices_Sort_int_int.f
    rw [if_pos ⟨by omega, by omega⟩]
  have run : ∀ (d i : Nat), (cyS p n n).2.length - i = d → i ≤ (cyS p n n).2.length → Ev (fun k => impl_typeOf.l0 k (lensL ((cyS p n n).2.take i)) (cyS p n n).2 (cyS p n n).2.length i) (tlL (cyS p n n).2 n) := by
    intro d
    induction d with
    | zero =>
      intro i hd hi
      have e : i = (cyS p n n).2.length := by omega
      rw [e, List.take_length]
      refine Ev.s ?_
      simp only [impl_typeOf.l0, show ¬ ((cyS p n n).2.length : Int) < ((cyS p n n).2.length : Int) by omega, if_false, hsort, Option.bind_some]
      exact Ev.bind r1 (Ev.const rfl)
    | succ d ih =>
      intro i hd hi
      have h := ih (i + 1) (by omega) (by omega)
      rw [lens_take _ i (by omega)] at h
      have hlt : (lensL ((cyS p n n).2.take i)).length < 17592186044416 := by simp only [lensL, List.length_map, List.length_take]; omega
      refine Ev.s ?_
      simp only [impl_typeOf.l0, show (i : Int) < ((cyS p n n).2.length : Int) by omega, show (0 : Int) ≤ (i : Int) by omega, hlt, if_true, w64n (show i < 4611686018427387904 by omega)]
      exact h
  unfold impl_typeOf.f
  refine Ev.bind (implCyc_ev p n (by omega) hp) ?_
  exact run _ 0 rfl (by omega)
theorem l1Type_ev (p : List Int) (n : Nat) (hn : n ≤ 12) (hp : inR n p) : Ev (fun k => spec_l1Type.f k p) (tlL (cyS p n n).2 n) := by
  have hCm := cyS_many p n n
  unfold spec_l1Type.f
  refine Ev.bind (specCyc_ev p n (by omega) hp) ?_
  rw [hp.1]
  exact type_outer (cyS p n n).2 (by omega) n [] (by omega) (by simp only [List.length_nil]; omega)
theorem len_le_of_sub : ∀ (a b : List Nat), a.Nodup → (∀ x ∈ a, x ∈ b) → a.length ≤ b.length
  | [], b, _, _ => Nat.zero_le _
  | x :: a, b, hn, h => by
    have hx := h x (by simp)
    obtain ⟨hxa, hna⟩ := List.nodup_cons.1 hn
    have ih := len_le_of_sub a (b.erase x) hna fun y hy => (List.mem_erase_of_ne (by rintro rfl; exact hxa hy)).2 (h y (by simp [hy]))
    rw [List.length_erase_of_mem hx] at ih
    have := List.length_pos_of_mem hx
    simp only [List.length_cons]
    omega
def itr (t : List Int) : Nat → Int → Int
  | 0, x => x
  | k + 1, x => itr t k (rd t x)
theorem itr_in (t : List Int) (n : Nat) (ht : inR n t) : ∀ (k : Nat) (x : Int), 0 ≤ x ∧ x < n → 0 ≤ itr t k x ∧ itr t k x < n
  | 0, x, h => h
  | k + 1, x, h => by
    have := ht.2 x.toNat (by omega)
    rw [show ((x.toNat : Nat) : Int) = x by omega] at this
    exact itr_in t n ht k _ this
theorem itr_add (t : List Int) : ∀ (a b : Nat) (x : Int), itr t (a + b) x = itr t b (itr t a x)
  | 0, b, x => by rw [Nat.zero_add]; rfl
  | a + 1, b, x => by
    rw [show a + 1 + b = (a + b) + 1 by omega]
    exact itr_add t a b _
def injR (n : Nat) (t : List Int) : Prop := ∀ i j : Nat, i < n → j < n → rd t i = rd t j → i = j
theorem itr_inj (t : List Int) (n : Nat) (ht : inR n t) (hi : injR n t) : ∀ (k : Nat) (x y : Int), 0 ≤ x ∧ x < n → 0 ≤ y ∧ y < n → itr t k x = itr t k y → x = y
  | 0, x, y, _, _, h => h
  | k + 1, x, y, hx, hy, h => by
    have a1 := ht.2 x.toNat (by omega)
    have a2 := ht.2 y.toNat (by omega)
    have ex : ((x.toNat : Nat) : Int) = x := by omega
    have ey : ((y.toNat : Nat) : Int) = y := by omega
    rw [ex] at a1
    rw [ey] at a2
    have h1 := itr_inj t n ht hi k _ _ a1 a2 h
    have := hi x.toNat y.toNat (by omega) (by omega) (by rw [ex, ey]; exact h1)
    omega
theorem itr_back (t : List Int) (n : Nat) (ht : inR n t) (hi : injR n t) (x : Int) (hx : 0 ≤ x ∧ x < n) : ∃ k : Nat, k < n ∧ itr t (k + 1) x = x := by
  by_cases h : ∃ i j : Nat, i < j ∧ j ≤ n ∧ itr t i x = itr t j x
  · obtain ⟨i, j, h1, h2, h3⟩ := h
    refine ⟨j - i - 1, by omega, ?_⟩
    have e : itr t j x = itr t i (itr t (j - i - 1 + 1) x) := by rw [← itr_add, show j - i - 1 + 1 + i = j by omega]
    rw [e] at h3
    exact (itr_inj t n ht hi i _ _ hx (itr_in t n ht _ x hx) h3).symm
  · exfalso
    have h1 := len_le_of_sub ((List.range (n + 1)).map fun i => (itr t i x).toNat) (List.range n) ?_ ?_
    · rw [List.length_map, List.length_range, List.length_range] at h1
      omega
    · rw [List.Nodup, List.pairwise_map]
      refine List.Pairwise.imp_of_mem ?_ (List.pairwise_lt_range (n := n + 1))
      intro a b ha hb hab e
      have ia := itr_in t n ht a x hx
      have ib := itr_in t n ht b x hx
      exact h ⟨a, b, hab, by have := List.mem_range.1 hb; omega, by omega⟩
    · intro y hy
      obtain ⟨a, ha, rfl⟩ := List.mem_map.1 hy
      have ia := itr_in t n ht a x hx
      exact List.mem_range.2 (by omega)
def Cnt (n : Nat) (P : Nat → Prop) (k : Nat) : Prop := ∃ L : List Nat, L.Nodup ∧ (∀ x, x ∈ L ↔ x < n ∧ P x) ∧ L.length = k
theorem Cnt.ex (P : Nat → Prop) : ∀ n, ∃ k, Cnt n P k ∧ k ≤ n
  | 0 => ⟨0, ⟨[], List.nodup_nil, by simp, rfl⟩, Nat.le_refl _⟩
  | n + 1 => by
    obtain ⟨k, ⟨L, h1, h2, h3⟩, hk⟩ := Cnt.ex P n
    by_cases h : P n
    · refine ⟨k + 1, ⟨n :: L, List.nodup_cons.2 ⟨fun z => by have := ((h2 n).1 z).1; omega, h1⟩, fun x => ?_, by simp [h3]⟩, by omega⟩
      rw [List.mem_cons, h2]
      constructor
      · rintro (rfl | ⟨a, b⟩)
        · exact ⟨by omega, h⟩
        · exact ⟨by omega, b⟩
      · rintro ⟨a, b⟩
        by_cases e : x = n
        · exact .inl e
        · exact .inr ⟨by omega, b⟩
    · refine ⟨k, ⟨L, h1, fun x => ?_, h3⟩, by omega⟩
      rw [h2]
      constructor
      · rintro ⟨a, b⟩; exact ⟨by omega, b⟩
      · rintro ⟨a, b⟩
        by_cases e : x = n
        · exact absurd (e ▸ b) h
        · exact ⟨by omega, b⟩
theorem Cnt.le {n : Nat} {P Q : Nat → Prop} {k l : Nat} (hp : Cnt n P k) (hq : Cnt n Q l) (g : Nat → Nat) (hg : ∀ x, x < n → P x → g x < n ∧ Q (g x)) (hi : ∀ x y, x < n → P x → y < n → P y → g x = g y → x = y) : k ≤ l := by
  obtain ⟨L, h1, h2, rfl⟩ := hp
  obtain ⟨M, m1, m2, rfl⟩ := hq
  rw [← List.length_map (f := g)]
  refine len_le_of_sub _ _ ?_ ?_
  · rw [List.Nodup, List.pairwise_map]
    refine List.Pairwise.imp_of_mem ?_ h1
    intro a b ha hb hab e
    exact hab (hi a b ((h2 a).1 ha).1 ((h2 a).1 ha).2 ((h2 b).1 hb).1 ((h2 b).1 hb).2 e)
  · intro y hy
    obtain ⟨a, ha, rfl⟩ := List.mem_map.1 hy
    exact (m2 _).2 (hg a ((h2 a).1 ha).1 ((h2 a).1 ha).2)
theorem Cnt.congr {n : Nat} {P Q : Nat → Prop} {k : Nat} (hp : Cnt n P k) (h : ∀ x, x < n → (P x ↔ Q x)) : Cnt n Q k := by
  obtain ⟨L, h1, h2, h3⟩ := hp
  exact ⟨L, h1, fun x => by rw [h2]; exact ⟨fun z => ⟨z.1, (h x z.1).1 z.2⟩, fun z => ⟨z.1, (h x z.1).2 z.2⟩⟩, h3⟩
theorem Cnt.drop {n : Nat} {P Q : Nat → Prop} {k : Nat} (hp : Cnt n P k) (z : Nat) (hz : z < n) (pz : P z) (h : ∀ x, x < n → (Q x ↔ P x ∧ x ≠ z)) : 1 ≤ k ∧ Cnt n Q (k - 1) := by
  obtain ⟨L, h1, h2, rfl⟩ := hp
  have hm : z ∈ L := (h2 z).2 ⟨hz, pz⟩
  have := List.length_pos_of_mem hm
  refine ⟨this, L.erase z, h1.erase z, fun x => ?_, List.length_erase_of_mem hm⟩
  rw [h1.mem_erase_iff, h2]
  constructor
  · rintro ⟨a, b, c⟩; exact ⟨b, (h x b).2 ⟨c, a⟩⟩
  · rintro ⟨a, b⟩; have := (h x a).1 b; exact ⟨this.2, a, this.1⟩
def lst (R : Nat → Nat → Prop) (j : Nat) : Prop := ∀ i, i < j → ¬ R i j
def Cl (n : Nat) (R : Nat → Nat → Prop) (k : Nat) : Prop := Cnt n (lst R) k
theorem closed_of_fwd (p : List Int) (n : Nat) (hp : inR n p) (hi : injR n p) (S : Nat → Prop) (h : ∀ k, k < n → S k → S (rd p k).toNat) : closedL [p] n S := by
  intro q hq k hk
  have e : q = p := by simpa using hq
  subst e
  refine ⟨h k hk, fun hs => ?_⟩
  obtain ⟨m, h1, h2⟩ := itr_back q n hp hi k (by omega)
  have g : ∀ (j : Nat) (x : Int), 0 ≤ x ∧ x < n → S x.toNat → S (itr q j x).toNat := by
    intro j
    induction j with
    | zero => intro x _ h; exact h
    | succ j ih =>
      intro x hx hsx
      have := hp.2 x.toNat (by omega)
      have e := h x.toNat (by omega) hsx
      rw [show ((x.toNat : Nat) : Int) = x by omega] at this e
      exact ih _ this e
  have := g m (rd q k) (hp.2 k hk) hs
  rw [show itr q m (rd q k) = itr q (m + 1) k from rfl, h2] at this
  simpa using this
def Exch (n : Nat) (p q : List Int) (a b : Nat) : Prop := a < n ∧ b < n ∧ a ≠ b ∧ rd q a = rd p b ∧ rd q b = rd p a ∧ ∀ x : Nat, x < n → x ≠ a → x ≠ b → rd q x = rd p x
theorem Exch.symm {n : Nat} {p q : List Int} {a b : Nat} (h : Exch n p q a b) : Exch n q p a b := ⟨h.1, h.2.1, h.2.2.1, h.2.2.2.2.1.symm, h.2.2.2.1.symm, fun x hx h1 h2 => (h.2.2.2.2.2 x hx h1 h2).symm⟩
theorem Exch.swap {n : Nat} {p q : List Int} {a b : Nat} (h : Exch n p q a b) : Exch n p q b a := ⟨h.2.1, h.1, fun e => h.2.2.1 e.symm, h.2.2.2.2.1, h.2.2.2.1, fun x hx h1 h2 => h.2.2.2.2.2 x hx h2 h1⟩
theorem Cl.ex (n : Nat) (R : Nat → Nat → Prop) : ∃ k, Cl n R k ∧ k ≤ n := Cnt.ex _ n
theorem getD_set (s : List Bool) (i j : Nat) (b : Bool) (hi : i < s.length) : (s.set i b).getD j false = if i = j then b else s.getD j false := by
  rw [List.getD_eq_getElem?_getD, List.getElem?_set]
  by_cases e : i = j
  · subst e
    simp [hi]
  · simp [e, List.getD_eq_getElem?_getD]
theorem cw_ends (p : List Int) (n : Nat) (hp : inR n p) (a0 : Nat) (ha0 : a0 < n) (s0 : Nat → Prop) : ∀ (m : Nat) (s : List Bool) (c : List Int) (a : Nat), s.length = n → a < n → fresh s < m →
    (∀ x, x < n → s.getD x false = true → s.getD (rd p x).toNat false = true ∨ (rd p x).toNat = a) → Reach [p] n a0 a → (∀ x, x < n → s.getD x false = true → s0 x ∨ Reach [p] n a0 x) → (∀ x, s0 x → s.getD x false = true) → (s.getD a0 false = true ∨ a = a0) → (∀ x ∈ c, 0 ≤ x ∧ x < n ∧ Reach [p] n a0 x.toNat) → (a0 ≠ a → (a0 : Int) ∈ c) → (∀ x, x < n → s.getD x false = true → s0 x ∨ (x : Int) ∈ c) →
    (∀ x, x < n → (cw p m s c a).1.getD x false = true → (cw p m s c a).1.getD (rd p x).toNat false = true) ∧ (∀ x, x < n → (cw p m s c a).1.getD x false = true → s0 x ∨ Reach [p] n a0 x) ∧ (∀ x, s0 x → (cw p m s c a).1.getD x false = true) ∧ (cw p m s c a).1.getD a0 false = true ∧ (∀ x ∈ (cw p m s c a).2, 0 ≤ x ∧ x < n ∧ Reach [p] n a0 x.toNat) ∧ (∀ x, x < n → (cw p m s c a).1.getD x false = true → s0 x ∨ (x : Int) ∈ (cw p m s c a).2)
  | 0, s, c, a, hs, ha, hm, h1, h2, h3, h4, h5, h6, h7, h8 => absurd hm (Nat.not_lt_zero _)
  | m + 1, s, c, a, hs, ha, hm, h1, h2, h3, h4, h5, h6, h7, h8 => by
    simp only [cw]
    rw [rdOf_nat s a (by omega), Int.toNat_natCast]
    by_cases e : s.getD a false = true
    · rw [if_pos e]
      refine ⟨fun x hx hsx => (h1 x hx hsx).elim id (fun z => by rw [z]; exact e), h3, h4, h5.elim id (fun z => by rw [← z]; exact e), h6, h8⟩
    · rw [if_neg e]
      have pr := hp.2 a ha
      have e0 : s.getD a false = false := by simpa using e
      have fr := fresh_set s a (by omega) e0
      have back : (((rd p a).toNat : Nat) : Int) = rd p a := by omega
      have st := Reach.step (ps := [p]) (n := n) (p := p) (by simp) ha
      have ih := cw_ends p n hp a0 ha0 s0 m (s.set a true) (c ++ [(a : Int)]) (rd p a).toNat (by simpa using hs) (by omega) (by omega)
        (fun x hx hsx => by
          rw [getD_set _ _ _ _ (by omega)] at hsx ⊢
          by_cases z : a = x
          · subst z; exact .inr rfl
          · rw [if_neg z] at hsx
            by_cases y : a = (rd p x).toNat
            · rw [if_pos y]; exact .inl rfl
            · rw [if_neg y]
              exact .inl ((h1 x hx hsx).elim id (fun q => absurd q.symm y)))
        (h2.trans st)
        (fun x hx hsx => by
          rw [getD_set _ _ _ _ (by omega)] at hsx
          by_cases z : a = x
          · subst z; exact .inr h2
          · rw [if_neg z] at hsx
            exact h3 x hx hsx)
        (fun x hx => by
          rw [getD_set _ _ _ _ (by omega)]
          split
          · rfl
          · exact h4 x hx)
        (.inl (by
          rw [getD_set _ _ _ _ (by omega)]
          by_cases z : a = a0
          · rw [if_pos z]
          · rw [if_neg z]
            exact h5.elim id (fun q => absurd q z)))
        (fun x hx => by
          rw [List.mem_append, List.mem_singleton] at hx
          rcases hx with hx | rfl
          · exact h6 x hx
          · exact ⟨by omega, by omega, by rw [Int.toNat_natCast]; exact h2⟩)
        (fun _ => by
          rw [List.mem_append, List.mem_singleton]
          by_cases z : a0 = a
          · right; rw [z]
          · exact .inl (h7 z))
        (fun x hx hsx => by
          rw [List.mem_append, List.mem_singleton]
          rw [getD_set _ _ _ _ (by omega)] at hsx
          by_cases z : a = x
          · subst z; exact .inr (.inr rfl)
          · rw [if_neg z] at hsx
            exact (h8 x hx hsx).imp id .inl)
      rw [back] at ih
      exact ih
theorem cyS_seen (p : List Int) (n : Nat) (hp : inR n p) (hi : injR n p) : ∀ i, i ≤ n → ∀ x, x < n → ((cyS p n i).1.getD x false = true ↔ ∃ j, j < i ∧ Reach [p] n j x)
  | 0, _, x, hx => by
    constructor
    · intro h
      simp [cyS, List.getD_eq_getElem?_getD, List.getElem?_replicate, hx] at h
    · rintro ⟨j, hj, _⟩; omega
  | i + 1, hi', x, hx => by
    have ih := cyS_seen p n hp hi i (by omega)
    have l1 := cyS_len p n i
    simp only [cyS]
    by_cases e : (cyS p n i).1.getD i false = true
    · rw [cw_seen p (n + 1) _ _ _ (by rw [rdOf_nat _ _ (by omega), Int.toNat_natCast]; exact e)]
      rw [ih x hx]
      obtain ⟨q, q1, q2⟩ := (ih i (by omega)).1 e
      constructor
      · rintro ⟨j, hj, h⟩; exact ⟨j, by omega, h⟩
      · rintro ⟨j, hj, h⟩
        by_cases z : j = i
        · subst z; exact ⟨q, q1, q2.trans h⟩
        · exact ⟨j, by omega, h⟩
    · obtain ⟨w1, w2, w3, w4, w5, w6⟩ := cw_ends p n hp i (by omega) (fun x => x < n ∧ (cyS p n i).1.getD x false = true) (n + 1) (cyS p n i).1 [] i l1 (by omega) (by have := fresh_le (cyS p n i).1; omega)
        (fun y hy hsy => .inl (by
          have pr := hp.2 y hy
          obtain ⟨j, hj, h⟩ := (ih y hy).1 hsy
          exact (ih _ (by omega)).2 ⟨j, hj, h.trans (Reach.step (by simp) hy)⟩))
        (Reach.refl _ _ _) (fun y hy hsy => .inl ⟨hy, hsy⟩) (fun y hy => hy.2) (.inr rfl) (by simp) (fun z => absurd rfl z) (fun y hy hsy => .inl ⟨hy, hsy⟩)
      constructor
      · intro h
        rcases w2 x hx h with ⟨_, h⟩ | h
        · obtain ⟨j, hj, h⟩ := (ih x hx).1 h
          exact ⟨j, by omega, h⟩
        · exact ⟨i, by omega, h⟩
      · rintro ⟨j, hj, h⟩
        by_cases z : j = i
        · subst z
          have hc := closed_of_fwd p n hp hi (fun y => (cw p (n + 1) (cyS p n j).1 [] j).1.getD y false = true) w1
          exact (h _ hc).1 w4
        · exact w3 x ⟨hx, (ih x hx).2 ⟨j, by omega, h⟩⟩
theorem Cnt.none {P : Nat → Prop} {n : Nat} (h : ∀ x, x < n → ¬ P x) : Cnt n P 0 := ⟨[], List.nodup_nil, fun x => ⟨fun z => by simp at z, fun z => absurd z.2 (h x z.1)⟩, rfl⟩
def MapOk (t f : List Int) (n : Nat) : Prop := n ≤ 12 ∧ 1 ≤ n ∧ inR n t ∧ injR n t ∧ inR n f ∧ (∀ i : Nat, i < n → flipAt f i) ∧ ∀ i j : Nat, i < n → j < n → Reach [t, f] n i j
theorem isPerm_inj (l : List Int) (h : isPerm l) : injR l.length l := by
  intro i j hi hj e
  by_cases c : i < j
  · exact absurd e ((h.2.2 j hj).2.2 i c)
  · by_cases c2 : j < i
    · exact absurd e.symm ((h.2.2 i hi).2.2 j c2)
    · omega
theorem mapOk_of (t f : List Int) (h : isMap t f) : MapOk t f t.length := by
  obtain ⟨pt, pf, hl, hfl, hcon⟩ := h
  refine ⟨pt.2.1, pt.1, isPerm_inR t pt, isPerm_inj t pt, ?_, ?_, ?_⟩
  · rw [hl]; exact isPerm_inR f pf
  · rw [hl]; exact hfl
  · rw [hl]; exact hcon
def faces (t f : List Int) (n : Nat) : List Int := (List.range n).map fun (d : Nat) => rd t (rd f (d : Int))
theorem faces_len (t f : List Int) (n : Nat) : (faces t f n).length = n := by simp [faces]
theorem faces_rd (t f : List Int) (n d : Nat) (h : d < n) : rd (faces t f n) (d : Int) = rd t (rd f (d : Int)) := by
  rw [rd_lt _ _ (by simp [faces]; exact h)]
  simp [faces]
theorem perm_of (l : List Int) (n : Nat) (h1 : 1 ≤ n) (h12 : n ≤ 12) (hl : inR n l) (hi : injR n l) : isPerm l := by
  refine ⟨by rw [hl.1]; exact h1, by rw [hl.1]; exact h12, fun i hi' => ?_⟩
  rw [hl.1] at hi'
  have := hl.2 i hi'
  refine ⟨this.1, by rw [hl.1]; exact this.2, fun k hk e => ?_⟩
  have := hi k i (by omega) hi' e
  omega
theorem flip_inj (f : List Int) (n : Nat) (hf : inR n f) (hfl : ∀ i : Nat, i < n → flipAt f i) : injR n f := by
  intro i j hi hj e
  have h1 := (hfl i hi).2
  rw [e, (hfl j hj).2] at h1
  omega
theorem isMap_of {t f : List Int} {n : Nat} (H : MapOk t f n) : isMap t f := by
  obtain ⟨hn, h1, ht, hti, hf, hfl, hcon⟩ := H
  refine ⟨perm_of t n h1 hn ht hti, perm_of f n h1 hn hf (flip_inj f n hf hfl), by rw [ht.1, hf.1], ?_, ?_⟩
  · rw [hf.1]; exact hfl
  · rw [hf.1]; exact hcon
theorem faces_inR (t f : List Int) (n : Nat) (ht : inR n t) (hf : inR n f) : inR n (faces t f n) := by
  refine ⟨faces_len t f n, fun i hi => ?_⟩
  rw [faces_rd t f n i hi]
  have h1 := hf.2 i hi
  have h2 := ht.2 (rd f i).toNat (by omega)
  rwa [show (((rd f i).toNat : Nat) : Int) = rd f i by omega] at h2
theorem faces_inj (t f : List Int) (n : Nat) (ht : inR n t) (hti : injR n t) (hf : inR n f) (hfl : ∀ i : Nat, i < n → flipAt f i) : injR n (faces t f n) := by
  intro i j hi hj e
  rw [faces_rd t f n i hi, faces_rd t f n j hj] at e
  have h1 := hf.2 i hi
  have h2 := hf.2 j hj
  have e1 : (((rd f i).toNat : Nat) : Int) = rd f i := by omega
  have e2 : (((rd f j).toNat : Nat) : Int) = rd f j := by omega
  rw [← e1, ← e2] at e
  have := hti _ _ (by omega) (by omega) e
  exact flip_inj f n hf hfl i j hi hj (by omega)
theorem dual_ok {t f : List Int} {n : Nat} (H : MapOk t f n) : MapOk (faces t f n) f n := by
  obtain ⟨hn, h1, ht, hti, hf, hfl, hcon⟩ := H
  refine ⟨hn, h1, faces_inR t f n ht hf, faces_inj t f n ht hti hf hfl, hf, hfl, fun i j hi hj S hS => hcon i j hi hj S fun p hp k hk => ?_⟩
  have sf := hS f (by simp)
  rcases List.mem_cons.1 hp with rfl | hp
  · have fr := hf.2 k hk
    have h2 := hS (faces p f n) (by simp) (rd f k).toNat (by omega)
    have e1 : (((rd f k).toNat : Nat) : Int) = rd f k := by omega
    rw [faces_rd p f n _ (by omega), e1, (hfl k hk).2] at h2
    exact (sf k hk).trans h2
  · rw [List.mem_singleton.1 hp]
    exact sf k hk
theorem surj (t : List Int) (n : Nat) (ht : inR n t) (hti : injR n t) (i : Nat) (hi : i < n) : ∃ j : Nat, j < n ∧ rd t j = i := by
  obtain ⟨k, _, h2⟩ := itr_back t n ht hti i (by omega)
  have hin := itr_in t n ht k i (by omega)
  refine ⟨(itr t k i).toNat, by omega, ?_⟩
  rw [show (((itr t k i).toNat : Nat) : Int) = itr t k i by omega]
  have := itr_add t k 1 (i : Int)
  rw [h2] at this
  exact this.symm
theorem sameInts_run (l : List Int) (hl : l.length ≤ 1048576) : ∀ (d : Nat) (i : Nat), l.length - i = d → i ≤ l.length → Ev (fun k => laws_sameInts.l0 k l l i) true
  | 0, i, hd, hi => by
    refine Ev.s ?_
    simp only [laws_sameInts.l0, show ¬ (i : Int) < (l.length : Int) by omega, if_false]
    exact Ev.const rfl
  | d + 1, i, hd, hi => by
    refine Ev.s ?_
    simp only [laws_sameInts.l0, show (i : Int) < (l.length : Int) by omega, show (0 : Int) ≤ i by omega, if_true]
    rw [w64 (x := (i : Int) + 1) (by omega) (by omega), show ((i : Int) + 1) = ((i + 1 : Nat) : Int) by omega]
    exact sameInts_run l hl d (i + 1) (by omega) (by omega)
theorem sameInts_same (l : List Int) (hl : l.length ≤ 1048576) : Ev (fun k => laws_sameInts.f k l l) true := by
  unfold laws_sameInts.f
  simp only [if_true]
  exact sameInts_run l hl l.length 0 (by omega) (by omega)
def kE (f : List Int) : Nat → Nat
  | 0 => 0
  | m + 1 => if (m : Int) < rd f (m : Int) then kE f m + 1 else kE f m
def kG (f : List Int) : Nat → Nat
  | 0 => 0
  | m + 1 => if rd f (m : Int) < (m : Int) then kG f m + 1 else kG f m
theorem kE_cnt (f : List Int) (n : Nat) : ∀ m, m ≤ n → Cnt n (fun d => d < m ∧ (d : Int) < rd f (d : Int)) (kE f m)
  | 0, _ => ⟨[], List.nodup_nil, fun x => by simp, rfl⟩
  | m + 1, hm => by
    obtain ⟨L, h1, h2, h3⟩ := kE_cnt f n m (by omega)
    simp only [kE]
    by_cases c : (m : Int) < rd f (m : Int)
    · rw [if_pos c]
      refine ⟨m :: L, List.nodup_cons.2 ⟨fun z => by have := ((h2 m).1 z).2.1; omega, h1⟩, fun x => ?_, by simp [h3]⟩
      rw [List.mem_cons, h2]
      constructor
      · rintro (rfl | ⟨a, b, b'⟩)
        · exact ⟨by omega, by omega, c⟩
        · exact ⟨a, by omega, b'⟩
      · rintro ⟨a, b, b'⟩
        by_cases e : x = m
        · exact .inl e
        · exact .inr ⟨a, by omega, b'⟩
    · rw [if_neg c]
      refine ⟨L, h1, fun x => ?_, h3⟩
      rw [h2]
      constructor
      · rintro ⟨a, b, b'⟩; exact ⟨a, by omega, b'⟩
      · rintro ⟨a, b, b'⟩
        by_cases e : x = m
        · subst e; exact absurd b' c
        · exact ⟨a, by omega, b'⟩
theorem kG_cnt (f : List Int) (n : Nat) : ∀ m, m ≤ n → Cnt n (fun d => d < m ∧ rd f (d : Int) < (d : Int)) (kG f m)
  | 0, _ => ⟨[], List.nodup_nil, fun x => by simp, rfl⟩
  | m + 1, hm => by
    obtain ⟨L, h1, h2, h3⟩ := kG_cnt f n m (by omega)
    simp only [kG]
    by_cases c : rd f (m : Int) < (m : Int)
    · rw [if_pos c]
      refine ⟨m :: L, List.nodup_cons.2 ⟨fun z => by have := ((h2 m).1 z).2.1; omega, h1⟩, fun x => ?_, by simp [h3]⟩
      rw [List.mem_cons, h2]
      constructor
      · rintro (rfl | ⟨a, b, b'⟩)
        · exact ⟨by omega, by omega, c⟩
        · exact ⟨a, by omega, b'⟩
      · rintro ⟨a, b, b'⟩
        by_cases e : x = m
        · exact .inl e
        · exact .inr ⟨a, by omega, b'⟩
    · rw [if_neg c]
      refine ⟨L, h1, fun x => ?_, h3⟩
      rw [h2]
      constructor
      · rintro ⟨a, b, b'⟩; exact ⟨a, by omega, b'⟩
      · rintro ⟨a, b, b'⟩
        by_cases e : x = m
        · subst e; exact absurd b' c
        · exact ⟨a, by omega, b'⟩
theorem kEG (f : List Int) (n : Nat) (hfl : ∀ i : Nat, i < n → flipAt f i) : ∀ m, m ≤ n → kE f m + kG f m = m
  | 0, _ => rfl
  | m + 1, hm => by
    have ih := kEG f n hfl m (by omega)
    have hne := (hfl m (by omega)).1
    simp only [kE, kG]
    split <;> split <;> omega
theorem kE_half (f : List Int) (n : Nat) (hf : inR n f) (hfl : ∀ i : Nat, i < n → flipAt f i) : 2 * kE f n = n := by
  have h1 := kEG f n hfl n (Nat.le_refl _)
  have c1 := kE_cnt f n n (Nat.le_refl _)
  have c2 := kG_cnt f n n (Nat.le_refl _)
  have fin : ∀ x y : Nat, x < n → y < n → (rd f x).toNat = (rd f y).toNat → x = y := fun x y hx hy e => by
    have r1 := hf.2 x hx
    have r2 := hf.2 y hy
    have e1 := (hfl x hx).2
    have e2 := (hfl y hy).2
    rw [show rd f x = rd f y by omega, e2] at e1
    omega
  have cast : ∀ x : Nat, x < n → ((rd f x).toNat : Int) = rd f x := fun x hx => by have := hf.2 x hx; omega
  have l1 := c1.le c2 (fun d => (rd f d).toNat) (fun x hx hp => by
    have r1 := hf.2 x hx
    refine ⟨by omega, by omega, ?_⟩
    rw [cast x hx, (hfl x hx).2]
    exact hp.2) (fun x y hx _ hy _ e => fin x y hx hy e)
  have l2 := c2.le c1 (fun d => (rd f d).toNat) (fun x hx hp => by
    have r1 := hf.2 x hx
    refine ⟨by omega, by omega, ?_⟩
    rw [cast x hx, (hfl x hx).2]
    exact hp.2) (fun x y hx _ hy _ e => fin x y hx hy e)
  omega
theorem xor_nonneg (a b : Int) (ha : 0 ≤ a) (hb : 0 ≤ b) (ha' : a < 9223372036854775808) (hb' : b < 9223372036854775808) : 0 ≤ Go.bits .xor .i64 a b := by
  obtain ⟨n, rfl⟩ := Int.eq_ofNat_of_zero_le ha
  obtain ⟨m, rfl⟩ := Int.eq_ofNat_of_zero_le hb
  have hn : n % 2 ^ 64 = n := Nat.mod_eq_of_lt (by omega)
  have hm : m % 2 ^ 64 = m := Nat.mod_eq_of_lt (by omega)
  have hx : n ^^^ m < 2 ^ 63 := Nat.xor_lt_two_pow (by omega) (by omega)
  have e : Go.bits .xor .i64 (n : Int) (m : Int) = IntKind.i64.wrap ((n ^^^ m : Nat) : Int) := by
    simp only [Go.bits, BitVec.ofInt_natCast]
    show IntKind.i64.wrap (((BitVec.ofNat 64 n ^^^ BitVec.ofNat 64 m).toNat : Nat) : Int) = _
    rw [BitVec.toNat_xor, BitVec.toNat_ofNat, BitVec.toNat_ofNat, hn, hm]
  rw [e, IntKind.wrap_i64]
  omega
def bytesOk (l : List Int) : Prop := l.length ≤ 2000 ∧ ∀ x ∈ l, 0 ≤ x ∧ x ≤ 255
theorem rd_byte (l : List Int) (h : bytesOk l) (i : Int) : 0 ≤ rd l i ∧ rd l i ≤ 255 := by
  unfold rd
  by_cases hi : i.toNat < l.length
  · rw [List.getD_eq_getElem?_getD, List.getElem?_eq_getElem hi]
    exact h.2 _ (List.getElem_mem hi)
  · rw [List.getD_eq_getElem?_getD, List.getElem?_eq_none (by omega)]
    decide
theorem pick_ev (l : List Int) (h : bytesOk l) (p : Int) (hp : 0 ≤ p) (hp' : p ≤ 1000000) (n : Int) (hn : 1 ≤ n) (hn' : n ≤ 1000000) : ∃ v, Ev (fun k => spec_l6Rd_pick.f k l p n) (v, p + 1) ∧ 0 ≤ v ∧ v < n := by
  have w0 : wrap64 (p + 1) = p + 1 := w64 (by omega) (by omega)
  have w1 : wrap64 (p + 1 - 1) = p := by rw [w64 (by omega) (by omega)]; omega
  have hl := h.1
  unfold spec_l6Rd_pick.f
  simp only [show ¬ n < 1 by omega, if_false, w0]
  by_cases hz : l.length = 0
  · refine ⟨0, Ev.s ?_, by omega, by omega⟩
    have : (((l.length : Int)) == 0) = true := by simp [hz]
    simp only [this, spec_l6Rd_pick.j0, if_true]
    exact Ev.const rfl
  · have hb : (((l.length : Int)) == 0) = false := by rw [beq_eq_false_iff_ne]; omega
    have hn0 : ¬ n = 0 := by omega
    by_cases hlt : p < (l.length : Int)
    · have hr := rd_byte l h p
      have wr : wrap64 (rd l p) = rd l p := w64 (by omega) (by omega)
      refine ⟨Int.tmod (rd l p) n, Ev.s ?_, Int.tmod_nonneg _ (by omega), Int.tmod_lt_of_pos _ (by omega)⟩
      simp only [hb, spec_l6Rd_pick.j0, w1, hlt, hp, hn0, wr, Bool.false_eq_true, if_true, if_false]
      exact Ev.const rfl
    · have hl0 : ¬ (l.length : Int) = 0 := by omega
      have wk : wrap64 (p * 7) = p * 7 := w64 (by omega) (by omega)
      have wk3 : wrap64 (p * 7 + 3) = p * 7 + 3 := w64 (by omega) (by omega)
      have t1 := Int.tmod_nonneg (a := p) (l.length : Int) hp
      have t2 := Int.tmod_lt_of_pos p (b := (l.length : Int)) (by omega)
      have t3 := Int.tmod_nonneg (a := p * 7 + 3) (l.length : Int) (by omega)
      have t4 := Int.tmod_lt_of_pos (p * 7 + 3) (b := (l.length : Int)) (by omega)
      have r1 := rd_byte l h (Int.tmod p (l.length : Int))
      have r2 := rd_byte l h (Int.tmod (p * 7 + 3) (l.length : Int))
      have d1 : 0 ≤ Int.tdiv p (l.length : Int) := Int.tdiv_nonneg hp (by omega)
      have d2 : Int.tdiv p (l.length : Int) ≤ p := Int.tdiv_le_self _ hp
      obtain ⟨X, hX, hX0, hX1⟩ : ∃ X, (wrap64 ((wrap64 ((wrap64 ((wrap64 ((wrap64 (rd l (Int.tmod p (l.length : Int)))) * 131)) + (wrap64 ((wrap64 (rd l (Int.tmod (p * 7 + 3) (l.length : Int)))) * 1117)))) + (wrap64 (p * 29)))) + (wrap64 ((wrap64 (Int.tdiv p (l.length : Int))) * 53)))) = X ∧ 0 ≤ X ∧ X < 4611686018427387904 := by
        refine ⟨_, rfl, ?_, ?_⟩
        all_goals
          generalize rd l (Int.tmod p (l.length : Int)) = a at *
          generalize rd l (Int.tmod (p * 7 + 3) (l.length : Int)) = b at *
          generalize Int.tdiv p (l.length : Int) = c at *
          rw [w64 (x := a) (by omega) (by omega), w64 (x := b) (by omega) (by omega), w64 (x := a * 131) (by omega) (by omega), w64 (x := b * 1117) (by omega) (by omega), w64 (x := a * 131 + b * 1117) (by omega) (by omega), w64 (x := p * 29) (by omega) (by omega), w64 (x := a * 131 + b * 1117 + p * 29) (by omega) (by omega), w64 (x := c) (by omega) (by omega), w64 (x := c * 53) (by omega) (by omega), w64 (x := a * 131 + b * 1117 + p * 29 + c * 53) (by omega) (by omega)]
          omega
      have hd : 0 ≤ wrap64 (Int.tdiv X 64) ∧ wrap64 (Int.tdiv X 64) < 9223372036854775808 := by
        have := Int.tdiv_nonneg hX0 (show (0 : Int) ≤ 64 by decide)
        have := Int.tdiv_le_self 64 hX0
        rw [w64 (by omega) (by omega)]
        omega
      have hx := xor_nonneg X (wrap64 (Int.tdiv X 64)) hX0 hd.1 (by omega) hd.2
      refine ⟨Int.tmod (Go.bits .xor .i64 X (wrap64 (Int.tdiv X 64))) n, Ev.s ?_, Int.tmod_nonneg _ hx, Int.tmod_lt_of_pos _ (by omega)⟩
      simp only [hb, spec_l6Rd_pick.j0, w1, hlt, hl0, wk, wk3, t1, t2, t3, t4, hn0, hX, Bool.false_eq_true, if_true, if_false]
      exact Ev.const rfl
theorem open_ev (l : List Int) (hb : ∀ x ∈ l, (Lit.int .u8 x).wf = true) : ∃ l', spec_l6Open.f l = some (l', 0) ∧ bytesOk l' := by
  have hb' : ∀ x ∈ l, 0 ≤ x ∧ x ≤ 255 := by
    intro x hx
    have := hb x hx
    simp only [Lit.wf, IntKind.min, IntKind.max, IntKind.signed, IntKind.bits, Bool.and_eq_true, decide_eq_true_eq, Bool.false_eq_true, if_false] at this
    omega
  unfold spec_l6Open.f
  by_cases h : (l.length : Int) > 2000
  · refine ⟨l.take 2000, ?_, ?_, fun x hx => hb' x (List.mem_of_mem_take hx)⟩
    · rw [if_pos h, if_pos (by omega)]
    · rw [List.length_take]; omega
  · exact ⟨l, by rw [if_neg h], by omega, hb'⟩
end Go.Proofs.Ytggghijamfmenaa.PA
