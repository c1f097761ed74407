/- A part of the proof of FnTreeQuad. There are no conditions. -/
import Derived.Test.YtlpbalebodlipaaKFnTreeQuadOwnx4
namespace Go.Proofs.Ytlpbalebodlipaa.PK
open Go.RowKit Go.Proofs.YtlpbalebodlipaaW.PrintWords Go.Proofs.YtlpbalebodlipaaW.PrintLast Go.Proofs.YtlpbalebodlipaaW.PrintMore
theorem z5_0 {p : Prop} (h : p := by repeat (first | (with_reducible first | exact HK.out | apply KeepBut.set_ | apply keep_drewN | apply keep_drew | apply keep_alloc | refine keep_far ?_ GW336.out _ | refine keep_far ?_ GW342.out _) | exact HK.out)) : p := h
theorem z5_1 {p : Prop} (h : p := by exact (KeepBut.blk hk (g' := gb336) (o := .cells #[.string (⟨#[]⟩ : ByteArray), .slice none 0 0] 25 (0, 0)) (kU BK336.out) NB336_0.out (by simp))) : p := h
theorem z5_2 {p : Prop} (h : p := by repeat (first | (with_reducible first | exact HB.out | apply below_alloc | apply pw_below_drewN | apply below_drew1 | refine below_set ?_ (IsS104.ge HI0.out) | refine below_set ?_ GE336.out | refine below_set ?_ GE342.out) | exact HB.out)) : p := h
theorem z5_3 {p : Prop} (h : p := by repeat (first | (with_reducible first | exact HI0.out | apply IsS104.alloc | apply IsS104.drewN | apply IsS104.drew | apply IsS104.set_1 | refine IsS104.far ?_ NB0_336.out _ | refine IsS104.far ?_ NB0_342.out _) | exact HI0.out)) : p := h
theorem z5_4 {p : Prop} (h : p := by repeat (first | (with_reducible first | exact HK.out | apply KeepBut.set_ | apply keep_drewN | apply keep_drew | apply keep_alloc | refine keep_far ?_ GW336.out _) | exact HK.out)) : p := h
theorem z5_5 {p : Prop} (h : p := by exact (KeepBut.blk hk (g' := gb342) (o := .cells #[.string xZ0_1, uZ1] 25 (0, 0)) (kU BK342.out) NB342_0.out (by simp))) : p := h
theorem z5_6 {p : Prop} (h : p := by (with_reducible repeat (first | refine blk_drewN ?_ _ | refine blk_drew ?_ | refine blk_alloc ?_ _)); refine blk_put (cs := #[.string xZ0_1, .slice none 0 0]) ?_ 1 _ rfl; (with_reducible repeat (first | refine blk_drewN ?_ _ | refine blk_drew ?_ | refine blk_alloc ?_ _)); refine blk_put (cs := #[.string (⟨#[]⟩ : ByteArray), .slice none 0 0]) ?_ 0 _ rfl; (with_reducible repeat (first | refine blk_drewN ?_ _ | refine blk_drew ?_ | refine blk_alloc ?_ _)); exact BK336.out) : p := h
theorem z5_7 {p : Prop} (h : p := by exact (below_size (by repeat (first | (with_reducible first | exact HBW.out | apply below_alloc | apply pw_below_drewN | apply below_drew1) | exact HBW.out)))) : p := h
theorem z5_8 {p : Prop} (h : p := by repeat (first | (with_reducible first | exact HK.out | apply KeepBut.set_ | apply keep_drewN | apply keep_drew | apply keep_alloc) | exact HK.out)) : p := h
theorem z5_9 {p : Prop} (h : p := by exact (KeepBut.trans z5_0 hk (.inl rfl))) : p := h
theorem z5_10 {p : Prop} (h : p := by exact (blk_below (g := gb375) (o := .cells #[.string (⟨#[]⟩ : ByteArray), .slice none 0 0] 25 (0, 0)) (kU BK375.out) hb2)) : p := h
theorem z5_11 {p : Prop} (h : p := by exact (below_step (bU1 HB.out GE415.out) hb)) : p := h
theorem z5_12 {p : Prop} (h : p := by repeat (first | (with_reducible first | exact HB.out | apply below_alloc | apply pw_below_drewN | apply below_drew1 | refine below_set ?_ (IsS104.ge HI0.out) | refine below_set ?_ GE336.out) | exact HB.out)) : p := h
theorem z5_13 {p : Prop} (h : p := by exact (IsS104.lt (show IsS104 w0 _ g s0_0 s0_1 from by repeat (first | (with_reducible first | exact HI0.out | apply IsS104.alloc | apply IsS104.drewN | apply IsS104.drew | apply IsS104.set_1) | exact HI0.out)))) : p := h
theorem z5_14 {p : Prop} (h : p := by repeat (first | (with_reducible first | exact HI0.out | apply IsS104.alloc | apply IsS104.drewN | apply IsS104.drew | apply IsS104.set_1 | refine IsS104.far ?_ NB0_336.out _) | exact HI0.out)) : p := h
theorem z5_15 {p : Prop} (h : p := by exact (keep_size (w := w) (g := g) (row := none) z5_0)) : p := h
theorem z5_16 {p : Prop} (h : p := by first | exact Kd.N_base ho34 | exact Kd.S_base ho34 | exact Kd.R_base ho34) : p := h
theorem z5_17 {p : Prop} (h : p := by exact (Kd.Q_far (p := ⟨gb342, 0, none⟩) (Kd.Q_types HO_Z1.out BK342.out (by decide)) (fun _ hk => hk.2) (.string (xZ0_1 ++ (⟨#[41]⟩ : ByteArray))))) : p := h
theorem z5_18 {p : Prop} (h : p := by exact (Kd.Q_far (p := ⟨gb342, 0, none⟩) (Kd.Q_types HO_Z1.out BK342.out (by decide)) (fun _ hk => hk.2) (.string (xZ0_1 ++ (⟨#[40]⟩ : ByteArray))))) : p := h
attribute [local go_sem] max2_int min2_int max_two min_two max_three min_three max_four min_four   -- for this text's walks alone
set_option linter.unusedVariables false
set_option linter.unusedSimpArgs false
def spec_l92Tree.l0 : Nat → Int → Int → List Int → Int → ByteArray → List Int → Option (ByteArray × List Int × Int)
 | 0, _, _, _, _, _, _ => none
 | k + 1, x5, x7, x1000, x1001, xZ0, xZ1 => if (xZ0.size : Int) < (wrap64 (2 * x5)) then (if x7 > 0 then (if (xZ1.length : Int) = x5 then (if xZ0.size + 1 ≤ 9223372036854775807 then (spec_l92Tree.l0 k x5 (wrap64 (x7 - 1)) x1000 x1001 (xZ0 ++ (⟨#[41]⟩ : ByteArray)) xZ1) else (none)) else ((spec_l6Rd_pick.f k x1000 x1001 2).bind fun bt343 => (if bt343.1 = 0 then (if xZ0.size + 1 ≤ 9223372036854775807 then (spec_l92Tree.l0 k x5 (wrap64 (x7 - 1)) x1000 bt343.2 (xZ0 ++ (⟨#[41]⟩ : ByteArray)) xZ1) else (none)) else (if xZ0.size + 1 ≤ 9223372036854775807 then ((spec_l6Rd_pick.f k x1000 bt343.2 3).bind fun bt345 => (if xZ1.length < 17592186044416 then (spec_l92Tree.l0 k x5 (wrap64 (x7 + 1)) x1000 bt345.2 (xZ0 ++ (⟨#[40]⟩ : ByteArray)) (xZ1 ++ [wrap64 (bt345.1 - 1)])) else (none))) else (none))))) else (if xZ0.size + 1 ≤ 9223372036854775807 then ((spec_l6Rd_pick.f k x1000 x1001 3).bind fun bt350 => (if xZ1.length < 17592186044416 then (spec_l92Tree.l0 k x5 (wrap64 (x7 + 1)) x1000 bt350.2 (xZ0 ++ (⟨#[40]⟩ : ByteArray)) (xZ1 ++ [wrap64 (bt350.1 - 1)])) else (none))) else (none))) else ((spec_l6Rd_pick.f k x1000 x1001 40).bind fun bt355 => (if bt355.1 = 0 then ((spec_l6Rd_of.f k x1000 bt355.2 (([(⟨#[40]⟩ : ByteArray), (⟨#[41]⟩ : ByteArray), (⟨#[120]⟩ : ByteArray), (⟨#[40, 41]⟩ : ByteArray)] : List ByteArray))).bind fun bt360 => (if xZ0.size + bt360.1.size ≤ 9223372036854775807 then (some (xZ0 ++ bt360.1, xZ1, bt360.2)) else (none))) else (if bt355.1 = 1 then ((some (([(-2), 2] : List Int) : List Int)).bind fun y362 => ((spec_l6Rd_pick.f k x1000 bt355.2 2).bind fun bt365 => (if 0 ≤ bt365.1 then (if bt365.1 < (y362.length : Int) then (if 0 < (xZ1.length : Int) then (some (xZ0, (xZ1.set (0 : Int).toNat (rd y362 bt365.1)), bt365.2)) else (none)) else (none)) else (none)))) else (if bt355.1 = 2 then (if 1 ≤ (xZ1.length : Int) then (some (xZ0, (xZ1.drop (1 : Int).toNat), bt355.2)) else (none)) else (some (xZ0, xZ1, bt355.2))))))
def spec_l92Tree.f (k : Nat) (s0_0 : List Int) (s0_1 : Int) (a1 : Int) : Option (ByteArray × List Int × Int) := (spec_l6Rd_pick.f k s0_0 s0_1 a1).bind fun bt337 => (spec_l92Tree.l0 k (wrap64 (1 + bt337.1)) 0 s0_0 bt337.2 (⟨#[]⟩ : ByteArray) (([] : List Int)))
def spec_l92Tree.T9 : Bool × List (List Nat × List Nat) := (true, [([], []), ([0], [0]), ([], []), ([2], [2]), ([3], [3]), ([4], [4]), ([1, 5, 3], [1, 5]), ([0, 1, 2, 3, 4, 5, 6], []), ([7, 6, 6, 0, 1, 2, 3, 4, 5, 6], [6, 7])])
def spec_l92Tree.B9 : List Nat := [0, 1, 0, 4, 12, 28, 63, 127, 255]
theorem spec_l92Tree.tab9 : rtab .any (opsOf Try.f61 9) = spec_l92Tree.T9 := by kernel_rfl
theorem spec_l92Tree.bits9 : waitsOk spec_l92Tree.T9.2 spec_l92Tree.B9 = true := by kernel_rfl
def spec_l92Tree.T13 : Bool × List (List Nat × List Nat) := (true, [([], []), ([0], [0]), ([], []), ([], []), ([2, 3], [2, 3]), ([1, 4], [1, 4]), ([0, 1, 2, 3, 4, 5], []), ([6, 5, 4, 0, 1, 2, 3, 4, 5], [5, 6])])
def spec_l92Tree.B13 : List Nat := [0, 1, 0, 0, 12, 31, 63, 127]
theorem spec_l92Tree.tab13 : rtab .any (opsOf Try.f61 13) = spec_l92Tree.T13 := by kernel_rfl
theorem spec_l92Tree.bits13 : waitsOk spec_l92Tree.T13.2 spec_l92Tree.B13 = true := by kernel_rfl
def spec_l92Tree.T15 : Bool × List (List Nat × List Nat) := (true, [([], []), ([0], [0]), ([], []), ([], []), ([3], [3]), ([2, 4], [2, 4]), ([5], [5]), ([1, 0, 1, 2, 3, 4, 5, 6], [1]), ([7, 6, 4, 0, 1, 2, 3, 4, 5, 6], [6, 7])])
def spec_l92Tree.B15 : List Nat := [0, 1, 0, 0, 8, 28, 60, 127, 255]
theorem spec_l92Tree.tab15 : rtab .any (opsOf Try.f61 15) = spec_l92Tree.T15 := by kernel_rfl
theorem spec_l92Tree.bits15 : waitsOk spec_l92Tree.T15.2 spec_l92Tree.B15 = true := by kernel_rfl
set_option maxHeartbeats 8000000 in
set_option maxRecDepth 100000 in
theorem spec_l92Tree.calls (k : Nat) (g : Nat) (s0_0 : List Int) (s0_1 : Int) (a1 : Int) (r1 : ByteArray) (r2 : List Int) (r3 : Int) (w0 w : World) (hI : IsS104 w0 w g s0_0 s0_1) (hB : Below w0.heap.size w0 w) (h : spec_l92Tree.f k s0_0 s0_1 a1 = some (r1, r2, r3)) :
  Calls Try.prog 61 #[.pointer (some ⟨g, 0, none⟩), .int .i64 a1] w fun e w' => ∃ v1_ : Value, e = .returned (.agg #[.string r1, v1_]) ∧ Kd.Q (Kd.int .i64) 3 w' w.heap.size (fun _ => True) v1_ r2 ∧ IsS104 w0 w' g s0_0 r3 ∧ Below w0.heap.size w0 w' ∧ KeepBut w w' g none := by
 have hu25 := Try.underlying25; have HI0 := Az hI; have HK := Az (KeepBut.refl w g none); have HL := Az hB.size; clear hI; have HW0 := Az hB.size; have HB := Az hB; clear hB; have H := h; clear h; unfold spec_l92Tree.f at H; replace H := bd H; obtain ⟨⟨t337, t338⟩, A3, H⟩ := H; dsimp only at H; obtain ⟨y339, hy339⟩ : ∃ y_ : List Int, y_ = (([] : List Int)) := ⟨_, rfl⟩; replace H : (spec_l92Tree.l0 k (wrap64 (1 + t337)) 0 s0_0 t338 (⟨#[]⟩ : ByteArray) y339) = some (r1, r2, r3) := hR hy339 H; have Ny339 := Az hy339; clear hy339; have H' := Az H; clear H; go_enter Try.func61, Try.ntmps61
 go_wp2_with (first | ((with_reducible refine gd 4 rfl ?_); (refine gate_guard (by rfl) ?_; dsimp only); refine bE 4 #[.string (⟨#[]⟩ : ByteArray), .slice none 0 0] 25 ?_; intro gb336 hg w4 hbox hb; replace HB := Az (below_step (by repeat (first | (with_reducible first | exact HB.out | apply below_alloc | apply pw_below_drewN | apply below_drew1 | refine below_set ?_ (IsS104.ge HI0.out)) | exact HB.out)) hb); have BK336 := Az (hbox); have GW336 := Az ((by rw [hg]; exact (keep_size (w := w) (g := g) (row := none) z5_8) : w.heap.size ≤ gb336)); have GE336 := Az ((Nat.le_trans HW0.out (by rw [hg]; exact (keep_size (w := w) (g := g) (row := none) z5_8) : w.heap.size ≤ gb336) : w0.heap.size ≤ gb336)); replace HK := Az (KeepBut.trans z5_8 (KeepBut.of_below hb g none) (.inl rfl)); have NB0_336 := Az ((by rw [hg]; exact Nat.ne_of_lt z5_13 : g ≠ gb336)); have NB336_0 := Az ((by rw [hg]; exact Nat.ne_of_gt z5_13 : gb336 ≠ g)); replace HI0 := Az (IsS104.below (by repeat (first | (with_reducible first | exact HI0.out | apply IsS104.alloc | apply IsS104.drewN | apply IsS104.drew | apply IsS104.set_1) | exact HI0.out)) hb); clear hb hbox hg) | ((with_reducible refine gK 79 rfl ?_); refine gC (some 10) Try.func79 #[.pointer (some ⟨g, 0, none⟩), .int .i64 a1] ?_; (with_reducible refine (spec_l6Rd_pick.calls k g s0_0 s0_1 a1 t337 t338 w0 _ ?side1 ?side2 A3.out).mono ?_); (case side1 => repeat (first | (with_reducible first | exact HI0.out | apply IsS104.alloc | apply IsS104.drewN | apply IsS104.drew | apply IsS104.set_1 | refine IsS104.far ?_ NB0_336.out _) | exact HI0.out)); (case side2 => repeat (first | (with_reducible first | exact HB.out | apply below_alloc | apply pw_below_drewN | apply below_drew1 | refine below_set ?_ (IsS104.ge HI0.out) | refine below_set ?_ GE336.out) | exact HB.out)); rintro e w5 ⟨rfl, hi, hb, hk⟩; refine ⟨_, rfl, ?_⟩; replace BK336 := Az z5_1; replace HK := Az (KeepBut.trans z5_4 hk (.inl rfl)); replace HB := Az (hb); replace HI0 := Az (hi); clear hb hk hi) | ((with_reducible refine gd 12 rfl ?_); (refine gate_guard (by rfl) ?_; dsimp only); refine Kd.R_lit (Kd.int .i64) _ 3 rfl (N := 12) rfl (xs := ([] : List Int)) (inner := []) (ok := fun _ => True) (okp := fun _ => True) hS ?hp (fun _ hk => hk) trivial (Below.refl _ _) (Nat.le_refl _) (by simp) ?_; (case hp => exact (Reps.none _ _)); intro v340 w6 ho7 hb hg_ hnew_; clear hg_ hnew_; (first | rw [← Ny339.out] at ho7 | (simp only [Int.reduceToNat] at ho7; rw [← Ny339.out] at ho7)); have HO341 := Az (Kd.R_lower ho7 (keep_size (w := w) (g := g) (row := none) z5_4)); replace BK336 := kB BK336.out hb; replace HK := Az (KeepBut.trans z5_4 (KeepBut.of_below hb g none) (.inl rfl)); replace HB := Az (below_step z5_12 hb); replace HI0 := Az (IsS104.below z5_14 hb); clear hb ho7; obtain ⟨Ao8, co8, eo8⟩ := Kd.R_slice HO341.out; subst eo8) | ((with_reducible refine gd 6 rfl ?_); (refine gate_guard (by rfl) ?_; dsimp only); refine bE 6 #[.string (⟨#[]⟩ : ByteArray), .slice none 0 0] 25 ?_; intro gb342 hg w9 hbox hb; replace HO341 := rB HO341.out hb; replace HB := Az (below_step z5_12 hb); have BK342 := Az (hbox); have GW342 := Az ((by rw [hg]; exact (keep_size (w := w) (g := g) (row := none) z5_4) : w.heap.size ≤ gb342)); have GE342 := Az ((Nat.le_trans HW0.out (by rw [hg]; exact (keep_size (w := w) (g := g) (row := none) z5_4) : w.heap.size ≤ gb342) : w0.heap.size ≤ gb342)); replace HK := Az (KeepBut.trans z5_4 (KeepBut.of_below hb g none) (.inl rfl)); have NB336_342 := nL hg (kU BK336.out); replace BK336 := kB BK336.out hb; have NB0_342 := Az ((by rw [hg]; exact Nat.ne_of_lt (IsS104.lt (show IsS104 w0 _ g s0_0 t338 from by repeat (first | (with_reducible first | exact HI0.out | apply IsS104.alloc | apply IsS104.drewN | apply IsS104.drew | apply IsS104.set_1 | refine IsS104.far ?_ NB0_336.out _) | exact HI0.out))) : g ≠ gb342)); have NB342_0 := Az ((by rw [hg]; exact Nat.ne_of_gt (IsS104.lt (show IsS104 w0 _ g s0_0 t338 from by repeat (first | (with_reducible first | exact HI0.out | apply IsS104.alloc | apply IsS104.drewN | apply IsS104.drew | apply IsS104.set_1 | refine IsS104.far ?_ NB0_336.out _) | exact HI0.out))) : gb342 ≠ g)); replace HI0 := Az (IsS104.below z5_14 hb); clear hb hbox hg; have hnb10 := nP NB336_342; have hnb11 := NB342_0.out; have hnc11 := NB0_342.out; have hz12 := bc2 BK342.out))
 go_loopg [7] k (fun kq v7 w' => ∃ (x7_1 : Int) (x1001_1 : Int) (xZ0_1 : ByteArray) (xZ1_1 : List Int) (uZ1 : Value), v7 = .int .i64 x7_1 ∧ Aside0 (spec_l92Tree.l0 kq (wrap64 (1 + t337)) x7_1 s0_0 x1001_1 xZ0_1 xZ1_1 = some (r1, r2, r3)) ∧ Aside0 (kq ≤ k) ∧ Aside0 (Kd.Q (Kd.int .i64) 3 w' w.heap.size (fun _ => True) uZ1 xZ1_1) ∧ Aside0 (w'.heap[gb336]? = some (.cells #[.string (⟨#[]⟩ : ByteArray), (.slice none 0 0)] 25 (0, 0))) ∧ Aside0 (w'.heap[gb342]? = some (.cells #[.string xZ0_1, uZ1] 25 (0, 0))) ∧ Aside0 (IsS104 w0 w' g s0_0 x1001_1) ∧ Aside0 (KeepBut w w' g none) ∧ Aside0 (Below w0.heap.size w0 w'))
 case atStart => exact ⟨(0), (t338), ((⟨#[]⟩ : ByteArray)), (y339), (.slice Ao8 y339.length co8), rS, H', ⟨Nat.le_refl _⟩, ⟨Kd.Q_of_R (rU (Kd.R_mono (Kd.R_far (p := ⟨gb342, 1, none⟩) (Kd.R_far (p := ⟨gb342, 0, none⟩) (Kd.R_types HO341.out BK342.out (by decide)) (fun _ hk => hk.2) (.string (⟨#[]⟩ : ByteArray))) (fun _ hk => hk.2) (.slice Ao8 y339.length co8)) (fun _ hk => trivial)))⟩, ⟨by (with_reducible repeat (first | refine blk_drewN ?_ _ | refine blk_drew ?_ | refine blk_alloc ?_ _)); refine blk_far ?_ NB336_342.out _; (with_reducible repeat (first | refine blk_drewN ?_ _ | refine blk_drew ?_ | refine blk_alloc ?_ _)); refine blk_far ?_ NB336_342.out _; (with_reducible repeat (first | refine blk_drewN ?_ _ | refine blk_drew ?_ | refine blk_alloc ?_ _)); exact BK336.out⟩, ⟨by (with_reducible repeat (first | refine blk_drewN ?_ _ | refine blk_drew ?_ | refine blk_alloc ?_ _)); refine blk_put (cs := #[.string (⟨#[]⟩ : ByteArray), .slice none 0 0]) ?_ 1 _ rfl; (with_reducible repeat (first | refine blk_drewN ?_ _ | refine blk_drew ?_ | refine blk_alloc ?_ _)); refine blk_put (cs := #[.string (⟨#[]⟩ : ByteArray), .slice none 0 0]) ?_ 0 _ rfl; (with_reducible repeat (first | refine blk_drewN ?_ _ | refine blk_drew ?_ | refine blk_alloc ?_ _)); exact BK342.out⟩, ⟨by repeat (first | (with_reducible first | exact HI0.out | apply IsS104.alloc | apply IsS104.drewN | apply IsS104.drew | apply IsS104.set_1 | refine IsS104.far ?_ NB0_336.out _ | refine IsS104.far ?_ NB0_342.out _) | exact HI0.out)⟩, ⟨by repeat (first | (with_reducible first | exact HK.out | apply KeepBut.set_ | apply keep_drewN | apply keep_drew | apply keep_alloc | refine keep_far ?_ GW336.out _ | refine keep_far ?_ GW342.out _) | exact HK.out)⟩, ⟨by repeat (first | (with_reducible first | exact HB.out | apply below_alloc | apply pw_below_drewN | apply below_drew1 | refine below_set ?_ (IsS104.ge HI0.out) | refine below_set ?_ GE336.out | refine below_set ?_ GE342.out) | exact HB.out)⟩⟩
 case round =>
  clear H'; obtain ⟨x7_1, x1001_1, xZ0_1, xZ1_1, uZ1, rfl, HA, HK1, HO_Z1, BK336, BK342, HI0, HK, HB⟩ := hrel
  rcases gk with _ | k1
  exact (nN HA.out).elim; have H := HA.out; clear HA; simp only [spec_l92Tree.l0] at H
  replace H := gB H; rcases H with ⟨c13b0, H⟩ | ⟨c13b0, H⟩
  ·
   replace H := gB H; rcases H with ⟨c14b0, H⟩ | ⟨c14b0, H⟩
   ·
    replace H := gQ H; rcases H with ⟨c15b0, c15b1, H⟩ | ⟨c15b0, c15b1, H⟩
    ·
     replace H := gP H; obtain ⟨c16, H⟩ := H; have c16b0 := eq_true c16; have c16b1 := decide_eq_true c16
     try have c16b2 : (9223372036854775807 < xZ0_1.size + 1) = False := eq_false (Nat.not_lt.2 c16)
     have H' := Az H; clear H; have hnb17 := nP NB336_342; have hnb18 := NB342_0.out; have hnc18 := NB0_342.out; have hz19 := bc2 BK342.out; obtain ⟨Ao20, co20, eo20, _⟩ := Kd.Q_slice HO_Z1.out; subst eo20; go_wp2; go_roundg k1
     case measure => exact mO
     case rel => exact ⟨(wrap64 (x7_1 - 1)), (x1001_1), (xZ0_1 ++ (⟨#[41]⟩ : ByteArray)), (xZ1_1), (.slice Ao20 xZ1_1.length co20), rS, H', ⟨mO⟩, ⟨qM z5_17⟩, ⟨by (with_reducible repeat (first | refine blk_drewN ?_ _ | refine blk_drew ?_ | refine blk_alloc ?_ _)); refine blk_far ?_ NB336_342.out _; (with_reducible repeat (first | refine blk_drewN ?_ _ | refine blk_drew ?_ | refine blk_alloc ?_ _)); exact BK336.out⟩, ⟨by (with_reducible repeat (first | refine blk_drewN ?_ _ | refine blk_drew ?_ | refine blk_alloc ?_ _)); refine blk_put (cs := #[.string xZ0_1, .slice Ao20 xZ1_1.length co20]) ?_ 0 _ rfl; (with_reducible repeat (first | refine blk_drewN ?_ _ | refine blk_drew ?_ | refine blk_alloc ?_ _)); exact BK342.out⟩, ⟨by repeat (first | (with_reducible first | exact HI0.out | apply IsS104.alloc | apply IsS104.drewN | apply IsS104.drew | apply IsS104.set_1 | refine IsS104.far ?_ NB0_336.out _ | refine IsS104.far ?_ NB0_342.out _) | exact HI0.out)⟩, ⟨by repeat (first | (with_reducible first | exact HK.out | apply KeepBut.set_ | apply keep_drewN | apply keep_drew | apply keep_alloc | refine keep_far ?_ GW336.out _ | refine keep_far ?_ GW342.out _) | exact HK.out)⟩, ⟨by repeat (first | (with_reducible first | exact HB.out | apply below_alloc | apply pw_below_drewN | apply below_drew1 | refine below_set ?_ (IsS104.ge HI0.out) | refine below_set ?_ GE336.out | refine below_set ?_ GE342.out) | exact HB.out)⟩⟩
    ·
     replace H := bd H; obtain ⟨⟨t343, t344⟩, A21, H⟩ := H; dsimp only at H
     replace H := gQ H; rcases H with ⟨c22b0, c22b1, H⟩ | ⟨c22b0, c22b1, H⟩
     ·
      replace H := gP H; obtain ⟨c23, H⟩ := H; have c23b0 := eq_true c23; have c23b1 := decide_eq_true c23
      try have c23b2 : (9223372036854775807 < xZ0_1.size + 1) = False := eq_false (Nat.not_lt.2 c23)
      have H' := Az H; clear H; have hnb24 := nP NB336_342; have hnb25 := NB342_0.out; have hnc25 := NB0_342.out; have hz26 := bc2 BK342.out; obtain ⟨Ao27, co27, eo27, _⟩ := Kd.Q_slice HO_Z1.out; subst eo27
      go_wp2_with (first | (go_at_call 79; (with_reducible refine (spec_l6Rd_pick.calls k1 g s0_0 x1001_1 2 t343 t344 w0 _ ?side1 ?side2 A21.out).mono ?_); (case side1 => repeat (first | (with_reducible first | exact HI0.out | apply IsS104.alloc | apply IsS104.drewN | apply IsS104.drew | apply IsS104.set_1 | refine IsS104.far ?_ NB0_336.out _ | refine IsS104.far ?_ NB0_342.out _) | exact HI0.out)); (case side2 => repeat (first | (with_reducible first | exact HB.out | apply below_alloc | apply pw_below_drewN | apply below_drew1 | refine below_set ?_ (IsS104.ge HI0.out) | refine below_set ?_ GE336.out | refine below_set ?_ GE342.out) | exact HB.out)); rintro e w28 ⟨rfl, hi, hb, hk⟩; replace HO_Z1 := Az (Kd.Q_mono (Kd.Q_keep (IsS104.apartQ (show IsS104 w0 _ g s0_0 x1001_1 from by repeat (first | (with_reducible first | exact HI0.out | apply IsS104.alloc | apply IsS104.drewN | apply IsS104.drew | apply IsS104.set_1 | refine IsS104.far ?_ NB0_336.out _ | refine IsS104.far ?_ NB0_342.out _) | exact HI0.out)) (qU HO_Z1.out) (by decide)) hk (fun _ h => h.2)) (fun _ h => h.1)); replace BK336 := Az z5_1; replace BK342 := Az (KeepBut.blk hk (g' := gb342) (o := .cells #[.string xZ0_1, .slice Ao27 xZ1_1.length co27] 25 (0, 0)) (kU BK342.out) NB342_0.out (by simp)); replace HK := Az z5_9; replace HB := Az (hb); replace HI0 := Az (hi); clear hb hk hi; have hz29 := bc2 BK342.out))
      go_roundg k1
      case measure => exact mO
      case rel => exact ⟨(wrap64 (x7_1 - 1)), (t344), (xZ0_1 ++ (⟨#[41]⟩ : ByteArray)), (xZ1_1), (.slice Ao27 xZ1_1.length co27), rS, H', ⟨mO⟩, ⟨qM z5_17⟩, ⟨by (with_reducible repeat (first | refine blk_drewN ?_ _ | refine blk_drew ?_ | refine blk_alloc ?_ _)); refine blk_far ?_ NB336_342.out _; (with_reducible repeat (first | refine blk_drewN ?_ _ | refine blk_drew ?_ | refine blk_alloc ?_ _)); exact BK336.out⟩, ⟨by (with_reducible repeat (first | refine blk_drewN ?_ _ | refine blk_drew ?_ | refine blk_alloc ?_ _)); refine blk_put (cs := #[.string xZ0_1, .slice Ao27 xZ1_1.length co27]) ?_ 0 _ rfl; (with_reducible repeat (first | refine blk_drewN ?_ _ | refine blk_drew ?_ | refine blk_alloc ?_ _)); exact BK342.out⟩, ⟨by repeat (first | (with_reducible first | exact HI0.out | apply IsS104.alloc | apply IsS104.drewN | apply IsS104.drew | apply IsS104.set_1 | refine IsS104.far ?_ NB0_336.out _ | refine IsS104.far ?_ NB0_342.out _) | exact HI0.out)⟩, ⟨by repeat (first | (with_reducible first | exact HK.out | apply KeepBut.set_ | apply keep_drewN | apply keep_drew | apply keep_alloc | refine keep_far ?_ GW336.out _ | refine keep_far ?_ GW342.out _) | exact HK.out)⟩, ⟨by repeat (first | (with_reducible first | exact HB.out | apply below_alloc | apply pw_below_drewN | apply below_drew1 | refine below_set ?_ (IsS104.ge HI0.out) | refine below_set ?_ GE336.out | refine below_set ?_ GE342.out) | exact HB.out)⟩⟩
     ·
      replace H := gP H; obtain ⟨c30, H⟩ := H; have c30b0 := eq_true c30; have c30b1 := decide_eq_true c30
      try have c30b2 : (9223372036854775807 < xZ0_1.size + 1) = False := eq_false (Nat.not_lt.2 c30)
      replace H := bd H; obtain ⟨⟨t345, t346⟩, A31, H⟩ := H; dsimp only at H; replace H := gP H; obtain ⟨c32, H⟩ := H; have LMc32 := Az c32; clear c32; generalize Ny347 : (xZ1_1 ++ [wrap64 (t345 - 1)] : List Int) = y347 at H; replace Ny347 := Ay Ny347; have H' := Az H; clear H; have hnb33 := nP NB336_342; have hnb34 := NB342_0.out; have hnc34 := NB0_342.out; have hz35 := bc2 BK342.out; obtain ⟨Ao36, co36, eo36, _⟩ := Kd.Q_slice HO_Z1.out; subst eo36
      try go_wp2_with (first | (go_at_call 79; (with_reducible refine (spec_l6Rd_pick.calls k1 g s0_0 x1001_1 2 t343 t344 w0 _ ?side1 ?side2 A21.out).mono ?_); (case side1 => repeat (first | (with_reducible first | exact HI0.out | apply IsS104.alloc | apply IsS104.drewN | apply IsS104.drew | apply IsS104.set_1 | refine IsS104.far ?_ NB0_336.out _ | refine IsS104.far ?_ NB0_342.out _) | exact HI0.out)); (case side2 => repeat (first | (with_reducible first | exact HB.out | apply below_alloc | apply pw_below_drewN | apply below_drew1 | refine below_set ?_ (IsS104.ge HI0.out) | refine below_set ?_ GE336.out | refine below_set ?_ GE342.out) | exact HB.out)); rintro e w37 ⟨rfl, hi, hb, hk⟩; replace HO_Z1 := Az (Kd.Q_mono (Kd.Q_keep (IsS104.apartQ (show IsS104 w0 _ g s0_0 x1001_1 from by repeat (first | (with_reducible first | exact HI0.out | apply IsS104.alloc | apply IsS104.drewN | apply IsS104.drew | apply IsS104.set_1 | refine IsS104.far ?_ NB0_336.out _ | refine IsS104.far ?_ NB0_342.out _) | exact HI0.out)) (qU HO_Z1.out) (by decide)) hk (fun _ h => h.2)) (fun _ h => h.1)); replace BK336 := Az z5_1; replace BK342 := Az (KeepBut.blk hk (g' := gb342) (o := .cells #[.string xZ0_1, .slice Ao36 xZ1_1.length co36] 25 (0, 0)) (kU BK342.out) NB342_0.out (by simp)); replace HK := Az z5_9; replace HB := Az (hb); replace HI0 := Az (hi); clear hb hk hi; have hz38 := bc2 BK342.out))
      have n0 : Aside0 (Kd.Q (Kd.int .i64) 3 (w37.setCell ⟨gb342, 0, none⟩ (.string (xZ0_1 ++ (⟨#[40]⟩ : ByteArray)))) w.heap.size (fun _ => True) (.slice Ao36 xZ1_1.length co36) xZ1_1) := ⟨qM z5_18⟩; have n1 : Aside0 ((w37.setCell ⟨gb342, 0, none⟩ (.string (xZ0_1 ++ (⟨#[40]⟩ : ByteArray)))).heap[gb336]? = some (.cells #[.string (⟨#[]⟩ : ByteArray), .slice none 0 0] 25 (0, 0))) := ⟨by (with_reducible repeat (first | refine blk_drewN ?_ _ | refine blk_drew ?_ | refine blk_alloc ?_ _)); refine blk_far ?_ NB336_342.out _; (with_reducible repeat (first | refine blk_drewN ?_ _ | refine blk_drew ?_ | refine blk_alloc ?_ _)); exact BK336.out⟩; have n2 : Aside0 ((w37.setCell ⟨gb342, 0, none⟩ (.string (xZ0_1 ++ (⟨#[40]⟩ : ByteArray)))).heap[gb342]? = some (.cells #[.string (xZ0_1 ++ (⟨#[40]⟩ : ByteArray)), .slice Ao36 xZ1_1.length co36] 25 (0, 0))) := ⟨by (with_reducible repeat (first | refine blk_drewN ?_ _ | refine blk_drew ?_ | refine blk_alloc ?_ _)); refine blk_put (cs := #[.string xZ0_1, .slice Ao36 xZ1_1.length co36]) ?_ 0 _ rfl; (with_reducible repeat (first | refine blk_drewN ?_ _ | refine blk_drew ?_ | refine blk_alloc ?_ _)); exact BK342.out⟩; have n3 : Aside0 (IsS104 w0 (w37.setCell ⟨gb342, 0, none⟩ (.string (xZ0_1 ++ (⟨#[40]⟩ : ByteArray)))) g s0_0 t344) := ⟨by repeat (first | (with_reducible first | exact HI0.out | apply IsS104.alloc | apply IsS104.drewN | apply IsS104.drew | apply IsS104.set_1 | refine IsS104.far ?_ NB0_336.out _ | refine IsS104.far ?_ NB0_342.out _) | exact HI0.out)⟩; have n4 : Aside0 (KeepBut w (w37.setCell ⟨gb342, 0, none⟩ (.string (xZ0_1 ++ (⟨#[40]⟩ : ByteArray)))) g none) := ⟨by repeat (first | (with_reducible first | exact HK.out | apply KeepBut.set_ | apply keep_drewN | apply keep_drew | apply keep_alloc | refine keep_far ?_ GW336.out _ | refine keep_far ?_ GW342.out _) | exact HK.out)⟩; have n5 : Aside0 (Below w0.heap.size w0 (w37.setCell ⟨gb342, 0, none⟩ (.string (xZ0_1 ++ (⟨#[40]⟩ : ByteArray))))) := ⟨by repeat (first | (with_reducible first | exact HB.out | apply below_alloc | apply pw_below_drewN | apply below_drew1 | refine below_set ?_ (IsS104.ge HI0.out) | refine below_set ?_ GE336.out | refine below_set ?_ GE342.out) | exact HB.out)⟩; generalize (w37.setCell ⟨gb342, 0, none⟩ (.string (xZ0_1 ++ (⟨#[40]⟩ : ByteArray)))) = w39 at n0 n1 n2 n3 n4 n5 ⊢; have HO_Z1 := n0; have BK336 := n1; have BK342 := n2; have HI0 := n3; have HK := n4; have HB := n5; clear n0 n1 n2 n3 n4 n5; replace HO_Z1 := Az (Kd.Q_drew HO_Z1.out); replace BK336 := Az (blk_drew BK336.out); replace BK342 := Az (blk_drew BK342.out); replace HI0 := Az (IsS104.drew HI0.out); replace HK := Az (keep_drew HK.out); replace HB := Az (below_drew1 HB.out); refine start_ (n := 9) (S := fun w' => w'.cell? ⟨gb342, 0, none⟩ = some (.string (xZ0_1 ++ (⟨#[40]⟩ : ByteArray))) ∧ w'.cell? ⟨gb342, 1, none⟩ = some (.slice Ao36 xZ1_1.length co36)) (ds := [8]) (bv 9 0) (by kernel_rfl) rfl rfl ⟨(blk_cell BK342.out 0).trans rfl, (blk_cell BK342.out 1).trans rfl⟩ (fun hHeld => ?_); refine with_tabW spec_l92Tree.tab9 spec_l92Tree.bits9 (fun HT_ HW_ => ?_); generalize w39.drew = w40 at HO_Z1 BK336 BK342 HI0 HK HB hHeld ⊢; refine pure_ (i := 0) (N := some 44) (v := ?_) (a' := ?_) (bv 9 1) rfl rfl (any_of HT_.out (by kernel_rfl)) (fun _ _ _ h => h) (Or.inl ⟨by rfl, ?_⟩) ?_ ?_; rotate_left; (exact yP); rotate_left; (exact aP); refine pure_ (i := 2) (N := some 46) (v := ?_) (a' := ?_) (bv 9 5) rfl rfl (any_of HT_.out (by kernel_rfl)) (fun _ _ _ h => h) (Or.inl ⟨by rfl, ?_⟩) ?_ ?_; rotate_left; (exact yP); rotate_left; (exact aP); refine take_ (i := 1) (N := some 45) (v := ?_) (a' := ?_) (bv 9 7) rfl rfl (take_ofW HT_.out HW_.out (by kernel_rfl)) (fun _ _ _ h => h) (Or.inl ⟨by rfl, ?_⟩) hHeld ?_ ?_; rotate_left
      ·
       rintro w' ⟨s0, s1⟩; go_simp
       with_reducible rfl
      rotate_left; (exact aP); refine one_ (i := 3) (N := some 47) (bv 9 15) rfl rfl (one_of HT_.out (by kernel_rfl)) (by decide) (fun K hK => ?_); refine goes_ Try.func79 (by kernel_rfl) rfl #[.pointer (some ⟨g, 0, none⟩), .int .i64 3] (by rfl) rfl rfl lQ ?_
      with_reducible refine (spec_l6Rd_pick.calls k1 g s0_0 t344 3 t345 t346 w0 _ ?side1 ?side2 A31.out).mono ?_
      (case side1 => repeat (first | (with_reducible first | exact HI0.out | apply IsS104.alloc | apply IsS104.drewN | apply IsS104.drew | apply IsS104.set_1 | refine IsS104.far ?_ NB0_336.out _ | refine IsS104.far ?_ NB0_342.out _) | exact HI0.out))
      (case side2 => repeat (first | (with_reducible first | exact HB.out | apply below_alloc | apply pw_below_drewN | apply below_drew1 | refine below_set ?_ (IsS104.ge HI0.out) | refine below_set ?_ GE336.out | refine below_set ?_ GE342.out) | exact HB.out))
      rintro e w41 ⟨rfl, hi, hb, hk⟩; refine ⟨_, rfl, ?_⟩; replace HO_Z1 := Az (Kd.Q_mono (Kd.Q_keep (IsS104.apartQ (show IsS104 w0 _ g s0_0 t344 from by repeat (first | (with_reducible first | exact HI0.out | apply IsS104.alloc | apply IsS104.drewN | apply IsS104.drew | apply IsS104.set_1 | refine IsS104.far ?_ NB0_336.out _ | refine IsS104.far ?_ NB0_342.out _) | exact HI0.out)) (qU HO_Z1.out) (by decide)) hk (fun _ h => h.2)) (fun _ h => h.1)); replace BK336 := Az z5_1; replace BK342 := Az (KeepBut.blk hk (g' := gb342) (o := .cells #[.string (xZ0_1 ++ (⟨#[40]⟩ : ByteArray)), .slice Ao36 xZ1_1.length co36] 25 (0, 0)) (kU BK342.out) NB342_0.out (by simp)); replace HK := Az z5_9; replace HB := Az (hb); replace HI0 := Az (hi); clear hb hk hi; refine hK.out _ _ ⟨(blk_cell BK342.out 0).trans rfl, (blk_cell BK342.out 1).trans rfl⟩ (fun hHeld => ?_); clear hK K; refine norm_ (a' := ?_) ?_ ?_; rotate_left
      ·
       show Act.put _ (some 47) _ = _
       simp only [Act.put, List.setIfInBounds_toArray, List.set_cons_zero, List.set_cons_succ, i64_w, i32_w]; rfl
      refine pure_ (i := 4) (N := some 48) (v := ?_) (a' := ?_) (bv 9 31) rfl rfl (any_of HT_.out (by kernel_rfl)) (fun _ _ _ h => h) (Or.inl ⟨by rfl, ?_⟩) ?_ ?_; rotate_left; (exact yP); rotate_left; (exact aP); refine one_ (i := 5) (N := some 49) (bv 9 63) rfl rfl (one_of HT_.out (by kernel_rfl)) (by decide) (fun K hK => ?_); refine value_ (w1 := ?_) (v := ?_) (by rfl) rfl ?_ ?_; rotate_left 2
      ·
       go_simp
       constructor
       · rfl
       · rfl
      refine hK.out _ _ ⟨(blk_cell (blk_alloc BK342.out _) 0).trans rfl, (blk_cell (blk_alloc BK342.out _) 1).trans rfl⟩ (fun hHeld => ?_); clear hK K; refine norm_ (a' := ?_) ?_ ?_; rotate_left
      ·
       show Act.put _ (some 49) _ = _
       simp only [Act.put, List.setIfInBounds_toArray, List.set_cons_zero, List.set_cons_succ, i64_w, i32_w]; rfl
      refine one_ (i := 6) (N := some 50) (bv 9 127) rfl rfl (one_of HT_.out (by kernel_rfl)) (by decide) (fun K hK => ?_); refine Kd.Q_append_step (Kd.int .i64) w.heap.size (by rfl) (.tmp 45) (.tmp 49) 23 3 (.int .i64 0) 8 rfl Try.underlying23 info3 rfl (by decide) (by omega) (.slice Ao36 xZ1_1.length co36) xZ1_1 (wrap64 (t345 - 1)) [.int .i64 (wrap64 (t345 - 1))] (fun _ => True) (fun _ => False) rfl rfl ?aP (fun _ hk => hk.elim) ?aF ?aO (Below.refl _ _) ?aS ?aL ?_
      (case aP => exact rfl)
      (case aF => exact (fun _ _ => trivial))
      (case aO => exact (qU HO_Z1.out))
      (case aS => exact z5_15)
      (case aL => have := LMc32.out; omega)
      intro v348 w42 ho hb hg hat; rw [← Ny347.out] at ho; replace BK336 := Az (kG BK336.out hg (Kd.Q_ne HO_Z1.out BK336.out (by decide))); replace BK342 := Az (kG BK342.out hg (Kd.Q_ne HO_Z1.out BK342.out (by decide))); replace HB := Az (below_weaken z5_2 HL.out hb); replace HI0 := Az (IsS104.grown z5_3 hg (IsS104.own_neQ HI0.out HO_Z1.out (by decide))); replace HK := Az (KeepBut.trans z5_0 (KeepBut.of_grown hg g) (Kd.Q_base2 HO_Z1.out)); have HO349 := Az (ho); clear HO_Z1 ho hb hg hat; obtain ⟨Ao43, co43, eo43, _⟩ := Kd.Q_slice HO349.out; (first | subst eo43 | (injection eo43 with f1_ f2_ f3_; have f4_ := f1_.symm; have f5_ := f3_.symm; clear f1_ f2_ f3_; subst f4_; subst f5_)); refine hK.out _ _ ⟨(blk_cell BK342.out 0).trans rfl, (blk_cell BK342.out 1).trans rfl⟩ (fun hHeld => ?_); clear hK K; refine norm_ (a' := ?_) ?_ ?_; rotate_left
      ·
       show Act.put _ (some 50) _ = _
       simp only [Act.put, List.setIfInBounds_toArray, List.set_cons_zero, List.set_cons_succ, i64_w, i32_w]; rfl
      refine pure_ (i := 7) (N := some 51) (v := ?_) (a' := ?_) (bv 9 255) rfl rfl (any_of HT_.out (by kernel_rfl)) (fun _ _ _ h => h) (Or.inl ⟨by rfl, ?_⟩) ?_ ?_; rotate_left; (exact yP); rotate_left; (exact aP); refine last_ (i := 8) (N := none) (bv 9 511) rfl rfl (one_of HT_.out (by kernel_rfl)) (by decide) (fun K hK => ?_); have hs44 : w42.cell? ⟨gb342, 1, none⟩ = some (.slice Ao36 xZ1_1.length co36) := (blk_cell BK342.out 1).trans rfl; have hfs44 := blk_frozen BK342.out 1; have hns44_0 := NB336_342.out; have hms44_0 := (NB336_342.out).symm; refine skip_ (w1 := ?_) (by rfl) rfl ?_ ?_; rotate_left
      · go_simp; rfl
      refine hK.out _ _ ?_; clear hK K; refine done_ (done_of HT_.out (by kernel_rfl)) ?_
      try go_wp2
      go_roundg k1
      case measure => exact mO
      case rel => exact ⟨(wrap64 (x7_1 + 1)), (t346), (xZ0_1 ++ (⟨#[40]⟩ : ByteArray)), (y347), (.slice Ao43 y347.length co43), rS, H', ⟨mO⟩, ⟨qM (Kd.Q_far (p := ⟨gb342, 1, none⟩) (Kd.Q_types HO349.out BK342.out (by decide)) (fun _ hk => hk.2) (.slice Ao43 y347.length co43))⟩, ⟨by (with_reducible repeat (first | refine blk_drewN ?_ _ | refine blk_drew ?_ | refine blk_alloc ?_ _)); refine blk_far ?_ NB336_342.out _; (with_reducible repeat (first | refine blk_drewN ?_ _ | refine blk_drew ?_ | refine blk_alloc ?_ _)); exact BK336.out⟩, ⟨by (with_reducible repeat (first | refine blk_drewN ?_ _ | refine blk_drew ?_ | refine blk_alloc ?_ _)); refine blk_put (cs := #[.string (xZ0_1 ++ (⟨#[40]⟩ : ByteArray)), .slice Ao36 xZ1_1.length co36]) ?_ 1 _ rfl; (with_reducible repeat (first | refine blk_drewN ?_ _ | refine blk_drew ?_ | refine blk_alloc ?_ _)); exact BK342.out⟩, ⟨by repeat (first | (with_reducible first | exact HI0.out | apply IsS104.alloc | apply IsS104.drewN | apply IsS104.drew | apply IsS104.set_1 | refine IsS104.far ?_ NB0_336.out _ | refine IsS104.far ?_ NB0_342.out _) | exact HI0.out)⟩, ⟨by repeat (first | (with_reducible first | exact HK.out | apply KeepBut.set_ | apply keep_drewN | apply keep_drew | apply keep_alloc | refine keep_far ?_ GW336.out _ | refine keep_far ?_ GW342.out _) | exact HK.out)⟩, ⟨by repeat (first | (with_reducible first | exact HB.out | apply below_alloc | apply pw_below_drewN | apply below_drew1 | refine below_set ?_ (IsS104.ge HI0.out) | refine below_set ?_ GE336.out | refine below_set ?_ GE342.out) | exact HB.out)⟩⟩
   ·
    replace H := gP H; obtain ⟨c45, H⟩ := H; have c45b0 := eq_true c45; have c45b1 := decide_eq_true c45
    try have c45b2 : (9223372036854775807 < xZ0_1.size + 1) = False := eq_false (Nat.not_lt.2 c45)
    replace H := bd H; obtain ⟨⟨t350, t351⟩, A46, H⟩ := H; dsimp only at H; replace H := gP H; obtain ⟨c47, H⟩ := H; have LMc47 := Az c47; clear c47; generalize Ny352 : (xZ1_1 ++ [wrap64 (t350 - 1)] : List Int) = y352 at H; replace Ny352 := Ay Ny352; have H' := Az H; clear H; have hnb48 := nP NB336_342; have hnb49 := NB342_0.out; have hnc49 := NB0_342.out; have hz50 := bc2 BK342.out
    try go_wp2
    have n0 : Aside0 (Kd.Q (Kd.int .i64) 3 (wr.setCell ⟨gb342, 0, none⟩ (.string (xZ0_1 ++ (⟨#[40]⟩ : ByteArray)))) w.heap.size (fun _ => True) uZ1 xZ1_1) := ⟨qM z5_18⟩; have n1 : Aside0 ((wr.setCell ⟨gb342, 0, none⟩ (.string (xZ0_1 ++ (⟨#[40]⟩ : ByteArray)))).heap[gb336]? = some (.cells #[.string (⟨#[]⟩ : ByteArray), .slice none 0 0] 25 (0, 0))) := ⟨by (with_reducible repeat (first | refine blk_drewN ?_ _ | refine blk_drew ?_ | refine blk_alloc ?_ _)); refine blk_far ?_ NB336_342.out _; (with_reducible repeat (first | refine blk_drewN ?_ _ | refine blk_drew ?_ | refine blk_alloc ?_ _)); exact BK336.out⟩; have n2 : Aside0 ((wr.setCell ⟨gb342, 0, none⟩ (.string (xZ0_1 ++ (⟨#[40]⟩ : ByteArray)))).heap[gb342]? = some (.cells #[.string (xZ0_1 ++ (⟨#[40]⟩ : ByteArray)), uZ1] 25 (0, 0))) := ⟨by (with_reducible repeat (first | refine blk_drewN ?_ _ | refine blk_drew ?_ | refine blk_alloc ?_ _)); refine blk_put (cs := #[.string xZ0_1, uZ1]) ?_ 0 _ rfl; (with_reducible repeat (first | refine blk_drewN ?_ _ | refine blk_drew ?_ | refine blk_alloc ?_ _)); exact BK342.out⟩; have n3 : Aside0 (IsS104 w0 (wr.setCell ⟨gb342, 0, none⟩ (.string (xZ0_1 ++ (⟨#[40]⟩ : ByteArray)))) g s0_0 x1001_1) := ⟨by repeat (first | (with_reducible first | exact HI0.out | apply IsS104.alloc | apply IsS104.drewN | apply IsS104.drew | apply IsS104.set_1 | refine IsS104.far ?_ NB0_336.out _ | refine IsS104.far ?_ NB0_342.out _) | exact HI0.out)⟩; have n4 : Aside0 (KeepBut w (wr.setCell ⟨gb342, 0, none⟩ (.string (xZ0_1 ++ (⟨#[40]⟩ : ByteArray)))) g none) := ⟨by repeat (first | (with_reducible first | exact HK.out | apply KeepBut.set_ | apply keep_drewN | apply keep_drew | apply keep_alloc | refine keep_far ?_ GW336.out _ | refine keep_far ?_ GW342.out _) | exact HK.out)⟩; have n5 : Aside0 (Below w0.heap.size w0 (wr.setCell ⟨gb342, 0, none⟩ (.string (xZ0_1 ++ (⟨#[40]⟩ : ByteArray))))) := ⟨by repeat (first | (with_reducible first | exact HB.out | apply below_alloc | apply pw_below_drewN | apply below_drew1 | refine below_set ?_ (IsS104.ge HI0.out) | refine below_set ?_ GE336.out | refine below_set ?_ GE342.out) | exact HB.out)⟩; generalize (wr.setCell ⟨gb342, 0, none⟩ (.string (xZ0_1 ++ (⟨#[40]⟩ : ByteArray)))) = w51 at n0 n1 n2 n3 n4 n5 ⊢; have HO_Z1 := n0; have BK336 := n1; have BK342 := n2; have HI0 := n3; have HK := n4; have HB := n5; clear n0 n1 n2 n3 n4 n5; replace HO_Z1 := Az (Kd.Q_drew HO_Z1.out); replace BK336 := Az (blk_drew BK336.out); replace BK342 := Az (blk_drew BK342.out); replace HI0 := Az (IsS104.drew HI0.out); replace HK := Az (keep_drew HK.out); replace HB := Az (below_drew1 HB.out); refine start_ (n := 9) (S := fun w' => w'.cell? ⟨gb342, 0, none⟩ = some (.string (xZ0_1 ++ (⟨#[40]⟩ : ByteArray))) ∧ w'.cell? ⟨gb342, 1, none⟩ = some (uZ1)) (ds := [8]) (bv 9 0) (by kernel_rfl) rfl rfl ⟨(blk_cell BK342.out 0).trans rfl, (blk_cell BK342.out 1).trans rfl⟩ (fun hHeld => ?_); refine with_tabW spec_l92Tree.tab9 spec_l92Tree.bits9 (fun HT_ HW_ => ?_); generalize w51.drew = w52 at HO_Z1 BK336 BK342 HI0 HK HB hHeld ⊢; refine pure_ (i := 0) (N := some 44) (v := ?_) (a' := ?_) (bv 9 1) rfl rfl (any_of HT_.out (by kernel_rfl)) (fun _ _ _ h => h) (Or.inl ⟨by rfl, ?_⟩) ?_ ?_; rotate_left; (exact yP); rotate_left; (exact aP); refine pure_ (i := 2) (N := some 46) (v := ?_) (a' := ?_) (bv 9 5) rfl rfl (any_of HT_.out (by kernel_rfl)) (fun _ _ _ h => h) (Or.inl ⟨by rfl, ?_⟩) ?_ ?_; rotate_left; (exact yP); rotate_left; (exact aP); refine take_ (i := 1) (N := some 45) (v := ?_) (a' := ?_) (bv 9 7) rfl rfl (take_ofW HT_.out HW_.out (by kernel_rfl)) (fun _ _ _ h => h) (Or.inl ⟨by rfl, ?_⟩) hHeld ?_ ?_; rotate_left
    ·
     rintro w' ⟨s0, s1⟩; go_simp
     with_reducible rfl
    rotate_left; (exact aP); refine one_ (i := 3) (N := some 47) (bv 9 15) rfl rfl (one_of HT_.out (by kernel_rfl)) (by decide) (fun K hK => ?_); refine goes_ Try.func79 (by kernel_rfl) rfl #[.pointer (some ⟨g, 0, none⟩), .int .i64 3] (by rfl) rfl rfl lQ ?_
    with_reducible refine (spec_l6Rd_pick.calls k1 g s0_0 x1001_1 3 t350 t351 w0 _ ?side1 ?side2 A46.out).mono ?_
    (case side1 => repeat (first | (with_reducible first | exact HI0.out | apply IsS104.alloc | apply IsS104.drewN | apply IsS104.drew | apply IsS104.set_1 | refine IsS104.far ?_ NB0_336.out _ | refine IsS104.far ?_ NB0_342.out _) | exact HI0.out))
    (case side2 => repeat (first | (with_reducible first | exact HB.out | apply below_alloc | apply pw_below_drewN | apply below_drew1 | refine below_set ?_ (IsS104.ge HI0.out) | refine below_set ?_ GE336.out | refine below_set ?_ GE342.out) | exact HB.out))
    rintro e w53 ⟨rfl, hi, hb, hk⟩; refine ⟨_, rfl, ?_⟩; replace HO_Z1 := Az (Kd.Q_mono (Kd.Q_keep (IsS104.apartQ (show IsS104 w0 _ g s0_0 x1001_1 from by repeat (first | (with_reducible first | exact HI0.out | apply IsS104.alloc | apply IsS104.drewN | apply IsS104.drew | apply IsS104.set_1 | refine IsS104.far ?_ NB0_336.out _ | refine IsS104.far ?_ NB0_342.out _) | exact HI0.out)) (qU HO_Z1.out) (by decide)) hk (fun _ h => h.2)) (fun _ h => h.1)); replace BK336 := Az z5_1; replace BK342 := Az (KeepBut.blk hk (g' := gb342) (o := .cells #[.string (xZ0_1 ++ (⟨#[40]⟩ : ByteArray)), uZ1] 25 (0, 0)) (kU BK342.out) NB342_0.out (by simp)); replace HK := Az z5_9; replace HB := Az (hb); replace HI0 := Az (hi); clear hb hk hi; refine hK.out _ _ ⟨(blk_cell BK342.out 0).trans rfl, (blk_cell BK342.out 1).trans rfl⟩ (fun hHeld => ?_); clear hK K; refine norm_ (a' := ?_) ?_ ?_; rotate_left
    ·
     show Act.put _ (some 47) _ = _
     simp only [Act.put, List.setIfInBounds_toArray, List.set_cons_zero, List.set_cons_succ, i64_w, i32_w]; rfl
    refine pure_ (i := 4) (N := some 48) (v := ?_) (a' := ?_) (bv 9 31) rfl rfl (any_of HT_.out (by kernel_rfl)) (fun _ _ _ h => h) (Or.inl ⟨by rfl, ?_⟩) ?_ ?_; rotate_left; (exact yP); rotate_left; (exact aP); refine one_ (i := 5) (N := some 49) (bv 9 63) rfl rfl (one_of HT_.out (by kernel_rfl)) (by decide) (fun K hK => ?_); refine value_ (w1 := ?_) (v := ?_) (by rfl) rfl ?_ ?_; rotate_left 2
    ·
     go_simp
     constructor
     · rfl
     · rfl
    refine hK.out _ _ ⟨(blk_cell (blk_alloc BK342.out _) 0).trans rfl, (blk_cell (blk_alloc BK342.out _) 1).trans rfl⟩ (fun hHeld => ?_); clear hK K; refine norm_ (a' := ?_) ?_ ?_; rotate_left
    ·
     show Act.put _ (some 49) _ = _
     simp only [Act.put, List.setIfInBounds_toArray, List.set_cons_zero, List.set_cons_succ, i64_w, i32_w]; rfl
    refine one_ (i := 6) (N := some 50) (bv 9 127) rfl rfl (one_of HT_.out (by kernel_rfl)) (by decide) (fun K hK => ?_); refine Kd.Q_append_step (Kd.int .i64) w.heap.size (by rfl) (.tmp 45) (.tmp 49) 23 3 (.int .i64 0) 8 rfl Try.underlying23 info3 rfl (by decide) (by omega) uZ1 xZ1_1 (wrap64 (t350 - 1)) [.int .i64 (wrap64 (t350 - 1))] (fun _ => True) (fun _ => False) rfl rfl ?aP (fun _ hk => hk.elim) ?aF ?aO (Below.refl _ _) ?aS ?aL ?_
    (case aP => exact rfl)
    (case aF => exact (fun _ _ => trivial))
    (case aO => exact (qU HO_Z1.out))
    (case aS => exact z5_15)
    (case aL => have := LMc47.out; omega)
    intro v353 w54 ho hb hg hat; rw [← Ny352.out] at ho; replace BK336 := Az (kG BK336.out hg (Kd.Q_ne HO_Z1.out BK336.out (by decide))); replace BK342 := Az (kG BK342.out hg (Kd.Q_ne HO_Z1.out BK342.out (by decide))); replace HB := Az (below_weaken z5_2 HL.out hb); replace HI0 := Az (IsS104.grown z5_3 hg (IsS104.own_neQ HI0.out HO_Z1.out (by decide))); replace HK := Az (KeepBut.trans z5_0 (KeepBut.of_grown hg g) (Kd.Q_base2 HO_Z1.out)); have HO354 := Az (ho); clear HO_Z1 ho hb hg hat; obtain ⟨Ao55, co55, eo55, _⟩ := Kd.Q_slice HO354.out; (first | subst eo55 | (injection eo55 with f1_ f2_ f3_; have f4_ := f1_.symm; have f5_ := f3_.symm; clear f1_ f2_ f3_; subst f4_; subst f5_)); refine hK.out _ _ ⟨(blk_cell BK342.out 0).trans rfl, (blk_cell BK342.out 1).trans rfl⟩ (fun hHeld => ?_); clear hK K; refine norm_ (a' := ?_) ?_ ?_; rotate_left
    ·
     show Act.put _ (some 50) _ = _
     simp only [Act.put, List.setIfInBounds_toArray, List.set_cons_zero, List.set_cons_succ, i64_w, i32_w]; rfl
    refine pure_ (i := 7) (N := some 51) (v := ?_) (a' := ?_) (bv 9 255) rfl rfl (any_of HT_.out (by kernel_rfl)) (fun _ _ _ h => h) (Or.inl ⟨by rfl, ?_⟩) ?_ ?_; rotate_left; (exact yP); rotate_left; (exact aP); refine last_ (i := 8) (N := none) (bv 9 511) rfl rfl (one_of HT_.out (by kernel_rfl)) (by decide) (fun K hK => ?_); have hs56 : w54.cell? ⟨gb342, 1, none⟩ = some (uZ1) := (blk_cell BK342.out 1).trans rfl; have hfs56 := blk_frozen BK342.out 1; have hns56_0 := NB336_342.out; have hms56_0 := (NB336_342.out).symm; refine skip_ (w1 := ?_) (by rfl) rfl ?_ ?_; rotate_left
    · go_simp; rfl
    refine hK.out _ _ ?_; clear hK K; refine done_ (done_of HT_.out (by kernel_rfl)) ?_
    try go_wp2
    go_roundg k1
    case measure => exact mO
    case rel => exact ⟨(wrap64 (x7_1 + 1)), (t351), (xZ0_1 ++ (⟨#[40]⟩ : ByteArray)), (y352), (.slice Ao55 y352.length co55), rS, H', ⟨mO⟩, ⟨qM (Kd.Q_far (p := ⟨gb342, 1, none⟩) (Kd.Q_types HO354.out BK342.out (by decide)) (fun _ hk => hk.2) (.slice Ao55 y352.length co55))⟩, ⟨by (with_reducible repeat (first | refine blk_drewN ?_ _ | refine blk_drew ?_ | refine blk_alloc ?_ _)); refine blk_far ?_ NB336_342.out _; (with_reducible repeat (first | refine blk_drewN ?_ _ | refine blk_drew ?_ | refine blk_alloc ?_ _)); exact BK336.out⟩, ⟨by (with_reducible repeat (first | refine blk_drewN ?_ _ | refine blk_drew ?_ | refine blk_alloc ?_ _)); refine blk_put (cs := #[.string (xZ0_1 ++ (⟨#[40]⟩ : ByteArray)), uZ1]) ?_ 1 _ rfl; (with_reducible repeat (first | refine blk_drewN ?_ _ | refine blk_drew ?_ | refine blk_alloc ?_ _)); exact BK342.out⟩, ⟨by repeat (first | (with_reducible first | exact HI0.out | apply IsS104.alloc | apply IsS104.drewN | apply IsS104.drew | apply IsS104.set_1 | refine IsS104.far ?_ NB0_336.out _ | refine IsS104.far ?_ NB0_342.out _) | exact HI0.out)⟩, ⟨by repeat (first | (with_reducible first | exact HK.out | apply KeepBut.set_ | apply keep_drewN | apply keep_drew | apply keep_alloc | refine keep_far ?_ GW336.out _ | refine keep_far ?_ GW342.out _) | exact HK.out)⟩, ⟨by repeat (first | (with_reducible first | exact HB.out | apply below_alloc | apply pw_below_drewN | apply below_drew1 | refine below_set ?_ (IsS104.ge HI0.out) | refine below_set ?_ GE336.out | refine below_set ?_ GE342.out) | exact HB.out)⟩⟩
  ·
   replace H := bd H; obtain ⟨⟨t355, t356⟩, A57, H⟩ := H; dsimp only at H
   replace H := gQ H; rcases H with ⟨c58b0, c58b1, H⟩ | ⟨c58b0, c58b1, H⟩
   ·
    generalize Ny357 : (([(⟨#[40]⟩ : ByteArray), (⟨#[41]⟩ : ByteArray), (⟨#[120]⟩ : ByteArray), (⟨#[40, 41]⟩ : ByteArray)] : List ByteArray) : List ByteArray) = y357 at H; replace Ny357 := Ay Ny357; replace H := bd H; obtain ⟨⟨t360, t361⟩, A59, H⟩ := H; dsimp only at H; replace H := gP H; obtain ⟨c60, H⟩ := H; have c60b0 := eq_true c60; have c60b1 := decide_eq_true c60
    try have c60b2 : (9223372036854775807 < xZ0_1.size + t360.size) = False := eq_false (Nat.not_lt.2 c60)
    simp only [Option.some.injEq, Prod.mk.injEq] at H; obtain ⟨rfl, rfl, rfl⟩ := H; have hnb61 := nP NB336_342; have hnb62 := NB342_0.out; have hnc62 := NB0_342.out; have hz63 := bc2 BK342.out
    try go_wp2_with (first | ((with_reducible refine gK 79 rfl ?_); refine gC (some 55) Try.func79 #[.pointer (some ⟨g, 0, none⟩), .int .i64 40] ?_; (with_reducible refine (spec_l6Rd_pick.calls k1 g s0_0 x1001_1 40 t355 t356 w0 _ ?side1 ?side2 A57.out).mono ?_); (case side1 => repeat (first | (with_reducible first | exact HI0.out | apply IsS104.alloc | apply IsS104.drewN | apply IsS104.drew | apply IsS104.set_1 | refine IsS104.far ?_ NB0_336.out _ | refine IsS104.far ?_ NB0_342.out _) | exact HI0.out)); (case side2 => repeat (first | (with_reducible first | exact HB.out | apply below_alloc | apply pw_below_drewN | apply below_drew1 | refine below_set ?_ (IsS104.ge HI0.out) | refine below_set ?_ GE336.out | refine below_set ?_ GE342.out) | exact HB.out)); rintro e w64 ⟨rfl, hi, hb, hk⟩; refine ⟨_, rfl, ?_⟩; replace HO_Z1 := Az (Kd.Q_mono (Kd.Q_keep (IsS104.apartQ (show IsS104 w0 _ g s0_0 x1001_1 from by repeat (first | (with_reducible first | exact HI0.out | apply IsS104.alloc | apply IsS104.drewN | apply IsS104.drew | apply IsS104.set_1 | refine IsS104.far ?_ NB0_336.out _ | refine IsS104.far ?_ NB0_342.out _) | exact HI0.out)) (qU HO_Z1.out) (by decide)) hk (fun _ h => h.2)) (fun _ h => h.1)); replace BK336 := Az z5_1; replace BK342 := Az z5_5; replace HK := Az z5_9; replace HB := Az (hb); replace HI0 := Az (hi); clear hb hk hi))
    replace HO_Z1 := Az (Kd.Q_drew HO_Z1.out); replace BK336 := Az (blk_drew BK336.out); replace BK342 := Az (blk_drew BK342.out); replace HI0 := Az (IsS104.drew HI0.out); replace HK := Az (keep_drew HK.out); replace HB := Az (below_drew1 HB.out); refine start_ (n := 8) (S := fun w' => w'.cell? ⟨gb342, 0, none⟩ = some (.string xZ0_1) ∧ w'.cell? ⟨gb342, 1, none⟩ = some (uZ1)) (ds := [7]) (bv 8 0) (by kernel_rfl) rfl rfl ⟨(blk_cell BK342.out 0).trans rfl, (blk_cell BK342.out 1).trans rfl⟩ (fun hHeld => ?_); refine with_tabW spec_l92Tree.tab13 spec_l92Tree.bits13 (fun HT_ HW_ => ?_); generalize w64.drew = w65 at HO_Z1 BK336 BK342 HI0 HK HB hHeld ⊢; refine pure_ (i := 0) (N := some 58) (v := ?_) (a' := ?_) (bv 8 1) rfl rfl (any_of HT_.out (by kernel_rfl)) (fun _ _ _ h => h) (Or.inl ⟨by rfl, ?_⟩) ?_ ?_; rotate_left; (exact yP); rotate_left; (exact aP); refine pure_ (i := 2) (N := some 60) (v := ?_) (a' := ?_) (bv 8 5) rfl rfl (any_of HT_.out (by kernel_rfl)) (fun _ _ _ h => h) (Or.inl ⟨by rfl, ?_⟩) ?_ ?_; rotate_left; (exact yP); rotate_left; (exact aP); refine take_ (i := 1) (N := some 59) (v := ?_) (a' := ?_) (bv 8 7) rfl rfl (take_ofW HT_.out HW_.out (by kernel_rfl)) (fun _ _ _ h => h) (Or.inl ⟨by rfl, ?_⟩) hHeld ?_ ?_; rotate_left
    ·
     rintro w' ⟨s0, s1⟩; go_simp
     with_reducible rfl
    rotate_left; (exact aP); refine one_ (i := 3) (N := some 61) (bv 8 15) rfl rfl (one_of HT_.out (by kernel_rfl)) (by decide) (fun K hK => ?_); refine Kd.R_lit_step Kd.string _ 9 ?hg (N := 61) ?hd (xs := ([(⟨#[40]⟩ : ByteArray), (⟨#[41]⟩ : ByteArray), (⟨#[120]⟩ : ByteArray), (⟨#[40, 41]⟩ : ByteArray)] : List ByteArray)) (inner := [.string (⟨#[40]⟩ : ByteArray), .string (⟨#[41]⟩ : ByteArray), .string (⟨#[120]⟩ : ByteArray), .string (⟨#[40, 41]⟩ : ByteArray)]) (ok := fun _ => True) (okp := fun _ => True) ?hr ?hp (fun _ hk => hk) trivial (Below.refl _ _) (Nat.le_refl _) (by simp) ?_; (case hd => rfl); (case hg => rfl); (case hr => first | (go_simp; done) | (go_simp; rfl)); (case hp => exact (Reps.one (show Kd.M Kd.string _ _ _ (⟨#[40]⟩ : ByteArray) [.string (⟨#[40]⟩ : ByteArray)] from rfl) (Reps.one (show Kd.M Kd.string _ _ _ (⟨#[41]⟩ : ByteArray) [.string (⟨#[41]⟩ : ByteArray)] from rfl) (Reps.one (show Kd.M Kd.string _ _ _ (⟨#[120]⟩ : ByteArray) [.string (⟨#[120]⟩ : ByteArray)] from rfl) (Reps.one (show Kd.M Kd.string _ _ _ (⟨#[40, 41]⟩ : ByteArray) [.string (⟨#[40, 41]⟩ : ByteArray)] from rfl) (Reps.none _ _)))))); intro v358 w66 ho67 hb hg_ hnew_; clear hg_ hnew_; (first | rw [← Ny357.out] at ho67 | (simp only [Int.reduceToNat] at ho67; rw [← Ny357.out] at ho67)); replace HO_Z1 := qB HO_Z1.out hb; have HO359 := Az (Kd.R_lower ho67 z5_15); replace BK336 := kB BK336.out hb; replace BK342 := kB BK342.out hb; replace HK := Az (KeepBut.trans z5_0 (KeepBut.of_below hb g none) (.inl rfl)); replace HB := Az (below_step z5_2 hb); replace HI0 := Az (IsS104.below z5_3 hb); clear hb ho67; obtain ⟨Ao68, co68, eo68⟩ := Kd.R_slice HO359.out; (first | subst eo68 | (injection eo68 with f1_ f2_ f3_; have f4_ := f1_.symm; have f5_ := f3_.symm; clear f1_ f2_ f3_; subst f4_; subst f5_)); refine hK.out _ _ ⟨(blk_cell BK342.out 0).trans rfl, (blk_cell BK342.out 1).trans rfl⟩ (fun hHeld => ?_); clear hK K; refine norm_ (a' := ?_) ?_ ?_; rotate_left
    ·
     show Act.put _ (some 61) _ = _
     simp only [Act.put, List.setIfInBounds_toArray, List.set_cons_zero, List.set_cons_succ, i64_w, i32_w]; rfl
    refine one_ (i := 4) (N := some 62) (bv 8 31) rfl rfl (one_of HT_.out (by kernel_rfl)) (by decide) (fun K hK => ?_); refine goes_ Try.func104 (by kernel_rfl) rfl #[.pointer (some ⟨g, 0, none⟩), .slice Ao68 y357.length co68] (by rfl) rfl rfl lQ ?_
    with_reducible refine (spec_l6Rd_of.calls k1 g s0_0 t356 _ _ y357 t360 t361 w0 _ ?side1 ?side2 ?side3 ?side4 ?side5 A59.out).mono ?_
    (case side1 => repeat (first | (with_reducible first | exact HI0.out | apply IsS104.alloc | apply IsS104.drewN | apply IsS104.drew | apply IsS104.set_1 | refine IsS104.far ?_ NB0_336.out _ | refine IsS104.far ?_ NB0_342.out _) | exact HI0.out))
    (case side2 => repeat (first | (with_reducible first | exact HB.out | apply below_alloc | apply pw_below_drewN | apply below_drew1 | refine below_set ?_ (IsS104.ge HI0.out) | refine below_set ?_ GE336.out | refine below_set ?_ GE342.out) | exact HB.out))
    (case side3 => exact cU ((Kd.R_reads' HO359.out).2.2))
    (case side4 => exact (Kd.R_reads' HO359.out).2.1)
    (case side5 => exact far_slice (IsS104.own_ne HI0.out HO359.out (by decide)))
    rintro e w69 ⟨rfl, hi, hb, hk⟩; refine ⟨_, rfl, ?_⟩; replace HO_Z1 := Az (Kd.Q_mono (Kd.Q_keep (IsS104.apartQ (show IsS104 w0 _ g s0_0 t356 from by repeat (first | (with_reducible first | exact HI0.out | apply IsS104.alloc | apply IsS104.drewN | apply IsS104.drew | apply IsS104.set_1 | refine IsS104.far ?_ NB0_336.out _ | refine IsS104.far ?_ NB0_342.out _) | exact HI0.out)) (qU HO_Z1.out) (by decide)) hk (fun _ h => h.2)) (fun _ h => h.1)); replace BK336 := Az z5_1; replace BK342 := Az z5_5; replace HO359 := Az (Kd.R_mono (Kd.R_keep (IsS104.apart (show IsS104 w0 _ g s0_0 t356 from by repeat (first | (with_reducible first | exact HI0.out | apply IsS104.alloc | apply IsS104.drewN | apply IsS104.drew | apply IsS104.set_1 | refine IsS104.far ?_ NB0_336.out _ | refine IsS104.far ?_ NB0_342.out _) | exact HI0.out)) (rU HO359.out) (by decide)) hk (fun _ h => h.2)) (fun _ h => h.1)); replace HK := Az z5_9; replace HB := Az (hb); replace HI0 := Az (hi); clear hb hk hi; refine hK.out _ _ ⟨(blk_cell BK342.out 0).trans rfl, (blk_cell BK342.out 1).trans rfl⟩ (fun hHeld => ?_); clear hK K; refine norm_ (a' := ?_) ?_ ?_; rotate_left
    ·
     show Act.put _ (some 62) _ = _
     simp only [Act.put, List.setIfInBounds_toArray, List.set_cons_zero, List.set_cons_succ, i64_w, i32_w]; rfl
    refine pure_ (i := 5) (N := some 63) (v := ?_) (a' := ?_) (bv 8 63) rfl rfl (any_of HT_.out (by kernel_rfl)) (fun _ _ _ h => h) (Or.inl ⟨by rfl, ?_⟩) ?_ ?_; rotate_left; (exact yP); rotate_left; (exact aP); refine pure_ (i := 6) (N := some 64) (v := ?_) (a' := ?_) (bv 8 127) rfl rfl (any_of HT_.out (by kernel_rfl)) (fun _ _ _ h => h) (Or.inl ⟨by rfl, ?_⟩) ?_ ?_; rotate_left; (exact yP); rotate_left; (exact aP); refine last_ (i := 7) (N := none) (bv 8 255) rfl rfl (one_of HT_.out (by kernel_rfl)) (by decide) (fun K hK => ?_); have hs70 : w69.cell? ⟨gb342, 0, none⟩ = some (.string xZ0_1) := (blk_cell BK342.out 0).trans rfl; have hfs70 := blk_frozen BK342.out 0; have hns70_0 := NB336_342.out; have hms70_0 := (NB336_342.out).symm; refine skip_ (w1 := ?_) (by rfl) rfl ?_ ?_; rotate_left
    · go_simp; rfl
    refine hK.out _ _ ?_; clear hK K; refine done_ (done_of HT_.out (by kernel_rfl)) ?_; have hz71 := bc2 BK342.out; have hnb72 := NB336_0.out; have hnc72 := NB0_336.out; have hz73 := bc2 BK336.out; obtain ⟨Ao74, co74, eo74, _⟩ := Kd.Q_slice HO_Z1.out; subst eo74
    try go_wp2
    refine bodyPost_ret (results_cell_row rfl _ _ gb336 25 #[.string (xZ0_1 ++ t360), .slice Ao74 xZ1_1.length co74] (0, 0) _ rfl (by (with_reducible repeat (first | refine blk_drewN ?_ _ | refine blk_drew ?_ | refine blk_alloc ?_ _)); refine blk_put (cs := #[.string (xZ0_1 ++ t360), .slice none 0 0]) ?_ 1 _ rfl; (with_reducible repeat (first | refine blk_drewN ?_ _ | refine blk_drew ?_ | refine blk_alloc ?_ _)); refine blk_put (cs := #[.string (⟨#[]⟩ : ByteArray), .slice none 0 0]) ?_ 0 _ rfl; (with_reducible repeat (first | refine blk_drewN ?_ _ | refine blk_drew ?_ | refine blk_alloc ?_ _)); refine blk_far ?_ NB336_342.out _; (with_reducible repeat (first | refine blk_drewN ?_ _ | refine blk_drew ?_ | refine blk_alloc ?_ _)); exact BK336.out) Try.underlying25 rfl (by kernel_rfl)) rfl ?_; exact ⟨_, rE, by (with_reducible repeat (first | apply Kd.Q_alloc | apply Kd.Q_drewN | apply Kd.Q_drew)); exact Kd.Q_mono (Kd.Q_far (p := ⟨gb336, 1, none⟩) (Kd.Q_far (p := ⟨gb336, 0, none⟩) (Kd.Q_far (p := ⟨gb342, 0, none⟩) (Kd.Q_types (Kd.Q_types HO_Z1.out BK342.out (by decide)) BK336.out (by decide)) (fun _ hk => hk.1.2) (.string (xZ0_1 ++ t360))) (fun _ hk => hk.2) (.string (xZ0_1 ++ t360))) (fun _ hk => hk.2) (.slice Ao74 xZ1_1.length co74)) (fun _ hk => trivial), by repeat (first | (with_reducible first | exact HI0.out | apply IsS104.alloc | apply IsS104.drewN | apply IsS104.drew | apply IsS104.set_1 | refine IsS104.far ?_ NB0_336.out _ | refine IsS104.far ?_ NB0_342.out _) | exact HI0.out), by repeat (first | (with_reducible first | exact HB.out | apply below_alloc | apply pw_below_drewN | apply below_drew1 | refine below_set ?_ (IsS104.ge HI0.out) | refine below_set ?_ GE336.out | refine below_set ?_ GE342.out) | exact HB.out), by repeat (first | (with_reducible first | exact HK.out | apply KeepBut.set_ | apply keep_drewN | apply keep_drew | apply keep_alloc | refine keep_far ?_ GW336.out _ | refine keep_far ?_ GW342.out _) | exact HK.out)⟩
   ·
    replace H := gQ H; rcases H with ⟨c75b0, c75b1, H⟩ | ⟨c75b0, c75b1, H⟩
    ·
     generalize Ny362 : (([(-2), 2] : List Int) : List Int) = y362 at H; simp only [Option.bind_some] at H; replace Ny362 := Ay Ny362; replace H := bd H; obtain ⟨⟨t365, t366⟩, A76, H⟩ := H; dsimp only at H; replace H := gD2 H; obtain ⟨c77b0, c78b0, H⟩ := H; replace H := gP H; obtain ⟨c79, H⟩ := H; have c79b0 := decide_eq_true c79; have c79b1 : decide (0 < xZ1_1.length) = true := decide_eq_true (by omega); clear c79; generalize Ny368 : (xZ1_1.set (0 : Int).toNat (rd y362 t365) : List Int) = y368 at H; replace Ny368 := Ay Ny368; simp only [Option.some.injEq, Prod.mk.injEq] at H; obtain ⟨rfl, rfl, rfl⟩ := H; have hnb81 := nP NB336_342; have hnb82 := NB342_0.out; have hnc82 := NB0_342.out; have hz83 := bc2 BK342.out
     try go_wp2_with (first | ((with_reducible refine gK 79 rfl ?_); refine gC (some 55) Try.func79 #[.pointer (some ⟨g, 0, none⟩), .int .i64 40] ?_; (with_reducible refine (spec_l6Rd_pick.calls k1 g s0_0 x1001_1 40 t355 t356 w0 _ ?side1 ?side2 A57.out).mono ?_); (case side1 => repeat (first | (with_reducible first | exact HI0.out | apply IsS104.alloc | apply IsS104.drewN | apply IsS104.drew | apply IsS104.set_1 | refine IsS104.far ?_ NB0_336.out _ | refine IsS104.far ?_ NB0_342.out _) | exact HI0.out)); (case side2 => repeat (first | (with_reducible first | exact HB.out | apply below_alloc | apply pw_below_drewN | apply below_drew1 | refine below_set ?_ (IsS104.ge HI0.out) | refine below_set ?_ GE336.out | refine below_set ?_ GE342.out) | exact HB.out)); rintro e w84 ⟨rfl, hi, hb, hk⟩; refine ⟨_, rfl, ?_⟩; replace HO_Z1 := Az (Kd.Q_mono (Kd.Q_keep (IsS104.apartQ (show IsS104 w0 _ g s0_0 x1001_1 from by repeat (first | (with_reducible first | exact HI0.out | apply IsS104.alloc | apply IsS104.drewN | apply IsS104.drew | apply IsS104.set_1 | refine IsS104.far ?_ NB0_336.out _ | refine IsS104.far ?_ NB0_342.out _) | exact HI0.out)) (qU HO_Z1.out) (by decide)) hk (fun _ h => h.2)) (fun _ h => h.1)); replace BK336 := Az z5_1; replace BK342 := Az z5_5; replace HK := Az z5_9; replace HB := Az (hb); replace HI0 := Az (hi); clear hb hk hi))
     have pi367 : (0 ≤ (t365 : Int)) = True := eq_true (oA); have qi367 : (t365 < (y362.length : Int)) = True := eq_true (oA); replace HO_Z1 := Az (Kd.Q_drew HO_Z1.out); replace BK336 := Az (blk_drew BK336.out); replace BK342 := Az (blk_drew BK342.out); replace HI0 := Az (IsS104.drew HI0.out); replace HK := Az (keep_drew HK.out); replace HB := Az (below_drew1 HB.out); refine start_ (n := 9) (S := fun w' => w'.cell? ⟨gb342, 0, none⟩ = some (.string xZ0_1) ∧ w'.cell? ⟨gb342, 1, none⟩ = some (uZ1)) (ds := [8]) (bv 9 0) (by kernel_rfl) rfl rfl ⟨(blk_cell BK342.out 0).trans rfl, (blk_cell BK342.out 1).trans rfl⟩ (fun hHeld => ?_); refine with_tabW spec_l92Tree.tab15 spec_l92Tree.bits15 (fun HT_ HW_ => ?_); generalize w84.drew = w85 at HO_Z1 BK336 BK342 HI0 HK HB hHeld ⊢; refine pure_ (i := 0) (N := some 67) (v := ?_) (a' := ?_) (bv 9 1) rfl rfl (any_of HT_.out (by kernel_rfl)) (fun _ _ _ h => h) (Or.inl ⟨by rfl, ?_⟩) ?_ ?_; rotate_left; (exact yP); rotate_left; (exact aP); refine pure_ (i := 3) (N := some 70) (v := ?_) (a' := ?_) (bv 9 9) rfl rfl (any_of HT_.out (by kernel_rfl)) (fun _ _ _ h => h) (Or.inl ⟨by rfl, ?_⟩) ?_ ?_; rotate_left; (exact yP); rotate_left; (exact aP); refine take_ (i := 1) (N := some 68) (v := ?_) (a' := ?_) (bv 9 11) rfl rfl (take_ofW HT_.out HW_.out (by kernel_rfl)) (fun _ _ _ h => h) (Or.inl ⟨by rfl, ?_⟩) hHeld ?_ ?_; rotate_left
     ·
      rintro w' ⟨s0, s1⟩; go_simp
      with_reducible rfl
     rotate_left; (exact aP); refine join_ (σ := Value × Addr) 4 (bv 9 31) (fun s_ => [(69, s_.1), (71, .int .i64 t365)]) (fun s_ w' => (w'.cell? ⟨gb342, 0, none⟩ = some (.string xZ0_1) ∧ w'.cell? ⟨gb342, 1, none⟩ = some (uZ1)) ∧ (Kd.R (Kd.int .i64) 3 w' w.heap.size (fun k_ => oV k_ uZ1) s_.1 y362) ∧ (Kd.Q (Kd.int .i64) 3 w' w.heap.size (fun k_ => some k_ ≠ (s_.1 : Value).ownBlock) uZ1 xZ1_1) ∧ (∃ c_, (s_.1 : Value) = .slice (some s_.2) y362.length c_) ∧ (w'.heap[gb336]? = some (.cells #[.string (⟨#[]⟩ : ByteArray), .slice none 0 0] 25 (0, 0))) ∧ (w'.heap[gb342]? = some (.cells #[.string xZ0_1, uZ1] 25 (0, 0))) ∧ (IsS104 w0 w' g s0_0 t366) ∧ (KeepBut w w' g none) ∧ (Below w0.heap.size w0 w')) ?_ ?_; rotate_left
     ·
      intro hCont; refine two_ (i := 2) (j := 4) (Ni := some 69) (Nj := some 71) (bv 9 15) (bv 9 27) rfl rfl rfl rfl (two_of HT_.out (by kernel_rfl)) (by decide) (by decide) (fun K hK => ?_) (fun K hK => ?_)
      ·
       skip
       refine Kd.R_lit_step (Kd.int .i64) _ 3 ?hg (N := 69) ?hd (xs := ([(-2), 2] : List Int)) (inner := [.int .i64 (-2), .int .i64 2]) (ok := fun _ => True) (okp := fun _ => True) ?hr ?hp (fun _ hk => hk) trivial (Below.refl _ _) (Nat.le_refl _) (by simp) ?_; (case hd => rfl); (case hg => rfl); (case hr => first | (go_simp; done) | (go_simp; rfl)); (case hp => exact (Reps.one (show Kd.M (Kd.int .i64) _ _ _ (-2) [.int .i64 (-2)] from rfl) (Reps.one (show Kd.M (Kd.int .i64) _ _ _ 2 [.int .i64 2] from rfl) (Reps.none _ _)))); intro v363 w86 ho87 hb hg_ hnew_; clear hg_ hnew_; (first | rw [← Ny362.out] at ho87 | (simp only [Int.reduceToNat] at ho87; rw [← Ny362.out] at ho87)); have HO364 := Az (Kd.R_lower (Kd.R_new' ho87 (Kd.Q_lt (qU HO_Z1.out))) z5_15); replace HO_Z1 := Az (Kd.Q_elder' (qU HO_Z1.out) (Kd.R_base ho87) hb); replace BK336 := kB BK336.out hb; replace BK342 := kB BK342.out hb; replace HK := Az (KeepBut.trans z5_0 (KeepBut.of_below hb g none) (.inl rfl)); replace HB := Az (below_step z5_2 hb); replace HI0 := Az (IsS104.below z5_3 hb); clear hb ho87; obtain ⟨Ao88, co88, eo88⟩ := Kd.R_slice HO364.out; subst eo88; obtain ⟨ado88, fo88, _⟩ := Kd.at_int (Kd.R_reads' HO364.out).2.2 0 (by decide) (by rw [Ny362.out]; simp)
       cases fo88
       refine hK.out _ _ ⟨(blk_cell BK342.out 0).trans rfl, (blk_cell BK342.out 1).trans rfl⟩ (fun hHeld => ?_); clear hK K; refine norm_ (a' := ?_) ?_ ?_; rotate_left
       ·
        show Act.put _ (some 69) _ = _
        simp only [Act.put, List.setIfInBounds_toArray, List.set_cons_zero, List.set_cons_succ, i64_w, i32_w]; rfl
       refine one_ (i := 4) (N := some 71) (bv 9 31) rfl rfl (one_of HT_.out (by kernel_rfl)) (by decide) (fun K hK => ?_); refine goes_ Try.func79 (by kernel_rfl) rfl #[.pointer (some ⟨g, 0, none⟩), .int .i64 2] (by rfl) rfl rfl lQ ?_
       with_reducible refine (spec_l6Rd_pick.calls k1 g s0_0 t356 2 t365 t366 w0 _ ?side1 ?side2 A76.out).mono ?_
       (case side1 => repeat (first | (with_reducible first | exact HI0.out | apply IsS104.alloc | apply IsS104.drewN | apply IsS104.drew | apply IsS104.set_1 | refine IsS104.far ?_ NB0_336.out _ | refine IsS104.far ?_ NB0_342.out _) | exact HI0.out))
       (case side2 => repeat (first | (with_reducible first | exact HB.out | apply below_alloc | apply pw_below_drewN | apply below_drew1 | refine below_set ?_ (IsS104.ge HI0.out) | refine below_set ?_ GE336.out | refine below_set ?_ GE342.out) | exact HB.out))
       rintro e w89 ⟨rfl, hi, hb, hk⟩; refine ⟨_, rfl, ?_⟩; replace HO_Z1 := Az (Kd.Q_mono (Kd.Q_keep (IsS104.apartQ (show IsS104 w0 _ g s0_0 t356 from by repeat (first | (with_reducible first | exact HI0.out | apply IsS104.alloc | apply IsS104.drewN | apply IsS104.drew | apply IsS104.set_1 | refine IsS104.far ?_ NB0_336.out _ | refine IsS104.far ?_ NB0_342.out _) | exact HI0.out)) (qU HO_Z1.out) (by decide)) hk (fun _ h => h.2)) (fun _ h => h.1)); replace BK336 := Az z5_1; replace BK342 := Az z5_5; replace HO364 := Az (Kd.R_mono (Kd.R_keep (IsS104.apart (show IsS104 w0 _ g s0_0 t356 from by repeat (first | (with_reducible first | exact HI0.out | apply IsS104.alloc | apply IsS104.drewN | apply IsS104.drew | apply IsS104.set_1 | refine IsS104.far ?_ NB0_336.out _ | refine IsS104.far ?_ NB0_342.out _) | exact HI0.out)) (rU HO364.out) (by decide)) hk (fun _ h => h.2)) (fun _ h => h.1)); replace HK := Az z5_9; replace HB := Az (hb); replace HI0 := Az (hi); clear hb hk hi; refine hK.out _ _ ⟨(blk_cell BK342.out 0).trans rfl, (blk_cell BK342.out 1).trans rfl⟩ (fun hHeld => ?_); clear hK K; refine norm_ (a' := ?_) ?_ ?_; rotate_left
       ·
        show Act.put _ (some 71) _ = _
        simp only [Act.put, List.setIfInBounds_toArray, List.set_cons_zero, List.set_cons_succ, i64_w, i32_w]; rfl
       exact norm_ (by simp only [putAll, Act.put, List.setIfInBounds_toArray, List.set_cons_zero, List.set_cons_succ]) (hCont (.slice (some ado88) y362.length co88, ado88) _ ⟨hHeld, (rU (Kd.R_mono HO364.out (fun _ hk => hk.2))), (qU (Kd.Q_mono HO_Z1.out (fun _ hk => hk.2))), ⟨_, rfl⟩, (kU BK336.out), (kU BK342.out), z5_3, z5_0, z5_2⟩)
      ·
       skip
       refine goes_ Try.func79 (by kernel_rfl) rfl #[.pointer (some ⟨g, 0, none⟩), .int .i64 2] (by rfl) rfl rfl lQ ?_
       with_reducible refine (spec_l6Rd_pick.calls k1 g s0_0 t356 2 t365 t366 w0 _ ?side1 ?side2 A76.out).mono ?_
       (case side1 => repeat (first | (with_reducible first | exact HI0.out | apply IsS104.alloc | apply IsS104.drewN | apply IsS104.drew | apply IsS104.set_1 | refine IsS104.far ?_ NB0_336.out _ | refine IsS104.far ?_ NB0_342.out _) | exact HI0.out))
       (case side2 => repeat (first | (with_reducible first | exact HB.out | apply below_alloc | apply pw_below_drewN | apply below_drew1 | refine below_set ?_ (IsS104.ge HI0.out) | refine below_set ?_ GE336.out | refine below_set ?_ GE342.out) | exact HB.out))
       rintro e w86 ⟨rfl, hi, hb, hk⟩; refine ⟨_, rfl, ?_⟩; replace HO_Z1 := Az (Kd.Q_mono (Kd.Q_keep (IsS104.apartQ (show IsS104 w0 _ g s0_0 t356 from by repeat (first | (with_reducible first | exact HI0.out | apply IsS104.alloc | apply IsS104.drewN | apply IsS104.drew | apply IsS104.set_1 | refine IsS104.far ?_ NB0_336.out _ | refine IsS104.far ?_ NB0_342.out _) | exact HI0.out)) (qU HO_Z1.out) (by decide)) hk (fun _ h => h.2)) (fun _ h => h.1)); replace BK336 := Az z5_1; replace BK342 := Az z5_5; replace HK := Az z5_9; replace HB := Az (hb); replace HI0 := Az (hi); clear hb hk hi; refine hK.out _ _ ⟨(blk_cell BK342.out 0).trans rfl, (blk_cell BK342.out 1).trans rfl⟩ (fun hHeld => ?_); clear hK K; refine norm_ (a' := ?_) ?_ ?_; rotate_left
       ·
        show Act.put _ (some 71) _ = _
        simp only [Act.put, List.setIfInBounds_toArray, List.set_cons_zero, List.set_cons_succ, i64_w, i32_w]; rfl
       refine one_ (i := 2) (N := some 69) (bv 9 31) rfl rfl (one_of HT_.out (by kernel_rfl)) (by decide) (fun K hK => ?_); refine Kd.R_lit_step (Kd.int .i64) _ 3 ?hg (N := 69) ?hd (xs := ([(-2), 2] : List Int)) (inner := [.int .i64 (-2), .int .i64 2]) (ok := fun _ => True) (okp := fun _ => True) ?hr ?hp (fun _ hk => hk) trivial (Below.refl _ _) (Nat.le_refl _) (by simp) ?_; (case hd => rfl); (case hg => rfl); (case hr => first | (go_simp; done) | (go_simp; rfl)); (case hp => exact (Reps.one (show Kd.M (Kd.int .i64) _ _ _ (-2) [.int .i64 (-2)] from rfl) (Reps.one (show Kd.M (Kd.int .i64) _ _ _ 2 [.int .i64 2] from rfl) (Reps.none _ _)))); intro v363 w87 ho88 hb hg_ hnew_; clear hg_ hnew_; (first | rw [← Ny362.out] at ho88 | (simp only [Int.reduceToNat] at ho88; rw [← Ny362.out] at ho88)); have HO364 := Az (Kd.R_lower (Kd.R_new' ho88 (Kd.Q_lt (qU HO_Z1.out))) z5_15); replace HO_Z1 := Az (Kd.Q_elder' (qU HO_Z1.out) (Kd.R_base ho88) hb); replace BK336 := kB BK336.out hb; replace BK342 := kB BK342.out hb; replace HK := Az (KeepBut.trans z5_0 (KeepBut.of_below hb g none) (.inl rfl)); replace HB := Az (below_step z5_2 hb); replace HI0 := Az (IsS104.below z5_3 hb); clear hb ho88; obtain ⟨Ao89, co89, eo89⟩ := Kd.R_slice HO364.out; subst eo89; obtain ⟨ado89, fo89, _⟩ := Kd.at_int (Kd.R_reads' HO364.out).2.2 0 (by decide) (by rw [Ny362.out]; simp)
       cases fo89
       refine hK.out _ _ ⟨(blk_cell BK342.out 0).trans rfl, (blk_cell BK342.out 1).trans rfl⟩ (fun hHeld => ?_); clear hK K; refine norm_ (a' := ?_) ?_ ?_; rotate_left
       ·
        show Act.put _ (some 69) _ = _
        simp only [Act.put, List.setIfInBounds_toArray, List.set_cons_zero, List.set_cons_succ, i64_w, i32_w]; rfl
       exact norm_ (by simp only [putAll, Act.put, List.setIfInBounds_toArray, List.set_cons_zero, List.set_cons_succ]) (hCont (.slice (some ado89) y362.length co89, ado89) _ ⟨hHeld, (rU (Kd.R_mono HO364.out (fun _ hk => hk.2))), (qU (Kd.Q_mono HO_Z1.out (fun _ hk => hk.2))), ⟨_, rfl⟩, (kU BK336.out), (kU BK342.out), z5_3, z5_0, z5_2⟩)
     rintro ⟨v363, adz_v363⟩ w90 ⟨hS_, h0_, h1_, h2_, h3_, h4_, h5_, h6_, h7_⟩; have n0 : Aside0 (Kd.R (Kd.int .i64) 3 w90 w.heap.size (fun k_ => oV k_ uZ1) v363 y362) := ⟨h0_⟩; have n1 : Aside0 (Kd.Q (Kd.int .i64) 3 w90 w.heap.size (fun k_ => oV k_ v363) uZ1 xZ1_1) := ⟨h1_⟩; have n2 : Aside0 (∃ c_, (v363 : Value) = .slice (some adz_v363) y362.length c_) := ⟨h2_⟩; have n3 : Aside0 (w90.heap[gb336]? = some (.cells #[.string (⟨#[]⟩ : ByteArray), .slice none 0 0] 25 (0, 0))) := ⟨h3_⟩; have n4 : Aside0 (w90.heap[gb342]? = some (.cells #[.string xZ0_1, uZ1] 25 (0, 0))) := ⟨h4_⟩; have n5 : Aside0 (IsS104 w0 w90 g s0_0 t366) := ⟨h5_⟩; have n6 : Aside0 (KeepBut w w90 g none) := ⟨h6_⟩; have n7 : Aside0 (Below w0.heap.size w0 w90) := ⟨h7_⟩; clear HO_Z1 BK336 BK342 HI0 HK HB h0_ h1_ h2_ h3_ h4_ h5_ h6_ h7_; have HO364 := n0; have HO_Z1 := n1; have HA_HO364 := n2; have BK336 := n3; have BK342 := n4; have HI0 := n5; have HK := n6; have HB := n7; clear n0 n1 n2 n3 n4 n5 n6 n7; have hHeld : w90.cell? ⟨gb342, 0, none⟩ = some (.string xZ0_1) ∧ w90.cell? ⟨gb342, 1, none⟩ = some (uZ1) := hS_; obtain ⟨co91, eo91⟩ := HA_HO364.out; clear HA_HO364; subst eo91; have p80 : 0 ≤ (0 : Int) := (by omega); have q80 : (0 : Int) < ((xZ1_1.length : Int) : Int) := oA; have qi80 : (0 < xZ1_1.length) = True := eq_true (by omega); obtain ⟨go80, oo80, co80, eo80, gb80, gl80, cl80, HG80⟩ := Kd.Q_form HO_Z1.out (by omega); (first | cases eo80 | (injection eo80 with ea_ en_ ec_; (first | subst ea_ | (injection ea_ with ea_; subst ea_)); subst ec_; clear en_)); have GB80 := Az gb80; have GG80 := Az HG80; clear gb80 gl80 HG80; obtain ⟨hx80_0, hf80_0⟩ := Kd.Q_cell 0 HO_Z1.out (0 : Int) p80 q80; rw [show ((0 : Int)).toNat = 0 from rfl] at hx80_0; rw [show ((0 : Int)).toNat = 0 from rfl] at hf80_0; replace p80 := eq_true p80; replace q80 := eq_true q80; have HN0_go80 := Az (show g ≠ go80 from by have h_ := IsS104.own_neQ HI0.out HO_Z1.out (by decide); intro e_; exact h_ (by rw [e_]; rfl)); have HP92 := (Kd.Q_putg HO_Z1.out (0 : Int) (by omega) (by have h_ : (0 : Int) < ((xZ1_1.length : Int) : Int) := oA; first | exact h_ | (have e_ := (Kd.Q_reads' HO_Z1.out).1; omega) | simpa using h_) (rd y362 t365)).1; rw [← Ny368.out] at HP92; have HQ92 := Az HP92; clear HP92; refine norm_ (a' := ?_) ?_ ?_; rotate_left
     · simp only [putAll, Act.put, List.setIfInBounds_toArray, List.set_cons_zero, List.set_cons_succ]; rfl
     refine pure_ (i := 5) (N := some 72) (v := ?_) (a' := ?_) (bv 9 63) rfl rfl (any_of HT_.out (by kernel_rfl)) (fun _ _ _ h => h) (Or.inl ⟨by rfl, ?_⟩) ?_ ?_; rotate_left; (exact yP); rotate_left; (exact aP); refine one_ (i := 6) (N := some 73) (bv 9 127) rfl rfl (one_of HT_.out (by kernel_rfl)) (by decide) (fun K hK => ?_)
     (have p367 : 0 ≤ (t365 : Int) := oA; have q367 : t365 < (y362.length : Int) := oA; obtain ⟨ad367, e367, hx367_0⟩ := Kd.at_int (Kd.R_reads' HO364.out).2.2 t365 p367 q367; obtain rfl : adz_v363 = ad367 := (by injection e367))
     refine value_ (w1 := ?_) (v := ?_) (by rfl) rfl ?_ ?_; rotate_left 2
     ·
      go_simp
      constructor
      · rfl
      · rfl
     clear hx367_0; refine hK.out _ _ ⟨(blk_cell BK342.out 0).trans rfl, (blk_cell BK342.out 1).trans rfl⟩ (fun hHeld => ?_); clear hK K; refine norm_ (a' := ?_) ?_ ?_; rotate_left
     ·
      show Act.put _ (some 73) _ = _
      simp only [Act.put, List.setIfInBounds_toArray, List.set_cons_zero, List.set_cons_succ, i64_w, i32_w]; rfl
     refine pure_ (i := 7) (N := some 74) (v := ?_) (a' := ?_) (bv 9 255) rfl rfl (any_of HT_.out (by kernel_rfl)) (fun _ _ _ h => h) (Or.inl ⟨by rfl, ?_⟩) ?_ ?_; rotate_left; (exact yP); rotate_left; (exact aP); refine last_ (i := 8) (N := none) (bv 9 511) rfl rfl (one_of HT_.out (by kernel_rfl)) (by decide) (fun K hK => ?_); (obtain ⟨hyS_, hzS_⟩ := Kd.Q_cell 0 HO_Z1.out 0 (by omega) (oA); simp only [Int.toNat_zero, Nat.add_zero] at hyS_ hzS_); refine skip_ (w1 := ?_) (by rfl) rfl ?_ ?_; rotate_left
     · go_simp; rfl
     refine hK.out _ _ ?_; clear hK K; refine done_ (done_of HT_.out (by kernel_rfl)) ?_; have n0 : Aside0 (Kd.Q (Kd.int .i64) 3 (w90.setCell ⟨go80, oo80 + (0 : Int).toNat, none⟩ (.int .i64 (rd y362 t365))) w.heap.size (fun k_ => some k_ ≠ (.slice (some adz_v363) y362.length co91 : Value).ownBlock) (.slice (some ⟨go80, oo80, none⟩) xZ1_1.length co80) y368) := ⟨qU HQ92.out⟩; have n1 : Aside0 (Kd.R (Kd.int .i64) 3 (w90.setCell ⟨go80, oo80 + (0 : Int).toNat, none⟩ (.int .i64 (rd y362 t365))) w.heap.size (fun k_ => oS k_ (some ⟨go80, oo80, none⟩) xZ1_1.length co80) (.slice (some adz_v363) y362.length co91) y362) := ⟨rM (Kd.R_far (p := ⟨go80, oo80 + (0 : Int).toNat, none⟩) (Kd.R_mono HO364.out (fun k_ hk => (⟨hk, fun e_ => hk (by rw [e_]; rfl)⟩ : _ ∧ k_ ≠ go80))) (fun _ hk => hk.2) (.int .i64 (rd y362 t365)))⟩; have n2 : Aside0 ((w90.setCell ⟨go80, oo80 + (0 : Int).toNat, none⟩ (.int .i64 (rd y362 t365))).heap[gb336]? = some (.cells #[.string (⟨#[]⟩ : ByteArray), .slice none 0 0] 25 (0, 0))) := ⟨by (with_reducible repeat (first | refine blk_drewN ?_ _ | refine blk_drew ?_ | refine blk_alloc ?_ _)); refine blk_far ?_ (by have h_ := Kd.Q_ne HO_Z1.out BK336.out (by decide); intro e_; exact h_ (by rw [e_]; rfl)) _; (with_reducible repeat (first | refine blk_drewN ?_ _ | refine blk_drew ?_ | refine blk_alloc ?_ _)); exact BK336.out⟩; have n3 : Aside0 ((w90.setCell ⟨go80, oo80 + (0 : Int).toNat, none⟩ (.int .i64 (rd y362 t365))).heap[gb342]? = some (.cells #[.string xZ0_1, .slice (some ⟨go80, oo80, none⟩) xZ1_1.length co80] 25 (0, 0))) := ⟨by (with_reducible repeat (first | refine blk_drewN ?_ _ | refine blk_drew ?_ | refine blk_alloc ?_ _)); refine blk_far ?_ (by have h_ := Kd.Q_ne HO_Z1.out BK342.out (by decide); intro e_; exact h_ (by rw [e_]; rfl)) _; (with_reducible repeat (first | refine blk_drewN ?_ _ | refine blk_drew ?_ | refine blk_alloc ?_ _)); exact BK342.out⟩; have n4 : Aside0 (IsS104 w0 (w90.setCell ⟨go80, oo80 + (0 : Int).toNat, none⟩ (.int .i64 (rd y362 t365))) g s0_0 t366) := ⟨by repeat (first | (with_reducible first | exact HI0.out | apply IsS104.alloc | apply IsS104.drewN | apply IsS104.drew | apply IsS104.set_1 | refine IsS104.far ?_ HN0_go80.out _ | refine IsS104.far ?_ NB0_336.out _ | refine IsS104.far ?_ NB0_342.out _) | exact HI0.out)⟩; have n5 : Aside0 (KeepBut w (w90.setCell ⟨go80, oo80 + (0 : Int).toNat, none⟩ (.int .i64 (rd y362 t365))) g none) := ⟨by repeat (first | (with_reducible first | exact HK.out | apply KeepBut.set_ | apply keep_drewN | apply keep_drew | apply keep_alloc | refine keep_far ?_ GB80.out _ | refine keep_far ?_ GW336.out _ | refine keep_far ?_ GW342.out _) | exact HK.out)⟩; have n6 : Aside0 (Below w0.heap.size w0 (w90.setCell ⟨go80, oo80 + (0 : Int).toNat, none⟩ (.int .i64 (rd y362 t365)))) := ⟨by repeat (first | (with_reducible first | exact HB.out | apply below_alloc | apply pw_below_drewN | apply below_drew1 | refine below_set ?_ (Nat.le_trans HL.out GB80.out) | refine below_set ?_ (IsS104.ge HI0.out) | refine below_set ?_ GE336.out | refine below_set ?_ GE342.out) | exact HB.out)⟩; simp only [Int.toNat_zero, Nat.add_zero] at n0 n1 n2 n3 n4 n5 n6; generalize (w90.setCell ⟨go80, oo80, none⟩ (.int .i64 (rd y362 t365))) = w93 at n0 n1 n2 n3 n4 n5 n6 ⊢; have HO_Z1 := n0; have HO364 := n1; have BK336 := n2; have BK342 := n3; have HI0 := n4; have HK := n5; have HB := n6; clear n0 n1 n2 n3 n4 n5 n6; have hz94 := bc2 BK342.out; have hnb95 := NB336_0.out; have hnc95 := NB0_336.out; have hz96 := bc2 BK336.out
     try go_wp2
     refine bodyPost_ret (results_cell_row rfl _ _ gb336 25 #[.string xZ0_1, .slice (some ⟨go80, oo80, none⟩) xZ1_1.length co80] (0, 0) _ rfl z5_6 Try.underlying25 rfl (by kernel_rfl)) rfl ?_; exact ⟨_, rE, by (with_reducible repeat (first | apply Kd.Q_alloc | apply Kd.Q_drewN | apply Kd.Q_drew)); exact Kd.Q_mono (Kd.Q_far (p := ⟨gb336, 1, none⟩) (Kd.Q_far (p := ⟨gb336, 0, none⟩) (Kd.Q_types HO_Z1.out BK336.out (by decide)) (fun _ hk => hk.2) (.string xZ0_1)) (fun _ hk => hk.2) (.slice (some ⟨go80, oo80, none⟩) xZ1_1.length co80)) (fun _ hk => trivial), by repeat (first | (with_reducible first | exact HI0.out | apply IsS104.alloc | apply IsS104.drewN | apply IsS104.drew | apply IsS104.set_1 | refine IsS104.far ?_ NB0_336.out _ | refine IsS104.far ?_ NB0_342.out _) | exact HI0.out), by repeat (first | (with_reducible first | exact HB.out | apply below_alloc | apply pw_below_drewN | apply below_drew1 | refine below_set ?_ (IsS104.ge HI0.out) | refine below_set ?_ GE336.out | refine below_set ?_ GE342.out) | exact HB.out), by repeat (first | (with_reducible first | exact HK.out | apply KeepBut.set_ | apply keep_drewN | apply keep_drew | apply keep_alloc | refine keep_far ?_ GW336.out _ | refine keep_far ?_ GW342.out _) | exact HK.out)⟩
    ·
     replace H := gQ H; rcases H with ⟨c97b0, c97b1, H⟩ | ⟨c97b0, c97b1, H⟩
     ·
      replace H := gE H; obtain ⟨c98b0, c98b1, H⟩ := H; generalize Ny369 : (xZ1_1.drop (1 : Int).toNat : List Int) = y369 at H; replace Ny369 := Ay Ny369; simp only [Option.some.injEq, Prod.mk.injEq] at H; obtain ⟨rfl, rfl, rfl⟩ := H; have hnb99 := nP NB336_342; have hnb100 := NB342_0.out; have hnc100 := NB0_342.out; have hz101 := bc2 BK342.out
      go_wp2_with (first | ((with_reducible refine gK 79 rfl ?_); refine gC (some 55) Try.func79 #[.pointer (some ⟨g, 0, none⟩), .int .i64 40] ?_; (with_reducible refine (spec_l6Rd_pick.calls k1 g s0_0 x1001_1 40 t355 t356 w0 _ ?side1 ?side2 A57.out).mono ?_); (case side1 => repeat (first | (with_reducible first | exact HI0.out | apply IsS104.alloc | apply IsS104.drewN | apply IsS104.drew | apply IsS104.set_1 | refine IsS104.far ?_ NB0_336.out _ | refine IsS104.far ?_ NB0_342.out _) | exact HI0.out)); (case side2 => repeat (first | (with_reducible first | exact HB.out | apply below_alloc | apply pw_below_drewN | apply below_drew1 | refine below_set ?_ (IsS104.ge HI0.out) | refine below_set ?_ GE336.out | refine below_set ?_ GE342.out) | exact HB.out)); rintro e w102 ⟨rfl, hi, hb, hk⟩; refine ⟨_, rfl, ?_⟩; replace HO_Z1 := Az (Kd.Q_mono (Kd.Q_keep (IsS104.apartQ (show IsS104 w0 _ g s0_0 x1001_1 from by repeat (first | (with_reducible first | exact HI0.out | apply IsS104.alloc | apply IsS104.drewN | apply IsS104.drew | apply IsS104.set_1 | refine IsS104.far ?_ NB0_336.out _ | refine IsS104.far ?_ NB0_342.out _) | exact HI0.out)) (qU HO_Z1.out) (by decide)) hk (fun _ h => h.2)) (fun _ h => h.1)); replace BK336 := Az z5_1; replace BK342 := Az z5_5; replace HK := Az z5_9; replace HB := Az (hb); replace HI0 := Az (hi); clear hb hk hi; have hz103 := bc2 BK342.out; obtain ⟨Ao104, co104, eo104, _⟩ := Kd.Q_slice HO_Z1.out; subst eo104; have q105 : (1 : Int) ≤ ((xZ1_1.length : Int) : Int) := oA; obtain ⟨i0105, hi0105, _, hsz105, _⟩ := info_parts info3; have hcut105 := cut_from (P := Try.prog) 23 3 .i64 Try.underlying23 hi0105 1 hsz105 Ao104 xZ1_1.length co104 1 (by omega) q105; have hr105 := Kd.Q_drop (k := (1 : Int).toNat) HO_Z1.out (by omega); obtain ⟨A105, hA105⟩ : ∃ A1, A1 = (if co104 = (1 : Int).toNat then Ao104 else (Ao104 : Option Addr).map (·.add ((1 : Int).toNat * 1))) := ⟨_, rfl⟩; obtain ⟨c105, hc105⟩ : ∃ c1, c1 = co104 - (1 : Int).toNat := ⟨_, rfl⟩; have hy105 : y369.length = xZ1_1.length - (1 : Int).toNat := (by rw [Ny369.out, List.length_drop]); rw [← Ny369.out] at hr105; rw [← hy105, ← hA105, ← hc105] at hcut105; replace hr105 : Kd.Q (Kd.int .i64) 3 w102 w.heap.size (fun _ => True) (.slice A105 y369.length c105) y369 := (by rw [hA105, hc105, hy105]; exact hr105); have HE105 : Aside0 ((Value.slice A105 y369.length c105).ownBlock = (.slice Ao104 xZ1_1.length co104 : Value).ownBlock) := ⟨by rw [hA105]; split <;> (cases (Ao104 : Option Addr) <;> rfl)⟩; clear hy105 hi0105 hsz105 HO_Z1 hA105 hc105; have HO371 := Az hr105; clear hr105; replace q105 := eq_true q105; have hnb106 := NB336_0.out; have hnc106 := NB0_336.out; have hz107 := bc2 BK336.out))
      refine bodyPost_ret (results_cell_row rfl _ _ gb336 25 #[.string xZ0_1, .slice A105 y369.length c105] (0, 0) _ rfl (by (with_reducible repeat (first | refine blk_drewN ?_ _ | refine blk_drew ?_ | refine blk_alloc ?_ _)); refine blk_put (cs := #[.string xZ0_1, .slice none 0 0]) ?_ 1 _ rfl; (with_reducible repeat (first | refine blk_drewN ?_ _ | refine blk_drew ?_ | refine blk_alloc ?_ _)); refine blk_put (cs := #[.string (⟨#[]⟩ : ByteArray), .slice none 0 0]) ?_ 0 _ rfl; (with_reducible repeat (first | refine blk_drewN ?_ _ | refine blk_drew ?_ | refine blk_alloc ?_ _)); refine blk_far ?_ NB336_342.out _; (with_reducible repeat (first | refine blk_drewN ?_ _ | refine blk_drew ?_ | refine blk_alloc ?_ _)); exact BK336.out) Try.underlying25 rfl (by kernel_rfl)) rfl ?_; exact ⟨_, rE, by (with_reducible repeat (first | apply Kd.Q_alloc | apply Kd.Q_drewN | apply Kd.Q_drew)); exact Kd.Q_mono (Kd.Q_far (p := ⟨gb336, 1, none⟩) (Kd.Q_far (p := ⟨gb336, 0, none⟩) (Kd.Q_far (p := ⟨gb342, 1, none⟩) (Kd.Q_types (Kd.Q_types HO371.out BK342.out (by decide)) BK336.out (by decide)) (fun _ hk => hk.1.2) (.slice A105 y369.length c105)) (fun _ hk => hk.2) (.string xZ0_1)) (fun _ hk => hk.2) (.slice A105 y369.length c105)) (fun _ hk => trivial), by repeat (first | (with_reducible first | exact HI0.out | apply IsS104.alloc | apply IsS104.drewN | apply IsS104.drew | apply IsS104.set_1 | refine IsS104.far ?_ NB0_336.out _ | refine IsS104.far ?_ NB0_342.out _) | exact HI0.out), by repeat (first | (with_reducible first | exact HB.out | apply below_alloc | apply pw_below_drewN | apply below_drew1 | refine below_set ?_ (IsS104.ge HI0.out) | refine below_set ?_ GE336.out | refine below_set ?_ GE342.out) | exact HB.out), by repeat (first | (with_reducible first | exact HK.out | apply KeepBut.set_ | apply keep_drewN | apply keep_drew | apply keep_alloc | refine keep_far ?_ GW336.out _ | refine keep_far ?_ GW342.out _) | exact HK.out)⟩
     ·
      simp only [Option.some.injEq, Prod.mk.injEq] at H; obtain ⟨rfl, rfl, rfl⟩ := H; have hnb108 := nP NB336_342; have hnb109 := NB342_0.out; have hnc109 := NB0_342.out; have hz110 := bc2 BK342.out
      go_wp2_with (first | ((with_reducible refine gK 79 rfl ?_); refine gC (some 55) Try.func79 #[.pointer (some ⟨g, 0, none⟩), .int .i64 40] ?_; (with_reducible refine (spec_l6Rd_pick.calls k1 g s0_0 x1001_1 40 t355 t356 w0 _ ?side1 ?side2 A57.out).mono ?_); (case side1 => repeat (first | (with_reducible first | exact HI0.out | apply IsS104.alloc | apply IsS104.drewN | apply IsS104.drew | apply IsS104.set_1 | refine IsS104.far ?_ NB0_336.out _ | refine IsS104.far ?_ NB0_342.out _) | exact HI0.out)); (case side2 => repeat (first | (with_reducible first | exact HB.out | apply below_alloc | apply pw_below_drewN | apply below_drew1 | refine below_set ?_ (IsS104.ge HI0.out) | refine below_set ?_ GE336.out | refine below_set ?_ GE342.out) | exact HB.out)); rintro e w111 ⟨rfl, hi, hb, hk⟩; refine ⟨_, rfl, ?_⟩; replace HO_Z1 := Az (Kd.Q_mono (Kd.Q_keep (IsS104.apartQ (show IsS104 w0 _ g s0_0 x1001_1 from by repeat (first | (with_reducible first | exact HI0.out | apply IsS104.alloc | apply IsS104.drewN | apply IsS104.drew | apply IsS104.set_1 | refine IsS104.far ?_ NB0_336.out _ | refine IsS104.far ?_ NB0_342.out _) | exact HI0.out)) (qU HO_Z1.out) (by decide)) hk (fun _ h => h.2)) (fun _ h => h.1)); replace BK336 := Az z5_1; replace BK342 := Az z5_5; replace HK := Az z5_9; replace HB := Az (hb); replace HI0 := Az (hi); clear hb hk hi; have hz112 := bc2 BK342.out; have hnb113 := NB336_0.out; have hnc113 := NB0_336.out; have hz114 := bc2 BK336.out; obtain ⟨Ao115, co115, eo115, _⟩ := Kd.Q_slice HO_Z1.out; subst eo115))
      refine bodyPost_ret (results_cell_row rfl _ _ gb336 25 #[.string xZ0_1, .slice Ao115 xZ1_1.length co115] (0, 0) _ rfl z5_6 Try.underlying25 rfl (by kernel_rfl)) rfl ?_; exact ⟨_, rE, by (with_reducible repeat (first | apply Kd.Q_alloc | apply Kd.Q_drewN | apply Kd.Q_drew)); exact Kd.Q_mono (Kd.Q_far (p := ⟨gb336, 1, none⟩) (Kd.Q_far (p := ⟨gb336, 0, none⟩) (Kd.Q_types HO_Z1.out BK336.out (by decide)) (fun _ hk => hk.2) (.string xZ0_1)) (fun _ hk => hk.2) (.slice Ao115 xZ1_1.length co115)) (fun _ hk => trivial), by repeat (first | (with_reducible first | exact HI0.out | apply IsS104.alloc | apply IsS104.drewN | apply IsS104.drew | apply IsS104.set_1 | refine IsS104.far ?_ NB0_336.out _ | refine IsS104.far ?_ NB0_342.out _) | exact HI0.out), by repeat (first | (with_reducible first | exact HB.out | apply below_alloc | apply pw_below_drewN | apply below_drew1 | refine below_set ?_ (IsS104.ge HI0.out) | refine below_set ?_ GE336.out | refine below_set ?_ GE342.out) | exact HB.out), by repeat (first | (with_reducible first | exact HK.out | apply KeepBut.set_ | apply keep_drewN | apply keep_drew | apply keep_alloc | refine keep_far ?_ GW336.out _ | refine keep_far ?_ GW342.out _) | exact HK.out)⟩
def spec_l6Open.f (l0 : List Int) : Option (List Int × Int) := if (l0.length : Int) > 2000 then (if 2000 ≤ (l0.length : Int) then (some (l0.take 2000, 0)) else (none)) else (some (l0, 0))
set_option maxHeartbeats 8000000 in
set_option maxRecDepth 100000 in
theorem spec_l6Open.calls (A0 : Option Addr) (c0 : Nat) (l0 : List Int) (r1 : List Int) (r2 : Int) (w0 w : World) (hB : Below w0.heap.size w0 w) (hr0 : Kd.C (Kd.int .u8) w0 A0 l0.length l0) (hc0 : l0.length ≤ c0) (h : spec_l6Open.f l0 = some (r1, r2)) :
  Calls Try.prog 62 #[.slice A0 l0.length c0] w fun e w' => ∃ g_ : Nat, e = .returned (.pointer (some ⟨g_, 0, none⟩)) ∧ IsS104 w0 w' g_ r1 r2 ∧ Below w0.heap.size w0 w' ∧ Below w.heap.size w w' := by
 have hu104 := Try.underlying104; have HR0 := Az hr0; have HC0 := Az hc0; clear hr0 hc0; have HBW := bZ w; have HW0 := Az hB.size; have HB := Az hB; clear hB; have H := h; clear h; unfold spec_l6Open.f at H
 by_cases c2 : (l0.length : Int) > 2000
 ·
  rw [if_pos c2] at H; have c2b0 := decide_eq_true c2; have c2b1 : decide (2000 < l0.length) = true := decide_eq_true (by omega); clear c2; replace H := gE H; obtain ⟨c3b0, c3b1, H⟩ := H; simp only [Option.some.injEq, Prod.mk.injEq] at H; obtain ⟨rfl, rfl⟩ := H; obtain ⟨i04, hi04, _, hsz4, _⟩ := info_parts info5; obtain ⟨hcut4, hA4, hC4⟩ := print_take_of (P := Try.prog) (Value.int .u8) 0 22 5 .i64 Try.underlying22 hi04 hsz4 A0 c0 l0 2000 (by omega) (oA) HC0.out; have HR372 := Az (Kd.C_of_reads (h1 := fun _ => rfl) (hA4 _ (Kd.reads_of_C HR0.out))); have HC372 := Az hC4; clear hA4 hC4 hi04 hsz4; go_enter Try.func62, Try.ntmps62
  go_wp2_with (first | ((with_reducible refine gd 10 rfl ?_); refine bE 10 #[.slice A0 (l0.take 2000).length c0, .int .i64 0] 104 ?_; intro gb373 hg w5 hbox hb; replace HB := Az (below_step (bU0 HB.out) hb); have BK373 := Az (hbox); have GW373 := Az ((by rw [hg]; exact z5_7 : w.heap.size ≤ gb373)); have GE373 := Az ((Nat.le_trans HW0.out (by rw [hg]; exact z5_7 : w.heap.size ≤ gb373) : w0.heap.size ≤ gb373)); replace HBW := Az (below_step HBW.out hb); clear hb hbox hg))
  go_ret; exact ⟨_, rfl, (show IsS104 w0 _ gb373 (l0.take 2000) 0 from ⟨_, _, kU BK373.out, GE373.out, HR372.out⟩), bU1 HB.out GE373.out, by repeat (first | (with_reducible first | exact HBW.out | apply below_alloc | apply pw_below_drewN | apply below_drew1 | refine below_set ?_ GW373.out) | exact HBW.out)⟩
 ·
  rw [if_neg c2] at H; have c2b0 := decide_eq_false c2; have c2b1 : decide (2000 < l0.length) = false := decide_eq_false (by omega); clear c2; simp only [Option.some.injEq, Prod.mk.injEq] at H; obtain ⟨rfl, rfl⟩ := H; go_enter Try.func62, Try.ntmps62
  go_wp2_with (first | ((with_reducible refine gd 10 rfl ?_); refine bE 10 #[.slice A0 l0.length c0, .int .i64 0] 104 ?_; intro gb374 hg w6 hbox hb; replace HB := Az (below_step (bU0 HB.out) hb); have BK374 := Az (hbox); have GW374 := Az ((by rw [hg]; exact z5_7 : w.heap.size ≤ gb374)); have GE374 := Az ((Nat.le_trans HW0.out (by rw [hg]; exact z5_7 : w.heap.size ≤ gb374) : w0.heap.size ≤ gb374)); replace HBW := Az (below_step HBW.out hb); clear hb hbox hg))
  go_ret; exact ⟨_, rfl, (show IsS104 w0 _ gb374 l0 0 from ⟨_, _, kU BK374.out, GE374.out, HR0.out⟩), bU1 HB.out GE374.out, by repeat (first | (with_reducible first | exact HBW.out | apply below_alloc | apply pw_below_drewN | apply below_drew1 | refine below_set ?_ GW374.out) | exact HBW.out)⟩
def spec_DrawTreeQuad.f (k : Nat) (l0 : List Int) : Option (ByteArray × List Int) := (spec_l6Open.f l0).bind fun bt376 => ((spec_l92Tree.f k bt376.1 bt376.2 3).bind fun bt379 => (some (bt379.1, bt379.2.1)))
set_option maxHeartbeats 8000000 in
set_option maxRecDepth 100000 in
theorem spec_DrawTreeQuad.calls (k : Nat) (A0 : Option Addr) (c0 : Nat) (l0 : List Int) (r1 : ByteArray) (r2 : List Int) (w : World) (hr0 : Kd.C (Kd.int .u8) w A0 l0.length l0) (hc0 : l0.length ≤ c0) (h : spec_DrawTreeQuad.f k l0 = some (r1, r2)) :
  Calls Try.prog 44 #[.slice A0 l0.length c0] w fun e w' => ∃ v1_ : Value, e = .returned (.agg #[.string r1, v1_]) ∧ Kd.Q (Kd.int .i64) 3 w' w.heap.size (fun _ => True) v1_ r2 ∧ Below w.heap.size w w' := by
 have hu25 := Try.underlying25; have HR0 := Az hr0; have HC0 := Az hc0; clear hr0 hc0; have HB := bZ w; have H := h; clear h; unfold spec_DrawTreeQuad.f at H; replace H := bd H; obtain ⟨⟨t376, t377⟩, A2, H⟩ := H; dsimp only at H; replace H := bd H; obtain ⟨⟨t379, t380, t383⟩, A3, H⟩ := H; dsimp only at H; simp only [Option.some.injEq, Prod.mk.injEq] at H; obtain ⟨rfl, rfl⟩ := H; go_enter Try.func44, Try.ntmps44
 go_wp2_with (first | ((with_reducible refine gd 2 rfl ?_); refine bE 2 #[.string (⟨#[]⟩ : ByteArray), .slice none 0 0] 25 ?_; intro gb375 hg w4 hbox hb; have BK375 := Az (hbox); have GW375 := gW hg (bU0 HB.out); replace HB := Az (below_step (bU0 HB.out) hb); clear hb hbox hg) | ((with_reducible refine gK 62 rfl ?_); refine gC (some 4) Try.func62 #[.slice A0 l0.length c0] ?_; (with_reducible refine (spec_l6Open.calls _ _ l0 t376 t377 w _ ?side1 ?side2 ?side3 A2.out).mono ?_); (case side1 => repeat (first | (with_reducible first | exact HB.out | apply below_alloc | apply pw_below_drewN | apply below_drew1 | refine below_set ?_ GW375.out) | exact HB.out)); (case side2 => exact HR0.out); (case side3 => exact HC0.out); rintro e w5 ⟨g378, rfl, hi, hb, hb2⟩; refine ⟨_, rfl, ?_⟩; replace HB := Az (hb); have HI378 := Az (hi); have NB378_375 := Az (IsS104.ne_blk hi z5_10 (by decide)); have NB375_378 := Az (Ne.symm (IsS104.ne_blk hi z5_10 (by decide))); replace BK375 := Az z5_10; clear hb hb2 hi) | ((with_reducible refine gK 61 rfl ?_); refine gC (some 5) Try.func61 #[.pointer (some ⟨g378, 0, none⟩), .int .i64 3] ?_; (with_reducible refine (spec_l92Tree.calls k g378 t376 t377 3 t379 t380 t383 w _ ?side1 ?side2 A3.out).mono ?_); (case side1 => repeat (first | (with_reducible first | exact HI378.out | apply IsS104.alloc | apply IsS104.drewN | apply IsS104.drew | apply IsS104.set_1 | refine IsS104.far ?_ NB378_375.out _) | exact HI378.out)); (case side2 => repeat (first | (with_reducible first | exact HB.out | apply below_alloc | apply pw_below_drewN | apply below_drew1 | refine below_set ?_ (IsS104.ge HI378.out) | refine below_set ?_ GW375.out) | exact HB.out)); rintro e w6 ⟨v381, rfl, ho0, hi, hb, hk⟩; refine ⟨_, rfl, ?_⟩; replace BK375 := Az (KeepBut.blk hk (g' := gb375) (o := .cells #[.string (⟨#[]⟩ : ByteArray), .slice none 0 0] 25 (0, 0)) (kU BK375.out) NB375_378.out (by simp)); have HO382 := Az (Kd.Q_lower ho0 (below_size (by repeat (first | (with_reducible first | exact HB.out | apply below_alloc | apply pw_below_drewN | apply below_drew1 | refine below_set ?_ (IsS104.ge HI378.out) | refine below_set ?_ GW375.out) | exact HB.out)))); replace HB := Az (hb); replace HI378 := Az (hi); clear hb hk hi ho0; have hnb7 := NB375_378.out; have hnc7 := NB378_375.out; have hz8 := bc2 BK375.out; obtain ⟨Ao9, co9, eo9, _⟩ := Kd.Q_slice HO382.out; subst eo9))
 refine bodyPost_ret (results_cell_row rfl _ _ gb375 25 #[.string t379, .slice Ao9 t380.length co9] (0, 0) _ rfl (by (with_reducible repeat (first | refine blk_drewN ?_ _ | refine blk_drew ?_ | refine blk_alloc ?_ _)); refine blk_put (cs := #[.string t379, .slice none 0 0]) ?_ 1 _ rfl; (with_reducible repeat (first | refine blk_drewN ?_ _ | refine blk_drew ?_ | refine blk_alloc ?_ _)); refine blk_put (cs := #[.string (⟨#[]⟩ : ByteArray), .slice none 0 0]) ?_ 0 _ rfl; (with_reducible repeat (first | refine blk_drewN ?_ _ | refine blk_drew ?_ | refine blk_alloc ?_ _)); exact BK375.out) Try.underlying25 rfl (by kernel_rfl)) rfl ?_; exact ⟨_, rE, by (with_reducible repeat (first | apply Kd.Q_alloc | apply Kd.Q_drewN | apply Kd.Q_drew)); exact Kd.Q_mono (Kd.Q_far (p := ⟨gb375, 1, none⟩) (Kd.Q_far (p := ⟨gb375, 0, none⟩) (Kd.Q_types HO382.out BK375.out (by decide)) (fun _ hk => hk.2) (.string t379)) (fun _ hk => hk.2) (.slice Ao9 t380.length co9)) (fun _ hk => trivial), by repeat (first | (with_reducible first | exact HB.out | apply below_alloc | apply pw_below_drewN | apply below_drew1 | refine below_set ?_ (IsS104.ge HI378.out) | refine below_set ?_ GW375.out) | exact HB.out)⟩
def impl_PermValid.l0 : Nat → List Int → List Bool → Int → Option Bool
 | 0, _, _, _ => none
 | k + 1, l, s, i => if i < (l.length : Int) then (if 0 ≤ i then (if rd l i < 0 then (some false) else (if rd l i ≥ (l.length : Int) then (some false) else (if s.getD (rd l i).toNat false = true then (some false) else (impl_PermValid.l0 k l (s.set (rd l i).toNat true) (wrap64 (i + 1)))))) else none) else (some true)
def impl_PermValid.f (k : Nat) (l0 : List Int) : Option Bool := if (l0.length : Int) < 1 then (some false) else (if (l0.length : Int) > 12 then (some false) else (impl_PermValid.l0 k l0 (List.replicate 12 false) 0))
theorem impl_PermValid.mono_l : ∀ k, (∀ y0 y1 y2, LeO (impl_PermValid.l0 k y0 y1 y2) (impl_PermValid.l0 (k + 1) y0 y1 y2))
 | 0 => fun _ _ _ r h => by simp [impl_PermValid.l0] at h
 | k + 1 => by
  have ih0 := impl_PermValid.mono_l k; intro y0 y1 y2
  unfold impl_PermValid.l0
  repeat' first
   | (with_reducible exact ih0 _ _ _)
   | (with_reducible exact LeO.refl _)
   | (with_reducible refine LeO.ite ?_ ?_)
theorem impl_PermValid.mono : ∀ a0 k, LeO (impl_PermValid.f k a0) (impl_PermValid.f (k + 1) a0) := by
 intro a0 k
 unfold impl_PermValid.f
 exact LeO.ite (LeO.refl _) (LeO.ite (LeO.refl _) (impl_PermValid.mono_l k _ _ _))
set_option maxHeartbeats 8000000 in
set_option maxRecDepth 100000 in
theorem impl_PermValid.calls (k : Nat) (A0 : Option Addr) (c0 : Nat) (l0 : List Int) (r : Bool) (w : World) (hr0 : Kd.C (Kd.int .i64) w A0 l0.length l0) (hc0 : l0.length ≤ c0) (h : impl_PermValid.f k l0 = some r) :
  Calls Try.prog 105 #[.slice A0 l0.length c0] w fun e w' => e = .returned (.bool r) ∧ Below w.heap.size w w' := by
 have HR0 := Az hr0; have HC0 := Az hc0; clear hr0 hc0; have HB := bZ w; have H := h; clear h; unfold impl_PermValid.f at H
 replace H := gB H; rcases H with ⟨c3b0, H⟩ | ⟨c3b0, H⟩
 · obtain rfl := Option.some.inj H; go_enter Try.func105, Try.ntmps105; go_wp2; go_ret; exact ⟨rfl, below_alloc HB.out _⟩
 ·
  by_cases c4 : (l0.length : Int) > 12
  · rw [if_pos c4] at H; have c4b0 := decide_eq_true c4; clear c4; obtain rfl := Option.some.inj H; go_enter Try.func105, Try.ntmps105; go_wp2; go_ret; exact ⟨rfl, below_alloc HB.out _⟩
  ·
   rw [if_neg c4] at H; have c4b0 := decide_eq_false c4
   have c4p : (l0.length : Int) ≤ 12 := by omega
   clear c4; have H' := Az H; clear H; go_enter Try.func105, Try.ntmps105; go_wp2
   go_loopg [17] k (fun kq v17 w' => ∃ (s : List Bool) (i : Int), v17 = .int .i64 i ∧ Aside0 (impl_PermValid.l0 kq l0 s i = some r) ∧ Aside0 (kq ≤ k) ∧ Aside0 (s.length = 12) ∧ Aside0 (w'.heap[w.heap.size]? = some (.cells (s.map Value.bool).toArray 110 (0, 0))) ∧ Aside0 (Below w.heap.size w w'))
   case atStart => exact ⟨List.replicate 12 false, 0, rfl, H', ⟨Nat.le_refl _⟩, ⟨rfl⟩, ⟨by simpa using heap_alloc_new w _⟩, ⟨below_alloc HB.out _⟩⟩
   case round =>
    clear H'; obtain ⟨s, i, rfl, HA, HK1, HL, BK, HB⟩ := hrel
    rcases gk with _ | k1
    exact (nN HA.out).elim; have H := HA.out; clear HA; simp only [impl_PermValid.l0] at H
    by_cases c5 : i < (l0.length : Int)
    ·
     rw [if_pos c5] at H; have c5b0 := decide_eq_true c5; replace H := gP H; obtain ⟨c6, H⟩ := H; have c6b0 := decide_eq_true c6; obtain ⟨ad, e, hx⟩ := Kd.at_int HR0.out i c6 c5
     cases e
     replace hx := (HB.out.cell (World.block_lt_of_cell? w _ hx)).trans hx; replace c6 := eq_true c6; replace c5 := eq_true c5
     by_cases c7 : rd l0 i < 0
     · rw [if_pos c7] at H; have c7b0 := decide_eq_true c7; clear c7; obtain rfl := Option.some.inj H; go_wp2; go_ret; exact ⟨rfl, HB.out⟩
     ·
      rw [if_neg c7] at H; have c7b0 := decide_eq_false c7
      have c7p : 0 ≤ rd l0 i := by omega
      clear c7
      by_cases c8 : rd l0 i ≥ (l0.length : Int)
      · rw [if_pos c8] at H; have c8b0 := decide_eq_true c8; clear c8; obtain rfl := Option.some.inj H; go_wp2; go_ret; exact ⟨rfl, HB.out⟩
      ·
       rw [if_neg c8] at H; have c8b0 := decide_eq_false c8
       have c8p : rd l0 i < 12 := by omega
       clear c8; have hcs : wr.cell? ⟨w.heap.size, (rd l0 i).toNat, none⟩ = some (.bool (s.getD (rd l0 i).toNat false)) := (blk_cell BK.out _).trans (by have hl := HL.out; simp [List.getD_eq_getElem?_getD]; rw [List.getElem?_eq_getElem (by omega)]; rfl); have hfs := blk_frozen BK.out (rd l0 i).toNat; generalize hb : s.getD (rd l0 i).toNat false = b at H hcs
       cases b with
       | true =>
        rw [if_pos rfl] at H; obtain rfl := Option.some.inj H; clear hb; go_wp2; go_ret; exact ⟨rfl, HB.out⟩
       | false =>
        rw [if_neg (by decide)] at H; have H' := Az H; clear H hb; go_wp2; go_roundg k1
        case measure => exact mO
        case rel => exact ⟨s.set (rd l0 i).toNat true, wrap64 (i + 1), rS, H', ⟨mO⟩, ⟨by rw [List.length_set]; exact HL.out⟩, ⟨by simpa using blk_set BK.out (rd l0 i).toNat (.bool true)⟩, ⟨below_set HB.out (Nat.le_refl _)⟩⟩
    · rw [if_neg c5] at H; have c5b0 := decide_eq_false c5; clear c5; obtain rfl := Option.some.inj H; go_wp2; go_ret; exact ⟨rfl, HB.out⟩
def slices_Max_int_int.l0 : Nat → List Int → Int → Int → Option (Int)
 | 0, _, _, _ => none
 | k + 1, x0, x3, x4 => if x4 < (x0.length : Int) then (if 0 ≤ x4 then (slices_Max_int_int.l0 k x0 (mx x3 (rd x0 x4)) (wrap64 (x4 + 1))) else (none)) else (some x3)
def slices_Max_int_int.f (k : Nat) (l0 : List Int) : Option (Int) := if (l0.length : Int) < 1 then (none) else (if 0 < (l0.length : Int) then (slices_Max_int_int.l0 k l0 (rd l0 0) 1) else (none))
theorem slices_Max_int_int.mono_l : ∀ k, (∀ y0 y1 y2, LeO (slices_Max_int_int.l0 k y0 y1 y2) (slices_Max_int_int.l0 (k + 1) y0 y1 y2))
 | 0 => fun _ _ _ r h => by simp [slices_Max_int_int.l0] at h
 | k + 1 => by
  have ih0 := slices_Max_int_int.mono_l k
  ·
   intro y0 y1 y2
   unfold slices_Max_int_int.l0
   repeat' first
   | (with_reducible exact ih0 _ _ _)
   | (with_reducible exact LeO.refl _)
   | (with_reducible exact LeO.none _)
   | (with_reducible refine LeO.ite ?_ ?_)
   | (with_reducible refine LeO.bind ?_ (fun _ => ?_))
   | exact ih0 _ _ _
   | exact LeO.none _
   | refine LeO.ite ?_ ?_
   | refine LeO.bind ?_ (fun _ => ?_)
theorem slices_Max_int_int.mono : ∀ a0 k, LeO (slices_Max_int_int.f k a0) (slices_Max_int_int.f (k + 1) a0) := by
 intro a0 k; have ih0 := slices_Max_int_int.mono_l k
 unfold slices_Max_int_int.f
 repeat' first
   | (with_reducible exact ih0 _ _ _)
   | (with_reducible exact LeO.refl _)
   | (with_reducible exact LeO.none _)
   | (with_reducible refine LeO.ite ?_ ?_)
   | (with_reducible refine LeO.bind ?_ (fun _ => ?_))
   | exact ih0 _ _ _
   | exact LeO.none _
   | refine LeO.ite ?_ ?_
   | refine LeO.bind ?_ (fun _ => ?_)
set_option maxHeartbeats 8000000 in
set_option maxRecDepth 100000 in
theorem slices_Max_int_int.calls (k : Nat) (A0 : Option Addr) (c0 : Nat) (l0 : List Int) (r : Int) (w : World) (hr0 : Kd.C (Kd.int .i64) w A0 l0.length l0) (hc0 : l0.length ≤ c0) (h : slices_Max_int_int.f k l0 = some r) :
  Calls Try.prog 106 #[.slice A0 l0.length c0] w fun e w' => e = .returned (.int .i64 r) ∧ Below w.heap.size w w' := by
 have HR0 := Az hr0; have HC0 := Az hc0; clear hr0 hc0; have HB := bZ w; have H := h; clear h; unfold slices_Max_int_int.f at H
 by_cases c2 : (l0.length : Int) < 1
 · rw [if_pos c2] at H; exact absurd H (by simp)
 ·
  rw [if_neg c2] at H; have c2b0 := decide_eq_false c2; have c2b1 : decide (l0.length < 1) = false := decide_eq_false (by omega); clear c2; replace H := gP H; obtain ⟨c3, H⟩ := H; have c3b0 := decide_eq_true c3; have c3b1 : decide (0 < l0.length) = true := decide_eq_true (by omega); clear c3; have H' := Az H; clear H; have p395 : 0 ≤ (0 : Int) := (by omega); have q395 : 0 < (l0.length : Int) := oA; obtain ⟨ad395, e395, hx395_0⟩ := Kd.at_int HR0.out 0 p395 q395
  cases e395
  have qi395 : (0 < l0.length) = True := eq_true (by omega); rw [show ((0 : Int)).toNat = 0 from rfl] at hx395_0; rw [Addr.add_zero'] at hx395_0; replace p395 := eq_true p395; replace q395 := eq_true q395; go_enter Try.func106, Try.ntmps106; go_wp2
  go_loopg [3, 4] k (fun kq v3 v4 w' => ∃ (x3_1 : Int) (x4_1 : Int), v3 = .int .i64 x3_1 ∧ v4 = .int .i64 x4_1 ∧ Aside0 (slices_Max_int_int.l0 kq l0 x3_1 x4_1 = some r) ∧ Aside0 (kq ≤ k) ∧ Aside0 (Below w.heap.size w w'))
  case atStart => exact ⟨(rd l0 0), (1), rS, rS, H', ⟨Nat.le_refl _⟩, ⟨bU0 HB.out⟩⟩
  case round =>
   clear H'; obtain ⟨x3_1, x4_1, rfl, rfl, HA, HK1, HB⟩ := hrel
   rcases gk with _ | k1
   exact (nN HA.out).elim; have H := HA.out; clear HA; simp only [slices_Max_int_int.l0] at H
   replace H := gB H; rcases H with ⟨c4b0, H⟩ | ⟨c4b0, H⟩
   ·
    replace H := gD1 H; obtain ⟨c5b0, H⟩ := H; obtain ⟨ji6, hji6⟩ : ∃ j_ : Int, (mx x3_1 (rd l0 x4_1)) = j_ := ⟨_, rfl⟩; (first | rw [hji6] at H | simp only [hji6] at H); have hji6_ : (if x3_1 < (rd l0 x4_1) then (rd l0 x4_1) else x3_1) = ji6 := hji6; have H' := Az H; clear H; obtain ⟨_, _, hx396_0⟩ := aJ HR0.out x4_1; replace hx396_0 := hT HB.out hx396_0; go_wp2; go_roundg k1
    case measure => exact mO
    case rel => exact ⟨(ji6), (wrap64 (x4_1 + 1)), (by first | rfl | (simp; done) | (simp only [← hji6] <;> (first | rfl | simp)) | (simp [*]; done)), rS, H', ⟨mO⟩, ⟨bU0 HB.out⟩⟩
   · obtain rfl := Option.some.inj H; go_wp2; go_ret; exact ⟨rE, bU0 HB.out⟩
def impl_still.l0 : Nat → List Int → Int → Int → Option (List Int)
 | 0, _, _, _ => none
 | k + 1, x3, x8, x9 => if x9 < x8 then (if 0 ≤ x9 then (if x9 < (x3.length : Int) then (impl_still.l0 k (x3.set (x9 : Int).toNat x9) x8 (wrap64 (x9 + 1))) else (none)) else (none)) else (some x3)
def impl_still.f (k : Nat) (a0 : Int) : Option (List Int) := if 0 ≤ a0 then (if (a0 : Int).toNat ≤ 35184372088832 then ((some (List.replicate (a0 : Int).toNat 0 : List Int)).bind fun y397 => (impl_still.l0 k y397 (y397.length : Int) 0)) else (none)) else (none)
theorem impl_still.mono_l : ∀ k, (∀ y0 y1 y2, LeO (impl_still.l0 k y0 y1 y2) (impl_still.l0 (k + 1) y0 y1 y2))
 | 0 => fun _ _ _ r h => by simp [impl_still.l0] at h
 | k + 1 => by
  have ih0 := impl_still.mono_l k
  ·
   intro y0 y1 y2
   unfold impl_still.l0
   repeat' first
   | (with_reducible exact ih0 _ _ _)
   | (with_reducible exact LeO.refl _)
   | (with_reducible exact LeO.none _)
   | (with_reducible refine LeO.ite ?_ ?_)
   | (with_reducible refine LeO.bind ?_ (fun _ => ?_))
   | exact ih0 _ _ _
   | exact LeO.none _
   | refine LeO.ite ?_ ?_
   | refine LeO.bind ?_ (fun _ => ?_)
theorem impl_still.mono : ∀ a0 k, LeO (impl_still.f k a0) (impl_still.f (k + 1) a0) := by
 intro a0 k; have ih0 := impl_still.mono_l k
 unfold impl_still.f
 repeat' first
   | (with_reducible exact ih0 _ _ _)
   | (with_reducible exact LeO.refl _)
   | (with_reducible exact LeO.none _)
   | (with_reducible refine LeO.ite ?_ ?_)
   | (with_reducible refine LeO.bind ?_ (fun _ => ?_))
   | exact ih0 _ _ _
   | exact LeO.none _
   | refine LeO.ite ?_ ?_
   | refine LeO.bind ?_ (fun _ => ?_)
set_option maxHeartbeats 8000000 in
set_option maxRecDepth 100000 in
theorem impl_still.calls (k : Nat) (a0 : Int) (r : List Int) (w : World) (h : impl_still.f k a0 = some r) :
  Calls Try.prog 122 #[.int .i64 a0] w fun e w' => ∃ v0_ : Value, e = .returned (v0_) ∧ Kd.R (Kd.int .i64) 3 w' w.heap.size (fun _ => True) v0_ r ∧ Below w.heap.size w w' := by
 have HB := bZ w; have H := h; clear h; unfold impl_still.f at H; replace H := gE H; obtain ⟨c2b0, c2b1, H⟩ := H; replace H := gE H; obtain ⟨c3b0, c3b1, H⟩ := H; generalize Ny397 : (List.replicate (a0 : Int).toNat 0 : List Int) = y397 at H; simp only [Option.bind_some] at H; replace Ny397 := Ay Ny397; have H' := Az H; clear H; go_enter Try.func122, Try.ntmps122
 go_wp2_with (first | ((with_reducible refine gd 6 rfl ?_); refine Kd.R_make (Kd.int .i64) _ 3 rfl (N := 6) rfl 23 _ _ rfl a0 rfl rfl Try.underlying23 (.int .i64 0) 8 info3 rfl (by decide) (by omega) 0 (ok := fun _ => True) (okp := fun _ => True) rfl (fun _ hk => hk) trivial (oA) (Nat.le_trans (Nat.mul_le_mul_right _ (oA : a0.toNat ≤ 35184372088832)) (by omega)) (Below.refl _ _) (Nat.le_refl _) ?_; intro v398 w4 ho5 hb hg_ hnew_; clear hg_ hnew_; (first | rw [← Ny397.out] at ho5 | (simp only [Int.reduceToNat] at ho5; rw [← Ny397.out] at ho5)); have HO399 := Az (Kd.R_lower ho5 (below_size (bU0 HB.out))); replace HB := Az (below_step (bU0 HB.out) hb); clear hb ho5; obtain ⟨Ao6, co6, eo6⟩ := Kd.R_slice HO399.out; subst eo6))
 go_loopg [9] k (fun kq v9 w' => ∃ (x3_1 : List Int) (x9_1 : Int), v9 = .int .i64 x9_1 ∧ Aside0 (impl_still.l0 kq x3_1 (y397.length : Int) x9_1 = some r) ∧ Aside0 (kq ≤ k) ∧ Aside0 (Kd.R (Kd.int .i64) 3 w' w.heap.size (fun _ => True) (.slice Ao6 y397.length co6) x3_1) ∧ Aside0 (Below w.heap.size w w'))
 case atStart => exact ⟨(y397), (0), rS, H', ⟨Nat.le_refl _⟩, ⟨rU HO399.out⟩, ⟨bU0 HB.out⟩⟩
 case round =>
  clear H'; obtain ⟨x3_1, x9_1, rfl, HA, HK1, HO_3, HB⟩ := hrel; have hl3_1 := (Kd.R_reads' HO_3.out).1; rw [hl3_1] at HO_3; simp only [hl3_1]
  rcases gk with _ | k1
  exact (nN HA.out).elim; have H := HA.out; clear HA; simp only [impl_still.l0] at H
  by_cases c7 : x9_1 < (y397.length : Int)
  ·
   rw [if_pos c7] at H; have c7b0 := decide_eq_true c7; (have c7b0hl3_1 := c7b0; rw [hl3_1] at c7b0hl3_1); clear c7; replace H := gD1 H; obtain ⟨c8b0, H⟩ := H; replace H := gP H; obtain ⟨c9, H⟩ := H; have c9b0 := decide_eq_true c9; clear c9; generalize Ny400 : (x3_1.set (x9_1 : Int).toNat x9_1 : List Int) = y400 at H; replace Ny400 := Ay Ny400; have H' := Az H; clear H; have p10 : 0 ≤ (x9_1 : Int) := oA; have q10 : (x9_1 : Int) < ((x3_1.length : Int) : Int) := oA; obtain ⟨go10, co10, eo10, gb10, gl10, cl10, HG10⟩ := Kd.R_form HO_3.out (by omega); (first | cases eo10 | (injection eo10 with ea_ en_ ec_; (first | subst ea_ | (injection ea_ with ea_; subst ea_)); subst ec_; clear en_)); have GB10 := Az gb10; have GG10 := Az HG10; clear gb10 gl10 HG10; obtain ⟨hx10_0, hf10_0⟩ := Kd.R_celln 0 HO_3.out (x9_1 : Int) p10 q10; replace p10 := eq_true p10; replace q10 := eq_true q10; obtain ⟨hy11_, hz11_⟩ := Kd.R_celln 0 HO_3.out (x9_1 : Int) (oA) (oA); have HP11 := Kd.R_putg HO_3.out (x9_1 : Int) x9_1
   go_wp2_with (first | ((with_reducible refine gs 3 15 rfl ?_); refine sE 3 15 (wr.setCell ⟨go10, (x9_1 : Int).toNat, none⟩ (.int .i64 x9_1)) ?_; intro w12 hw; have hg : wr.grownBy w12 (some go10) := (by rw [hw]; exact HP11.2); have hp_ : Kd.R (Kd.int .i64) 3 w12 w.heap.size (fun _ => True) (.slice (some ⟨go10, 0, none⟩) x3_1.length co6) y400 := (by rw [hw, Ny400.out]; exact HP11.1); clear HP11; replace HO_3 := Az (hp_); replace HB := Az ((by rw [hw]; exact below_set (HB.out) GB10.out : Below w.heap.size w w12)); clear hg hw hp_))
   simp only [← hl3_1]; go_roundg k1
   case measure => exact mO
   case rel => exact ⟨(y400), (wrap64 (x9_1 + 1)), rS, H', ⟨mO⟩, ⟨by simp only [hl3_1]; (with_reducible repeat (first | apply Kd.R_alloc | apply Kd.R_drewN | apply Kd.R_drew)); exact HO_3.out⟩, ⟨bU0 HB.out⟩⟩
  · rw [if_neg c7] at H; have c7b0 := decide_eq_false c7; (have c7b0hl3_1 := c7b0; rw [hl3_1] at c7b0hl3_1); clear c7; obtain rfl := Option.some.inj H; go_wp2; go_ret; exact ⟨_, rE, rU HO_3.out, bU0 HB.out⟩
mutual
def impl_orbits.l0 : Nat → List (List Int) → List Int → Bool → Option (List Int)
 | 0, _, _, _ => none
 | k + 1, x0, x3, x4 => if x4 = true then (impl_orbits.l1 k x0 x3 false x0 (x0.length : Int) 0) else (some x3)
def impl_orbits.l1 : Nat → List (List Int) → List Int → Bool → List (List Int) → Int → Int → Option (List Int)
 | 0, _, _, _, _, _, _ => none
 | k + 1, x0, x3, x4, x16, x17, x18 => if x18 < x17 then (if 0 ≤ x18 then (if x18 < (x16.length : Int) then (impl_orbits.l2 k x0 x3 x4 x16 x17 x18 (rd_L1 x16 x18) ((rd_L1 x16 x18).length : Int) 0) else (none)) else (none)) else (impl_orbits.l0 k x0 x3 x4)
def impl_orbits.l2 : Nat → List (List Int) → List Int → Bool → List (List Int) → Int → Int → List Int → Int → Int → Option (List Int)
 | 0, _, _, _, _, _, _, _, _, _ => none
 | k + 1, x0, x3, x4, x16, x17, x18, x22, x23, x24 => if x24 < x23 then (if 0 ≤ x24 then (if x24 < (x22.length : Int) then (if x24 < (x3.length : Int) then (if 0 ≤ (rd x22 x24) then (if (rd x22 x24) < (x3.length : Int) then (if (rd x3 x24) = (mn (rd x3 x24) (rd x3 (rd x22 x24))) then (if (rd x3 (rd x22 x24)) = (mn (rd x3 x24) (rd x3 (rd x22 x24))) then (impl_orbits.l2 k x0 x3 x4 x16 x17 x18 x22 x23 (wrap64 (x24 + 1))) else (impl_orbits.l2 k x0 ((x3.set (x24 : Int).toNat (mn (rd x3 x24) (rd x3 (rd x22 x24)))).set ((rd x22 x24) : Int).toNat (mn (rd x3 x24) (rd x3 (rd x22 x24)))) true x16 x17 x18 x22 x23 (wrap64 (x24 + 1)))) else (impl_orbits.l2 k x0 ((x3.set (x24 : Int).toNat (mn (rd x3 x24) (rd x3 (rd x22 x24)))).set ((rd x22 x24) : Int).toNat (mn (rd x3 x24) (rd x3 (rd x22 x24)))) true x16 x17 x18 x22 x23 (wrap64 (x24 + 1)))) else (none)) else (none)) else (none)) else (none)) else (none)) else (impl_orbits.l1 k x0 x3 x4 x16 x17 (wrap64 (x18 + 1)))
end
def impl_orbits.f (k : Nat) (l0 : List (List Int)) : Option (List Int) := if 0 < (l0.length : Int) then ((impl_still.f k ((rd_L1 l0 0).length : Int)).bind fun t402 => (impl_orbits.l0 k l0 t402 true)) else (none)
theorem impl_orbits.mono_l : ∀ k, (∀ y0 y1 y2, LeO (impl_orbits.l0 k y0 y1 y2) (impl_orbits.l0 (k + 1) y0 y1 y2)) ∧ (∀ y0 y1 y2 y3 y4 y5, LeO (impl_orbits.l1 k y0 y1 y2 y3 y4 y5) (impl_orbits.l1 (k + 1) y0 y1 y2 y3 y4 y5)) ∧ (∀ y0 y1 y2 y3 y4 y5 y6 y7 y8, LeO (impl_orbits.l2 k y0 y1 y2 y3 y4 y5 y6 y7 y8) (impl_orbits.l2 (k + 1) y0 y1 y2 y3 y4 y5 y6 y7 y8))
 | 0 => ⟨fun _ _ _ r h => by simp [impl_orbits.l0] at h, fun _ _ _ _ _ _ r h => by simp [impl_orbits.l1] at h, fun _ _ _ _ _ _ _ _ _ r h => by simp [impl_orbits.l2] at h⟩
 | k + 1 => by
  obtain ⟨ih0, ih1, ih2⟩ := impl_orbits.mono_l k; refine ⟨?_, ?_, ?_⟩
  ·
   intro y0 y1 y2
   unfold impl_orbits.l0
   repeat' first
   | (with_reducible exact ih0 _ _ _)
   | (with_reducible exact ih1 _ _ _ _ _ _)
   | (with_reducible exact ih2 _ _ _ _ _ _ _ _ _)
   | (with_reducible exact impl_still.mono _ _)
   | (with_reducible exact LeO.refl _)
   | (with_reducible exact LeO.none _)
   | (with_reducible refine LeO.ite ?_ ?_)
   | (with_reducible refine LeO.bind ?_ (fun _ => ?_))
   | exact ih0 _ _ _
   | exact ih1 _ _ _ _ _ _
   | exact ih2 _ _ _ _ _ _ _ _ _
   | exact impl_still.mono _ _
   | exact LeO.none _
   | refine LeO.ite ?_ ?_
   | refine LeO.bind ?_ (fun _ => ?_)
  ·
   intro y0 y1 y2 y3 y4 y5
   unfold impl_orbits.l1
   repeat' first
   | (with_reducible exact ih0 _ _ _)
   | (with_reducible exact ih1 _ _ _ _ _ _)
   | (with_reducible exact ih2 _ _ _ _ _ _ _ _ _)
   | (with_reducible exact impl_still.mono _ _)
   | (with_reducible exact LeO.refl _)
   | (with_reducible exact LeO.none _)
   | (with_reducible refine LeO.ite ?_ ?_)
   | (with_reducible refine LeO.bind ?_ (fun _ => ?_))
   | exact ih0 _ _ _
   | exact ih1 _ _ _ _ _ _
   | exact ih2 _ _ _ _ _ _ _ _ _
   | exact impl_still.mono _ _
   | exact LeO.none _
   | refine LeO.ite ?_ ?_
   | refine LeO.bind ?_ (fun _ => ?_)
  ·
   intro y0 y1 y2 y3 y4 y5 y6 y7 y8
   unfold impl_orbits.l2
   repeat' first
   | (with_reducible exact ih0 _ _ _)
   | (with_reducible exact ih1 _ _ _ _ _ _)
   | (with_reducible exact ih2 _ _ _ _ _ _ _ _ _)
   | (with_reducible exact impl_still.mono _ _)
   | (with_reducible exact LeO.refl _)
   | (with_reducible exact LeO.none _)
   | (with_reducible refine LeO.ite ?_ ?_)
   | (with_reducible refine LeO.bind ?_ (fun _ => ?_))
   | exact ih0 _ _ _
   | exact ih1 _ _ _ _ _ _
   | exact ih2 _ _ _ _ _ _ _ _ _
   | exact impl_still.mono _ _
   | exact LeO.none _
   | refine LeO.ite ?_ ?_
   | refine LeO.bind ?_ (fun _ => ?_)
theorem impl_orbits.mono : ∀ a0 k, LeO (impl_orbits.f k a0) (impl_orbits.f (k + 1) a0) := by
 intro a0 k; obtain ⟨ih0, ih1, ih2⟩ := impl_orbits.mono_l k
 unfold impl_orbits.f
 repeat' first
   | (with_reducible exact ih0 _ _ _)
   | (with_reducible exact ih1 _ _ _ _ _ _)
   | (with_reducible exact ih2 _ _ _ _ _ _ _ _ _)
   | (with_reducible exact impl_still.mono _ _)
   | (with_reducible exact LeO.refl _)
   | (with_reducible exact LeO.none _)
   | (with_reducible refine LeO.ite ?_ ?_)
   | (with_reducible refine LeO.bind ?_ (fun _ => ?_))
   | exact ih0 _ _ _
   | exact ih1 _ _ _ _ _ _
   | exact ih2 _ _ _ _ _ _ _ _ _
   | exact impl_still.mono _ _
   | exact LeO.none _
   | refine LeO.ite ?_ ?_
   | refine LeO.bind ?_ (fun _ => ?_)
set_option maxHeartbeats 8000000 in
set_option maxRecDepth 100000 in
theorem impl_orbits.calls (k : Nat) (A0 : Option Addr) (c0 : Nat) (l0 : List (List Int)) (r : List Int) (w : World) (hr0 : Kd.C (Kd.slice 3 (Kd.int .i64)) w A0 l0.length l0) (hc0 : l0.length ≤ c0) (h : impl_orbits.f k l0 = some r) :
  Calls Try.prog 107 #[.slice A0 l0.length c0] w fun e w' => ∃ v0_ : Value, e = .returned (v0_) ∧ Kd.R (Kd.int .i64) 3 w' w.heap.size (fun _ => True) v0_ r ∧ Below w.heap.size w w' := by
 have HR0 := Az hr0; have HC0 := Az hc0; clear hr0 hc0; have HB := bZ w; have H := h; clear h; unfold impl_orbits.f at H; replace H := gP H; obtain ⟨c2, H⟩ := H; have c2b0 := decide_eq_true c2; have c2b1 : decide (0 < l0.length) = true := decide_eq_true (by omega); clear c2; replace H := bd H; obtain ⟨t402, A3, H⟩ := H; have H' := Az H; clear H; have p401 : 0 ≤ (0 : Int) := (by omega); have q401 : 0 < (l0.length : Int) := oA; obtain ⟨ad401, A401_0, c401_0, e401, hx401_0, hl401_0, hi401_0⟩ := at_L1 HR0.out 0 p401 q401
 cases e401
 have qi401 : (0 < l0.length) = True := eq_true (by omega); rw [show ((0 : Int)).toNat = 0 from rfl] at hx401_0; rw [Addr.add_zero'] at hx401_0; have HR401_0 := Az hi401_0; have HC401_0 := Az hl401_0; clear hi401_0 hl401_0; replace p401 := eq_true p401; replace q401 := eq_true q401; go_enter Try.func107, Try.ntmps107
 go_wp2_with (first | (go_at_call 122; (with_reducible refine (impl_still.calls k ((rd_L1 l0 0).length : Int) t402 _ A3.out).mono ?_); rintro e w4 ⟨v403, rfl, ho0, hb⟩; have HO404 := Az (Kd.R_lower ho0 (below_size (bU0 HB.out))); replace HB := Az (below_step (bU0 HB.out) hb); clear hb ho0))
 repeat (go_quiet (fail); try go_wp2_with (fail))
 go_loopg [4] k (fun kq v4 w' => ∃ (x3_1 : List Int) (x4_1 : Bool), v4 = .bool x4_1 ∧ Aside0 (impl_orbits.l0 kq l0 x3_1 x4_1 = some r) ∧ Aside0 (kq ≤ k) ∧ Aside0 (Kd.R (Kd.int .i64) 3 w' w.heap.size (fun _ => True) v403 x3_1) ∧ Aside0 (Below w.heap.size w w'))
 case atStart => exact ⟨(t402), (true), rS, H', ⟨Nat.le_refl _⟩, ⟨rU HO404.out⟩, ⟨bU0 HB.out⟩⟩
 case round =>
  clear H'; obtain ⟨x3_1, x4_1, rfl, HA, HK1, HO_3, HB⟩ := hrel
  rcases gk with _ | k1
  exact (nN HA.out).elim; have H := HA.out; clear HA; simp only [impl_orbits.l0] at H
  by_cases c5 : x4_1 = true
  ·
   subst c5; rw [if_pos rfl] at H; have H' := Az H; clear H; go_wp2
   repeat (go_quiet (fail); try go_wp2)
   go_loopg [4, 18] k1 (fun kq v4 v18 w' => ∃ (x3_2 : List Int) (x4_2 : Bool) (x18_2 : Int), v4 = .bool x4_2 ∧ v18 = .int .i64 x18_2 ∧ Aside0 (impl_orbits.l1 kq l0 x3_2 x4_2 l0 (l0.length : Int) x18_2 = some r) ∧ Aside0 (kq ≤ k1) ∧ Aside0 (Kd.R (Kd.int .i64) 3 w' w.heap.size (fun _ => True) v403 x3_2) ∧ Aside0 (Below w.heap.size w w'))
   case atStart => exact ⟨(x3_1), (false), (0), rS, rS, H', ⟨Nat.le_refl _⟩, ⟨rU HO_3.out⟩, ⟨bU0 HB.out⟩⟩
   case round =>
    clear H'; obtain ⟨x3_2, x4_2, x18_2, rfl, rfl, HA, HK2, HO_3, HB⟩ := hrel
    rcases gk with _ | k2
    exact (nN HA.out).elim; have H := HA.out; clear HA; simp only [impl_orbits.l1] at H
    by_cases c6 : x18_2 < (l0.length : Int)
    ·
     rw [if_pos c6] at H; have c6b0 := decide_eq_true c6; clear c6; replace H := gD2 H; obtain ⟨c7b0, c8b0, H⟩ := H; have H' := Az H; clear H; have p405 : 0 ≤ (x18_2 : Int) := oA; have q405 : x18_2 < (l0.length : Int) := oA; obtain ⟨ad405, A405_0, c405_0, e405, hx405_0, hl405_0, hi405_0⟩ := at_L1 HR0.out x18_2 p405 q405; obtain rfl : ad401 = ad405 := (by injection e405); replace hx405_0 := hT HB.out hx405_0; have HR405_0 := Az hi405_0; have HC405_0 := Az hl405_0; clear hi405_0 hl405_0; replace p405 := eq_true p405; replace q405 := eq_true q405; go_wp2
     repeat (go_quiet (fail); try go_wp2)
     go_loopg [4, 24] k2 (fun kq v4 v24 w' => ∃ (x3_3 : List Int) (x4_3 : Bool) (x24_3 : Int), v4 = .bool x4_3 ∧ v24 = .int .i64 x24_3 ∧ Aside0 (impl_orbits.l2 kq l0 x3_3 x4_3 l0 (l0.length : Int) x18_2 (rd_L1 l0 x18_2) ((rd_L1 l0 x18_2).length : Int) x24_3 = some r) ∧ Aside0 (kq ≤ k2) ∧ Aside0 (Kd.R (Kd.int .i64) 3 w' w.heap.size (fun _ => True) v403 x3_3) ∧ Aside0 (Below w.heap.size w w'))
     case atStart => exact ⟨(x3_2), (x4_2), (0), rS, rS, H', ⟨Nat.le_refl _⟩, ⟨rU HO_3.out⟩, ⟨bU0 HB.out⟩⟩
     case round =>
      clear H'; obtain ⟨x3_3, x4_3, x24_3, rfl, rfl, HA, HK3, HO_3, HB⟩ := hrel
      rcases gk with _ | k3
      exact (nN HA.out).elim; have H := HA.out; clear HA; simp only [impl_orbits.l2] at H
      replace H := gB H; rcases H with ⟨c9b0, H⟩ | ⟨c9b0, H⟩
      ·
       replace H := gD5 H; obtain ⟨c10b0, c11b0, c12b0, c13b0, c14b0, H⟩ := H; obtain ⟨ji15, hji15⟩ : ∃ j_ : Int, (mn (rd x3_3 x24_3) (rd x3_3 (rd (rd_L1 l0 x18_2) x24_3))) = j_ := ⟨_, rfl⟩; (first | rw [hji15] at H | simp only [hji15] at H); have hji15_ : (if (rd x3_3 (rd (rd_L1 l0 x18_2) x24_3)) < (rd x3_3 x24_3) then (rd x3_3 (rd (rd_L1 l0 x18_2) x24_3)) else (rd x3_3 x24_3)) = ji15 := hji15
       replace H := gQ H; rcases H with ⟨c16b0, c16b1, H⟩ | ⟨c16b0, c16b1, H⟩
       ·
        replace H := gQ H; rcases H with ⟨c17b0, c17b1, H⟩ | ⟨c17b0, c17b1, H⟩
        ·
         have H' := Az H; clear H; obtain ⟨ad406, e406, p406, q406, hx406_0⟩ := aI HR405_0.out x24_3
         cases e406
         replace hx406_0 := hT HB.out hx406_0; obtain ⟨Ao18, co18, eo18⟩ := Kd.R_slice HO_3.out; subst eo18; obtain ⟨ad407, e407, p407, q407, hx407_0⟩ := aI (Kd.R_reads' HO_3.out).2.2 x24_3
         cases e407; obtain ⟨p408, q408, hx408_0⟩ := aJ (Kd.R_reads' HO_3.out).2.2 (rd (rd_L1 l0 x18_2) x24_3); obtain ⟨p409, q409, hx409_0⟩ := aJ (Kd.R_reads' HO_3.out).2.2 x24_3; obtain ⟨p410, q410, hx410_0⟩ := aJ (Kd.R_reads' HO_3.out).2.2 (rd (rd_L1 l0 x18_2) x24_3); go_wp2
         repeat (go_quiet (fail); try go_wp2)
         go_roundg k3
         case measure => exact mO
         case rel => exact ⟨(x3_3), (x4_3), (wrap64 (x24_3 + 1)), rS, rS, H', ⟨mO⟩, ⟨rU HO_3.out⟩, ⟨bU0 HB.out⟩⟩
        ·
         generalize Ny411 : (x3_3.set (x24_3 : Int).toNat (ji15) : List Int) = y411 at H; replace Ny411 := Ay Ny411; generalize Ny412 : (y411.set ((rd (rd_L1 l0 x18_2) x24_3) : Int).toNat (ji15) : List Int) = y412 at H; replace Ny412 := Ay Ny412; have H' := Az H; clear H; obtain ⟨ad406, e406, p406, q406, hx406_0⟩ := aI HR405_0.out x24_3
         cases e406
         replace hx406_0 := hT HB.out hx406_0; obtain ⟨Ao21, co21, eo21⟩ := Kd.R_slice HO_3.out; subst eo21; obtain ⟨ad407, e407, p407, q407, hx407_0⟩ := aI (Kd.R_reads' HO_3.out).2.2 x24_3
         cases e407; obtain ⟨p408, q408, hx408_0⟩ := aJ (Kd.R_reads' HO_3.out).2.2 (rd (rd_L1 l0 x18_2) x24_3); obtain ⟨p409, q409, hx409_0⟩ := aJ (Kd.R_reads' HO_3.out).2.2 x24_3; obtain ⟨p410, q410, hx410_0⟩ := aJ (Kd.R_reads' HO_3.out).2.2 (rd (rd_L1 l0 x18_2) x24_3); have p19 : 0 ≤ (x24_3 : Int) := oA; have q19 : (x24_3 : Int) < ((x3_3.length : Int) : Int) := oA; obtain ⟨go19, co19, eo19, gb19, gl19, cl19, HG19⟩ := Kd.R_form HO_3.out (by omega); (first | cases eo19 | (injection eo19 with ea_ en_ ec_; (first | subst ea_ | (injection ea_ with ea_; subst ea_)); subst ec_; clear en_)); have GB19 := Az gb19; have GG19 := Az HG19; clear gb19 gl19 HG19; simp only [add_plain] at hx407_0; simp only [add_plain] at hx408_0; simp only [add_plain] at hx409_0; simp only [add_plain] at hx410_0; obtain ⟨hx19_0, hf19_0⟩ := Kd.R_celln 0 HO_3.out (x24_3 : Int) p19 q19; replace p19 := eq_true p19; replace q19 := eq_true q19; obtain ⟨hy22_, hz22_⟩ := Kd.R_celln 0 HO_3.out (x24_3 : Int) (oA) (oA); have HP22 := Kd.R_putg HO_3.out (x24_3 : Int) ji15
         go_wp2_with (fail)
         repeat (go_quiet (fail); try go_wp2_with (first | ((with_reducible refine gs 3 58 rfl ?_); (rw [drewN_self wr]; generalize hq_ : World.drewN wr _ = wr; replace HO_3 := Az (Kd.R_at hq_ HO_3.out); replace HB := Az (below_at hq_ HB.out); clear hq_; (obtain ⟨hy22_, hz22_⟩ := Kd.R_celln 0 HO_3.out (x24_3 : Int) (oA) (oA)); (have HP22 := Kd.R_putg HO_3.out (x24_3 : Int) ji15)); refine sE 3 58 (wr.setCell ⟨go19, (x24_3 : Int).toNat, none⟩ (.int .i64 ji15)) ?_; intro w23 hw; have hg : wr.grownBy w23 (some go19) := (by rw [hw]; exact HP22.2); have hp_ : Kd.R (Kd.int .i64) 3 w23 w.heap.size (fun _ => True) (.slice (some ⟨go19, 0, none⟩) x3_3.length co21) y411 := (by rw [hw, Ny411.out]; exact HP22.1); clear HP22; replace HO_3 := Az (hp_); replace HB := Az ((by rw [hw]; exact below_set (HB.out) GB19.out : Below w.heap.size w w23)); clear hg hw hp_; have p20 : 0 ≤ ((rd (rd_L1 l0 x18_2) x24_3) : Int) := oA; have q20 : ((rd (rd_L1 l0 x18_2) x24_3) : Int) < ((x3_3.length : Int) : Int) := oA; obtain ⟨hx20_0, hf20_0⟩ := Kd.R_celln 0 HO_3.out ((rd (rd_L1 l0 x18_2) x24_3) : Int) p20 q20; replace p20 := eq_true p20; replace q20 := eq_true q20; obtain ⟨hy24_, hz24_⟩ := Kd.R_celln 0 HO_3.out ((rd (rd_L1 l0 x18_2) x24_3) : Int) (oA) (oA); have HP24 := Kd.R_putg HO_3.out ((rd (rd_L1 l0 x18_2) x24_3) : Int) ji15) | ((with_reducible refine gs 3 59 rfl ?_); refine sE 3 59 (w23.setCell ⟨go19, ((rd (rd_L1 l0 x18_2) x24_3) : Int).toNat, none⟩ (.int .i64 ji15)) ?_; intro w25 hw; have hg : w23.grownBy w25 (some go19) := (by rw [hw]; exact HP24.2); have hp_ : Kd.R (Kd.int .i64) 3 w25 w.heap.size (fun _ => True) (.slice (some ⟨go19, 0, none⟩) x3_3.length co21) y412 := (by rw [hw, Ny412.out]; exact HP24.1); clear HP24; replace HO_3 := Az (hp_); replace HB := Az ((by rw [hw]; exact below_set (HB.out) GB19.out : Below w.heap.size w w25)); clear hg hw hp_)))
         go_roundg k3
         case measure => exact mO
         case rel => exact ⟨(y412), (true), (wrap64 (x24_3 + 1)), rS, rS, H', ⟨mO⟩, ⟨rU HO_3.out⟩, ⟨bU0 HB.out⟩⟩
       ·
        generalize Ny413 : (x3_3.set (x24_3 : Int).toNat (ji15) : List Int) = y413 at H; replace Ny413 := Ay Ny413; generalize Ny414 : (y413.set ((rd (rd_L1 l0 x18_2) x24_3) : Int).toNat (ji15) : List Int) = y414 at H; replace Ny414 := Ay Ny414; have H' := Az H; clear H; obtain ⟨ad406, e406, p406, q406, hx406_0⟩ := aI HR405_0.out x24_3
        cases e406
        replace hx406_0 := hT HB.out hx406_0; obtain ⟨Ao28, co28, eo28⟩ := Kd.R_slice HO_3.out; subst eo28; obtain ⟨ad407, e407, p407, q407, hx407_0⟩ := aI (Kd.R_reads' HO_3.out).2.2 x24_3
        cases e407; obtain ⟨p408, q408, hx408_0⟩ := aJ (Kd.R_reads' HO_3.out).2.2 (rd (rd_L1 l0 x18_2) x24_3); obtain ⟨p409, q409, hx409_0⟩ := aJ (Kd.R_reads' HO_3.out).2.2 x24_3; have p26 : 0 ≤ (x24_3 : Int) := oA; have q26 : (x24_3 : Int) < ((x3_3.length : Int) : Int) := oA; obtain ⟨go26, co26, eo26, gb26, gl26, cl26, HG26⟩ := Kd.R_form HO_3.out (by omega); (first | cases eo26 | (injection eo26 with ea_ en_ ec_; (first | subst ea_ | (injection ea_ with ea_; subst ea_)); subst ec_; clear en_)); have GB26 := Az gb26; have GG26 := Az HG26; clear gb26 gl26 HG26; simp only [add_plain] at hx407_0; simp only [add_plain] at hx408_0; simp only [add_plain] at hx409_0; obtain ⟨hx26_0, hf26_0⟩ := Kd.R_celln 0 HO_3.out (x24_3 : Int) p26 q26; replace p26 := eq_true p26; replace q26 := eq_true q26; obtain ⟨hy29_, hz29_⟩ := Kd.R_celln 0 HO_3.out (x24_3 : Int) (oA) (oA); have HP29 := Kd.R_putg HO_3.out (x24_3 : Int) ji15
        go_wp2_with (fail)
        repeat (go_quiet (fail); try go_wp2_with (first | ((with_reducible refine gs 3 58 rfl ?_); (rw [drewN_self wr]; generalize hq_ : World.drewN wr _ = wr; replace HO_3 := Az (Kd.R_at hq_ HO_3.out); replace HB := Az (below_at hq_ HB.out); clear hq_; (obtain ⟨hy29_, hz29_⟩ := Kd.R_celln 0 HO_3.out (x24_3 : Int) (oA) (oA)); (have HP29 := Kd.R_putg HO_3.out (x24_3 : Int) ji15)); refine sE 3 58 (wr.setCell ⟨go26, (x24_3 : Int).toNat, none⟩ (.int .i64 ji15)) ?_; intro w30 hw; have hg : wr.grownBy w30 (some go26) := (by rw [hw]; exact HP29.2); have hp_ : Kd.R (Kd.int .i64) 3 w30 w.heap.size (fun _ => True) (.slice (some ⟨go26, 0, none⟩) x3_3.length co28) y413 := (by rw [hw, Ny413.out]; exact HP29.1); clear HP29; replace HO_3 := Az (hp_); replace HB := Az ((by rw [hw]; exact below_set (HB.out) GB26.out : Below w.heap.size w w30)); clear hg hw hp_; have p27 : 0 ≤ ((rd (rd_L1 l0 x18_2) x24_3) : Int) := oA; have q27 : ((rd (rd_L1 l0 x18_2) x24_3) : Int) < ((x3_3.length : Int) : Int) := oA; obtain ⟨hx27_0, hf27_0⟩ := Kd.R_celln 0 HO_3.out ((rd (rd_L1 l0 x18_2) x24_3) : Int) p27 q27; replace p27 := eq_true p27; replace q27 := eq_true q27; obtain ⟨hy31_, hz31_⟩ := Kd.R_celln 0 HO_3.out ((rd (rd_L1 l0 x18_2) x24_3) : Int) (oA) (oA); have HP31 := Kd.R_putg HO_3.out ((rd (rd_L1 l0 x18_2) x24_3) : Int) ji15) | ((with_reducible refine gs 3 59 rfl ?_); refine sE 3 59 (w30.setCell ⟨go26, ((rd (rd_L1 l0 x18_2) x24_3) : Int).toNat, none⟩ (.int .i64 ji15)) ?_; intro w32 hw; have hg : w30.grownBy w32 (some go26) := (by rw [hw]; exact HP31.2); have hp_ : Kd.R (Kd.int .i64) 3 w32 w.heap.size (fun _ => True) (.slice (some ⟨go26, 0, none⟩) x3_3.length co28) y414 := (by rw [hw, Ny414.out]; exact HP31.1); clear HP31; replace HO_3 := Az (hp_); replace HB := Az ((by rw [hw]; exact below_set (HB.out) GB26.out : Below w.heap.size w w32)); clear hg hw hp_)))
        go_roundg k3
        case measure => exact mO
        case rel => exact ⟨(y414), (true), (wrap64 (x24_3 + 1)), rS, rS, H', ⟨mO⟩, ⟨rU HO_3.out⟩, ⟨bU0 HB.out⟩⟩
      ·
       have H' := Az H; clear H; go_wp2
       repeat (go_quiet (fail); try go_wp2)
       go_roundg k3
       case measure => exact mO
       case rel => exact ⟨(x3_3), (x4_3), (wrap64 (x18_2 + 1)), rS, rS, H', ⟨mO⟩, ⟨rU HO_3.out⟩, ⟨bU0 HB.out⟩⟩
    ·
     rw [if_neg c6] at H; have c6b0 := decide_eq_false c6; clear c6; have H' := Az H; clear H; go_wp2
     repeat (go_quiet (fail); try go_wp2)
     go_roundg k2
     case measure => exact mO
     case rel => exact ⟨(x3_2), (x4_2), rS, H', ⟨mO⟩, ⟨rU HO_3.out⟩, ⟨bU0 HB.out⟩⟩
  ·
   replace c5 := Bool.eq_false_iff.mpr c5; subst c5; rw [if_neg nT] at H; obtain rfl := Option.some.inj H; go_wp2
   repeat (go_quiet (fail); try go_wp2)
   go_ret; exact ⟨_, rE, rU HO_3.out, bU0 HB.out⟩
mutual
def impl_MapValid.j0 : Nat → Bool → List Int → List Int → Option (Bool)
 | 0, _, _, _ => none
 | k + 1, x23, xZ0, xZ1 => if x23 = true then (some false) else (impl_MapValid.l0 k xZ1 (xZ1.length : Int) 0 xZ0 xZ1)
def impl_MapValid.l0 : Nat → List Int → Int → Int → List Int → List Int → Option (Bool)
 | 0, _, _, _, _, _ => none
 | k + 1, x25, x26, x27, xZ0, xZ1 => if x27 < x26 then (if 0 ≤ x27 then (if x27 < (x25.length : Int) then (if (rd x25 x27) = x27 then (some false) else (if 0 ≤ (rd x25 x27) then (if (rd x25 x27) < (xZ1.length : Int) then (if (rd xZ1 (rd x25 x27)) = x27 then (impl_MapValid.l0 k x25 x26 (wrap64 (x27 + 1)) xZ0 xZ1) else (some false)) else (none)) else (none))) else (none)) else (none)) else ((impl_orbits.f k (([xZ0, xZ1] : List (List Int)))).bind fun t423 => ((slices_Max_int_int.f k t423).bind fun t426 => (some (t426 == 0))))
end
def impl_MapValid.f (k : Nat) (l0_0 : List Int) (l0_1 : List Int) : Option (Bool) := (impl_PermValid.f k l0_0).bind fun t416 => (if t416 = true then ((impl_PermValid.f k l0_1).bind fun t417 => (if t417 = true then (impl_MapValid.j0 k ((l0_0.length : Int) != (l0_1.length : Int)) l0_0 l0_1) else (impl_MapValid.j0 k true l0_0 l0_1))) else (impl_MapValid.j0 k true l0_0 l0_1))
theorem impl_MapValid.mono_l : ∀ k, (∀ y0 y1 y2, LeO (impl_MapValid.j0 k y0 y1 y2) (impl_MapValid.j0 (k + 1) y0 y1 y2)) ∧ (∀ y0 y1 y2 y3 y4, LeO (impl_MapValid.l0 k y0 y1 y2 y3 y4) (impl_MapValid.l0 (k + 1) y0 y1 y2 y3 y4))
 | 0 => ⟨fun _ _ _ r h => by simp [impl_MapValid.j0] at h, fun _ _ _ _ _ r h => by simp [impl_MapValid.l0] at h⟩
 | k + 1 => by
  obtain ⟨ih0, ih1⟩ := impl_MapValid.mono_l k; refine ⟨?_, ?_⟩
  ·
   intro y0 y1 y2
   unfold impl_MapValid.j0
   repeat' first
   | (with_reducible exact ih0 _ _ _)
   | (with_reducible exact ih1 _ _ _ _ _)
   | (with_reducible exact impl_PermValid.mono _ _)
   | (with_reducible exact impl_orbits.mono _ _)
   | (with_reducible exact slices_Max_int_int.mono _ _)
   | (with_reducible exact LeO.refl _)
   | (with_reducible exact LeO.none _)
   | (with_reducible refine LeO.ite ?_ ?_)
   | (with_reducible refine LeO.bind ?_ (fun _ => ?_))
   | exact ih0 _ _ _
   | exact ih1 _ _ _ _ _
   | exact impl_PermValid.mono _ _
   | exact impl_orbits.mono _ _
   | exact slices_Max_int_int.mono _ _
   | exact LeO.none _
   | refine LeO.ite ?_ ?_
   | refine LeO.bind ?_ (fun _ => ?_)
  ·
   intro y0 y1 y2 y3 y4
   unfold impl_MapValid.l0
   repeat' first
   | (with_reducible exact ih0 _ _ _)
   | (with_reducible exact ih1 _ _ _ _ _)
   | (with_reducible exact impl_PermValid.mono _ _)
   | (with_reducible exact impl_orbits.mono _ _)
   | (with_reducible exact slices_Max_int_int.mono _ _)
   | (with_reducible exact LeO.refl _)
   | (with_reducible exact LeO.none _)
   | (with_reducible refine LeO.ite ?_ ?_)
   | (with_reducible refine LeO.bind ?_ (fun _ => ?_))
   | exact ih0 _ _ _
   | exact ih1 _ _ _ _ _
   | exact impl_PermValid.mono _ _
   | exact impl_orbits.mono _ _
   | exact slices_Max_int_int.mono _ _
   | exact LeO.none _
   | refine LeO.ite ?_ ?_
   | refine LeO.bind ?_ (fun _ => ?_)
theorem impl_MapValid.mono : ∀ a0 a1 k, LeO (impl_MapValid.f k a0 a1) (impl_MapValid.f (k + 1) a0 a1) := by
 intro a0 a1 k; obtain ⟨ih0, ih1⟩ := impl_MapValid.mono_l k
 unfold impl_MapValid.f
 repeat' first
   | (with_reducible exact ih0 _ _ _)
   | (with_reducible exact ih1 _ _ _ _ _)
   | (with_reducible exact impl_PermValid.mono _ _)
   | (with_reducible exact impl_orbits.mono _ _)
   | (with_reducible exact slices_Max_int_int.mono _ _)
   | (with_reducible exact LeO.refl _)
   | (with_reducible exact LeO.none _)
   | (with_reducible refine LeO.ite ?_ ?_)
   | (with_reducible refine LeO.bind ?_ (fun _ => ?_))
   | exact ih0 _ _ _
   | exact ih1 _ _ _ _ _
   | exact impl_PermValid.mono _ _
   | exact impl_orbits.mono _ _
   | exact slices_Max_int_int.mono _ _
   | exact LeO.none _
   | refine LeO.ite ?_ ?_
   | refine LeO.bind ?_ (fun _ => ?_)
set_option maxHeartbeats 8000000 in
set_option maxRecDepth 100000 in
theorem impl_MapValid.calls (k : Nat) (P0_0_ : Nat → Prop) (A0_0 : Option Addr) (c0_0 : Nat) (l0_0 : List Int) (P0_1_ : Nat → Prop) (A0_1 : Option Addr) (c0_1 : Nat) (l0_1 : List Int) (r : Bool) (w : World) (hs0_0 : Kd.V (Kd.int .i64) 3 w w.heap.size (fun k_ => P0_0_ k_) (.slice A0_0 l0_0.length c0_0) l0_0) (hs0_1 : Kd.V (Kd.int .i64) 3 w w.heap.size (fun k_ => P0_1_ k_) (.slice A0_1 l0_1.length c0_1) l0_1) (h : impl_MapValid.f k l0_0 l0_1 = some r) :
  Calls Try.prog 66 #[.agg #[.slice A0_0 l0_0.length c0_0, .slice A0_1 l0_1.length c0_1]] w fun e w' => e = .returned (.bool r) ∧ Below w.heap.size w w' := by
 have hu29 := Try.underlying29; have HO0_0 := Az (show Kd.V (Kd.int .i64) 3 w w.heap.size (fun k_ => ((P0_0_ k_ ∨ P0_1_ k_) ∨ w.heap.size ≤ k_)) (.slice A0_0 l0_0.length c0_0) l0_0 from Kd.V_mono hs0_0 (fun k_ hk => .inl (.inl hk))); have HO0_1 := Az (show Kd.V (Kd.int .i64) 3 w w.heap.size (fun k_ => ((P0_0_ k_ ∨ P0_1_ k_) ∨ w.heap.size ≤ k_)) (.slice A0_1 l0_1.length c0_1) l0_1 from Kd.V_mono hs0_1 (fun k_ hk => .inl (.inr hk))); have HB := bZ w; have H := h; clear h; unfold impl_MapValid.f at H; have HC2 := Az H; clear H; go_enter Try.func66, Try.ntmps66
 go_upto_region 1 with (first | ((with_reducible refine gd 1 rfl ?_); (refine gate_guard (by rfl) ?_; dsimp only); refine bE 1 #[.slice A0_0 l0_0.length c0_0, .slice A0_1 l0_1.length c0_1] 29 ?_; intro gb415 hg w3 hbox hb; have n0_ := Az (Kd.V_below (Kd.V_elderB (vU HO0_0.out) gb415 (Nat.le_of_eq hg.symm)) hb); have n1_ := Az (Kd.V_below (Kd.V_elderB (vU HO0_1.out) gb415 (Nat.le_of_eq hg.symm)) hb); have n2_ := Az (below_step (bU0 HB.out) hb); have n3_ := Az (hbox); have n4_ := Az ((by rw [hg]; exact (below_size (bU0 HB.out)) : w.heap.size ≤ gb415)); have n5_ := n4_; clear HO0_0 HO0_1 HB; have HO0_0 := n0_; have HO0_1 := n1_; have HB := n2_; have BK415 := n3_; have GW415 := n4_; have GE415 := n5_; clear n0_ n1_ n2_ n3_ n4_ n5_ hb hbox hg))
 go_cut [23] (fun v23 wc => ∃ (kq : Nat) (x23_1 : Bool), v23 = .bool x23_1 ∧ Aside0 (impl_MapValid.j0 kq x23_1 l0_0 l0_1 = some r) ∧ Aside0 (kq ≤ k) ∧ Aside0 (Kd.V (Kd.int .i64) 3 wc w.heap.size (fun k_ => ((P0_0_ k_ ∨ P0_1_ k_) ∨ w.heap.size ≤ k_) ∧ k_ ≠ gb415) (.slice A0_0 l0_0.length c0_0) l0_0) ∧ Aside0 (Kd.V (Kd.int .i64) 3 wc w.heap.size (fun k_ => ((P0_0_ k_ ∨ P0_1_ k_) ∨ w.heap.size ≤ k_) ∧ k_ ≠ gb415) (.slice A0_1 l0_1.length c0_1) l0_1) ∧ Aside0 (wc.heap[gb415]? = some (.cells #[(.slice A0_0 l0_0.length c0_0), (.slice A0_1 l0_1.length c0_1)] 29 (0, 0))) ∧ Aside0 (Below w.heap.size w wc))
 case first =>
  have H := HC2.out; clear HC2; replace H := bd H; obtain ⟨t416, A4, H⟩ := H
  by_cases c5 : t416 = true
  ·
   subst c5; rw [if_pos rfl] at H; replace H := bd H; obtain ⟨t417, A6, H⟩ := H
   by_cases c7 : t417 = true
   ·
    subst c7; rw [if_pos rfl] at H; have H' := Az H; clear H; have hz8 := bc2 BK415.out
    go_wp2_with (first | ((with_reducible refine gK 105 rfl ?_); refine gC (some 7) Try.func105 #[.slice A0_0 l0_0.length c0_0] ?_; (with_reducible refine (impl_PermValid.calls k _ _ l0_0 true _ ?_ ?_ A4.out).mono ?_); exact cU ((Kd.V_reads' HO0_0.out).2.2); exact (Kd.V_reads' HO0_0.out).2.1; rintro e w9 ⟨rfl, hb⟩; refine ⟨_, rfl, ?_⟩; have n0_ := vB HO0_0.out hb; have n1_ := vB HO0_1.out hb; have n2_ := kB BK415.out hb; have n3_ := Az z5_11; clear HO0_0 HO0_1 BK415 HB; have HO0_0 := n0_; have HO0_1 := n1_; have BK415 := n2_; have HB := n3_; clear n0_ n1_ n2_ n3_ hb; have hz10 := bc2 BK415.out) | (go_at_call 105; (with_reducible refine (impl_PermValid.calls k _ _ l0_1 true _ ?_ ?_ A6.out).mono ?_); exact cU ((Kd.V_reads' HO0_1.out).2.2); exact (Kd.V_reads' HO0_1.out).2.1; rintro e w11 ⟨rfl, hb⟩; have n0_ := vB HO0_0.out hb; have n1_ := vB HO0_1.out hb; have n2_ := kB BK415.out hb; have n3_ := Az z5_11; clear HO0_0 HO0_1 BK415 HB; have HO0_0 := n0_; have HO0_1 := n1_; have BK415 := n2_; have HB := n3_; clear n0_ n1_ n2_ n3_ hb; have hz12 := bc2 BK415.out))
    go_meet
    case rel => exact ⟨_, (((l0_0.length : Int) != (l0_1.length : Int))), rS, H', ⟨mO⟩, ⟨vU HO0_0.out⟩, ⟨vU HO0_1.out⟩, ⟨kU BK415.out⟩, ⟨bU1 HB.out GE415.out⟩⟩
   ·
    replace c7 := Bool.eq_false_iff.mpr c7; subst c7; rw [if_neg nT] at H; have H' := Az H; clear H; have hz13 := bc2 BK415.out
    go_wp2_with (first | ((with_reducible refine gK 105 rfl ?_); refine gC (some 7) Try.func105 #[.slice A0_0 l0_0.length c0_0] ?_; (with_reducible refine (impl_PermValid.calls k _ _ l0_0 true _ ?_ ?_ A4.out).mono ?_); exact cU ((Kd.V_reads' HO0_0.out).2.2); exact (Kd.V_reads' HO0_0.out).2.1; rintro e w14 ⟨rfl, hb⟩; refine ⟨_, rfl, ?_⟩; have n0_ := vB HO0_0.out hb; have n1_ := vB HO0_1.out hb; have n2_ := kB BK415.out hb; have n3_ := Az z5_11; clear HO0_0 HO0_1 BK415 HB; have HO0_0 := n0_; have HO0_1 := n1_; have BK415 := n2_; have HB := n3_; clear n0_ n1_ n2_ n3_ hb; have hz15 := bc2 BK415.out) | (go_at_call 105; (with_reducible refine (impl_PermValid.calls k _ _ l0_1 false _ ?_ ?_ A6.out).mono ?_); exact cU ((Kd.V_reads' HO0_1.out).2.2); exact (Kd.V_reads' HO0_1.out).2.1; rintro e w16 ⟨rfl, hb⟩; have n0_ := vB HO0_0.out hb; have n1_ := vB HO0_1.out hb; have n2_ := kB BK415.out hb; have n3_ := Az z5_11; clear HO0_0 HO0_1 BK415 HB; have HO0_0 := n0_; have HO0_1 := n1_; have BK415 := n2_; have HB := n3_; clear n0_ n1_ n2_ n3_ hb))
    go_meet
    case rel => exact ⟨_, (true), rS, H', ⟨mO⟩, ⟨vU HO0_0.out⟩, ⟨vU HO0_1.out⟩, ⟨kU BK415.out⟩, ⟨bU1 HB.out GE415.out⟩⟩
  ·
   replace c5 := Bool.eq_false_iff.mpr c5; subst c5; rw [if_neg nT] at H; have H' := Az H; clear H; have hz17 := bc2 BK415.out
   go_wp2_with (first | ((with_reducible refine gK 105 rfl ?_); refine gC (some 7) Try.func105 #[.slice A0_0 l0_0.length c0_0] ?_; (with_reducible refine (impl_PermValid.calls k _ _ l0_0 false _ ?_ ?_ A4.out).mono ?_); exact cU ((Kd.V_reads' HO0_0.out).2.2); exact (Kd.V_reads' HO0_0.out).2.1; rintro e w18 ⟨rfl, hb⟩; refine ⟨_, rfl, ?_⟩; have n0_ := vB HO0_0.out hb; have n1_ := vB HO0_1.out hb; have n2_ := kB BK415.out hb; have n3_ := Az z5_11; clear HO0_0 HO0_1 BK415 HB; have HO0_0 := n0_; have HO0_1 := n1_; have BK415 := n2_; have HB := n3_; clear n0_ n1_ n2_ n3_ hb))
   go_meet
   case rel => exact ⟨_, (true), rS, H', ⟨mO⟩, ⟨vU HO0_0.out⟩, ⟨vU HO0_1.out⟩, ⟨kU BK415.out⟩, ⟨bU1 HB.out GE415.out⟩⟩
 case rest =>
  clear HC2; obtain ⟨kq, x23_1, rfl, HA, HJ1, HO_Z0, HO_Z1, BK415, HB⟩ := hcut
  rcases kq with _ | kj1
  exact (nN HA.out).elim; have H := HA.out; clear HA; simp only [impl_MapValid.j0] at H
  by_cases c19 : x23_1 = true
  · subst c19; rw [if_pos rfl] at H; obtain rfl := Option.some.inj H; go_wp2; go_ret; exact ⟨rE, bU1 HB.out GE415.out⟩
  ·
   replace c19 := Bool.eq_false_iff.mpr c19; subst c19; rw [if_neg nT] at H; have H' := Az H; clear H; have hz20 := bc2 BK415.out; go_wp2
   go_loopg [27] kj1 (fun kq v27 w' => ∃ (x27_2 : Int), v27 = .int .i64 x27_2 ∧ Aside0 (impl_MapValid.l0 kq l0_1 (l0_1.length : Int) x27_2 l0_0 l0_1 = some r) ∧ Aside0 (kq ≤ kj1) ∧ Aside0 (Kd.V (Kd.int .i64) 3 w' w.heap.size (fun k_ => ((P0_0_ k_ ∨ P0_1_ k_) ∨ w.heap.size ≤ k_) ∧ k_ ≠ gb415) (.slice A0_1 l0_1.length c0_1) l0_1) ∧ Aside0 (Kd.V (Kd.int .i64) 3 w' w.heap.size (fun k_ => ((P0_0_ k_ ∨ P0_1_ k_) ∨ w.heap.size ≤ k_) ∧ k_ ≠ gb415) (.slice A0_0 l0_0.length c0_0) l0_0) ∧ Aside0 (Kd.V (Kd.int .i64) 3 w' w.heap.size (fun k_ => ((P0_0_ k_ ∨ P0_1_ k_) ∨ w.heap.size ≤ k_) ∧ k_ ≠ gb415) (.slice A0_1 l0_1.length c0_1) l0_1) ∧ Aside0 (w'.heap[gb415]? = some (.cells #[(.slice A0_0 l0_0.length c0_0), (.slice A0_1 l0_1.length c0_1)] 29 (0, 0))) ∧ Aside0 (Below w.heap.size w w'))
   case atStart => exact ⟨(0), rS, H', ⟨Nat.le_refl _⟩, ⟨vU HO_Z1.out⟩, ⟨vU HO_Z0.out⟩, ⟨vU HO_Z1.out⟩, ⟨kU BK415.out⟩, ⟨bU1 HB.out GE415.out⟩⟩
   case round =>
    clear H'; obtain ⟨x27_2, rfl, HA, HK2, HO_25, HO_Z0, HO_Z1, BK415, HB⟩ := hrel
    rcases gk with _ | k2
    exact (nN HA.out).elim; have H := HA.out; clear HA; simp only [impl_MapValid.l0] at H
    replace H := gB H; rcases H with ⟨c21b0, H⟩ | ⟨c21b0, H⟩
    ·
     replace H := gD2 H; obtain ⟨c22b0, c23b0, H⟩ := H
     replace H := gQ H; rcases H with ⟨c24b0, c24b1, H⟩ | ⟨c24b0, c24b1, H⟩
     ·
      obtain rfl := Option.some.inj H; obtain ⟨ad418, e418, p418, q418, hx418_0⟩ := aI (Kd.V_reads' HO_25.out).2.2 x27_2
      cases e418; go_wp2; go_ret; exact ⟨rE, bU1 HB.out GE415.out⟩
     ·
      replace H := gD2 H; obtain ⟨c25b0, c26b0, H⟩ := H
      replace H := gQ H; rcases H with ⟨c27b0, c27b1, H⟩ | ⟨c27b0, c27b1, H⟩
      ·
       have H' := Az H; clear H; obtain ⟨ad418, e418, p418, q418, hx418_0⟩ := aI (Kd.V_reads' HO_25.out).2.2 x27_2
       cases e418; have hz28 := bc2 BK415.out; obtain ⟨p419, q419, hx419_0⟩ := aJ (Kd.V_reads' HO_Z1.out).2.2 (rd l0_1 x27_2); go_wp2; go_roundg k2
       case measure => have := HJ1.out; have := HK2.out; omega
       case rel => exact ⟨(wrap64 (x27_2 + 1)), rS, H', ⟨by have := HJ1.out; have := HK2.out; omega⟩, ⟨vU HO_25.out⟩, ⟨vU HO_Z0.out⟩, ⟨vU HO_Z1.out⟩, ⟨kU BK415.out⟩, ⟨bU1 HB.out GE415.out⟩⟩
      ·
       obtain rfl := Option.some.inj H; obtain ⟨ad418, e418, p418, q418, hx418_0⟩ := aI (Kd.V_reads' HO_25.out).2.2 x27_2
       cases e418; have hz29 := bc2 BK415.out; obtain ⟨p419, q419, hx419_0⟩ := aJ (Kd.V_reads' HO_Z1.out).2.2 (rd l0_1 x27_2); go_wp2; go_ret; exact ⟨rE, bU1 HB.out GE415.out⟩
    ·
     generalize Ny420 : (([l0_0, l0_1] : List (List Int)) : List (List Int)) = y420 at H; replace Ny420 := Ay Ny420; replace H := bd H; obtain ⟨t423, A30, H⟩ := H; replace H := bd H; obtain ⟨t426, A31, H⟩ := H; obtain rfl := Option.some.inj H; have hz32 := bc2 BK415.out
     go_wp2_with (first | ((with_reducible refine gd 49 rfl ?_); (refine gate_guard (by rfl) ?_; dsimp only); refine Kd.N_lit (Kd.slice 3 (Kd.int .i64)) _ 23 ?hg (N' := 49) ?hd (xs := ([l0_0, l0_1] : List (List Int))) (inner := [.slice A0_0 l0_0.length c0_0, .slice A0_1 l0_1.length c0_1]) (ok := (fun k_ => ((P0_0_ k_ ∨ P0_1_ k_) ∨ w.heap.size ≤ k_) ∧ k_ ≠ gb415)) (okp := (fun k_ => ((P0_0_ k_ ∨ P0_1_ k_) ∨ w.heap.size ≤ k_) ∧ k_ ≠ gb415)) ?hr ?hp (fun _ hk => hk) ((show ∀ k_, wr.heap.size ≤ k_ → (fun k_ => ((P0_0_ k_ ∨ P0_1_ k_) ∨ w.heap.size ≤ k_) ∧ k_ ≠ gb415) k_ from fun k_ hk => ⟨(.inr (Nat.le_trans (below_size (bU1 HB.out GE415.out)) hk)), Kd.freshB (g := gb415) (o := .cells #[.slice A0_0 l0_0.length c0_0, .slice A0_1 l0_1.length c0_1] 29 (0, 0)) (kU BK415.out) k_ hk⟩) _ (Nat.le_refl _)) (Below.refl _ _) (Nat.le_refl _) (by simp) ?_; (case hd => rfl); (case hg => rfl); (case hr => first | (go_simp; done) | (go_simp; rfl)); (case hp => exact (Reps.one (show Kd.FK (Kd.slice 3 (Kd.int .i64)) _ _ l0_0 [.slice A0_0 l0_0.length c0_0] from (Kd.FK_slice_mk (Kd.V_reads' (Kd.V_mono (ok' := (fun k_ => ((P0_0_ k_ ∨ P0_1_ k_) ∨ w.heap.size ≤ k_) ∧ k_ ≠ gb415)) (HO_Z0.out) (fun k_ hk => ⟨hk.1, hk.2⟩))).2.1 (Kd.V_F (Kd.V_mono (ok' := (fun k_ => ((P0_0_ k_ ∨ P0_1_ k_) ∨ w.heap.size ≤ k_) ∧ k_ ≠ gb415)) (HO_Z0.out) (fun k_ hk => ⟨hk.1, hk.2⟩))))) (Reps.one (show Kd.FK (Kd.slice 3 (Kd.int .i64)) _ _ l0_1 [.slice A0_1 l0_1.length c0_1] from (Kd.FK_slice_mk (Kd.V_reads' (Kd.V_mono (ok' := (fun k_ => ((P0_0_ k_ ∨ P0_1_ k_) ∨ w.heap.size ≤ k_) ∧ k_ ≠ gb415)) (HO_Z1.out) (fun k_ hk => ⟨hk.1, hk.2⟩))).2.1 (Kd.V_F (Kd.V_mono (ok' := (fun k_ => ((P0_0_ k_ ∨ P0_1_ k_) ∨ w.heap.size ≤ k_) ∧ k_ ≠ gb415)) (HO_Z1.out) (fun k_ hk => ⟨hk.1, hk.2⟩))))) (Reps.none _ _)))); intro v421 w33 ho34 hb hg_ hnew_; clear hg_ hnew_; (first | rw [← Ny420.out] at ho34 | (simp only [Int.reduceToNat] at ho34; rw [← Ny420.out] at ho34)); have n0_ := Az (Kd.V_elder' (vU HO_25.out) z5_16 hb); have n1_ := Az (Kd.V_elder' (vU HO_Z0.out) z5_16 hb); have n2_ := Az (Kd.V_elder' (vU HO_Z1.out) z5_16 hb); have n3_ := Az (Kd.N_lower ho34 (below_size (bU1 HB.out GE415.out))); have n4_ := kB BK415.out hb; have n5_ := Az z5_11; clear HO_25 HO_Z0 HO_Z1 BK415 HB; have HO_25 := n0_; have HO_Z0 := n1_; have HO_Z1 := n2_; have HO422 := n3_; have BK415 := n4_; have HB := n5_; clear n0_ n1_ n2_ n3_ n4_ n5_ hb ho34; obtain ⟨Ao35, co35, eo35⟩ := Kd.N_slice HO422.out; subst eo35) | ((with_reducible refine gK 107 rfl ?_); refine gC (some 50) Try.func107 #[.slice Ao35 y420.length co35] ?_; (with_reducible refine (impl_orbits.calls k2 _ _ y420 t423 _ ?_ ?_ A30.out).mono ?_); exact cU ((Kd.N_reads' HO422.out).2.2); exact (Kd.N_reads' HO422.out).2.1; rintro e w36 ⟨v424, rfl, ho0, hb⟩; refine ⟨_, rfl, ?_⟩; have n0_ := Az (Kd.V_elder' (vU HO_25.out) (Kd.R_base ho0) hb); have n1_ := Az (Kd.V_elder' (vU HO_Z0.out) (Kd.R_base ho0) hb); have n2_ := Az (Kd.V_elder' (vU HO_Z1.out) (Kd.R_base ho0) hb); have n3_ := Az (Kd.N_elder' (nU HO422.out) (Kd.R_base ho0) hb); have n4_ := Az (Kd.R_lower (Kd.R_newM (M := fun k_ => (w.heap.size ≤ k_)) ho0 (below_size (bU1 HB.out GE415.out)) (fun k_ h_ => h_)) (below_size (bU1 HB.out GE415.out))); have n5_ := kB BK415.out hb; have n6_ := Az z5_11; clear HO_25 HO_Z0 HO_Z1 HO422 BK415 HB; have HO_25 := n0_; have HO_Z0 := n1_; have HO_Z1 := n2_; have HO422 := n3_; have HO425 := n4_; have BK415 := n5_; have HB := n6_; clear n0_ n1_ n2_ n3_ n4_ n5_ n6_ hb ho0; obtain ⟨Ao37, co37, eo37⟩ := Kd.R_slice HO425.out; subst eo37) | ((with_reducible refine gK 106 rfl ?_); refine gC (some 51) Try.func106 #[.slice Ao37 t423.length co37] ?_; (with_reducible refine (slices_Max_int_int.calls k2 _ _ t423 t426 _ ?_ ?_ A31.out).mono ?_); exact cU ((Kd.R_reads' HO425.out).2.2); exact (Kd.R_reads' HO425.out).2.1; rintro e w38 ⟨rfl, hb⟩; refine ⟨_, rfl, ?_⟩; have n0_ := vB HO_25.out hb; have n1_ := vB HO_Z0.out hb; have n2_ := vB HO_Z1.out hb; have n3_ := nB HO422.out hb; have n4_ := rB HO425.out hb; have n5_ := kB BK415.out hb; have n6_ := Az z5_11; clear HO_25 HO_Z0 HO_Z1 HO422 HO425 BK415 HB; have HO_25 := n0_; have HO_Z0 := n1_; have HO_Z1 := n2_; have HO422 := n3_; have HO425 := n4_; have BK415 := n5_; have HB := n6_; clear n0_ n1_ n2_ n3_ n4_ n5_ n6_ hb))
     go_ret; exact ⟨rE, bU1 HB.out GE415.out⟩
def dfar.at : Nat → List Int → Int → List Int → Int → Option (List Int)
 | 0, _, _, _, _ => none
 | k + 1, t, n, xs, d => if 0 ≤ d then (if d < (xs.length : Int) then (if rd xs d < 0 then (if d < (t.length : Int) then dfar.at k t n (xs.set d.toNat n) (rd t d) else none) else some xs) else none) else none
set_option maxHeartbeats 4000000 in
set_option maxRecDepth 100000 in
theorem dfar.at_calls (k : Nat) (A0 : Option Addr) (c0 : Nat) (l0 : List Int) (A1 : Option Addr) (c1 : Nat) (l1 : List Int) (gM gF g n cF : Nat) (d nn : Int) (xs r : List Int) (w0 w : World)
  (hB : Below w0.heap.size w0 w) (hg : w0.heap.size ≤ g)
  (hM : w.heap[gM]? = some (.cells #[.slice A0 l0.length c0, .slice A1 l1.length c1] 29 (0, 0))) (hF : w.heap[gF]? = some (.cells #[.slice (some ⟨g, 0, none⟩) n cF] 23 (0, 0)))
  (hR : Kd.R (Kd.int .i64) 3 w w0.heap.size (fun _ => True) (.slice (some ⟨g, 0, none⟩) n cF) xs)
  (hr0 : Kd.C (Kd.int .i64) w0 A0 l0.length l0) (h : dfar.at k l0 nn xs d = some r) :
  Calls Try.prog 109 #[.int .i64 d, .int .i64 nn, .pointer (some ⟨gF, 0, none⟩), .pointer (some ⟨gM, 0, none⟩)] w fun e w' => e = .returned (.tuple #[]) ∧ Kd.R (Kd.int .i64) 3 w' w0.heap.size (fun _ => True) (.slice (some ⟨g, 0, none⟩) n cF) r ∧ Below w0.heap.size w0 w' ∧
   w'.heap[gM]? = some (.cells #[.slice A0 l0.length c0, .slice A1 l1.length c1] 29 (0, 0)) ∧ w'.heap[gF]? = some (.cells #[.slice (some ⟨g, 0, none⟩) n cF] 23 (0, 0)) := by
 have hu29 := Try.underlying29; have HB := Az hB; have BM := Az hM; have BF := Az hF; have HO := Az hR; have HR0 := Az hr0; have H' := Az h; clear hB hM hF hR hr0 h; go_enter Try.func109, Try.ntmps109; go_wp2
 go_loopg [0] k (fun kq v0 w' => ∃ (d' : Int) (xs' : List Int), v0 = .int .i64 d' ∧ Aside0 (dfar.at kq l0 nn xs' d' = some r) ∧ Aside0 (kq ≤ k) ∧ Aside0 (Kd.R (Kd.int .i64) 3 w' w0.heap.size (fun _ => True) (.slice (some ⟨g, 0, none⟩) n cF) xs') ∧ Aside0 (w'.heap[gM]? = some (.cells #[.slice A0 l0.length c0, .slice A1 l1.length c1] 29 (0, 0))) ∧ Aside0 (w'.heap[gF]? = some (.cells #[.slice (some ⟨g, 0, none⟩) n cF] 23 (0, 0))) ∧ Aside0 (Below w0.heap.size w0 w'))
 case atStart => exact ⟨d, xs, rfl, H', ⟨Nat.le_refl _⟩, HO, BM, BF, HB⟩
 case round =>
  clear H' HO BM BF HB; obtain ⟨d', xs', rfl, HA, HK1, HO, BM, BF, HB⟩ := hrel
  rcases gk with _ | k1
  exact (nN HA.out).elim; have H := HA.out; clear HA; simp only [dfar.at] at H; have hnx : n = xs'.length := (Kd.R_reads' HO.out).1
  by_cases c1_ : 0 ≤ d'
  ·
   rw [if_pos c1_] at H
   by_cases c2_ : d' < (xs'.length : Int)
   ·
    rw [if_pos c2_] at H
    have c2n : d' < (n : Int) := by rw [hnx]; exact c2_
    have hx1 : wr.cell? ⟨g, d'.toNat, none⟩ = some (.int .i64 (rd xs' d')) := (Kd.R_celln 0 HO.out d' c1_ c2n).1; have hf1 := (Kd.R_celln 0 HO.out d' c1_ c2n).2; clear hnx; have p1 : (0 ≤ d') = True := eq_true c1_; have q1 : (d' < (n : Int)) = True := eq_true c2n; have hcf : wr.cell? ⟨gF, 0, none⟩ = some (.slice (some ⟨g, 0, none⟩) n cF) := (blk_cell BF.out 0).trans rfl
    by_cases c3_ : rd xs' d' < 0
    ·
     rw [if_pos c3_] at H; have c3b : decide (rd xs' d' < 0) = true := decide_eq_true c3_
     by_cases c4_ : d' < (l0.length : Int)
     ·
      rw [if_pos c4_] at H; have q4 : (d' < (l0.length : Int)) = True := eq_true c4_; obtain ⟨ad, e0, hx0⟩ := Kd.at_int HR0.out d' c1_ c4_
      cases e0
      have HX0 := Az hx0; have HH := Az H; have HP := Az (Kd.R_putn HO.out d' nn)
      have neM : gM ≠ g := fun e => Kd.R_ne HO.out BM.out (by decide) (by rw [e]; rfl)
      have neF : gF ≠ g := fun e => Kd.R_ne HO.out BF.out (by decide) (by rw [e]; rfl)
      clear H c1_ c2_ c2n c3_ c4_ hx0
      go_wp2_with (first | ((with_reducible refine gs 3 14 rfl ?_); refine sE 3 14 (wr.setCell ⟨g, d'.toNat, none⟩ (.int .i64 nn)) ?_; intro w15 hw; have n1 := Az (by rw [hw]; exact HP.out : Kd.R (Kd.int .i64) 3 w15 w0.heap.size (fun _ => True) (.slice (some ⟨g, 0, none⟩) n cF) (xs'.set d'.toNat nn)); have n2 := Az (by rw [hw]; exact blk_far BM.out (p := ⟨g, d'.toNat, none⟩) neM _ : w15.heap[gM]? = some (.cells #[.slice (some ad) l0.length c0, .slice A1 l1.length c1] 29 (0, 0))); have n3 := Az (by rw [hw]; exact blk_far BF.out (p := ⟨g, d'.toNat, none⟩) neF _ : w15.heap[gF]? = some (.cells #[.slice (some ⟨g, 0, none⟩) n cF] 23 (0, 0))); have n4 := Az (by rw [hw]; exact below_set HB.out hg : Below w0.heap.size w0 w15); clear HO BM BF HB HP hw hx1 hf1 hcf; have HO := n1; have BM := n2; have BF := n3; have HB := n4; clear n1 n2 n3 n4; have hcm : w15.cell? ⟨gM, 0, none⟩ = some (.slice (some ad) l0.length c0) := (blk_cell BM.out 0).trans rfl; have hxt := (HB.out.cell (World.block_lt_of_cell? w0 _ HX0.out)).trans HX0.out))
      (first | go_roundg k1 | (refine Handed.intro k1 ?measure ?_; rotate_left; go_step; (try simp only [add_plain]); (repeat apply Exists.intro); refine ⟨?rel, rfl⟩))
      case measure => exact mO
      case rel => exact ⟨_, _, rfl, HH, ⟨mO⟩, HO, BM, BF, HB⟩
     ·
      rw [if_neg c4_] at H
      cases H
    · rw [if_neg c3_] at H; have c3b : decide (rd xs' d' < 0) = false := decide_eq_false c3_; obtain rfl := Option.some.inj H; go_wp2; refine bodyPost_end (results_none rfl _ _ _) rfl ?_; exact ⟨rfl, HO.out, HB.out, BM.out, BF.out⟩
   ·
    rw [if_neg c2_] at H
    cases H
  ·
   rw [if_neg c1_] at H
   cases H
def dfar.l0 : Nat → List Int → Int → Int → Option (List Int)
 | 0, _, _, _ => none
 | k + 1, xs, i, m => if i < m then (if 0 ≤ i then (if i < (xs.length : Int) then dfar.l0 k (xs.set i.toNat (-1)) (wrap64 (i + 1)) m else none) else none) else some xs
def dfar.l2 : Nat → List Int → List Int → Int → List Int → Int → Option (List Int)
 | 0, _, _, _, _, _ => none
 | k + 1, t, f, n, xs, i => if i < (f.length : Int) then (if 0 ≤ i then (if i < (xs.length : Int) then (if rd xs i = n then ((dfar.at k t (wrap64 (n + 1)) xs (rd f i)).bind fun ys => dfar.l2 k t f n ys (wrap64 (i + 1))) else dfar.l2 k t f n xs (wrap64 (i + 1))) else none) else none) else some xs
def dfar.l1 : Nat → List Int → List Int → List Int → Int → Option (List Int)
 | 0, _, _, _, _ => none
 | k + 1, t, f, xs, n => if n < (t.length : Int) then ((dfar.l2 k t f n xs 0).bind fun ys => dfar.l1 k t f ys (wrap64 (n + 1))) else some xs
def impl_distancesFrom.f (k : Nat) (t f : List Int) (a : Int) : Option (List Int) := if 0 < t.length ∧ t.length ≤ 1048576 then ((dfar.l0 k (List.replicate t.length 0) 0 (t.length : Int)).bind fun xs => (dfar.at k t 0 xs a).bind fun ys => dfar.l1 k t f ys 0) else none
theorem dfar.mono_at : ∀ k, (∀ y0 y1 y2 y3, LeO (dfar.at k y0 y1 y2 y3) (dfar.at (k + 1) y0 y1 y2 y3))
 | 0 => fun _ _ _ _ r h => by simp [dfar.at] at h
 | k + 1 => by
  have ih0 := dfar.mono_at k; intro y0 y1 y2 y3
  unfold dfar.at
  repeat' first
   | (with_reducible exact ih0 _ _ _ _)
   | (with_reducible exact LeO.refl _)
   | (with_reducible refine LeO.ite ?_ ?_)
theorem dfar.mono_l0 : ∀ k, (∀ y0 y1 y2, LeO (dfar.l0 k y0 y1 y2) (dfar.l0 (k + 1) y0 y1 y2))
 | 0 => fun _ _ _ r h => by simp [dfar.l0] at h
 | k + 1 => by
  have ih0 := dfar.mono_l0 k; intro y0 y1 y2
  unfold dfar.l0
  repeat' first
   | (with_reducible exact ih0 _ _ _)
   | (with_reducible exact LeO.refl _)
   | (with_reducible refine LeO.ite ?_ ?_)
theorem dfar.mono_l2 : ∀ k, (∀ y0 y1 y2 y3 y4, LeO (dfar.l2 k y0 y1 y2 y3 y4) (dfar.l2 (k + 1) y0 y1 y2 y3 y4))
 | 0 => fun _ _ _ _ _ r h => by simp [dfar.l2] at h
 | k + 1 => by
  have ih0 := dfar.mono_l2 k; intro y0 y1 y2 y3 y4
  unfold dfar.l2
  exact LeO.ite (LeO.ite (LeO.ite (LeO.ite (LeO.bind (dfar.mono_at k _ _ _ _) (fun _ => ih0 _ _ _ _ _)) (ih0 _ _ _ _ _)) (LeO.refl _)) (LeO.refl _)) (LeO.refl _)
theorem dfar.mono_l1 : ∀ k, (∀ y0 y1 y2 y3, LeO (dfar.l1 k y0 y1 y2 y3) (dfar.l1 (k + 1) y0 y1 y2 y3))
 | 0 => fun _ _ _ _ r h => by simp [dfar.l1] at h
 | k + 1 => by
  have ih0 := dfar.mono_l1 k; intro y0 y1 y2 y3
  unfold dfar.l1
  exact LeO.ite (LeO.bind (dfar.mono_l2 k _ _ _ _ _) (fun _ => ih0 _ _ _ _)) (LeO.refl _)
theorem impl_distancesFrom.mono : ∀ a0 a1 a2 k, LeO (impl_distancesFrom.f k a0 a1 a2) (impl_distancesFrom.f (k + 1) a0 a1 a2) := by
 intro a0 a1 a2 k
 unfold impl_distancesFrom.f
 exact LeO.ite (LeO.bind (dfar.mono_l0 k _ _ _) (fun _ => LeO.bind (dfar.mono_at k _ _ _ _) (fun _ => dfar.mono_l1 k _ _ _ _))) (LeO.refl _)
set_option maxHeartbeats 4000000 in
set_option maxRecDepth 100000 in
theorem impl_distancesFrom.calls (k : Nat) (A0_0 : Option Addr) (c0_0 : Nat) (l0_0 : List Int) (A0_1 : Option Addr) (c0_1 : Nat) (l0_1 : List Int) (a1 : Int) (r : List Int) (w : World) (hr0_0 : Kd.C (Kd.int .i64) w A0_0 l0_0.length l0_0) (hc0_0 : l0_0.length ≤ c0_0) (hr0_1 : Kd.C (Kd.int .i64) w A0_1 l0_1.length l0_1) (hc0_1 : l0_1.length ≤ c0_1) (h : impl_distancesFrom.f k l0_0 l0_1 a1 = some r) :
  Calls Try.prog 88 #[.agg #[.slice A0_0 l0_0.length c0_0, .slice A0_1 l0_1.length c0_1], .int .i64 a1] w fun e w' => ∃ v0_ : Value, e = .returned v0_ ∧ Kd.R (Kd.int .i64) 3 w' w.heap.size (fun _ => True) v0_ r ∧ Below w.heap.size w w' := by
 have hu29 := Try.underlying29; have HR0 := Az hr0_0; have HR1 := Az hr0_1; have HB := bZ w; clear hr0_0 hr0_1
 unfold impl_distancesFrom.f at h
 by_cases hn : 0 < l0_0.length ∧ l0_0.length ≤ 1048576
 ·
  rw [if_pos hn] at h; obtain ⟨xs1, h1, h⟩ := Option.bind_eq_some_iff.mp h; obtain ⟨xs2, h2, h3⟩ := Option.bind_eq_some_iff.mp h; clear h; have H1 := Az h1; have H2 := Az h2; have H3 := Az h3; have HN := Az hn; clear h1 h2 h3 hn; go_enter Try.func88, Try.ntmps88
  go_wp2_with (first | ((with_reducible refine gd 2 rfl ?_); refine bE 2 #[.slice A0_0 l0_0.length c0_0, .slice A0_1 l0_1.length c0_1] 29 ?_; intro gM hg w5 hbox hb; have n1 := Az (below_step HB.out hb); have BM := Az hbox; have GM := Az ((by rw [hg]; exact below_size HB.out) : w.heap.size ≤ gM); clear HB hb hbox hg; have HB := n1; clear n1; have hcz0 := cz BM.out 0) | ((with_reducible refine gd 14 rfl ?_); refine Kd.R_make (Kd.int .i64) _ 3 rfl (N := 14) rfl 23 _ _ rfl (l0_0.length : Int) rfl rfl Try.underlying23 (.int .i64 0) 8 info3 rfl (by decide) (by omega) 0 (ok := fun _ => True) (okp := fun _ => True) rfl (fun _ hk => hk) trivial (by omega) (by have := HN.out; omega) (Below.refl _ _) (Nat.le_refl _) ?_; intro v14 w6 ho6 hb hg_ hnew_; clear hg_ hnew_; rw [Int.toNat_natCast] at ho6; obtain ⟨g, cF, ev, gb, gl, _⟩ := Kd.R_form ho6 (by rw [List.length_replicate]; exact HN.out.1); have n1 := Az (Kd.R_lower ho6 (below_size HB.out)); have GG := Az (Nat.le_trans (below_size HB.out) gb); subst ev; have n2 := Az (below_step HB.out hb); have n3 := Az (blk_below BM.out hb); clear HB BM hb ho6 gb gl hcz0; have HO := n1; have HB := n2; have BM := n3; clear n1 n2 n3; rw [List.length_replicate] at HO ⊢))
  have n1 := blk_alloc BM.out (.cells #[.slice (some ⟨g, 0, none⟩) l0_0.length cF] 23); have n2 := Kd.R_alloc HO.out (.cells #[.slice (some ⟨g, 0, none⟩) l0_0.length cF] 23); have n3 := below_alloc HB.out (.cells #[.slice (some ⟨g, 0, none⟩) l0_0.length cF] 23); have n4 := blk_new w6 (.cells #[.slice (some ⟨g, 0, none⟩) l0_0.length cF] 23); clear BM HO HB; generalize hw7 : w6.alloc (.cells #[.slice (some ⟨g, 0, none⟩) l0_0.length cF] 23) = w7 at n1 n2 n3 n4 ⊢; generalize hgF : w6.heap.size = gF at n4 ⊢; clear hw7 hgF; have HB := Az n3; have BM := Az n1; have BF := Az n4; have HO := Az n2; clear n1 n2 n3 n4 GM
  go_loopg [17] k (fun kq v17 w' => ∃ (i : Int) (xs' : List Int), v17 = .int .i64 i ∧ Aside0 (dfar.l0 kq xs' i (l0_0.length : Int) = some xs1) ∧ Aside0 (kq ≤ k) ∧ Aside0 (Kd.R (Kd.int .i64) 3 w' w.heap.size (fun _ => True) (.slice (some ⟨g, 0, none⟩) l0_0.length cF) xs') ∧ Aside0 (w'.heap[gM]? = some (.cells #[.slice A0_0 l0_0.length c0_0, .slice A0_1 l0_1.length c0_1] 29 (0, 0))) ∧ Aside0 (w'.heap[gF]? = some (.cells #[.slice (some ⟨g, 0, none⟩) l0_0.length cF] 23 (0, 0))) ∧ Aside0 (Below w.heap.size w w'))
  case atStart => exact ⟨0, _, rfl, H1, ⟨Nat.le_refl _⟩, HO, BM, BF, HB⟩
  case round =>
   clear H1 HO BM BF HB; obtain ⟨i, xs', rfl, HA, HK1, HO, BM, BF, HB⟩ := hrel
   rcases gk with _ | k1
   exact (nN HA.out).elim; have H := HA.out; clear HA; simp only [dfar.l0] at H; have hnx : l0_0.length = xs'.length := (Kd.R_reads' HO.out).1
   by_cases c1_ : i < (l0_0.length : Int)
   ·
    rw [if_pos c1_] at H; have c1b : decide (i < (l0_0.length : Int)) = true := decide_eq_true c1_
    by_cases c2_ : 0 ≤ i
    ·
     rw [if_pos c2_] at H
     by_cases c3_ : i < (xs'.length : Int)
     ·
      rw [if_pos c3_] at H; have p1 : (0 ≤ i) = True := eq_true c2_; have q1 : (i < (l0_0.length : Int)) = True := eq_true c1_; have hcf : wr.cell? ⟨gF, 0, none⟩ = some (.slice (some ⟨g, 0, none⟩) l0_0.length cF) := (blk_cell BF.out 0).trans rfl; have hx1 : wr.cell? ⟨g, i.toNat, none⟩ = some (.int .i64 (rd xs' i)) := (Kd.R_celln 0 HO.out i c2_ c1_).1; have hf1 := (Kd.R_celln 0 HO.out i c2_ c1_).2; have HP := Az (Kd.R_putn HO.out i (-1)); have HH := Az H
      have neM : gM ≠ g := fun e => Kd.R_ne HO.out BM.out (by decide) (by rw [e]; rfl)
      have neF : gF ≠ g := fun e => Kd.R_ne HO.out BF.out (by decide) (by rw [e]; rfl)
      clear H c1_ c2_ c3_ hnx; go_wp2; go_roundg k1
      case measure => exact mO
      case rel => exact ⟨_, _, rfl, HH, ⟨mO⟩, HP, ⟨blk_far BM.out (p := ⟨g, i.toNat, none⟩) neM _⟩, ⟨blk_far BF.out (p := ⟨g, i.toNat, none⟩) neF _⟩, ⟨below_set HB.out GG.out⟩⟩
     ·
      rw [if_neg c3_] at H
      cases H
    ·
     rw [if_neg c2_] at H
     cases H
   ·
    rw [if_neg c1_] at H; have c1b : decide (i < (l0_0.length : Int)) = false := decide_eq_false c1_; obtain rfl := Option.some.inj H; clear H hnx c1_
    go_wp2_with (first | (go_at_call 109; (refine (dfar.at_calls k A0_0 c0_0 l0_0 A0_1 c0_1 l0_1 gM gF g l0_0.length cF a1 0 _ xs2 w _ HB.out GG.out BM.out BF.out HO.out HR0.out H2.out).mono ?_; rintro e w16 ⟨rfl, ho, hb, hm, hf⟩; clear HO BM BF HB; have HO := Az ho; have BM := Az hm; have BF := Az hf; have HB := Az hb; clear ho hm hf hb; have hcm0 : w16.cell? ⟨gM, 0, none⟩ = some (.slice A0_0 l0_0.length c0_0) := (blk_cell BM.out 0).trans rfl; have hcm1 : w16.cell? ⟨gM, 1, none⟩ = some (.slice A0_1 l0_1.length c0_1) := (blk_cell BM.out 1).trans rfl)))
    clear H2
    go_loopg [31] k (fun kq v31 w' => ∃ (nn : Int) (xs' : List Int), v31 = .int .i64 nn ∧ Aside0 (dfar.l1 kq l0_0 l0_1 xs' nn = some r) ∧ Aside0 (kq ≤ k) ∧ Aside0 (Kd.R (Kd.int .i64) 3 w' w.heap.size (fun _ => True) (.slice (some ⟨g, 0, none⟩) l0_0.length cF) xs') ∧ Aside0 (w'.heap[gM]? = some (.cells #[.slice A0_0 l0_0.length c0_0, .slice A0_1 l0_1.length c0_1] 29 (0, 0))) ∧ Aside0 (w'.heap[gF]? = some (.cells #[.slice (some ⟨g, 0, none⟩) l0_0.length cF] 23 (0, 0))) ∧ Aside0 (Below w.heap.size w w'))
    case atStart => exact ⟨0, _, rfl, H3, ⟨Nat.le_refl _⟩, HO, BM, BF, HB⟩
    case round =>
     clear H3 HO BM BF HB c1b; obtain ⟨nn, xs', rfl, HA, HK1, HO, BM, BF, HB⟩ := hrel
     rcases gk with _ | k1
     exact (nN HA.out).elim; have H := HA.out; clear HA; simp only [dfar.l1] at H; have hcm1 : wr.cell? ⟨gM, 1, none⟩ = some (.slice A0_1 l0_1.length c0_1) := (blk_cell BM.out 1).trans rfl; have hcf : wr.cell? ⟨gF, 0, none⟩ = some (.slice (some ⟨g, 0, none⟩) l0_0.length cF) := (blk_cell BF.out 0).trans rfl
     by_cases c1_ : nn < (l0_0.length : Int)
     ·
      rw [if_pos c1_] at H; have c1b : decide (nn < (l0_0.length : Int)) = true := decide_eq_true c1_; obtain ⟨ys, h4, h5⟩ := Option.bind_eq_some_iff.mp H; have H4 := Az h4; have H5 := Az h5; clear h4 h5 H c1_; go_wp2; clear hcm1 hcf c1b
      go_loopg [37] k1 (fun kq v37 w' => ∃ (i : Int) (xs' : List Int), v37 = .int .i64 i ∧ Aside0 (dfar.l2 kq l0_0 l0_1 nn xs' i = some ys) ∧ Aside0 (kq ≤ k1) ∧ Aside0 (Kd.R (Kd.int .i64) 3 w' w.heap.size (fun _ => True) (.slice (some ⟨g, 0, none⟩) l0_0.length cF) xs') ∧ Aside0 (w'.heap[gM]? = some (.cells #[.slice A0_0 l0_0.length c0_0, .slice A0_1 l0_1.length c0_1] 29 (0, 0))) ∧ Aside0 (w'.heap[gF]? = some (.cells #[.slice (some ⟨g, 0, none⟩) l0_0.length cF] 23 (0, 0))) ∧ Aside0 (Below w.heap.size w w'))
      case atStart => exact ⟨0, _, rfl, H4, ⟨Nat.le_refl _⟩, HO, BM, BF, HB⟩
      case round =>
       clear H4 HO BM BF HB; obtain ⟨i, xs', rfl, HA, HK2, HO, BM, BF, HB⟩ := hrel
       rcases gk with _ | k2
       exact (nN HA.out).elim; have H := HA.out; clear HA; simp only [dfar.l2] at H; have hnx : l0_0.length = xs'.length := (Kd.R_reads' HO.out).1; have hcf : wr.cell? ⟨gF, 0, none⟩ = some (.slice (some ⟨g, 0, none⟩) l0_0.length cF) := (blk_cell BF.out 0).trans rfl
       by_cases c1_ : i < (l0_1.length : Int)
       ·
        rw [if_pos c1_] at H; have c1b : decide (i < (l0_1.length : Int)) = true := decide_eq_true c1_
        by_cases c2_ : 0 ≤ i
        ·
         rw [if_pos c2_] at H
         by_cases c3_ : i < (xs'.length : Int)
         ·
          rw [if_pos c3_] at H
          have c3n : i < (l0_0.length : Int) := by rw [hnx]; exact c3_
          have p1 : (0 ≤ i) = True := eq_true c2_; have q1 : (i < (l0_0.length : Int)) = True := eq_true c3n; have q2 : (i < (l0_1.length : Int)) = True := eq_true c1_; have hx1 : wr.cell? ⟨g, i.toNat, none⟩ = some (.int .i64 (rd xs' i)) := (Kd.R_celln 0 HO.out i c2_ c3n).1; obtain ⟨ad, e0, hx0⟩ := Kd.at_int HR1.out i c2_ c1_
          cases e0
          have hx2 := (HB.out.cell (World.block_lt_of_cell? w _ hx0)).trans hx0; clear hnx c1_ c2_ c3_ c3n hx0
          by_cases c4_ : rd xs' i = nn
          ·
           rw [if_pos c4_] at H; have c4b : (rd xs' i == nn) = true := beq_iff_eq.mpr c4_; obtain ⟨zs, h6, h7⟩ := Option.bind_eq_some_iff.mp H; have H6 := Az h6; have H7 := Az h7; clear h6 h7 H c4_
           go_wp2_with (first | (go_at_call 109; (refine (dfar.at_calls k2 A0_0 c0_0 l0_0 _ c0_1 l0_1 gM gF g l0_0.length cF (rd l0_1 i) (wrap64 (nn + 1)) xs' zs w _ HB.out GG.out BM.out BF.out HO.out HR0.out H6.out).mono ?_; rintro e w16 ⟨rfl, ho, hb, hm, hf⟩; clear HO BM BF HB; have HO := Az ho; have BM := Az hm; have BF := Az hf; have HB := Az hb; clear ho hm hf hb)))
           go_roundg k2
           case measure => exact mO
           case rel => exact ⟨_, _, rfl, H7, ⟨mO⟩, HO, BM, BF, HB⟩
          ·
           rw [if_neg c4_] at H; have c4b : (rd xs' i == nn) = false := beq_eq_false_iff_ne.mpr c4_; have H7 := Az H; clear H c4_; go_wp2; go_roundg k2
           case measure => exact mO
           case rel => exact ⟨_, _, rfl, H7, ⟨mO⟩, HO, BM, BF, HB⟩
         ·
          rw [if_neg c3_] at H
          cases H
        ·
         rw [if_neg c2_] at H
         cases H
       ·
        rw [if_neg c1_] at H; have c1b : decide (i < (l0_1.length : Int)) = false := decide_eq_false c1_; obtain rfl := Option.some.inj H; clear H hnx c1_ hcf; go_wp2; go_roundg k1
        case measure => exact mO
        case rel => exact ⟨_, _, rfl, H5, ⟨mO⟩, HO, BM, BF, HB⟩
     · rw [if_neg c1_] at H; have c1b : decide (nn < (l0_0.length : Int)) = false := decide_eq_false c1_; obtain rfl := Option.some.inj H; clear H c1_; go_wp2; go_ret; exact ⟨_, rfl, HO.out, HB.out⟩
 ·
  rw [if_neg hn] at h
  cases h
end Go.Proofs.Ytlpbalebodlipaa.PK
