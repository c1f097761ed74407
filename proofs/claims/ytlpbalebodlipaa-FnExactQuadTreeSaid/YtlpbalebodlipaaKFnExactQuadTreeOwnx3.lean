/- A part of the proof of FnExactQuadTree. There are no conditions. -/
import Derived.Test.YtlpbalebodlipaaKFnExactQuadTreeOwnx2
namespace Go.Proofs.Ytlpbalebodlipaa.PL
open Go.RowKit Go.Proofs.YtlpbalebodlipaaW.PrintWords Go.Proofs.YtlpbalebodlipaaW.PrintLast Go.Proofs.YtlpbalebodlipaaW.PrintMore
theorem z3_0 {p : Prop} (h : p := by exact (below_step (bU1 HB.out GW517.out) hb)) : p := h
theorem z3_1 {p : Prop} (h : p := by exact (bU3 HB.out GW404.out GW405.out GW406.out)) : p := h
attribute [local go_sem] max2_int min2_int max_two min_two max_three min_three max_four min_four   -- for this text's walks alone
set_option linter.unusedVariables false
set_option linter.unusedSimpArgs false
def laws_szIntS.f (l0 : List Int) (a1 : Int) : Option (Int) := if (wrap64 (a1 - (l0.length : Int))) < 0 then (some (-1)) else (some (wrap64 (a1 - (l0.length : Int))))
set_option maxHeartbeats 8000000 in
set_option maxRecDepth 100000 in
theorem laws_szIntS.calls (A0 : Option Addr) (c0 : Nat) (l0 : List Int) (a1 : Int) (r : Int) (w : World) (hr0 : Kd.C (Kd.int .i64) w A0 l0.length l0) (hc0 : l0.length ≤ c0) (h : laws_szIntS.f l0 a1 = some r) :
  Calls Try.prog 69 #[.slice A0 l0.length c0, .int .i64 a1] w fun e w' => e = .returned (.int .i64 r) ∧ Drawn0 w w' := by
 have HR0 := Az hr0; have HC0 := Az hc0; clear hr0 hc0; have H := h; clear h; unfold laws_szIntS.f at H
 replace H := gB H; rcases H with ⟨c3b0, H⟩ | ⟨c3b0, H⟩
 · obtain rfl := Option.some.inj H; go_enter Try.func69, Try.ntmps69; go_wp2; go_ret; exact ⟨by first | rfl | (simp; done) | (simp [*]; done), by repeat (first | exact Drawn0.refl _ | apply Drawn0.step)⟩
 · obtain rfl := Option.some.inj H; go_enter Try.func69, Try.ntmps69; go_wp2; go_ret; exact ⟨by first | rfl | (simp; done) | (simp [*]; done), by repeat (first | exact Drawn0.refl _ | apply Drawn0.step)⟩
def laws_szMap.f (l0_0 : List Int) (l0_1 : List Int) (a1 : Int) : Option (Int) := (laws_szIntS.f l0_0 a1).bind fun t397 => (if t397 < 0 then (some (-1)) else ((laws_szIntS.f l0_1 t397).bind fun t398 => (if t398 < 0 then (some (-1)) else (some t398))))
set_option maxHeartbeats 8000000 in
set_option maxRecDepth 100000 in
theorem laws_szMap.calls (A0_0 : Option Addr) (c0_0 : Nat) (l0_0 : List Int) (A0_1 : Option Addr) (c0_1 : Nat) (l0_1 : List Int) (a1 : Int) (r : Int) (w : World) (hr0_0 : Kd.C (Kd.int .i64) w A0_0 l0_0.length l0_0) (hc0_0 : l0_0.length ≤ c0_0) (hr0_1 : Kd.C (Kd.int .i64) w A0_1 l0_1.length l0_1) (hc0_1 : l0_1.length ≤ c0_1) (h : laws_szMap.f l0_0 l0_1 a1 = some r) :
  Calls Try.prog 49 #[.agg #[.slice A0_0 l0_0.length c0_0, .slice A0_1 l0_1.length c0_1], .int .i64 a1] w fun e w' => e = .returned (.int .i64 r) ∧ Below w.heap.size w w' := by
 have hu62 := Try.underlying62; have HR0_0 := Az hr0_0; have HC0_0 := Az hc0_0; clear hr0_0 hc0_0; have HR0_1 := Az hr0_1; have HC0_1 := Az hc0_1; clear hr0_1 hc0_1; have HB := bZ w; have H := h; clear h; unfold laws_szMap.f at H; replace H := bd H; obtain ⟨t397, A3, H⟩ := H
 replace H := gB H; rcases H with ⟨c4b0, H⟩ | ⟨c4b0, H⟩
 ·
  obtain rfl := Option.some.inj H; go_enter Try.func49, Try.ntmps49
  go_wp2_with (first | ((with_reducible refine gd 2 rfl ?_); refine bE 2 #[.slice A0_0 l0_0.length c0_0, .slice A0_1 l0_1.length c0_1] 62 ?_; intro gb396 hg w5 hbox hb; have BK396 := Az (hbox); have GW396 := gW hg (bU0 HB.out); replace HB := Az (below_step (bU0 HB.out) hb); clear hb hbox hg; have hz6 := bc2 BK396.out) | ((with_reducible refine gK 69 rfl ?_); refine gC (some 8) Try.func69 #[.slice A0_0 l0_0.length c0_0, .int .i64 a1] ?_; (with_reducible refine (laws_szIntS.calls _ _ l0_0 a1 t397 _ ?_ ?_ A3.out).mono ?_); exact cU (Kd.C_below HR0_0.out HB.out); exact HC0_0.out; rintro e w' ⟨rfl, ⟨nd, rfl⟩⟩; refine ⟨_, rfl, ?_⟩))
  go_ret; exact ⟨rE, bU1 HB.out GW396.out⟩
 ·
  replace H := bd H; obtain ⟨t398, A7, H⟩ := H
  replace H := gB H; rcases H with ⟨c8b0, H⟩ | ⟨c8b0, H⟩
  ·
   obtain rfl := Option.some.inj H; go_enter Try.func49, Try.ntmps49
   go_wp2_with (first | ((with_reducible refine gd 2 rfl ?_); refine bE 2 #[.slice A0_0 l0_0.length c0_0, .slice A0_1 l0_1.length c0_1] 62 ?_; intro gb396 hg w9 hbox hb; have BK396 := Az (hbox); have GW396 := gW hg (bU0 HB.out); replace HB := Az (below_step (bU0 HB.out) hb); clear hb hbox hg; have hz10 := bc2 BK396.out) | ((with_reducible refine gK 69 rfl ?_); refine gC (some 8) Try.func69 #[.slice A0_0 l0_0.length c0_0, .int .i64 a1] ?_; (with_reducible refine (laws_szIntS.calls _ _ l0_0 a1 t397 _ ?_ ?_ A3.out).mono ?_); exact cU (Kd.C_below HR0_0.out HB.out); exact HC0_0.out; rintro e w' ⟨rfl, ⟨nd, rfl⟩⟩; refine ⟨_, rfl, ?_⟩) | ((with_reducible refine gK 69 rfl ?_); refine gC (some 14) Try.func69 #[.slice A0_1 l0_1.length c0_1, .int .i64 t397] ?_; (with_reducible refine (laws_szIntS.calls _ _ l0_1 t397 t398 _ ?_ ?_ A7.out).mono ?_); exact cU (Kd.C_below HR0_1.out (bU1 HB.out GW396.out)); exact HC0_1.out; rintro e w' ⟨rfl, ⟨nd, rfl⟩⟩; refine ⟨_, rfl, ?_⟩))
   go_ret; exact ⟨rE, bU1 HB.out GW396.out⟩
  ·
   obtain rfl := Option.some.inj H; go_enter Try.func49, Try.ntmps49
   go_wp2_with (first | ((with_reducible refine gd 2 rfl ?_); refine bE 2 #[.slice A0_0 l0_0.length c0_0, .slice A0_1 l0_1.length c0_1] 62 ?_; intro gb396 hg w11 hbox hb; have BK396 := Az (hbox); have GW396 := gW hg (bU0 HB.out); replace HB := Az (below_step (bU0 HB.out) hb); clear hb hbox hg; have hz12 := bc2 BK396.out) | ((with_reducible refine gK 69 rfl ?_); refine gC (some 8) Try.func69 #[.slice A0_0 l0_0.length c0_0, .int .i64 a1] ?_; (with_reducible refine (laws_szIntS.calls _ _ l0_0 a1 t397 _ ?_ ?_ A3.out).mono ?_); exact cU (Kd.C_below HR0_0.out HB.out); exact HC0_0.out; rintro e w' ⟨rfl, ⟨nd, rfl⟩⟩; refine ⟨_, rfl, ?_⟩) | ((with_reducible refine gK 69 rfl ?_); refine gC (some 14) Try.func69 #[.slice A0_1 l0_1.length c0_1, .int .i64 t397] ?_; (with_reducible refine (laws_szIntS.calls _ _ l0_1 t397 t398 _ ?_ ?_ A7.out).mono ?_); exact cU (Kd.C_below HR0_1.out (bU1 HB.out GW396.out)); exact HC0_1.out; rintro e w' ⟨rfl, ⟨nd, rfl⟩⟩; refine ⟨_, rfl, ?_⟩))
   go_ret; exact ⟨rE, bU1 HB.out GW396.out⟩
def laws_toIntS.l0 : Nat → List Int → List Int → Int → Option (List Int)
 | 0, _, _, _ => none
 | k + 1, x0, x3, x4 => if x4 < (x0.length : Int) then (if 0 ≤ x4 then (if x4 < (x3.length : Int) then (laws_toIntS.l0 k x0 (x3.set (x4 : Int).toNat (rd x0 x4)) (wrap64 (x4 + 1))) else (none)) else (none)) else (some x3)
def laws_toIntS.f (k : Nat) (l0 : List Int) : Option (List Int) := if 0 ≤ (l0.length : Int) then (if ((l0.length : Int) : Int).toNat ≤ 35184372088832 then (laws_toIntS.l0 k l0 (List.replicate ((l0.length : Int) : Int).toNat 0) 0) else (none)) else (none)
set_option maxHeartbeats 8000000 in
set_option maxRecDepth 100000 in
theorem laws_toIntS.calls (k : Nat) (A0 : Option Addr) (c0 : Nat) (l0 : List Int) (r : List Int) (w : World) (hr0 : Kd.C (Kd.int .i64) w A0 l0.length l0) (hc0 : l0.length ≤ c0) (h : laws_toIntS.f k l0 = some r) :
  Calls Try.prog 74 #[.slice A0 l0.length c0] w fun e w' => ∃ v0_ : Value, e = .returned (v0_) ∧ Kd.R (Kd.int .i64) 3 w' w.heap.size (fun _ => True) v0_ r ∧ Below w.heap.size w w' := by
 have HR0 := Az hr0; have HC0 := Az hc0; clear hr0 hc0; have HB := bZ w; have H := h; clear h; unfold laws_toIntS.f at H; replace H := gE H; obtain ⟨c2b0, c2b1, H⟩ := H; replace H := gE H; obtain ⟨c3b0, c3b1, H⟩ := H; generalize Ny399 : (List.replicate ((l0.length : Int) : Int).toNat 0 : List Int) = y399 at H; replace Ny399 := Ay Ny399; have H' := Az H; clear H; go_enter Try.func74, Try.ntmps74
 go_wp2_with (first | ((with_reducible refine gd 7 rfl ?_); refine Kd.R_make (Kd.int .i64) _ 3 rfl (N := 7) rfl 23 _ _ rfl (l0.length : Int) rfl rfl Try.underlying23 (.int .i64 0) 8 info3 rfl (by decide) (by omega) 0 (ok := fun _ => True) (okp := fun _ => True) rfl (fun _ hk => hk) trivial (oA) (Nat.le_trans (Nat.mul_le_mul_right _ (oA : (l0.length : Int).toNat ≤ 35184372088832)) (by omega)) (Below.refl _ _) (Nat.le_refl _) ?_; intro v400 w4 ho5 hb hg_ hnew_; clear hg_ hnew_; (first | rw [← Ny399.out] at ho5 | (simp only [Int.reduceToNat] at ho5; rw [← Ny399.out] at ho5)); have HO401 := Az (Kd.R_lower ho5 (below_size (bU0 HB.out))); replace HB := Az (below_step (bU0 HB.out) hb); clear hb ho5))
 go_loopg [4] k (fun kq v4 w' => ∃ (x3_1 : List Int) (x4_1 : Int), v4 = .int .i64 x4_1 ∧ Aside0 (laws_toIntS.l0 kq l0 x3_1 x4_1 = some r) ∧ Aside0 (kq ≤ k) ∧ Aside0 (Kd.R (Kd.int .i64) 3 w' w.heap.size (fun _ => True) v400 x3_1) ∧ Aside0 (Below w.heap.size w w'))
 case atStart => exact ⟨(y399), (0), rS, H', ⟨Nat.le_refl _⟩, ⟨rU HO401.out⟩, ⟨bU0 HB.out⟩⟩
 case round =>
  clear H'; obtain ⟨x3_1, x4_1, rfl, HA, HK1, HO_3, HB⟩ := hrel
  rcases gk with _ | k1
  exact (nN HA.out).elim; have H := HA.out; clear HA; simp only [laws_toIntS.l0] at H
  replace H := gB H; rcases H with ⟨c6b0, H⟩ | ⟨c6b0, H⟩
  ·
   replace H := gD2 H; obtain ⟨c7b0, c8b0, H⟩ := H; generalize Ny403 : (x3_1.set (x4_1 : Int).toNat (rd l0 x4_1) : List Int) = y403 at H; replace Ny403 := Ay Ny403; have H' := Az H; clear H; obtain ⟨ad402, e402, _, _, hx402_0⟩ := aI HR0.out x4_1
   cases e402
   replace hx402_0 := hT HB.out hx402_0; have p9 : 0 ≤ (x4_1 : Int) := oA; have q9 : (x4_1 : Int) < ((x3_1.length : Int) : Int) := oA; obtain ⟨go9, co9, eo9, gb9, gl9, cl9, HG9⟩ := Kd.R_form HO_3.out (by omega); (first | cases eo9 | (injection eo9 with ea_ en_ ec_; (first | subst ea_ | (injection ea_ with ea_; subst ea_)); subst ec_; clear en_)); have GB9 := Az gb9; have GG9 := Az HG9; clear gb9 gl9 HG9; obtain ⟨hx9_0, hf9_0⟩ := Kd.R_celln 0 HO_3.out (x4_1 : Int) p9 q9; replace p9 := eq_true p9; replace q9 := eq_true q9; obtain ⟨hy10_, hz10_⟩ := Kd.R_celln 0 HO_3.out (x4_1 : Int) (oA) (oA); have HP10 := Kd.R_putg HO_3.out (x4_1 : Int) (rd l0 x4_1)
   go_wp2_with (first | ((with_reducible refine gs 3 20 rfl ?_); refine sE 3 20 (wr.setCell ⟨go9, (x4_1 : Int).toNat, none⟩ (.int .i64 (rd l0 x4_1))) ?_; intro w11 hw; have hg : wr.grownBy w11 (some go9) := (by rw [hw]; exact HP10.2); have hp_ : Kd.R (Kd.int .i64) 3 w11 w.heap.size (fun _ => True) (.slice (some ⟨go9, 0, none⟩) x3_1.length co9) y403 := (by rw [hw, Ny403.out]; exact HP10.1); clear HP10; replace HO_3 := Az (hp_); replace HB := Az ((by rw [hw]; exact below_set (HB.out) GB9.out : Below w.heap.size w w11)); clear hg hw hp_))
   go_roundg k1
   case measure => exact mO
   case rel => exact ⟨(y403), (wrap64 (x4_1 + 1)), rS, H', ⟨mO⟩, ⟨rU HO_3.out⟩, ⟨bU0 HB.out⟩⟩
  · obtain rfl := Option.some.inj H; go_wp2; go_ret; exact ⟨_, rE, rU HO_3.out, bU0 HB.out⟩
def laws_toMap.f (k : Nat) (l0_0 : List Int) (l0_1 : List Int) : Option (List Int × List Int) := (laws_toIntS.f k l0_0).bind fun t407 => ((laws_toIntS.f k l0_1).bind fun t410 => (some (t407, t410)))
set_option maxHeartbeats 8000000 in
set_option maxRecDepth 100000 in
theorem laws_toMap.calls (k : Nat) (A0_0 : Option Addr) (c0_0 : Nat) (l0_0 : List Int) (A0_1 : Option Addr) (c0_1 : Nat) (l0_1 : List Int) (r1 : List Int) (r2 : List Int) (w : World) (hr0_0 : Kd.C (Kd.int .i64) w A0_0 l0_0.length l0_0) (hc0_0 : l0_0.length ≤ c0_0) (hr0_1 : Kd.C (Kd.int .i64) w A0_1 l0_1.length l0_1) (hc0_1 : l0_1.length ≤ c0_1) (h : laws_toMap.f k l0_0 l0_1 = some (r1, r2)) :
  Calls Try.prog 51 #[.agg #[.slice A0_0 l0_0.length c0_0, .slice A0_1 l0_1.length c0_1]] w fun e w' => ∃ v0_ v1_ : Value, e = .returned (.agg #[v0_, v1_]) ∧ Kd.R (Kd.int .i64) 3 w' w.heap.size (fun k_ => oV k_ v1_) v0_ r1 ∧ Kd.R (Kd.int .i64) 3 w' w.heap.size (fun k_ => oV k_ v0_) v1_ r2 ∧ Below w.heap.size w w' := by
 have hu62 := Try.underlying62; have hu29 := Try.underlying29; have HR0_0 := Az hr0_0; have HC0_0 := Az hc0_0; clear hr0_0 hc0_0; have HR0_1 := Az hr0_1; have HC0_1 := Az hc0_1; clear hr0_1 hc0_1; have HB := bZ w; have H := h; clear h; unfold laws_toMap.f at H; replace H := bd H; obtain ⟨t407, A2, H⟩ := H; replace H := bd H; obtain ⟨t410, A3, H⟩ := H; simp only [Option.some.injEq, Prod.mk.injEq] at H; obtain ⟨rfl, rfl⟩ := H; go_enter Try.func51, Try.ntmps51
 go_wp2_with (first | ((with_reducible refine gd 1 rfl ?_); refine bE 1 #[.slice A0_0 l0_0.length c0_0, .slice A0_1 l0_1.length c0_1] 62 ?_; intro gb404 hg w4 hbox hb; have BK404 := Az (hbox); have GW404 := gW hg (bU0 HB.out); replace HB := Az (below_step (bU0 HB.out) hb); clear hb hbox hg) | ((with_reducible refine gd 2 rfl ?_); refine bE 2 #[.slice none 0 0, .slice none 0 0] 29 ?_; intro gb405 hg w5 hbox hb; have BK405 := Az (hbox); have GW405 := gW hg (bU1 HB.out GW404.out); replace HB := Az (below_step (bU1 HB.out GW404.out) hb); have NB404_405 := nL hg (kU BK404.out); replace BK404 := kB BK404.out hb; clear hb hbox hg) | ((with_reducible refine gd 3 rfl ?_); refine bE 3 #[.slice none 0 0, .slice none 0 0] 29 ?_; intro gb406 hg w6 hbox hb; have BK406 := Az (hbox); have GW406 := gW hg (bU2 HB.out GW404.out GW405.out); replace HB := Az (below_step (bU2 HB.out GW404.out GW405.out) hb); have NB404_406 := nL hg (kU BK404.out); replace BK404 := kB BK404.out hb; have NB405_406 := nL hg (kU BK405.out); replace BK405 := kB BK405.out hb; clear hb hbox hg; have hnb7 := NB404_405.out; have hnc7 := (NB404_405.out).symm; have hnb8 := NB404_406.out; have hnc8 := (NB404_406.out).symm; have hz9 := bc2 BK404.out) | ((with_reducible refine gK 74 rfl ?_); refine gC (some 6) Try.func74 #[.slice A0_0 l0_0.length c0_0] ?_; (with_reducible refine (laws_toIntS.calls k _ _ l0_0 t407 _ ?_ ?_ A2.out).mono ?_); exact cU (Kd.C_below HR0_0.out HB.out); exact HC0_0.out; rintro e w10 ⟨v408, rfl, ho0, hb⟩; refine ⟨_, rfl, ?_⟩; have HO409 := Az (Kd.R_lower ho0 (below_size z3_1)); replace BK404 := kB BK404.out hb; replace BK405 := kB BK405.out hb; replace BK406 := kB BK406.out hb; replace HB := Az (below_step z3_1 hb); clear hb ho0; obtain ⟨Ao11, co11, eo11⟩ := Kd.R_slice HO409.out; subst eo11; have hnb12 := nP NB405_406; have hz13 := bc2 BK406.out; have hz14 := bc2 BK404.out) | ((with_reducible refine gK 74 rfl ?_); refine gC (some 10) Try.func74 #[.slice A0_1 l0_1.length c0_1] ?_; (with_reducible refine (laws_toIntS.calls k _ _ l0_1 t410 _ ?_ ?_ A3.out).mono ?_); exact Kd.C_below HR0_1.out z3_1; exact HC0_1.out; rintro e w15 ⟨v411, rfl, ho0, hb⟩; refine ⟨_, rfl, ?_⟩; have HO412 := Az (Kd.R_lower (Kd.R_new' ho0 (Kd.R_lt (rW1 HO409.out BK406.out))) (below_size z3_1)); replace HO409 := Az (Kd.R_elder' (rW1 HO409.out BK406.out) (Kd.R_base ho0) hb); replace BK404 := Az (blk_below (g := gb404) (o := .cells #[.slice A0_0 l0_0.length c0_0, .slice A0_1 l0_1.length c0_1] 62 (0, 0)) (kF1 BK404.out NB404_406.out) hb); replace BK405 := Az (blk_below (g := gb405) (o := .cells #[.slice none 0 0, .slice none 0 0] 29 (0, 0)) (kF1 BK405.out NB405_406.out) hb); replace BK406 := Az (blk_below (g := gb406) (o := .cells #[.slice Ao11 t407.length co11, .slice none 0 0] 29 (0, 0)) (by (with_reducible repeat (first | refine blk_drewN ?_ _ | refine blk_drew ?_ | refine blk_alloc ?_ _)); refine blk_put (cs := #[.slice none 0 0, .slice none 0 0]) ?_ 0 _ rfl; (with_reducible repeat (first | refine blk_drewN ?_ _ | refine blk_drew ?_ | refine blk_alloc ?_ _)); exact BK406.out) hb); replace HB := Az (below_step z3_1 hb); clear hb ho0; obtain ⟨Ao16, co16, eo16⟩ := Kd.R_slice HO412.out; subst eo16; have hz17 := bc2 BK406.out; have hz18 := bc2 BK405.out))
 refine bodyPost_ret (results_cell_row rfl _ _ gb405 29 #[.slice Ao11 t407.length co11, .slice Ao16 t410.length co16] (0, 0) _ rfl (by (with_reducible repeat (first | refine blk_drewN ?_ _ | refine blk_drew ?_ | refine blk_alloc ?_ _)); refine blk_put (cs := #[.slice Ao11 t407.length co11, .slice none 0 0]) ?_ 1 _ rfl; (with_reducible repeat (first | refine blk_drewN ?_ _ | refine blk_drew ?_ | refine blk_alloc ?_ _)); refine blk_put (cs := #[.slice none 0 0, .slice none 0 0]) ?_ 0 _ rfl; (with_reducible repeat (first | refine blk_drewN ?_ _ | refine blk_drew ?_ | refine blk_alloc ?_ _)); refine blk_far ?_ NB405_406.out _; (with_reducible repeat (first | refine blk_drewN ?_ _ | refine blk_drew ?_ | refine blk_alloc ?_ _)); exact BK405.out) Try.underlying29 rfl (by kernel_rfl)) rfl ?_; exact ⟨_, _, rE, by (with_reducible repeat (first | apply Kd.R_alloc | apply Kd.R_drewN | apply Kd.R_drew)); exact Kd.R_mono (Kd.R_far (p := ⟨gb405, 1, none⟩) (Kd.R_far (p := ⟨gb405, 0, none⟩) (Kd.R_far (p := ⟨gb406, 1, none⟩) (Kd.R_types (Kd.R_types HO409.out BK406.out (by decide)) BK405.out (by decide)) (fun _ hk => hk.1.2) (.slice Ao16 t410.length co16)) (fun _ hk => hk.2) (.slice Ao11 t407.length co11)) (fun _ hk => hk.2) (.slice Ao16 t410.length co16)) (fun _ hk => hk.1.1.2), by (with_reducible repeat (first | apply Kd.R_alloc | apply Kd.R_drewN | apply Kd.R_drew)); exact Kd.R_mono (Kd.R_far (p := ⟨gb405, 1, none⟩) (Kd.R_far (p := ⟨gb405, 0, none⟩) (Kd.R_far (p := ⟨gb406, 1, none⟩) (Kd.R_types (Kd.R_types HO412.out BK406.out (by decide)) BK405.out (by decide)) (fun _ hk => hk.1.2) (.slice Ao16 t410.length co16)) (fun _ hk => hk.2) (.slice Ao11 t407.length co11)) (fun _ hk => hk.2) (.slice Ao16 t410.length co16)) (fun _ hk => hk.1.1.2), bU3 HB.out GW404.out GW405.out GW406.out⟩
def spec_l6In.f (a0 : Int) (a1 : Int) (a2 : Int) : Option (Bool) := if a0 ≥ a1 then (some (decide (a0 ≤ a2))) else (some false)
set_option maxHeartbeats 8000000 in
set_option maxRecDepth 100000 in
theorem spec_l6In.calls (a0 : Int) (a1 : Int) (a2 : Int) (r : Bool) (w : World) (h : spec_l6In.f a0 a1 a2 = some r) :
  Calls Try.prog 63 #[.int .i64 a0, .int .i64 a1, .int .i64 a2] w fun e w' => e = .returned (.bool r) ∧ Drawn0 w w' := by
 have H := h; clear h; unfold spec_l6In.f at H
 replace H := gB H; rcases H with ⟨c4b0, H⟩ | ⟨c4b0, H⟩
 · obtain rfl := Option.some.inj H; go_enter Try.func63, Try.ntmps63; go_wp2; go_ret; exact ⟨by first | rfl | (simp; done) | (simp [*]; done), by repeat (first | exact Drawn0.refl _ | apply Drawn0.step)⟩
 · obtain rfl := Option.some.inj H; go_enter Try.func63, Try.ntmps63; go_wp2; go_ret; exact ⟨by first | rfl | (simp; done) | (simp [*]; done), by repeat (first | exact Drawn0.refl _ | apply Drawn0.step)⟩
mutual
def spec_PermValid.l0 : Nat → List Int → Int → Option (Bool)
 | 0, _, _ => none
 | k + 1, x0, x3 => if x3 < (x0.length : Int) then (if 0 ≤ x3 then ((spec_l6In.f (rd x0 x3) 0 (wrap64 ((x0.length : Int) - 1))).bind fun t415 => (if t415 = true then (spec_PermValid.l1 k x0 x3 0) else (some false))) else (none)) else ((spec_l6In.f (x0.length : Int) 1 12).bind fun t413 => (some t413))
def spec_PermValid.l1 : Nat → List Int → Int → Int → Option (Bool)
 | 0, _, _, _ => none
 | k + 1, x0, x3, x4 => if x4 < x3 then (if 0 ≤ x4 then (if x4 < (x0.length : Int) then (if 0 ≤ x3 then (if x3 < (x0.length : Int) then (if (rd x0 x4) = (rd x0 x3) then (some false) else (spec_PermValid.l1 k x0 x3 (wrap64 (x4 + 1)))) else (none)) else (none)) else (none)) else (none)) else (spec_PermValid.l0 k x0 (wrap64 (x3 + 1)))
end
def spec_PermValid.f (k : Nat) (l0 : List Int) : Option (Bool) := spec_PermValid.l0 k l0 0
set_option maxHeartbeats 8000000 in
set_option maxRecDepth 100000 in
theorem spec_PermValid.calls (k : Nat) (A0 : Option Addr) (c0 : Nat) (l0 : List Int) (r : Bool) (w : World) (hr0 : Kd.C (Kd.int .i64) w A0 l0.length l0) (hc0 : l0.length ≤ c0) (h : spec_PermValid.f k l0 = some r) :
  Calls Try.prog 125 #[.slice A0 l0.length c0] w fun e w' => e = .returned (.bool r) ∧ Drawn0 w w' := by
 have HR0 := Az hr0; have HC0 := Az hc0; clear hr0 hc0; have H := h; clear h; unfold spec_PermValid.f at H; have H' := Az H; clear H; go_enter Try.func125, Try.ntmps125; go_wp2
 repeat (go_quiet (fail); try go_wp2)
 go_loopg [3] k (fun kq v3 w' => ∃ (x3_1 : Int), v3 = .int .i64 x3_1 ∧ Aside0 (spec_PermValid.l0 kq l0 x3_1 = some r) ∧ Aside0 (kq ≤ k) ∧ Drawn0 w w')
 case atStart => exact ⟨(0), rS, H', ⟨Nat.le_refl _⟩, by repeat (first | exact Drawn0.refl _ | apply Drawn0.step)⟩
 case round =>
  clear H'; obtain ⟨x3_1, rfl, HA, HK1, ⟨m1, rfl⟩⟩ := hrel
  rcases gk with _ | k1
  exact (nN HA.out).elim; have H := HA.out; clear HA; simp only [spec_PermValid.l0] at H
  by_cases c2 : x3_1 < (l0.length : Int)
  ·
   rw [if_pos c2] at H; have c2b0 := decide_eq_true c2; clear c2; replace H := gD1 H; obtain ⟨c3b0, H⟩ := H; replace H := bd H; obtain ⟨t415, A4, H⟩ := H
   by_cases c5 : t415 = true
   ·
    subst c5; rw [if_pos rfl] at H; have H' := Az H; clear H; obtain ⟨ad414, e414, p414, q414, hx414_0⟩ := aI HR0.out x3_1
    cases e414
    go_wp2_with (first | (go_at_call 63; (with_reducible refine (spec_l6In.calls (rd l0 x3_1) 0 (wrap64 ((l0.length : Int) - 1)) true _ A4.out).mono ?_); rintro e w' ⟨rfl, ⟨nd, rfl⟩⟩))
    repeat (go_quiet (fail); try go_wp2_with (fail))
    go_loopg [4] k1 (fun kq v4 w' => ∃ (x4_2 : Int), v4 = .int .i64 x4_2 ∧ Aside0 (spec_PermValid.l1 kq l0 x3_1 x4_2 = some r) ∧ Aside0 (kq ≤ k1) ∧ Drawn0 w w')
    case atStart => exact ⟨(0), rS, H', ⟨Nat.le_refl _⟩, by repeat (first | exact Drawn0.refl _ | apply Drawn0.step)⟩
    case round =>
     clear H'; obtain ⟨x4_2, rfl, HA, HK2, ⟨m2, rfl⟩⟩ := hrel
     rcases gk with _ | k2
     exact (nN HA.out).elim; have H := HA.out; clear HA; simp only [spec_PermValid.l1] at H
     replace H := gB H; rcases H with ⟨c6b0, H⟩ | ⟨c6b0, H⟩
     ·
      replace H := gD4 H; obtain ⟨c7b0, c8b0, c9b0, c10b0, H⟩ := H
      replace H := gQ H; rcases H with ⟨c11b0, c11b1, H⟩ | ⟨c11b0, c11b1, H⟩
      ·
       obtain rfl := Option.some.inj H; obtain ⟨p416, q416, hx416_0⟩ := aJ HR0.out x4_2; obtain ⟨p417, q417, hx417_0⟩ := aJ HR0.out x3_1; go_wp2
       repeat (go_quiet (fail); try go_wp2)
       go_ret; exact ⟨by first | rfl | (simp; done) | (simp [*]; done), by repeat (first | exact Drawn0.refl _ | apply Drawn0.step)⟩
      ·
       have H' := Az H; clear H; obtain ⟨p416, q416, hx416_0⟩ := aJ HR0.out x4_2; obtain ⟨p417, q417, hx417_0⟩ := aJ HR0.out x3_1; go_wp2
       repeat (go_quiet (fail); try go_wp2)
       go_roundg k2
       case measure => exact mO
       case rel => exact ⟨(wrap64 (x4_2 + 1)), rS, H', ⟨mO⟩, by repeat (first | exact Drawn0.refl _ | apply Drawn0.step)⟩
     ·
      have H' := Az H; clear H; go_wp2
      repeat (go_quiet (fail); try go_wp2)
      go_roundg k2
      case measure => exact mO
      case rel => exact ⟨(wrap64 (x3_1 + 1)), rS, H', ⟨mO⟩, by repeat (first | exact Drawn0.refl _ | apply Drawn0.step)⟩
   ·
    replace c5 := Bool.eq_false_iff.mpr c5; subst c5; rw [if_neg nT] at H; obtain rfl := Option.some.inj H; obtain ⟨ad414, e414, p414, q414, hx414_0⟩ := aI HR0.out x3_1
    cases e414
    go_wp2_with (first | (go_at_call 63; (with_reducible refine (spec_l6In.calls (rd l0 x3_1) 0 (wrap64 ((l0.length : Int) - 1)) false _ A4.out).mono ?_); rintro e w' ⟨rfl, ⟨nd, rfl⟩⟩))
    repeat (go_quiet (fail); try go_wp2_with (fail))
    go_ret; exact ⟨by first | rfl | (simp; done) | (simp [*]; done), by repeat (first | exact Drawn0.refl _ | apply Drawn0.step)⟩
  ·
   rw [if_neg c2] at H; have c2b0 := decide_eq_false c2; clear c2; replace H := bd H; obtain ⟨t413, A12, H⟩ := H; obtain rfl := Option.some.inj H
   go_wp2_with (first | (go_at_call 63; (with_reducible refine (spec_l6In.calls (l0.length : Int) 1 12 t413 _ A12.out).mono ?_); rintro e w' ⟨rfl, ⟨nd, rfl⟩⟩))
   repeat (go_quiet (fail); try go_wp2_with (fail))
   go_ret; exact ⟨by first | rfl | (simp; done) | (simp [*]; done), by repeat (first | exact Drawn0.refl _ | apply Drawn0.step)⟩
def spec_l1Both.f (k : Nat) (l0 : List Int) (l1 : List Int) : Option (Bool) := (spec_PermValid.f k l0).bind fun t418 => (if t418 = true then ((spec_PermValid.f k l1).bind fun t419 => (if t419 = true then (some ((l0.length : Int) == (l1.length : Int))) else (some false))) else (some false))
set_option maxHeartbeats 8000000 in
set_option maxRecDepth 100000 in
theorem spec_l1Both.calls (k : Nat) (A0 : Option Addr) (c0 : Nat) (l0 : List Int) (A1 : Option Addr) (c1 : Nat) (l1 : List Int) (r : Bool) (w : World) (hr0 : Kd.C (Kd.int .i64) w A0 l0.length l0) (hc0 : l0.length ≤ c0) (hr1 : Kd.C (Kd.int .i64) w A1 l1.length l1) (hc1 : l1.length ≤ c1) (h : spec_l1Both.f k l0 l1 = some r) :
  Calls Try.prog 111 #[.slice A0 l0.length c0, .slice A1 l1.length c1] w fun e w' => e = .returned (.bool r) ∧ Drawn0 w w' := by
 have HR0 := Az hr0; have HC0 := Az hc0; clear hr0 hc0; have HR1 := Az hr1; have HC1 := Az hc1; clear hr1 hc1; have H := h; clear h; unfold spec_l1Both.f at H; replace H := bd H; obtain ⟨t418, A3, H⟩ := H
 by_cases c4 : t418 = true
 ·
  subst c4; rw [if_pos rfl] at H; replace H := bd H; obtain ⟨t419, A5, H⟩ := H
  by_cases c6 : t419 = true
  ·
   subst c6; rw [if_pos rfl] at H; obtain rfl := Option.some.inj H; go_enter Try.func111, Try.ntmps111
   go_wp2_with (first | ((with_reducible refine gK 125 rfl ?_); refine gC (some 6) Try.func125 #[.slice A0 l0.length c0] ?_; (with_reducible refine (spec_PermValid.calls k _ _ l0 true _ ?_ ?_ A3.out).mono ?_); exact cU (HR0.out); exact HC0.out; rintro e w' ⟨rfl, ⟨nd, rfl⟩⟩; refine ⟨_, rfl, ?_⟩) | (go_at_call 125; (with_reducible refine (spec_PermValid.calls k _ _ l1 true _ ?_ ?_ A5.out).mono ?_); exact cU (HR1.out); exact HC1.out; rintro e w' ⟨rfl, ⟨nd, rfl⟩⟩))
   go_ret; exact ⟨by first | rfl | (simp; done) | (simp [*]; done), by repeat (first | exact Drawn0.refl _ | apply Drawn0.step)⟩
  ·
   replace c6 := Bool.eq_false_iff.mpr c6; subst c6; rw [if_neg nT] at H; obtain rfl := Option.some.inj H; go_enter Try.func111, Try.ntmps111
   go_wp2_with (first | ((with_reducible refine gK 125 rfl ?_); refine gC (some 6) Try.func125 #[.slice A0 l0.length c0] ?_; (with_reducible refine (spec_PermValid.calls k _ _ l0 true _ ?_ ?_ A3.out).mono ?_); exact cU (HR0.out); exact HC0.out; rintro e w' ⟨rfl, ⟨nd, rfl⟩⟩; refine ⟨_, rfl, ?_⟩) | (go_at_call 125; (with_reducible refine (spec_PermValid.calls k _ _ l1 false _ ?_ ?_ A5.out).mono ?_); exact cU (HR1.out); exact HC1.out; rintro e w' ⟨rfl, ⟨nd, rfl⟩⟩))
   go_ret; exact ⟨by first | rfl | (simp; done) | (simp [*]; done), by repeat (first | exact Drawn0.refl _ | apply Drawn0.step)⟩
 ·
  replace c4 := Bool.eq_false_iff.mpr c4; subst c4; rw [if_neg nT] at H; obtain rfl := Option.some.inj H; go_enter Try.func111, Try.ntmps111
  go_wp2_with (first | ((with_reducible refine gK 125 rfl ?_); refine gC (some 6) Try.func125 #[.slice A0 l0.length c0] ?_; (with_reducible refine (spec_PermValid.calls k _ _ l0 false _ ?_ ?_ A3.out).mono ?_); exact cU (HR0.out); exact HC0.out; rintro e w' ⟨rfl, ⟨nd, rfl⟩⟩; refine ⟨_, rfl, ?_⟩))
  go_ret; exact ⟨by first | rfl | (simp; done) | (simp [*]; done), by repeat (first | exact Drawn0.refl _ | apply Drawn0.step)⟩
def spec_l1Same.l0 : Nat → Int → List Int → Int → Option (List Int)
 | 0, _, _, _ => none
 | k + 1, x0, x3, x4 => if x4 < x0 then (if x3.length < 17592186044416 then (spec_l1Same.l0 k x0 (x3 ++ [x4]) (wrap64 (x4 + 1))) else (none)) else (some x3)
def spec_l1Same.f (k : Nat) (a0 : Int) : Option (List Int) := spec_l1Same.l0 k a0 (([] : List Int)) 0
set_option maxHeartbeats 8000000 in
set_option maxRecDepth 100000 in
theorem spec_l1Same.calls (k : Nat) (a0 : Int) (r : List Int) (w : World) (h : spec_l1Same.f k a0 = some r) :
  Calls Try.prog 126 #[.int .i64 a0] w fun e w' => ∃ v0_ : Value, e = .returned (v0_) ∧ Kd.R (Kd.int .i64) 3 w' w.heap.size (fun _ => True) v0_ r ∧ Below w.heap.size w w' := by
 have HB := bZ w; have H := h; clear h; unfold spec_l1Same.f at H; generalize Ny420 : (([] : List Int) : List Int) = y420 at H; replace Ny420 := Ay Ny420; have H' := Az H; clear H; go_enter Try.func126, Try.ntmps126
 go_wp2_with (first | ((with_reducible refine gd 5 rfl ?_); refine Kd.R_lit (Kd.int .i64) _ 3 rfl (N := 5) rfl (xs := ([] : List Int)) (inner := []) (ok := fun _ => True) (okp := fun _ => True) hS ?hp (fun _ hk => hk) trivial (Below.refl _ _) (Nat.le_refl _) (by simp) ?_; (case hp => exact (Reps.none _ _)); intro v421 w2 ho3 hb hg_ hnew_; clear hg_ hnew_; (first | rw [← Ny420.out] at ho3 | (simp only [Int.reduceToNat] at ho3; rw [← Ny420.out] at ho3)); have HO422 := Az (Kd.R_lower ho3 (below_size (bU0 HB.out))); replace HB := Az (below_step (bU0 HB.out) hb); clear hb ho3))
 go_loopg [3, 4] k (fun kq v3 v4 w' => ∃ (x3_1 : List Int) (x4_1 : Int), v4 = .int .i64 x4_1 ∧ Aside0 (spec_l1Same.l0 kq a0 x3_1 x4_1 = some r) ∧ Aside0 (kq ≤ k) ∧ Aside0 (Kd.R (Kd.int .i64) 3 w' w.heap.size (fun _ => True) v3 x3_1) ∧ Aside0 (Below w.heap.size w w'))
 case atStart => exact ⟨(y420), (0), rS, H', ⟨Nat.le_refl _⟩, ⟨rU HO422.out⟩, ⟨bU0 HB.out⟩⟩
 case round =>
  clear H'; obtain ⟨x3_1, x4_1, rfl, HA, HK1, HO_3, HB⟩ := hrel
  rcases gk with _ | k1
  exact (nN HA.out).elim; have H := HA.out; clear HA; simp only [spec_l1Same.l0] at H
  replace H := gB H; rcases H with ⟨c4b0, H⟩ | ⟨c4b0, H⟩
  ·
   replace H := gP H; obtain ⟨c5, H⟩ := H; have LMc5 := Az c5; clear c5; generalize Ny423 : (x3_1 ++ [x4_1] : List Int) = y423 at H; replace Ny423 := Ay Ny423; have H' := Az H; clear H
   go_wp2_with (first | ((with_reducible refine gate_builtin (b := .append) (xs := #[.tmp 11, .tmp 13]) rfl ?_); at_builtin; refine Kd.R_append (Kd.int .i64) (w0 := w) w.heap.size rfl (.tmp 11) (.tmp 13) 23 3 (.int .i64 0) 8 rfl Try.underlying23 info3 rfl (by decide) (by omega) u3 x3_1 x4_1 [.int .i64 x4_1] (fun _ => True) (fun _ => False) rfl rfl ?aP (fun _ hk => hk.elim) ?aF ?aO ?aB ?aS ?aL ?_; (case aP => exact rfl); (case aB => exact (bU0 HB.out)); (case aF => exact (fun _ _ => trivial)); (case aO => exact (rU HO_3.out)); (case aS => exact (below_size (bU0 HB.out))); (case aL => have := LMc5.out; omega); intro v424 w6 ho hb hg hat; rw [← Ny423.out] at ho; replace HB := Az (hb); have HO425 := Az (ho); clear HO_3 ho hb hg hat))
   go_roundg k1
   case measure => exact mO
   case rel => exact ⟨(y423), (wrap64 (x4_1 + 1)), rS, H', ⟨mO⟩, ⟨rU HO425.out⟩, ⟨bU0 HB.out⟩⟩
  · obtain rfl := Option.some.inj H; go_wp2; go_ret; exact ⟨_, rE, rU HO_3.out, bU0 HB.out⟩
mutual
def spec_l1Orbits.l0 : Nat → List Int → List Int → List Int → Int → Option (List Int)
 | 0, _, _, _, _ => none
 | k + 1, x0, x1, x5, x6 => if x6 < (x0.length : Int) then (spec_l1Orbits.l1 k x0 x1 x5 x6 0) else (some x5)
def spec_l1Orbits.l1 : Nat → List Int → List Int → List Int → Int → Int → Option (List Int)
 | 0, _, _, _, _, _ => none
 | k + 1, x0, x1, x5, x6, x7 => if x7 < (x0.length : Int) then (if 0 ≤ x7 then (if x7 < (x5.length : Int) then (if 0 ≤ (rd x0 x7) then (if (rd x0 x7) < (x5.length : Int) then (if x7 < (x1.length : Int) then (if 0 ≤ (rd x1 x7) then (if (rd x1 x7) < (x5.length : Int) then (spec_l1Orbits.l1 k x0 x1 (((x5.set (x7 : Int).toNat (mn (rd x5 x7) (mn (rd x5 (rd x0 x7)) (rd x5 (rd x1 x7))))).set ((rd x0 x7) : Int).toNat (mn (rd x5 x7) (mn (rd x5 (rd x0 x7)) (rd x5 (rd x1 x7))))).set ((rd x1 x7) : Int).toNat (mn (rd x5 x7) (mn (rd x5 (rd x0 x7)) (rd x5 (rd x1 x7))))) x6 (wrap64 (x7 + 1))) else (none)) else (none)) else (none)) else (none)) else (none)) else (none)) else (none)) else (spec_l1Orbits.l0 k x0 x1 x5 (wrap64 (x6 + 1)))
end
def spec_l1Orbits.f (k : Nat) (l0 : List Int) (l1 : List Int) : Option (List Int) := (spec_l1Same.f k (l0.length : Int)).bind fun t426 => (spec_l1Orbits.l0 k l0 l1 t426 0)
set_option maxHeartbeats 8000000 in
set_option maxRecDepth 100000 in
theorem spec_l1Orbits.calls (k : Nat) (A0 : Option Addr) (c0 : Nat) (l0 : List Int) (A1 : Option Addr) (c1 : Nat) (l1 : List Int) (r : List Int) (w : World) (hr0 : Kd.C (Kd.int .i64) w A0 l0.length l0) (hc0 : l0.length ≤ c0) (hr1 : Kd.C (Kd.int .i64) w A1 l1.length l1) (hc1 : l1.length ≤ c1) (h : spec_l1Orbits.f k l0 l1 = some r) :
  Calls Try.prog 112 #[.slice A0 l0.length c0, .slice A1 l1.length c1] w fun e w' => ∃ v0_ : Value, e = .returned (v0_) ∧ Kd.R (Kd.int .i64) 3 w' w.heap.size (fun _ => True) v0_ r ∧ Below w.heap.size w w' := by
 have HR0 := Az hr0; have HC0 := Az hc0; clear hr0 hc0; have HR1 := Az hr1; have HC1 := Az hc1; clear hr1 hc1; have HB := bZ w; have H := h; clear h; unfold spec_l1Orbits.f at H; replace H := bd H; obtain ⟨t426, A3, H⟩ := H; have H' := Az H; clear H; go_enter Try.func112, Try.ntmps112
 go_wp2_with (first | (go_at_call 126; (with_reducible refine (spec_l1Same.calls k (l0.length : Int) t426 _ A3.out).mono ?_); rintro e w4 ⟨v427, rfl, ho0, hb⟩; have HO428 := Az (Kd.R_lower ho0 (below_size (bU0 HB.out))); replace HB := Az (below_step (bU0 HB.out) hb); clear hb ho0))
 repeat (go_quiet (fail); try go_wp2_with (fail))
 go_loopg [6] k (fun kq v6 w' => ∃ (x5_1 : List Int) (x6_1 : Int), v6 = .int .i64 x6_1 ∧ Aside0 (spec_l1Orbits.l0 kq l0 l1 x5_1 x6_1 = some r) ∧ Aside0 (kq ≤ k) ∧ Aside0 (Kd.R (Kd.int .i64) 3 w' w.heap.size (fun _ => True) v427 x5_1) ∧ Aside0 (Below w.heap.size w w'))
 case atStart => exact ⟨(t426), (0), rS, H', ⟨Nat.le_refl _⟩, ⟨rU HO428.out⟩, ⟨bU0 HB.out⟩⟩
 case round =>
  clear H'; obtain ⟨x5_1, x6_1, rfl, HA, HK1, HO_5, HB⟩ := hrel
  rcases gk with _ | k1
  exact (nN HA.out).elim; have H := HA.out; clear HA; simp only [spec_l1Orbits.l0] at H
  by_cases c5 : x6_1 < (l0.length : Int)
  ·
   rw [if_pos c5] at H; have c5b0 := decide_eq_true c5; clear c5; have H' := Az H; clear H; go_wp2
   repeat (go_quiet (fail); try go_wp2)
   go_loopg [7] k1 (fun kq v7 w' => ∃ (x5_2 : List Int) (x7_2 : Int), v7 = .int .i64 x7_2 ∧ Aside0 (spec_l1Orbits.l1 kq l0 l1 x5_2 x6_1 x7_2 = some r) ∧ Aside0 (kq ≤ k1) ∧ Aside0 (Kd.R (Kd.int .i64) 3 w' w.heap.size (fun _ => True) v427 x5_2) ∧ Aside0 (Below w.heap.size w w'))
   case atStart => exact ⟨(x5_1), (0), rS, H', ⟨Nat.le_refl _⟩, ⟨rU HO_5.out⟩, ⟨bU0 HB.out⟩⟩
   case round =>
    clear H'; obtain ⟨x5_2, x7_2, rfl, HA, HK2, HO_5, HB⟩ := hrel
    rcases gk with _ | k2
    exact (nN HA.out).elim; have H := HA.out; clear HA; simp only [spec_l1Orbits.l1] at H
    replace H := gB H; rcases H with ⟨c6b0, H⟩ | ⟨c6b0, H⟩
    ·
     replace H := gD6 H; obtain ⟨c7b0, c8b0, c9b0, c10b0, c11b0, c12b0, H⟩ := H; replace H := gD1 H; obtain ⟨c13b0, H⟩ := H; obtain ⟨ji14, hji14⟩ : ∃ j_ : Int, (mn (rd x5_2 (rd l0 x7_2)) (rd x5_2 (rd l1 x7_2))) = j_ := ⟨_, rfl⟩; (first | rw [hji14] at H | simp only [hji14] at H); have hji14_ : (if (rd x5_2 (rd l1 x7_2)) < (rd x5_2 (rd l0 x7_2)) then (rd x5_2 (rd l1 x7_2)) else (rd x5_2 (rd l0 x7_2))) = ji14 := hji14; obtain ⟨ji15, hji15⟩ : ∃ j_ : Int, (mn (rd x5_2 x7_2) (ji14)) = j_ := ⟨_, rfl⟩; (first | rw [hji15] at H | simp only [hji15] at H); have hji15_ : (if (ji14) < (rd x5_2 x7_2) then (ji14) else (rd x5_2 x7_2)) = ji15 := hji15; generalize Ny434 : (x5_2.set (x7_2 : Int).toNat (ji15) : List Int) = y434 at H; replace Ny434 := Ay Ny434; generalize Ny436 : (y434.set ((rd l0 x7_2) : Int).toNat (ji15) : List Int) = y436 at H; replace Ny436 := Ay Ny436; generalize Ny438 : (y436.set ((rd l1 x7_2) : Int).toNat (ji15) : List Int) = y438 at H; replace Ny438 := Ay Ny438; have H' := Az H; clear H; obtain ⟨Ao19, co19, eo19⟩ := Kd.R_slice HO_5.out; subst eo19; obtain ⟨ad429, e429, _, _, hx429_0⟩ := aI (Kd.R_reads' HO_5.out).2.2 x7_2
     cases e429; obtain ⟨ad430, e430, _, _, hx430_0⟩ := aI HR0.out x7_2
     cases e430
     replace hx430_0 := hT HB.out hx430_0; obtain ⟨_, _, hx431_0⟩ := aJ (Kd.R_reads' HO_5.out).2.2 (rd l0 x7_2); obtain ⟨ad432, e432, _, _, hx432_0⟩ := aI HR1.out x7_2
     cases e432
     replace hx432_0 := hT HB.out hx432_0; obtain ⟨_, _, hx433_0⟩ := aJ (Kd.R_reads' HO_5.out).2.2 (rd l1 x7_2); have p16 : 0 ≤ (x7_2 : Int) := oA; have q16 : (x7_2 : Int) < ((x5_2.length : Int) : Int) := oA; obtain ⟨go16, co16, eo16, gb16, gl16, cl16, HG16⟩ := Kd.R_form HO_5.out (by omega); (first | cases eo16 | (injection eo16 with ea_ en_ ec_; (first | subst ea_ | (injection ea_ with ea_; subst ea_)); subst ec_; clear en_)); have GB16 := Az gb16; have GG16 := Az HG16; clear gb16 gl16 HG16; simp only [add_plain] at hx429_0; simp only [add_plain] at hx431_0; simp only [add_plain] at hx433_0; obtain ⟨hx16_0, hf16_0⟩ := Kd.R_celln 0 HO_5.out (x7_2 : Int) p16 q16; replace p16 := eq_true p16; replace q16 := eq_true q16; obtain ⟨hy20_, hz20_⟩ := Kd.R_celln 0 HO_5.out (x7_2 : Int) (oA) (oA); have HP20 := Kd.R_putg HO_5.out (x7_2 : Int) ji15
     go_wp2_with (fail)
     repeat (go_quiet (fail); try go_wp2_with (first | ((with_reducible refine gs 3 47 rfl ?_); (rw [drewN_self wr]; generalize hq_ : World.drewN wr _ = wr; replace HO_5 := Az (Kd.R_at hq_ HO_5.out); replace HB := Az (below_at hq_ HB.out); clear hq_; (obtain ⟨hy20_, hz20_⟩ := Kd.R_celln 0 HO_5.out (x7_2 : Int) (oA) (oA)); (have HP20 := Kd.R_putg HO_5.out (x7_2 : Int) ji15)); refine sE 3 47 (wr.setCell ⟨go16, (x7_2 : Int).toNat, none⟩ (.int .i64 ji15)) ?_; intro w21 hw; have hg : wr.grownBy w21 (some go16) := (by rw [hw]; exact HP20.2); have hp_ : Kd.R (Kd.int .i64) 3 w21 w.heap.size (fun _ => True) (.slice (some ⟨go16, 0, none⟩) x5_2.length co19) y434 := (by rw [hw, Ny434.out]; exact HP20.1); clear HP20; replace HO_5 := Az (hp_); replace HB := Az ((by rw [hw]; exact below_set (HB.out) GB16.out : Below w.heap.size w w21)); clear hg hw hp_; obtain ⟨_, _, hx435_0⟩ := aJ HR0.out x7_2; replace hx435_0 := hT HB.out hx435_0; have p17 : 0 ≤ ((rd l0 x7_2) : Int) := oA; have q17 : ((rd l0 x7_2) : Int) < ((x5_2.length : Int) : Int) := oA; obtain ⟨hx17_0, hf17_0⟩ := Kd.R_celln 0 HO_5.out ((rd l0 x7_2) : Int) p17 q17; replace p17 := eq_true p17; replace q17 := eq_true q17; obtain ⟨hy22_, hz22_⟩ := Kd.R_celln 0 HO_5.out ((rd l0 x7_2) : Int) (oA) (oA); have HP22 := Kd.R_putg HO_5.out ((rd l0 x7_2) : Int) ji15) | ((with_reducible refine gs 3 54 rfl ?_); refine sE 3 54 (w21.setCell ⟨go16, ((rd l0 x7_2) : Int).toNat, none⟩ (.int .i64 ji15)) ?_; intro w23 hw; have hg : w21.grownBy w23 (some go16) := (by rw [hw]; exact HP22.2); have hp_ : Kd.R (Kd.int .i64) 3 w23 w.heap.size (fun _ => True) (.slice (some ⟨go16, 0, none⟩) x5_2.length co19) y436 := (by rw [hw, Ny436.out]; exact HP22.1); clear HP22; replace HO_5 := Az (hp_); replace HB := Az ((by rw [hw]; exact below_set (HB.out) GB16.out : Below w.heap.size w w23)); clear hg hw hp_; obtain ⟨_, _, hx437_0⟩ := aJ HR1.out x7_2; replace hx437_0 := hT HB.out hx437_0; have p18 : 0 ≤ ((rd l1 x7_2) : Int) := oA; have q18 : ((rd l1 x7_2) : Int) < ((x5_2.length : Int) : Int) := oA; obtain ⟨hx18_0, hf18_0⟩ := Kd.R_celln 0 HO_5.out ((rd l1 x7_2) : Int) p18 q18; replace p18 := eq_true p18; replace q18 := eq_true q18; obtain ⟨hy24_, hz24_⟩ := Kd.R_celln 0 HO_5.out ((rd l1 x7_2) : Int) (oA) (oA); have HP24 := Kd.R_putg HO_5.out ((rd l1 x7_2) : Int) ji15) | ((with_reducible refine gs 3 61 rfl ?_); refine sE 3 61 (w23.setCell ⟨go16, ((rd l1 x7_2) : Int).toNat, none⟩ (.int .i64 ji15)) ?_; intro w25 hw; have hg : w23.grownBy w25 (some go16) := (by rw [hw]; exact HP24.2); have hp_ : Kd.R (Kd.int .i64) 3 w25 w.heap.size (fun _ => True) (.slice (some ⟨go16, 0, none⟩) x5_2.length co19) y438 := (by rw [hw, Ny438.out]; exact HP24.1); clear HP24; replace HO_5 := Az (hp_); replace HB := Az ((by rw [hw]; exact below_set (HB.out) GB16.out : Below w.heap.size w w25)); clear hg hw hp_)))
     go_roundg k2
     case measure => exact mO
     case rel => exact ⟨(y438), (wrap64 (x7_2 + 1)), rS, H', ⟨mO⟩, ⟨rU HO_5.out⟩, ⟨bU0 HB.out⟩⟩
    ·
     have H' := Az H; clear H; go_wp2
     repeat (go_quiet (fail); try go_wp2)
     go_roundg k2
     case measure => exact mO
     case rel => exact ⟨(x5_2), (wrap64 (x6_1 + 1)), rS, H', ⟨mO⟩, ⟨rU HO_5.out⟩, ⟨bU0 HB.out⟩⟩
  ·
   rw [if_neg c5] at H; have c5b0 := decide_eq_false c5; clear c5; obtain rfl := Option.some.inj H; go_wp2
   repeat (go_quiet (fail); try go_wp2)
   go_ret; exact ⟨_, rE, rU HO_5.out, bU0 HB.out⟩
mutual
def spec_MapValid.l0 : Nat → Int → List Int → List Int → Option (Bool)
 | 0, _, _, _ => none
 | k + 1, x3, xZ0, xZ1 => if x3 < (xZ1.length : Int) then (if 0 ≤ x3 then (if (rd xZ1 x3) = x3 then (some false) else (if 0 ≤ (rd xZ1 x3) then (if (rd xZ1 x3) < (xZ1.length : Int) then (if (rd xZ1 (rd xZ1 x3)) = x3 then (spec_MapValid.l0 k (wrap64 (x3 + 1)) xZ0 xZ1) else (some false)) else (none)) else (none))) else (none)) else ((spec_l1Orbits.f k xZ0 xZ1).bind fun t444 => (spec_MapValid.l1 k t444 0))
def spec_MapValid.l1 : Nat → List Int → Int → Option (Bool)
 | 0, _, _ => none
 | k + 1, x4, x5 => if x5 < (x4.length : Int) then (if 0 ≤ x5 then (if (rd x4 x5) = 0 then (spec_MapValid.l1 k x4 (wrap64 (x5 + 1))) else (some false)) else (none)) else (some true)
end
def spec_MapValid.f (k : Nat) (l0_0 : List Int) (l0_1 : List Int) : Option (Bool) := (spec_l1Both.f k l0_0 l0_1).bind fun t440 => (if t440 = true then (spec_MapValid.l0 k 0 l0_0 l0_1) else (some false))
set_option maxHeartbeats 8000000 in
set_option maxRecDepth 100000 in
theorem spec_MapValid.calls (k : Nat) (A0_0 : Option Addr) (c0_0 : Nat) (l0_0 : List Int) (A0_1 : Option Addr) (c0_1 : Nat) (l0_1 : List Int) (r : Bool) (w : World) (hr0_0 : Kd.C (Kd.int .i64) w A0_0 l0_0.length l0_0) (hc0_0 : l0_0.length ≤ c0_0) (hr0_1 : Kd.C (Kd.int .i64) w A0_1 l0_1.length l0_1) (hc0_1 : l0_1.length ≤ c0_1) (h : spec_MapValid.f k l0_0 l0_1 = some r) :
  Calls Try.prog 90 #[.agg #[.slice A0_0 l0_0.length c0_0, .slice A0_1 l0_1.length c0_1]] w fun e w' => e = .returned (.bool r) ∧ Below w.heap.size w w' := by
 have hu29 := Try.underlying29; have HR0_0 := Az hr0_0; have HC0_0 := Az hc0_0; clear hr0_0 hc0_0; have HR0_1 := Az hr0_1; have HC0_1 := Az hc0_1; clear hr0_1 hc0_1; have HB := bZ w; have H := h; clear h; unfold spec_MapValid.f at H; replace H := bd H; obtain ⟨t440, A2, H⟩ := H
 by_cases c3 : t440 = true
 ·
  subst c3; rw [if_pos rfl] at H; have H' := Az H; clear H; go_enter Try.func90, Try.ntmps90
  go_wp2_with (first | ((with_reducible refine gd 1 rfl ?_); refine bE 1 #[.slice A0_0 l0_0.length c0_0, .slice A0_1 l0_1.length c0_1] 29 ?_; intro gb439 hg w4 hbox hb; have BK439 := Az (hbox); have GW439 := gW hg (bU0 HB.out); replace HB := Az (below_step (bU0 HB.out) hb); clear hb hbox hg; have hz5 := bc2 BK439.out) | (go_at_call 111; (with_reducible refine (spec_l1Both.calls k _ _ l0_0 _ _ l0_1 true _ ?_ ?_ ?_ ?_ A2.out).mono ?_); exact cU (Kd.C_below HR0_0.out HB.out); exact HC0_0.out; exact cU (Kd.C_below HR0_1.out HB.out); exact HC0_1.out; rintro e w' ⟨rfl, ⟨nd, rfl⟩⟩))
  repeat (go_quiet (fail); try go_wp2_with (fail))
  go_loopg [3] k (fun kq v3 w' => ∃ (x3_1 : Int), v3 = .int .i64 x3_1 ∧ Aside0 (spec_MapValid.l0 kq x3_1 l0_0 l0_1 = some r) ∧ Aside0 (kq ≤ k) ∧ Aside0 (w'.heap[gb439]? = some (.cells #[(.slice A0_0 l0_0.length c0_0), (.slice A0_1 l0_1.length c0_1)] 29 (0, 0))) ∧ Aside0 (Below w.heap.size w w'))
  case atStart => exact ⟨(0), rS, H', ⟨Nat.le_refl _⟩, ⟨kU BK439.out⟩, ⟨bU1 HB.out GW439.out⟩⟩
  case round =>
   clear H'; obtain ⟨x3_1, rfl, HA, HK1, BK439, HB⟩ := hrel
   rcases gk with _ | k1
   exact (nN HA.out).elim; have H := HA.out; clear HA; simp only [spec_MapValid.l0] at H
   by_cases c6 : x3_1 < (l0_1.length : Int)
   ·
    rw [if_pos c6] at H; have c6b0 := decide_eq_true c6; clear c6; replace H := gD1 H; obtain ⟨c7b0, H⟩ := H
    replace H := gQ H; rcases H with ⟨c8b0, c8b1, H⟩ | ⟨c8b0, c8b1, H⟩
    ·
     obtain rfl := Option.some.inj H; have hz9 := bc2 BK439.out; obtain ⟨ad441, e441, p441, q441, hx441_0⟩ := aI HR0_1.out x3_1
     cases e441
     replace hx441_0 := hT HB.out hx441_0; go_wp2
     repeat (go_quiet (fail); try go_wp2)
     go_ret; exact ⟨rE, bU1 HB.out GW439.out⟩
    ·
     replace H := gD2 H; obtain ⟨c10b0, c11b0, H⟩ := H
     replace H := gQ H; rcases H with ⟨c12b0, c12b1, H⟩ | ⟨c12b0, c12b1, H⟩
     ·
      have H' := Az H; clear H; have hz13 := bc2 BK439.out; obtain ⟨ad441, e441, p441, q441, hx441_0⟩ := aI HR0_1.out x3_1
      cases e441
      replace hx441_0 := hT HB.out hx441_0; obtain ⟨p442, q442, hx442_0⟩ := aJ HR0_1.out x3_1; replace hx442_0 := hT HB.out hx442_0; obtain ⟨p443, q443, hx443_0⟩ := aJ HR0_1.out (rd l0_1 x3_1); replace hx443_0 := hT HB.out hx443_0; go_wp2
      repeat (go_quiet (fail); try go_wp2)
      go_roundg k1
      case measure => exact mO
      case rel => exact ⟨(wrap64 (x3_1 + 1)), rS, H', ⟨mO⟩, ⟨kU BK439.out⟩, ⟨bU1 HB.out GW439.out⟩⟩
     ·
      obtain rfl := Option.some.inj H; have hz14 := bc2 BK439.out; obtain ⟨ad441, e441, p441, q441, hx441_0⟩ := aI HR0_1.out x3_1
      cases e441
      replace hx441_0 := hT HB.out hx441_0; obtain ⟨p442, q442, hx442_0⟩ := aJ HR0_1.out x3_1; replace hx442_0 := hT HB.out hx442_0; obtain ⟨p443, q443, hx443_0⟩ := aJ HR0_1.out (rd l0_1 x3_1); replace hx443_0 := hT HB.out hx443_0; go_wp2
      repeat (go_quiet (fail); try go_wp2)
      go_ret; exact ⟨rE, bU1 HB.out GW439.out⟩
   ·
    rw [if_neg c6] at H; have c6b0 := decide_eq_false c6; clear c6; replace H := bd H; obtain ⟨t444, A15, H⟩ := H; have H' := Az H; clear H; have hz16 := bc2 BK439.out
    go_wp2_with (first | (go_at_call 112; (with_reducible refine (spec_l1Orbits.calls k1 _ _ l0_0 _ _ l0_1 t444 _ ?_ ?_ ?_ ?_ A15.out).mono ?_); exact cU (Kd.C_below HR0_0.out HB.out); exact HC0_0.out; exact cU (Kd.C_below HR0_1.out HB.out); exact HC0_1.out; rintro e w17 ⟨v445, rfl, ho0, hb⟩; have HO446 := Az (Kd.R_lower ho0 (below_size (bU1 HB.out GW439.out))); replace BK439 := kB BK439.out hb; replace HB := Az (below_step (bU1 HB.out GW439.out) hb); clear hb ho0))
    repeat (go_quiet (fail); try go_wp2_with (fail))
    go_loopg [5] k1 (fun kq v5 w' => ∃ (x5_2 : Int), v5 = .int .i64 x5_2 ∧ Aside0 (spec_MapValid.l1 kq t444 x5_2 = some r) ∧ Aside0 (kq ≤ k1) ∧ Aside0 (Kd.R (Kd.int .i64) 3 w' w.heap.size (fun _ => True) v445 t444) ∧ Aside0 (w'.heap[gb439]? = some (.cells #[(.slice A0_0 l0_0.length c0_0), (.slice A0_1 l0_1.length c0_1)] 29 (0, 0))) ∧ Aside0 (Below w.heap.size w w'))
    case atStart => exact ⟨(0), rS, H', ⟨Nat.le_refl _⟩, ⟨rU HO446.out⟩, ⟨kU BK439.out⟩, ⟨bU1 HB.out GW439.out⟩⟩
    case round =>
     clear H'; obtain ⟨x5_2, rfl, HA, HK2, HO_4, BK439, HB⟩ := hrel
     rcases gk with _ | k2
     exact (nN HA.out).elim; have H := HA.out; clear HA; simp only [spec_MapValid.l1] at H
     replace H := gB H; rcases H with ⟨c18b0, H⟩ | ⟨c18b0, H⟩
     ·
      replace H := gD1 H; obtain ⟨c19b0, H⟩ := H
      replace H := gQ H; rcases H with ⟨c20b0, c20b1, H⟩ | ⟨c20b0, c20b1, H⟩
      ·
       have H' := Az H; clear H; obtain ⟨Ao21, co21, eo21⟩ := Kd.R_slice HO_4.out; subst eo21; obtain ⟨ad447, e447, p447, q447, hx447_0⟩ := aI (Kd.R_reads' HO_4.out).2.2 x5_2
       cases e447; go_wp2
       repeat (go_quiet (fail); try go_wp2)
       go_roundg k2
       case measure => exact mO
       case rel => exact ⟨(wrap64 (x5_2 + 1)), rS, H', ⟨mO⟩, ⟨rU HO_4.out⟩, ⟨kU BK439.out⟩, ⟨bU1 HB.out GW439.out⟩⟩
      ·
       obtain rfl := Option.some.inj H; obtain ⟨Ao22, co22, eo22⟩ := Kd.R_slice HO_4.out; subst eo22; obtain ⟨ad447, e447, p447, q447, hx447_0⟩ := aI (Kd.R_reads' HO_4.out).2.2 x5_2
       cases e447; go_wp2
       repeat (go_quiet (fail); try go_wp2)
       go_ret; exact ⟨rE, bU1 HB.out GW439.out⟩
     ·
      obtain rfl := Option.some.inj H; obtain ⟨Ao23, co23, eo23⟩ := Kd.R_slice HO_4.out; subst eo23; go_wp2
      repeat (go_quiet (fail); try go_wp2)
      go_ret; exact ⟨rE, bU1 HB.out GW439.out⟩
 ·
  replace c3 := Bool.eq_false_iff.mpr c3; subst c3; rw [if_neg nT] at H; obtain rfl := Option.some.inj H; go_enter Try.func90, Try.ntmps90
  go_wp2_with (first | ((with_reducible refine gd 1 rfl ?_); refine bE 1 #[.slice A0_0 l0_0.length c0_0, .slice A0_1 l0_1.length c0_1] 29 ?_; intro gb439 hg w24 hbox hb; have BK439 := Az (hbox); have GW439 := gW hg (bU0 HB.out); replace HB := Az (below_step (bU0 HB.out) hb); clear hb hbox hg; have hz25 := bc2 BK439.out) | (go_at_call 111; (with_reducible refine (spec_l1Both.calls k _ _ l0_0 _ _ l0_1 false _ ?_ ?_ ?_ ?_ A2.out).mono ?_); exact cU (Kd.C_below HR0_0.out HB.out); exact HC0_0.out; exact cU (Kd.C_below HR0_1.out HB.out); exact HC0_1.out; rintro e w' ⟨rfl, ⟨nd, rfl⟩⟩))
  repeat (go_quiet (fail); try go_wp2_with (fail))
  go_ret; exact ⟨rE, bU1 HB.out GW439.out⟩
def spec_l1Mul.l0 : Nat → List Int → List Int → List Int → Int → Option (List Int)
 | 0, _, _, _, _ => none
 | k + 1, x0, x1, x5, x6 => if x6 < (x0.length : Int) then (if 0 ≤ x6 then (if 0 ≤ (rd x0 x6) then (if (rd x0 x6) < (x1.length : Int) then (if x5.length < 17592186044416 then (spec_l1Mul.l0 k x0 x1 (x5 ++ [rd x1 (rd x0 x6)]) (wrap64 (x6 + 1))) else (none)) else (none)) else (none)) else (none)) else (some x5)
def spec_l1Mul.f (k : Nat) (l0 : List Int) (l1 : List Int) : Option (List Int) := spec_l1Mul.l0 k l0 l1 (([] : List Int)) 0
set_option maxHeartbeats 8000000 in
set_option maxRecDepth 100000 in
theorem spec_l1Mul.calls (k : Nat) (A0 : Option Addr) (c0 : Nat) (l0 : List Int) (A1 : Option Addr) (c1 : Nat) (l1 : List Int) (r : List Int) (w : World) (hr0 : Kd.C (Kd.int .i64) w A0 l0.length l0) (hc0 : l0.length ≤ c0) (hr1 : Kd.C (Kd.int .i64) w A1 l1.length l1) (hc1 : l1.length ≤ c1) (h : spec_l1Mul.f k l0 l1 = some r) :
  Calls Try.prog 119 #[.slice A0 l0.length c0, .slice A1 l1.length c1] w fun e w' => ∃ v0_ : Value, e = .returned (v0_) ∧ Kd.R (Kd.int .i64) 3 w' w.heap.size (fun _ => True) v0_ r ∧ Below w.heap.size w w' := by
 have HR0 := Az hr0; have HC0 := Az hc0; clear hr0 hc0; have HR1 := Az hr1; have HC1 := Az hc1; clear hr1 hc1; have HB := bZ w; have H := h; clear h; unfold spec_l1Mul.f at H; generalize Ny448 : (([] : List Int) : List Int) = y448 at H; replace Ny448 := Ay Ny448; have H' := Az H; clear H; go_enter Try.func119, Try.ntmps119
 go_wp2_with (first | ((with_reducible refine gd 7 rfl ?_); refine Kd.R_lit (Kd.int .i64) _ 3 rfl (N := 7) rfl (xs := ([] : List Int)) (inner := []) (ok := fun _ => True) (okp := fun _ => True) hS ?hp (fun _ hk => hk) trivial (Below.refl _ _) (Nat.le_refl _) (by simp) ?_; (case hp => exact (Reps.none _ _)); intro v449 w3 ho4 hb hg_ hnew_; clear hg_ hnew_; (first | rw [← Ny448.out] at ho4 | (simp only [Int.reduceToNat] at ho4; rw [← Ny448.out] at ho4)); have HO450 := Az (Kd.R_lower ho4 (below_size (bU0 HB.out))); replace HB := Az (below_step (bU0 HB.out) hb); clear hb ho4))
 go_loopg [5, 6] k (fun kq v5 v6 w' => ∃ (x5_1 : List Int) (x6_1 : Int), v6 = .int .i64 x6_1 ∧ Aside0 (spec_l1Mul.l0 kq l0 l1 x5_1 x6_1 = some r) ∧ Aside0 (kq ≤ k) ∧ Aside0 (Kd.R (Kd.int .i64) 3 w' w.heap.size (fun _ => True) v5 x5_1) ∧ Aside0 (Below w.heap.size w w'))
 case atStart => exact ⟨(y448), (0), rS, H', ⟨Nat.le_refl _⟩, ⟨rU HO450.out⟩, ⟨bU0 HB.out⟩⟩
 case round =>
  clear H'; obtain ⟨x5_1, x6_1, rfl, HA, HK1, HO_5, HB⟩ := hrel
  rcases gk with _ | k1
  exact (nN HA.out).elim; have H := HA.out; clear HA; simp only [spec_l1Mul.l0] at H
  replace H := gB H; rcases H with ⟨c5b0, H⟩ | ⟨c5b0, H⟩
  ·
   replace H := gD3 H; obtain ⟨c6b0, c7b0, c8b0, H⟩ := H; replace H := gP H; obtain ⟨c9, H⟩ := H; have LMc9 := Az c9; clear c9; generalize Ny453 : (x5_1 ++ [rd l1 (rd l0 x6_1)] : List Int) = y453 at H; replace Ny453 := Ay Ny453; have H' := Az H; clear H; obtain ⟨ad451, e451, _, _, hx451_0⟩ := aI HR0.out x6_1
   cases e451
   replace hx451_0 := hT HB.out hx451_0; obtain ⟨ad452, e452, _, _, hx452_0⟩ := aI HR1.out (rd l0 x6_1)
   cases e452
   replace hx452_0 := hT HB.out hx452_0
   go_wp2_with (first | ((with_reducible refine gate_builtin (b := .append) (xs := #[.tmp 14, .tmp 22]) rfl ?_); at_builtin; refine Kd.R_append (Kd.int .i64) (w0 := w) w.heap.size rfl (.tmp 14) (.tmp 22) 23 3 (.int .i64 0) 8 rfl Try.underlying23 info3 rfl (by decide) (by omega) u5 x5_1 (rd l1 (rd l0 x6_1)) [.int .i64 (rd l1 (rd l0 x6_1))] (fun _ => True) (fun _ => False) rfl rfl ?aP (fun _ hk => hk.elim) ?aF ?aO ?aB ?aS ?aL ?_; (case aP => exact rfl); (case aB => exact (bU0 HB.out)); (case aF => exact (fun _ _ => trivial)); (case aO => exact (rU HO_5.out)); (case aS => exact (below_size (bU0 HB.out))); (case aL => have := LMc9.out; omega); intro v454 w10 ho hb hg hat; rw [← Ny453.out] at ho; replace HB := Az (hb); have HO455 := Az (ho); clear HO_5 ho hb hg hat))
   go_roundg k1
   case measure => exact mO
   case rel => exact ⟨(y453), (wrap64 (x6_1 + 1)), rS, H', ⟨mO⟩, ⟨rU HO455.out⟩, ⟨bU0 HB.out⟩⟩
  · obtain rfl := Option.some.inj H; go_wp2; go_ret; exact ⟨_, rE, rU HO_5.out, bU0 HB.out⟩
def spec_l2Faces.f (k : Nat) (l0_0 : List Int) (l0_1 : List Int) : Option (List Int) := (spec_l1Mul.f k l0_1 l0_0).bind fun t457 => (some t457)
set_option maxHeartbeats 8000000 in
set_option maxRecDepth 100000 in
theorem spec_l2Faces.calls (k : Nat) (A0_0 : Option Addr) (c0_0 : Nat) (l0_0 : List Int) (A0_1 : Option Addr) (c0_1 : Nat) (l0_1 : List Int) (r : List Int) (w : World) (hr0_0 : Kd.C (Kd.int .i64) w A0_0 l0_0.length l0_0) (hc0_0 : l0_0.length ≤ c0_0) (hr0_1 : Kd.C (Kd.int .i64) w A0_1 l0_1.length l0_1) (hc0_1 : l0_1.length ≤ c0_1) (h : spec_l2Faces.f k l0_0 l0_1 = some r) :
  Calls Try.prog 99 #[.agg #[.slice A0_0 l0_0.length c0_0, .slice A0_1 l0_1.length c0_1]] w fun e w' => ∃ v0_ : Value, e = .returned (v0_) ∧ Kd.R (Kd.int .i64) 3 w' w.heap.size (fun _ => True) v0_ r ∧ Below w.heap.size w w' := by
 have hu29 := Try.underlying29; have HR0_0 := Az hr0_0; have HC0_0 := Az hc0_0; clear hr0_0 hc0_0; have HR0_1 := Az hr0_1; have HC0_1 := Az hc0_1; clear hr0_1 hc0_1; have HB := bZ w; have H := h; clear h; unfold spec_l2Faces.f at H; replace H := bd H; obtain ⟨t457, A2, H⟩ := H; obtain rfl := Option.some.inj H; go_enter Try.func99, Try.ntmps99
 go_wp2_with (first | ((with_reducible refine gd 1 rfl ?_); refine bE 1 #[.slice A0_0 l0_0.length c0_0, .slice A0_1 l0_1.length c0_1] 29 ?_; intro gb456 hg w3 hbox hb; have BK456 := Az (hbox); have GW456 := gW hg (bU0 HB.out); replace HB := Az (below_step (bU0 HB.out) hb); clear hb hbox hg; have hz4 := bc2 BK456.out) | ((with_reducible refine gK 119 rfl ?_); refine gC (some 7) Try.func119 #[.slice A0_1 l0_1.length c0_1, .slice A0_0 l0_0.length c0_0] ?_; (with_reducible refine (spec_l1Mul.calls k _ _ l0_1 _ _ l0_0 t457 _ ?_ ?_ ?_ ?_ A2.out).mono ?_); exact cU (Kd.C_below HR0_1.out HB.out); exact HC0_1.out; exact cU (Kd.C_below HR0_0.out HB.out); exact HC0_0.out; rintro e w5 ⟨v458, rfl, ho0, hb⟩; refine ⟨_, rfl, ?_⟩; have HO459 := Az (Kd.R_lower ho0 (below_size (bU1 HB.out GW456.out))); replace BK456 := kB BK456.out hb; replace HB := Az (below_step (bU1 HB.out GW456.out) hb); clear hb ho0))
 go_ret; exact ⟨_, rE, rU HO459.out, bU1 HB.out GW456.out⟩
mutual
def spec_l1Cycles.l0 : Nat → List Int → List (List Int) → List Bool → Int → Option ((List (List Int)))
 | 0, _, _, _, _ => none
 | k + 1, x0, x3, x4, x5 => if x5 < (x0.length : Int) then (if 0 ≤ x5 then (if x5 < (x4.length : Int) then (if rdOf false x4 x5 = true then (spec_l1Cycles.l0 k x0 x3 x4 (wrap64 (x5 + 1))) else (spec_l1Cycles.l1 k x0 x3 x4 x5 (([] : List Int)) x5)) else (none)) else (none)) else (some x3)
def spec_l1Cycles.l1 : Nat → List Int → List (List Int) → List Bool → Int → List Int → Int → Option ((List (List Int)))
 | 0, _, _, _, _, _, _ => none
 | k + 1, x0, x3, x4, x5, x6, x7 => if 0 ≤ x7 then (if x7 < (x4.length : Int) then (if rdOf false x4 x7 = true then (if x3.length < 5864062014805 then (spec_l1Cycles.l0 k x0 (x3 ++ [x6]) x4 (wrap64 (x5 + 1))) else (none)) else (if x6.length < 17592186044416 then (if x7 < (x0.length : Int) then (spec_l1Cycles.l1 k x0 x3 (x4.set (x7 : Int).toNat true) x5 (x6 ++ [x7]) (rd x0 x7)) else (none)) else (none))) else (none)) else (none)
end
def spec_l1Cycles.f (k : Nat) (l0 : List Int) : Option ((List (List Int))) := if 0 ≤ (l0.length : Int) then (if ((l0.length : Int) : Int).toNat ≤ 281474976710656 then (spec_l1Cycles.l0 k l0 (([] : List (List Int))) (List.replicate ((l0.length : Int) : Int).toNat false) 0) else (none)) else (none)
set_option maxHeartbeats 8000000 in
set_option maxRecDepth 100000 in
theorem spec_l1Cycles.calls (k : Nat) (A0 : Option Addr) (c0 : Nat) (l0 : List Int) (r : List (List Int)) (w : World) (hr0 : Kd.C (Kd.int .i64) w A0 l0.length l0) (hc0 : l0.length ≤ c0) (h : spec_l1Cycles.f k l0 = some r) :
  Calls Try.prog 121 #[.slice A0 l0.length c0] w fun e w' => ∃ v0_ : Value, e = .returned (v0_) ∧ Kd.S (Kd.slice 3 (Kd.int .i64)) 23 w' w.heap.size (fun _ => True) v0_ r ∧ Below w.heap.size w w' := by
 have HR0 := Az hr0; have HC0 := Az hc0; clear hr0 hc0; have HB := bZ w; have H := h; clear h; unfold spec_l1Cycles.f at H; generalize Ny460 : (([] : List (List Int)) : List (List Int)) = y460 at H; replace Ny460 := Ay Ny460; replace H := gE H; obtain ⟨c2b0, c2b1, H⟩ := H; replace H := gE H; obtain ⟨c3b0, c3b1, H⟩ := H; generalize Ny463 : (List.replicate ((l0.length : Int) : Int).toNat false : List Bool) = y463 at H; replace Ny463 := Ay Ny463; have H' := Az H; clear H; go_enter Try.func121, Try.ntmps121
 go_wp2_with (first | ((with_reducible refine gd 8 rfl ?_); refine Kd.S_lit (Kd.slice 3 (Kd.int .i64)) _ 23 rfl (N := 8) rfl (xs := ([] : List (List Int))) (inner := []) (ok := fun _ => True) (okp := fun _ => True) hS ?hp (fun _ hk => hk) trivial (Below.refl _ _) (Nat.le_refl _) (by simp) ?_; (case hp => exact (Reps.none _ _)); intro v461 w4 ho5 hb hg_ hnew_; clear hg_ hnew_; (first | rw [← Ny460.out] at ho5 | (simp only [Int.reduceToNat] at ho5; rw [← Ny460.out] at ho5)); have HO462 := Az (Kd.S_lower ho5 (below_size (bU0 HB.out))); replace HB := Az (below_step (bU0 HB.out) hb); clear hb ho5) | ((with_reducible refine gd 11 rfl ?_); refine Kd.R_make Kd.bool _ 4 rfl (N := 11) rfl 93 _ _ rfl (l0.length : Int) rfl rfl Try.underlying93 (.bool false) 1 info4 rfl (by decide) (by omega) false (ok := fun _ => True) (okp := fun _ => True) rfl (fun _ hk => hk) trivial (oA) (Nat.le_trans (Nat.mul_le_mul_right _ (oA : (l0.length : Int).toNat ≤ 281474976710656)) (by omega)) (Below.refl _ _) (Nat.le_refl _) ?_; intro v464 w6 ho7 hb hg_ hnew_; clear hg_ hnew_; (first | rw [← Ny463.out] at ho7 | (simp only [Int.reduceToNat] at ho7; rw [← Ny463.out] at ho7)); replace HO462 := sB HO462.out hb; have HO465 := Az (Kd.R_lower ho7 (below_size (bU0 HB.out))); replace HB := Az (below_step (bU0 HB.out) hb); clear hb ho7))
 go_loopg [3, 5] k (fun kq v3 v5 w' => ∃ (x3_1 : List (List Int)) (x4_1 : List Bool) (x5_1 : Int), v5 = .int .i64 x5_1 ∧ Aside0 (spec_l1Cycles.l0 kq l0 x3_1 x4_1 x5_1 = some r) ∧ Aside0 (kq ≤ k) ∧ Aside0 (Kd.S (Kd.slice 3 (Kd.int .i64)) 23 w' w.heap.size (fun _ => True) v3 x3_1) ∧ Aside0 (Kd.R Kd.bool 4 w' w.heap.size (fun _ => True) v464 x4_1) ∧ Aside0 (Below w.heap.size w w'))
 case atStart => exact ⟨(y460), (y463), (0), rS, H', ⟨Nat.le_refl _⟩, ⟨sU HO462.out⟩, ⟨rU HO465.out⟩, ⟨bU0 HB.out⟩⟩
 case round =>
  clear H'; obtain ⟨x3_1, x4_1, x5_1, rfl, HA, HK1, HO_3, HO_4, HB⟩ := hrel
  rcases gk with _ | k1
  exact (nN HA.out).elim; have H := HA.out; clear HA; simp only [spec_l1Cycles.l0] at H
  by_cases c8 : x5_1 < (l0.length : Int)
  ·
   rw [if_pos c8] at H; have c8b0 := decide_eq_true c8; clear c8; replace H := gD2 H; obtain ⟨c9b0, c10b0, H⟩ := H; obtain ⟨bq11, hbq11⟩ : ∃ b_ : Bool, b_ = (rdOf false x4_1 x5_1) := ⟨_, rfl⟩
   replace H : (if bq11 = true then (spec_l1Cycles.l0 k1 l0 x3_1 x4_1 (wrap64 (x5_1 + 1))) else (spec_l1Cycles.l1 k1 l0 x3_1 x4_1 x5_1 (([] : List Int)) x5_1)) = some r := by rw [← hbq11] at H; exact H
   have Nbq11 := Az hbq11; clear hbq11
   by_cases c12 : bq11 = true
   ·
    subst c12; rw [if_pos rfl] at H; have H' := Az H; clear H; obtain ⟨Ao13, co13, eo13⟩ := Kd.R_slice HO_4.out; subst eo13; obtain ⟨ad466, e466, p466, q466, hx466_0⟩ := aB (Kd.R_reads' HO_4.out).2.2 x5_1; rw [← Nbq11.out] at hx466_0
    cases e466; go_wp2; go_roundg k1
    case measure => exact mO
    case rel => exact ⟨(x3_1), (x4_1), (wrap64 (x5_1 + 1)), rS, H', ⟨mO⟩, ⟨sU HO_3.out⟩, ⟨rU HO_4.out⟩, ⟨bU0 HB.out⟩⟩
   ·
    replace c12 := Bool.eq_false_iff.mpr c12; subst c12; rw [if_neg nT] at H; generalize Ny467 : (([] : List Int) : List Int) = y467 at H; replace Ny467 := Ay Ny467; have H' := Az H; clear H; obtain ⟨Ao14, co14, eo14⟩ := Kd.R_slice HO_4.out; subst eo14; obtain ⟨ad466, e466, p466, q466, hx466_0⟩ := aB (Kd.R_reads' HO_4.out).2.2 x5_1; rw [← Nbq11.out] at hx466_0
    cases e466
    go_wp2_with (first | ((with_reducible refine gd 22 rfl ?_); refine Kd.R_lit (Kd.int .i64) _ 3 rfl (N := 22) rfl (xs := ([] : List Int)) (inner := []) (ok := fun _ => True) (okp := fun _ => True) hS ?hp (fun _ hk => hk) trivial (Below.refl _ _) (Nat.le_refl _) (by simp) ?_; (case hp => exact (Reps.none _ _)); intro v468 w15 ho16 hb hg_ hnew_; clear hg_ hnew_; (first | rw [← Ny467.out] at ho16 | (simp only [Int.reduceToNat] at ho16; rw [← Ny467.out] at ho16)); replace HO_3 := Az (Kd.S_elder' (sU HO_3.out) (Kd.R_base ho16) hb); replace HO_4 := rB HO_4.out hb; have HO469 := Az (Kd.R_lower ho16 (below_size (bU0 HB.out))); replace HB := Az (below_step (bU0 HB.out) hb); clear hb ho16))
    go_loopg [6, 7] k1 (fun kq v6 v7 w' => ∃ (x4_2 : List Bool) (x6_2 : List Int) (x7_2 : Int), v7 = .int .i64 x7_2 ∧ Aside0 (spec_l1Cycles.l1 kq l0 x3_1 x4_2 x5_1 x6_2 x7_2 = some r) ∧ Aside0 (kq ≤ k1) ∧ Aside0 (Kd.S (Kd.slice 3 (Kd.int .i64)) 23 w' w.heap.size (fun k_ => oV k_ v6) u3 x3_1) ∧ Aside0 (Kd.R Kd.bool 4 w' w.heap.size (fun _ => True) (.slice (some ad466) x4_1.length co14) x4_2) ∧ Aside0 (Kd.R (Kd.int .i64) 3 w' w.heap.size (fun _ => True) v6 x6_2) ∧ Aside0 (Below w.heap.size w w'))
    case atStart => exact ⟨(x4_1), (y467), (x5_1), rS, H', ⟨Nat.le_refl _⟩, ⟨sM HO_3.out⟩, ⟨rU HO_4.out⟩, ⟨rU HO469.out⟩, ⟨bU0 HB.out⟩⟩
    case round =>
     clear H'; obtain ⟨x4_2, x6_2, x7_2, rfl, HA, HK2, HO_3, HO_4, HO_6, HB⟩ := hrel; have hl4_2 := (Kd.R_reads' HO_4.out).1; rw [hl4_2] at HO_4; simp only [hl4_2]
     rcases gk with _ | k2
     exact (nN HA.out).elim; have H := HA.out; clear HA; simp only [spec_l1Cycles.l1] at H; replace H := gD1 H; obtain ⟨c17b0, H⟩ := H; replace H := gP H; obtain ⟨c18, H⟩ := H; have c18b0 := decide_eq_true c18; clear c18; obtain ⟨bq19, hbq19⟩ : ∃ b_ : Bool, b_ = (rdOf false x4_2 x7_2) := ⟨_, rfl⟩
     replace H : (if bq19 = true then (if x3_1.length < 5864062014805 then (spec_l1Cycles.l0 k2 l0 (x3_1 ++ [x6_2]) x4_2 (wrap64 (x5_1 + 1))) else (none)) else (if x6_2.length < 17592186044416 then (if x7_2 < (l0.length : Int) then (spec_l1Cycles.l1 k2 l0 x3_1 (x4_2.set (x7_2 : Int).toNat true) x5_1 (x6_2 ++ [x7_2]) (rd l0 x7_2)) else (none)) else (none))) = some r := by rw [← hbq19] at H; exact H
     have Nbq19 := Az hbq19; clear hbq19
     by_cases c20 : bq19 = true
     ·
      subst c20; rw [if_pos rfl] at H; replace H := gP H; obtain ⟨c21, H⟩ := H; have LMc21 := Az c21; clear c21; generalize Ny471 : (x3_1 ++ [x6_2] : List (List Int)) = y471 at H; replace Ny471 := Ay Ny471; have H' := Az H; clear H; obtain ⟨ad470, e470, p470, q470, hx470_0⟩ := aB (Kd.R_reads' HO_4.out).2.2 x7_2; rw [← Nbq19.out] at hx470_0; obtain rfl : ad466 = ad470 := (by injection e470); obtain ⟨Ao23, co23, eo23⟩ := Kd.R_slice HO_6.out; subst eo23
      go_wp2_with (first | ((with_reducible refine gate_builtin (b := .append) (xs := #[.tmp 40, .tmp 42]) rfl ?_); at_builtin; refine Kd.S_append (Kd.slice 3 (Kd.int .i64)) (w0 := w) w.heap.size rfl (.tmp 40) (.tmp 42) 82 23 (.slice none 0 0) 24 rfl Try.underlying82 info23 rfl (by decide) (by omega) u3 x3_1 x6_2 [.slice Ao23 x6_2.length co23] (fun _ => True) (fun k_ => some k_ = (.slice Ao23 x6_2.length co23 : Value).ownBlock) rfl rfl ?aP (fun k_ hk_ => ((Kd.R_mono (ok' := fun k_ => ((fun _ => True)) k_ ∧ oV k_ u3) (Kd.R_apart' (HO_6.out) (Kd.S_typed HO_3.out) (by decide)) (fun k_ hk => ⟨trivial, hk.2⟩))).1 k_ hk_.symm) ?aF ?aO ?aB ?aS ?aL ?_; (case aP => exact Kd.M_row (Kd.R_mono (Kd.R_tight rfl (Kd.R_mono (ok' := fun k_ => ((fun _ => True)) k_ ∧ oV k_ u3) (Kd.R_apart' (HO_6.out) (Kd.S_typed HO_3.out) (by decide)) (fun k_ hk => ⟨trivial, hk.2⟩))) (fun _ h_ => h_))); (case aB => exact (bU0 HB.out)); (case aF => exact (fun _ _ => trivial)); (case aO => exact (by (with_reducible repeat (first | apply Kd.S_alloc | apply Kd.S_drewN | apply Kd.S_drew)); exact Kd.S_mono HO_3.out (fun k_ hk => ⟨trivial, fun e_ => hk e_⟩))); (case aS => exact (below_size (bU0 HB.out))); (case aL => have := LMc21.out; omega); intro v472 w22 ho hb hg hat; rw [← Ny471.out] at ho; replace HO_4 := Az (Kd.R_over' (rU HO_4.out) (Kd.S_typed (sU HO_3.out)) (by decide) hg); replace HB := Az (hb); have HO473 := Az (ho); clear HO_3 HO_6 ho hb hg hat))
      simp only [← hl4_2]; go_roundg k2
      case measure => exact mO
      case rel => exact ⟨(y471), (x4_2), (wrap64 (x5_1 + 1)), rS, H', ⟨mO⟩, ⟨by (with_reducible repeat (first | apply Kd.S_alloc | apply Kd.S_drewN | apply Kd.S_drew)); exact HO473.out⟩, ⟨by simp only [hl4_2]; (with_reducible repeat (first | apply Kd.R_alloc | apply Kd.R_drewN | apply Kd.R_drew)); exact HO_4.out⟩, ⟨bU0 HB.out⟩⟩
     ·
      replace c20 := Bool.eq_false_iff.mpr c20; subst c20; rw [if_neg nT] at H; generalize Ny474 : (x4_2.set (x7_2 : Int).toNat true : List Bool) = y474 at H; replace Ny474 := Ay Ny474; replace H := gP H; obtain ⟨c25, H⟩ := H; have LMc25 := Az c25; clear c25; generalize Ny475 : (x6_2 ++ [x7_2] : List Int) = y475 at H; replace Ny475 := Ay Ny475; replace H := gP H; obtain ⟨c26, H⟩ := H; have c26b0 := decide_eq_true c26; clear c26; have H' := Az H; clear H; obtain ⟨ad470, e470, p470, q470, hx470_0⟩ := aB (Kd.R_reads' HO_4.out).2.2 x7_2; rw [← Nbq19.out] at hx470_0; obtain rfl : ad466 = ad470 := (by injection e470); have p24 : 0 ≤ (x7_2 : Int) := oA; have q24 : (x7_2 : Int) < ((x4_2.length : Int) : Int) := oA; obtain ⟨go24, co24, eo24, gb24, gl24, cl24, HG24⟩ := Kd.R_form HO_4.out (by omega); (first | cases eo24 | (injection eo24 with ea_ en_ ec_; (first | subst ea_ | (injection ea_ with ea_; subst ea_)); subst ec_; clear en_)); have GB24 := Az gb24; have GG24 := Az HG24; clear gb24 gl24 HG24; simp only [add_plain] at hx466_0; simp only [add_plain] at hx470_0; obtain ⟨hx24_0, hf24_0⟩ := Kd.R_celln false HO_4.out (x7_2 : Int) p24 q24; replace p24 := eq_true p24; replace q24 := eq_true q24; obtain ⟨hy27_, hz27_⟩ := Kd.R_celln false HO_4.out (x7_2 : Int) (oA) (oA); have HP27 := Kd.R_putg HO_4.out (x7_2 : Int) true
      go_wp2_with (first | ((with_reducible refine gs 4 35 rfl ?_); refine sE 4 35 (wr.setCell ⟨go24, (x7_2 : Int).toNat, none⟩ (.bool true)) ?_; intro w28 hw; have hg : wr.grownBy w28 (some go24) := (by rw [hw]; exact HP27.2); have hp_ : Kd.R Kd.bool 4 w28 w.heap.size (fun _ => True) (.slice (some ⟨go24, 0, none⟩) x4_2.length co14) y474 := (by rw [hw, Ny474.out]; exact HP27.1); clear HP27; replace HO_3 := Az (Kd.S_over' (v := (.slice (some ⟨go24, 0, none⟩) x4_2.length co14)) (sU HO_3.out) (Kd.R_typed HO_4.out) (by decide) hg); replace HO_6 := Az (Kd.R_over' (v := (.slice (some ⟨go24, 0, none⟩) x4_2.length co14)) (rU HO_6.out) (Kd.R_typed HO_4.out) (by decide) hg); replace HO_4 := Az (hp_); replace HB := Az ((by rw [hw]; exact below_set (HB.out) GB24.out : Below w.heap.size w w28)); clear hg hw hp_) | ((with_reducible refine gate_builtin (b := .append) (xs := #[.tmp 36, .tmp 38]) rfl ?_); at_builtin; refine Kd.R_append (Kd.int .i64) (w0 := w) w.heap.size rfl (.tmp 36) (.tmp 38) 23 3 (.int .i64 0) 8 rfl Try.underlying23 info3 rfl (by decide) (by omega) u6 x6_2 x7_2 [.int .i64 x7_2] (fun _ => True) (fun _ => False) rfl rfl ?aP (fun _ hk => hk.elim) ?aF ?aO ?aB ?aS ?aL ?_; (case aP => exact rfl); (case aB => exact (bU0 HB.out)); (case aF => exact (fun _ _ => trivial)); (case aO => exact (rU HO_6.out)); (case aS => exact (below_size (bU0 HB.out))); (case aL => have := LMc25.out; omega); intro v476 w29 ho hb hg hat; rw [← Ny475.out] at ho; replace HO_3 := Az (Kd.S_after (ok := (fun _ => True)) (sM HO_3.out) hg hat); replace HO_4 := Az (Kd.R_over' (rU HO_4.out) (Kd.R_typed (rU HO_6.out)) (by decide) hg); replace HB := Az (hb); have HO477 := Az (ho); clear HO_6 ho hb hg hat; obtain ⟨ad478, e478, _, _, hx478_0⟩ := aI HR0.out x7_2; cases e478; replace hx478_0 := hT HB.out hx478_0))
      simp only [← hl4_2]; (first | go_roundg k2 | (refine Handed.intro k2 ?measure ?_; rotate_left; go_step; simp only [add_plain]; (repeat apply Exists.intro); refine ⟨?rel, rfl⟩))
      case measure => exact mO
      case rel => exact ⟨(y474), (y475), (rd l0 x7_2), rS, H', ⟨mO⟩, ⟨by (with_reducible repeat (first | apply Kd.S_alloc | apply Kd.S_drewN | apply Kd.S_drew)); exact Kd.S_mono HO_3.out (fun _ hk => hk.2)⟩, ⟨by simp only [hl4_2]; (with_reducible repeat (first | apply Kd.R_alloc | apply Kd.R_drewN | apply Kd.R_drew)); exact HO_4.out⟩, ⟨by (with_reducible repeat (first | apply Kd.R_alloc | apply Kd.R_drewN | apply Kd.R_drew)); exact HO477.out⟩, ⟨bU0 HB.out⟩⟩
  · rw [if_neg c8] at H; have c8b0 := decide_eq_false c8; clear c8; obtain rfl := Option.some.inj H; go_wp2; go_ret; exact ⟨_, rE, sU HO_3.out, bU0 HB.out⟩
mutual
def spec_l1Type.l0 : Nat → List Int → List (List Int) → Int → Option (List Int)
 | 0, _, _, _ => none
 | k + 1, x3, x4, x5 => if x5 > 0 then (spec_l1Type.l1 k x3 x4 x5 0) else (some x3)
def spec_l1Type.l1 : Nat → List Int → List (List Int) → Int → Int → Option (List Int)
 | 0, _, _, _, _ => none
 | k + 1, x3, x4, x5, x6 => if x6 < (x4.length : Int) then (if 0 ≤ x6 then (if ((rd_L1 x4 x6).length : Int) = x5 then (if x3.length < 17592186044416 then (spec_l1Type.l1 k (x3 ++ [x5]) x4 x5 (wrap64 (x6 + 1))) else (none)) else (spec_l1Type.l1 k x3 x4 x5 (wrap64 (x6 + 1)))) else (none)) else (spec_l1Type.l0 k x3 x4 (wrap64 (x5 - 1)))
end
def spec_l1Type.f (k : Nat) (l0 : List Int) : Option (List Int) := (spec_l1Cycles.f k l0).bind fun t482 => (spec_l1Type.l0 k (([] : List Int)) t482 (l0.length : Int))
set_option maxHeartbeats 8000000 in
set_option maxRecDepth 100000 in
theorem spec_l1Type.calls (k : Nat) (A0 : Option Addr) (c0 : Nat) (l0 : List Int) (r : List Int) (w : World) (hr0 : Kd.C (Kd.int .i64) w A0 l0.length l0) (hc0 : l0.length ≤ c0) (h : spec_l1Type.f k l0 = some r) :
  Calls Try.prog 113 #[.slice A0 l0.length c0] w fun e w' => ∃ v0_ : Value, e = .returned (v0_) ∧ Kd.R (Kd.int .i64) 3 w' w.heap.size (fun _ => True) v0_ r ∧ Below w.heap.size w w' := by
 have HR0 := Az hr0; have HC0 := Az hc0; clear hr0 hc0; have HB := bZ w; have H := h; clear h; unfold spec_l1Type.f at H; generalize Ny479 : (([] : List Int) : List Int) = y479 at H; replace Ny479 := Ay Ny479; replace H := bd H; obtain ⟨t482, A2, H⟩ := H; have H' := Az H; clear H; go_enter Try.func113, Try.ntmps113
 go_wp2_with (first | ((with_reducible refine gd 7 rfl ?_); refine Kd.R_lit (Kd.int .i64) _ 3 rfl (N := 7) rfl (xs := ([] : List Int)) (inner := []) (ok := fun _ => True) (okp := fun _ => True) hS ?hp (fun _ hk => hk) trivial (Below.refl _ _) (Nat.le_refl _) (by simp) ?_; (case hp => exact (Reps.none _ _)); intro v480 w3 ho4 hb hg_ hnew_; clear hg_ hnew_; (first | rw [← Ny479.out] at ho4 | (simp only [Int.reduceToNat] at ho4; rw [← Ny479.out] at ho4)); have HO481 := Az (Kd.R_lower ho4 (below_size (bU0 HB.out))); replace HB := Az (below_step (bU0 HB.out) hb); clear hb ho4) | ((with_reducible refine gK 121 rfl ?_); refine gC (some 9) Try.func121 #[.slice A0 l0.length c0] ?_; (with_reducible refine (spec_l1Cycles.calls k _ _ l0 t482 _ ?_ ?_ A2.out).mono ?_); exact cU (Kd.C_below HR0.out HB.out); exact HC0.out; rintro e w5 ⟨v483, rfl, ho0, hb⟩; refine ⟨_, rfl, ?_⟩; have HO484 := Az (Kd.S_lower (Kd.S_new' ho0 (Kd.R_lt (rU HO481.out))) (below_size (bU0 HB.out))); replace HO481 := rB HO481.out hb; replace HB := Az (below_step (bU0 HB.out) hb); clear hb ho0))
 go_loopg [3, 5] k (fun kq v3 v5 w' => ∃ (x3_1 : List Int) (x5_1 : Int), v5 = .int .i64 x5_1 ∧ Aside0 (spec_l1Type.l0 kq x3_1 t482 x5_1 = some r) ∧ Aside0 (kq ≤ k) ∧ Aside0 (Kd.R (Kd.int .i64) 3 w' w.heap.size (fun _ => True) v3 x3_1) ∧ Aside0 (Kd.S (Kd.slice 3 (Kd.int .i64)) 23 w' w.heap.size (fun k_ => oV k_ v3) v483 t482) ∧ Aside0 (Below w.heap.size w w'))
 case atStart => exact ⟨(y479), ((l0.length : Int)), rS, H', ⟨Nat.le_refl _⟩, ⟨rU HO481.out⟩, ⟨sM HO484.out⟩, ⟨bU0 HB.out⟩⟩
 case round =>
  clear H'; obtain ⟨x3_1, x5_1, rfl, HA, HK1, HO_3, HO_4, HB⟩ := hrel
  rcases gk with _ | k1
  exact (nN HA.out).elim; have H := HA.out; clear HA; simp only [spec_l1Type.l0] at H
  by_cases c6 : x5_1 > 0
  ·
   rw [if_pos c6] at H; have c6b0 := decide_eq_true c6; clear c6; have H' := Az H; clear H; go_wp2
   go_loopg [3, 6] k1 (fun kq v3 v6 w' => ∃ (x3_2 : List Int) (x6_2 : Int), v6 = .int .i64 x6_2 ∧ Aside0 (spec_l1Type.l1 kq x3_2 t482 x5_1 x6_2 = some r) ∧ Aside0 (kq ≤ k1) ∧ Aside0 (Kd.R (Kd.int .i64) 3 w' w.heap.size (fun _ => True) v3 x3_2) ∧ Aside0 (Kd.S (Kd.slice 3 (Kd.int .i64)) 23 w' w.heap.size (fun k_ => oV k_ v3) v483 t482) ∧ Aside0 (Below w.heap.size w w'))
   case atStart => exact ⟨(x3_1), (0), rS, H', ⟨Nat.le_refl _⟩, ⟨rU HO_3.out⟩, ⟨sU HO_4.out⟩, ⟨bU0 HB.out⟩⟩
   case round =>
    clear H'; obtain ⟨x3_2, x6_2, rfl, HA, HK2, HO_3, HO_4, HB⟩ := hrel
    rcases gk with _ | k2
    exact (nN HA.out).elim; have H := HA.out; clear HA; simp only [spec_l1Type.l1] at H
    replace H := gB H; rcases H with ⟨c7b0, H⟩ | ⟨c7b0, H⟩
    ·
     replace H := gD1 H; obtain ⟨c8b0, H⟩ := H
     replace H := gQ H; rcases H with ⟨c9b0, c9b1, H⟩ | ⟨c9b0, c9b1, H⟩
     ·
      replace H := gP H; obtain ⟨c10, H⟩ := H; have LMc10 := Az c10; clear c10; generalize Ny486 : (x3_2 ++ [x5_1] : List Int) = y486 at H; replace Ny486 := Ay Ny486; have H' := Az H; clear H; obtain ⟨Ao11, co11, eo11⟩ := Kd.S_slice HO_4.out; subst eo11; have p485 : 0 ≤ (x6_2 : Int) := oA; have q485 : x6_2 < (t482.length : Int) := oA; obtain ⟨ad485, A485_0, c485_0, e485, hx485_0, hl485_0, hi485_0⟩ := at_L1 (Kd.S_reads' HO_4.out).2.2 x6_2 p485 q485
      cases e485
      obtain ⟨ce485, hce485, hMe485, hcc485⟩ := Kd.S_get HO_4.out [] x6_2 p485 (by first | exact q485 | exact oA | (have e_ := (Kd.S_reads' HO_4.out).1; omega)); obtain ⟨ve485_0, rfl, ge485_0⟩ := hMe485; have hv485_0 := hcc485 0 _ rfl; rw [Nat.add_zero, show ((Kd.slice 3 (Kd.int .i64))).sz = 1 from rfl, Nat.mul_one] at hv485_0; replace hv485_0 := Option.some.inj (hv485_0.symm.trans hx485_0); rw [hv485_0] at ge485_0; have HL485_0 := Az (show Kd.R (Kd.int .i64) 3 _ _ _ _ (rd_L1 t482 x6_2) from ge485_0); clear hv485_0 ge485_0 hcc485 hce485; have HR485_0 := Az hi485_0; have HC485_0 := Az hl485_0; clear hi485_0 hl485_0; replace p485 := eq_true p485; replace q485 := eq_true q485
      go_wp2_with (first | ((with_reducible refine gate_builtin (b := .append) (xs := #[.tmp 29, .tmp 31]) rfl ?_); at_builtin; refine Kd.R_append (Kd.int .i64) (w0 := w) w.heap.size rfl (.tmp 29) (.tmp 31) 23 3 (.int .i64 0) 8 rfl Try.underlying23 info3 rfl (by decide) (by omega) u3 x3_2 x5_1 [.int .i64 x5_1] (fun _ => True) (fun _ => False) rfl rfl ?aP (fun _ hk => hk.elim) ?aF ?aO ?aB ?aS ?aL ?_; (case aP => exact rfl); (case aB => exact (bU0 HB.out)); (case aF => exact (fun _ _ => trivial)); (case aO => exact (rU HO_3.out)); (case aS => exact (below_size (bU0 HB.out))); (case aL => have := LMc10.out; omega); intro v487 w12 ho hb hg hat; rw [← Ny486.out] at ho; replace HO_4 := Az (Kd.S_after (ok := (fun _ => True)) (sM HO_4.out) hg hat); replace HL485_0 := Az (Kd.R_after (ok := (fun k_ => some k_ ≠ (.slice (some ad485) t482.length co11 : Value).ownBlock)) (rM HL485_0.out) hg hat); replace HB := Az (hb); have HO488 := Az (ho); clear HO_3 ho hb hg hat))
      go_roundg k2
      case measure => exact mO
      case rel => exact ⟨(y486), (wrap64 (x6_2 + 1)), rS, H', ⟨mO⟩, ⟨rU HO488.out⟩, ⟨sM HO_4.out⟩, ⟨bU0 HB.out⟩⟩
     ·
      have H' := Az H; clear H; obtain ⟨Ao13, co13, eo13⟩ := Kd.S_slice HO_4.out; subst eo13; have p485 : 0 ≤ (x6_2 : Int) := oA; have q485 : x6_2 < (t482.length : Int) := oA; obtain ⟨ad485, A485_0, c485_0, e485, hx485_0, hl485_0, hi485_0⟩ := at_L1 (Kd.S_reads' HO_4.out).2.2 x6_2 p485 q485
      cases e485
      obtain ⟨ce485, hce485, hMe485, hcc485⟩ := Kd.S_get HO_4.out [] x6_2 p485 (by first | exact q485 | exact oA | (have e_ := (Kd.S_reads' HO_4.out).1; omega)); obtain ⟨ve485_0, rfl, ge485_0⟩ := hMe485; have hv485_0 := hcc485 0 _ rfl; rw [Nat.add_zero, show ((Kd.slice 3 (Kd.int .i64))).sz = 1 from rfl, Nat.mul_one] at hv485_0; replace hv485_0 := Option.some.inj (hv485_0.symm.trans hx485_0); rw [hv485_0] at ge485_0; have HL485_0 := Az (show Kd.R (Kd.int .i64) 3 _ _ _ _ (rd_L1 t482 x6_2) from ge485_0); clear hv485_0 ge485_0 hcc485 hce485; have HR485_0 := Az hi485_0; have HC485_0 := Az hl485_0; clear hi485_0 hl485_0; replace p485 := eq_true p485; replace q485 := eq_true q485; go_wp2; go_roundg k2
      case measure => exact mO
      case rel => exact ⟨(x3_2), (wrap64 (x6_2 + 1)), rS, H', ⟨mO⟩, ⟨rU HO_3.out⟩, ⟨sU HO_4.out⟩, ⟨bU0 HB.out⟩⟩
    ·
     have H' := Az H; clear H; obtain ⟨Ao14, co14, eo14⟩ := Kd.S_slice HO_4.out; subst eo14; go_wp2; go_roundg k2
     case measure => exact mO
     case rel => exact ⟨(x3_2), (wrap64 (x5_1 - 1)), rS, H', ⟨mO⟩, ⟨rU HO_3.out⟩, ⟨sU HO_4.out⟩, ⟨bU0 HB.out⟩⟩
  · rw [if_neg c6] at H; have c6b0 := decide_eq_false c6; clear c6; obtain rfl := Option.some.inj H; go_wp2; go_ret; exact ⟨_, rE, rU HO_3.out, bU0 HB.out⟩
def spec_l6qFour.l0 : Nat → List Int → Int → Option (Bool)
 | 0, _, _ => none
 | k + 1, x3, x4 => if x4 < (x3.length : Int) then (if 0 ≤ x4 then (if (rd x3 x4) = 4 then (spec_l6qFour.l0 k x3 (wrap64 (x4 + 1))) else (some false)) else (none)) else (some true)
def spec_l6qFour.f (k : Nat) (l0_0 : List Int) (l0_1 : List Int) : Option (Bool) := (spec_l2Faces.f k l0_0 l0_1).bind fun t490 => ((spec_l1Type.f k t490).bind fun t493 => (spec_l6qFour.l0 k t493 0))
set_option maxHeartbeats 8000000 in
set_option maxRecDepth 100000 in
theorem spec_l6qFour.calls (k : Nat) (A0_0 : Option Addr) (c0_0 : Nat) (l0_0 : List Int) (A0_1 : Option Addr) (c0_1 : Nat) (l0_1 : List Int) (r : Bool) (w : World) (hr0_0 : Kd.C (Kd.int .i64) w A0_0 l0_0.length l0_0) (hc0_0 : l0_0.length ≤ c0_0) (hr0_1 : Kd.C (Kd.int .i64) w A0_1 l0_1.length l0_1) (hc0_1 : l0_1.length ≤ c0_1) (h : spec_l6qFour.f k l0_0 l0_1 = some r) :
  Calls Try.prog 91 #[.agg #[.slice A0_0 l0_0.length c0_0, .slice A0_1 l0_1.length c0_1]] w fun e w' => e = .returned (.bool r) ∧ Below w.heap.size w w' := by
 have hu29 := Try.underlying29; have HR0_0 := Az hr0_0; have HC0_0 := Az hc0_0; clear hr0_0 hc0_0; have HR0_1 := Az hr0_1; have HC0_1 := Az hc0_1; clear hr0_1 hc0_1; have HB := bZ w; have H := h; clear h; unfold spec_l6qFour.f at H; replace H := bd H; obtain ⟨t490, A2, H⟩ := H; replace H := bd H; obtain ⟨t493, A3, H⟩ := H; have H' := Az H; clear H; go_enter Try.func91, Try.ntmps91
 go_wp2_with (first | ((with_reducible refine gd 1 rfl ?_); refine bE 1 #[.slice A0_0 l0_0.length c0_0, .slice A0_1 l0_1.length c0_1] 29 ?_; intro gb489 hg w4 hbox hb; have BK489 := Az (hbox); have GW489 := gW hg (bU0 HB.out); replace HB := Az (below_step (bU0 HB.out) hb); clear hb hbox hg; have hz5 := bc2 BK489.out) | ((with_reducible refine gK 99 rfl ?_); refine gC (some 6) Try.func99 #[.agg #[.slice A0_0 l0_0.length c0_0, .slice A0_1 l0_1.length c0_1]] ?_; (with_reducible refine (spec_l2Faces.calls k _ _ l0_0 _ _ l0_1 t490 _ ?_ ?_ ?_ ?_ A2.out).mono ?_); exact cU (Kd.C_below HR0_0.out HB.out); exact HC0_0.out; exact cU (Kd.C_below HR0_1.out HB.out); exact HC0_1.out; rintro e w6 ⟨v491, rfl, ho0, hb⟩; refine ⟨_, rfl, ?_⟩; have HO492 := Az (Kd.R_lower ho0 (below_size (bU1 HB.out GW489.out))); replace BK489 := kB BK489.out hb; replace HB := Az (below_step (bU1 HB.out GW489.out) hb); clear hb ho0; obtain ⟨Ao7, co7, eo7⟩ := Kd.R_slice HO492.out; subst eo7) | ((with_reducible refine gK 113 rfl ?_); refine gC (some 7) Try.func113 #[.slice Ao7 t490.length co7] ?_; (with_reducible refine (spec_l1Type.calls k _ _ t490 t493 _ ?_ ?_ A3.out).mono ?_); exact cU ((Kd.R_reads' HO492.out).2.2); exact (Kd.R_reads' HO492.out).2.1; rintro e w8 ⟨v494, rfl, ho0, hb⟩; refine ⟨_, rfl, ?_⟩; have HO495 := Az (Kd.R_lower (Kd.R_new' ho0 (Kd.R_lt (rU HO492.out))) (below_size (bU1 HB.out GW489.out))); replace HO492 := Az (Kd.R_elder' (rU HO492.out) (Kd.R_base ho0) hb); replace BK489 := kB BK489.out hb; replace HB := Az (below_step (bU1 HB.out GW489.out) hb); clear hb ho0))
 go_loopg [4] k (fun kq v4 w' => ∃ (x4_1 : Int), v4 = .int .i64 x4_1 ∧ Aside0 (spec_l6qFour.l0 kq t493 x4_1 = some r) ∧ Aside0 (kq ≤ k) ∧ Aside0 (Kd.R (Kd.int .i64) 3 w' w.heap.size (fun _ => True) v494 t493) ∧ Aside0 (w'.heap[gb489]? = some (.cells #[(.slice A0_0 l0_0.length c0_0), (.slice A0_1 l0_1.length c0_1)] 29 (0, 0))) ∧ Aside0 (Below w.heap.size w w'))
 case atStart => exact ⟨(0), rS, H', ⟨Nat.le_refl _⟩, ⟨rM HO495.out⟩, ⟨kU BK489.out⟩, ⟨bU1 HB.out GW489.out⟩⟩
 case round =>
  clear H'; obtain ⟨x4_1, rfl, HA, HK1, HO_3, BK489, HB⟩ := hrel
  rcases gk with _ | k1
  exact (nN HA.out).elim; have H := HA.out; clear HA; simp only [spec_l6qFour.l0] at H
  replace H := gB H; rcases H with ⟨c9b0, H⟩ | ⟨c9b0, H⟩
  ·
   replace H := gD1 H; obtain ⟨c10b0, H⟩ := H
   replace H := gQ H; rcases H with ⟨c11b0, c11b1, H⟩ | ⟨c11b0, c11b1, H⟩
   ·
    have H' := Az H; clear H; obtain ⟨Ao12, co12, eo12⟩ := Kd.R_slice HO_3.out; subst eo12; obtain ⟨ad496, e496, p496, q496, hx496_0⟩ := aI (Kd.R_reads' HO_3.out).2.2 x4_1
    cases e496; go_wp2; go_roundg k1
    case measure => exact mO
    case rel => exact ⟨(wrap64 (x4_1 + 1)), rS, H', ⟨mO⟩, ⟨rU HO_3.out⟩, ⟨kU BK489.out⟩, ⟨bU1 HB.out GW489.out⟩⟩
   ·
    obtain rfl := Option.some.inj H; obtain ⟨Ao13, co13, eo13⟩ := Kd.R_slice HO_3.out; subst eo13; obtain ⟨ad496, e496, p496, q496, hx496_0⟩ := aI (Kd.R_reads' HO_3.out).2.2 x4_1
    cases e496; go_wp2; go_ret; exact ⟨rE, bU1 HB.out GW489.out⟩
  · obtain rfl := Option.some.inj H; obtain ⟨Ao14, co14, eo14⟩ := Kd.R_slice HO_3.out; subst eo14; go_wp2; go_ret; exact ⟨rE, bU1 HB.out GW489.out⟩
def spec_l2Counts.f (k : Nat) (l0_0 : List Int) (l0_1 : List Int) : Option (List Int) := (spec_l1Cycles.f k l0_0).bind fun t498 => ((spec_l2Faces.f k l0_0 l0_1).bind fun t501 => ((spec_l1Cycles.f k t501).bind fun t504 => (some (([(t498.length : Int), wrap64 ((l0_1.length : Int) / 2), (t504.length : Int)] : List Int)))))
def spec_l2Counts.T1 : Bool × List (List Nat × List Nat) := (true, [([], []), ([0], [0]), ([1], [1]), ([2], [2]), ([], []), ([4], [4]), ([5], [5]), ([6], [6]), ([], []), ([8, 2], [8]), ([9, 9], [9]), ([10], [10]), ([3, 7, 11], [3, 7, 11]), ([12, 10, 0, 1, 2, 3, 4, 5, 6, 7, 8, 9, 10, 11, 12], [12])])
def spec_l2Counts.B1 : List Nat := [0, 1, 3, 7, 0, 16, 48, 112, 0, 263, 775, 1799, 4095, 8191]
theorem spec_l2Counts.tab1 : rtab .any (opsOf Try.f114 1) = spec_l2Counts.T1 := by kernel_rfl
theorem spec_l2Counts.bits1 : waitsOk spec_l2Counts.T1.2 spec_l2Counts.B1 = true := by kernel_rfl
set_option maxHeartbeats 8000000 in
set_option maxRecDepth 100000 in
theorem spec_l2Counts.calls (k : Nat) (A0_0 : Option Addr) (c0_0 : Nat) (l0_0 : List Int) (A0_1 : Option Addr) (c0_1 : Nat) (l0_1 : List Int) (r : List Int) (w : World) (hr0_0 : Kd.C (Kd.int .i64) w A0_0 l0_0.length l0_0) (hc0_0 : l0_0.length ≤ c0_0) (hr0_1 : Kd.C (Kd.int .i64) w A0_1 l0_1.length l0_1) (hc0_1 : l0_1.length ≤ c0_1) (h : spec_l2Counts.f k l0_0 l0_1 = some r) :
  Calls Try.prog 114 #[.agg #[.slice A0_0 l0_0.length c0_0, .slice A0_1 l0_1.length c0_1]] w fun e w' => ∃ v0_ : Value, e = .returned (v0_) ∧ Kd.R (Kd.int .i64) 3 w' w.heap.size (fun _ => True) v0_ r ∧ Below w.heap.size w w' := by
 have hu29 := Try.underlying29; have HR0_0 := Az hr0_0; have HC0_0 := Az hc0_0; clear hr0_0 hc0_0; have HR0_1 := Az hr0_1; have HC0_1 := Az hc0_1; clear hr0_1 hc0_1; have HB := bZ w; have H := h; clear h; unfold spec_l2Counts.f at H; replace H := bd H; obtain ⟨t498, A2, H⟩ := H; replace H := bd H; obtain ⟨t501, A3, H⟩ := H; replace H := bd H; obtain ⟨t504, A4, H⟩ := H; generalize Ny507 : (([(t498.length : Int), wrap64 ((l0_1.length : Int) / 2), (t504.length : Int)] : List Int) : List Int) = y507 at H; replace Ny507 := Ay Ny507; obtain rfl := Option.some.inj H; go_enter Try.func114, Try.ntmps114
 try go_wp2_with (first | ((with_reducible refine gd 1 rfl ?_); refine bE 1 #[.slice A0_0 l0_0.length c0_0, .slice A0_1 l0_1.length c0_1] 29 ?_; intro gb497 hg w5 hbox hb; have BK497 := Az (hbox); have GW497 := gW hg (bU0 HB.out); replace HB := Az (below_step (bU0 HB.out) hb); clear hb hbox hg))
 replace BK497 := Az (blk_drew BK497.out); replace HB := Az (below_drew1 HB.out); refine start_ (n := 14) (S := fun w' => w'.cell? ⟨gb497, 0, none⟩ = some (.slice A0_0 l0_0.length c0_0) ∧ w'.cell? ⟨gb497, 1, none⟩ = some (.slice A0_1 l0_1.length c0_1)) (ds := []) (bv 14 0) (by kernel_rfl) rfl rfl ⟨(blk_cell BK497.out 0).trans rfl, (blk_cell BK497.out 1).trans rfl⟩ (fun hHeld => ?_); refine with_tabW spec_l2Counts.tab1 spec_l2Counts.bits1 (fun HT_ HW_ => ?_); generalize w5.drew = w6 at BK497 HB hHeld ⊢; refine pure_ (i := 0) (N := some 3) (v := ?_) (a' := ?_) (bv 14 1) rfl rfl (any_of HT_.out (by kernel_rfl)) (fun _ _ _ h => h) (Or.inl ⟨by rfl, ?_⟩) ?_ ?_; rotate_left; (exact yP); rotate_left; (exact aP); refine pure_ (i := 4) (N := some 7) (v := ?_) (a' := ?_) (bv 14 17) rfl rfl (any_of HT_.out (by kernel_rfl)) (fun _ _ _ h => h) (Or.inl ⟨by rfl, ?_⟩) ?_ ?_; rotate_left; (exact yP); rotate_left; (exact aP); refine take_ (i := 1) (N := some 4) (v := ?_) (a' := ?_) (bv 14 19) rfl rfl (take_ofW HT_.out HW_.out (by kernel_rfl)) (fun _ _ _ h => h) (Or.inl ⟨by rfl, ?_⟩) hHeld ?_ ?_; rotate_left
 ·
  rintro w' ⟨s0, s1⟩; go_simp
  with_reducible rfl
 rotate_left; (exact aP); refine take_ (i := 5) (N := some 8) (v := ?_) (a' := ?_) (bv 14 51) rfl rfl (take_ofW HT_.out HW_.out (by kernel_rfl)) (fun _ _ _ h => h) (Or.inl ⟨by rfl, ?_⟩) hHeld ?_ ?_; rotate_left
 ·
  rintro w' ⟨s0, s1⟩; go_simp
  with_reducible rfl
 rotate_left; (exact aP); refine pure_ (i := 6) (N := some 9) (v := ?_) (a' := ?_) (bv 14 115) rfl rfl (any_of HT_.out (by kernel_rfl)) (fun _ _ _ h => h) (Or.inl ⟨by rfl, ?_⟩) ?_ ?_; rotate_left; (exact yP); rotate_left; (exact aP); refine pure_ (i := 7) (N := some 10) (v := ?_) (a' := ?_) (bv 14 243) rfl rfl (any_of HT_.out (by kernel_rfl)) (fun _ _ _ h => h) (Or.inl ⟨by rfl, ?_⟩) ?_ ?_; rotate_left; (exact yP); rotate_left; (exact aP); refine take_ (i := 8) (N := some 11) (v := ?_) (a' := ?_) (bv 14 499) rfl rfl (take_ofW HT_.out HW_.out (by kernel_rfl)) (fun _ _ _ h => h) (Or.inl ⟨by rfl, ?_⟩) hHeld ?_ ?_; rotate_left
 ·
  rintro w' ⟨s0, s1⟩; go_simp
  with_reducible rfl
 rotate_left; (exact aP); refine one_ (i := 2) (N := some 5) (bv 14 503) rfl rfl (one_of HT_.out (by kernel_rfl)) (by decide) (fun K hK => ?_); refine goes_ Try.func121 (by kernel_rfl) rfl #[.slice A0_0 l0_0.length c0_0] (by rfl) rfl rfl lQ ?_
 with_reducible refine (spec_l1Cycles.calls k _ _ l0_0 t498 _ ?side1 ?side2 A2.out).mono ?_
 (case side1 => exact cU (Kd.C_below HR0_0.out HB.out))
 (case side2 => exact HC0_0.out)
 rintro e w7 ⟨v499, rfl, ho0, hb⟩; refine ⟨_, rfl, ?_⟩; have HO500 := Az (Kd.S_lower ho0 (below_size (bU1 HB.out GW497.out))); replace BK497 := kB BK497.out hb; replace HB := Az (below_step (bU1 HB.out GW497.out) hb); clear hb ho0; obtain ⟨Ao8, co8, eo8⟩ := Kd.S_slice HO500.out; (first | subst eo8 | (injection eo8 with f1_ f2_ f3_; have f4_ := f1_.symm; have f5_ := f3_.symm; clear f1_ f2_ f3_; subst f4_; subst f5_)); refine hK.out _ _ ⟨(blk_cell BK497.out 0).trans rfl, (blk_cell BK497.out 1).trans rfl⟩ (fun hHeld => ?_); clear hK K; refine norm_ (a' := ?_) ?_ ?_; rotate_left
 ·
  show Act.put _ (some 5) _ = _
  simp only [Act.put, List.setIfInBounds_toArray, List.set_cons_zero, List.set_cons_succ, i64_w, i32_w]; rfl
 refine pure_ (i := 3) (N := some 6) (v := ?_) (a' := ?_) (bv 14 511) rfl rfl (any_of HT_.out (by kernel_rfl)) (fun _ _ _ h => h) (Or.inl ⟨by rfl, ?_⟩) ?_ ?_; rotate_left; (exact yP); rotate_left; (exact aP); refine one_ (i := 9) (N := some 12) (bv 14 1023) rfl rfl (one_of HT_.out (by kernel_rfl)) (by decide) (fun K hK => ?_); refine goes_ Try.func99 (by kernel_rfl) rfl #[.agg #[.slice A0_0 l0_0.length c0_0, .slice A0_1 l0_1.length c0_1]] (by rfl) rfl rfl lQ ?_
 with_reducible refine (spec_l2Faces.calls k _ _ l0_0 _ _ l0_1 t501 _ ?side1 ?side2 ?side3 ?side4 A3.out).mono ?_
 (case side1 => exact cU (Kd.C_below HR0_0.out HB.out))
 (case side2 => exact HC0_0.out)
 (case side3 => exact cU (Kd.C_below HR0_1.out HB.out))
 (case side4 => exact HC0_1.out)
 rintro e w9 ⟨v502, rfl, ho0, hb⟩; refine ⟨_, rfl, ?_⟩; replace HO500 := Az (Kd.S_elder' (sU HO500.out) (Kd.R_base ho0) hb); have HO503 := Az (Kd.R_lower ho0 (below_size (bU1 HB.out GW497.out))); replace BK497 := kB BK497.out hb; replace HB := Az (below_step (bU1 HB.out GW497.out) hb); clear hb ho0; obtain ⟨Ao10, co10, eo10⟩ := Kd.R_slice HO503.out; (first | subst eo10 | (injection eo10 with f1_ f2_ f3_; have f4_ := f1_.symm; have f5_ := f3_.symm; clear f1_ f2_ f3_; subst f4_; subst f5_)); refine hK.out _ _ ⟨(blk_cell BK497.out 0).trans rfl, (blk_cell BK497.out 1).trans rfl⟩ (fun hHeld => ?_); clear hK K; refine norm_ (a' := ?_) ?_ ?_; rotate_left
 ·
  show Act.put _ (some 12) _ = _
  simp only [Act.put, List.setIfInBounds_toArray, List.set_cons_zero, List.set_cons_succ, i64_w, i32_w]; rfl
 refine one_ (i := 10) (N := some 13) (bv 14 2047) rfl rfl (one_of HT_.out (by kernel_rfl)) (by decide) (fun K hK => ?_); refine goes_ Try.func121 (by kernel_rfl) rfl #[.slice Ao10 t501.length co10] (by rfl) rfl rfl lQ ?_
 with_reducible refine (spec_l1Cycles.calls k _ _ t501 t504 _ ?side1 ?side2 A4.out).mono ?_
 (case side1 => exact cU ((Kd.R_reads' HO503.out).2.2))
 (case side2 => exact (Kd.R_reads' HO503.out).2.1)
 rintro e w11 ⟨v505, rfl, ho0, hb⟩; refine ⟨_, rfl, ?_⟩; have HO506 := Az (Kd.S_lower (Kd.S_new' (Kd.S_new' ho0 (Kd.S_lt (sU HO500.out))) (Kd.R_lt (rU HO503.out))) (below_size (bU1 HB.out GW497.out))); replace HO500 := Az (Kd.S_elder' (sU HO500.out) (Kd.S_base ho0) hb); replace HO503 := rB HO503.out hb; replace BK497 := kB BK497.out hb; replace HB := Az (below_step (bU1 HB.out GW497.out) hb); clear hb ho0; obtain ⟨Ao12, co12, eo12⟩ := Kd.S_slice HO506.out; (first | subst eo12 | (injection eo12 with f1_ f2_ f3_; have f4_ := f1_.symm; have f5_ := f3_.symm; clear f1_ f2_ f3_; subst f4_; subst f5_)); refine hK.out _ _ ⟨(blk_cell BK497.out 0).trans rfl, (blk_cell BK497.out 1).trans rfl⟩ (fun hHeld => ?_); clear hK K; refine norm_ (a' := ?_) ?_ ?_; rotate_left
 ·
  show Act.put _ (some 13) _ = _
  simp only [Act.put, List.setIfInBounds_toArray, List.set_cons_zero, List.set_cons_succ, i64_w, i32_w]; rfl
 refine pure_ (i := 11) (N := some 14) (v := ?_) (a' := ?_) (bv 14 4095) rfl rfl (any_of HT_.out (by kernel_rfl)) (fun _ _ _ h => h) (Or.inl ⟨by rfl, ?_⟩) ?_ ?_; rotate_left; (exact yP); rotate_left; (exact aP); refine one_ (i := 12) (N := some 15) (bv 14 8191) rfl rfl (one_of HT_.out (by kernel_rfl)) (by decide) (fun K hK => ?_); refine Kd.R_lit_step (Kd.int .i64) _ 3 ?hg (N := 15) ?hd (xs := ([(t498.length : Int), wrap64 ((l0_1.length : Int) / 2), (t504.length : Int)] : List Int)) (inner := [.int .i64 (t498.length : Int), .int .i64 (wrap64 ((l0_1.length : Int) / 2)), .int .i64 (t504.length : Int)]) (ok := fun _ => True) (okp := fun _ => True) ?hr ?hp (fun _ hk => hk) trivial (Below.refl _ _) (Nat.le_refl _) (by simp) ?_; (case hd => rfl); (case hg => rfl); (case hr => first | (go_simp; done) | (go_simp; rfl)); (case hp => exact (Reps.one (show Kd.M (Kd.int .i64) _ _ _ (t498.length : Int) [.int .i64 (t498.length : Int)] from rfl) (Reps.one (show Kd.M (Kd.int .i64) _ _ _ (wrap64 ((l0_1.length : Int) / 2)) [.int .i64 (wrap64 ((l0_1.length : Int) / 2))] from rfl) (Reps.one (show Kd.M (Kd.int .i64) _ _ _ (t504.length : Int) [.int .i64 (t504.length : Int)] from rfl) (Reps.none _ _))))); intro v508 w13 ho14 hb hg_ hnew_; clear hg_ hnew_; (first | rw [← Ny507.out] at ho14 | (simp only [Int.reduceToNat] at ho14; rw [← Ny507.out] at ho14)); replace HO500 := Az (Kd.S_elder' (sU HO500.out) (Kd.R_base ho14) hb); replace HO506 := Az (Kd.S_elder' (sU HO506.out) (Kd.R_base ho14) hb); have HO509 := Az (Kd.R_lower (Kd.R_new' ho14 (Kd.R_lt (rU HO503.out))) (below_size (bU1 HB.out GW497.out))); replace HO503 := Az (Kd.R_elder' (rU HO503.out) (Kd.R_base ho14) hb); replace BK497 := kB BK497.out hb; replace HB := Az (below_step (bU1 HB.out GW497.out) hb); clear hb ho14; refine hK.out _ _ ⟨(blk_cell BK497.out 0).trans rfl, (blk_cell BK497.out 1).trans rfl⟩ (fun hHeld => ?_); clear hK K; refine norm_ (a' := ?_) ?_ ?_; rotate_left
 ·
  show Act.put _ (some 15) _ = _
  simp only [Act.put, List.setIfInBounds_toArray, List.set_cons_zero, List.set_cons_succ, i64_w, i32_w]; rfl
 refine pure_ (i := 13) (N := some 2) (v := ?_) (a' := ?_) (bv 14 16383) rfl rfl (any_of HT_.out (by kernel_rfl)) (fun _ _ _ h => h) (Or.inl ⟨by rfl, ?_⟩) ?_ ?_; rotate_left; (exact yP); rotate_left; (exact aP); refine done_ (done_of HT_.out (by kernel_rfl)) ?_
 try go_wp2
 go_ret; exact ⟨_, rE, by (with_reducible repeat (first | apply Kd.R_alloc | apply Kd.R_drewN | apply Kd.R_drew)); exact Kd.R_mono HO509.out (fun _ hk => trivial), bU1 HB.out GW497.out⟩
def spec_l2Genus.f (k : Nat) (l0_0 : List Int) (l0_1 : List Int) : Option (Int) := (spec_l2Counts.f k l0_0 l0_1).bind fun t511 => (if 0 < (t511.length : Int) then (if 1 < (t511.length : Int) then (if 2 < (t511.length : Int) then (some (wrap64 (Int.tdiv (wrap64 ((wrap64 ((wrap64 (2 - (rd t511 0))) + (rd t511 1))) - (rd t511 2))) 2))) else (none)) else (none)) else (none))
set_option maxHeartbeats 8000000 in
set_option maxRecDepth 100000 in
theorem spec_l2Genus.calls (k : Nat) (A0_0 : Option Addr) (c0_0 : Nat) (l0_0 : List Int) (A0_1 : Option Addr) (c0_1 : Nat) (l0_1 : List Int) (r : Int) (w : World) (hr0_0 : Kd.C (Kd.int .i64) w A0_0 l0_0.length l0_0) (hc0_0 : l0_0.length ≤ c0_0) (hr0_1 : Kd.C (Kd.int .i64) w A0_1 l0_1.length l0_1) (hc0_1 : l0_1.length ≤ c0_1) (h : spec_l2Genus.f k l0_0 l0_1 = some r) :
  Calls Try.prog 92 #[.agg #[.slice A0_0 l0_0.length c0_0, .slice A0_1 l0_1.length c0_1]] w fun e w' => e = .returned (.int .i64 r) ∧ Below w.heap.size w w' := by
 have hu29 := Try.underlying29; have HR0_0 := Az hr0_0; have HC0_0 := Az hc0_0; clear hr0_0 hc0_0; have HR0_1 := Az hr0_1; have HC0_1 := Az hc0_1; clear hr0_1 hc0_1; have HB := bZ w; have H := h; clear h; unfold spec_l2Genus.f at H; replace H := bd H; obtain ⟨t511, A2, H⟩ := H; replace H := gP H; obtain ⟨c3, H⟩ := H; have c3b0 := decide_eq_true c3; have c3b1 : decide (0 < t511.length) = true := decide_eq_true (by omega); clear c3; replace H := gP H; obtain ⟨c4, H⟩ := H; have c4b0 := decide_eq_true c4; have c4b1 : decide (1 < t511.length) = true := decide_eq_true (by omega); clear c4; replace H := gP H; obtain ⟨c5, H⟩ := H; have c5b0 := decide_eq_true c5; have c5b1 : decide (2 < t511.length) = true := decide_eq_true (by omega); clear c5; obtain rfl := Option.some.inj H; go_enter Try.func92, Try.ntmps92
 go_wp2_with (first | ((with_reducible refine gd 1 rfl ?_); refine bE 1 #[.slice A0_0 l0_0.length c0_0, .slice A0_1 l0_1.length c0_1] 29 ?_; intro gb510 hg w6 hbox hb; have BK510 := Az (hbox); have GW510 := gW hg (bU0 HB.out); replace HB := Az (below_step (bU0 HB.out) hb); clear hb hbox hg; have hz7 := bc2 BK510.out) | (go_at_call 114; (with_reducible refine (spec_l2Counts.calls k _ _ l0_0 _ _ l0_1 t511 _ ?_ ?_ ?_ ?_ A2.out).mono ?_); exact cU (Kd.C_below HR0_0.out HB.out); exact HC0_0.out; exact cU (Kd.C_below HR0_1.out HB.out); exact HC0_1.out; rintro e w8 ⟨v512, rfl, ho0, hb⟩; have HO513 := Az (Kd.R_lower ho0 (below_size (bU1 HB.out GW510.out))); replace BK510 := kB BK510.out hb; replace HB := Az (below_step (bU1 HB.out GW510.out) hb); clear hb ho0; obtain ⟨Ao9, co9, eo9⟩ := Kd.R_slice HO513.out; subst eo9; have p514 : 0 ≤ (0 : Int) := (by omega); have q514 : 0 < (t511.length : Int) := oA; obtain ⟨ad514, e514, hx514_0⟩ := Kd.at_int (Kd.R_reads' HO513.out).2.2 0 p514 q514; cases e514; have qi514 : (0 < t511.length) = True := eq_true (by omega); rw [show ((0 : Int)).toNat = 0 from rfl] at hx514_0; rw [Addr.add_zero'] at hx514_0; replace p514 := eq_true p514; replace q514 := eq_true q514; have p515 : 0 ≤ (1 : Int) := (by omega); have q515 : 1 < (t511.length : Int) := oA; obtain ⟨ad515, e515, hx515_0⟩ := Kd.at_int (Kd.R_reads' HO513.out).2.2 1 p515 q515; obtain rfl : ad514 = ad515 := (by injection e515); simp only [show (1 : Int).toNat = 1 from rfl, Nat.reduceMul, Nat.reduceEqDiff, Go.Addr.add, ↓reduceIte] at hx515_0; have qi515 : (1 < t511.length) = True := eq_true (by omega); replace p515 := eq_true p515; replace q515 := eq_true q515; have p516 : 0 ≤ (2 : Int) := (by omega); have q516 : 2 < (t511.length : Int) := oA; obtain ⟨ad516, e516, hx516_0⟩ := Kd.at_int (Kd.R_reads' HO513.out).2.2 2 p516 q516; obtain rfl : ad514 = ad516 := (by injection e516); simp only [show (2 : Int).toNat = 2 from rfl, Nat.reduceMul, Nat.reduceEqDiff, Go.Addr.add, ↓reduceIte] at hx516_0; have qi516 : (2 < t511.length) = True := eq_true (by omega); replace p516 := eq_true p516; replace q516 := eq_true q516))
 repeat (go_quiet (fail); try go_wp2_with (fail))
 go_ret; exact ⟨rE, bU1 HB.out GW510.out⟩
def spec_QuadIs.f (k : Nat) (l0_0 : List Int) (l0_1 : List Int) : Option (Bool) := (spec_MapValid.f k l0_0 l0_1).bind fun t518 => (if t518 = true then ((spec_l6qFour.f k l0_0 l0_1).bind fun t519 => (if t519 = true then ((spec_l2Genus.f k l0_0 l0_1).bind fun t520 => (some (t520 == 0))) else (some false))) else (some false))
set_option maxHeartbeats 8000000 in
set_option maxRecDepth 100000 in
theorem spec_QuadIs.calls (k : Nat) (A0_0 : Option Addr) (c0_0 : Nat) (l0_0 : List Int) (A0_1 : Option Addr) (c0_1 : Nat) (l0_1 : List Int) (r : Bool) (w : World) (hr0_0 : Kd.C (Kd.int .i64) w A0_0 l0_0.length l0_0) (hc0_0 : l0_0.length ≤ c0_0) (hr0_1 : Kd.C (Kd.int .i64) w A0_1 l0_1.length l0_1) (hc0_1 : l0_1.length ≤ c0_1) (h : spec_QuadIs.f k l0_0 l0_1 = some r) :
  Calls Try.prog 50 #[.agg #[.slice A0_0 l0_0.length c0_0, .slice A0_1 l0_1.length c0_1]] w fun e w' => e = .returned (.bool r) ∧ Below w.heap.size w w' := by
 have hu29 := Try.underlying29; have HR0_0 := Az hr0_0; have HC0_0 := Az hc0_0; clear hr0_0 hc0_0; have HR0_1 := Az hr0_1; have HC0_1 := Az hc0_1; clear hr0_1 hc0_1; have HB := bZ w; have H := h; clear h; unfold spec_QuadIs.f at H; replace H := bd H; obtain ⟨t518, A2, H⟩ := H
 by_cases c3 : t518 = true
 ·
  subst c3; rw [if_pos rfl] at H; replace H := bd H; obtain ⟨t519, A4, H⟩ := H
  by_cases c5 : t519 = true
  ·
   subst c5; rw [if_pos rfl] at H; replace H := bd H; obtain ⟨t520, A6, H⟩ := H; obtain rfl := Option.some.inj H; go_enter Try.func50, Try.ntmps50
   go_wp2_with (first | ((with_reducible refine gd 1 rfl ?_); refine bE 1 #[.slice A0_0 l0_0.length c0_0, .slice A0_1 l0_1.length c0_1] 29 ?_; intro gb517 hg w7 hbox hb; have BK517 := Az (hbox); have GW517 := gW hg (bU0 HB.out); replace HB := Az (below_step (bU0 HB.out) hb); clear hb hbox hg; have hz8 := bc2 BK517.out) | ((with_reducible refine gK 90 rfl ?_); refine gC (some 4) Try.func90 #[.agg #[.slice A0_0 l0_0.length c0_0, .slice A0_1 l0_1.length c0_1]] ?_; (with_reducible refine (spec_MapValid.calls k _ _ l0_0 _ _ l0_1 true _ ?_ ?_ ?_ ?_ A2.out).mono ?_); exact cU (Kd.C_below HR0_0.out HB.out); exact HC0_0.out; exact cU (Kd.C_below HR0_1.out HB.out); exact HC0_1.out; rintro e w9 ⟨rfl, hb⟩; refine ⟨_, rfl, ?_⟩; replace BK517 := kB BK517.out hb; replace HB := Az z3_0; clear hb; have hz10 := bc2 BK517.out) | (go_at_call 91; (with_reducible refine (spec_l6qFour.calls k _ _ l0_0 _ _ l0_1 true _ ?_ ?_ ?_ ?_ A4.out).mono ?_); exact cU (Kd.C_below HR0_0.out HB.out); exact HC0_0.out; exact cU (Kd.C_below HR0_1.out HB.out); exact HC0_1.out; rintro e w11 ⟨rfl, hb⟩; replace BK517 := kB BK517.out hb; replace HB := Az z3_0; clear hb; have hz12 := bc2 BK517.out) | (go_at_call 92; (with_reducible refine (spec_l2Genus.calls k _ _ l0_0 _ _ l0_1 t520 _ ?_ ?_ ?_ ?_ A6.out).mono ?_); exact cU (Kd.C_below HR0_0.out HB.out); exact HC0_0.out; exact cU (Kd.C_below HR0_1.out HB.out); exact HC0_1.out; rintro e w13 ⟨rfl, hb⟩; replace BK517 := kB BK517.out hb; replace HB := Az z3_0; clear hb))
   go_ret; exact ⟨rE, bU1 HB.out GW517.out⟩
  ·
   replace c5 := Bool.eq_false_iff.mpr c5; subst c5; rw [if_neg nT] at H; obtain rfl := Option.some.inj H; go_enter Try.func50, Try.ntmps50
   go_wp2_with (first | ((with_reducible refine gd 1 rfl ?_); refine bE 1 #[.slice A0_0 l0_0.length c0_0, .slice A0_1 l0_1.length c0_1] 29 ?_; intro gb517 hg w14 hbox hb; have BK517 := Az (hbox); have GW517 := gW hg (bU0 HB.out); replace HB := Az (below_step (bU0 HB.out) hb); clear hb hbox hg; have hz15 := bc2 BK517.out) | ((with_reducible refine gK 90 rfl ?_); refine gC (some 4) Try.func90 #[.agg #[.slice A0_0 l0_0.length c0_0, .slice A0_1 l0_1.length c0_1]] ?_; (with_reducible refine (spec_MapValid.calls k _ _ l0_0 _ _ l0_1 true _ ?_ ?_ ?_ ?_ A2.out).mono ?_); exact cU (Kd.C_below HR0_0.out HB.out); exact HC0_0.out; exact cU (Kd.C_below HR0_1.out HB.out); exact HC0_1.out; rintro e w16 ⟨rfl, hb⟩; refine ⟨_, rfl, ?_⟩; replace BK517 := kB BK517.out hb; replace HB := Az z3_0; clear hb; have hz17 := bc2 BK517.out) | (go_at_call 91; (with_reducible refine (spec_l6qFour.calls k _ _ l0_0 _ _ l0_1 false _ ?_ ?_ ?_ ?_ A4.out).mono ?_); exact cU (Kd.C_below HR0_0.out HB.out); exact HC0_0.out; exact cU (Kd.C_below HR0_1.out HB.out); exact HC0_1.out; rintro e w18 ⟨rfl, hb⟩; replace BK517 := kB BK517.out hb; replace HB := Az z3_0; clear hb))
   go_ret; exact ⟨rE, bU1 HB.out GW517.out⟩
 ·
  replace c3 := Bool.eq_false_iff.mpr c3; subst c3; rw [if_neg nT] at H; obtain rfl := Option.some.inj H; go_enter Try.func50, Try.ntmps50
  go_wp2_with (first | ((with_reducible refine gd 1 rfl ?_); refine bE 1 #[.slice A0_0 l0_0.length c0_0, .slice A0_1 l0_1.length c0_1] 29 ?_; intro gb517 hg w19 hbox hb; have BK517 := Az (hbox); have GW517 := gW hg (bU0 HB.out); replace HB := Az (below_step (bU0 HB.out) hb); clear hb hbox hg; have hz20 := bc2 BK517.out) | ((with_reducible refine gK 90 rfl ?_); refine gC (some 4) Try.func90 #[.agg #[.slice A0_0 l0_0.length c0_0, .slice A0_1 l0_1.length c0_1]] ?_; (with_reducible refine (spec_MapValid.calls k _ _ l0_0 _ _ l0_1 false _ ?_ ?_ ?_ ?_ A2.out).mono ?_); exact cU (Kd.C_below HR0_0.out HB.out); exact HC0_0.out; exact cU (Kd.C_below HR0_1.out HB.out); exact HC0_1.out; rintro e w21 ⟨rfl, hb⟩; refine ⟨_, rfl, ?_⟩; replace BK517 := kB BK517.out hb; replace HB := Az z3_0; clear hb))
  go_ret; exact ⟨rE, bU1 HB.out GW517.out⟩
def spec_l2Dart.f (k : Nat) (l0_0 : List Int) (l0_1 : List Int) (a1 : Int) : Option (Bool) := (spec_MapValid.f k l0_0 l0_1).bind fun t522 => (if t522 = true then ((spec_l6In.f a1 0 (wrap64 ((l0_0.length : Int) - 1))).bind fun t523 => (some t523)) else (some false))
set_option maxHeartbeats 8000000 in
set_option maxRecDepth 100000 in
theorem spec_l2Dart.calls (k : Nat) (A0_0 : Option Addr) (c0_0 : Nat) (l0_0 : List Int) (A0_1 : Option Addr) (c0_1 : Nat) (l0_1 : List Int) (a1 : Int) (r : Bool) (w : World) (hr0_0 : Kd.C (Kd.int .i64) w A0_0 l0_0.length l0_0) (hc0_0 : l0_0.length ≤ c0_0) (hr0_1 : Kd.C (Kd.int .i64) w A0_1 l0_1.length l0_1) (hc0_1 : l0_1.length ≤ c0_1) (h : spec_l2Dart.f k l0_0 l0_1 a1 = some r) :
  Calls Try.prog 96 #[.agg #[.slice A0_0 l0_0.length c0_0, .slice A0_1 l0_1.length c0_1], .int .i64 a1] w fun e w' => e = .returned (.bool r) ∧ Below w.heap.size w w' := by
 have hu29 := Try.underlying29; have HR0_0 := Az hr0_0; have HC0_0 := Az hc0_0; clear hr0_0 hc0_0; have HR0_1 := Az hr0_1; have HC0_1 := Az hc0_1; clear hr0_1 hc0_1; have HB := bZ w; have H := h; clear h; unfold spec_l2Dart.f at H; replace H := bd H; obtain ⟨t522, A3, H⟩ := H
 by_cases c4 : t522 = true
 ·
  subst c4; rw [if_pos rfl] at H; replace H := bd H; obtain ⟨t523, A5, H⟩ := H; obtain rfl := Option.some.inj H; go_enter Try.func96, Try.ntmps96
  go_wp2_with (first | ((with_reducible refine gd 2 rfl ?_); (refine gate_guard (by rfl) ?_; dsimp only); refine bE 2 #[.slice A0_0 l0_0.length c0_0, .slice A0_1 l0_1.length c0_1] 29 ?_; intro gb521 hg w6 hbox hb; have BK521 := Az (hbox); have GW521 := gW hg (bU0 HB.out); replace HB := Az (below_step (bU0 HB.out) hb); clear hb hbox hg; have hz7 := bc2 BK521.out) | ((with_reducible refine gK 90 rfl ?_); refine gC (some 6) Try.func90 #[.agg #[.slice A0_0 l0_0.length c0_0, .slice A0_1 l0_1.length c0_1]] ?_; (with_reducible refine (spec_MapValid.calls k _ _ l0_0 _ _ l0_1 true _ ?_ ?_ ?_ ?_ A3.out).mono ?_); exact cU (Kd.C_below HR0_0.out HB.out); exact HC0_0.out; exact cU (Kd.C_below HR0_1.out HB.out); exact HC0_1.out; rintro e w8 ⟨rfl, hb⟩; refine ⟨_, rfl, ?_⟩; replace BK521 := kB BK521.out hb; replace HB := Az (below_step (bU1 HB.out GW521.out) hb); clear hb; have hz9 := bc2 BK521.out) | (go_at_call 63; (with_reducible refine (spec_l6In.calls a1 0 (wrap64 ((l0_0.length : Int) - 1)) t523 _ A5.out).mono ?_); rintro e w' ⟨rfl, ⟨nd, rfl⟩⟩))
  go_ret; exact ⟨rE, bU1 HB.out GW521.out⟩
 ·
  replace c4 := Bool.eq_false_iff.mpr c4; subst c4; rw [if_neg nT] at H; obtain rfl := Option.some.inj H; go_enter Try.func96, Try.ntmps96
  go_wp2_with (first | ((with_reducible refine gd 2 rfl ?_); (refine gate_guard (by rfl) ?_; dsimp only); refine bE 2 #[.slice A0_0 l0_0.length c0_0, .slice A0_1 l0_1.length c0_1] 29 ?_; intro gb521 hg w10 hbox hb; have BK521 := Az (hbox); have GW521 := gW hg (bU0 HB.out); replace HB := Az (below_step (bU0 HB.out) hb); clear hb hbox hg; have hz11 := bc2 BK521.out) | ((with_reducible refine gK 90 rfl ?_); refine gC (some 6) Try.func90 #[.agg #[.slice A0_0 l0_0.length c0_0, .slice A0_1 l0_1.length c0_1]] ?_; (with_reducible refine (spec_MapValid.calls k _ _ l0_0 _ _ l0_1 false _ ?_ ?_ ?_ ?_ A3.out).mono ?_); exact cU (Kd.C_below HR0_0.out HB.out); exact HC0_0.out; exact cU (Kd.C_below HR0_1.out HB.out); exact HC0_1.out; rintro e w12 ⟨rfl, hb⟩; refine ⟨_, rfl, ?_⟩; replace BK521 := kB BK521.out hb; replace HB := Az (below_step (bU1 HB.out GW521.out) hb); clear hb))
  go_ret; exact ⟨rE, bU1 HB.out GW521.out⟩
mutual
def spec_l2Fars.l0 : Nat → Int → List Int → Int → List Int → List Int → Option (List Int)
 | 0, _, _, _, _, _ => none
 | k + 1, x1, x5, x6, xZ0, xZ1 => if x6 < (x5.length : Int) then (if 0 ≤ x6 then (spec_l2Fars.l0 k x1 (x5.set (x6 : Int).toNat (x5.length : Int)) (wrap64 (x6 + 1)) xZ0 xZ1) else (none)) else (if 0 ≤ x1 then (if x1 < (x5.length : Int) then (spec_l2Fars.l1 k (x5.set (x1 : Int).toNat 0) 0 xZ0 xZ1) else (none)) else (none))
def spec_l2Fars.l1 : Nat → List Int → Int → List Int → List Int → Option (List Int)
 | 0, _, _, _, _ => none
 | k + 1, x5, x7, xZ0, xZ1 => if x7 < (wrap64 (2 * (x5.length : Int))) then (spec_l2Fars.l2 k x5 x7 0 xZ0 xZ1) else (some x5)
def spec_l2Fars.l2 : Nat → List Int → Int → Int → List Int → List Int → Option (List Int)
 | 0, _, _, _, _, _ => none
 | k + 1, x5, x7, x8, xZ0, xZ1 => if x8 < (x5.length : Int) then (if 0 ≤ x8 then (if x8 < (xZ1.length : Int) then (if 0 ≤ (rd xZ1 x8) then (if (rd xZ1 x8) < (x5.length : Int) then ((some (x5.set (x8 : Int).toNat (mn (rd x5 x8) (wrap64 ((rd x5 (rd xZ1 x8)) + 1))) : List Int)).bind fun y533 => (if x8 < (xZ0.length : Int) then (if 0 ≤ (rd xZ0 x8) then (if (rd xZ0 x8) < (x5.length : Int) then (spec_l2Fars.l2 k (y533.set ((rd xZ0 x8) : Int).toNat (mn (rd y533 (rd xZ0 x8)) (rd y533 x8))) x7 (wrap64 (x8 + 1)) xZ0 xZ1) else (none)) else (none)) else (none))) else (none)) else (none)) else (none)) else (none)) else (spec_l2Fars.l1 k x5 (wrap64 (x7 + 1)) xZ0 xZ1)
end
def spec_l2Fars.f (k : Nat) (l0_0 : List Int) (l0_1 : List Int) (a1 : Int) : Option (List Int) := if 0 ≤ (l0_0.length : Int) then (if ((l0_0.length : Int) : Int).toNat ≤ 35184372088832 then (spec_l2Fars.l0 k a1 (List.replicate ((l0_0.length : Int) : Int).toNat 0) 0 l0_0 l0_1) else (none)) else (none)
def spec_l2Fars.T13 : Bool × List (List Nat × List Nat) := (true, [([], []), ([], []), ([], []), ([], []), ([2, 3], [2, 3]), ([4], [4]), ([], []), ([], []), ([7], [7]), ([], []), ([8, 9], [8, 9]), ([10], [10]), ([6, 11], [6, 11]), ([12], [12]), ([13], [13]), ([5, 14], [5, 14]), ([0, 1, 0, 1, 2, 3, 4, 5, 6, 7, 8, 9, 10, 11, 12, 13, 14, 15], [0, 1]), ([16, 15, 0, 1, 2, 3, 4, 5, 6, 7, 8, 9, 10, 11, 12, 13, 14, 15], [15, 16])])
def spec_l2Fars.B13 : List Nat := [0, 0, 0, 0, 12, 28, 0, 0, 128, 0, 896, 1920, 4032, 8128, 16320, 32764, 65535, 131071]
theorem spec_l2Fars.tab13 : rtab .any (opsOf Try.f97 13) = spec_l2Fars.T13 := by kernel_rfl
theorem spec_l2Fars.bits13 : waitsOk spec_l2Fars.T13.2 spec_l2Fars.B13 = true := by kernel_rfl
def spec_l2Fars.T14 : Bool × List (List Nat × List Nat) := (true, [([], []), ([], []), ([1], [1]), ([], []), ([2, 3], [2, 3]), ([4], [4]), ([], []), ([], []), ([7], [7]), ([], []), ([8, 9], [8, 9]), ([10], [10]), ([6, 11], [6, 11]), ([12], [12]), ([], []), ([], []), ([14, 15], [14, 15]), ([16], [16]), ([13, 17], [13, 17]), ([0, 5, 0, 1, 2, 3, 4, 5, 6, 7, 8, 9, 10, 11, 12, 13, 14, 15, 16, 17, 18], [0, 5]), ([19, 18, 0, 1, 2, 3, 4, 5, 6, 7, 8, 9, 10, 11, 12, 13, 14, 15, 16, 17, 18], [18, 19])])
def spec_l2Fars.B14 : List Nat := [0, 0, 2, 0, 14, 30, 0, 0, 128, 0, 896, 1920, 4032, 8128, 0, 0, 49152, 114688, 262080, 524287, 1048575]
theorem spec_l2Fars.tab14 : rtab .any (opsOf Try.f97 14) = spec_l2Fars.T14 := by kernel_rfl
theorem spec_l2Fars.bits14 : waitsOk spec_l2Fars.T14.2 spec_l2Fars.B14 = true := by kernel_rfl
set_option maxHeartbeats 8000000 in
set_option maxRecDepth 100000 in
theorem spec_l2Fars.calls (k : Nat) (A0_0 : Option Addr) (c0_0 : Nat) (l0_0 : List Int) (A0_1 : Option Addr) (c0_1 : Nat) (l0_1 : List Int) (a1 : Int) (r : List Int) (w : World) (hr0_0 : Kd.C (Kd.int .i64) w A0_0 l0_0.length l0_0) (hc0_0 : l0_0.length ≤ c0_0) (hr0_1 : Kd.C (Kd.int .i64) w A0_1 l0_1.length l0_1) (hc0_1 : l0_1.length ≤ c0_1) (h : spec_l2Fars.f k l0_0 l0_1 a1 = some r) :
  Calls Try.prog 97 #[.agg #[.slice A0_0 l0_0.length c0_0, .slice A0_1 l0_1.length c0_1], .int .i64 a1] w fun e w' => ∃ v0_ : Value, e = .returned (v0_) ∧ Kd.R (Kd.int .i64) 3 w' w.heap.size (fun _ => True) v0_ r ∧ Below w.heap.size w w' := by
 have hu29 := Try.underlying29; have HR0_0 := Az hr0_0; have HC0_0 := Az hc0_0; clear hr0_0 hc0_0; have HR0_1 := Az hr0_1; have HC0_1 := Az hc0_1; clear hr0_1 hc0_1; have HB := bZ w; have H := h; clear h; unfold spec_l2Fars.f at H; replace H := gE H; obtain ⟨c3b0, c3b1, H⟩ := H; replace H := gE H; obtain ⟨c4b0, c4b1, H⟩ := H; generalize Ny525 : (List.replicate ((l0_0.length : Int) : Int).toNat 0 : List Int) = y525 at H; replace Ny525 := Ay Ny525; have H' := Az H; clear H; go_enter Try.func97, Try.ntmps97
 go_wp2_with (first | ((with_reducible refine gd 2 rfl ?_); refine bE 2 #[.slice A0_0 l0_0.length c0_0, .slice A0_1 l0_1.length c0_1] 29 ?_; intro gb524 hg w5 hbox hb; have BK524 := Az (hbox); have GW524 := gW hg (bU0 HB.out); replace HB := Az (below_step (bU0 HB.out) hb); clear hb hbox hg; have hz6 := bc2 BK524.out) | ((with_reducible refine gd 12 rfl ?_); refine Kd.R_make (Kd.int .i64) _ 3 rfl (N := 12) rfl 23 _ _ rfl (l0_0.length : Int) rfl rfl Try.underlying23 (.int .i64 0) 8 info3 rfl (by decide) (by omega) 0 (ok := fun _ => True) (okp := fun _ => True) rfl (fun _ hk => hk) trivial (oA) (Nat.le_trans (Nat.mul_le_mul_right _ (oA : (l0_0.length : Int).toNat ≤ 35184372088832)) (by omega)) (Below.refl _ _) (Nat.le_refl _) ?_; intro v526 w7 ho8 hb hg_ hnew_; clear hg_ hnew_; (first | rw [← Ny525.out] at ho8 | (simp only [Int.reduceToNat] at ho8; rw [← Ny525.out] at ho8)); have HO527 := Az (Kd.R_lower ho8 (below_size (bU1 HB.out GW524.out))); replace BK524 := kB BK524.out hb; replace HB := Az (below_step (bU1 HB.out GW524.out) hb); clear hb ho8))
 go_loopg [6] k (fun kq v6 w' => ∃ (x5_1 : List Int) (x6_1 : Int), v6 = .int .i64 x6_1 ∧ Aside0 (spec_l2Fars.l0 kq a1 x5_1 x6_1 l0_0 l0_1 = some r) ∧ Aside0 (kq ≤ k) ∧ Aside0 (Kd.R (Kd.int .i64) 3 w' w.heap.size (fun _ => True) v526 x5_1) ∧ Aside0 (w'.heap[gb524]? = some (.cells #[(.slice A0_0 l0_0.length c0_0), (.slice A0_1 l0_1.length c0_1)] 29 (0, 0))) ∧ Aside0 (Below w.heap.size w w'))
 case atStart => exact ⟨(y525), (0), rS, H', ⟨Nat.le_refl _⟩, ⟨rU HO527.out⟩, ⟨kU BK524.out⟩, ⟨bU1 HB.out GW524.out⟩⟩
 case round =>
  clear H'; obtain ⟨x5_1, x6_1, rfl, HA, HK1, HO_5, BK524, HB⟩ := hrel
  rcases gk with _ | k1
  exact (nN HA.out).elim; have H := HA.out; clear HA; simp only [spec_l2Fars.l0] at H
  by_cases c9 : x6_1 < (x5_1.length : Int)
  ·
   rw [if_pos c9] at H; have c9b0 := decide_eq_true c9; clear c9; replace H := gD1 H; obtain ⟨c10b0, H⟩ := H; generalize Ny528 : (x5_1.set (x6_1 : Int).toNat (x5_1.length : Int) : List Int) = y528 at H; replace Ny528 := Ay Ny528; have H' := Az H; clear H; obtain ⟨Ao12, co12, eo12⟩ := Kd.R_slice HO_5.out; subst eo12; have p11 : 0 ≤ (x6_1 : Int) := oA; have q11 : (x6_1 : Int) < ((x5_1.length : Int) : Int) := oA; obtain ⟨go11, co11, eo11, gb11, gl11, cl11, HG11⟩ := Kd.R_form HO_5.out (by omega); (first | cases eo11 | (injection eo11 with ea_ en_ ec_; (first | subst ea_ | (injection ea_ with ea_; subst ea_)); subst ec_; clear en_)); have GB11 := Az gb11; have GG11 := Az HG11; clear gb11 gl11 HG11; obtain ⟨hx11_0, hf11_0⟩ := Kd.R_celln 0 HO_5.out (x6_1 : Int) p11 q11; replace p11 := eq_true p11; replace q11 := eq_true q11; obtain ⟨hy13_, hz13_⟩ := Kd.R_celln 0 HO_5.out (x6_1 : Int) (oA) (oA); have HP13 := Kd.R_putg HO_5.out (x6_1 : Int) (x5_1.length : Int)
   go_wp2_with (first | ((with_reducible refine gs 3 23 rfl ?_); refine sE 3 23 (wr.setCell ⟨go11, (x6_1 : Int).toNat, none⟩ (.int .i64 (x5_1.length : Int))) ?_; intro w14 hw; have hg : wr.grownBy w14 (some go11) := (by rw [hw]; exact HP13.2); have hp_ : Kd.R (Kd.int .i64) 3 w14 w.heap.size (fun _ => True) (.slice (some ⟨go11, 0, none⟩) x5_1.length co12) y528 := (by rw [hw, Ny528.out]; exact HP13.1); clear HP13; replace BK524 := Az (kG BK524.out hg (Kd.R_ne HO_5.out BK524.out (by decide))); replace HO_5 := Az (hp_); replace HB := Az ((by rw [hw]; exact below_set (HB.out) GB11.out : Below w.heap.size w w14)); clear hg hw hp_))
   go_roundg k1
   case measure => exact mO
   case rel => exact ⟨(y528), (wrap64 (x6_1 + 1)), rS, H', ⟨mO⟩, ⟨rU HO_5.out⟩, ⟨kU BK524.out⟩, ⟨bU1 HB.out GW524.out⟩⟩
  ·
   rw [if_neg c9] at H; have c9b0 := decide_eq_false c9; clear c9; replace H := gD2 H; obtain ⟨c15b0, c16b0, H⟩ := H; generalize Ny529 : (x5_1.set (a1 : Int).toNat 0 : List Int) = y529 at H; replace Ny529 := Ay Ny529; have H' := Az H; clear H; obtain ⟨Ao18, co18, eo18⟩ := Kd.R_slice HO_5.out; subst eo18; have p17 : 0 ≤ (a1 : Int) := oA; have q17 : (a1 : Int) < ((x5_1.length : Int) : Int) := oA; obtain ⟨go17, co17, eo17, gb17, gl17, cl17, HG17⟩ := Kd.R_form HO_5.out (by omega); (first | cases eo17 | (injection eo17 with ea_ en_ ec_; (first | subst ea_ | (injection ea_ with ea_; subst ea_)); subst ec_; clear en_)); have GB17 := Az gb17; have GG17 := Az HG17; clear gb17 gl17 HG17; obtain ⟨hx17_0, hf17_0⟩ := Kd.R_celln 0 HO_5.out (a1 : Int) p17 q17; replace p17 := eq_true p17; replace q17 := eq_true q17; obtain ⟨hy19_, hz19_⟩ := Kd.R_celln 0 HO_5.out (a1 : Int) (oA) (oA); have HP19 := Kd.R_putg HO_5.out (a1 : Int) 0
   go_wp2_with (first | ((with_reducible refine gs 3 26 rfl ?_); refine sE 3 26 (wr.setCell ⟨go17, (a1 : Int).toNat, none⟩ (.int .i64 0)) ?_; intro w20 hw; have hg : wr.grownBy w20 (some go17) := (by rw [hw]; exact HP19.2); have hp_ : Kd.R (Kd.int .i64) 3 w20 w.heap.size (fun _ => True) (.slice (some ⟨go17, 0, none⟩) x5_1.length co18) y529 := (by rw [hw, Ny529.out]; exact HP19.1); clear HP19; replace BK524 := Az (kG BK524.out hg (Kd.R_ne HO_5.out BK524.out (by decide))); replace HO_5 := Az (hp_); replace HB := Az ((by rw [hw]; exact below_set (HB.out) GB17.out : Below w.heap.size w w20)); clear hg hw hp_))
   go_loopg [7] k1 (fun kq v7 w' => ∃ (x5_2 : List Int) (x7_2 : Int), v7 = .int .i64 x7_2 ∧ Aside0 (spec_l2Fars.l1 kq x5_2 x7_2 l0_0 l0_1 = some r) ∧ Aside0 (kq ≤ k1) ∧ Aside0 (Kd.R (Kd.int .i64) 3 w' w.heap.size (fun _ => True) (.slice (some ⟨go17, 0, none⟩) x5_1.length co18) x5_2) ∧ Aside0 (w'.heap[gb524]? = some (.cells #[(.slice A0_0 l0_0.length c0_0), (.slice A0_1 l0_1.length c0_1)] 29 (0, 0))) ∧ Aside0 (Below w.heap.size w w'))
   case atStart => exact ⟨(y529), (0), rS, H', ⟨Nat.le_refl _⟩, ⟨rU HO_5.out⟩, ⟨kU BK524.out⟩, ⟨bU1 HB.out GW524.out⟩⟩
   case round =>
    clear H'; obtain ⟨x5_2, x7_2, rfl, HA, HK2, HO_5, BK524, HB⟩ := hrel; have hl5_2 := (Kd.R_reads' HO_5.out).1; rw [hl5_2] at HO_5; simp only [hl5_2]
    rcases gk with _ | k2
    exact (nN HA.out).elim; have H := HA.out; clear HA; simp only [spec_l2Fars.l1] at H
    by_cases c21 : x7_2 < (wrap64 (2 * (x5_2.length : Int)))
    ·
     rw [if_pos c21] at H; have c21b0 := decide_eq_true c21; clear c21; have H' := Az H; clear H; go_wp2
     go_loopg [8] k2 (fun kq v8 w' => ∃ (x5_3 : List Int) (x8_3 : Int), v8 = .int .i64 x8_3 ∧ Aside0 (spec_l2Fars.l2 kq x5_3 x7_2 x8_3 l0_0 l0_1 = some r) ∧ Aside0 (kq ≤ k2) ∧ Aside0 (Kd.R (Kd.int .i64) 3 w' w.heap.size (fun _ => True) (.slice (some ⟨go17, 0, none⟩) x5_2.length co18) x5_3) ∧ Aside0 (w'.heap[gb524]? = some (.cells #[(.slice A0_0 l0_0.length c0_0), (.slice A0_1 l0_1.length c0_1)] 29 (0, 0))) ∧ Aside0 (Below w.heap.size w w'))
     case atStart => exact ⟨(x5_2), (0), rS, H', ⟨Nat.le_refl _⟩, ⟨by (with_reducible repeat (first | apply Kd.R_alloc | apply Kd.R_drewN | apply Kd.R_drew)); exact HO_5.out⟩, ⟨by (with_reducible repeat (first | refine blk_drewN ?_ _ | refine blk_drew ?_ | refine blk_alloc ?_ _)); exact BK524.out⟩, ⟨bU1 HB.out GW524.out⟩⟩
     case round =>
      clear H'; obtain ⟨x5_3, x8_3, rfl, HA, HK3, HO_5, BK524, HB⟩ := hrel; have hl5_3 := (Kd.R_reads' HO_5.out).1; rw [hl5_3] at HO_5; simp only [hl5_3]
      rcases gk with _ | k3
      exact (nN HA.out).elim; have H := HA.out; clear HA; simp only [spec_l2Fars.l2] at H
      by_cases c22 : x8_3 < (x5_3.length : Int)
      ·
       rw [if_pos c22] at H; have c22b0 := decide_eq_true c22; clear c22; replace H := gD1 H; obtain ⟨c23b0, H⟩ := H; replace H := gP H; obtain ⟨c24, H⟩ := H; have c24b0 := decide_eq_true c24; clear c24; replace H := gD1 H; obtain ⟨c25b0, H⟩ := H; replace H := gP H; obtain ⟨c26, H⟩ := H; have c26b0 := decide_eq_true c26; clear c26; obtain ⟨ji27, hji27⟩ : ∃ j_ : Int, (mn (rd x5_3 x8_3) (wrap64 ((rd x5_3 (rd l0_1 x8_3)) + 1))) = j_ := ⟨_, rfl⟩; (first | rw [hji27] at H | simp only [hji27] at H); have hji27_ : (if (wrap64 ((rd x5_3 (rd l0_1 x8_3)) + 1)) < (rd x5_3 x8_3) then (wrap64 ((rd x5_3 (rd l0_1 x8_3)) + 1)) else (rd x5_3 x8_3)) = ji27 := hji27; generalize Ny533 : (x5_3.set (x8_3 : Int).toNat (ji27) : List Int) = y533 at H; simp only [Option.bind_some] at H; replace Ny533 := Ay Ny533; replace H := gP H; obtain ⟨c29, H⟩ := H; have c29b0 := decide_eq_true c29; clear c29; replace H := gD1 H; obtain ⟨c30b0, H⟩ := H; replace H := gP H; obtain ⟨c31, H⟩ := H; have c31b0 := decide_eq_true c31; clear c31; obtain ⟨ji32, hji32⟩ : ∃ j_ : Int, (mn (rd y533 (rd l0_0 x8_3)) (rd y533 x8_3)) = j_ := ⟨_, rfl⟩; (first | rw [hji32] at H | simp only [hji32] at H); have hji32_ : (if (rd y533 x8_3) < (rd y533 (rd l0_0 x8_3)) then (rd y533 x8_3) else (rd y533 (rd l0_0 x8_3))) = ji32 := hji32; generalize Ny538 : (y533.set ((rd l0_0 x8_3) : Int).toNat (ji32) : List Int) = y538 at H; replace Ny538 := Ay Ny538; have H' := Az H; clear H
       try go_wp2
       replace HO_5 := Az (Kd.R_drew HO_5.out); replace BK524 := Az (blk_drew BK524.out); replace HB := Az (below_drew1 HB.out); obtain ⟨ad530, e530, _, _, hx530_0⟩ := aI (Kd.R_reads' HO_5.out).2.2 x8_3; obtain rfl : (⟨go17, 0, none⟩ : Addr) = ad530 := (by injection e530); (first | simp only [add_plain] at hx530_0 | simp only [add_at] at hx530_0 | simp only [Addr.add, Nat.zero_add] at hx530_0 | skip); obtain ⟨ad531, e531, _, _, hx531_0⟩ := aI HR0_1.out x8_3; have hw531_0 := hx531_0
       cases e531
       replace hx531_0 := hT HB.out hx531_0; obtain ⟨ad532, e532, _, _, hx532_0⟩ := aI (Kd.R_reads' HO_5.out).2.2 (rd l0_1 x8_3); obtain rfl : (⟨go17, 0, none⟩ : Addr) = ad532 := (by injection e532); (first | simp only [add_plain] at hx532_0 | simp only [add_at] at hx532_0 | simp only [Addr.add, Nat.zero_add] at hx532_0 | skip); have p28 : 0 ≤ (x8_3 : Int) := oA; have q28 : (x8_3 : Int) < ((x5_3.length : Int) : Int) := oA; obtain ⟨hx28_0, hf28_0⟩ := Kd.R_celln 0 HO_5.out (x8_3 : Int) p28 q28; replace p28 := eq_true p28; replace q28 := eq_true q28; have HP35 := Kd.R_putn HO_5.out (x8_3 : Int) ji27; rw [← Ny533.out] at HP35; have HQ35 := Az HP35; clear HP35; refine start_ (n := 18) (S := fun w' => w'.cell? ⟨gb524, 0, none⟩ = some (.slice A0_0 l0_0.length c0_0) ∧ w'.cell? ⟨gb524, 1, none⟩ = some (.slice (some ad531) l0_1.length c0_1) ∧ w'.cell? ⟨go17, (x8_3).toNat, none⟩ = some (.int .i64 (rd x5_3 x8_3)) ∧ w'.cell? (ad531.add (x8_3).toNat) = some (.int .i64 (rd l0_1 x8_3)) ∧ w'.cell? ⟨go17, ((rd l0_1 x8_3)).toNat, none⟩ = some (.int .i64 (rd x5_3 (rd l0_1 x8_3)))) (ds := [17]) (bv 18 0) (by kernel_rfl) rfl rfl ⟨(blk_cell BK524.out 0).trans rfl, (blk_cell BK524.out 1).trans rfl, hx530_0, (by first | exact hw531_0 | exact (HB.out.cell (World.block_lt_of_cell? w _ hw531_0)).trans hw531_0), hx532_0⟩ (fun hHeld => ?_); refine with_tabW spec_l2Fars.tab13 spec_l2Fars.bits13 (fun HT_ HW_ => ?_); generalize wr.drew = w34 at HO_5 BK524 HB HQ35 hf28_0 hx28_0 hx530_0 hx531_0 hx532_0 hHeld ⊢; refine pure_ (i := 0) (N := some 40) (v := ?_) (a' := ?_) (bv 18 1) rfl rfl (any_of HT_.out (by kernel_rfl)) (fun _ _ _ h => h) (Or.inl ⟨by rfl, ?_⟩) ?_ ?_; rotate_left; (exact yP); rotate_left; (exact aP); refine pure_ (i := 1) (N := some 41) (v := ?_) (a' := ?_) (bv 18 3) rfl rfl (any_of HT_.out (by kernel_rfl)) (fun _ _ _ h => h) (Or.inl ⟨by rfl, ?_⟩) ?_ ?_; rotate_left; (exact yP); rotate_left; (exact aP); refine pure_ (i := 2) (N := some 42) (v := ?_) (a' := ?_) (bv 18 7) rfl rfl (any_of HT_.out (by kernel_rfl)) (fun _ _ _ h => h) (Or.inl ⟨by rfl, ?_⟩) ?_ ?_; rotate_left; (exact yP); rotate_left; (exact aP); refine pure_ (i := 3) (N := some 43) (v := ?_) (a' := ?_) (bv 18 15) rfl rfl (any_of HT_.out (by kernel_rfl)) (fun _ _ _ h => h) (Or.inl ⟨by rfl, ?_⟩) ?_ ?_; rotate_left; (exact yP); rotate_left; (exact aP); refine pure_ (i := 4) (N := some 44) (v := ?_) (a' := ?_) (bv 18 31) rfl rfl (any_of HT_.out (by kernel_rfl)) (fun _ _ _ h => h) (Or.inl ⟨by rfl, ?_⟩) ?_ ?_; rotate_left; (exact yP); rotate_left; (exact aP); refine pure_ (i := 6) (N := some 46) (v := ?_) (a' := ?_) (bv 18 95) rfl rfl (any_of HT_.out (by kernel_rfl)) (fun _ _ _ h => h) (Or.inl ⟨by rfl, ?_⟩) ?_ ?_; rotate_left; (exact yP); rotate_left; (exact aP); refine pure_ (i := 7) (N := some 47) (v := ?_) (a' := ?_) (bv 18 223) rfl rfl (any_of HT_.out (by kernel_rfl)) (fun _ _ _ h => h) (Or.inl ⟨by rfl, ?_⟩) ?_ ?_; rotate_left; (exact yP); rotate_left; (exact aP); refine pure_ (i := 9) (N := some 49) (v := ?_) (a' := ?_) (bv 18 735) rfl rfl (any_of HT_.out (by kernel_rfl)) (fun _ _ _ h => h) (Or.inl ⟨by rfl, ?_⟩) ?_ ?_; rotate_left; (exact yP); rotate_left; (exact aP); refine take_ (i := 5) (N := some 45) (v := ?_) (a' := ?_) (bv 18 767) rfl rfl (take_ofW HT_.out HW_.out (by kernel_rfl)) (fun _ _ _ h => h) (Or.inl ⟨by rfl, ?_⟩) hHeld ?_ ?_; rotate_left
       ·
        rintro w' ⟨s0, s1, s2, s3, s4⟩; go_simp
        with_reducible rfl
       rotate_left; (exact aP); refine take_ (i := 8) (N := some 48) (v := ?_) (a' := ?_) (bv 18 1023) rfl rfl (take_ofW HT_.out HW_.out (by kernel_rfl)) (fun _ _ _ h => h) (Or.inl ⟨by rfl, ?_⟩) hHeld ?_ ?_; rotate_left
       ·
        rintro w' ⟨s0, s1, s2, s3, s4⟩; go_simp
        with_reducible rfl
       rotate_left; (exact aP); refine pure_ (i := 10) (N := some 50) (v := ?_) (a' := ?_) (bv 18 2047) rfl rfl (any_of HT_.out (by kernel_rfl)) (fun _ _ _ h => h) (Or.inl ⟨by rfl, ?_⟩) ?_ ?_; rotate_left; (exact yP); rotate_left; (exact aP); refine take_ (i := 11) (N := some 51) (v := ?_) (a' := ?_) (bv 18 4095) rfl rfl (take_ofW HT_.out HW_.out (by kernel_rfl)) (fun _ _ _ h => h) (Or.inl ⟨by rfl, ?_⟩) hHeld ?_ ?_; rotate_left
       ·
        rintro w' ⟨s0, s1, s2, s3, s4⟩; go_simp
        with_reducible rfl
       rotate_left; (exact aP); refine pure_ (i := 12) (N := some 52) (v := ?_) (a' := ?_) (bv 18 8191) rfl rfl (any_of HT_.out (by kernel_rfl)) (fun _ _ _ h => h) (Or.inl ⟨by rfl, ?_⟩) ?_ ?_; rotate_left; (exact yP); rotate_left; (exact aP); refine take_ (i := 13) (N := some 53) (v := ?_) (a' := ?_) (bv 18 16383) rfl rfl (take_ofW HT_.out HW_.out (by kernel_rfl)) (fun _ _ _ h => h) (Or.inl ⟨by rfl, ?_⟩) hHeld ?_ ?_; rotate_left
       ·
        rintro w' ⟨s0, s1, s2, s3, s4⟩; go_simp
        with_reducible rfl
       rotate_left; (exact aP); refine pure_ (i := 14) (N := some 54) (v := ?_) (a' := ?_) (bv 18 32767) rfl rfl (any_of HT_.out (by kernel_rfl)) (fun _ _ _ h => h) (Or.inl ⟨by rfl, ?_⟩) ?_ ?_; rotate_left; (exact yP); rotate_left; (exact aP); refine pure_ (i := 15) (N := some 55) (v := ?_) (a' := ?_) (bv 18 65535) rfl rfl (any_of HT_.out (by kernel_rfl)) (fun _ _ _ h => h) (Or.inl ⟨by rfl, ?_⟩) ?_ ?_; rotate_left; (exact yP); rotate_left; (exact aP); refine pure_ (i := 16) (N := some 56) (v := ?_) (a' := ?_) (bv 18 131071) rfl rfl (any_of HT_.out (by kernel_rfl)) (fun _ _ _ h => h) (Or.inl ⟨by rfl, ?_⟩) ?_ ?_; rotate_left; (exact yP); rotate_left; (exact aP); refine last_ (i := 17) (N := none) (bv 18 262143) rfl rfl (one_of HT_.out (by kernel_rfl)) (by decide) (fun K hK => ?_); refine skip_ (w1 := ?_) (by rfl) rfl ?_ ?_; rotate_left
       · go_simp; rfl
       refine hK.out _ _ ?_; clear hK K; refine done_ (done_of HT_.out (by kernel_rfl)) ?_
       try go_wp2
       have n0 : Aside0 (Kd.R (Kd.int .i64) 3 (w34.setCell ⟨go17, (x8_3 : Int).toNat, none⟩ (.int .i64 ji27)) w.heap.size (fun _ => True) (.slice (some ⟨go17, 0, none⟩) x5_3.length co18) y533) := ⟨rU HQ35.out⟩; have n1 : Aside0 ((w34.setCell ⟨go17, (x8_3 : Int).toNat, none⟩ (.int .i64 ji27)).heap[gb524]? = some (.cells #[.slice A0_0 l0_0.length c0_0, .slice (some ad531) l0_1.length c0_1] 29 (0, 0))) := ⟨by (with_reducible repeat (first | refine blk_drewN ?_ _ | refine blk_drew ?_ | refine blk_alloc ?_ _)); refine blk_far ?_ (by have h_ := Kd.R_ne HO_5.out BK524.out (by decide); intro e_; exact h_ (by rw [e_]; rfl)) _; (with_reducible repeat (first | refine blk_drewN ?_ _ | refine blk_drew ?_ | refine blk_alloc ?_ _)); exact BK524.out⟩; have n2 : Aside0 (Below w.heap.size w (w34.setCell ⟨go17, (x8_3 : Int).toNat, none⟩ (.int .i64 ji27))) := ⟨bU2 HB.out GB17.out GW524.out⟩; generalize (w34.setCell ⟨go17, (x8_3 : Int).toNat, none⟩ (.int .i64 ji27)) = w36 at n0 n1 n2 ⊢; have HO_5 := n0; have BK524 := n1; have HB := n2; clear n0 n1 n2; replace HO_5 := Az (Kd.R_drew HO_5.out); replace BK524 := Az (blk_drew BK524.out); replace HB := Az (below_drew1 HB.out); obtain ⟨ad534, e534, _, _, hx534_0⟩ := aI HR0_0.out x8_3; have hw534_0 := hx534_0
       cases e534
       replace hx534_0 := hT HB.out hx534_0; obtain ⟨ad535, e535, _, _, hx535_0⟩ := aI HR0_0.out x8_3; have hw535_0 := hx535_0; obtain rfl : ad534 = ad535 := (by injection e535); replace hx535_0 := hT HB.out hx535_0; have p536 : 0 ≤ ((rd l0_0 x8_3) : Int) := oA; have q536 : (rd l0_0 x8_3) < (y533.length : Int) := (by have h_ : ((rd l0_0 x8_3) : Int) < ((x5_3.length : Int) : Int) := oA; first | (have e_ := (Kd.R_reads' HO_5.out).1; omega) | simpa only [Ny533.out, List.length_set] using h_); have ql536 : (((rd l0_0 x8_3) : Int) < ((x5_3.length : Int) : Int)) = True := eq_true (oA); obtain ⟨ad536, e536, hx536_0⟩ := Kd.at_int (Kd.R_reads' HO_5.out).2.2 (rd l0_0 x8_3) p536 q536; obtain rfl : (⟨go17, 0, none⟩ : Addr) = ad536 := (by injection e536); (first | simp only [add_plain] at hx536_0 | simp only [add_at] at hx536_0 | simp only [Addr.add, Nat.zero_add] at hx536_0 | skip); replace p536 := eq_true p536; replace q536 := eq_true q536; have p537 : 0 ≤ (x8_3 : Int) := oA; have q537 : x8_3 < (y533.length : Int) := (by have h_ : (x8_3 : Int) < ((x5_3.length : Int) : Int) := oA; first | (have e_ := (Kd.R_reads' HO_5.out).1; omega) | simpa only [Ny533.out, List.length_set] using h_); have ql537 : ((x8_3 : Int) < ((x5_3.length : Int) : Int)) = True := eq_true (oA); obtain ⟨ad537, e537, hx537_0⟩ := Kd.at_int (Kd.R_reads' HO_5.out).2.2 x8_3 p537 q537; obtain rfl : (⟨go17, 0, none⟩ : Addr) = ad537 := (by injection e537); (first | simp only [add_plain] at hx537_0 | simp only [add_at] at hx537_0 | simp only [Addr.add, Nat.zero_add] at hx537_0 | skip); replace p537 := eq_true p537; replace q537 := eq_true q537; have p33 : 0 ≤ ((rd l0_0 x8_3) : Int) := oA; have q33 : ((rd l0_0 x8_3) : Int) < ((x5_3.length : Int) : Int) := oA; obtain ⟨hx33_0, hf33_0⟩ := Kd.R_celln 0 HO_5.out ((rd l0_0 x8_3) : Int) p33 q33; replace p33 := eq_true p33; replace q33 := eq_true q33; have HP38 := Kd.R_putn HO_5.out ((rd l0_0 x8_3) : Int) ji32; rw [← Ny538.out] at HP38; have HQ38 := Az HP38; clear HP38; refine start_ (n := 21) (S := fun w' => w'.cell? ⟨gb524, 0, none⟩ = some (.slice (some ad534) l0_0.length c0_0) ∧ w'.cell? ⟨gb524, 1, none⟩ = some (.slice (some ad531) l0_1.length c0_1) ∧ w'.cell? (ad534.add (x8_3).toNat) = some (.int .i64 (rd l0_0 x8_3)) ∧ w'.cell? (ad534.add (x8_3).toNat) = some (.int .i64 (rd l0_0 x8_3)) ∧ w'.cell? ⟨go17, ((rd l0_0 x8_3)).toNat, none⟩ = some (.int .i64 (rd y533 (rd l0_0 x8_3))) ∧ w'.cell? ⟨go17, (x8_3).toNat, none⟩ = some (.int .i64 (rd y533 x8_3))) (ds := [20]) (bv 21 0) (by kernel_rfl) rfl rfl ⟨(blk_cell BK524.out 0).trans rfl, (blk_cell BK524.out 1).trans rfl, (by first | exact hw534_0 | exact (HB.out.cell (World.block_lt_of_cell? w _ hw534_0)).trans hw534_0), (by first | exact hw535_0 | exact (HB.out.cell (World.block_lt_of_cell? w _ hw535_0)).trans hw535_0), hx536_0, hx537_0⟩ (fun hHeld => ?_); refine with_tabW spec_l2Fars.tab14 spec_l2Fars.bits14 (fun HT_ HW_ => ?_); generalize w36.drew = w37 at HO_5 BK524 HB HQ35 HQ38 hf33_0 hx33_0 hx534_0 hx535_0 hx536_0 hx537_0 hHeld ⊢; refine pure_ (i := 0) (N := some 57) (v := ?_) (a' := ?_) (bv 21 1) rfl rfl (any_of HT_.out (by kernel_rfl)) (fun _ _ _ h => h) (Or.inl ⟨by rfl, ?_⟩) ?_ ?_; rotate_left; (exact yP); rotate_left; (exact aP); refine pure_ (i := 1) (N := some 58) (v := ?_) (a' := ?_) (bv 21 3) rfl rfl (any_of HT_.out (by kernel_rfl)) (fun _ _ _ h => h) (Or.inl ⟨by rfl, ?_⟩) ?_ ?_; rotate_left; (exact yP); rotate_left; (exact aP); refine pure_ (i := 3) (N := some 60) (v := ?_) (a' := ?_) (bv 21 11) rfl rfl (any_of HT_.out (by kernel_rfl)) (fun _ _ _ h => h) (Or.inl ⟨by rfl, ?_⟩) ?_ ?_; rotate_left; (exact yP); rotate_left; (exact aP); refine pure_ (i := 6) (N := some 63) (v := ?_) (a' := ?_) (bv 21 75) rfl rfl (any_of HT_.out (by kernel_rfl)) (fun _ _ _ h => h) (Or.inl ⟨by rfl, ?_⟩) ?_ ?_; rotate_left; (exact yP); rotate_left; (exact aP); refine pure_ (i := 7) (N := some 64) (v := ?_) (a' := ?_) (bv 21 203) rfl rfl (any_of HT_.out (by kernel_rfl)) (fun _ _ _ h => h) (Or.inl ⟨by rfl, ?_⟩) ?_ ?_; rotate_left; (exact yP); rotate_left; (exact aP); refine pure_ (i := 9) (N := some 66) (v := ?_) (a' := ?_) (bv 21 715) rfl rfl (any_of HT_.out (by kernel_rfl)) (fun _ _ _ h => h) (Or.inl ⟨by rfl, ?_⟩) ?_ ?_; rotate_left; (exact yP); rotate_left; (exact aP); refine pure_ (i := 14) (N := some 71) (v := ?_) (a' := ?_) (bv 21 17099) rfl rfl (any_of HT_.out (by kernel_rfl)) (fun _ _ _ h => h) (Or.inl ⟨by rfl, ?_⟩) ?_ ?_; rotate_left; (exact yP); rotate_left; (exact aP); refine pure_ (i := 15) (N := some 72) (v := ?_) (a' := ?_) (bv 21 49867) rfl rfl (any_of HT_.out (by kernel_rfl)) (fun _ _ _ h => h) (Or.inl ⟨by rfl, ?_⟩) ?_ ?_; rotate_left; (exact yP); rotate_left; (exact aP); refine pure_ (i := 16) (N := some 73) (v := ?_) (a' := ?_) (bv 21 115403) rfl rfl (any_of HT_.out (by kernel_rfl)) (fun _ _ _ h => h) (Or.inl ⟨by rfl, ?_⟩) ?_ ?_; rotate_left; (exact yP); rotate_left; (exact aP); refine take_ (i := 2) (N := some 59) (v := ?_) (a' := ?_) (bv 21 115407) rfl rfl (take_ofW HT_.out HW_.out (by kernel_rfl)) (fun _ _ _ h => h) (Or.inl ⟨by rfl, ?_⟩) hHeld ?_ ?_; rotate_left
       ·
        rintro w' ⟨s0, s1, s2, s3, s4, s5⟩; go_simp
        with_reducible rfl
       rotate_left; (exact aP); refine pure_ (i := 4) (N := some 61) (v := ?_) (a' := ?_) (bv 21 115423) rfl rfl (any_of HT_.out (by kernel_rfl)) (fun _ _ _ h => h) (Or.inl ⟨by rfl, ?_⟩) ?_ ?_; rotate_left; (exact yP); rotate_left; (exact aP); refine take_ (i := 5) (N := some 62) (v := ?_) (a' := ?_) (bv 21 115455) rfl rfl (take_ofW HT_.out HW_.out (by kernel_rfl)) (fun _ _ _ h => h) (Or.inl ⟨by rfl, ?_⟩) hHeld ?_ ?_; rotate_left
       ·
        rintro w' ⟨s0, s1, s2, s3, s4, s5⟩; go_simp
        with_reducible rfl
       rotate_left; (exact aP); refine take_ (i := 8) (N := some 65) (v := ?_) (a' := ?_) (bv 21 115711) rfl rfl (take_ofW HT_.out HW_.out (by kernel_rfl)) (fun _ _ _ h => h) (Or.inl ⟨by rfl, ?_⟩) hHeld ?_ ?_; rotate_left
       ·
        rintro w' ⟨s0, s1, s2, s3, s4, s5⟩; go_simp
        with_reducible rfl
       rotate_left; (exact aP); refine pure_ (i := 10) (N := some 67) (v := ?_) (a' := ?_) (bv 21 116735) rfl rfl (any_of HT_.out (by kernel_rfl)) (fun _ _ _ h => h) (Or.inl ⟨by rfl, ?_⟩) ?_ ?_; rotate_left; (exact yP); rotate_left; (exact aP); refine take_ (i := 11) (N := some 68) (v := ?_) (a' := ?_) (bv 21 118783) rfl rfl (take_ofW HT_.out HW_.out (by kernel_rfl)) (fun _ _ _ h => h) (Or.inl ⟨by rfl, ?_⟩) hHeld ?_ ?_; rotate_left
       ·
        rintro w' ⟨s0, s1, s2, s3, s4, s5⟩; go_simp
        with_reducible rfl
       rotate_left; (exact aP); refine pure_ (i := 12) (N := some 69) (v := ?_) (a' := ?_) (bv 21 122879) rfl rfl (any_of HT_.out (by kernel_rfl)) (fun _ _ _ h => h) (Or.inl ⟨by rfl, ?_⟩) ?_ ?_; rotate_left; (exact yP); rotate_left; (exact aP); refine take_ (i := 13) (N := some 70) (v := ?_) (a' := ?_) (bv 21 131071) rfl rfl (take_ofW HT_.out HW_.out (by kernel_rfl)) (fun _ _ _ h => h) (Or.inl ⟨by rfl, ?_⟩) hHeld ?_ ?_; rotate_left
       ·
        rintro w' ⟨s0, s1, s2, s3, s4, s5⟩; go_simp
        with_reducible rfl
       rotate_left; (exact aP); refine take_ (i := 17) (N := some 74) (v := ?_) (a' := ?_) (bv 21 262143) rfl rfl (take_ofW HT_.out HW_.out (by kernel_rfl)) (fun _ _ _ h => h) (Or.inl ⟨by rfl, ?_⟩) hHeld ?_ ?_; rotate_left
       ·
        rintro w' ⟨s0, s1, s2, s3, s4, s5⟩; go_simp
        with_reducible rfl
       rotate_left; (exact aP); refine pure_ (i := 18) (N := some 75) (v := ?_) (a' := ?_) (bv 21 524287) rfl rfl (any_of HT_.out (by kernel_rfl)) (fun _ _ _ h => h) (Or.inl ⟨by rfl, ?_⟩) ?_ ?_; rotate_left; (exact yP); rotate_left; (exact aP); refine pure_ (i := 19) (N := some 76) (v := ?_) (a' := ?_) (bv 21 1048575) rfl rfl (any_of HT_.out (by kernel_rfl)) (fun _ _ _ h => h) (Or.inl ⟨by rfl, ?_⟩) ?_ ?_; rotate_left; (exact yP); rotate_left; (exact aP); refine last_ (i := 20) (N := none) (bv 21 2097151) rfl rfl (one_of HT_.out (by kernel_rfl)) (by decide) (fun K hK => ?_); refine skip_ (w1 := ?_) (by rfl) rfl ?_ ?_; rotate_left
       · go_simp; rfl
       refine hK.out _ _ ?_; clear hK K; refine done_ (done_of HT_.out (by kernel_rfl)) ?_
       try go_wp2
       simp only [← hl5_3]; go_roundg k3
       case measure => exact mO
       case rel => exact ⟨(y538), (wrap64 (x8_3 + 1)), rS, H', ⟨mO⟩, ⟨by simp only [hl5_3]; (with_reducible repeat (first | apply Kd.R_alloc | apply Kd.R_drewN | apply Kd.R_drew)); exact HQ38.out⟩, ⟨by (with_reducible repeat (first | refine blk_drewN ?_ _ | refine blk_drew ?_ | refine blk_alloc ?_ _)); refine blk_far ?_ (by have h_ := Kd.R_ne HO_5.out BK524.out (by decide); intro e_; exact h_ (by rw [e_]; rfl)) _; (with_reducible repeat (first | refine blk_drewN ?_ _ | refine blk_drew ?_ | refine blk_alloc ?_ _)); exact BK524.out⟩, ⟨bU2 HB.out GB17.out GW524.out⟩⟩
      ·
       rw [if_neg c22] at H; have c22b0 := decide_eq_false c22; clear c22; have H' := Az H; clear H; go_wp2; simp only [← hl5_2, ← hl5_3]; go_roundg k3
       case measure => exact mO
       case rel => exact ⟨(x5_3), (wrap64 (x7_2 + 1)), rS, H', ⟨mO⟩, ⟨by simp only [hl5_2]; simp only [hl5_3]; (with_reducible repeat (first | apply Kd.R_alloc | apply Kd.R_drewN | apply Kd.R_drew)); exact HO_5.out⟩, ⟨by (with_reducible repeat (first | refine blk_drewN ?_ _ | refine blk_drew ?_ | refine blk_alloc ?_ _)); exact BK524.out⟩, ⟨bU1 HB.out GW524.out⟩⟩
    · rw [if_neg c21] at H; have c21b0 := decide_eq_false c21; clear c21; obtain rfl := Option.some.inj H; go_wp2; go_ret; exact ⟨_, rE, rU HO_5.out, bU1 HB.out GW524.out⟩
end Go.Proofs.Ytlpbalebodlipaa.PL
