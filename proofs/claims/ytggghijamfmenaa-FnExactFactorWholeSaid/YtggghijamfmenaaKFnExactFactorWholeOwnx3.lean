/- FactorWhole of the program and of the reference tell the same number, for all lists of lists of whole numbers. There are no conditions beside the given row's own. -/
import Derived.Test.YtggghijamfmenaaKFnExactFactorWholeOwnx2
namespace Go.Proofs.Ytggghijamfmenaa.PL
open Go.RowKit Go.Proofs.YtggghijamfmenaaW.PrintWords Go.Proofs.YtggghijamfmenaaW.PrintLast Go.Proofs.YtggghijamfmenaaW.PrintMore
attribute [local go_sem] max2_int min2_int max_two min_two max_three min_three max_four min_four   -- for this text's walks alone
set_option linter.unusedVariables false
set_option linter.unusedSimpArgs false
theorem infoF3 : (Try.prog.info? 3).map (fun i => (i.zero, i.size, i.bytes)) = some (some (.int .i64 0), 1, 8) := by kernel_rfl
theorem infoF23 : (Try.prog.info? 23).map (fun i => (i.zero, i.size, i.bytes)) = some (some (.slice none 0 0), 1, 24) := by kernel_rfl
theorem infoF45 : (Try.prog.info? 45).map (fun i => (i.zero, i.size, i.bytes)) = some (some (.slice none 0 0), 1, 24) := by kernel_rfl
def rdS (xs : List (List Int)) (i : Int) : List Int := xs.getD i.toNat []
theorem at_S {w : World} {A : Option Addr} {n : Nat} {xs : List (List Int)} (h : Kd.C (Kd.slice 3 (Kd.int .i64)) w A n xs) (i : Int) (h0 : 0 ≤ i) (h1 : i < n) : ∃ ad A0 c0, A = some ad ∧ w.cell? (ad.add i.toNat) = some (.slice A0 (rdS xs i).length c0) ∧ (rdS xs i).length ≤ c0 ∧ (Kd.int .i64).C w A0 (rdS xs i).length (rdS xs i) := by
  obtain ⟨ad, c, e, _, hK, hc0⟩ := Kd.C_get h ([] : List Int) i h0 h1; have hc : ∀ j u, c[j]? = some u → w.cell? (ad.add (i.toNat * 1 + j)) = some u := hc0; obtain ⟨A0, c0, rfl, l0, g0⟩ := hK
  exact ⟨ad, A0, c0, e, by have hq := hc 0 _ rfl; rwa [Nat.mul_one, Nat.add_zero] at hq, l0, g0⟩
mutual
def permG {σ : Type} (step : Nat → σ → List Int → Option σ) : Nat → Int → σ → List Int → Option σ
  | 0, _, _, _ => none
  | k + 1, n, s, p => if (p.length : Int) = n then step k s p else permL step k n s p 0
def permL {σ : Type} (step : Nat → σ → List Int → Option σ) : Nat → Int → σ → List Int → Int → Option σ
  | 0, _, _, _, _ => none
  | k + 1, n, s, p, i => if i < n then ((slices_Contains_int_int.f k p i).bind fun b => (if b = true then (permL step k n s p (wrap64 (i + 1))) else ((slices_Clone_int_int.f p).bind fun c => ((some (([i] : List Int) : List Int)).bind fun y => (if c.length + y.length < 17592186044416 then ((permG step k n s (c ++ y)).bind fun s' => (permL step k n s' p (wrap64 (i + 1)))) else none))))) else some s
end
theorem goesV_ {P : Program} {ops : Array Oper} {Q : Exit → Act → World → Prop} {oi : Oper} {N : Option Tmp} {a : Act} {w : World} {K : Act → World → Prop} {f : FuncId} {fn : Func} {xs : Array Operand} {ts : Array TypeId} {cp : Array Value} {op : Operand} (hf : P.funcs[f]? = some fn) (hname : (fn.name == "runtime.NumGoroutine") = false) (hb : fn.body.isSome = true) (args : Array Value)
    (hw : Region.wanted oi (yielded ops a.tmps) = true) (hN : oi.dst = N) (hop : oi.op = .call { callee := .value op, args := xs, argTypes := ts }) (hv : a.eval op = .func (.func f) #[] cp) (hargs : xs.map a.eval ++ cp = args)
    (h : Calls P f args w fun e w' => ∃ v, e = .returned v ∧ K (a.put N v) w') : if Region.wanted oi (yielded ops a.tmps) = true then Oper.wp P oi a w K Q else K (a.put N undef) w := by
  refine call_ f args hw hN ?_ h
  have he := enters_ hf hname hb args w
  unfold execOp
  simp [hop, resolve, Deferred.ofValue, invoke, hv, hargs, he]
set_option maxHeartbeats 8000000 in
set_option maxRecDepth 100000 in
theorem perm1.calls {σ : Type} (step : Nat → σ → List Int → Option σ) (Inv : σ → World → (Nat → Prop) → Prop) (g1 g2 : Nat)
  (hI : ∀ s W W' ok, Inv s W ok → Below W.heap.size W W' → Inv s W' ok) (hL : ∀ s W ok q, Inv s W ok → ok q → q < W.heap.size)
  (hT : ∀ (k : Nat) (s s' : σ) (p : List Int) (A : Option Addr) (c : Nat) (W : World) (ok : Nat → Prop), Inv s W ok → (∀ W', Kept W W' ok → Kd.C (Kd.int .i64) W' A p.length p) → p.length ≤ c → step k s p = some s' → Calls Try.prog 139 #[.slice A p.length c, .pointer (some ⟨g1, 0, none⟩), .pointer (some ⟨g2, 0, none⟩)] W fun e w' => e = .returned (.tuple #[]) ∧ ∃ ok', Inv s' w' ok' ∧ (∀ q, ok' q → ok q ∨ W.heap.size ≤ q) ∧ Kept W w' ok)
  (gn gt gy : Nat) : ∀ (k : Nat) (a1 : Int) (s s' : σ) (A0 : Option Addr) (c0 : Nat) (l0 : List Int) (w : World) (ok : Nat → Prop), Inv s w ok → ¬ ok gn → ¬ ok gt → ¬ ok gy → w.heap[gn]? = some (.cells #[.int .i64 a1] 3 (0, 0)) → w.heap[gt]? = some (.cells #[.func (.func 139) #[] #[.pointer (some ⟨g1, 0, none⟩), .pointer (some ⟨g2, 0, none⟩)]] 96 (0, 0)) → w.heap[gy]? = some (.cells #[.func (.func 157) #[] #[.pointer (some ⟨gn, 0, none⟩), .pointer (some ⟨gt, 0, none⟩), .pointer (some ⟨gy, 0, none⟩)]] 96 (0, 0)) → (∀ W', Kept w W' ok → Kd.C (Kd.int .i64) W' A0 l0.length l0) → l0.length ≤ c0 → permG step k a1 s l0 = some s' →
  Calls Try.prog 157 #[.slice A0 l0.length c0, .pointer (some ⟨gn, 0, none⟩), .pointer (some ⟨gt, 0, none⟩), .pointer (some ⟨gy, 0, none⟩)] w fun e w' => e = .returned (.tuple #[]) ∧ ∃ ok', Inv s' w' ok' ∧ (∀ q, ok' q → ok q ∨ w.heap.size ≤ q) ∧ Kept w w' ok := by
  intro k
  induction k using Nat.strongRecOn with
  | ind k ih =>
  intro a1 s s' A0 c0 l0 w ok hInv hnn hnt hny hbn hbt hby hp hc0 h
  cases k with
  | zero => simp [permG] at h
  | succ k =>
  simp only [permG] at h; have IH := Az ih; have HIV := Az hInv; have NN := Az hnn; have NT := Az hnt; have NY := Az hny; have BN0 := Az hbn; have BT0 := Az hbt; have BY0 := Az hby; have HP := Az hp; have HC0 := Az hc0; have HT := Az hT; have HI := Az hI; have HL := Az hL; clear ih hInv hnn hnt hny hbn hbt hby hp hc0 hT hI hL; have hcz0 : w.cell? ⟨gn, 0, none⟩ = some (.int .i64 a1) := (blk_cell BN0.out 0).trans rfl; have hcz1 : w.cell? ⟨gt, 0, none⟩ = some (.func (.func 139) #[] #[.pointer (some ⟨g1, 0, none⟩), .pointer (some ⟨g2, 0, none⟩)]) := (blk_cell BT0.out 0).trans rfl
  by_cases c5 : (l0.length : Int) = a1
  ·
    rw [if_pos c5] at h; have c5b0 := beq_iff_eq.mpr c5; clear c5; have H' := Az h; clear h
    go_enter Try.func157, Try.ntmps157
    go_wp2_with (first | (go_at_call 139; refine (HT.out k s s' l0 A0 c0 _ ok HIV.out HP.out HC0.out H'.out).mono ?_; rintro e w1 ⟨rfl, ok', i1, i2, i3⟩; have R1 := Az i1; have R2 := Az i2; have R3 := Az i3; clear i1 i2 i3))
    first | go_end0 | ((try simp only [Exit.inBlock, Exit.then]); refine bodyPost_ret (results_none rfl _ _ _) rfl ?_)
    exact ⟨rfl, ok', R1.out, R2.out, R3.out⟩
  ·
    rw [if_neg c5] at h; have c5b0 := beq_eq_false_iff_ne.mpr c5; clear c5; have H' := Az h; clear h
    go_enter Try.func157, Try.ntmps157
    go_wp2
    go_loopg [14] k (fun kq v14 w' => ∃ (x14_1 : Int) (s1 : σ) (ok1 : Nat → Prop), v14 = .int .i64 x14_1 ∧ Aside0 (permL step kq a1 s1 l0 x14_1 = some s') ∧ Aside0 (kq ≤ k) ∧ Aside0 (Inv s1 w' ok1) ∧ Aside0 (∀ q, ok1 q → ok q ∨ w.heap.size ≤ q) ∧ Aside0 (Kept w w' ok))
    case atStart => exact ⟨(0), s, ok, rfl, H', ⟨Nat.le_refl _⟩, HIV, ⟨fun q h => Or.inl h⟩, ⟨Kept.refl w ok⟩⟩
    case round =>
      clear H' HIV hcz0 hcz1; obtain ⟨x14_1, s1, ok1, rfl, HA, HK1, HIV, HOK, HKP⟩ := hrel
      cases gk with
      | zero => exact absurd HA.out (by simp [permL])
      | succ k1 =>
        have H := HA.out; clear HA; simp only [permL] at H; obtain ⟨wB, hwB⟩ : ∃ W_ : World, W_ = wr := ⟨wr, rfl⟩; have HB : Aside0 (Below wB.heap.size wB wr) := ⟨by rw [hwB]; exact Below.refl _ _⟩; have BK666 : Aside0 (wr.heap[gn]? = some (.cells #[.int .i64 a1] 3 (0, 0))) := ⟨blk_kept BN0.out HKP.out NN.out⟩; have BK667 : Aside0 (wr.heap[gt]? = some (.cells #[.func (.func 139) #[] #[.pointer (some ⟨g1, 0, none⟩), .pointer (some ⟨g2, 0, none⟩)]] 96 (0, 0))) := ⟨blk_kept BT0.out HKP.out NT.out⟩; have BK668 : Aside0 (wr.heap[gy]? = some (.cells #[.func (.func 157) #[] #[.pointer (some ⟨gn, 0, none⟩), .pointer (some ⟨gt, 0, none⟩), .pointer (some ⟨gy, 0, none⟩)]] 96 (0, 0))) := ⟨blk_kept BY0.out HKP.out NY.out⟩; have HR0 : Aside0 (Kd.C (Kd.int .i64) wB A0 l0.length l0) := ⟨by rw [hwB]; exact HP.out wr HKP.out⟩; replace HIV : Aside0 (Inv s1 wB ok1) := ⟨by rw [hwB]; exact HIV.out⟩; replace HKP : Aside0 (Kept w wB ok) := ⟨by rw [hwB]; exact HKP.out⟩; have hgnB : gn < wB.heap.size := Nat.lt_of_lt_of_le (blk_lt BN0.out) HKP.out.1; clear hwB
        by_cases c21 : x14_1 < a1
        ·
          rw [if_pos c21] at H; have c21b0 := decide_eq_true c21; clear c21; obtain ⟨t670, A220, H⟩ := Option.bind_eq_some_iff.mp H; have A22 := Az A220; clear A220
          by_cases c23 : t670 = true
          ·
            subst c23; rw [if_pos rfl] at H; have H' := Az H; clear H
            go_wp2_with (first | ((with_reducible refine gate_callee (f := 147) rfl ?_); refine goesL_ (some 19) rfl rfl Try.func147 (by kernel_rfl) rfl #[.slice A0 l0.length c0, .int .i64 x14_1] rfl (by (try simp only [List.map_toArray, List.map_cons, List.map_nil]); first | done | rfl | (simp only [List.length_drop, List.length_take]; rfl)) ?_; (with_reducible refine (slices_Contains_int_int.calls k1 _ _ l0 x14_1 true _ ?side1 ?side2 A22.out).mono ?_); (case side1 => exact cU (Kd.C_below HR0.out HB.out)); (case side2 => exact HC0.out); rintro e w' ⟨rfl, ⟨nd, rfl⟩⟩; refine ⟨_, rfl, ?_⟩))
            (first | go_roundg k1 | (refine Handed.intro k1 ?measure ?_; rotate_left; go_step; (try simp only [add_plain]); (repeat apply Exists.intro); refine ⟨?rel, rfl⟩))
            case measure => have := HK1.out; omega
            case rel => exact ⟨(wrap64 (x14_1 + 1)), s1, ok1, rfl, H', ⟨by have := HK1.out; omega⟩, ⟨HI.out _ _ _ _ HIV.out (bU0 HB.out)⟩, HOK, ⟨Kept.below HKP.out (bU0 HB.out)⟩⟩
          ·
            replace c23 := Bool.eq_false_iff.mpr c23; subst c23; rw [if_neg (show ¬ (false = true) by decide)] at H; obtain ⟨t671, A240, H⟩ := Option.bind_eq_some_iff.mp H; have A24 := Az A240; clear A240; obtain ⟨y674, hy674, H⟩ := Option.bind_eq_some_iff.mp H; have Ny674 : Aside0 (y674 = ([x14_1] : List Int)) := ⟨(Option.some.inj hy674).symm⟩; clear hy674
            by_cases c25 : t671.length + y674.length < 17592186044416
            ·
              rw [if_pos c25] at H; have LMc25 := Az c25; clear c25; obtain ⟨y677, hy677⟩ : ∃ y_ : List Int, y_ = (t671 ++ y674) := ⟨_, rfl⟩; rw [← hy677] at H; have Ny677 := Az hy677; clear hy677; obtain ⟨s2, A260, H⟩ := Option.bind_eq_some_iff.mp H; have A26 := Az A260; clear A260; have H' := Az H; clear H
              try go_wp2_with (first | ((with_reducible refine gate_callee (f := 147) rfl ?_); refine goesL_ (some 19) rfl rfl Try.func147 (by kernel_rfl) rfl #[.slice A0 l0.length c0, .int .i64 x14_1] rfl (by (try simp only [List.map_toArray, List.map_cons, List.map_nil]); first | done | rfl | (simp only [List.length_drop, List.length_take]; rfl)) ?_; (with_reducible refine (slices_Contains_int_int.calls k1 _ _ l0 x14_1 false _ ?side1 ?side2 A22.out).mono ?_); (case side1 => exact cU (Kd.C_below HR0.out HB.out)); (case side2 => exact HC0.out); rintro e w' ⟨rfl, ⟨nd, rfl⟩⟩; refine ⟨_, rfl, ?_⟩))
              (try (rw [drewN_self wr]; generalize hq_ : World.drewN wr _ = wr; have n0_ : Aside0 (wr.heap[gn]? = some (.cells #[.int .i64 a1] 3 (0, 0))) := ⟨by rw [← hq_]; exact (kU BK666.out)⟩; have n1_ : Aside0 (wr.heap[gt]? = some (.cells #[.func (.func 139) #[] #[.pointer (some ⟨g1, 0, none⟩), .pointer (some ⟨g2, 0, none⟩)]] 96 (0, 0))) := ⟨by rw [← hq_]; exact (kU BK667.out)⟩; have n2_ : Aside0 (wr.heap[gy]? = some (.cells #[.func (.func 157) #[] #[.pointer (some ⟨gn, 0, none⟩), .pointer (some ⟨gt, 0, none⟩), .pointer (some ⟨gy, 0, none⟩)]] 96 (0, 0))) := ⟨by rw [← hq_]; exact (kU BK668.out)⟩; have n3_ : Aside0 (Below wB.heap.size wB wr) := ⟨by rw [← hq_]; exact (bU0 HB.out)⟩; clear BK666 BK667 BK668 HB hq_; have BK666 := n0_; have BK667 := n1_; have BK668 := n2_; have HB := n3_; clear n0_ n1_ n2_ n3_)); have n0_ := Az (blk_drew BK666.out); have n1_ := Az (blk_drew BK667.out); have n2_ := Az (blk_drew BK668.out); have n3_ := Az (below_drew1 HB.out); clear BK666 BK667 BK668 HB; have BK666 := n0_; have BK667 := n1_; have BK668 := n2_; have HB := n3_; clear n0_ n1_ n2_ n3_
              refine start_ (n := 7) (S := fun w' => w'.cell? ⟨gy, 0, none⟩ = some (.func (.func 157) #[] #[.pointer (some ⟨gn, 0, none⟩), .pointer (some ⟨gt, 0, none⟩), .pointer (some ⟨gy, 0, none⟩)])) (ds := []) #[false, false, false, false, false, false, false] (by kernel_rfl) rfl rfl ((blk_cell BK668.out 0).trans rfl) (fun hHeld => ?_)
              generalize wr.drew = w27 at BK666 BK667 BK668 HB hHeld ⊢
              refine pure_ (i := 1) (N := some 22) (v := ?_) (a' := ?_) #[false, true, false, false, false, false, false] rfl rfl (by kernel_rfl) (fun _ _ _ h => h) (Or.inl ⟨by rfl, ?_⟩) ?_ ?_
              rotate_left
              ·
               intro w'
               go_simp
               with_reducible rfl
              rotate_left
              ·
               simp only [Act.put, List.setIfInBounds_toArray, List.set_cons_zero, List.set_cons_succ, i64_w, i32_w]
               rfl
              refine pure_ (i := 3) (N := some 24) (v := ?_) (a' := ?_) #[false, true, false, true, false, false, false] rfl rfl (by kernel_rfl) (fun _ _ _ h => h) (Or.inl ⟨by rfl, ?_⟩) ?_ ?_
              rotate_left
              ·
               intro w'
               go_simp
               with_reducible rfl
              rotate_left
              ·
               simp only [Act.put, List.setIfInBounds_toArray, List.set_cons_zero, List.set_cons_succ, i64_w, i32_w]
               rfl
              refine take_ (i := 0) (N := some 21) (v := ?_) (a' := ?_) #[true, true, false, true, false, false, false] rfl rfl (by kernel_rfl) (fun _ _ _ h => h) (Or.inl ⟨by rfl, ?_⟩) hHeld ?_ ?_
              rotate_left
              ·
               intro w' s0
               go_simp
               with_reducible rfl
              rotate_left
              ·
               simp only [Act.put, List.setIfInBounds_toArray, List.set_cons_zero, List.set_cons_succ, i64_w, i32_w]
               rfl
              refine join_ (σ := Value × Value) 2 #[true, true, true, true, true, false, false] (fun s_ => [(23, s_.1), (25, s_.2)]) (fun s_ w' => (w'.cell? ⟨gy, 0, none⟩ = some (.func (.func 157) #[] #[.pointer (some ⟨gn, 0, none⟩), .pointer (some ⟨gt, 0, none⟩), .pointer (some ⟨gy, 0, none⟩)])) ∧ (Kd.R (Kd.int .i64) 3 w' wB.heap.size (fun k_ => some k_ ≠ (s_.2 : Value).ownBlock) s_.1 t671) ∧ (Kd.R (Kd.int .i64) 3 w' wB.heap.size (fun k_ => some k_ ≠ (s_.1 : Value).ownBlock) s_.2 y674) ∧ (w'.heap[gn]? = some (.cells #[.int .i64 a1] 3 (0, 0))) ∧ (w'.heap[gt]? = some (.cells #[.func (.func 139) #[] #[.pointer (some ⟨g1, 0, none⟩), .pointer (some ⟨g2, 0, none⟩)]] 96 (0, 0))) ∧ (w'.heap[gy]? = some (.cells #[.func (.func 157) #[] #[.pointer (some ⟨gn, 0, none⟩), .pointer (some ⟨gt, 0, none⟩), .pointer (some ⟨gy, 0, none⟩)]] 96 (0, 0))) ∧ (Below wB.heap.size wB w')) ?_ ?_
              rotate_left
              ·
               intro hCont
               refine two_ (i := 2) (j := 4) (Ni := some 23) (Nj := some 25) #[true, true, true, true, false, false, false] #[true, true, false, true, true, false, false] rfl rfl rfl rfl (by kernel_rfl) (by decide) (by decide) (fun K hK => ?_) (fun K hK => ?_)
               ·
                skip
                refine goes_ Try.func68 (by kernel_rfl) rfl #[.slice A0 l0.length c0] (by rfl) rfl rfl (by (try simp only [List.map_toArray, List.map_cons, List.map_nil]); first | done | rfl | (simp only [List.length_drop, List.length_take]; rfl)) ?_
                with_reducible refine (slices_Clone_int_int.calls _ _ l0 t671 _ ?side1 ?side2 A24.out).mono ?_
                (case side1 => exact cU (Kd.C_below HR0.out HB.out))
                (case side2 => exact HC0.out)
                rintro e w28 ⟨v672, rfl, ho0, hb⟩
                refine ⟨_, rfl, ?_⟩
                have n0_ := Az (Kd.R_lower ho0 (below_size (bU0 HB.out))); have n1_ := Az (blk_below (g := gn) (o := .cells #[.int .i64 a1] 3 (0, 0)) (kU BK666.out) hb); have n2_ := Az (blk_below (g := gt) (o := .cells #[.func (.func 139) #[] #[.pointer (some ⟨g1, 0, none⟩), .pointer (some ⟨g2, 0, none⟩)]] 96 (0, 0)) (kU BK667.out) hb); have n3_ := Az (blk_below (g := gy) (o := .cells #[.func (.func 157) #[] #[.pointer (some ⟨gn, 0, none⟩), .pointer (some ⟨gt, 0, none⟩), .pointer (some ⟨gy, 0, none⟩)]] 96 (0, 0)) (kU BK668.out) hb); have n4_ := Az (below_step (bU0 HB.out) hb); clear BK666 BK667 BK668 HB; have HO673 := n0_; have BK666 := n1_; have BK667 := n2_; have BK668 := n3_; have HB := n4_; clear n0_ n1_ n2_ n3_ n4_; (try clear hb); (try clear hb2); (try clear hk); (try clear hi); (try clear ho0)
                refine hK.out _ _ ((blk_cell BK668.out 0).trans rfl) (fun hHeld => ?_)
                clear hK K
                refine norm_ (a' := ?_) ?_ ?_
                rotate_left
                ·
                 show Act.put _ (some 23) _ = _
                 simp only [Act.put, List.setIfInBounds_toArray, List.set_cons_zero, List.set_cons_succ, i64_w, i32_w]
                 rfl
                refine one_ (i := 4) (N := some 25) #[true, true, true, true, true, false, false] rfl rfl (by kernel_rfl) (by decide) (fun K hK => ?_)
                refine Kd.R_lit_step (Kd.int .i64) _ 3 ?hg (N := 25) ?hd (xs := ([x14_1] : List Int)) (inner := [.int .i64 x14_1]) (ok := fun _ => True) (okp := fun _ => True) ?hr ?hp (fun _ hk => hk) trivial (Below.refl _ _) (Nat.le_refl _) (by simp) ?_; (case hd => rfl); (case hg => rfl); (case hr => first | (go_simp; done) | (go_simp; rfl)); (case hp => exact (Reps.one (show Kd.M (Kd.int .i64) _ _ _ x14_1 [.int .i64 x14_1] from rfl) (Reps.none _ _)))
                intro v675 w29 ho30 hb hg_ hnew_
                clear hg_ hnew_; (first | rw [← Ny674.out] at ho30 | (simp only [Int.reduceToNat] at ho30; rw [← Ny674.out] at ho30)); have n0_ := Az (Kd.R_elder' (rU HO673.out) (Kd.R_base ho30) hb); have n1_ := Az (Kd.R_lower (Kd.R_new' ho30 (Kd.R_lt (rU HO673.out))) (below_size (bU0 HB.out))); have n2_ := Az (blk_below (g := gn) (o := .cells #[.int .i64 a1] 3 (0, 0)) (kU BK666.out) hb); have n3_ := Az (blk_below (g := gt) (o := .cells #[.func (.func 139) #[] #[.pointer (some ⟨g1, 0, none⟩), .pointer (some ⟨g2, 0, none⟩)]] 96 (0, 0)) (kU BK667.out) hb); have n4_ := Az (blk_below (g := gy) (o := .cells #[.func (.func 157) #[] #[.pointer (some ⟨gn, 0, none⟩), .pointer (some ⟨gt, 0, none⟩), .pointer (some ⟨gy, 0, none⟩)]] 96 (0, 0)) (kU BK668.out) hb); have n5_ := Az (below_step (bU0 HB.out) hb); clear HO673 BK666 BK667 BK668 HB; have HO673 := n0_; have HO676 := n1_; have BK666 := n2_; have BK667 := n3_; have BK668 := n4_; have HB := n5_; clear n0_ n1_ n2_ n3_ n4_ n5_ hb ho30
                refine hK.out _ _ ((blk_cell BK668.out 0).trans rfl) (fun hHeld => ?_)
                clear hK K
                refine norm_ (a' := ?_) ?_ ?_
                rotate_left
                ·
                 show Act.put _ (some 25) _ = _
                 simp only [Act.put, List.setIfInBounds_toArray, List.set_cons_zero, List.set_cons_succ, i64_w, i32_w]
                 rfl
                exact norm_ (by simp only [putAll, Act.put, List.setIfInBounds_toArray, List.set_cons_zero, List.set_cons_succ]) (hCont (v672, v675) _ ⟨hHeld, (by (with_reducible repeat (first | apply Kd.R_alloc | apply Kd.R_drewN | apply Kd.R_drew)); exact Kd.R_mono HO673.out (fun _ hk => hk.2)), (by (with_reducible repeat (first | apply Kd.R_alloc | apply Kd.R_drewN | apply Kd.R_drew)); exact Kd.R_mono HO676.out (fun _ hk => hk.2)), (kU BK666.out), (kU BK667.out), (kU BK668.out), (bU0 HB.out)⟩)
               ·
                skip
                refine Kd.R_lit_step (Kd.int .i64) _ 3 ?hg (N := 25) ?hd (xs := ([x14_1] : List Int)) (inner := [.int .i64 x14_1]) (ok := fun _ => True) (okp := fun _ => True) ?hr ?hp (fun _ hk => hk) trivial (Below.refl _ _) (Nat.le_refl _) (by simp) ?_; (case hd => rfl); (case hg => rfl); (case hr => first | (go_simp; done) | (go_simp; rfl)); (case hp => exact (Reps.one (show Kd.M (Kd.int .i64) _ _ _ x14_1 [.int .i64 x14_1] from rfl) (Reps.none _ _)))
                intro v675 w28 ho29 hb hg_ hnew_
                clear hg_ hnew_; (first | rw [← Ny674.out] at ho29 | (simp only [Int.reduceToNat] at ho29; rw [← Ny674.out] at ho29)); have n0_ := Az (Kd.R_lower ho29 (below_size (bU0 HB.out))); have n1_ := Az (blk_below (g := gn) (o := .cells #[.int .i64 a1] 3 (0, 0)) (kU BK666.out) hb); have n2_ := Az (blk_below (g := gt) (o := .cells #[.func (.func 139) #[] #[.pointer (some ⟨g1, 0, none⟩), .pointer (some ⟨g2, 0, none⟩)]] 96 (0, 0)) (kU BK667.out) hb); have n3_ := Az (blk_below (g := gy) (o := .cells #[.func (.func 157) #[] #[.pointer (some ⟨gn, 0, none⟩), .pointer (some ⟨gt, 0, none⟩), .pointer (some ⟨gy, 0, none⟩)]] 96 (0, 0)) (kU BK668.out) hb); have n4_ := Az (below_step (bU0 HB.out) hb); clear BK666 BK667 BK668 HB; have HO676 := n0_; have BK666 := n1_; have BK667 := n2_; have BK668 := n3_; have HB := n4_; clear n0_ n1_ n2_ n3_ n4_ hb ho29
                refine hK.out _ _ ((blk_cell BK668.out 0).trans rfl) (fun hHeld => ?_)
                clear hK K
                refine norm_ (a' := ?_) ?_ ?_
                rotate_left
                ·
                 show Act.put _ (some 25) _ = _
                 simp only [Act.put, List.setIfInBounds_toArray, List.set_cons_zero, List.set_cons_succ, i64_w, i32_w]
                 rfl
                refine one_ (i := 2) (N := some 23) #[true, true, true, true, true, false, false] rfl rfl (by kernel_rfl) (by decide) (fun K hK => ?_)
                refine goes_ Try.func68 (by kernel_rfl) rfl #[.slice A0 l0.length c0] (by rfl) rfl rfl (by (try simp only [List.map_toArray, List.map_cons, List.map_nil]); first | done | rfl | (simp only [List.length_drop, List.length_take]; rfl)) ?_
                with_reducible refine (slices_Clone_int_int.calls _ _ l0 t671 _ ?side1 ?side2 A24.out).mono ?_
                (case side1 => exact cU (Kd.C_below HR0.out HB.out))
                (case side2 => exact HC0.out)
                rintro e w30 ⟨v672, rfl, ho0, hb⟩
                refine ⟨_, rfl, ?_⟩
                have n0_ := Az (Kd.R_elder' (rU HO676.out) (Kd.R_base ho0) hb); have n1_ := Az (Kd.R_lower (Kd.R_new' ho0 (Kd.R_lt (rU HO676.out))) (below_size (bU0 HB.out))); have n2_ := Az (blk_below (g := gn) (o := .cells #[.int .i64 a1] 3 (0, 0)) (kU BK666.out) hb); have n3_ := Az (blk_below (g := gt) (o := .cells #[.func (.func 139) #[] #[.pointer (some ⟨g1, 0, none⟩), .pointer (some ⟨g2, 0, none⟩)]] 96 (0, 0)) (kU BK667.out) hb); have n4_ := Az (blk_below (g := gy) (o := .cells #[.func (.func 157) #[] #[.pointer (some ⟨gn, 0, none⟩), .pointer (some ⟨gt, 0, none⟩), .pointer (some ⟨gy, 0, none⟩)]] 96 (0, 0)) (kU BK668.out) hb); have n5_ := Az (below_step (bU0 HB.out) hb); clear HO676 BK666 BK667 BK668 HB; have HO676 := n0_; have HO673 := n1_; have BK666 := n2_; have BK667 := n3_; have BK668 := n4_; have HB := n5_; clear n0_ n1_ n2_ n3_ n4_ n5_; (try clear hb); (try clear hb2); (try clear hk); (try clear hi); (try clear ho0)
                refine hK.out _ _ ((blk_cell BK668.out 0).trans rfl) (fun hHeld => ?_)
                clear hK K
                refine norm_ (a' := ?_) ?_ ?_
                rotate_left
                ·
                 show Act.put _ (some 23) _ = _
                 simp only [Act.put, List.setIfInBounds_toArray, List.set_cons_zero, List.set_cons_succ, i64_w, i32_w]
                 rfl
                exact norm_ (by simp only [putAll, Act.put, List.setIfInBounds_toArray, List.set_cons_zero, List.set_cons_succ]) (hCont (v672, v675) _ ⟨hHeld, (by (with_reducible repeat (first | apply Kd.R_alloc | apply Kd.R_drewN | apply Kd.R_drew)); exact Kd.R_mono HO673.out (fun _ hk => hk.2)), (by (with_reducible repeat (first | apply Kd.R_alloc | apply Kd.R_drewN | apply Kd.R_drew)); exact Kd.R_mono HO676.out (fun _ hk => hk.2)), (kU BK666.out), (kU BK667.out), (kU BK668.out), (bU0 HB.out)⟩)
              rintro ⟨v672, v675⟩ w31 ⟨hS_, h0_, h1_, h2_, h3_, h4_, h5_⟩
              have n0_ : Aside0 (Kd.R (Kd.int .i64) 3 w31 wB.heap.size (fun k_ => some k_ ≠ (v675 : Value).ownBlock) v672 t671) := ⟨h0_⟩; have n1_ : Aside0 (Kd.R (Kd.int .i64) 3 w31 wB.heap.size (fun k_ => some k_ ≠ (v672 : Value).ownBlock) v675 y674) := ⟨h1_⟩; have n2_ : Aside0 (w31.heap[gn]? = some (.cells #[.int .i64 a1] 3 (0, 0))) := ⟨h2_⟩; have n3_ : Aside0 (w31.heap[gt]? = some (.cells #[.func (.func 139) #[] #[.pointer (some ⟨g1, 0, none⟩), .pointer (some ⟨g2, 0, none⟩)]] 96 (0, 0))) := ⟨h3_⟩; have n4_ : Aside0 (w31.heap[gy]? = some (.cells #[.func (.func 157) #[] #[.pointer (some ⟨gn, 0, none⟩), .pointer (some ⟨gt, 0, none⟩), .pointer (some ⟨gy, 0, none⟩)]] 96 (0, 0))) := ⟨h4_⟩; have n5_ : Aside0 (Below wB.heap.size wB w31) := ⟨h5_⟩; clear BK666 BK667 BK668 HB h0_ h1_ h2_ h3_ h4_ h5_; have HO673 := n0_; have HO676 := n1_; have BK666 := n2_; have BK667 := n3_; have BK668 := n4_; have HB := n5_; clear n0_ n1_ n2_ n3_ n4_ n5_; have hHeld : w31.cell? ⟨gy, 0, none⟩ = some (.func (.func 157) #[] #[.pointer (some ⟨gn, 0, none⟩), .pointer (some ⟨gt, 0, none⟩), .pointer (some ⟨gy, 0, none⟩)]) := hS_; obtain ⟨Ao33, co33, eo33⟩ := Kd.R_slice HO676.out; (first | subst eo33 | (injection eo33 with f1_ f2_ f3_; have f4_ := f1_.symm; have f5_ := f3_.symm; clear f1_ f2_ f3_; subst f4_; subst f5_))
              refine norm_ (a' := ?_) ?_ ?_
              rotate_left
              ·
               simp only [putAll, Act.put, List.setIfInBounds_toArray, List.set_cons_zero, List.set_cons_succ]
               rfl
              refine one_ (i := 5) (N := some 26) #[true, true, true, true, true, true, false] rfl rfl (by kernel_rfl) (by decide) (fun K hK => ?_)
              refine Kd.R_append_rows_step (Kd.int .i64) (w0 := wB) wB.heap.size (by rfl) (.tmp 23) (.tmp 25) 23 3 (.int .i64 0) 8 rfl Try.underlying23 infoF3 rfl (by decide) (by omega) v672 t671 y674 _ _ _ (fun k_ => some k_ ≠ (.slice Ao33 y674.length co33 : Value).ownBlock) (fun _ => False) rfl rfl ?aO ?aR (fun _ _ h => h) (fun _ h => h.elim) ?aF ?aB ?aS ?aL ?_
              (case aR => exact cU ((Kd.R_reads' HO676.out).2.2))
              (case aB => exact (bU0 HB.out))
              (case aF => exact (fun k_ hk => Kd.fresh' (Kd.R_lt (rU HO676.out)) k_ hk))
              (case aO => exact (rU HO673.out))
              (case aS => exact (below_size (bU0 HB.out)))
              (case aL => have := LMc25.out; omega)
              intro v678 w32 ho hb hg hat
              rw [← Ny677.out] at ho; have n0_ := Az (blk_grown (g := gn) (o := .cells #[.int .i64 a1] 3 (0, 0)) (kU BK666.out) hg (fun e_ => absurd (Kd.R_base HO673.out gn e_.symm) (Nat.not_le_of_lt hgnB))); have n1_ := Az (blk_grown (g := gt) (o := .cells #[.func (.func 139) #[] #[.pointer (some ⟨g1, 0, none⟩), .pointer (some ⟨g2, 0, none⟩)]] 96 (0, 0)) (kU BK667.out) hg (Kd.R_ne HO673.out BK667.out (by decide))); have n2_ := Az (blk_grown (g := gy) (o := .cells #[.func (.func 157) #[] #[.pointer (some ⟨gn, 0, none⟩), .pointer (some ⟨gt, 0, none⟩), .pointer (some ⟨gy, 0, none⟩)]] 96 (0, 0)) (kU BK668.out) hg (Kd.R_ne HO673.out BK668.out (by decide))); have n3_ := Az (Kd.R_after (ok := (fun _ => True)) (by (with_reducible repeat (first | apply Kd.R_alloc | apply Kd.R_drewN | apply Kd.R_drew)); exact Kd.R_mono HO676.out (fun _ hk => ⟨trivial, hk⟩)) hg hat); have n4_ := Az (hb); have n5_ := Az (ho); clear BK666 BK667 BK668 HO676 HB HO673; have BK666 := n0_; have BK667 := n1_; have BK668 := n2_; have HO676 := n3_; have HB := n4_; have HO679 := n5_; clear n0_ n1_ n2_ n3_ n4_ n5_ ho hb hg hat; obtain ⟨Ao34, co34, eo34⟩ := Kd.R_slice HO679.out; (first | subst eo34 | (injection eo34 with f1_ f2_ f3_; have f4_ := f1_.symm; have f5_ := f3_.symm; clear f1_ f2_ f3_; subst f4_; subst f5_))
              refine hK.out _ _ ((blk_cell BK668.out 0).trans rfl) (fun hHeld => ?_)
              clear hK K
              refine norm_ (a' := ?_) ?_ ?_
              rotate_left
              ·
               show Act.put _ (some 26) _ = _
               simp only [Act.put, List.setIfInBounds_toArray, List.set_cons_zero, List.set_cons_succ, i64_w, i32_w]
               rfl
              refine one_ (i := 6) (N := some 27) #[true, true, true, true, true, true, true] rfl rfl (by kernel_rfl) (by decide) (fun K hK => ?_)
              refine goesV_ (f := 157) Try.func157 (by kernel_rfl) rfl #[.slice Ao34 y677.length co34, .pointer (some ⟨gn, 0, none⟩), .pointer (some ⟨gt, 0, none⟩), .pointer (some ⟨gy, 0, none⟩)] (by rfl) rfl rfl (by rfl) (by first | rfl | (simp; done) | (simp; rfl)) ?_
              have hge : ∀ q, ok1 q → q < wB.heap.size := fun q hq => HL.out _ _ _ _ HIV.out hq
              have hnew : ∀ g, g < w.heap.size → ¬ ok g → ¬ ok1 g := fun g hg hn hq => (HOK.out g hq).elim hn (fun h_ => by omega)
              have on := hnew gn (blk_lt BN0.out) NN.out; have ot := hnew gt (blk_lt BT0.out) NT.out; have oy := hnew gy (blk_lt BY0.out) NY.out
              refine (IH.out k1 (by have := HK1.out; omega) a1 s1 s2 Ao34 co34 y677 _ ok1 (HI.out _ _ _ _ HIV.out (bU0 HB.out)) on ot oy BK666.out BK667.out BK668.out (Kd.C_kept_own (Kd.R_bound HO679.out) (fun q hq h1 => by have h2 := hge q h1; have h3 := hq.2.1; omega)) (Kd.R_reads' HO679.out).2.1 A26.out).mono ?_
              rintro e w' ⟨rfl, ok2, i1, i2, i3⟩
              refine ⟨_, rfl, ?_⟩
              have R1 := Az i1; have R2 := Az i2; have R3 := Az i3; have hcy := blk_kept BK668.out i3 oy; clear i1 i2 i3
              refine hK.out _ _ ((blk_cell hcy 0).trans rfl) (fun hHeld => ?_)
              clear hK K
              refine norm_ (a' := ?_) ?_ ?_
              rotate_left
              ·
                show Act.put _ (some 27) _ = _
                simp only [Act.put, List.setIfInBounds_toArray, List.set_cons_zero, List.set_cons_succ, i64_w, i32_w]
                rfl
              refine done_ (by kernel_rfl) ?_
              try go_wp2
              (first | go_roundg k1 | (refine Handed.intro k1 ?measure ?_; rotate_left; go_step; (try simp only [add_plain]); (repeat apply Exists.intro); refine ⟨?rel, rfl⟩))
              case measure => have := HK1.out; omega
              case rel => exact ⟨(wrap64 (x14_1 + 1)), s2, ok2, rfl, H', ⟨by have := HK1.out; omega⟩, R1, ⟨fun q hq => (R2.out q hq).elim (HOK.out q) (fun h_ => Or.inr (Nat.le_trans (Nat.le_trans HKP.out.1 HB.out.size) h_))⟩, ⟨Kept.then_ (Kept.below HKP.out HB.out) R3.out (fun q hq => HOK.out q hq)⟩⟩
            ·
              rw [if_neg c25] at H
              exact absurd H (by simp)
        ·
          rw [if_neg c21] at H; have c21b0 := decide_eq_false c21; clear c21; obtain rfl := Option.some.inj H
          go_wp2
          first | go_end0 | ((try simp only [Exit.inBlock, Exit.then]); refine bodyPost_ret (results_none rfl _ _ _) rfl ?_)
          exact ⟨rfl, ok1, HI.out _ _ _ _ HIV.out (bU0 HB.out), HOK.out, Kept.below HKP.out (bU0 HB.out)⟩
theorem setCell_new (w : World) (u v : Value) (t : TypeId) : (w.alloc (.cells #[u] t (0, 0))).setCell ⟨w.heap.size, 0, none⟩ v = w.alloc (.cells #[v] t (0, 0)) := (World.setCell_alloc_new _ _ _ _).trans rfl
set_option maxHeartbeats 8000000 in
set_option maxRecDepth 100000 in
theorem perm0.calls {σ : Type} (step : Nat → σ → List Int → Option σ) (Inv : σ → World → (Nat → Prop) → Prop) (g1 g2 : Nat)
  (hI : ∀ s W W' ok, Inv s W ok → Below W.heap.size W W' → Inv s W' ok) (hL : ∀ s W ok q, Inv s W ok → ok q → q < W.heap.size)
  (hT : ∀ (k : Nat) (s s' : σ) (p : List Int) (A : Option Addr) (c : Nat) (W : World) (ok : Nat → Prop), Inv s W ok → (∀ W', Kept W W' ok → Kd.C (Kd.int .i64) W' A p.length p) → p.length ≤ c → step k s p = some s' → Calls Try.prog 139 #[.slice A p.length c, .pointer (some ⟨g1, 0, none⟩), .pointer (some ⟨g2, 0, none⟩)] W fun e w' => e = .returned (.tuple #[]) ∧ ∃ ok', Inv s' w' ok' ∧ (∀ q, ok' q → ok q ∨ W.heap.size ≤ q) ∧ Kept W w' ok)
  (k : Nat) (a1 : Int) (s s' : σ) (w : World) (ok : Nat → Prop) (hInv : Inv s w ok) (h : permG step k a1 s [] = some s') :
  Calls Try.prog 138 #[.int .i64 a1, .func (.func 139) #[] #[.pointer (some ⟨g1, 0, none⟩), .pointer (some ⟨g2, 0, none⟩)]] w fun e w' => e = .returned (.tuple #[]) ∧ ∃ ok', Inv s' w' ok' ∧ (∀ q, ok' q → ok q ∨ w.heap.size ≤ q) ∧ Kept w w' ok := by
  have HB := Az (Below.refl w.heap.size w); have HIV := Az hInv; have HH := Az h; have HT := Az hT; have HI := Az hI; have HL := Az hL; clear hInv h hT hI hL
  go_enter Try.func138, Try.ntmps138
  go_wp2_with (first | ((with_reducible refine gate_dst (N := 2) rfl ?_); refine box_event ?hg (N := 2) ?hd (cs := #[.int .i64 a1]) (t := 3) ?hr ?_; (case hd => rfl); (case hg => rfl); (case hr => first | (go_simp; done) | (go_simp; rfl)); intro gn hg_ w2 hbox hb; have n1 := Az (below_step HB.out hb); have B_gn := Az hbox; have G_gn := Az ((by rw [hg_]; exact below_size HB.out) : w.heap.size ≤ gn); clear HB hb hbox hg_; have HB := n1; clear n1) | ((with_reducible refine gate_dst (N := 3) rfl ?_); refine box_event ?hg (N := 3) ?hd (cs := #[.func (.func 139) #[] #[.pointer (some ⟨g1, 0, none⟩), .pointer (some ⟨g2, 0, none⟩)]]) (t := 96) ?hr ?_; (case hd => rfl); (case hg => rfl); (case hr => first | (go_simp; done) | (go_simp; rfl)); intro gt hg_ w3 hbox hb; have n1 := Az (below_step HB.out hb); have m0 := Az (blk_below B_gn.out hb); have B_gt := Az hbox; have G_gt := Az ((by rw [hg_]; exact below_size HB.out) : w.heap.size ≤ gt); clear HB hb hbox hg_ B_gn; have HB := n1; clear n1; have B_gn := m0; clear m0) | ((with_reducible refine gate_store (p := 4) (t := 96) rfl ?_); refine store_event (w1 := w3.alloc (.cells #[.func (.func 157) #[] #[.pointer (some ⟨gn, 0, none⟩), .pointer (some ⟨gt, 0, none⟩), .pointer (some ⟨w3.heap.size, 0, none⟩)]] 96 (0, 0))) rfl rfl rfl ?hr ?_; (case hr => (go_simp; rw [run_store _ _ _ _ _ rfl]; simp [stored]; exact setCell_new _ _ _ _)); rintro w4 rfl) | (go_at_call 157; refine (perm1.calls step Inv g1 g2 HI.out HL.out HT.out gn gt w3.heap.size k a1 s s' none 0 [] _ ok (HI.out _ _ _ _ HIV.out (by repeat (first | exact HB.out | apply below_alloc))) (fun h_ => Nat.lt_irrefl _ (Nat.lt_of_lt_of_le (HL.out _ _ _ _ HIV.out h_) G_gn.out)) (fun h_ => Nat.lt_irrefl _ (Nat.lt_of_lt_of_le (HL.out _ _ _ _ HIV.out h_) G_gt.out)) (fun h_ => Nat.lt_irrefl _ (Nat.lt_of_lt_of_le (HL.out _ _ _ _ HIV.out h_) (below_size HB.out))) (blk_alloc B_gn.out _) (blk_alloc B_gt.out _) (blk_new w3 _) (fun W' _ => Kd.C_nil _ _) (Nat.le_refl 0) HH.out).mono ?_; rintro e w5 ⟨rfl, ok', i1, i2, i3⟩; have R1 := Az i1; have R2 := Az i2; have R3 := Az i3; clear i1 i2 i3))
  first | go_end0 | ((try simp only [Exit.inBlock, Exit.then]); refine bodyPost_ret (results_none rfl _ _ _) rfl ?_)
  have hb4 : Below w.heap.size w (w3.alloc (.cells #[.func (.func 157) #[] #[.pointer (some ⟨gn, 0, none⟩), .pointer (some ⟨gt, 0, none⟩), .pointer (some ⟨w3.heap.size, 0, none⟩)]] 96 (0, 0))) := (by repeat (first | exact HB.out | apply below_alloc))
  exact ⟨rfl, ok', R1.out, fun q hq => (R2.out q hq).imp id (fun h_ => Nat.le_trans (below_size hb4) h_), Kept.then_ (Kept.below (Kept.refl w ok) hb4) R3.out (fun q hq => Or.inl hq)⟩
def fac1L : Nat → List (List Int) → List Int → List (List (List Int)) → Int → Option (List (List (List Int)))
  | 0, _, _, _, _ => none
  | k + 1, ts, p, cs, i => if i < (ts.length : Int) then (if 0 ≤ i then ((impl_typeOf.f k p).bind fun t => ((slices_Equal_int_int.f k t (rdS ts i)).bind fun b => (if b = true then ((slices_Clone_int_int.f p).bind fun c => (if (cs.getD i.toNat []).length < 5864062014805 then fac1L k ts p (cs.set i.toNat (cs.getD i.toNat [] ++ [c])) (wrap64 (i + 1)) else none)) else fac1L k ts p cs (wrap64 (i + 1))))) else none) else some cs
def fac1I (w0 : World) (At : Option Addr) (ct : Nat) (ts : List (List Int)) (g1 g2 : Nat) (v : Value) (s : List (List (List Int))) (W : World) (ok : Nat → Prop) : Prop :=
  Below w0.heap.size w0 W ∧ W.heap[g1]? = some (.cells #[.slice At ts.length ct] 45 (0, 0)) ∧ W.heap[g2]? = some (.cells #[v] 98 (0, 0)) ∧ Kd.S (Kd.slice 23 (Kd.slice 3 (Kd.int .i64))) 45 W w0.heap.size ok v s ∧ (∀ q, ok q → q ≠ g1 ∧ q ≠ g2 ∧ q < W.heap.size) ∧ s.length = ts.length
theorem fac1I.below {w0 W W1 : World} {At : Option Addr} {ct : Nat} {ts : List (List Int)} {g1 g2 : Nat} {v : Value} {s : List (List (List Int))} {ok : Nat → Prop} (h : fac1I w0 At ct ts g1 g2 v s W ok) (hb : Below W.heap.size W W1) : fac1I w0 At ct ts g1 g2 v s W1 ok := by
  obtain ⟨h1, h2, h3, h4, h5, h6⟩ := h
  exact ⟨below_step h1 hb, blk_below h2 hb, blk_below h3 hb, Kd.S_below h4 hb, fun q hq => ⟨(h5 q hq).1, (h5 q hq).2.1, Nat.lt_of_lt_of_le (h5 q hq).2.2 hb.size⟩, h6⟩
set_option maxHeartbeats 8000000 in
set_option maxRecDepth 100000 in
theorem fac1.calls (w0 : World) (At : Option Addr) (ct : Nat) (ts : List (List Int)) (g1 g2 : Nat) (v : Value) (hts : Kd.C (Kd.slice 3 (Kd.int .i64)) w0 At ts.length ts) (hct : ts.length ≤ ct)
    (k : Nat) (s s' : List (List (List Int))) (p : List Int) (A : Option Addr) (c : Nat) (w : World) (ok : Nat → Prop) (hI : fac1I w0 At ct ts g1 g2 v s w ok) (hp : ∀ W', Kept w W' ok → Kd.C (Kd.int .i64) W' A p.length p) (hc : p.length ≤ c) (h : fac1L k ts p s 0 = some s') :
    Calls Try.prog 139 #[.slice A p.length c, .pointer (some ⟨g1, 0, none⟩), .pointer (some ⟨g2, 0, none⟩)] w fun e w' => e = .returned (.tuple #[]) ∧ ∃ ok', fac1I w0 At ct ts g1 g2 v s' w' ok' ∧ (∀ q, ok' q → ok q ∨ w.heap.size ≤ q) ∧ Kept w w' ok := by
  have HTS := Az hts; have HCT := Az hct; have HIV := Az hI; have HP := Az hp; have HC0 := Az hc; have H' := Az h; have hcz0 : w.cell? ⟨g1, 0, none⟩ = some (.slice At ts.length ct) := (blk_cell hI.2.1 0).trans rfl; clear hts hct hI hp hc h
  go_enter Try.func139, Try.ntmps139
  go_wp2
  clear hcz0
  go_loopg [8] k (fun kq v8 w' => ∃ (i : Int) (cs : List (List (List Int))) (ok1 : Nat → Prop), v8 = .int .i64 i ∧ Aside0 (fac1L kq ts p cs i = some s') ∧ Aside0 (kq ≤ k) ∧ Aside0 (fac1I w0 At ct ts g1 g2 v cs w' ok1) ∧ Aside0 (∀ q, ok1 q → ok q ∨ w.heap.size ≤ q) ∧ Aside0 (Kept w w' ok))
  case atStart => exact ⟨(0), s, ok, rfl, H', ⟨Nat.le_refl _⟩, HIV, ⟨fun q h => Or.inl h⟩, ⟨Kept.refl w ok⟩⟩
  case round =>
    clear H' HIV; obtain ⟨i, cs, ok1, rfl, HA, HK1, HIV, HOK, HKP⟩ := hrel
    cases gk with
    | zero => exact absurd HA.out (by simp [fac1L])
    | succ k1 =>
      have H := HA.out; clear HA; simp only [fac1L] at H; obtain ⟨wB, hwB⟩ : ∃ W_ : World, W_ = wr := ⟨wr, rfl⟩; have HB : Aside0 (Below wB.heap.size wB wr) := ⟨by rw [hwB]; exact Below.refl _ _⟩; have HR0 : Aside0 (Kd.C (Kd.int .i64) wB A p.length p) := ⟨by rw [hwB]; exact HP.out wr HKP.out⟩; replace HIV : Aside0 (fac1I w0 At ct ts g1 g2 v cs wB ok1) := ⟨by rw [hwB]; exact HIV.out⟩; replace HKP : Aside0 (Kept w wB ok) := ⟨by rw [hwB]; exact HKP.out⟩
      by_cases c1 : i < (ts.length : Int)
      ·
        rw [if_pos c1] at H; have c1b0 := decide_eq_true c1
        by_cases c2 : 0 ≤ i
        ·
          rw [if_pos c2] at H; obtain ⟨t, A30, H⟩ := Option.bind_eq_some_iff.mp H; have A3 := Az A30; clear A30; obtain ⟨b, A40, H⟩ := Option.bind_eq_some_iff.mp H; have A4 := Az A40; clear A40; obtain ⟨ad, A5, c5, e5, hx5, hl5, hi5⟩ := at_S (Kd.C_below HTS.out HIV.out.1) i c2 c1
          cases e5
          have HR5 := Az hi5; have HC5 := Az hl5; clear hi5 hl5
          have hx5' : wr.cell? (ad.add i.toNat) = some (.slice A5 (rdS ts i).length c5) := by rw [← hwB]; exact hx5
          clear hx5 hwB; have p5 := eq_true c2; have q5 := eq_true c1
          cases b with
          | false =>
            rw [if_neg (by decide)] at H; have H' := Az H; clear H c1 c2
            go_wp2_with (first | (go_at_call 86; (with_reducible refine (impl_typeOf.calls k1 _ _ p t _ ?side1 ?side2 A3.out).mono ?_); (case side1 => exact Kd.C_below HR0.out (bU0 HB.out)); (case side2 => exact HC0.out); rintro e w1 ⟨v1, rfl, ho, hb⟩; obtain ⟨A1, d1, ev1⟩ := Kd.R_slice ho; subst ev1; have HO1 := Az ho; have n0_ := Az (below_step (bU0 HB.out) hb); clear HB; have HB := n0_; clear n0_ ho hb) | (go_at_call 105; (with_reducible refine (slices_Equal_int_int.calls k1 _ _ t _ _ (rdS ts i) false _ ?side1 ?side2 ?side3 ?side4 A4.out).mono ?_); (case side1 => exact (Kd.R_reads' HO1.out).2.2); (case side2 => exact (Kd.R_reads' HO1.out).2.1); (case side3 => exact Kd.C_below HR5.out (bU0 HB.out)); (case side4 => exact HC5.out); rintro e w' ⟨rfl, ⟨nd, rfl⟩⟩))
            (first | go_roundg k1 | (refine Handed.intro k1 ?measure ?_; rotate_left; go_step; (try simp only [add_plain]); (repeat apply Exists.intro); refine ⟨?rel, rfl⟩))
            case measure => have := HK1.out; omega
            case rel => exact ⟨(wrap64 (i + 1)), cs, ok1, rfl, H', ⟨by have := HK1.out; omega⟩, ⟨fac1I.below HIV.out (bU0 HB.out)⟩, HOK, ⟨Kept.below HKP.out (bU0 HB.out)⟩⟩
          | true =>
            rw [if_pos rfl] at H; obtain ⟨c6, A60, H⟩ := Option.bind_eq_some_iff.mp H; have A6 := Az A60; clear A60
            by_cases c7 : (cs.getD i.toNat []).length < 5864062014805
            ·
              rw [if_pos c7] at H; obtain ⟨hB1, hb1, hb2, hS1, hok1, hl1⟩ := HIV.out; obtain ⟨go, cap, ev, gb, glt, cells, hcells⟩ := Kd.S_form hS1 (by omega); subst ev; obtain ⟨oki, ce, hcl, hM, hcc, hoki, hH⟩ := Kd.S_lend (Kd.S_mono (ok' := fun q => ok1 q ∨ wB.heap.size ≤ q) hS1 (fun q hq => Or.inl hq)) ([] : List (List Int)) i c2 (by omega); obtain ⟨row, hrow⟩ : ∃ r_ : List (List Int), r_ = cs.getD i.toNat [] := ⟨_, rfl⟩; rw [← hrow] at hM c7 H; obtain ⟨vr, rfl, hR⟩ := hM; obtain ⟨Ar, cr, er⟩ := Kd.R_slice hR; subst er; have HCE : Aside0 (wB.cell? ⟨go, i.toNat, none⟩ = some (.slice Ar row.length cr)) := ⟨by have h_ := hcc 0 _ rfl; simpa [Kd.slice] using h_⟩; have HG2 : Aside0 (wB.cell? ⟨g2, 0, none⟩ = some (.slice (some ⟨go, 0, none⟩) cs.length cap)) := ⟨(blk_cell hb2 0).trans rfl⟩; have LG2 : Aside0 (g2 < wB.heap.size) := ⟨blk_lt hb2⟩; have LG1 : Aside0 (g1 < wB.heap.size) := ⟨blk_lt hb1⟩; have GB := Az gb; have GO1 : Aside0 (ok1 go) := ⟨(Kd.S_R hS1).1 go (by simp [Value.ownBlock])⟩; have HG1 := Az hb1; have HGB2 := Az hb2; have HOKI := Az hoki; have UU := Az hR; have HH := Az (Kd.H_widen hH); have HL1 := Az hl1; have OK1 := Az hok1; have HB0 := Az hB1
              have hq5 : i < (cs.length : Int) := by omega
              have q6 := eq_true hq5; clear hrow hcl hcc hH hR hoki hcells gb glt hS1 hok1 hl1 hb1 hb2 hB1; have H' := Az H; have LM7 := Az c7; clear H c1 c2 c7
              go_wp2_with (first | (go_at_call 86; (with_reducible refine (impl_typeOf.calls k1 _ _ p t _ ?side1 ?side2 A3.out).mono ?_); (case side1 => exact Kd.C_below HR0.out (bU0 HB.out)); (case side2 => exact HC0.out); rintro e w1 ⟨v1, rfl, ho, hb⟩; obtain ⟨A1, d1, ev1⟩ := Kd.R_slice ho; subst ev1; have HO1 := Az ho; have n0_ := Az (below_step (bU0 HB.out) hb); clear HB; have HB := n0_; clear n0_ ho hb) | (go_at_call 105; (with_reducible refine (slices_Equal_int_int.calls k1 _ _ t _ _ (rdS ts i) true _ ?side1 ?side2 ?side3 ?side4 A4.out).mono ?_); (case side1 => exact (Kd.R_reads' HO1.out).2.2); (case side2 => exact (Kd.R_reads' HO1.out).2.1); (case side3 => exact Kd.C_below HR5.out (bU0 HB.out)); (case side4 => exact HC5.out); rintro e w' ⟨rfl, ⟨nd, rfl⟩⟩))
              refine start_ (n := 12) (S := fun w' => w'.cell? ⟨g2, 0, none⟩ = some (.slice (some ⟨go, 0, none⟩) cs.length cap) ∧ w'.cell? ⟨go, i.toNat, none⟩ = some (.slice Ar row.length cr)) (ds := [11]) #[false, false, false, false, false, false, false, false, false, false, false, false] (by kernel_rfl) rfl rfl ⟨pw_cell_below (bU0 HB.out) HG2.out, pw_cell_below (bU0 HB.out) HCE.out⟩ (fun hHeld => ?_)
              refine pure_ (i := 1) (N := some 18) (v := ?_) (a' := ?_) #[false, true, false, false, false, false, false, false, false, false, false, false] rfl rfl (by kernel_rfl) (fun _ _ _ h => h) (Or.inl ⟨by rfl, ?_⟩) ?_ ?_
              rotate_left
              ·
               intro w'
               go_simp
               with_reducible rfl
              rotate_left
              ·
               simp only [Act.put, List.setIfInBounds_toArray, List.set_cons_zero, List.set_cons_succ, i64_w, i32_w]
               rfl
              refine pure_ (i := 3) (N := some 20) (v := ?_) (a' := ?_) #[false, true, false, true, false, false, false, false, false, false, false, false] rfl rfl (by kernel_rfl) (fun _ _ _ h => h) (Or.inl ⟨by rfl, ?_⟩) ?_ ?_
              rotate_left
              ·
               intro w'
               go_simp
               with_reducible rfl
              rotate_left
              ·
               simp only [Act.put, List.setIfInBounds_toArray, List.set_cons_zero, List.set_cons_succ, i64_w, i32_w]
               rfl
              refine pure_ (i := 6) (N := some 23) (v := ?_) (a' := ?_) #[false, true, false, true, false, false, true, false, false, false, false, false] rfl rfl (by kernel_rfl) (fun _ _ _ h => h) (Or.inl ⟨by rfl, ?_⟩) ?_ ?_
              rotate_left
              ·
               intro w'
               go_simp
               with_reducible rfl
              rotate_left
              ·
               simp only [Act.put, List.setIfInBounds_toArray, List.set_cons_zero, List.set_cons_succ, i64_w, i32_w]
               rfl
              refine take_ (i := 0) (N := some 17) (v := ?_) (a' := ?_) #[true, true, false, true, false, false, true, false, false, false, false, false] rfl rfl (by kernel_rfl) (fun _ _ _ h => h) (Or.inl ⟨by rfl, ?_⟩) hHeld ?_ ?_
              rotate_left
              ·
               intro w' s0
               obtain ⟨s0, s1⟩ := s0
               go_simp
               with_reducible rfl
              rotate_left
              ·
               simp only [Act.put, List.setIfInBounds_toArray, List.set_cons_zero, List.set_cons_succ, i64_w, i32_w]
               rfl
              refine take_ (i := 2) (N := some 19) (v := ?_) (a' := ?_) #[true, true, true, true, false, false, true, false, false, false, false, false] rfl rfl (by kernel_rfl) (fun _ _ _ h => h) (Or.inl ⟨by rfl, ?_⟩) hHeld ?_ ?_
              rotate_left
              ·
               intro w' s0
               obtain ⟨s0, s1⟩ := s0
               go_simp
               with_reducible rfl
              rotate_left
              ·
               simp only [Act.put, List.setIfInBounds_toArray, List.set_cons_zero, List.set_cons_succ, i64_w, i32_w]
               rfl
              refine pure_ (i := 4) (N := some 21) (v := ?_) (a' := ?_) #[true, true, true, true, true, false, true, false, false, false, false, false] rfl rfl (by kernel_rfl) (fun _ _ _ h => h) (Or.inl ⟨by rfl, ?_⟩) ?_ ?_
              rotate_left
              ·
               intro w'
               go_simp
               with_reducible rfl
              rotate_left
              ·
               simp only [Act.put, List.setIfInBounds_toArray, List.set_cons_zero, List.set_cons_succ, i64_w, i32_w]
               rfl
              refine take_ (i := 5) (N := some 22) (v := ?_) (a' := ?_) #[true, true, true, true, true, true, true, false, false, false, false, false] rfl rfl (by kernel_rfl) (fun _ _ _ h => h) (Or.inl ⟨by rfl, ?_⟩) hHeld ?_ ?_
              rotate_left
              ·
               intro w' s0
               obtain ⟨s0, s1⟩ := s0
               go_simp
               with_reducible rfl
              rotate_left
              ·
               simp only [Act.put, List.setIfInBounds_toArray, List.set_cons_zero, List.set_cons_succ, i64_w, i32_w]
               rfl
              refine one_ (i := 7) (N := some 24) #[true, true, true, true, true, true, true, true, false, false, false, false] rfl rfl (by kernel_rfl) (by decide) (fun K hK => ?_)
              refine goes_ Try.func68 (by kernel_rfl) rfl #[.slice A p.length c] (by rfl) rfl rfl (by (try simp only [List.map_toArray, List.map_cons, List.map_nil]); first | done | rfl | (simp only [List.length_drop, List.length_take]; rfl)) ?_
              with_reducible refine (slices_Clone_int_int.calls _ _ p c6 _ ?side1 ?side2 A6.out).mono ?_
              (case side1 => exact Kd.C_below HR0.out (bU0 HB.out))
              (case side2 => exact HC0.out)
              rintro e w3 ⟨v3, rfl, ho, hb⟩
              refine ⟨_, rfl, ?_⟩
              obtain ⟨A8, c8, ev3⟩ := Kd.R_slice ho; subst ev3; have HO3 := Az (Kd.R_lower ho (below_size (bU0 HB.out))); have n0_ := Az (below_step (bU0 HB.out) hb); clear HB; have HB := n0_; clear n0_ ho hb
              refine hK.out _ _ ⟨pw_cell_below (bU0 HB.out) HG2.out, pw_cell_below (bU0 HB.out) HCE.out⟩ (fun hHeld => ?_)
              clear hK K
              refine norm_ (a' := ?_) ?_ ?_
              rotate_left
              ·
               show Act.put _ (some 24) _ = _
               simp only [Act.put, List.setIfInBounds_toArray, List.set_cons_zero, List.set_cons_succ, i64_w, i32_w]
               rfl
              refine one_ (i := 8) (N := some 25) #[true, true, true, true, true, true, true, true, true, false, false, false] rfl rfl (by kernel_rfl) (by decide) (fun K hK => ?_)
              refine value_ (v := .slice (some ⟨w3.heap.size, 0, none⟩) 1 1) (w1 := w3.alloc (.cells #[.slice A8 c6.length c8] 23 (0, 0))) (by rfl) rfl (by first | (go_simp; done) | (go_simp; rfl)) ?_
              refine hK.out _ _ ⟨pw_cell_below (bU0 HB.out) HG2.out, pw_cell_below (bU0 HB.out) HCE.out⟩ (fun hHeld => ?_)
              clear hK K
              refine norm_ (a' := ?_) ?_ ?_
              rotate_left
              ·
               show Act.put _ (some 25) _ = _
               simp only [Act.put, List.setIfInBounds_toArray, List.set_cons_zero, List.set_cons_succ, i64_w, i32_w]
               rfl
              obtain ⟨y9, hy9⟩ : ∃ y_ : List (List Int), y_ = row ++ [c6] := ⟨_, rfl⟩; rw [← hy9] at H'; have Ny9 := Az hy9; clear hy9
              refine one_ (i := 9) (N := some 26) #[true, true, true, true, true, true, true, true, true, true, false, false] rfl rfl (by kernel_rfl) (by decide) (fun K hK => ?_)
              refine Kd.R_append_step (Kd.slice 3 (Kd.int .i64)) (w0 := w0) w0.heap.size (by rfl) (.tmp 22) (.tmp 25) 45 23 (.slice none 0 0) 24 rfl Try.underlying45 infoF23 rfl (by decide) (by omega) (.slice Ar row.length cr) row c6 [.slice A8 c6.length c8] (fun q => oki q ∨ (ok1 q ∨ wB.heap.size ≤ q) ∧ wB.heap.size ≤ q) (fun q => wB.heap.size ≤ q ∧ some q ≠ (.slice Ar row.length cr : Value).ownBlock) rfl rfl ?aP ?aQ ?aF ?aO ?aB ?aS ?aL ?_
              (case aP => exact Kd.M_row (Kd.R_lower (Kd.R_mono (Kd.R_bound HO3.out) (fun q hq => ⟨hq.2.1, fun e_ => by have := Kd.R_lt UU.out q e_.symm; have := hq.2.1; omega⟩)) HB0.out.size))
              (case aQ => exact fun q hq => ⟨Or.inr ⟨Or.inr hq.1, hq.1⟩, hq.2⟩)
              (case aF => exact fun q hq => Or.inr ⟨Or.inr (Nat.le_trans HB.out.size hq), Nat.le_trans HB.out.size hq⟩)
              (case aO => exact Kd.R_mono (Kd.R_below UU.out HB.out) (fun _ h_ => Or.inl h_))
              (case aB => exact below_step HB0.out HB.out)
              (case aS => exact (below_step HB0.out HB.out).size)
              (case aL => have := LM7.out; omega)
              intro v4 w4 ho hb hg hat
              rw [← Ny9.out] at ho; obtain ⟨A9, c9, ev4⟩ := Kd.R_slice ho; subst ev4; have HH4 := Az (Kd.H_grown (Kd.H_below HH.out HB.out) hg (fun q e_ => Or.inl (UU.out.1 q e_))); have HK4 : Aside0 (Kept wB w4 oki) := ⟨Kept.of_grown hg (Kept.of_below HB.out _) (fun q e_ => Or.inl (UU.out.1 q e_))⟩; have HO4 := Az ho; have HB4 := Az hb; clear ho hb hg hat HB HH HO1 HO3; have NG2 : Aside0 (¬ oki g2) := ⟨fun h_ => ((HOKI.out _ h_).1).elim (fun h2 => (OK1.out _ h2).2.1 rfl) (fun h2 => by have := LG2.out; omega)⟩; have NG1 : Aside0 (¬ oki g1) := ⟨fun h_ => ((HOKI.out _ h_).1).elim (fun h2 => (OK1.out _ h2).1 rfl) (fun h2 => by have := LG1.out; omega)⟩; have NGO : Aside0 (¬ oki go) := ⟨fun h_ => (HOKI.out _ h_).2 rfl⟩
              refine hK.out _ _ ⟨cell_kept HG2.out HK4.out NG2.out, cell_kept HCE.out HK4.out NGO.out⟩ (fun hHeld => ?_)
              clear hK K
              refine norm_ (a' := ?_) ?_ ?_
              rotate_left
              ·
               show Act.put _ (some 26) _ = _
               simp only [Act.put, List.setIfInBounds_toArray, List.set_cons_zero, List.set_cons_succ, i64_w, i32_w]
               rfl
              refine pure_ (i := 10) (N := some 27) (v := ?_) (a' := ?_) #[true, true, true, true, true, true, true, true, true, true, true, false] rfl rfl (by kernel_rfl) (fun _ _ _ h => h) (Or.inl ⟨by rfl, ?_⟩) ?_ ?_
              rotate_left
              ·
               intro w'
               go_simp
               with_reducible rfl
              rotate_left
              ·
               simp only [Act.put, List.setIfInBounds_toArray, List.set_cons_zero, List.set_cons_succ, i64_w, i32_w]
               rfl
              obtain ⟨hx5, hf5⟩ := Kd.H_at HH4.out (of_eq_true p5) (of_eq_true q6); have hx6 := hx5 0 _ rfl; have hf6 := hf5 0; rw [show (Kd.slice 23 (Kd.slice 3 (Kd.int .i64))).sz = 1 from rfl, Nat.mul_one, Nat.add_zero] at hx6 hf6; clear hx5 hf5; have HP5 := Az (Kd.S_seg0 HH4.out (of_eq_true p5) (of_eq_true q6) (seg := [.slice A9 y9.length c9]) (j := 0) (show 1 ≤ 1 from by decide) (x' := y9) (Kd.M_row HO4.out) (fun _ hk => hk))
              refine last_ (i := 11) (N := none) #[true, true, true, true, true, true, true, true, true, true, true, true] rfl rfl (by kernel_rfl) (by decide) (fun K hK => ?_)
              refine skip_ (w1 := w4.setCell ⟨go, i.toNat, none⟩ (.slice A9 y9.length c9)) (by rfl) rfl ?_ ?_
              ·
               first | (go_simp; done) | (go_simp; rfl)
              refine hK.out _ _ ?_
              clear hK K
              refine done_ (by kernel_rfl) ?_
              have HS5 : Aside0 (Kd.S (Kd.slice 23 (Kd.slice 3 (Kd.int .i64))) 45 (w4.setCell ⟨go, i.toNat, none⟩ (.slice A9 y9.length c9)) w0.heap.size (fun q => ok1 q ∨ wB.heap.size ≤ q) (.slice (some ⟨go, 0, none⟩) cs.length cap) (cs.set i.toNat y9)) := ⟨by have h_ := HP5.out.1; rw [show (Kd.slice 23 (Kd.slice 3 (Kd.int .i64))).sz = 1 from rfl, Nat.mul_one, Nat.add_zero] at h_; exact h_⟩; have HK5 : Aside0 (Kept wB (w4.setCell ⟨go, i.toNat, none⟩ (.slice A9 y9.length c9)) (fun q => oki q ∨ q = go)) := ⟨Kept.setCell (S := fun q => oki q ∨ q = go) (p := ⟨go, i.toNat, none⟩) (Kept.mono HK4.out (fun q hq => Or.inl hq)) (Or.inl (Or.inr rfl)) _⟩; have HB5 : Aside0 (Below w0.heap.size w0 (w4.setCell ⟨go, i.toNat, none⟩ (.slice A9 y9.length c9))) := ⟨below_set HB4.out GB.out⟩; clear HP5 HH4 HO4 hx6 hf6 hHeld
              generalize w4.setCell ⟨go, i.toNat, none⟩ (.slice A9 y9.length c9) = w5 at HS5 HK5 HB5 ⊢
              try go_wp2
              (first | go_roundg k1 | (refine Handed.intro k1 ?measure ?_; rotate_left; go_step; (try simp only [add_plain]); (repeat apply Exists.intro); refine ⟨?rel, rfl⟩))
              case measure => have := HK1.out; omega
              case rel =>
               refine ⟨(wrap64 (i + 1)), cs.set i.toNat y9, (fun q => (ok1 q ∨ wB.heap.size ≤ q) ∧ q < w5.heap.size), rfl, H', ⟨by have := HK1.out; omega⟩, ⟨HB5.out, blk_kept HG1.out HK5.out ?_, blk_kept HGB2.out HK5.out ?_, Kd.S_mono (Kd.S_bound HS5.out) (fun q hq => ⟨hq.1, hq.2.2.1⟩), fun q hq => ⟨?_, ?_, hq.2⟩, by rw [List.length_set]; exact HL1.out⟩, ⟨fun q hq => hq.1.elim (HOK.out q) (fun h2 => Or.inr (Nat.le_trans HKP.out.1 h2))⟩, ⟨Kept.then_ HKP.out HK5.out (fun q hq => hq.elim (fun h2 => (HOKI.out q h2).1.elim (HOK.out q) (fun h3 => Or.inr (Nat.le_trans HKP.out.1 h3))) (fun h2 => by rw [h2]; exact HOK.out _ GO1.out))⟩⟩
               ·
                 exact fun h2 => h2.elim NG1.out (fun h3 => (OK1.out _ GO1.out).1 h3.symm)
               ·
                 exact fun h2 => h2.elim NG2.out (fun h3 => (OK1.out _ GO1.out).2.1 h3.symm)
               ·
                 exact hq.1.elim (fun h2 => (OK1.out _ h2).1) (fun h2 h3 => by have := LG1.out; omega)
               ·
                 exact hq.1.elim (fun h2 => (OK1.out _ h2).2.1) (fun h2 h3 => by have := LG2.out; omega)
            ·
              rw [if_neg c7] at H
              exact absurd H (by simp)
        ·
          rw [if_neg c2] at H
          exact absurd H (by simp)
      ·
        rw [if_neg c1] at H; have c1b0 := decide_eq_false c1; clear c1; obtain rfl := Option.some.inj H
        go_wp2
        first | go_end0 | ((try simp only [Exit.inBlock, Exit.then]); refine bodyPost_ret (results_none rfl _ _ _) rfl ?_)
        exact ⟨rfl, ok1, fac1I.below HIV.out (bU0 HB.out), HOK.out, Kept.below HKP.out (bU0 HB.out)⟩
set_option maxHeartbeats 8000000 in
set_option maxRecDepth 100000 in
theorem clone2.calls (A0 : Option Addr) (c0 : Nat) (l0 : List (List Int)) (w : World) (foot : Nat → Prop) (hr0 : Kd.F (Kd.slice 3 (Kd.int .i64)) w foot A0 l0.length l0) (hc0 : l0.length ≤ c0) (h : l0.length < 5864062014805) :
    Calls Try.prog 141 #[.slice A0 l0.length c0] w fun e w' => ∃ v0_ : Value, e = .returned (v0_) ∧ Kd.N (Kd.slice 3 (Kd.int .i64)) 23 w' w.heap.size (fun q => (foot q ∧ q < w.heap.size) ∨ w.heap.size ≤ q) v0_ l0 ∧ Below w.heap.size w w' := by
  have HR0 := Az (Kd.F_bound hr0); have HC0 := Az hc0; have LM0 := Az h
  have hnil : A0 = none → l0 = [] := by
    intro e
    have h' := (Kd.F_now hr0).2.2
    by_cases hn : 0 < l0.length
    ·
      obtain ⟨ad, e2, _⟩ := h' hn; rw [e] at e2
      cases e2
    ·
      exact List.eq_nil_of_length_eq_zero (by omega)
  clear hr0 hc0 h; have HB := Az (Below.refl w.heap.size w)
  cases A0 with
  | none =>
    obtain rfl := hnil rfl
    have he : ∀ w : World, (binOp .eql 45 (.slice none 0 c0) (.slice none 0 0)).run Try.prog w = .ok (.bool true) w := fun _ => rfl
    go_enter Try.func141, Try.ntmps141
    go_wp2
    go_ret
    exact ⟨_, rfl, Kd.N_nil _ _ _ _ _, HB.out⟩
  | some ad =>
    clear hnil
    have he : ∀ w : World, (binOp .eql 45 (.slice (some ad) l0.length c0) (.slice none 0 0)).run Try.prog w = .ok (.bool false) w := fun _ => rfl
    go_enter Try.func141, Try.ntmps141
    go_wp2_with (first | ((with_reducible refine gate_dst (N := 5) rfl ?_); refine Kd.N_lit (Kd.slice 3 (Kd.int .i64)) (w0 := w) w.heap.size 23 ?hg (N' := 5) ?hd (xs := ([] : List (List Int))) (inner := []) (ok := fun q => (foot q ∧ q < w.heap.size) ∨ w.heap.size ≤ q) (okp := fun _ => False) ?hr ?hp (fun _ hk => hk.elim) (Or.inr (below_size (bU0 HB.out))) (bU0 HB.out) (below_size (bU0 HB.out)) (by simp) ?_; (case hd => rfl); (case hg => rfl); (case hr => first | (go_simp; done) | (go_simp; rfl)); (case hp => exact (Reps.none _ _)); intro v189 w3 ho hb hg_ hnew_; have n0_ := Az hb; have n1_ := Az ho; have n2_ := Az (Kd.N_base ho); clear HB hg_ hnew_ ho hb; have HB := n0_; have HO := n1_; have HN := n2_; clear n0_ n1_ n2_) | ((with_reducible refine gate_builtin (b := .append) (xs := #[.tmp 5, .tmp 6]) rfl ?_); at_builtin; refine Kd.N_append_rows (Kd.slice 3 (Kd.int .i64)) (w0 := w) w.heap.size rfl (.tmp 5) (.tmp 6) 45 23 (.slice none 0 0) 24 rfl Try.underlying45 infoF23 rfl (by decide) (by omega) v189 [] l0 _ _ _ (fun q => (foot q ∧ q < w.heap.size) ∨ w.heap.size ≤ q) (fun q => foot q ∧ q < w.heap.size) rfl rfl ?aO ?aR ?aP ?aF ?aB ?aS ?aL ?_; (case aR => exact Kd.F_below HR0.out (bU0 HB.out)); (case aO => exact HO.out); (case aP => exact fun q hq => ⟨Or.inl hq, fun e_ => by have := HN.out q e_.symm; have := hq.2; omega⟩); (case aF => exact fun q hq => Or.inr (Nat.le_trans (below_size (bU0 HB.out)) hq)); (case aB => exact (bU0 HB.out)); (case aS => exact below_size (bU0 HB.out)); (case aL => have := LM0.out; simp only [List.length_nil]; omega); intro v192 w5 ho hb hg hat; have n0_ := Az (hb); have n1_ := Az (ho); clear HB HO ho hb hg hat; have HB := n0_; have HO := n1_; clear n0_ n1_))
    go_ret
    exact ⟨_, rfl, by simpa using HO.out, HB.out⟩
theorem F_at1 {α : Type} {d : Kd α} {e : Nat} {W : World} {ok : Nat → Prop} {A : Option Addr} {n : Nat} {xs : List (List α)} (h : Kd.F (Kd.slice e d) W ok A n xs) (i : Int) (h0 : 0 ≤ i) (h1 : i < n) : ∃ ad A1 c1, A = some ad ∧ W.cell? (ad.add i.toNat) = some (.slice A1 (xs.getD i.toNat []).length c1) ∧ (xs.getD i.toNat []).length ≤ c1 ∧ Kd.F d W ok A1 (xs.getD i.toNat []).length (xs.getD i.toNat []) := by
  obtain ⟨ad, c, e, hcl, hK, hc, _⟩ := Kd.F_get h ([] : List α) i h0 h1; obtain ⟨A1, c1, rfl, hl, hF⟩ := Kd.FK_slice_open hK
  exact ⟨ad, A1, c1, e, by have hq := hc 0 _ rfl; simpa [Kd.slice] using hq, hl, hF⟩
theorem F_keep1 {α : Type} {d : Kd α} {W W1 : World} {ok ok1 : Nat → Prop} {A : Option Addr} {n : Nat} {xs : List α} (h : Kd.F d W (fun q => ¬ ok q) A n xs) (hk : Kept W W1 ok) (hn : ∀ q, ok1 q → ok q ∨ W.heap.size ≤ q) : Kd.F d W1 (fun q => ¬ ok1 q) A n xs :=
  Kd.F_mono (Kd.F_kept (Kd.F_bound h) hk (fun q hq => hq.1)) (fun q hq h1 => (hn q h1).elim hq.1 (fun h2 => by have := hq.2; omega))
theorem goesVL_ {P : Program} {ops : Array Oper} {Q : Exit → Act → World → Prop} {rest : List Oper} {oi : Oper} {a : Act} {w : World} (N : Option Tmp) (hd : oi.dst = N) (hg : oi.guard = none) {f : FuncId} {fn : Func} {xs : Array Operand} {ts : Array TypeId} {cp : Array Value} {op : Operand} (hf : P.funcs[f]? = some fn) (hname : (fn.name == "runtime.NumGoroutine") = false) (hb : fn.body.isSome = true) (args : Array Value)
    (hop : oi.op = .call { callee := .value op, args := xs, argTypes := ts }) (hv : a.eval op = .func (.func f) #[] cp) (hargs : xs.map a.eval ++ cp = args)
    (h : Calls P f args w fun e w' => ∃ v, e = .returned v ∧ wpList P ops Q rest (a.put N v) w') : wpList P ops Q (oi :: rest) a w := by
  refine wpList_plain hg fun K hK => ?_
  have he := enters_ hf hname hb args w
  have hrun : (execOp a.eval oi).run P w = .ok (.enter f args) w := by
    unfold execOp
    simp [hop, resolve, Deferred.ofValue, invoke, hv, hargs, he]
  unfold Oper.wp
  rw [hrun, Oper.upon_enter]
  refine h.mono fun e w'' hh => ?_
  obtain ⟨v, rfl, hk⟩ := hh; subst hd
  exact hK _ _ hk
mutual
def facG {σ : Type} (step : Nat → σ → List (List Int) → Option σ) (ts : List (List Int)) (n : Int) (cs : List (List (List Int))) : Nat → σ → List (List Int) → List Int → Option σ
  | 0, _, _, _ => none
  | k + 1, s, l, p => if (l.length : Int) = (ts.length : Int) then ((impl_still.f k n).bind fun t => ((slices_Equal_int_int.f k p t).bind fun b => (if b = true then step k s l else some s))) else (if (l.length : Int) < (cs.length : Int) then facL step ts n cs k s l p (cs.getD l.length []) 0 else none)
def facL {σ : Type} (step : Nat → σ → List (List Int) → Option σ) (ts : List (List Int)) (n : Int) (cs : List (List (List Int))) : Nat → σ → List (List Int) → List Int → List (List Int) → Int → Option σ
  | 0, _, _, _, _, _ => none
  | k + 1, s, l, p, row, i => if i < (row.length : Int) then (if 0 ≤ i then (if l.length < 5864062014805 then ((impl_mul.f k p (rdS row i)).bind fun q => ((facG step ts n cs k s (l ++ [rdS row i]) q).bind fun s' => facL step ts n cs k s' l p row (wrap64 (i + 1)))) else none) else none) else some s
end
set_option maxHeartbeats 8000000 in
set_option maxRecDepth 100000 in
theorem fac2.calls {σ : Type} (step : Nat → σ → List (List Int) → Option σ) (Inv : σ → World → (Nat → Prop) → Prop) (TF : Nat) (fnT : Func) (hfT : Try.prog.funcs[TF]? = some fnT) (hnT : (fnT.name == "runtime.NumGoroutine") = false) (hbT : fnT.body.isSome = true) (gm : Nat)
  (hI : ∀ s W W' ok, Inv s W ok → Below W.heap.size W W' → Inv s W' ok) (hL : ∀ s W ok q, Inv s W ok → ok q → q < W.heap.size)
  (hT : ∀ (k : Nat) (s s' : σ) (l : List (List Int)) (A : Option Addr) (c : Nat) (W : World) (ok : Nat → Prop), Inv s W ok → Kd.F (Kd.slice 3 (Kd.int .i64)) W (fun q => ¬ ok q) A l.length l → l.length ≤ c → step k s l = some s' → Calls Try.prog TF #[.slice A l.length c, .pointer (some ⟨gm, 0, none⟩)] W fun e w' => e = .returned (.tuple #[]) ∧ ∃ ok', Inv s' w' ok' ∧ (∀ q, ok' q → ok q ∨ W.heap.size ≤ q) ∧ Kept W w' ok)
  (gt gn gl gc gy : Nat) (At : Option Addr) (ct : Nat) (ts : List (List Int)) (n : Int) (Ac : Option Addr) (cc : Nat) (cs : List (List (List Int))) :
  ∀ (k : Nat) (s s' : σ) (A0 : Option Addr) (c0 : Nat) (l : List (List Int)) (A1 : Option Addr) (c1 : Nat) (p : List Int) (w : World) (ok : Nat → Prop), Inv s w ok → ¬ ok gt → ¬ ok gn → ¬ ok gl → ¬ ok gc → ¬ ok gy → w.heap[gt]? = some (.cells #[.slice At ts.length ct] 45 (0, 0)) → w.heap[gn]? = some (.cells #[.int .i64 n] 3 (0, 0)) → w.heap[gl]? = some (.cells #[.func (.func TF) #[] #[.pointer (some ⟨gm, 0, none⟩)]] 76 (0, 0)) → w.heap[gc]? = some (.cells #[.slice Ac cs.length cc] 98 (0, 0)) → w.heap[gy]? = some (.cells #[.func (.func 140) #[] #[.pointer (some ⟨gt, 0, none⟩), .pointer (some ⟨gn, 0, none⟩), .pointer (some ⟨gl, 0, none⟩), .pointer (some ⟨gc, 0, none⟩), .pointer (some ⟨gy, 0, none⟩)]] 100 (0, 0)) → Kd.F (Kd.slice 3 (Kd.int .i64)) w (fun q => ¬ ok q) A0 l.length l → l.length ≤ c0 → Kd.F (Kd.int .i64) w (fun q => ¬ ok q) A1 p.length p → p.length ≤ c1 → Kd.F (Kd.slice 23 (Kd.slice 3 (Kd.int .i64))) w (fun q => ¬ ok q) Ac cs.length cs → facG step ts n cs k s l p = some s' →
  Calls Try.prog 140 #[.slice A0 l.length c0, .slice A1 p.length c1, .pointer (some ⟨gt, 0, none⟩), .pointer (some ⟨gn, 0, none⟩), .pointer (some ⟨gl, 0, none⟩), .pointer (some ⟨gc, 0, none⟩), .pointer (some ⟨gy, 0, none⟩)] w fun e w' => e = .returned (.tuple #[]) ∧ ∃ ok', Inv s' w' ok' ∧ (∀ q, ok' q → ok q ∨ w.heap.size ≤ q) ∧ Kept w w' ok := by
  intro k
  induction k using Nat.strongRecOn with
  | ind k ih =>
  intro s s' A0 c0 l A1 c1 p w ok hInv ht_ hn_ hl_ hc_ hy_ bt_ bn_ bl_ bc_ by_ hF0 hc0 hF1 hc1 hFC h
  cases k with
  | zero => simp [facG] at h
  | succ k =>
  simp only [facG] at h; have IH := Az ih; have HIV := Az hInv; have NT := Az ht_; have BT0 := Az bt_; have NN := Az hn_; have BN0 := Az bn_; have NL := Az hl_; have BL0 := Az bl_; have NC := Az hc_; have BC0 := Az bc_; have NY := Az hy_; have BY0 := Az by_; have HF0 := Az hF0; have HC0 := Az hc0; have HF1 := Az hF1; have HC1 := Az hc1; have HFC := Az hFC; have HT := Az hT; have HI := Az hI; have HL := Az hL; have FTF := Az hfT; have HB := Az (Below.refl w.heap.size w); clear ih hInv ht_ hn_ hl_ hc_ hy_ bt_ bn_ bl_ bc_ by_ hF0 hc0 hF1 hc1 hFC hT hI hL hfT; have hcz0 : w.cell? ⟨gt, 0, none⟩ = some (.slice At ts.length ct) := (blk_cell BT0.out 0).trans rfl
  by_cases c5 : (l.length : Int) = (ts.length : Int)
  ·
    rw [if_pos c5] at h; have c5b0 := beq_iff_eq.mpr c5; clear c5; obtain ⟨t, A30, h⟩ := Option.bind_eq_some_iff.mp h; have A3 := Az A30; obtain ⟨b, A40, h⟩ := Option.bind_eq_some_iff.mp h; have A4 := Az A40; clear A30 A40; have hcz1 : w.cell? ⟨gn, 0, none⟩ = some (.int .i64 n) := (blk_cell BN0.out 0).trans rfl
    cases b with
    | true =>
      rw [if_pos rfl] at h; have H' := Az h; clear h
      go_enter Try.func140, Try.ntmps140
      go_wp2_with (first | (go_at_call 104; (with_reducible refine (impl_still.calls k _ t _ A3.out).mono ?_); rintro e w1 ⟨v1, rfl, ho, hb⟩; obtain ⟨A3_, d3_, ev1⟩ := Kd.R_slice ho; subst ev1; have HO1 := Az ho; have n0_ := Az (below_step (bU0 HB.out) hb); clear HB; have HB := n0_; clear n0_ ho hb hcz0 hcz1; have hcz2 : w1.cell? ⟨gl, 0, none⟩ = some (.func (.func TF) #[] #[.pointer (some ⟨gm, 0, none⟩)]) := (blk_cell (blk_below BL0.out HB.out) 0).trans rfl) | (go_at_call 105; (with_reducible refine (slices_Equal_int_int.calls k _ _ p _ _ t true _ ?side1 ?side2 ?side3 ?side4 A4.out).mono ?_); (case side1 => exact Kd.C_below (Kd.F_now HF1.out) (bU0 HB.out)); (case side2 => exact HC1.out); (case side3 => exact (Kd.R_reads' HO1.out).2.2); (case side4 => exact (Kd.R_reads' HO1.out).2.1); rintro e w' ⟨rfl, ⟨nd, rfl⟩⟩) | ((with_reducible refine gate_dst (N := 22) rfl ?_); refine goesVL_ (some 22) rfl rfl FTF.out hnT hbT #[.slice A0 l.length c0, .pointer (some ⟨gm, 0, none⟩)] rfl rfl (by first | rfl | (simp; done) | (simp; rfl)) ?_; refine (HT.out k s s' l A0 c0 _ ok (HI.out _ _ _ _ HIV.out (bU0 HB.out)) (Kd.F_below HF0.out (bU0 HB.out)) HC0.out H'.out).mono ?_; rintro e w2 ⟨rfl, ok', i1, i2, i3⟩; refine ⟨_, rfl, ?_⟩; have R1 := Az i1; have R2 := Az i2; have R3 := Az i3; clear i1 i2 i3))
      first | go_end0 | ((try simp only [Exit.inBlock, Exit.then]); refine bodyPost_ret (results_none rfl _ _ _) rfl ?_)
      exact ⟨rfl, ok', R1.out, fun q hq => (R2.out q hq).imp id (fun h2 => Nat.le_trans (below_size (bU0 HB.out)) h2), Kept.then_ (Kept.of_below (bU0 HB.out) ok) R3.out (fun q hq => Or.inl hq)⟩
    | false =>
      rw [if_neg (by decide)] at h; obtain rfl := Option.some.inj h; clear h
      go_enter Try.func140, Try.ntmps140
      go_wp2_with (first | (go_at_call 104; (with_reducible refine (impl_still.calls k _ t _ A3.out).mono ?_); rintro e w1 ⟨v1, rfl, ho, hb⟩; obtain ⟨A3_, d3_, ev1⟩ := Kd.R_slice ho; subst ev1; have HO1 := Az ho; have n0_ := Az (below_step (bU0 HB.out) hb); clear HB; have HB := n0_; clear n0_ ho hb hcz0 hcz1; have hcz2 : w1.cell? ⟨gl, 0, none⟩ = some (.func (.func TF) #[] #[.pointer (some ⟨gm, 0, none⟩)]) := (blk_cell (blk_below BL0.out HB.out) 0).trans rfl) | (go_at_call 105; (with_reducible refine (slices_Equal_int_int.calls k _ _ p _ _ t false _ ?side1 ?side2 ?side3 ?side4 A4.out).mono ?_); (case side1 => exact Kd.C_below (Kd.F_now HF1.out) (bU0 HB.out)); (case side2 => exact HC1.out); (case side3 => exact (Kd.R_reads' HO1.out).2.2); (case side4 => exact (Kd.R_reads' HO1.out).2.1); rintro e w' ⟨rfl, ⟨nd, rfl⟩⟩))
      first | go_end0 | ((try simp only [Exit.inBlock, Exit.then]); refine bodyPost_ret (results_none rfl _ _ _) rfl ?_)
      exact ⟨rfl, ok, HI.out _ _ _ _ HIV.out (bU0 HB.out), fun q hq => Or.inl hq, Kept.of_below (bU0 HB.out) ok⟩
  ·
    rw [if_neg c5] at h; have c5b0 := beq_eq_false_iff_ne.mpr c5; clear c5
    by_cases c6 : (l.length : Int) < (cs.length : Int)
    ·
      rw [if_pos c6] at h; have H' := Az h; clear h; obtain ⟨ad, Ar, cr, eA, hx6, hl6, hF6⟩ := F_at1 HFC.out (l.length : Int) (by omega) c6; subst eA; simp only [Int.toNat_natCast] at hx6 hl6 hF6; obtain ⟨row, hrow⟩ : ∃ r_ : List (List Int), r_ = cs.getD l.length [] := ⟨_, rfl⟩; rw [← hrow] at hx6 hl6 hF6 H'; clear hrow; have HR6 := Az hF6; have HC6 := Az hl6; have hcz3 : w.cell? ⟨gc, 0, none⟩ = some (.slice (some ad) cs.length cc) := (blk_cell BC0.out 0).trans rfl; have q6 := eq_true c6; have q7 : (l.length < cs.length) = True := eq_true (by omega); clear hF6 hl6 c6
      go_enter Try.func140, Try.ntmps140
      go_wp2
      go_loopg [29] k (fun kq v29 w' => ∃ (i : Int) (s1 : σ) (ok1 : Nat → Prop), v29 = .int .i64 i ∧ Aside0 (facL step ts n cs kq s1 l p row i = some s') ∧ Aside0 (kq ≤ k) ∧ Aside0 (Inv s1 w' ok1) ∧ Aside0 (∀ q, ok1 q → ok q ∨ w.heap.size ≤ q) ∧ Aside0 (Kept w w' ok))
      case atStart => exact ⟨(0), s, ok, rfl, H', ⟨Nat.le_refl _⟩, HIV, ⟨fun q h => Or.inl h⟩, ⟨Kept.refl w ok⟩⟩
      case round =>
        clear H' HIV hcz0 hcz3 hx6 HB; obtain ⟨i, s1, ok1, rfl, HA, HK1, HIV, HOK, HKP⟩ := hrel
        cases gk with
        | zero => exact absurd HA.out (by simp [facL])
        | succ k1 =>
          have H := HA.out; clear HA; simp only [facL] at H; obtain ⟨wB, hwB⟩ : ∃ W_ : World, W_ = wr := ⟨wr, rfl⟩; have HB : Aside0 (Below wB.heap.size wB wr) := ⟨by rw [hwB]; exact Below.refl _ _⟩; have BT : Aside0 (wB.heap[gt]? = some (.cells #[.slice At ts.length ct] 45 (0, 0))) := ⟨blk_kept BT0.out (by rw [hwB]; exact HKP.out) NT.out⟩; have BN : Aside0 (wB.heap[gn]? = some (.cells #[.int .i64 n] 3 (0, 0))) := ⟨blk_kept BN0.out (by rw [hwB]; exact HKP.out) NN.out⟩; have BL : Aside0 (wB.heap[gl]? = some (.cells #[.func (.func TF) #[] #[.pointer (some ⟨gm, 0, none⟩)]] 76 (0, 0))) := ⟨blk_kept BL0.out (by rw [hwB]; exact HKP.out) NL.out⟩; have BC : Aside0 (wB.heap[gc]? = some (.cells #[.slice (some ad) cs.length cc] 98 (0, 0))) := ⟨blk_kept BC0.out (by rw [hwB]; exact HKP.out) NC.out⟩; have BY : Aside0 (wB.heap[gy]? = some (.cells #[.func (.func 140) #[] #[.pointer (some ⟨gt, 0, none⟩), .pointer (some ⟨gn, 0, none⟩), .pointer (some ⟨gl, 0, none⟩), .pointer (some ⟨gc, 0, none⟩), .pointer (some ⟨gy, 0, none⟩)]] 100 (0, 0))) := ⟨blk_kept BY0.out (by rw [hwB]; exact HKP.out) NY.out⟩; have HF0' : Aside0 (Kd.F (Kd.slice 3 (Kd.int .i64)) wB (fun q => ¬ ok1 q) A0 l.length l) := ⟨by rw [hwB]; exact F_keep1 HF0.out HKP.out HOK.out⟩; have HF1' : Aside0 (Kd.F (Kd.int .i64) wB (fun q => ¬ ok1 q) A1 p.length p) := ⟨by rw [hwB]; exact F_keep1 HF1.out HKP.out HOK.out⟩; have HFC' : Aside0 (Kd.F (Kd.slice 23 (Kd.slice 3 (Kd.int .i64))) wB (fun q => ¬ ok1 q) (some ad) cs.length cs) := ⟨by rw [hwB]; exact F_keep1 HFC.out HKP.out HOK.out⟩; have HR6' : Aside0 (Kd.F (Kd.slice 3 (Kd.int .i64)) wB (fun q => ¬ ok1 q) Ar row.length row) := ⟨by rw [hwB]; exact F_keep1 HR6.out HKP.out HOK.out⟩; replace HIV : Aside0 (Inv s1 wB ok1) := ⟨by rw [hwB]; exact HIV.out⟩; replace HKP : Aside0 (Kept w wB ok) := ⟨by rw [hwB]; exact HKP.out⟩
          have hnew : ∀ g, g < w.heap.size → ¬ ok g → ¬ ok1 g := fun g hg hn hq => (HOK.out g hq).elim hn (fun h_ => by omega)
          have NT1 := Az (hnew gt (blk_lt BT0.out) NT.out); have NN1 := Az (hnew gn (blk_lt BN0.out) NN.out); have NL1 := Az (hnew gl (blk_lt BL0.out) NL.out); have NC1 := Az (hnew gc (blk_lt BC0.out) NC.out); have NY1 := Az (hnew gy (blk_lt BY0.out) NY.out); clear hnew
          by_cases c7 : i < (row.length : Int)
          ·
            rw [if_pos c7] at H; have c7b0 := decide_eq_true c7
            by_cases c8 : 0 ≤ i
            ·
              rw [if_pos c8] at H
              by_cases c9 : l.length < 5864062014805
              ·
                rw [if_pos c9] at H; obtain ⟨q_, A100, H⟩ := Option.bind_eq_some_iff.mp H; have A10 := Az A100; clear A100; obtain ⟨s2, A110, H⟩ := Option.bind_eq_some_iff.mp H; have A11 := Az A110; clear A110; have H' := Az H; have LM9 := Az c9; obtain ⟨adr, A5, c5, e5, hx5, hl5, hi5⟩ := F_at1 HR6'.out i c8 c7; subst e5; rw [show row.getD i.toNat [] = rdS row i from rfl] at hx5 hl5 hi5; obtain ⟨x5, hx5_⟩ : ∃ x_ : List Int, x_ = rdS row i := ⟨_, rfl⟩; rw [← hx5_] at hx5 hl5 hi5 A10 A11; have HR5 := Az hi5; have HC5 := Az hl5
                have hx5' : wr.cell? (adr.add i.toNat) = some (.slice A5 x5.length c5) := by rw [← hwB]; exact hx5
                have p5 := eq_true c8; have q5 := eq_true c7; clear H c7 c8 c9 hx5 hl5 hi5 hwB hx5_
                go_wp2
                refine start_ (n := 10) (S := fun w' => w'.cell? ⟨gy, 0, none⟩ = some (.func (.func 140) #[] #[.pointer (some ⟨gt, 0, none⟩), .pointer (some ⟨gn, 0, none⟩), .pointer (some ⟨gl, 0, none⟩), .pointer (some ⟨gc, 0, none⟩), .pointer (some ⟨gy, 0, none⟩)])) (ds := []) #[false, false, false, false, false, false, false, false, false, false] (by kernel_rfl) rfl rfl (pw_cell_below (bU0 HB.out) ((blk_cell BY.out 0).trans rfl)) (fun hHeld => ?_)
                refine pure_ (i := 1) (N := some 34) (v := ?_) (a' := ?_) #[false, true, false, false, false, false, false, false, false, false] rfl rfl (by kernel_rfl) (fun _ _ _ h => h) (Or.inl ⟨by rfl, ?_⟩) ?_ ?_
                rotate_left
                ·
                 intro w'
                 go_simp
                 with_reducible rfl
                rotate_left
                ·
                 simp only [Act.put, List.setIfInBounds_toArray, List.set_cons_zero, List.set_cons_succ, i64_w, i32_w]
                 rfl
                refine pure_ (i := 3) (N := some 36) (v := ?_) (a' := ?_) #[false, true, false, true, false, false, false, false, false, false] rfl rfl (by kernel_rfl) (fun _ _ _ h => h) (Or.inl ⟨by rfl, ?_⟩) ?_ ?_
                rotate_left
                ·
                 intro w'
                 go_simp
                 with_reducible rfl
                rotate_left
                ·
                 simp only [Act.put, List.setIfInBounds_toArray, List.set_cons_zero, List.set_cons_succ, i64_w, i32_w]
                 rfl
                refine pure_ (i := 6) (N := some 39) (v := ?_) (a' := ?_) #[false, true, false, true, false, false, true, false, false, false] rfl rfl (by kernel_rfl) (fun _ _ _ h => h) (Or.inl ⟨by rfl, ?_⟩) ?_ ?_
                rotate_left
                ·
                 intro w'
                 go_simp
                 with_reducible rfl
                rotate_left
                ·
                 simp only [Act.put, List.setIfInBounds_toArray, List.set_cons_zero, List.set_cons_succ, i64_w, i32_w]
                 rfl
                refine pure_ (i := 7) (N := some 40) (v := ?_) (a' := ?_) #[false, true, false, true, false, false, true, true, false, false] rfl rfl (by kernel_rfl) (fun _ _ _ h => h) (Or.inl ⟨by rfl, ?_⟩) ?_ ?_
                rotate_left
                ·
                 intro w'
                 go_simp
                 with_reducible rfl
                rotate_left
                ·
                 simp only [Act.put, List.setIfInBounds_toArray, List.set_cons_zero, List.set_cons_succ, i64_w, i32_w]
                 rfl
                refine take_ (i := 0) (N := some 33) (v := ?_) (a' := ?_) #[true, true, false, true, false, false, true, true, false, false] rfl rfl (by kernel_rfl) (fun _ _ _ h => h) (Or.inl ⟨by rfl, ?_⟩) hHeld ?_ ?_
                rotate_left
                ·
                 intro w' s0
                 go_simp
                 with_reducible rfl
                rotate_left
                ·
                 simp only [Act.put, List.setIfInBounds_toArray, List.set_cons_zero, List.set_cons_succ, i64_w, i32_w]
                 rfl
                refine join_ (σ := Value × Value) 3 #[true, true, true, true, true, false, true, true, false, false] (fun s_ => [(35, s_.1), (37, s_.2)]) (fun s_ w' => (w'.cell? ⟨gy, 0, none⟩ = some (.func (.func 140) #[] #[.pointer (some ⟨gt, 0, none⟩), .pointer (some ⟨gn, 0, none⟩), .pointer (some ⟨gl, 0, none⟩), .pointer (some ⟨gc, 0, none⟩), .pointer (some ⟨gy, 0, none⟩)])) ∧ (Kd.N (Kd.slice 3 (Kd.int .i64)) 23 w' wB.heap.size (fun q => (¬ ok1 q ∧ q < wB.heap.size) ∨ wB.heap.size ≤ q) s_.1 l) ∧ (Kd.N (Kd.slice 3 (Kd.int .i64)) 23 w' wB.heap.size (fun q => (fun q => (¬ ok1 q ∧ q < wB.heap.size) ∨ wB.heap.size ≤ q) q ∧ some q ≠ (s_.1 : Value).ownBlock) s_.2 [x5]) ∧ (Below wB.heap.size wB w')) ?_ ?_
                rotate_left
                ·
                 intro hCont
                 refine two_ (i := 2) (j := 4) (Ni := some 35) (Nj := some 37) #[true, true, true, true, false, false, true, true, false, false] #[true, true, false, true, true, false, true, true, false, false] rfl rfl rfl rfl (by kernel_rfl) (by decide) (by decide) (fun K hK => ?_) (fun K hK => ?_)
                 ·
                  refine goes_ Try.func141 (by kernel_rfl) rfl #[.slice A0 l.length c0] (by rfl) rfl rfl (by (try simp only [List.map_toArray, List.map_cons, List.map_nil]); first | done | rfl) ?_
                  refine (clone2.calls A0 c0 l _ (fun q => ¬ ok1 q ∧ q < wB.heap.size) (Kd.F_below (Kd.F_bound HF0'.out) (bU0 HB.out)) HC0.out LM9.out).mono ?_
                  rintro e w3 ⟨v2, rfl, ho, hb⟩
                  refine ⟨_, rfl, ?_⟩
                  have HO2 : Aside0 (Kd.N (Kd.slice 3 (Kd.int .i64)) 23 w3 wB.heap.size (fun q => (¬ ok1 q ∧ q < wB.heap.size) ∨ wB.heap.size ≤ q) v2 l) := ⟨Kd.N_lower (Kd.N_mono ho (fun q hq => hq.elim (fun h2 => Or.inl h2.1) (fun h2 => Or.inr (Nat.le_trans (below_size (bU0 HB.out)) h2)))) (below_size (bU0 HB.out))⟩; have n0_ := Az (below_step (bU0 HB.out) hb); clear HB; have HB := n0_; clear n0_ ho hb
                  refine hK.out _ _ (pw_cell_below (bU0 HB.out) ((blk_cell BY.out 0).trans rfl)) (fun hHeld => ?_)
                  clear hK K
                  refine norm_ (a' := ?_) ?_ ?_
                  rotate_left
                  ·
                   show Act.put _ (some 35) _ = _
                   simp only [Act.put, List.setIfInBounds_toArray, List.set_cons_zero, List.set_cons_succ, i64_w, i32_w]
                   rfl
                  refine one_ (i := 4) (N := some 37) #[true, true, true, true, true, false, true, true, false, false] rfl rfl (by kernel_rfl) (by decide) (fun K hK => ?_)
                  refine Kd.N_lit_step (Kd.slice 3 (Kd.int .i64)) (w0 := wB) wB.heap.size 23 (by rfl) (N' := 37) rfl (xs := [x5]) (inner := [.slice A5 x5.length c5]) (ok := (fun q => (fun q => (¬ ok1 q ∧ q < wB.heap.size) ∨ wB.heap.size ≤ q) q ∧ some q ≠ (v2 : Value).ownBlock)) (okp := (fun q => ¬ ok1 q ∧ q < wB.heap.size)) ?hr ?hp ?hk ?hf (bU0 HB.out) (below_size (bU0 HB.out)) (by simp) ?_
                  (case hr => first | (go_simp; done) | (go_simp; rfl))
                  (case hp => exact Reps.one (Kd.FK_slice_mk HC5.out (Kd.F_below (Kd.F_bound HR5.out) (bU0 HB.out))) (Reps.none _ _))
                  (case hk => exact fun q hq => ⟨Or.inl hq, fun e_ => by have := Kd.N_base HO2.out q e_.symm; have := hq.2; omega⟩)
                  (case hf => exact ⟨Or.inr (below_size (bU0 HB.out)), fun e_ => by have := Kd.N_lt HO2.out _ e_.symm; omega⟩)
                  intro v4 w4 ho hb hg_ hnew_
                  refine hK.out _ _ (pw_cell_below hb ((blk_cell BY.out 0).trans rfl)) (fun hHeld => ?_)
                  clear hK K
                  refine norm_ (a' := ?_) ?_ ?_
                  rotate_left
                  ·
                   show Act.put _ (some 37) _ = _
                   simp only [Act.put, List.setIfInBounds_toArray, List.set_cons_zero, List.set_cons_succ, i64_w, i32_w]
                   rfl
                  exact norm_ (by simp only [putAll, Act.put, List.setIfInBounds_toArray, List.set_cons_zero, List.set_cons_succ]) (hCont (v2, v4) _ ⟨hHeld, Kd.N_grown HO2.out hg_ (fun _ _ h2 => by cases h2), ho, hb⟩)
                 ·
                  refine Kd.N_lit_step (Kd.slice 3 (Kd.int .i64)) (w0 := wB) wB.heap.size 23 (by rfl) (N' := 37) rfl (xs := [x5]) (inner := [.slice A5 x5.length c5]) (ok := (fun q => (¬ ok1 q ∧ q < wB.heap.size) ∨ wB.heap.size ≤ q)) (okp := (fun q => ¬ ok1 q ∧ q < wB.heap.size)) ?hr ?hp ?hk ?hf (bU0 HB.out) (below_size (bU0 HB.out)) (by simp) ?_
                  (case hr => first | (go_simp; done) | (go_simp; rfl))
                  (case hp => exact Reps.one (Kd.FK_slice_mk HC5.out (Kd.F_below (Kd.F_bound HR5.out) (bU0 HB.out))) (Reps.none _ _))
                  (case hk => exact fun q hq => Or.inl hq)
                  (case hf => exact Or.inr (below_size (bU0 HB.out)))
                  intro v4 w3 ho hb hg_ hnew_
                  have HO4 := Az ho; clear HB; have HB := Az hb; clear ho hb hg_ hnew_
                  refine hK.out _ _ (pw_cell_below (bU0 HB.out) ((blk_cell BY.out 0).trans rfl)) (fun hHeld => ?_)
                  clear hK K
                  refine norm_ (a' := ?_) ?_ ?_
                  rotate_left
                  ·
                   show Act.put _ (some 37) _ = _
                   simp only [Act.put, List.setIfInBounds_toArray, List.set_cons_zero, List.set_cons_succ, i64_w, i32_w]
                   rfl
                  refine one_ (i := 2) (N := some 35) #[true, true, true, true, true, false, true, true, false, false] rfl rfl (by kernel_rfl) (by decide) (fun K hK => ?_)
                  refine goes_ Try.func141 (by kernel_rfl) rfl #[.slice A0 l.length c0] (by rfl) rfl rfl (by (try simp only [List.map_toArray, List.map_cons, List.map_nil]); first | done | rfl) ?_
                  refine (clone2.calls A0 c0 l _ (fun q => ¬ ok1 q ∧ q < wB.heap.size) (Kd.F_below (Kd.F_bound HF0'.out) (bU0 HB.out)) HC0.out LM9.out).mono ?_
                  rintro e w4 ⟨v2, rfl, ho, hb⟩
                  refine ⟨_, rfl, ?_⟩
                  have HO2 : Aside0 (Kd.N (Kd.slice 3 (Kd.int .i64)) 23 w4 wB.heap.size (fun q => (¬ ok1 q ∧ q < wB.heap.size) ∨ wB.heap.size ≤ q) v2 l) := ⟨Kd.N_lower (Kd.N_mono ho (fun q hq => hq.elim (fun h2 => Or.inl h2.1) (fun h2 => Or.inr (Nat.le_trans (below_size (bU0 HB.out)) h2)))) (below_size (bU0 HB.out))⟩; have HO5 := Az (Kd.N_elder' HO4.out (Kd.N_base ho) hb); have n0_ := Az (below_step (bU0 HB.out) hb); clear HB; have HB := n0_; clear n0_ ho hb
                  refine hK.out _ _ (pw_cell_below (bU0 HB.out) ((blk_cell BY.out 0).trans rfl)) (fun hHeld => ?_)
                  clear hK K
                  refine norm_ (a' := ?_) ?_ ?_
                  rotate_left
                  ·
                   show Act.put _ (some 35) _ = _
                   simp only [Act.put, List.setIfInBounds_toArray, List.set_cons_zero, List.set_cons_succ, i64_w, i32_w]
                   rfl
                  exact norm_ (by simp only [putAll, Act.put, List.setIfInBounds_toArray, List.set_cons_zero, List.set_cons_succ]) (hCont (v2, v4) _ ⟨hHeld, HO2.out, HO5.out, HB.out⟩)
                rintro ⟨v2, v4⟩ w5 ⟨hS_, h0_, h1_, hB_⟩
                obtain ⟨A7, c7, e7⟩ := Kd.N_slice h1_; simp only at e7 h0_ h1_ hB_ hS_; subst e7; have HO2 := Az h0_; have HO4 := Az h1_; clear HB; have HB := Az hB_; clear h0_ h1_ hB_
                refine norm_ (a' := ?_) ?_ ?_
                rotate_left
                ·
                 simp only [putAll, Act.put, List.setIfInBounds_toArray, List.set_cons_zero, List.set_cons_succ]
                 rfl
                obtain ⟨y8, hy8⟩ : ∃ y_ : List (List Int), y_ = l ++ [x5] := ⟨_, rfl⟩; rw [← hy8] at A11; have Ny8 := Az hy8; clear hy8
                refine one_ (i := 5) (N := some 38) #[true, true, true, true, true, true, true, true, false, false] rfl rfl (by kernel_rfl) (by decide) (fun K hK => ?_)
                refine Kd.N_append_rows_step (Kd.slice 3 (Kd.int .i64)) (w0 := wB) wB.heap.size (by rfl) (.tmp 35) (.tmp 37) 45 23 (.slice none 0 0) 24 rfl Try.underlying45 infoF23 rfl (by decide) (by omega) v2 l [x5] A7 [x5].length c7 (fun q => (¬ ok1 q ∧ q < wB.heap.size) ∨ wB.heap.size ≤ q) (fun q => (fun q => (¬ ok1 q ∧ q < wB.heap.size) ∨ wB.heap.size ≤ q) q ∧ some q ≠ (v2 : Value).ownBlock) rfl rfl HO2.out (Kd.N_F HO4.out) (fun _ h2 => h2) (fun q hq => Or.inr (Nat.le_trans (below_size (bU0 HB.out)) hq)) (bU0 HB.out) (below_size (bU0 HB.out)) (by have := LM9.out; simp only [List.length_cons, List.length_nil]; omega) ?_
                intro v8 w6 ho hb hg hat
                rw [← Ny8.out] at ho; obtain ⟨A8, c8, e8⟩ := Kd.N_slice ho; subst e8; have HO8 := Az ho; clear HB HO2 HO4; have HB := Az hb; clear ho hb hg hat
                refine hK.out _ _ (pw_cell_below (bU0 HB.out) ((blk_cell BY.out 0).trans rfl)) (fun hHeld => ?_)
                clear hK K
                refine norm_ (a' := ?_) ?_ ?_
                rotate_left
                ·
                 show Act.put _ (some 38) _ = _
                 simp only [Act.put, List.setIfInBounds_toArray, List.set_cons_zero, List.set_cons_succ, i64_w, i32_w]
                 rfl
                refine one_ (i := 8) (N := some 41) #[true, true, true, true, true, true, true, true, true, false] rfl rfl (by kernel_rfl) (by decide) (fun K hK => ?_)
                refine goes_ Try.func67 (by kernel_rfl) rfl #[.slice A1 p.length c1, .slice A5 x5.length c5] (by rfl) rfl rfl (by (try simp only [List.map_toArray, List.map_cons, List.map_nil]); first | done | rfl) ?_
                refine (impl_mul.calls k1 _ _ p _ _ x5 q_ _ (Kd.C_below (Kd.F_now HF1'.out) (bU0 HB.out)) HC1.out (Kd.C_below (Kd.F_now HR5.out) (bU0 HB.out)) HC5.out A10.out).mono ?_
                rintro e w7 ⟨v9, rfl, ho, hb⟩
                refine ⟨_, rfl, ?_⟩
                obtain ⟨A9, c9, e9⟩ := Kd.R_slice ho; subst e9; have HO9 := Az (Kd.R_lower ho (below_size (bU0 HB.out))); have n1_ := Az (Kd.N_below HO8.out hb); clear HO8; have HO8 := n1_; clear n1_; have n0_ := Az (below_step (bU0 HB.out) hb); clear HB; have HB := n0_; clear n0_ ho hb
                refine hK.out _ _ (pw_cell_below (bU0 HB.out) ((blk_cell BY.out 0).trans rfl)) (fun hHeld => ?_)
                clear hK K
                refine norm_ (a' := ?_) ?_ ?_
                rotate_left
                ·
                 show Act.put _ (some 41) _ = _
                 simp only [Act.put, List.setIfInBounds_toArray, List.set_cons_zero, List.set_cons_succ, i64_w, i32_w]
                 rfl
                refine one_ (i := 9) (N := some 42) #[true, true, true, true, true, true, true, true, true, true] rfl rfl (by kernel_rfl) (by decide) (fun K hK => ?_)
                refine goesV_ (f := 140) Try.func140 (by kernel_rfl) rfl #[.slice A8 y8.length c8, .slice A9 q_.length c9, .pointer (some ⟨gt, 0, none⟩), .pointer (some ⟨gn, 0, none⟩), .pointer (some ⟨gl, 0, none⟩), .pointer (some ⟨gc, 0, none⟩), .pointer (some ⟨gy, 0, none⟩)] (by rfl) rfl rfl (by rfl) (by first | rfl | (simp; done) | (simp; exact ⟨rfl, rfl⟩)) ?_
                refine (IH.out k1 (by have := HK1.out; omega) s1 s2 A8 c8 y8 A9 c9 q_ _ ok1 (HI.out _ _ _ _ HIV.out (bU0 HB.out)) NT1.out NN1.out NL1.out NC1.out NY1.out (blk_below BT.out (bU0 HB.out)) (blk_below BN.out (bU0 HB.out)) (blk_below BL.out (bU0 HB.out)) (blk_below BC.out (bU0 HB.out)) (blk_below BY.out (bU0 HB.out)) (Kd.F_mono (Kd.N_F HO8.out) (fun q hq h1 => hq.elim (fun h2 => h2.1 h1) (fun h2 => by have := HL.out _ _ _ _ HIV.out h1; omega))) (Kd.N_reads' HO8.out).2.1 (Kd.F_mono (Kd.R_F (Kd.R_bound HO9.out)) (fun q hq h1 => by have := HL.out _ _ _ _ HIV.out h1; have := hq.2.1; omega)) (Kd.R_reads' HO9.out).2.1 (Kd.F_below HFC'.out (bU0 HB.out)) A11.out).mono ?_
                rintro e w' ⟨rfl, ok2, i1, i2, i3⟩
                refine ⟨_, rfl, ?_⟩
                have R1 := Az i1; have R2 := Az i2; have R3 := Az i3; have hcy := blk_kept (blk_below BY.out (bU0 HB.out)) i3 NY1.out; clear i1 i2 i3
                refine hK.out _ _ ((blk_cell hcy 0).trans rfl) (fun hHeld => ?_)
                clear hK K
                refine norm_ (a' := ?_) ?_ ?_
                rotate_left
                ·
                 show Act.put _ (some 42) _ = _
                 simp only [Act.put, List.setIfInBounds_toArray, List.set_cons_zero, List.set_cons_succ, i64_w, i32_w]
                 rfl
                refine done_ (by kernel_rfl) ?_
                clear hHeld hcy
                try go_wp2
                (first | go_roundg k1 | (refine Handed.intro k1 ?measure ?_; rotate_left; go_step; (try simp only [add_plain]); (repeat apply Exists.intro); refine ⟨?rel, rfl⟩))
                case measure => have := HK1.out; omega
                case rel => exact ⟨(wrap64 (i + 1)), s2, ok2, rfl, H', ⟨by have := HK1.out; omega⟩, R1, ⟨fun q hq => (R2.out q hq).elim (HOK.out q) (fun h_ => Or.inr (Nat.le_trans (Nat.le_trans HKP.out.1 HB.out.size) h_))⟩, ⟨Kept.then_ (Kept.below HKP.out HB.out) R3.out (fun q hq => HOK.out q hq)⟩⟩
              ·
                rw [if_neg c9] at H
                exact absurd H (by simp)
            ·
              rw [if_neg c8] at H
              exact absurd H (by simp)
          ·
            rw [if_neg c7] at H; have c7b0 := decide_eq_false c7; clear c7; obtain rfl := Option.some.inj H
            go_wp2
            first | go_end0 | ((try simp only [Exit.inBlock, Exit.then]); refine bodyPost_ret (results_none rfl _ _ _) rfl ?_)
            exact ⟨rfl, ok1, HI.out _ _ _ _ HIV.out (bU0 HB.out), HOK.out, Kept.below HKP.out (bU0 HB.out)⟩
    ·
      rw [if_neg c6] at h
      exact absurd h (by simp)
def facsG {σ : Type} (step : Nat → σ → List (List Int) → Option σ) (k : Nat) (ts : List (List Int)) (n : Int) (s : σ) : Option σ :=
  if ts.length ≤ 11728124029610 then ((permG (fun k cs p => fac1L k ts p cs 0) k n (List.replicate ts.length []) []).bind fun cs => ((impl_still.f k n).bind fun t => facG step ts n cs k s [] t)) else none
set_option maxHeartbeats 8000000 in
set_option maxRecDepth 100000 in
theorem facs.calls {σ : Type} (step : Nat → σ → List (List Int) → Option σ) (Inv : σ → World → (Nat → Prop) → Prop) (TF : Nat) (fnT : Func) (hfT : Try.prog.funcs[TF]? = some fnT) (hnT : (fnT.name == "runtime.NumGoroutine") = false) (hbT : fnT.body.isSome = true) (gm : Nat)
  (hI : ∀ s W W' ok, Inv s W ok → Below W.heap.size W W' → Inv s W' ok) (hL : ∀ s W ok q, Inv s W ok → ok q → q < W.heap.size)
  (hT : ∀ (k : Nat) (s s' : σ) (l : List (List Int)) (A : Option Addr) (c : Nat) (W : World) (ok : Nat → Prop), Inv s W ok → Kd.F (Kd.slice 3 (Kd.int .i64)) W (fun q => ¬ ok q) A l.length l → l.length ≤ c → step k s l = some s' → Calls Try.prog TF #[.slice A l.length c, .pointer (some ⟨gm, 0, none⟩)] W fun e w' => e = .returned (.tuple #[]) ∧ ∃ ok', Inv s' w' ok' ∧ (∀ q, ok' q → ok q ∨ W.heap.size ≤ q) ∧ Kept W w' ok)
  (k : Nat) (At : Option Addr) (ct : Nat) (ts : List (List Int)) (n : Int) (s s' : σ) (w : World) (ok : Nat → Prop) (hInv : Inv s w ok) (hr0 : Kd.C (Kd.slice 3 (Kd.int .i64)) w At ts.length ts) (hc0 : ts.length ≤ ct) (h : facsG step k ts n s = some s') :
  Calls Try.prog 95 #[.slice At ts.length ct, .int .i64 n, .func (.func TF) #[] #[.pointer (some ⟨gm, 0, none⟩)]] w fun e w' => e = .returned (.tuple #[]) ∧ ∃ ok', Inv s' w' ok' ∧ (∀ q, ok' q → ok q ∨ w.heap.size ≤ q) ∧ Kept w w' ok := by
  have HTS := Az hr0; have HCT := Az hc0; have HIV := Az hInv; have HB := Az (Below.refl w.heap.size w); clear hr0 hc0 hInv
  unfold facsG at h
  by_cases c1 : ts.length ≤ 11728124029610
  ·
    rw [if_pos c1] at h; have LM := Az c1; obtain ⟨cs, A10, h⟩ := Option.bind_eq_some_iff.mp h; obtain ⟨t, A20, h⟩ := Option.bind_eq_some_iff.mp h; have A1 := Az A10; have A2 := Az A20; have A3 := Az h; clear A10 A20 h c1
    go_enter Try.func95, Try.ntmps95
    go_wp2_with (first  | ((with_reducible refine gate_dst (N := 3) rfl ?_); refine box_event ?hg (N := 3) ?hd (cs := #[.slice At ts.length ct]) (t := 45) ?hr ?_; (case hd => rfl); (case hg => rfl); (case hr => first | (go_simp; done) | (go_simp; rfl)); intro gt hg_ w2 hbox hb; have n1 := Az (below_step HB.out hb); have B_gt := Az hbox; have G_gt := Az ((by rw [hg_]; exact below_size HB.out) : w.heap.size ≤ gt); clear HB hb hbox hg_; have HB := n1; clear n1) | ((with_reducible refine gate_dst (N := 4) rfl ?_); refine box_event ?hg (N := 4) ?hd (cs := #[.int .i64 n]) (t := 3) ?hr ?_; (case hd => rfl); (case hg => rfl); (case hr => first | (go_simp; done) | (go_simp; rfl)); intro gn hg_ w3 hbox hb; have n1 := Az (below_step HB.out hb); have m0 := Az (blk_below B_gt.out hb); have B_gn := Az hbox; have G_gn := Az ((by rw [hg_]; exact below_size HB.out) : w.heap.size ≤ gn); clear HB hb hbox hg_ B_gt; have HB := n1; clear n1; have B_gt := m0; clear m0) | ((with_reducible refine gate_dst (N := 5) rfl ?_); refine box_event ?hg (N := 5) ?hd (cs := #[.func (.func TF) #[] #[.pointer (some ⟨gm, 0, none⟩)]]) (t := 76) ?hr ?_; (case hd => rfl); (case hg => rfl); (case hr => first | (go_simp; done) | (go_simp; rfl)); intro gl hg_ w4 hbox hb; have n1 := Az (below_step HB.out hb); have m0 := Az (blk_below B_gt.out hb); have m1 := Az (blk_below B_gn.out hb); have B_gl := Az hbox; have G_gl := Az ((by rw [hg_]; exact below_size HB.out) : w.heap.size ≤ gl); clear HB hb hbox hg_ B_gt B_gn; have HB := n1; clear n1; have B_gt := m0; clear m0; have B_gn := m1; clear m1; have hcz0 : w4.cell? ⟨gt, 0, none⟩ = some (.slice At ts.length ct) := (blk_cell B_gt.out 0).trans rfl) | ((with_reducible refine gate_dst (N := 10) rfl ?_); refine Kd.S_make (Kd.slice 23 (Kd.slice 3 (Kd.int .i64))) _ 45 rfl (N := 10) rfl 98 _ _ rfl (ts.length : Int) rfl rfl Try.underlying98 (.slice none 0 0) 24 infoF45 rfl (by decide) (by omega) ([] : List (List Int)) (ok := fun _ => True) (okp := fun _ => True) (Kd.M_row (Kd.R_nil _ _ _ _ _)) (fun _ hk => hk) trivial (by omega) (by have := LM.out; simp only [Int.toNat_natCast]; omega) (Below.refl _ _) (Nat.le_refl _) ?_; intro v1 w5 ho hb hg_ hnew_; rw [Int.toNat_natCast] at ho; have HSZ := Az hb.size; have LT := Az (blk_lt B_gt.out); have LN := Az (blk_lt B_gn.out); have LL := Az (blk_lt B_gl.out); have HO := Az (Kd.S_mono (Kd.S_bound ho) (ok' := fun q => w4.heap.size ≤ q ∧ q < w5.heap.size) (fun q hq => ⟨hq.2.1, hq.2.2.1⟩)); have m0 := Az (blk_below B_gt.out hb); have m1 := Az (blk_below B_gn.out hb); have m2 := Az (blk_below B_gl.out hb); have m3 := Az (below_step HB.out hb); have HS4 := Az (below_size HB.out); clear B_gt B_gn B_gl HB ho hb hg_ hnew_ hcz0; have B_gt := m0; have B_gn := m1; have B_gl := m2; have HB := m3; clear m0 m1 m2 m3) | ((with_reducible refine gate_store (p := 6) (t := 98) rfl ?_); refine store_event (w1 := w5.alloc (.cells #[v1] 98 (0, 0))) rfl rfl rfl ?hr ?_; (case hr => (obtain ⟨Av, cv, ev⟩ := Kd.S_slice HO.out; subst ev; go_simp; first | exact setCell_new _ _ _ _ | (rw [run_store _ _ _ _ _ rfl]; simp [stored]; exact setCell_new _ _ _ _) | trace_state)); intro w6 hw6; have hb6 : Below w5.heap.size w5 w6 := (by rw [hw6]; exact below_alloc (Below.refl _ _) _); have B_gc := Az ((by rw [hw6]; exact blk_new w5 _) : w6.heap[w5.heap.size]? = some (.cells #[v1] 98 (0, 0))); have m0 := Az (blk_below B_gt.out hb6); have m1 := Az (blk_below B_gn.out hb6); have m2 := Az (blk_below B_gl.out hb6); have m3 := Az (below_step HB.out hb6); have m4 := Az (Kd.S_below HO.out hb6); have HS5 := Az hb6.size; clear B_gt B_gn B_gl HB HO hb6 hw6; have B_gt := m0; have B_gn := m1; have B_gl := m2; have HB := m3; have HO := m4; clear m0 m1 m2 m3 m4; obtain ⟨gc, hgc⟩ : ∃ g_ : Nat, g_ = w5.heap.size := ⟨_, rfl⟩; rw [← hgc] at B_gc ⊢; have HGC := Az hgc; clear hgc; have hcz1 : w6.cell? ⟨gn, 0, none⟩ = some (.int .i64 n) := (blk_cell B_gn.out 0).trans rfl) | (go_at_call 138; refine (perm0.calls (σ := List (List (List Int))) (fun k cs p => fac1L k ts p cs 0) (fac1I w At ct ts gt gc v1) gt gc (fun s W W' ok h hb => fac1I.below h hb) (fun s W ok q h hq => (h.2.2.2.2.1 q hq).2.2) (fun k s s' p A c W ok hI hp hc h => fac1.calls w At ct ts gt gc v1 HTS.out HCT.out k s s' p A c W ok hI hp hc h) k n (List.replicate ts.length []) cs w6 (fun q => w4.heap.size ≤ q ∧ q < w5.heap.size) ⟨HB.out, B_gt.out, B_gc.out, Kd.S_lower HO.out HS4.out, fun q hq => ⟨fun e_ => by have := LT.out; omega, fun e_ => by have := HGC.out; omega, Nat.lt_of_lt_of_le hq.2 HS5.out⟩, List.length_replicate⟩ A1.out).mono ?_; rintro e w7 ⟨rfl, ok', i1, i2, i3⟩; have FI := Az i1; have R3 := Az i3; clear i1 i2 i3 hcz1) | ((with_reducible refine gate_store (p := 7) (t := 100) rfl ?_); refine store_event (w1 := w7.alloc (.cells #[.func (.func 140) #[] #[.pointer (some ⟨gt, 0, none⟩), .pointer (some ⟨gn, 0, none⟩), .pointer (some ⟨gl, 0, none⟩), .pointer (some ⟨gc, 0, none⟩), .pointer (some ⟨w7.heap.size, 0, none⟩)]] 100 (0, 0))) rfl rfl rfl ?hr ?_; (case hr => (go_simp; rw [run_store _ _ _ _ _ rfl]; simp [stored]; exact setCell_new _ _ _ _)); intro w8 hw8; have hb8 : Below w7.heap.size w7 w8 := (by rw [hw8]; exact below_alloc (Below.refl _ _) _); have B_gy0 : w8.heap[w7.heap.size]? = some (.cells #[.func (.func 140) #[] #[.pointer (some ⟨gt, 0, none⟩), .pointer (some ⟨gn, 0, none⟩), .pointer (some ⟨gl, 0, none⟩), .pointer (some ⟨gc, 0, none⟩), .pointer (some ⟨w7.heap.size, 0, none⟩)]] 100 (0, 0)) := (by rw [hw8]; exact blk_new w7 _); clear hw8; obtain ⟨gy, hgy⟩ : ∃ g_ : Nat, g_ = w7.heap.size := ⟨_, rfl⟩; rw [← hgy] at B_gy0 ⊢; have B_gy := Az B_gy0; have HGY := Az hgy; have HB8 := Az hb8; clear B_gy0 hgy hb8))
    obtain ⟨f1, f2, f3, f4, f5, f6⟩ := FI.out; obtain ⟨Ac, cc, ev⟩ := Kd.S_slice f4; subst ev; have FS := Az f4; have FB7 := Az f1; have FT7 := Az f2; have FC7 := Az f3; have FN7 := Az (blk_kept B_gn.out R3.out (fun h2 => by have := LN.out; omega)); have FL7 := Az (blk_kept B_gl.out R3.out (fun h2 => by have := LL.out; omega)); have GC := Az ((by have := HGC.out; have := HS4.out; have := HSZ.out; omega) : w.heap.size ≤ gc); have GY := Az ((by rw [HGY.out]; exact below_size FB7.out) : w.heap.size ≤ gy); clear f1 f2 f3 f4 f5 f6 FI B_gt B_gn B_gl B_gc HB HO R3; have HB : Aside0 (Below w.heap.size w w8) := ⟨below_step FB7.out HB8.out⟩; have B_gn := Az (blk_below FN7.out HB8.out); have B_gt := Az (blk_below FT7.out HB8.out); have B_gl := Az (blk_below FL7.out HB8.out); have B_gc := Az (blk_below FC7.out HB8.out); have FS8 := Az (Kd.S_below FS.out HB8.out); clear FN7 FT7 FL7 FC7 FS HB8 FB7; have HB8 : Aside0 (Below w8.heap.size w8 w8) := ⟨Below.refl _ _⟩
    refine start_ (n := 4) (S := fun w' => w'.cell? ⟨gy, 0, none⟩ = some (.func (.func 140) #[] #[.pointer (some ⟨gt, 0, none⟩), .pointer (some ⟨gn, 0, none⟩), .pointer (some ⟨gl, 0, none⟩), .pointer (some ⟨gc, 0, none⟩), .pointer (some ⟨gy, 0, none⟩)]) ∧ w'.cell? ⟨gn, 0, none⟩ = some (.int .i64 n)) (ds := []) #[false, false, false, false] (by kernel_rfl) rfl rfl ⟨pw_cell_below (by repeat (first | (with_reducible first | exact HB8.out | apply below_alloc | apply pw_below_drewN | apply below_drew1) | exact HB8.out)) ((blk_cell B_gy.out 0).trans rfl), pw_cell_below (by repeat (first | (with_reducible first | exact HB8.out | apply below_alloc | apply pw_below_drewN | apply below_drew1) | exact HB8.out)) ((blk_cell B_gn.out 0).trans rfl)⟩ (fun hHeld => ?_)
    refine take_ (i := 0) (N := some 15) (v := ?_) (a' := ?_) #[true, false, false, false] rfl rfl (by kernel_rfl) (fun _ _ _ h => h) (Or.inl ⟨by rfl, ?_⟩) hHeld ?_ ?_
    rotate_left
    ·
     intro w' s0
     obtain ⟨s0, s1⟩ := s0
     go_simp
     with_reducible rfl
    rotate_left
    ·
     simp only [Act.put, List.setIfInBounds_toArray, List.set_cons_zero, List.set_cons_succ, i64_w, i32_w]
     rfl
    refine take_ (i := 1) (N := some 16) (v := ?_) (a' := ?_) #[true, true, false, false] rfl rfl (by kernel_rfl) (fun _ _ _ h => h) (Or.inl ⟨by rfl, ?_⟩) hHeld ?_ ?_
    rotate_left
    ·
     intro w' s0
     obtain ⟨s0, s1⟩ := s0
     go_simp
     with_reducible rfl
    rotate_left
    ·
     simp only [Act.put, List.setIfInBounds_toArray, List.set_cons_zero, List.set_cons_succ, i64_w, i32_w]
     rfl
    refine one_ (i := 2) (N := some 17) #[true, true, true, false] rfl rfl (by kernel_rfl) (by decide) (fun K hK => ?_)
    refine goes_ Try.func104 (by kernel_rfl) rfl #[.int .i64 n] (by rfl) rfl rfl (by (try simp only [List.map_toArray, List.map_cons, List.map_nil]); first | done | rfl) ?_
    refine (impl_still.calls k n t _ A2.out).mono ?_
    rintro e w9 ⟨v9, rfl, ho, hb⟩
    refine ⟨_, rfl, ?_⟩
    obtain ⟨A9, c9, e9⟩ := Kd.R_slice ho; subst e9; have HO9 := Az (Kd.R_lower ho (below_size (by repeat (first | (with_reducible first | exact HB8.out | apply below_alloc | apply pw_below_drewN | apply below_drew1) | exact HB8.out)))); have n0_ := Az (below_step (by repeat (first | (with_reducible first | exact HB8.out | apply below_alloc | apply pw_below_drewN | apply below_drew1) | exact HB8.out)) hb); clear HB8 ho hb; have HB8 := n0_; clear n0_
    refine hK.out _ _ ⟨pw_cell_below (by repeat (first | (with_reducible first | exact HB8.out | apply below_alloc | apply pw_below_drewN | apply below_drew1) | exact HB8.out)) ((blk_cell B_gy.out 0).trans rfl), pw_cell_below (by repeat (first | (with_reducible first | exact HB8.out | apply below_alloc | apply pw_below_drewN | apply below_drew1) | exact HB8.out)) ((blk_cell B_gn.out 0).trans rfl)⟩ (fun hHeld => ?_)
    clear hK K
    refine norm_ (a' := ?_) ?_ ?_
    rotate_left
    ·
     show Act.put _ (some 17) _ = _
     simp only [Act.put, List.setIfInBounds_toArray, List.set_cons_zero, List.set_cons_succ, i64_w, i32_w]
     rfl
    refine one_ (i := 3) (N := some 18) #[true, true, true, true] rfl rfl (by kernel_rfl) (by decide) (fun K hK => ?_)
    refine goesV_ (f := 140) Try.func140 (by kernel_rfl) rfl #[.slice none 0 0, .slice A9 t.length c9, .pointer (some ⟨gt, 0, none⟩), .pointer (some ⟨gn, 0, none⟩), .pointer (some ⟨gl, 0, none⟩), .pointer (some ⟨gc, 0, none⟩), .pointer (some ⟨gy, 0, none⟩)] (by rfl) rfl rfl (by rfl) (by first | rfl | (simp; done) | (simp; exact ⟨rfl, rfl⟩) | (simp; rfl)) ?_
    refine (fac2.calls step Inv TF fnT hfT hnT hbT gm hI hL hT gt gn gl gc gy At ct ts n Ac cc cs k s s' none 0 [] A9 c9 t _ ok (hI _ _ _ _ HIV.out (below_step HB.out HB8.out)) (fun h2 => Nat.lt_irrefl _ (Nat.lt_of_lt_of_le (hL _ _ _ _ HIV.out h2) G_gt.out)) (fun h2 => Nat.lt_irrefl _ (Nat.lt_of_lt_of_le (hL _ _ _ _ HIV.out h2) G_gn.out)) (fun h2 => Nat.lt_irrefl _ (Nat.lt_of_lt_of_le (hL _ _ _ _ HIV.out h2) G_gl.out)) (fun h2 => Nat.lt_irrefl _ (Nat.lt_of_lt_of_le (hL _ _ _ _ HIV.out h2) GC.out)) (fun h2 => Nat.lt_irrefl _ (Nat.lt_of_lt_of_le (hL _ _ _ _ HIV.out h2) GY.out)) (blk_below B_gt.out HB8.out) (blk_below B_gn.out HB8.out) (blk_below B_gl.out HB8.out) (blk_below B_gc.out HB8.out) (blk_below B_gy.out HB8.out) (Kd.F_nil _ _ _) (Nat.le_refl 0) (Kd.F_mono (Kd.R_F (Kd.R_bound HO9.out)) (fun q hq h1 => by have := hL _ _ _ _ HIV.out h1; have := hq.2.1; have := below_size HB.out; omega)) (Kd.R_reads' HO9.out).2.1 (Kd.F_below (Kd.F_mono (Kd.S_F (Kd.S_bound FS8.out)) (fun q hq h1 => by have := hL _ _ _ _ HIV.out h1; have := hq.2.1; omega)) HB8.out) A3.out).mono ?_
    rintro e w' ⟨rfl, ok2, i1, i2, i3⟩
    refine ⟨_, rfl, ?_⟩
    have R1 := Az i1; have R2 := Az i2; have R3 := Az i3
    have N1 : ∀ g, w.heap.size ≤ g → ¬ ok g := fun g hg h2 => Nat.lt_irrefl _ (Nat.lt_of_lt_of_le (hL _ _ _ _ HIV.out h2) hg)
    have hcy := blk_kept (blk_below B_gy.out HB8.out) i3 (N1 _ GY.out); have hcn := blk_kept (blk_below B_gn.out HB8.out) i3 (N1 _ G_gn.out); clear i1 i2 i3
    refine hK.out _ _ ⟨(blk_cell hcy 0).trans rfl, (blk_cell hcn 0).trans rfl⟩ (fun hHeld => ?_)
    clear hK K
    refine norm_ (a' := ?_) ?_ ?_
    rotate_left
    ·
     show Act.put _ (some 18) _ = _
     simp only [Act.put, List.setIfInBounds_toArray, List.set_cons_zero, List.set_cons_succ, i64_w, i32_w]
     rfl
    refine done_ (by kernel_rfl) ?_
    clear hHeld hcy hcn
    try go_wp2
    first | go_end0 | ((try simp only [Exit.inBlock, Exit.then]); refine bodyPost_ret (results_none rfl _ _ _) rfl ?_)
    have hb9 := below_step HB.out HB8.out
    exact ⟨rfl, ok2, R1.out, fun q hq => (R2.out q hq).imp id (fun h2 => Nat.le_trans (below_size hb9) h2), Kept.then_ (Kept.of_below hb9 ok) R3.out (fun q hq => Or.inl hq)⟩
  ·
    rw [if_neg c1] at h
    cases h
def oneI (w0 : World) (g : Nat) (m : Int) (W : World) (ok : Nat → Prop) : Prop := Below w0.heap.size w0 W ∧ W.heap[g]? = some (.cells #[.int .i64 m] 3 (0, 0)) ∧ ok = fun q => q = g
theorem oneI.below {w0 W W1 : World} {g : Nat} {m : Int} {ok : Nat → Prop} (h : oneI w0 g m W ok) (hb : Below W.heap.size W W1) : oneI w0 g m W1 ok := ⟨below_step h.1 hb, blk_below h.2.1 hb, h.2.2⟩
theorem oneI.put {w0 W : World} {g : Nat} {m : Int} {ok : Nat → Prop} (h : oneI w0 g m W ok) (hg : w0.heap.size ≤ g) (m' : Int) : oneI w0 g m' (W.setCell ⟨g, 0, none⟩ (.int .i64 m')) ok ∧ Kept W (W.setCell ⟨g, 0, none⟩ (.int .i64 m')) ok := by
  obtain ⟨h1, h2, rfl⟩ := h
  exact ⟨⟨below_set h1 hg, one_setCell h2, rfl⟩, Kept.setCell (S := fun q => q = g) (p := ⟨g, 0, none⟩) (Kept.refl _ _) (Or.inl rfl) _⟩
def laws_eqIntS.l0 : Nat → List Int → List Int → Int → Option (Bool)
 | 0, _, _, _ => none
 | k + 1, x0, x1, x5 => if x5 < (x0.length : Int) then (if 0 ≤ x5 then (if x5 < (x1.length : Int) then (if (rd x0 x5) = (rd x1 x5) then (laws_eqIntS.l0 k x0 x1 (wrap64 (x5 + 1))) else (some false)) else (none)) else (none)) else (some true)
def laws_eqIntS.f (k : Nat) (l0 : List Int) (l1 : List Int) : Option (Bool) := if (l0.length : Int) = (l1.length : Int) then (laws_eqIntS.l0 k l0 l1 0) else (some false)
set_option maxHeartbeats 8000000 in
set_option maxRecDepth 100000 in
theorem laws_eqIntS.calls (k : Nat) (A0 : Option Addr) (c0 : Nat) (l0 : List Int) (A1 : Option Addr) (c1 : Nat) (l1 : List Int) (r : Bool) (w : World) (hr0 : Kd.C (Kd.int .i64) w A0 l0.length l0) (hc0 : l0.length ≤ c0) (hr1 : Kd.C (Kd.int .i64) w A1 l1.length l1) (hc1 : l1.length ≤ c1) (h : laws_eqIntS.f k l0 l1 = some r) :
  Calls Try.prog 73 #[.slice A0 l0.length c0, .slice A1 l1.length c1] w fun e w' => e = .returned (.bool r) ∧ Drawn0 w w' := by
 have HR0 := Az hr0; have HC0 := Az hc0; clear hr0 hc0; have HR1 := Az hr1; have HC1 := Az hc1; clear hr1 hc1; have H : (if (l0.length : Int) = (l1.length : Int) then (laws_eqIntS.l0 k l0 l1 0) else (some false)) = some r := h; clear h
 by_cases c3 : (l0.length : Int) = (l1.length : Int)
 ·
  rw [if_pos c3] at H; have c3b0 := beq_iff_eq.mpr c3; have c3b1 := bne_eq_false_iff_eq.mpr c3
  have c3b2 : (l0.length == l1.length) = true := by first | simpa using c3 | (simp at c3 ⊢; omega)
  clear c3; have H' := Az H; clear H
  go_enter Try.func73, Try.ntmps73
  go_wp2
  repeat (go_quiet (fail); try go_wp2)
  go_loopg [5] k (fun kq v5 w' => ∃ (x5_1 : Int), v5 = .int .i64 x5_1 ∧ Aside0 (laws_eqIntS.l0 kq l0 l1 x5_1 = some r) ∧ Aside0 (kq ≤ k) ∧ Drawn0 w w')
  case atStart => exact ⟨(0), rS, H', ⟨Nat.le_refl _⟩, by repeat (first | exact Drawn0.refl _ | apply Drawn0.step)⟩
  case round =>
   clear H'; (try clear c1); (try clear p2); (try clear c3); (try clear c3b0); (try clear c3b1); (try clear c3b2); obtain ⟨x5_1, rfl, HA, HK1, ⟨m1, rfl⟩⟩ := hrel
   cases gk with
   | zero => exact absurd HA.out (by simp [laws_eqIntS.l0])
   | succ k1 =>
    have H := HA.out; clear HA; simp only [laws_eqIntS.l0] at H
    by_cases c4 : x5_1 < (l0.length : Int)
    ·
     rw [if_pos c4] at H; have c4b0 := decide_eq_true c4; clear c4
     by_cases c5 : 0 ≤ x5_1
     ·
      rw [if_pos c5] at H; have c5b0 := decide_eq_true c5; clear c5
      by_cases c6 : x5_1 < (l1.length : Int)
      ·
       rw [if_pos c6] at H; have c6b0 := decide_eq_true c6; clear c6
       by_cases c7 : (rd l0 x5_1) = (rd l1 x5_1)
       ·
        rw [if_pos c7] at H; have c7b0 := beq_iff_eq.mpr c7; have c7b1 := bne_eq_false_iff_eq.mpr c7; clear c7; have H' := Az H; clear H; have p469 : 0 ≤ (x5_1 : Int) := oA; have q469 : x5_1 < (l0.length : Int) := oA; obtain ⟨ad469, e469, hx469_0⟩ := Kd.at_int HR0.out x5_1 p469 q469
        cases e469
        replace p469 := eq_true p469; replace q469 := eq_true q469; have p470 : 0 ≤ (x5_1 : Int) := oA; have q470 : x5_1 < (l1.length : Int) := oA; obtain ⟨ad470, e470, hx470_0⟩ := Kd.at_int HR1.out x5_1 p470 q470
        cases e470
        replace p470 := eq_true p470; replace q470 := eq_true q470
        go_wp2
        repeat (go_quiet (fail); try go_wp2)
        (first | go_roundg k1 | (refine Handed.intro k1 ?measure ?_; rotate_left; go_step; (try simp only [add_plain]); (repeat apply Exists.intro); refine ⟨?rel, rfl⟩))
        case measure => have := HK1.out; omega
        case rel => exact ⟨(wrap64 (x5_1 + 1)), rS, H', ⟨by have := HK1.out; omega⟩, by repeat (first | exact Drawn0.refl _ | apply Drawn0.step)⟩
       ·
        rw [if_neg c7] at H; have c7b0 := beq_eq_false_iff_ne.mpr c7; have c7b1 := bne_iff_ne.mpr c7; obtain rfl := Option.some.inj H; have p469 : 0 ≤ (x5_1 : Int) := oA; have q469 : x5_1 < (l0.length : Int) := oA; obtain ⟨ad469, e469, hx469_0⟩ := Kd.at_int HR0.out x5_1 p469 q469
        cases e469
        replace p469 := eq_true p469; replace q469 := eq_true q469; have p470 : 0 ≤ (x5_1 : Int) := oA; have q470 : x5_1 < (l1.length : Int) := oA; obtain ⟨ad470, e470, hx470_0⟩ := Kd.at_int HR1.out x5_1 p470 q470
        cases e470
        replace p470 := eq_true p470; replace q470 := eq_true q470
        go_wp2
        repeat (go_quiet (fail); try go_wp2)
        go_ret
        exact ⟨by first | rfl | (simp; done) | (simp [*]; done), by repeat (first | exact Drawn0.refl _ | apply Drawn0.step)⟩
      ·
       rw [if_neg c6] at H
       exact absurd H (by simp)
     ·
      rw [if_neg c5] at H
      exact absurd H (by simp)
    ·
     rw [if_neg c4] at H; have c4b0 := decide_eq_false c4; clear c4; obtain rfl := Option.some.inj H
     go_wp2
     repeat (go_quiet (fail); try go_wp2)
     go_ret
     exact ⟨by first | rfl | (simp; done) | (simp [*]; done), by repeat (first | exact Drawn0.refl _ | apply Drawn0.step)⟩
 ·
  rw [if_neg c3] at H; have c3b0 := beq_eq_false_iff_ne.mpr c3; have c3b1 := bne_iff_ne.mpr c3
  have c3b2 : (l0.length == l1.length) = false := by first | simpa using c3 | (simp at c3 ⊢; omega)
  obtain rfl := Option.some.inj H
  go_enter Try.func73, Try.ntmps73
  go_wp2
  repeat (go_quiet (fail); try go_wp2)
  go_ret
  exact ⟨by first | rfl | (simp; done) | (simp [*]; done), by repeat (first | exact Drawn0.refl _ | apply Drawn0.step)⟩
def laws_eqIntSS.l0 : Nat → List (List Int) → List (List Int) → Int → Option (Bool)
 | 0, _, _, _ => none
 | k + 1, x0, x1, x5 => if x5 < (x0.length : Int) then (if 0 ≤ x5 then (if x5 < (x1.length : Int) then ((laws_eqIntS.f k (rd_L1 x0 x5) (rd_L1 x1 x5)).bind fun t473 => (if t473 = true then (laws_eqIntSS.l0 k x0 x1 (wrap64 (x5 + 1))) else (some false))) else (none)) else (none)) else (some true)
def laws_eqIntSS.f (k : Nat) (l0 : List (List Int)) (l1 : List (List Int)) : Option (Bool) := if (l0.length : Int) = (l1.length : Int) then (laws_eqIntSS.l0 k l0 l1 0) else (some false)
set_option maxHeartbeats 8000000 in
set_option maxRecDepth 100000 in
theorem laws_eqIntSS.calls (k : Nat) (A0 : Option Addr) (c0 : Nat) (l0 : List (List Int)) (A1 : Option Addr) (c1 : Nat) (l1 : List (List Int)) (r : Bool) (w : World) (hr0 : Kd.C (Kd.slice 3 (Kd.int .i64)) w A0 l0.length l0) (hc0 : l0.length ≤ c0) (hr1 : Kd.C (Kd.slice 3 (Kd.int .i64)) w A1 l1.length l1) (hc1 : l1.length ≤ c1) (h : laws_eqIntSS.f k l0 l1 = some r) :
  Calls Try.prog 42 #[.slice A0 l0.length c0, .slice A1 l1.length c1] w fun e w' => e = .returned (.bool r) ∧ Drawn0 w w' := by
 have HR0 := Az hr0; have HC0 := Az hc0; clear hr0 hc0; have HR1 := Az hr1; have HC1 := Az hc1; clear hr1 hc1; have H : (if (l0.length : Int) = (l1.length : Int) then (laws_eqIntSS.l0 k l0 l1 0) else (some false)) = some r := h; clear h
 by_cases c3 : (l0.length : Int) = (l1.length : Int)
 ·
  rw [if_pos c3] at H; have c3b0 := beq_iff_eq.mpr c3; have c3b1 := bne_eq_false_iff_eq.mpr c3
  have c3b2 : (l0.length == l1.length) = true := by first | simpa using c3 | (simp at c3 ⊢; omega)
  clear c3; have H' := Az H; clear H
  go_enter Try.func42, Try.ntmps42
  go_wp2
  repeat (go_quiet (fail); try go_wp2)
  go_loopg [5] k (fun kq v5 w' => ∃ (x5_1 : Int), v5 = .int .i64 x5_1 ∧ Aside0 (laws_eqIntSS.l0 kq l0 l1 x5_1 = some r) ∧ Aside0 (kq ≤ k) ∧ Drawn0 w w')
  case atStart => exact ⟨(0), rS, H', ⟨Nat.le_refl _⟩, by repeat (first | exact Drawn0.refl _ | apply Drawn0.step)⟩
  case round =>
   clear H'; (try clear c1); (try clear p2); (try clear c3); (try clear c3b0); (try clear c3b1); (try clear c3b2); obtain ⟨x5_1, rfl, HA, HK1, ⟨m1, rfl⟩⟩ := hrel
   cases gk with
   | zero => exact absurd HA.out (by simp [laws_eqIntSS.l0])
   | succ k1 =>
    have H := HA.out; clear HA; simp only [laws_eqIntSS.l0] at H
    by_cases c4 : x5_1 < (l0.length : Int)
    ·
     rw [if_pos c4] at H; have c4b0 := decide_eq_true c4; clear c4
     by_cases c5 : 0 ≤ x5_1
     ·
      rw [if_pos c5] at H; have c5b0 := decide_eq_true c5; clear c5
      by_cases c6 : x5_1 < (l1.length : Int)
      ·
       rw [if_pos c6] at H; have c6b0 := decide_eq_true c6; clear c6; replace H := Option.bind_eq_some_iff.mp H; obtain ⟨t473, A70, H⟩ := H; replace H : (if t473 = true then (laws_eqIntSS.l0 k1 l0 l1 (wrap64 (x5_1 + 1))) else (some false)) = some r := H; have A7 := Az A70; clear A70
       by_cases c8 : t473 = true
       ·
        subst c8
        have H1 : (laws_eqIntSS.l0 k1 l0 l1 (wrap64 (x5_1 + 1))) = some r := by rw [if_pos rfl] at H; exact H
        clear H; have H := H1; clear H1; have H' := Az H; clear H; have p471 : 0 ≤ (x5_1 : Int) := oA; have q471 : x5_1 < (l0.length : Int) := oA; obtain ⟨ad471, A471_0, c471_0, e471, hx471_0, hl471_0, hi471_0⟩ := at_L1 HR0.out x5_1 p471 q471
        cases e471
        have HR471_0 := Az hi471_0; have HC471_0 := Az hl471_0; clear hi471_0 hl471_0; replace p471 := eq_true p471; replace q471 := eq_true q471; have p472 : 0 ≤ (x5_1 : Int) := oA; have q472 : x5_1 < (l1.length : Int) := oA; obtain ⟨ad472, A472_0, c472_0, e472, hx472_0, hl472_0, hi472_0⟩ := at_L1 HR1.out x5_1 p472 q472
        cases e472
        have HR472_0 := Az hi472_0; have HC472_0 := Az hl472_0; clear hi472_0 hl472_0; replace p472 := eq_true p472; replace q472 := eq_true q472
        go_wp2_with (first | (go_at_call 73; (with_reducible refine (laws_eqIntS.calls k1 _ _ (rd_L1 l0 x5_1) _ _ (rd_L1 l1 x5_1) true _ ?side1 ?side2 ?side3 ?side4 A7.out).mono ?_); (case side1 => exact cU (HR471_0.out)); (case side2 => exact HC471_0.out); (case side3 => exact cU (HR472_0.out)); (case side4 => exact HC472_0.out); rintro e w' ⟨rfl, ⟨nd, rfl⟩⟩; (try first | exact ⟨rfl, _, World.drewN_drewN _ _ _⟩ | exact ⟨rfl, _, Eq.trans (World.drewN_drewN _ _ _) (congrArg (World.drewN _) (Nat.add_assoc _ _ _))⟩)))
        repeat (go_quiet (first | (go_at_call 73; (try simp only [Go.IntWalk.i64_left]); (with_reducible refine (laws_eqIntS.calls k1 _ _ (rd_L1 l0 x5_1) _ _ (rd_L1 l1 x5_1) true _ ?side1 ?side2 ?side3 ?side4 A7.out).mono ?_); (case side1 => exact cU (HR471_0.out)); (case side2 => exact HC471_0.out); (case side3 => exact cU (HR472_0.out)); (case side4 => exact HC472_0.out); rintro e w' ⟨rfl, ⟨nd, rfl⟩⟩; (try first | exact ⟨rfl, _, World.drewN_drewN _ _ _⟩ | exact ⟨rfl, _, Eq.trans (World.drewN_drewN _ _ _) (congrArg (World.drewN _) (Nat.add_assoc _ _ _))⟩))); try go_wp2_with (first | (go_at_call 73; (try simp only [Go.IntWalk.i64_left]); (with_reducible refine (laws_eqIntS.calls k1 _ _ (rd_L1 l0 x5_1) _ _ (rd_L1 l1 x5_1) true _ ?side1 ?side2 ?side3 ?side4 A7.out).mono ?_); (case side1 => exact cU (HR471_0.out)); (case side2 => exact HC471_0.out); (case side3 => exact cU (HR472_0.out)); (case side4 => exact HC472_0.out); rintro e w' ⟨rfl, ⟨nd, rfl⟩⟩; (try first | exact ⟨rfl, _, World.drewN_drewN _ _ _⟩ | exact ⟨rfl, _, Eq.trans (World.drewN_drewN _ _ _) (congrArg (World.drewN _) (Nat.add_assoc _ _ _))⟩))))
        (first | go_roundg k1 | (refine Handed.intro k1 ?measure ?_; rotate_left; go_step; (try simp only [add_plain]); (repeat apply Exists.intro); refine ⟨?rel, rfl⟩))
        case measure => have := HK1.out; omega
        case rel => exact ⟨(wrap64 (x5_1 + 1)), rS, H', ⟨by have := HK1.out; omega⟩, by repeat (first | exact Drawn0.refl _ | apply Drawn0.step)⟩
       ·
        replace c8 := Bool.eq_false_iff.mpr c8; subst c8
        have H1 : (some false) = some r := by rw [if_neg (show ¬ (false = true) by decide)] at H; exact H
        clear H; have H := H1; clear H1; obtain rfl := Option.some.inj H; have p471 : 0 ≤ (x5_1 : Int) := oA; have q471 : x5_1 < (l0.length : Int) := oA; obtain ⟨ad471, A471_0, c471_0, e471, hx471_0, hl471_0, hi471_0⟩ := at_L1 HR0.out x5_1 p471 q471
        cases e471
        have HR471_0 := Az hi471_0; have HC471_0 := Az hl471_0; clear hi471_0 hl471_0; replace p471 := eq_true p471; replace q471 := eq_true q471; have p472 : 0 ≤ (x5_1 : Int) := oA; have q472 : x5_1 < (l1.length : Int) := oA; obtain ⟨ad472, A472_0, c472_0, e472, hx472_0, hl472_0, hi472_0⟩ := at_L1 HR1.out x5_1 p472 q472
        cases e472
        have HR472_0 := Az hi472_0; have HC472_0 := Az hl472_0; clear hi472_0 hl472_0; replace p472 := eq_true p472; replace q472 := eq_true q472
        go_wp2_with (first | (go_at_call 73; (with_reducible refine (laws_eqIntS.calls k1 _ _ (rd_L1 l0 x5_1) _ _ (rd_L1 l1 x5_1) false _ ?side1 ?side2 ?side3 ?side4 A7.out).mono ?_); (case side1 => exact cU (HR471_0.out)); (case side2 => exact HC471_0.out); (case side3 => exact cU (HR472_0.out)); (case side4 => exact HC472_0.out); rintro e w' ⟨rfl, ⟨nd, rfl⟩⟩; (try first | exact ⟨rfl, _, World.drewN_drewN _ _ _⟩ | exact ⟨rfl, _, Eq.trans (World.drewN_drewN _ _ _) (congrArg (World.drewN _) (Nat.add_assoc _ _ _))⟩)))
        repeat (go_quiet (first | (go_at_call 73; (try simp only [Go.IntWalk.i64_left]); (with_reducible refine (laws_eqIntS.calls k1 _ _ (rd_L1 l0 x5_1) _ _ (rd_L1 l1 x5_1) false _ ?side1 ?side2 ?side3 ?side4 A7.out).mono ?_); (case side1 => exact cU (HR471_0.out)); (case side2 => exact HC471_0.out); (case side3 => exact cU (HR472_0.out)); (case side4 => exact HC472_0.out); rintro e w' ⟨rfl, ⟨nd, rfl⟩⟩; (try first | exact ⟨rfl, _, World.drewN_drewN _ _ _⟩ | exact ⟨rfl, _, Eq.trans (World.drewN_drewN _ _ _) (congrArg (World.drewN _) (Nat.add_assoc _ _ _))⟩))); try go_wp2_with (first | (go_at_call 73; (try simp only [Go.IntWalk.i64_left]); (with_reducible refine (laws_eqIntS.calls k1 _ _ (rd_L1 l0 x5_1) _ _ (rd_L1 l1 x5_1) false _ ?side1 ?side2 ?side3 ?side4 A7.out).mono ?_); (case side1 => exact cU (HR471_0.out)); (case side2 => exact HC471_0.out); (case side3 => exact cU (HR472_0.out)); (case side4 => exact HC472_0.out); rintro e w' ⟨rfl, ⟨nd, rfl⟩⟩; (try first | exact ⟨rfl, _, World.drewN_drewN _ _ _⟩ | exact ⟨rfl, _, Eq.trans (World.drewN_drewN _ _ _) (congrArg (World.drewN _) (Nat.add_assoc _ _ _))⟩))))
        go_ret
        exact ⟨by first | rfl | (simp; done) | (simp [*]; done), by repeat (first | exact Drawn0.refl _ | apply Drawn0.step)⟩
      ·
       rw [if_neg c6] at H
       exact absurd H (by simp)
     ·
      rw [if_neg c5] at H
      exact absurd H (by simp)
    ·
     rw [if_neg c4] at H; have c4b0 := decide_eq_false c4; clear c4; obtain rfl := Option.some.inj H
     go_wp2
     repeat (go_quiet (fail); try go_wp2)
     go_ret
     exact ⟨by first | rfl | (simp; done) | (simp [*]; done), by repeat (first | exact Drawn0.refl _ | apply Drawn0.step)⟩
 ·
  rw [if_neg c3] at H; have c3b0 := beq_eq_false_iff_ne.mpr c3; have c3b1 := bne_iff_ne.mpr c3
  have c3b2 : (l0.length == l1.length) = false := by first | simpa using c3 | (simp at c3 ⊢; omega)
  obtain rfl := Option.some.inj H
  go_enter Try.func42, Try.ntmps42
  go_wp2
  repeat (go_quiet (fail); try go_wp2)
  go_ret
  exact ⟨by first | rfl | (simp; done) | (simp [*]; done), by repeat (first | exact Drawn0.refl _ | apply Drawn0.step)⟩
def spec_FactorWhole.f (k : Nat) (l0 : List (List Int)) : Option (Int) := (spec_l5Small.f k l0).bind fun t487 => (if t487 = true then (if 0 < (l0.length : Int) then ((spec_l5Sum.f k (rd_L1 l0 0)).bind fun t489 => ((spec_l1Same.f k t489).bind fun t490 => ((spec_l5Count.f k l0 0 t490 t490 true).bind fun t493 => (some t493)))) else (none)) else (some (-1)))
set_option maxHeartbeats 8000000 in
set_option maxRecDepth 100000 in
theorem spec_FactorWhole.calls (k : Nat) (A0 : Option Addr) (c0 : Nat) (l0 : List (List Int)) (r : Int) (w : World) (hr0 : Kd.C (Kd.slice 3 (Kd.int .i64)) w A0 l0.length l0) (hc0 : l0.length ≤ c0) (h : spec_FactorWhole.f k l0 = some r) :
  Calls Try.prog 43 #[.slice A0 l0.length c0] w fun e w' => e = .returned (.int .i64 r) ∧ Below w.heap.size w w' := by
 have HR0 := Az hr0; have HC0 := Az hc0; clear hr0 hc0; have HB := Az (Below.refl w.heap.size w); have H : ((spec_l5Small.f k l0).bind fun t487 => (if t487 = true then (if 0 < (l0.length : Int) then ((spec_l5Sum.f k (rd_L1 l0 0)).bind fun t489 => ((spec_l1Same.f k t489).bind fun t490 => ((spec_l5Count.f k l0 0 t490 t490 true).bind fun t493 => (some t493)))) else (none)) else (some (-1)))) = some r := h; clear h; replace H := Option.bind_eq_some_iff.mp H; obtain ⟨t487, A20, H⟩ := H; replace H : (if t487 = true then (if 0 < (l0.length : Int) then ((spec_l5Sum.f k (rd_L1 l0 0)).bind fun t489 => ((spec_l1Same.f k t489).bind fun t490 => ((spec_l5Count.f k l0 0 t490 t490 true).bind fun t493 => (some t493)))) else (none)) else (some (-1))) = some r := H; have A2 := Az A20; clear A20
 by_cases c3 : t487 = true
 ·
  subst c3
  have H1 : (if 0 < (l0.length : Int) then ((spec_l5Sum.f k (rd_L1 l0 0)).bind fun t489 => ((spec_l1Same.f k t489).bind fun t490 => ((spec_l5Count.f k l0 0 t490 t490 true).bind fun t493 => (some t493)))) else (none)) = some r := by rw [if_pos rfl] at H; exact H
  clear H; have H := H1; clear H1
  by_cases c4 : 0 < (l0.length : Int)
  ·
   rw [if_pos c4] at H; have c4b0 := decide_eq_true c4; have c4b1 : decide (0 < l0.length) = true := decide_eq_true (by omega); clear c4; replace H := Option.bind_eq_some_iff.mp H; obtain ⟨t489, A50, H⟩ := H; replace H : ((spec_l1Same.f k t489).bind fun t490 => ((spec_l5Count.f k l0 0 t490 t490 true).bind fun t493 => (some t493))) = some r := H; have A5 := Az A50; clear A50; replace H := Option.bind_eq_some_iff.mp H; obtain ⟨t490, A60, H⟩ := H; replace H : ((spec_l5Count.f k l0 0 t490 t490 true).bind fun t493 => (some t493)) = some r := H; have A6 := Az A60; clear A60; replace H := Option.bind_eq_some_iff.mp H; obtain ⟨t493, A70, H⟩ := H; replace H : (some t493) = some r := H; have A7 := Az A70; clear A70; obtain rfl := Option.some.inj H
   go_enter Try.func43, Try.ntmps43
   go_wp2_with (first | ((with_reducible refine gate_callee (f := 90) rfl ?_); refine goesL_ (some 5) rfl rfl Try.func90 (by kernel_rfl) rfl #[.slice A0 l0.length c0] rfl (by (try simp only [List.map_toArray, List.map_cons, List.map_nil]); first | done | rfl | (simp only [List.length_drop, List.length_take]; rfl)) ?_; (with_reducible refine (spec_l5Small.calls k _ _ l0 true _ ?side1 ?side2 A2.out).mono ?_); (case side1 => exact cU (HR0.out)); (case side2 => exact HC0.out); rintro e w' ⟨rfl, ⟨nd, rfl⟩⟩; refine ⟨_, rfl, ?_⟩; have p488 : 0 ≤ (0 : Int) := (by omega); have q488 : 0 < (l0.length : Int) := oA; obtain ⟨ad488, A488_0, c488_0, e488, hx488_0, hl488_0, hi488_0⟩ := at_L1 HR0.out 0 p488 q488; cases e488; have qi488 : (0 < l0.length) = True := eq_true (by omega); (try rw [show ((0 : Int)).toNat = 0 from rfl] at hx488_0); (try rw [Addr.add_zero'] at hx488_0); have HR488_0 := Az hi488_0; have HC488_0 := Az hl488_0; clear hi488_0 hl488_0; replace p488 := eq_true p488; replace q488 := eq_true q488) | ((with_reducible refine gate_callee (f := 92) rfl ?_); refine goesL_ (some 10) rfl rfl Try.func92 (by kernel_rfl) rfl #[.slice A488_0 (rd_L1 l0 0).length c488_0] rfl (by (try simp only [List.map_toArray, List.map_cons, List.map_nil]); first | done | rfl | (simp only [List.length_drop, List.length_take]; rfl)) ?_; (with_reducible refine (spec_l5Sum.calls k _ _ (rd_L1 l0 0) t489 _ ?side1 ?side2 A5.out).mono ?_); (case side1 => exact cU (HR488_0.out)); (case side2 => exact HC488_0.out); rintro e w' ⟨rfl, ⟨nd, rfl⟩⟩; refine ⟨_, rfl, ?_⟩) | ((with_reducible refine gate_callee (f := 91) rfl ?_); refine goesL_ (some 11) rfl rfl Try.func91 (by kernel_rfl) rfl #[.int .i64 t489] rfl (by (try simp only [List.map_toArray, List.map_cons, List.map_nil]); first | done | rfl | (simp only [List.length_drop, List.length_take]; rfl)) ?_; (with_reducible refine (spec_l1Same.calls k t489 t490 _ A6.out).mono ?_); rintro e w8 ⟨v491, rfl, ho0, hb⟩; refine ⟨_, rfl, ?_⟩; have n0 := Az (Kd.R_lower ho0 (below_size (bU0 HB.out))); have n1 := Az (below_step (bU0 HB.out) hb); clear HB; have HO492 := n0; have HB := n1; clear n0 n1; (try clear hb); (try clear hb2); (try clear hk); (try clear hi); (try clear ho0); obtain ⟨Ao9, co9, eo9⟩ := Kd.R_slice HO492.out; subst eo9) | ((with_reducible refine gate_callee (f := 93) rfl ?_); refine goesL_ (some 15) rfl rfl Try.func93 (by kernel_rfl) rfl #[.slice (some ad488) l0.length c0, .int .i64 0, .slice Ao9 t490.length co9, .slice Ao9 t490.length co9, .bool true] rfl (by (try simp only [List.map_toArray, List.map_cons, List.map_nil]); first | done | rfl | (simp only [List.length_drop, List.length_take]; rfl)) ?_; (with_reducible refine (spec_l5Count.calls k _ _ l0 0 _ _ t490 _ _ t490 true t493 _ ?side1 ?side2 ?side3 ?side4 ?side5 ?side6 A7.out).mono ?_); (case side1 => exact cU (Kd.C_below HR0.out HB.out)); (case side2 => exact HC0.out); (case side3 => exact cU ((Kd.R_reads' HO492.out).2.2)); (case side4 => exact (Kd.R_reads' HO492.out).2.1); (case side5 => exact cU ((Kd.R_reads' HO492.out).2.2)); (case side6 => exact (Kd.R_reads' HO492.out).2.1); rintro e w10 ⟨rfl, hb⟩; refine ⟨_, rfl, ?_⟩; have n0 := Az (Kd.R_below (rU HO492.out) hb); have n1 := Az (below_step (bU0 HB.out) hb); clear HO492 HB; have HO492 := n0; have HB := n1; clear n0 n1; (try clear hb); (try clear hb2); (try clear hk); (try clear hi)))
   go_ret
   exact ⟨rE, bU0 HB.out⟩
  ·
   rw [if_neg c4] at H
   exact absurd H (by simp)
 ·
  replace c3 := Bool.eq_false_iff.mpr c3; subst c3
  have H1 : (some (-1)) = some r := by rw [if_neg (show ¬ (false = true) by decide)] at H; exact H
  clear H; have H := H1; clear H1; obtain rfl := Option.some.inj H
  go_enter Try.func43, Try.ntmps43
  go_wp2_with (first | ((with_reducible refine gate_callee (f := 90) rfl ?_); refine goesL_ (some 5) rfl rfl Try.func90 (by kernel_rfl) rfl #[.slice A0 l0.length c0] rfl (by (try simp only [List.map_toArray, List.map_cons, List.map_nil]); first | done | rfl | (simp only [List.length_drop, List.length_take]; rfl)) ?_; (with_reducible refine (spec_l5Small.calls k _ _ l0 false _ ?side1 ?side2 A2.out).mono ?_); (case side1 => exact cU (HR0.out)); (case side2 => exact HC0.out); rintro e w' ⟨rfl, ⟨nd, rfl⟩⟩; refine ⟨_, rfl, ?_⟩))
  go_ret
  exact ⟨rE, bU0 HB.out⟩
def stepW (k : Nat) (m : Int) (l : List (List Int)) : Option Int := (impl_orbits.f k l).bind fun o => ((slices_Max_int_int.f k o).bind fun x => (if x = 0 then some (wrap64 (m + 1)) else some m))
set_option maxHeartbeats 8000000 in
set_option maxRecDepth 100000 in
theorem tellW.calls (w0 : World) (g : Nat) (hg : w0.heap.size ≤ g) (k : Nat) (s s' : Int) (l : List (List Int)) (A : Option Addr) (c : Nat) (w : World) (ok : Nat → Prop) (hI : oneI w0 g s w ok) (hF : Kd.F (Kd.slice 3 (Kd.int .i64)) w (fun q => ¬ ok q) A l.length l) (hc : l.length ≤ c) (h : stepW k s l = some s') :
    Calls Try.prog 97 #[.slice A l.length c, .pointer (some ⟨g, 0, none⟩)] w fun e w' => e = .returned (.tuple #[]) ∧ ∃ ok', oneI w0 g s' w' ok' ∧ (∀ q, ok' q → ok q ∨ w.heap.size ≤ q) ∧ Kept w w' ok := by
  unfold stepW at h
  obtain ⟨o, A10, h⟩ := Option.bind_eq_some_iff.mp h; obtain ⟨x, A20, h⟩ := Option.bind_eq_some_iff.mp h; have A1 := Az A10; have A2 := Az A20; have HI := Az hI; have HF := Az hF; have HC := Az hc; have HB := Az (Below.refl w.heap.size w); clear A10 A20 hI hF hc
  by_cases c1 : x = 0
  ·
    rw [if_pos c1] at h; have c1b0 := beq_iff_eq.mpr c1; obtain rfl := Option.some.inj h; clear h c1
    go_enter Try.func97, Try.ntmps97
    go_wp2_with (first | (go_at_call 99; (with_reducible refine (impl_orbits.calls k _ _ l o _ ?side1 ?side2 A1.out).mono ?_); (case side1 => exact Kd.C_below (Kd.F_now HF.out) (bU0 HB.out)); (case side2 => exact HC.out); rintro e w1 ⟨v1, rfl, ho, hb⟩; obtain ⟨A3_, d3_, ev1⟩ := Kd.R_slice ho; subst ev1; have HO1 := Az ho; have n0 := Az (below_step (bU0 HB.out) hb); clear HB ho hb; have HB := n0; clear n0) | (go_at_call 98; (with_reducible refine (slices_Max_int_int.calls k _ _ o x _ ?side1 ?side2 A2.out).mono ?_); (case side1 => exact (Kd.R_reads' HO1.out).2.2); (case side2 => exact (Kd.R_reads' HO1.out).2.1); rintro e w2 ⟨rfl, hb⟩; have n0 := Az (below_step (bU0 HB.out) hb); clear HB hb; have HB := n0; clear n0; have hcz0 : w2.cell? ⟨g, 0, none⟩ = some (.int .i64 s) := (blk_cell (blk_below HI.out.2.1 HB.out) 0).trans rfl; have hfz0 := blk_frozen (blk_below HI.out.2.1 HB.out) 0) |  ((with_reducible refine gate_store (p := 1) (t := 3) rfl ?_); refine store_event (w1 := w2.setCell ⟨g, 0, none⟩ (.int .i64 (wrap64 (s + 1)))) rfl rfl rfl ?hr ?_; (case hr => first | (go_simp; done) | (go_simp; rfl)); intro w3 hw3))
    first | go_end0 | ((try simp only [Exit.inBlock, Exit.then]); refine bodyPost_ret (results_none rfl _ _ _) rfl ?_)
    rw [hw3]; have HI2 := oneI.below HI.out HB.out
    exact ⟨rfl, ok, (oneI.put HI2 hg _).1, fun q hq => Or.inl hq, Kept.then_ (Kept.of_below HB.out ok) (oneI.put HI2 hg _).2 (fun q hq => Or.inl hq)⟩
  ·
    rw [if_neg c1] at h; have c1b0 := beq_eq_false_iff_ne.mpr c1; obtain rfl := Option.some.inj h; clear h c1
    go_enter Try.func97, Try.ntmps97
    go_wp2_with (first | (go_at_call 99; (with_reducible refine (impl_orbits.calls k _ _ l o _ ?side1 ?side2 A1.out).mono ?_); (case side1 => exact Kd.C_below (Kd.F_now HF.out) (bU0 HB.out)); (case side2 => exact HC.out); rintro e w1 ⟨v1, rfl, ho, hb⟩; obtain ⟨A3_, d3_, ev1⟩ := Kd.R_slice ho; subst ev1; have HO1 := Az ho; have n0 := Az (below_step (bU0 HB.out) hb); clear HB ho hb; have HB := n0; clear n0) | (go_at_call 98; (with_reducible refine (slices_Max_int_int.calls k _ _ o x _ ?side1 ?side2 A2.out).mono ?_); (case side1 => exact (Kd.R_reads' HO1.out).2.2); (case side2 => exact (Kd.R_reads' HO1.out).2.1); rintro e w2 ⟨rfl, hb⟩; have n0 := Az (below_step (bU0 HB.out) hb); clear HB hb; have HB := n0; clear n0))
    first | go_end0 | ((try simp only [Exit.inBlock, Exit.then]); refine bodyPost_ret (results_none rfl _ _ _) rfl ?_)
    exact ⟨rfl, ok, oneI.below HI.out HB.out, fun q hq => Or.inl hq, Kept.of_below HB.out ok⟩
def impl_FactorWhole.f (k : Nat) (ts : List (List Int)) : Option Int := (impl_typesSum.f k ts).bind fun n => (if n < 0 then some (-1) else (if n > 4 then some (-1) else (if (ts.length : Int) > 3 then some (-1) else facsG stepW k ts n (0 : Int))))
set_option maxHeartbeats 8000000 in
set_option maxRecDepth 100000 in
theorem impl_FactorWhole.calls (k : Nat) (A0 : Option Addr) (c0 : Nat) (l0 : List (List Int)) (r : Int) (w : World) (hr0 : Kd.C (Kd.slice 3 (Kd.int .i64)) w A0 l0.length l0) (hc0 : l0.length ≤ c0) (h : impl_FactorWhole.f k l0 = some r) :
    Calls Try.prog 44 #[.slice A0 l0.length c0] w fun e w' => e = .returned (.int .i64 r) ∧ Below w.heap.size w w' := by
  have HR0 := Az hr0; have HC0 := Az hc0; have HB := Az (Below.refl w.heap.size w); clear hr0 hc0
  unfold impl_FactorWhole.f at h
  obtain ⟨n, A10, h⟩ := Option.bind_eq_some_iff.mp h; have A1 := Az A10; clear A10
  by_cases c1 : n < 0
  ·
    rw [if_pos c1] at h; have c1b0 := decide_eq_true c1; obtain rfl := Option.some.inj h; clear h c1
    go_enter Try.func44, Try.ntmps44
    go_wp2_with (first | (go_at_call 94; (with_reducible refine (impl_typesSum.calls k _ _ l0 n _ ?side1 ?side2 A1.out).mono ?_); (case side1 => exact Kd.C_below HR0.out (bU0 HB.out)); (case side2 => exact HC0.out); rintro e w1 ⟨rfl, hd⟩; have n0 := Az (below_step (bU0 HB.out) (Drawn0.below hd)); clear HB hd; have HB := n0; clear n0))
    go_ret
    exact ⟨rfl, (bU0 HB.out)⟩
  ·
    rw [if_neg c1] at h; have c1b0 := decide_eq_false c1; clear c1
    by_cases c2 : n > 4
    ·
      rw [if_pos c2] at h; have c2b0 := decide_eq_true c2; obtain rfl := Option.some.inj h; clear h c2
      go_enter Try.func44, Try.ntmps44
      go_wp2_with (first | (go_at_call 94; (with_reducible refine (impl_typesSum.calls k _ _ l0 n _ ?side1 ?side2 A1.out).mono ?_); (case side1 => exact Kd.C_below HR0.out (bU0 HB.out)); (case side2 => exact HC0.out); rintro e w1 ⟨rfl, hd⟩; have n0 := Az (below_step (bU0 HB.out) (Drawn0.below hd)); clear HB hd; have HB := n0; clear n0))
      go_ret
      exact ⟨rfl, (bU0 HB.out)⟩
    ·
      rw [if_neg c2] at h; have c2b0 := decide_eq_false c2; clear c2
      by_cases c3 : (l0.length : Int) > 3
      ·
        rw [if_pos c3] at h; have c3b0 := decide_eq_true c3; have c3b1 : decide (l0.length > 3) = true := decide_eq_true (by omega); obtain rfl := Option.some.inj h; clear h c3
        go_enter Try.func44, Try.ntmps44
        go_wp2_with (first | (go_at_call 94; (with_reducible refine (impl_typesSum.calls k _ _ l0 n _ ?side1 ?side2 A1.out).mono ?_); (case side1 => exact Kd.C_below HR0.out (bU0 HB.out)); (case side2 => exact HC0.out); rintro e w1 ⟨rfl, hd⟩; have n0 := Az (below_step (bU0 HB.out) (Drawn0.below hd)); clear HB hd; have HB := n0; clear n0))
        go_ret
        exact ⟨rfl, (bU0 HB.out)⟩
      ·
        rw [if_neg c3] at h; have c3b0 := decide_eq_false c3; have c3b1 : decide (l0.length > 3) = false := decide_eq_false (by omega); have A2 := Az h; clear h c3
        go_enter Try.func44, Try.ntmps44
        go_wp2_with (first | (go_at_call 94; (with_reducible refine (impl_typesSum.calls k _ _ l0 n _ ?side1 ?side2 A1.out).mono ?_); (case side1 => exact Kd.C_below HR0.out (bU0 HB.out)); (case side2 => exact HC0.out); rintro e w1 ⟨rfl, hd⟩; have n0 := Az (below_step (bU0 HB.out) (Drawn0.below hd)); clear HB hd; have HB := n0; clear n0) | ((with_reducible refine gate_store (p := 4) (t := 3) rfl ?_); go_loud (refine store_event (w1 := w1.alloc (.cells #[.int .i64 0] 3 (0, 0))) rfl rfl rfl ?hr ?_; (case hr => first | (go_simp; done) | (go_simp; exact setCell_new _ _ _ _)); intro w2 hw2; have hb2 : Below w1.heap.size w1 w2 := (by rw [hw2]; exact below_alloc (Below.refl _ _) _); have B_g0 := Az ((by rw [hw2]; exact blk_new _ _) : w2.heap[w1.heap.size]? = some (.cells #[.int .i64 0] 3 (0, 0))); have m0 := Az (below_step (bU0 HB.out) hb2); clear hw2; obtain ⟨g, hgg⟩ : ∃ g_ : Nat, g_ = w1.heap.size := ⟨_, rfl⟩; have HGG := Az ((by rw [hgg]; exact below_size HB.out) : w.heap.size ≤ g); rw [← hgg] at B_g0; rw [← hgg]; clear hb2 HB hgg; have HB := m0; clear m0)) | (go_at_call 95; go_loud (refine (facs.calls (σ := Int) stepW (oneI w g) 97 _ Try.func97 (by kernel_rfl) rfl g (fun s W W' ok h hb => oneI.below h hb) (fun s W ok q h hq => (by have h2 := h.2.2; subst h2; rw [show q = g from hq]; exact blk_lt h.2.1)) (fun k s s' l A c W ok h hF hc hs => tellW.calls w g HGG.out k s s' l A c W ok h hF hc hs) k A0 c0 l0 n 0 r _ (fun q => q = g) ⟨(bU0 HB.out), B_g0.out, rfl⟩ (Kd.C_below HR0.out (bU0 HB.out)) HC0.out A2.out).mono ?_; rintro e w3 ⟨rfl, ok', i1, i2, i3⟩; have R1 := Az i1; have hcy : w3.cell? ⟨g, 0, none⟩ = some (.int .i64 r) := (blk_cell i1.2.1 0).trans rfl; clear i1 i2 i3)))
        go_ret
        exact ⟨rfl, R1.out.1⟩
def laws_FnExactFactorWhole.f (k : Nat) (l0 : List (List Int)) : Option (Bool) := (laws_szIntSS.f k l0 1048576).bind fun t494 => (if t494 < 0 then (some true) else ((laws_toIntSS.f k l0).bind fun t495 => ((spec_FactorWhole.f k t495).bind fun t498 => ((laws_toIntSS.f k l0).bind fun t499 => ((impl_FactorWhole.f k t499).bind fun t502 => (if t502 = t498 then ((laws_toIntSS.f k l0).bind fun t503 => ((laws_eqIntSS.f k t499 t503).bind fun t506 => (if t506 = true then (some true) else (some false)))) else (some false)))))))
set_option maxHeartbeats 8000000 in
set_option maxRecDepth 100000 in
theorem laws_FnExactFactorWhole.calls (k : Nat) (A0 : Option Addr) (c0 : Nat) (l0 : List (List Int)) (r : Bool) (w : World) (hr0 : Kd.C (Kd.slice 3 (Kd.int .i64)) w A0 l0.length l0) (hc0 : l0.length ≤ c0) (h : laws_FnExactFactorWhole.f k l0 = some r) :
  Calls Try.prog 8 #[.slice A0 l0.length c0] w fun e w' => e = .returned (.bool r) ∧ Below w.heap.size w w' := by
 have HR0 := Az hr0; have HC0 := Az hc0; clear hr0 hc0; have HB := Az (Below.refl w.heap.size w); have H : ((laws_szIntSS.f k l0 1048576).bind fun t494 => (if t494 < 0 then (some true) else ((laws_toIntSS.f k l0).bind fun t495 => ((spec_FactorWhole.f k t495).bind fun t498 => ((laws_toIntSS.f k l0).bind fun t499 => ((impl_FactorWhole.f k t499).bind fun t502 => (if t502 = t498 then ((laws_toIntSS.f k l0).bind fun t503 => ((laws_eqIntSS.f k t499 t503).bind fun t506 => (if t506 = true then (some true) else (some false)))) else (some false)))))))) = some r := h; clear h; replace H := Option.bind_eq_some_iff.mp H; obtain ⟨t494, A20, H⟩ := H; replace H : (if t494 < 0 then (some true) else ((laws_toIntSS.f k l0).bind fun t495 => ((spec_FactorWhole.f k t495).bind fun t498 => ((laws_toIntSS.f k l0).bind fun t499 => ((impl_FactorWhole.f k t499).bind fun t502 => (if t502 = t498 then ((laws_toIntSS.f k l0).bind fun t503 => ((laws_eqIntSS.f k t499 t503).bind fun t506 => (if t506 = true then (some true) else (some false)))) else (some false))))))) = some r := H; have A2 := Az A20; clear A20
 by_cases c3 : t494 < 0
 ·
  rw [if_pos c3] at H; have c3b0 := decide_eq_true c3; clear c3; obtain rfl := Option.some.inj H
  go_enter Try.func8, Try.ntmps8
  go_wp2_with (first | ((with_reducible refine gate_callee (f := 38) rfl ?_); refine goesL_ (some 9) rfl rfl Try.func38 (by kernel_rfl) rfl #[.slice A0 l0.length c0, .int .i64 1048576] rfl (by (try simp only [List.map_toArray, List.map_cons, List.map_nil]); first | done | rfl | (simp only [List.length_drop, List.length_take]; rfl)) ?_; (with_reducible refine (laws_szIntSS.calls k _ _ l0 1048576 t494 _ ?side1 ?side2 A2.out).mono ?_); (case side1 => exact cU (HR0.out)); (case side2 => exact HC0.out); rintro e w' ⟨rfl, ⟨nd, rfl⟩⟩; refine ⟨_, rfl, ?_⟩))
  go_ret
  exact ⟨rE, bU0 HB.out⟩
 ·
  rw [if_neg c3] at H; have c3b0 := decide_eq_false c3; clear c3; replace H := Option.bind_eq_some_iff.mp H; obtain ⟨t495, A40, H⟩ := H; replace H : ((spec_FactorWhole.f k t495).bind fun t498 => ((laws_toIntSS.f k l0).bind fun t499 => ((impl_FactorWhole.f k t499).bind fun t502 => (if t502 = t498 then ((laws_toIntSS.f k l0).bind fun t503 => ((laws_eqIntSS.f k t499 t503).bind fun t506 => (if t506 = true then (some true) else (some false)))) else (some false))))) = some r := H; have A4 := Az A40; clear A40; replace H := Option.bind_eq_some_iff.mp H; obtain ⟨t498, A50, H⟩ := H; replace H : ((laws_toIntSS.f k l0).bind fun t499 => ((impl_FactorWhole.f k t499).bind fun t502 => (if t502 = t498 then ((laws_toIntSS.f k l0).bind fun t503 => ((laws_eqIntSS.f k t499 t503).bind fun t506 => (if t506 = true then (some true) else (some false)))) else (some false)))) = some r := H; have A5 := Az A50; clear A50; replace H := Option.bind_eq_some_iff.mp H; obtain ⟨t499, A60, H⟩ := H; replace H : ((impl_FactorWhole.f k t499).bind fun t502 => (if t502 = t498 then ((laws_toIntSS.f k l0).bind fun t503 => ((laws_eqIntSS.f k t499 t503).bind fun t506 => (if t506 = true then (some true) else (some false)))) else (some false))) = some r := H; have A6 := Az A60; clear A60; replace H := Option.bind_eq_some_iff.mp H; obtain ⟨t502, A70, H⟩ := H; replace H : (if t502 = t498 then ((laws_toIntSS.f k l0).bind fun t503 => ((laws_eqIntSS.f k t499 t503).bind fun t506 => (if t506 = true then (some true) else (some false)))) else (some false)) = some r := H; have A7 := Az A70; clear A70
  by_cases c8 : t502 = t498
  ·
   rw [if_pos c8] at H; have c8b0 := beq_iff_eq.mpr c8; have c8b1 := bne_eq_false_iff_eq.mpr c8; clear c8; replace H := Option.bind_eq_some_iff.mp H; obtain ⟨t503, A90, H⟩ := H; replace H : ((laws_eqIntSS.f k t499 t503).bind fun t506 => (if t506 = true then (some true) else (some false))) = some r := H; have A9 := Az A90; clear A90; replace H := Option.bind_eq_some_iff.mp H; obtain ⟨t506, A100, H⟩ := H; replace H : (if t506 = true then (some true) else (some false)) = some r := H; have A10 := Az A100; clear A100
   by_cases c11 : t506 = true
   ·
    subst c11
    have H1 : (some true) = some r := by rw [if_pos rfl] at H; exact H
    clear H; have H := H1; clear H1; obtain rfl := Option.some.inj H
    go_enter Try.func8, Try.ntmps8
    go_wp2_with (first | ((with_reducible refine gate_callee (f := 38) rfl ?_); refine goesL_ (some 9) rfl rfl Try.func38 (by kernel_rfl) rfl #[.slice A0 l0.length c0, .int .i64 1048576] rfl (by (try simp only [List.map_toArray, List.map_cons, List.map_nil]); first | done | rfl | (simp only [List.length_drop, List.length_take]; rfl)) ?_; (with_reducible refine (laws_szIntSS.calls k _ _ l0 1048576 t494 _ ?side1 ?side2 A2.out).mono ?_); (case side1 => exact cU (HR0.out)); (case side2 => exact HC0.out); rintro e w' ⟨rfl, ⟨nd, rfl⟩⟩; refine ⟨_, rfl, ?_⟩) | ((with_reducible refine gate_callee (f := 40) rfl ?_); refine goesL_ (some 13) rfl rfl Try.func40 (by kernel_rfl) rfl #[.slice A0 l0.length c0] rfl (by (try simp only [List.map_toArray, List.map_cons, List.map_nil]); first | done | rfl | (simp only [List.length_drop, List.length_take]; rfl)) ?_; (with_reducible refine (laws_toIntSS.calls k _ _ l0 t495 _ ?side1 ?side2 A4.out).mono ?_); (case side1 => exact cU (HR0.out)); (case side2 => exact HC0.out); rintro e w12 ⟨v496, rfl, ho0, hb⟩; refine ⟨_, rfl, ?_⟩; have n0 := Az (Kd.S_lower ho0 (below_size (bU0 HB.out))); have n1 := Az (below_step (bU0 HB.out) hb); clear HB; have HO497 := n0; have HB := n1; clear n0 n1; (try clear hb); (try clear hb2); (try clear hk); (try clear hi); (try clear ho0); obtain ⟨Ao13, co13, eo13⟩ := Kd.S_slice HO497.out; subst eo13) | ((with_reducible refine gate_callee (f := 43) rfl ?_); refine goesL_ (some 14) rfl rfl Try.func43 (by kernel_rfl) rfl #[.slice Ao13 t495.length co13] rfl (by (try simp only [List.map_toArray, List.map_cons, List.map_nil]); first | done | rfl | (simp only [List.length_drop, List.length_take]; rfl)) ?_; (with_reducible refine (spec_FactorWhole.calls k _ _ t495 t498 _ ?side1 ?side2 A5.out).mono ?_); (case side1 => exact cU ((Kd.S_reads' HO497.out).2.2)); (case side2 => exact (Kd.S_reads' HO497.out).2.1); rintro e w14 ⟨rfl, hb⟩; refine ⟨_, rfl, ?_⟩; have n0 := Az (Kd.S_below (sU HO497.out) hb); have n1 := Az (below_step (bU0 HB.out) hb); clear HO497 HB; have HO497 := n0; have HB := n1; clear n0 n1; (try clear hb); (try clear hb2); (try clear hk); (try clear hi)) | ((with_reducible refine gate_callee (f := 40) rfl ?_); refine goesL_ (some 16) rfl rfl Try.func40 (by kernel_rfl) rfl #[.slice A0 l0.length c0] rfl (by (try simp only [List.map_toArray, List.map_cons, List.map_nil]); first | done | rfl | (simp only [List.length_drop, List.length_take]; rfl)) ?_; (with_reducible refine (laws_toIntSS.calls k _ _ l0 t499 _ ?side1 ?side2 A6.out).mono ?_); (case side1 => exact cU (Kd.C_below HR0.out HB.out)); (case side2 => exact HC0.out); rintro e w15 ⟨v500, rfl, ho0, hb⟩; refine ⟨_, rfl, ?_⟩; have n0 := Az (Kd.S_elder' (sU HO497.out) (Kd.S_base ho0) hb); have n1 := Az (Kd.S_lower (Kd.S_new' ho0 (Kd.S_lt (sU HO497.out))) (below_size (bU0 HB.out))); have n2 := Az (below_step (bU0 HB.out) hb); clear HO497 HB; have HO497 := n0; have HO501 := n1; have HB := n2; clear n0 n1 n2; (try clear hb); (try clear hb2); (try clear hk); (try clear hi); (try clear ho0); obtain ⟨Ao16, co16, eo16⟩ := Kd.S_slice HO501.out; subst eo16) | ((with_reducible refine gate_callee (f := 44) rfl ?_); refine goesL_ (some 18) rfl rfl Try.func44 (by kernel_rfl) rfl #[.slice Ao16 t499.length co16] rfl (by (try simp only [List.map_toArray, List.map_cons, List.map_nil]); first | done | rfl | (simp only [List.length_drop, List.length_take]; rfl)) ?_; (with_reducible refine (impl_FactorWhole.calls k _ _ t499 t502 _ ?side1 ?side2 A7.out).mono ?_); (case side1 => exact cU ((Kd.S_reads' HO501.out).2.2)); (case side2 => exact (Kd.S_reads' HO501.out).2.1); rintro e w17 ⟨rfl, hb⟩; refine ⟨_, rfl, ?_⟩; have n0 := Az (Kd.S_below (sU HO497.out) hb); have n1 := Az (Kd.S_below (sU HO501.out) hb); have n2 := Az (below_step (bU0 HB.out) hb); clear HO497 HO501 HB; have HO497 := n0; have HO501 := n1; have HB := n2; clear n0 n1 n2; (try clear hb); (try clear hb2); (try clear hk); (try clear hi)) | ((with_reducible refine gate_callee (f := 40) rfl ?_); refine goesL_ (some 24) rfl rfl Try.func40 (by kernel_rfl) rfl #[.slice A0 l0.length c0] rfl (by (try simp only [List.map_toArray, List.map_cons, List.map_nil]); first | done | rfl | (simp only [List.length_drop, List.length_take]; rfl)) ?_; (with_reducible refine (laws_toIntSS.calls k _ _ l0 t503 _ ?side1 ?side2 A9.out).mono ?_); (case side1 => exact cU (Kd.C_below HR0.out HB.out)); (case side2 => exact HC0.out); rintro e w18 ⟨v504, rfl, ho0, hb⟩; refine ⟨_, rfl, ?_⟩; have n0 := Az (Kd.S_elder' (sU HO497.out) (Kd.S_base ho0) hb); have n1 := Az (Kd.S_elder' (sU HO501.out) (Kd.S_base ho0) hb); have n2 := Az (Kd.S_lower (Kd.S_new' (Kd.S_new' ho0 (Kd.S_lt (sU HO497.out))) (Kd.S_lt (sU HO501.out))) (below_size (bU0 HB.out))); have n3 := Az (below_step (bU0 HB.out) hb); clear HO497 HO501 HB; have HO497 := n0; have HO501 := n1; have HO505 := n2; have HB := n3; clear n0 n1 n2 n3; (try clear hb); (try clear hb2); (try clear hk); (try clear hi); (try clear ho0); obtain ⟨Ao19, co19, eo19⟩ := Kd.S_slice HO505.out; subst eo19) | ((with_reducible refine gate_callee (f := 42) rfl ?_); refine goesL_ (some 25) rfl rfl Try.func42 (by kernel_rfl) rfl #[.slice Ao16 t499.length co16, .slice Ao19 t503.length co19] rfl (by (try simp only [List.map_toArray, List.map_cons, List.map_nil]); first | done | rfl | (simp only [List.length_drop, List.length_take]; rfl)) ?_; (with_reducible refine (laws_eqIntSS.calls k _ _ t499 _ _ t503 true _ ?side1 ?side2 ?side3 ?side4 A10.out).mono ?_); (case side1 => exact cU ((Kd.S_reads' HO501.out).2.2)); (case side2 => exact (Kd.S_reads' HO501.out).2.1); (case side3 => exact cU ((Kd.S_reads' HO505.out).2.2)); (case side4 => exact (Kd.S_reads' HO505.out).2.1); rintro e w' ⟨rfl, ⟨nd, rfl⟩⟩; refine ⟨_, rfl, ?_⟩))
    go_ret
    exact ⟨rE, bU0 HB.out⟩
   ·
    replace c11 := Bool.eq_false_iff.mpr c11; subst c11
    have H1 : (some false) = some r := by rw [if_neg (show ¬ (false = true) by decide)] at H; exact H
    clear H; have H := H1; clear H1; obtain rfl := Option.some.inj H
    go_enter Try.func8, Try.ntmps8
    go_wp2_with (first | ((with_reducible refine gate_callee (f := 38) rfl ?_); refine goesL_ (some 9) rfl rfl Try.func38 (by kernel_rfl) rfl #[.slice A0 l0.length c0, .int .i64 1048576] rfl (by (try simp only [List.map_toArray, List.map_cons, List.map_nil]); first | done | rfl | (simp only [List.length_drop, List.length_take]; rfl)) ?_; (with_reducible refine (laws_szIntSS.calls k _ _ l0 1048576 t494 _ ?side1 ?side2 A2.out).mono ?_); (case side1 => exact cU (HR0.out)); (case side2 => exact HC0.out); rintro e w' ⟨rfl, ⟨nd, rfl⟩⟩; refine ⟨_, rfl, ?_⟩) | ((with_reducible refine gate_callee (f := 40) rfl ?_); refine goesL_ (some 13) rfl rfl Try.func40 (by kernel_rfl) rfl #[.slice A0 l0.length c0] rfl (by (try simp only [List.map_toArray, List.map_cons, List.map_nil]); first | done | rfl | (simp only [List.length_drop, List.length_take]; rfl)) ?_; (with_reducible refine (laws_toIntSS.calls k _ _ l0 t495 _ ?side1 ?side2 A4.out).mono ?_); (case side1 => exact cU (HR0.out)); (case side2 => exact HC0.out); rintro e w20 ⟨v496, rfl, ho0, hb⟩; refine ⟨_, rfl, ?_⟩; have n0 := Az (Kd.S_lower ho0 (below_size (bU0 HB.out))); have n1 := Az (below_step (bU0 HB.out) hb); clear HB; have HO497 := n0; have HB := n1; clear n0 n1; (try clear hb); (try clear hb2); (try clear hk); (try clear hi); (try clear ho0); obtain ⟨Ao21, co21, eo21⟩ := Kd.S_slice HO497.out; subst eo21) | ((with_reducible refine gate_callee (f := 43) rfl ?_); refine goesL_ (some 14) rfl rfl Try.func43 (by kernel_rfl) rfl #[.slice Ao21 t495.length co21] rfl (by (try simp only [List.map_toArray, List.map_cons, List.map_nil]); first | done | rfl | (simp only [List.length_drop, List.length_take]; rfl)) ?_; (with_reducible refine (spec_FactorWhole.calls k _ _ t495 t498 _ ?side1 ?side2 A5.out).mono ?_); (case side1 => exact cU ((Kd.S_reads' HO497.out).2.2)); (case side2 => exact (Kd.S_reads' HO497.out).2.1); rintro e w22 ⟨rfl, hb⟩; refine ⟨_, rfl, ?_⟩; have n0 := Az (Kd.S_below (sU HO497.out) hb); have n1 := Az (below_step (bU0 HB.out) hb); clear HO497 HB; have HO497 := n0; have HB := n1; clear n0 n1; (try clear hb); (try clear hb2); (try clear hk); (try clear hi)) | ((with_reducible refine gate_callee (f := 40) rfl ?_); refine goesL_ (some 16) rfl rfl Try.func40 (by kernel_rfl) rfl #[.slice A0 l0.length c0] rfl (by (try simp only [List.map_toArray, List.map_cons, List.map_nil]); first | done | rfl | (simp only [List.length_drop, List.length_take]; rfl)) ?_; (with_reducible refine (laws_toIntSS.calls k _ _ l0 t499 _ ?side1 ?side2 A6.out).mono ?_); (case side1 => exact cU (Kd.C_below HR0.out HB.out)); (case side2 => exact HC0.out); rintro e w23 ⟨v500, rfl, ho0, hb⟩; refine ⟨_, rfl, ?_⟩; have n0 := Az (Kd.S_elder' (sU HO497.out) (Kd.S_base ho0) hb); have n1 := Az (Kd.S_lower (Kd.S_new' ho0 (Kd.S_lt (sU HO497.out))) (below_size (bU0 HB.out))); have n2 := Az (below_step (bU0 HB.out) hb); clear HO497 HB; have HO497 := n0; have HO501 := n1; have HB := n2; clear n0 n1 n2; (try clear hb); (try clear hb2); (try clear hk); (try clear hi); (try clear ho0); obtain ⟨Ao24, co24, eo24⟩ := Kd.S_slice HO501.out; subst eo24) | ((with_reducible refine gate_callee (f := 44) rfl ?_); refine goesL_ (some 18) rfl rfl Try.func44 (by kernel_rfl) rfl #[.slice Ao24 t499.length co24] rfl (by (try simp only [List.map_toArray, List.map_cons, List.map_nil]); first | done | rfl | (simp only [List.length_drop, List.length_take]; rfl)) ?_; (with_reducible refine (impl_FactorWhole.calls k _ _ t499 t502 _ ?side1 ?side2 A7.out).mono ?_); (case side1 => exact cU ((Kd.S_reads' HO501.out).2.2)); (case side2 => exact (Kd.S_reads' HO501.out).2.1); rintro e w25 ⟨rfl, hb⟩; refine ⟨_, rfl, ?_⟩; have n0 := Az (Kd.S_below (sU HO497.out) hb); have n1 := Az (Kd.S_below (sU HO501.out) hb); have n2 := Az (below_step (bU0 HB.out) hb); clear HO497 HO501 HB; have HO497 := n0; have HO501 := n1; have HB := n2; clear n0 n1 n2; (try clear hb); (try clear hb2); (try clear hk); (try clear hi)) | ((with_reducible refine gate_callee (f := 40) rfl ?_); refine goesL_ (some 24) rfl rfl Try.func40 (by kernel_rfl) rfl #[.slice A0 l0.length c0] rfl (by (try simp only [List.map_toArray, List.map_cons, List.map_nil]); first | done | rfl | (simp only [List.length_drop, List.length_take]; rfl)) ?_; (with_reducible refine (laws_toIntSS.calls k _ _ l0 t503 _ ?side1 ?side2 A9.out).mono ?_); (case side1 => exact cU (Kd.C_below HR0.out HB.out)); (case side2 => exact HC0.out); rintro e w26 ⟨v504, rfl, ho0, hb⟩; refine ⟨_, rfl, ?_⟩; have n0 := Az (Kd.S_elder' (sU HO497.out) (Kd.S_base ho0) hb); have n1 := Az (Kd.S_elder' (sU HO501.out) (Kd.S_base ho0) hb); have n2 := Az (Kd.S_lower (Kd.S_new' (Kd.S_new' ho0 (Kd.S_lt (sU HO497.out))) (Kd.S_lt (sU HO501.out))) (below_size (bU0 HB.out))); have n3 := Az (below_step (bU0 HB.out) hb); clear HO497 HO501 HB; have HO497 := n0; have HO501 := n1; have HO505 := n2; have HB := n3; clear n0 n1 n2 n3; (try clear hb); (try clear hb2); (try clear hk); (try clear hi); (try clear ho0); obtain ⟨Ao27, co27, eo27⟩ := Kd.S_slice HO505.out; subst eo27) | ((with_reducible refine gate_callee (f := 42) rfl ?_); refine goesL_ (some 25) rfl rfl Try.func42 (by kernel_rfl) rfl #[.slice Ao24 t499.length co24, .slice Ao27 t503.length co27] rfl (by (try simp only [List.map_toArray, List.map_cons, List.map_nil]); first | done | rfl | (simp only [List.length_drop, List.length_take]; rfl)) ?_; (with_reducible refine (laws_eqIntSS.calls k _ _ t499 _ _ t503 false _ ?side1 ?side2 ?side3 ?side4 A10.out).mono ?_); (case side1 => exact cU ((Kd.S_reads' HO501.out).2.2)); (case side2 => exact (Kd.S_reads' HO501.out).2.1); (case side3 => exact cU ((Kd.S_reads' HO505.out).2.2)); (case side4 => exact (Kd.S_reads' HO505.out).2.1); rintro e w' ⟨rfl, ⟨nd, rfl⟩⟩; refine ⟨_, rfl, ?_⟩))
    go_ret
    exact ⟨rE, bU0 HB.out⟩
  ·
   rw [if_neg c8] at H; have c8b0 := beq_eq_false_iff_ne.mpr c8; have c8b1 := bne_iff_ne.mpr c8; obtain rfl := Option.some.inj H
   go_enter Try.func8, Try.ntmps8
   go_wp2_with (first | ((with_reducible refine gate_callee (f := 38) rfl ?_); refine goesL_ (some 9) rfl rfl Try.func38 (by kernel_rfl) rfl #[.slice A0 l0.length c0, .int .i64 1048576] rfl (by (try simp only [List.map_toArray, List.map_cons, List.map_nil]); first | done | rfl | (simp only [List.length_drop, List.length_take]; rfl)) ?_; (with_reducible refine (laws_szIntSS.calls k _ _ l0 1048576 t494 _ ?side1 ?side2 A2.out).mono ?_); (case side1 => exact cU (HR0.out)); (case side2 => exact HC0.out); rintro e w' ⟨rfl, ⟨nd, rfl⟩⟩; refine ⟨_, rfl, ?_⟩) | ((with_reducible refine gate_callee (f := 40) rfl ?_); refine goesL_ (some 13) rfl rfl Try.func40 (by kernel_rfl) rfl #[.slice A0 l0.length c0] rfl (by (try simp only [List.map_toArray, List.map_cons, List.map_nil]); first | done | rfl | (simp only [List.length_drop, List.length_take]; rfl)) ?_; (with_reducible refine (laws_toIntSS.calls k _ _ l0 t495 _ ?side1 ?side2 A4.out).mono ?_); (case side1 => exact cU (HR0.out)); (case side2 => exact HC0.out); rintro e w28 ⟨v496, rfl, ho0, hb⟩; refine ⟨_, rfl, ?_⟩; have n0 := Az (Kd.S_lower ho0 (below_size (bU0 HB.out))); have n1 := Az (below_step (bU0 HB.out) hb); clear HB; have HO497 := n0; have HB := n1; clear n0 n1; (try clear hb); (try clear hb2); (try clear hk); (try clear hi); (try clear ho0); obtain ⟨Ao29, co29, eo29⟩ := Kd.S_slice HO497.out; subst eo29) | ((with_reducible refine gate_callee (f := 43) rfl ?_); refine goesL_ (some 14) rfl rfl Try.func43 (by kernel_rfl) rfl #[.slice Ao29 t495.length co29] rfl (by (try simp only [List.map_toArray, List.map_cons, List.map_nil]); first | done | rfl | (simp only [List.length_drop, List.length_take]; rfl)) ?_; (with_reducible refine (spec_FactorWhole.calls k _ _ t495 t498 _ ?side1 ?side2 A5.out).mono ?_); (case side1 => exact cU ((Kd.S_reads' HO497.out).2.2)); (case side2 => exact (Kd.S_reads' HO497.out).2.1); rintro e w30 ⟨rfl, hb⟩; refine ⟨_, rfl, ?_⟩; have n0 := Az (Kd.S_below (sU HO497.out) hb); have n1 := Az (below_step (bU0 HB.out) hb); clear HO497 HB; have HO497 := n0; have HB := n1; clear n0 n1; (try clear hb); (try clear hb2); (try clear hk); (try clear hi)) | ((with_reducible refine gate_callee (f := 40) rfl ?_); refine goesL_ (some 16) rfl rfl Try.func40 (by kernel_rfl) rfl #[.slice A0 l0.length c0] rfl (by (try simp only [List.map_toArray, List.map_cons, List.map_nil]); first | done | rfl | (simp only [List.length_drop, List.length_take]; rfl)) ?_; (with_reducible refine (laws_toIntSS.calls k _ _ l0 t499 _ ?side1 ?side2 A6.out).mono ?_); (case side1 => exact cU (Kd.C_below HR0.out HB.out)); (case side2 => exact HC0.out); rintro e w31 ⟨v500, rfl, ho0, hb⟩; refine ⟨_, rfl, ?_⟩; have n0 := Az (Kd.S_elder' (sU HO497.out) (Kd.S_base ho0) hb); have n1 := Az (Kd.S_lower (Kd.S_new' ho0 (Kd.S_lt (sU HO497.out))) (below_size (bU0 HB.out))); have n2 := Az (below_step (bU0 HB.out) hb); clear HO497 HB; have HO497 := n0; have HO501 := n1; have HB := n2; clear n0 n1 n2; (try clear hb); (try clear hb2); (try clear hk); (try clear hi); (try clear ho0); obtain ⟨Ao32, co32, eo32⟩ := Kd.S_slice HO501.out; subst eo32) | ((with_reducible refine gate_callee (f := 44) rfl ?_); refine goesL_ (some 18) rfl rfl Try.func44 (by kernel_rfl) rfl #[.slice Ao32 t499.length co32] rfl (by (try simp only [List.map_toArray, List.map_cons, List.map_nil]); first | done | rfl | (simp only [List.length_drop, List.length_take]; rfl)) ?_; (with_reducible refine (impl_FactorWhole.calls k _ _ t499 t502 _ ?side1 ?side2 A7.out).mono ?_); (case side1 => exact cU ((Kd.S_reads' HO501.out).2.2)); (case side2 => exact (Kd.S_reads' HO501.out).2.1); rintro e w33 ⟨rfl, hb⟩; refine ⟨_, rfl, ?_⟩; have n0 := Az (Kd.S_below (sU HO497.out) hb); have n1 := Az (Kd.S_below (sU HO501.out) hb); have n2 := Az (below_step (bU0 HB.out) hb); clear HO497 HO501 HB; have HO497 := n0; have HO501 := n1; have HB := n2; clear n0 n1 n2; (try clear hb); (try clear hb2); (try clear hk); (try clear hi)))
   go_ret
   exact ⟨rE, bU0 HB.out⟩
def laws_FnExactFactorWhole.Pure : Prop := ∀ (l0 : List (List Int)), l0.length ≤ maxLen → (∀ y ∈ l0, y.length ≤ maxLen) → ∃ k, laws_FnExactFactorWhole.f k l0 = some true
end Go.Proofs.Ytggghijamfmenaa.PL

set_option linter.unusedVariables false
set_option linter.unusedSimpArgs false
namespace Go.Proofs.Ytggghijamfmenaa.PL
open Go.RowKit Go.Proofs.YtggghijamfmenaaW.PrintWords Go.Proofs.YtggghijamfmenaaW.PrintLast Go.Proofs.YtggghijamfmenaaW.PrintMore
theorem Ev.s {α : Type} {g : Nat → Option α} {r : α} (h : Ev (fun k => g (k + 1)) r) : Ev g r := Ev.step (fun _ => rfl) h
theorem Ev.const {α : Type} {o : Option α} {r : α} (h : o = some r) : Ev (fun _ => o) r := ⟨0, fun _ _ => h⟩
theorem Ev.uniq {α : Type} {g : Nat → Option α} {r r' : α} (h : Ev g r) (h' : Ev g r') : r = r' := by
  obtain ⟨K, h⟩ := h
  obtain ⟨K', h'⟩ := h'
  have h1 := h (max K K') (by omega)
  rw [h' (max K K') (by omega)] at h1
  exact (Option.some.inj h1).symm
theorem w64 {x : Int} (h1 : -9223372036854775808 ≤ x) (h2 : x < 9223372036854775808) : wrap64 x = x := by unfold wrap64; omega
theorem w64n {i : Nat} (h : i < 4611686018427387904) : wrap64 ((i : Int) + 1) = ((i + 1 : Nat) : Int) := by rw [w64 (by omega) (by omega)]; omega
theorem rd_lt (l : List Int) (i : Nat) (h : i < l.length) : rd l (i : Int) = l[i] := by
  unfold rd
  rw [Int.toNat_natCast, List.getD_eq_getElem?_getD, List.getElem?_eq_getElem h]
  rfl
theorem toIntS_run (l : List Int) (hl : l.length ≤ 1048576) : ∀ (d : Nat) (m : List Int) (i : Nat), l.length - i = d → i ≤ l.length → m.length = l.length → m.take i = l.take i → Ev (fun k => laws_toIntS.l0 k l m i) l
  | 0, m, i, hd, hi, hm, ht => by
    refine Ev.s ?_
    simp only [laws_toIntS.l0, show ¬ (i : Int) < (l.length : Int) by omega, if_false]
    have hi' : i = l.length := by omega
    subst hi'
    rw [List.take_length] at ht
    rw [← hm, List.take_length] at ht
    exact Ev.const (by rw [ht])
  | d + 1, m, i, hd, hi, hm, ht => by
    have hlt : i < l.length := by omega
    refine Ev.s ?_
    simp only [laws_toIntS.l0, show (i : Int) < (l.length : Int) by omega, show (0 : Int) ≤ i by omega, show (i : Int) < (m.length : Int) by omega, if_true]
    rw [w64 (x := (i : Int) + 1) (by omega) (by omega), show ((i : Int) + 1) = ((i + 1 : Nat) : Int) by omega]
    refine toIntS_run l hl d _ (i + 1) (by omega) (by omega) (by simpa using hm) ?_
    rw [Int.toNat_natCast, rd_lt l i hlt]
    have h2 : i < m.length := by omega
    rw [List.take_succ_eq_append_getElem (by simpa using h2), List.take_succ_eq_append_getElem hlt, List.take_set_of_le (Nat.le_refl _), ht]
    simp
theorem toIntS_ev (l : List Int) (hl : l.length ≤ 1048576) : Ev (fun k => laws_toIntS.f k l) l := by
  unfold laws_toIntS.f
  simp only [show (0 : Int) ≤ (l.length : Int) by omega, show ((l.length : Int)).toNat ≤ 35184372088832 by omega, if_true]
  exact toIntS_run l hl l.length _ 0 (by omega) (by omega) (by simp) (by simp)
theorem eqIntS_run (l : List Int) (hl : l.length ≤ 1048576) : ∀ (d : Nat) (i : Nat), l.length - i = d → i ≤ l.length → Ev (fun k => laws_eqIntS.l0 k l l i) true
  | 0, i, hd, hi => by
    refine Ev.s ?_
    simp only [laws_eqIntS.l0, show ¬ (i : Int) < (l.length : Int) by omega, if_false]
    exact Ev.const rfl
  | d + 1, i, hd, hi => by
    refine Ev.s ?_
    simp only [laws_eqIntS.l0, show (i : Int) < (l.length : Int) by omega, show (0 : Int) ≤ i by omega, if_true]
    rw [w64 (x := (i : Int) + 1) (by omega) (by omega), show ((i : Int) + 1) = ((i + 1 : Nat) : Int) by omega]
    exact eqIntS_run l hl d (i + 1) (by omega) (by omega)
theorem eqIntS_same (l : List Int) (hl : l.length ≤ 1048576) : Ev (fun k => laws_eqIntS.f k l l) true := by
  unfold laws_eqIntS.f
  simp only [if_true]
  exact eqIntS_run l hl l.length 0 (by omega) (by omega)
def stl (n : Nat) : List Int := (List.range n).map fun (i : Nat) => (i : Int)
theorem stl_length (n : Nat) : (stl n).length = n := by simp [stl]
theorem stl_rd (n i : Nat) (h : i < n) : rd (stl n) i = i := by
  rw [rd_lt _ _ (by rw [stl_length]; exact h)]
  simp [stl]
theorem stl_succ (n : Nat) : stl (n + 1) = stl n ++ [(n : Int)] := by simp [stl, List.range_succ]
theorem rd_set_self (l : List Int) (i : Nat) (v : Int) (h : i < l.length) : rd (l.set i v) i = v := by
  rw [rd_lt _ _ (by simpa using h)]; simp
theorem rd_set_ne (l : List Int) (i j : Nat) (v : Int) (h : i ≠ j) : rd (l.set i v) j = rd l j := by
  unfold rd
  rw [Int.toNat_natCast, List.getD_eq_getElem?_getD, List.getD_eq_getElem?_getD, List.getElem?_set_ne h]
theorem rd_app_lt (l m : List Int) (i : Nat) (h : i < l.length) : rd (l ++ m) i = rd l i := by
  unfold rd
  rw [Int.toNat_natCast, List.getD_eq_getElem?_getD, List.getD_eq_getElem?_getD, List.getElem?_append_left h]
theorem list_ext (a b : List Int) (h : a.length = b.length) (hr : ∀ i : Nat, i < a.length → rd a i = rd b i) : a = b := by
  refine List.ext_getElem h fun i h1 h2 => ?_
  have := hr i h1
  rwa [rd_lt a i h1, rd_lt b i h2] at this
theorem same_run (n : Nat) (hn : n ≤ 1048576) : ∀ (d i : Nat), n - i = d → i ≤ n → Ev (fun k => spec_l1Same.l0 k n (stl i) i) (stl n)
  | 0, i, hd, hi => by
    refine Ev.s ?_
    simp only [spec_l1Same.l0, show ¬ (i : Int) < (n : Int) by omega, if_false]
    have : i = n := by omega
    subst this
    exact Ev.const rfl
  | d + 1, i, hd, hi => by
    refine Ev.s ?_
    simp only [spec_l1Same.l0, show (i : Int) < (n : Int) by omega, if_true, stl_length, show i < 17592186044416 by omega]
    rw [w64 (x := (i : Int) + 1) (by omega) (by omega), show ((i : Int) + 1) = ((i + 1 : Nat) : Int) by omega, ← stl_succ]
    exact same_run n hn d (i + 1) (by omega) (by omega)
theorem same_ev (n : Nat) (hn : n ≤ 1048576) : Ev (fun k => spec_l1Same.f k n) (stl n) := by
  unfold spec_l1Same.f
  exact same_run n hn n 0 (by omega) (by omega)
theorem still_run (n : Nat) (hn : n ≤ 1048576) : ∀ (d i : Nat) (l : List Int), n - i = d → i ≤ n → l.length = n → l.take i = (stl n).take i → Ev (fun k => impl_still.l0 k l n i) (stl n)
  | 0, i, l, hd, hi, hl, ht => by
    refine Ev.s ?_
    simp only [impl_still.l0, show ¬ (i : Int) < (n : Int) by omega, if_false]
    have : i = n := by omega
    subst this
    have e : (stl i).take i = stl i := by rw [List.take_of_length_le]; rw [stl_length]; exact Nat.le_refl _
    rw [e, List.take_of_length_le (by omega)] at ht
    exact Ev.const (by rw [ht])
  | d + 1, i, l, hd, hi, hl, ht => by
    have hlt : i < l.length := by omega
    refine Ev.s ?_
    simp only [impl_still.l0, show (i : Int) < (n : Int) by omega, show (0 : Int) ≤ i by omega, show (i : Int) < (l.length : Int) by omega, if_true]
    rw [w64 (x := (i : Int) + 1) (by omega) (by omega), show ((i : Int) + 1) = ((i + 1 : Nat) : Int) by omega, Int.toNat_natCast]
    refine still_run n hn d (i + 1) _ (by omega) (by omega) (by simpa using hl) ?_
    have h2 : i < (stl n).length := by rw [stl_length]; omega
    rw [List.take_succ_eq_append_getElem (by simpa using hlt), List.take_succ_eq_append_getElem h2, List.take_set_of_le (Nat.le_refl _), ht]
    simp [stl]
theorem still_ev (n : Nat) (hn : n ≤ 1048576) : Ev (fun k => impl_still.f k n) (stl n) := by
  unfold impl_still.f
  have h1 : n ≤ 35184372088832 := by omega
  have h2 : (0 : Int) ≤ (n : Int) := by omega
  simp only [Int.toNat_natCast, h1, h2, if_true, Option.bind_some, List.length_replicate]
  exact still_run n hn n 0 _ (by omega) (by omega) (by simp) (by simp)
def inR (n : Nat) (p : List Int) : Prop := p.length = n ∧ ∀ i : Nat, i < n → 0 ≤ rd p i ∧ rd p i < n
def closedL (ps : List (List Int)) (n : Nat) (S : Nat → Prop) : Prop := ∀ p ∈ ps, ∀ k, k < n → (S k ↔ S (rd p k).toNat)
def Reach (ps : List (List Int)) (n : Nat) (i j : Nat) : Prop := ∀ S, closedL ps n S → (S i ↔ S j)
theorem Reach.refl (ps : List (List Int)) (n i : Nat) : Reach ps n i i := fun S _ => Iff.rfl
theorem Reach.symm {ps : List (List Int)} {n i j : Nat} (h : Reach ps n i j) : Reach ps n j i := fun S c => (h S c).symm
theorem Reach.trans {ps : List (List Int)} {n i j k : Nat} (h : Reach ps n i j) (h' : Reach ps n j k) : Reach ps n i k := fun S c => (h S c).trans (h' S c)
theorem Reach.step {ps : List (List Int)} {n : Nat} {p : List Int} (hp : p ∈ ps) {k : Nat} (hk : k < n) : Reach ps n k (rd p k).toNat := fun S c => c p hp k hk
def orbI (ps : List (List Int)) (n : Nat) (o : List Int) : Prop := o.length = n ∧ ∀ i : Nat, i < n → 0 ≤ rd o i ∧ rd o i ≤ i ∧ Reach ps n (rd o i).toNat i
def orbOk (ps : List (List Int)) (n : Nat) (o : List Int) : Prop := orbI ps n o ∧ ∀ p ∈ ps, ∀ i : Nat, i < n → rd o (rd p i) = rd o i
theorem stl_orbI (ps : List (List Int)) (n : Nat) : orbI ps n (stl n) := by
  refine ⟨stl_length n, fun i hi => ?_⟩
  rw [stl_rd n i hi]
  exact ⟨by omega, by omega, by rw [Int.toNat_natCast]; exact Reach.refl _ _ _⟩
theorem orbOk_const {ps : List (List Int)} {n : Nat} {o : List Int} (h : orbOk ps n o) (hp : ∀ p ∈ ps, inR n p) {i j : Nat} (hr : Reach ps n i j) : rd o i = rd o j := by
  have := hr (fun k => rd o k = rd o i) (fun p hp' k hk => by
    have h1 := h.2 p hp' k hk
    have h2 := (hp p hp').2 k hk
    have e : (((rd p k).toNat : Nat) : Int) = rd p k := by omega
    show (rd o k = rd o i) ↔ (rd o (((rd p k).toNat : Nat) : Int) = rd o i)
    rw [e, h1])
  exact (this.1 rfl).symm
theorem mn_le (a b : Int) : mn a b ≤ a ∧ mn a b ≤ b ∧ (mn a b = a ∨ mn a b = b) := by unfold mn; split <;> omega
theorem orbI_put {ps : List (List Int)} {n : Nat} {o : List Int} (h : orbI ps n o) {i : Nat} (hi : i < n) {v : Int} (h0 : 0 ≤ v) (h1 : v ≤ i) (hr : Reach ps n v.toNat i) : orbI ps n (o.set i v) := by
  refine ⟨by simpa using h.1, fun j hj => ?_⟩
  by_cases e : i = j
  · subst e
    rw [rd_set_self _ _ _ (by rw [h.1]; exact hi)]
    exact ⟨h0, h1, hr⟩
  · rw [rd_set_ne _ _ _ _ e]
    exact h.2 j hj
def tot : List Int → Int
  | [] => 0
  | x :: xs => x + tot xs
theorem tot_set : ∀ (l : List Int) (i : Nat) (v : Int), i < l.length → tot (l.set i v) + rd l i = tot l + v
  | [], i, v, h => by simp at h
  | x :: xs, 0, v, h => by simp [tot, rd]; omega
  | x :: xs, i + 1, v, h => by
    have ih := tot_set xs i v (by simpa using h)
    have e : rd (x :: xs) ((i + 1 : Nat) : Int) = rd xs i := by unfold rd; rw [Int.toNat_natCast, Int.toNat_natCast]; rfl
    rw [e]
    simp only [List.set_cons_succ, tot]
    omega
theorem tot_nonneg : ∀ (l : List Int), (∀ i : Nat, i < l.length → 0 ≤ rd l i) → 0 ≤ tot l
  | [], _ => by simp [tot]
  | x :: xs, h => by
    have h0 := h 0 (by simp)
    have e0 : rd (x :: xs) ((0 : Nat) : Int) = x := rfl
    rw [e0] at h0
    have := tot_nonneg xs fun i hi => by
      have := h (i + 1) (by simpa using hi)
      have e : rd (x :: xs) ((i + 1 : Nat) : Int) = rd xs i := by unfold rd; rw [Int.toNat_natCast, Int.toNat_natCast]; rfl
      rwa [e] at this
    simp only [tot]
    omega
theorem rdL_nth (ps : List (List Int)) (q : Nat) (h : q < ps.length) : rd_L1 ps (q : Int) = ps[q] := by
  have e : (q : Int).toNat = q := Int.toNat_natCast q
  unfold rd_L1
  rw [e, List.getD_eq_getElem?_getD, List.getElem?_eq_getElem h]
  rfl
theorem implOrb_in (ps : List (List Int)) (n : Nat) (hn : n ≤ 12) (q : Nat) (hq : q < ps.length) (hL : ps.length ≤ 1048576) (P : List Int) (hP : P ∈ ps) (pl : P.length = n) (pr : ∀ i : Nat, i < n → 0 ≤ rd P i ∧ rd P i < n) : ∀ (d i : Nat) (o : List Int) (g : Bool), n - i = d → i ≤ n → orbI ps n o →
    ∃ (o' : List Int) (g' : Bool), orbI ps n o' ∧ (∀ r, Ev (fun k => impl_orbits.l1 k ps o' g' ps ps.length ((q + 1 : Nat) : Int)) r → Ev (fun k => impl_orbits.l2 k ps o g ps ps.length q P n i) r) ∧ tot o' ≤ tot o ∧
      (g' = true → g = true ∨ tot o' < tot o) ∧ (g' = false → g = false ∧ o' = o ∧ ∀ j : Nat, i ≤ j → j < n → rd o (rd P j) = rd o j)
  | 0, i, o, g, hd, hi, ho => by
    refine ⟨o, g, ho, fun r h => Ev.s ?_, by omega, fun h => .inl h, fun h => ⟨h, rfl, fun j h1 h2 => by omega⟩⟩
    simp only [impl_orbits.l2, show ¬ (i : Int) < (n : Int) by omega, if_false]
    rw [w64 (x := (q : Int) + 1) (by omega) (by omega), show ((q : Int) + 1) = ((q + 1 : Nat) : Int) by omega]
    exact h
  | d + 1, i, o, g, hd, hi, ho => by
    have hlt : i < n := by omega
    have hd1 : n - (i + 1) = d := by omega
    have hw : wrap64 ((i : Int) + 1) = ((i + 1 : Nat) : Int) := by rw [w64 (by omega) (by omega)]; omega
    have hr := pr i hlt
    have hst := Reach.step hP hlt
    have hlen := ho.1
    obtain ⟨t, ht⟩ : ∃ t : Nat, rd P i = t := ⟨(rd P i).toNat, by omega⟩
    rw [ht, Int.toNat_natCast] at hst
    have htn : t < n := by omega
    obtain ⟨i0, i1, i2⟩ := ho.2 i hlt
    obtain ⟨t0, t1, t2⟩ := ho.2 t htn
    obtain ⟨hm1, hm2, hm3⟩ := mn_le (rd o i) (rd o t)
    have g1 : (i : Int) < (n : Int) := by omega
    have g2 : (0 : Int) ≤ (i : Int) := by omega
    have g3 : (0 : Int) ≤ (t : Int) := by omega
    have g4 : (t : Int) < (n : Int) := by omega
    obtain ⟨v, hv⟩ : ∃ v, mn (rd o i) (rd o t) = v := ⟨_, rfl⟩
    rw [hv] at hm1 hm2 hm3
    by_cases hc : rd o i = v ∧ rd o t = v
    · obtain ⟨c1, c2⟩ := hc
      obtain ⟨o', g', a1, a2, a3, a4, a5⟩ := implOrb_in ps n hn q hq hL P hP pl pr d (i + 1) o g hd1 hlt ho
      refine ⟨o', g', a1, fun r h => Ev.s ?_, a3, a4, fun h => ?_⟩
      · simp only [impl_orbits.l2, g1, g2, g3, g4, pl, hlen, ht, hv, if_true, hw]
        simp only [c1, c2, if_true]
        exact a2 r h
      · obtain ⟨b1, b2, b3⟩ := a5 h
        refine ⟨b1, b2, fun j h1 h2 => ?_⟩
        by_cases e : j = i
        · rw [e, ht]; omega
        · exact b3 j (by omega) h2
    · have hv0 : 0 ≤ v := by omega
      have hrv : Reach ps n v.toNat i := by
        rcases hm3 with e | e
        · rw [e]; exact i2
        · rw [e]; exact t2.trans hst.symm
      have ho1 := orbI_put ho hlt hv0 (by omega) hrv
      have ho2 := orbI_put ho1 htn hv0 (by omega) (hrv.trans hst)
      have hd2 : tot ((o.set i v).set t v) < tot o := by
        have z1 := tot_set o i v (by omega)
        have z2 := tot_set (o.set i v) t v (by rw [List.length_set]; omega)
        by_cases e : i = t
        · subst e
          rw [rd_set_self _ _ _ (by omega)] at z2
          omega
        · rw [rd_set_ne _ _ _ _ e] at z2
          omega
      obtain ⟨o', g', a1, a2, a3, a4, a5⟩ := implOrb_in ps n hn q hq hL P hP pl pr d (i + 1) ((o.set i v).set t v) true hd1 hlt ho2
      refine ⟨o', g', a1, fun r h => Ev.s ?_, by omega, fun h => .inr (by omega), fun h => ?_⟩
      · have hgo := a2 r h
        by_cases c1 : rd o i = v
        · have c2 : ¬ rd o t = v := fun e => hc ⟨c1, e⟩
          simp only [impl_orbits.l2, g1, g2, g3, g4, pl, hlen, ht, hv, if_true, hw, Int.toNat_natCast]
          simp only [c1, c2, if_true, if_false]
          exact hgo
        · simp only [impl_orbits.l2, g1, g2, g3, g4, pl, hlen, ht, hv, if_true, hw, Int.toNat_natCast]
          simp only [c1, if_false]
          exact hgo
      · have := (a5 h).1
        cases this
theorem implOrb_pass (ps : List (List Int)) (n : Nat) (hn : n ≤ 12) (hL : ps.length ≤ 1048576) (hp : ∀ p ∈ ps, inR n p) : ∀ (d q : Nat) (o : List Int) (g : Bool), ps.length - q = d → q ≤ ps.length → orbI ps n o →
    ∃ (o' : List Int) (g' : Bool), orbI ps n o' ∧ (∀ r, Ev (fun k => impl_orbits.l0 k ps o' g') r → Ev (fun k => impl_orbits.l1 k ps o g ps ps.length q) r) ∧ tot o' ≤ tot o ∧
      (g' = true → g = true ∨ tot o' < tot o) ∧ (g' = false → g = false ∧ o' = o ∧ ∀ z : Nat, q ≤ z → z < ps.length → ∀ j : Nat, j < n → rd o (rd (rd_L1 ps z) j) = rd o j)
  | 0, q, o, g, hd, hi, ho => by
    refine ⟨o, g, ho, fun r h => Ev.s ?_, by omega, fun h => .inl h, fun h => ⟨h, rfl, fun j h1 h2 => by omega⟩⟩
    simp only [impl_orbits.l1, show ¬ (q : Int) < (ps.length : Int) by omega, if_false]
    exact h
  | d + 1, q, o, g, hd, hi, ho => by
    have hlt : q < ps.length := by omega
    have hd1 : ps.length - (q + 1) = d := by omega
    have hP : rd_L1 ps q ∈ ps := by rw [rdL_nth ps q hlt]; exact List.getElem_mem hlt
    obtain ⟨pl, pr⟩ := hp _ hP
    obtain ⟨o1, b1, c1, c2, c3, c4, c5⟩ := implOrb_in ps n hn q hlt hL _ hP pl pr n 0 o g (by omega) (by omega) ho
    obtain ⟨o2, b2, e1, e2, e3, e4, e5⟩ := implOrb_pass ps n hn hL hp d (q + 1) o1 b1 hd1 hlt c1
    refine ⟨o2, b2, e1, fun r h => Ev.s ?_, by omega, fun h => ?_, fun h => ?_⟩
    · simp only [impl_orbits.l1, show (q : Int) < (ps.length : Int) by omega, show (0 : Int) ≤ (q : Int) by omega, if_true, pl]
      exact c2 r (e2 r h)
    · rcases e4 h with z | z
      · rcases c4 z with y | y
        · exact .inl y
        · exact .inr (by omega)
      · exact .inr (by omega)
    · obtain ⟨f1, f2, f3⟩ := e5 h
      obtain ⟨g1, g2, g3⟩ := c5 f1
      refine ⟨g1, f2.trans g2, fun z hz hz' j hj => ?_⟩
      by_cases e : z = q
      · rw [e]; exact g3 j (by omega) hj
      · have := f3 z (by omega) hz' j hj
        rwa [g2] at this
theorem implOrb_loop (ps : List (List Int)) (n : Nat) (hn : n ≤ 12) (hL : ps.length ≤ 1048576) (hp : ∀ p ∈ ps, inR n p) : ∀ (m : Nat) (o : List Int), tot o ≤ m → orbI ps n o → ∃ o', orbOk ps n o' ∧ Ev (fun k => impl_orbits.l0 k ps o true) o' := by
  intro m
  induction m using Nat.strongRecOn with
  | _ m ih =>
    intro o hm ho
    obtain ⟨o1, g1, c1, c2, c3, c4, c5⟩ := implOrb_pass ps n hn hL hp ps.length 0 o false (by omega) (by omega) ho
    cases g1 with
    | false =>
      obtain ⟨_, e2, e3⟩ := c5 rfl
      refine ⟨o, ⟨ho, fun p hp' i hi => ?_⟩, Ev.s ?_⟩
      · obtain ⟨z, hz, rfl⟩ := List.mem_iff_getElem.1 hp'
        have := e3 z (by omega) hz i hi
        rwa [rdL_nth ps z hz] at this
      · simp only [impl_orbits.l0, if_true]
        refine c2 o (Ev.s ?_)
        simp only [impl_orbits.l0, Bool.false_eq_true, if_false]
        exact Ev.const (by rw [e2])
    | true =>
      have hlt : tot o1 < tot o := by
        rcases c4 rfl with z | z
        · cases z
        · exact z
      have h0 := tot_nonneg o1 fun i hi => (c1.2 i (by rw [← c1.1]; exact hi)).1
      obtain ⟨o', h1, h2⟩ := ih (tot o1).toNat (by omega) o1 (by omega) c1
      refine ⟨o', h1, Ev.s ?_⟩
      simp only [impl_orbits.l0, if_true]
      exact c2 o' h2
theorem implOrb_ev (ps : List (List Int)) (n : Nat) (hn : n ≤ 12) (h0 : 0 < ps.length) (hL : ps.length ≤ 1048576) (hp : ∀ p ∈ ps, inR n p) : ∃ o, orbOk ps n o ∧ Ev (fun k => impl_orbits.f k ps) o := by
  obtain ⟨o, h1, h2⟩ := implOrb_loop ps n hn hL hp (tot (stl n)).toNat (stl n) (by have := tot_nonneg (stl n) (fun i hi => by rw [stl_rd n i (by rwa [stl_length] at hi)]; omega); omega) (stl_orbI ps n)
  refine ⟨o, h1, ?_⟩
  unfold impl_orbits.f
  have hz : (rd_L1 ps 0).length = n := by
    have := rdL_nth ps 0 h0
    rw [show ((0 : Nat) : Int) = 0 from rfl] at this
    rw [this]
    exact (hp _ (List.getElem_mem h0)).1
  simp only [show (0 : Int) < (ps.length : Int) by omega, if_true, hz]
  exact Ev.bind (still_ev n (by omega)) h2
theorem szSS_run (l : List (List Int)) (h1 : l.length ≤ 1048576) (h2 : ∀ y ∈ l, y.length ≤ maxLen) : ∀ (d i : Nat) (a : Int), l.length - i = d → i ≤ l.length → 0 ≤ a → a ≤ 1048576 → (∀ j : Nat, j < i → (rd_L1 l (j : Int)).length ≤ 1048576) → ∃ r, Ev (fun k => laws_szIntSS.l0 k l a i) r ∧ (r < 0 ∨ ∀ j : Nat, j < l.length → (rd_L1 l (j : Int)).length ≤ 1048576)
  | 0, i, a, hd, hi, h0, ha, hj => by
    refine ⟨a, Ev.s ?_, Or.inr fun j hj2 => hj j (by omega)⟩
    simp only [laws_szIntSS.l0, show ¬ (i : Int) < (l.length : Int) by omega, if_false]
    exact Ev.const rfl
  | d + 1, i, a, hd, hi, h0, ha, hj => by
    have hlt : i < l.length := by omega
    have hm : (rd_L1 l (i : Int)).length ≤ 9223372036854775807 := by rw [rdL_nth l i hlt]; exact h2 _ (List.getElem_mem hlt)
    have hw : wrap64 (a - ((rd_L1 l (i : Int)).length : Int)) = a - ((rd_L1 l (i : Int)).length : Int) := w64 (by omega) (by omega)
    by_cases hn : a - ((rd_L1 l (i : Int)).length : Int) < 0
    · refine ⟨-1, Ev.s ?_, Or.inl (by omega)⟩
      simp only [laws_szIntSS.l0, laws_szIntS.f, hw, show (i : Int) < (l.length : Int) by omega, show (0 : Int) ≤ i by omega, hn, if_true, Option.bind_some, show (-1 : Int) < 0 by omega]
      exact Ev.const rfl
    · obtain ⟨r, e, h⟩ := szSS_run l h1 h2 d (i + 1) (a - ((rd_L1 l (i : Int)).length : Int)) (by omega) (by omega) (by omega) (by omega) (fun j hj2 => by
        by_cases e : j = i
        · subst e; omega
        · exact hj j (by omega))
      refine ⟨r, Ev.s ?_, h⟩
      simp only [laws_szIntSS.l0, laws_szIntS.f, hw, show (i : Int) < (l.length : Int) by omega, show (0 : Int) ≤ i by omega, hn, if_true, if_false, Option.bind_some]
      rw [w64n (by omega)]
      exact e
theorem szSS_ev (l : List (List Int)) (h1 : l.length ≤ maxLen) (h2 : ∀ y ∈ l, y.length ≤ maxLen) : ∃ r, Ev (fun k => laws_szIntSS.f k l 1048576) r ∧ (r < 0 ∨ (l.length ≤ 1048576 ∧ ∀ j : Nat, j < l.length → (rd_L1 l (j : Int)).length ≤ 1048576)) := by
  have hm : l.length ≤ 9223372036854775807 := h1
  have hw : wrap64 (1048576 - (l.length : Int)) = 1048576 - (l.length : Int) := w64 (by omega) (by omega)
  unfold laws_szIntSS.f
  simp only [hw]
  by_cases hn : (1048576 : Int) - (l.length : Int) < 0
  · exact ⟨-1, by simp only [hn, if_true]; exact Ev.const rfl, Or.inl (by omega)⟩
  · obtain ⟨r, e, h⟩ := szSS_run l (by omega) h2 l.length 0 (1048576 - (l.length : Int)) (by omega) (by omega) (by omega) (by omega) (fun j hj => by omega)
    exact ⟨r, by simp only [hn, if_false]; exact e, h.imp id (fun h => ⟨by omega, h⟩)⟩
theorem toIntSS_run (l : List (List Int)) (hl : l.length ≤ 1048576) (h2 : ∀ j : Nat, j < l.length → (rd_L1 l (j : Int)).length ≤ 1048576) : ∀ (d : Nat) (m : List (List Int)) (i : Nat), l.length - i = d → i ≤ l.length → m.length = l.length → m.take i = l.take i → Ev (fun k => laws_toIntSS.l0 k l m i) l
  | 0, m, i, hd, hi, hm, ht => by
    refine Ev.s ?_
    simp only [laws_toIntSS.l0, show ¬ (i : Int) < (l.length : Int) by omega, if_false]
    have hi' : i = l.length := by omega
    subst hi'
    rw [List.take_length] at ht
    rw [← hm, List.take_length] at ht
    exact Ev.const (by rw [ht])
  | d + 1, m, i, hd, hi, hm, ht => by
    have hlt : i < l.length := by omega
    refine Ev.s ?_
    simp only [laws_toIntSS.l0, show (i : Int) < (l.length : Int) by omega, show (0 : Int) ≤ i by omega, show (i : Int) < (m.length : Int) by omega, if_true]
    refine Ev.bind (toIntS_ev _ (h2 i hlt)) ?_
    rw [w64n (by omega)]
    refine toIntSS_run l hl h2 d _ (i + 1) (by omega) (by omega) (by simpa using hm) ?_
    rw [Int.toNat_natCast, rdL_nth l i hlt]
    have h2 : i < m.length := by omega
    rw [List.take_succ_eq_append_getElem (by simpa using h2), List.take_succ_eq_append_getElem hlt, List.take_set_of_le (Nat.le_refl _), ht]
    simp
theorem toIntSS_ev (l : List (List Int)) (hl : l.length ≤ 1048576) (h2 : ∀ j : Nat, j < l.length → (rd_L1 l (j : Int)).length ≤ 1048576) : Ev (fun k => laws_toIntSS.f k l) l := by
  unfold laws_toIntSS.f
  simp only [show (0 : Int) ≤ (l.length : Int) by omega, show ((l.length : Int)).toNat ≤ 11728124029610 by omega, if_true]
  exact toIntSS_run l hl h2 l.length _ 0 (by omega) (by omega) (by simp) (by simp)
theorem eqIntSS_run (l : List (List Int)) (hl : l.length ≤ 1048576) (h2 : ∀ j : Nat, j < l.length → (rd_L1 l (j : Int)).length ≤ 1048576) : ∀ (d : Nat) (i : Nat), l.length - i = d → i ≤ l.length → Ev (fun k => laws_eqIntSS.l0 k l l i) true
  | 0, i, hd, hi => by
    refine Ev.s ?_
    simp only [laws_eqIntSS.l0, show ¬ (i : Int) < (l.length : Int) by omega, if_false]
    exact Ev.const rfl
  | d + 1, i, hd, hi => by
    refine Ev.s ?_
    simp only [laws_eqIntSS.l0, show (i : Int) < (l.length : Int) by omega, show (0 : Int) ≤ i by omega, if_true]
    refine Ev.bind (eqIntS_same _ (h2 i (by omega))) ?_
    simp only [if_true]
    rw [w64n (by omega)]
    exact eqIntSS_run l hl h2 d (i + 1) (by omega) (by omega)
theorem eqIntSS_same (l : List (List Int)) (hl : l.length ≤ 1048576) (h2 : ∀ j : Nat, j < l.length → (rd_L1 l (j : Int)).length ≤ 1048576) : Ev (fun k => laws_eqIntSS.f k l l) true := by
  unfold laws_eqIntSS.f
  simp only [if_true]
  exact eqIntSS_run l hl h2 l.length 0 (by omega) (by omega)
def okP : Int → List Int → Bool
  | _, [] => true
  | prev, x :: xs => decide (1 ≤ x) && decide (x ≤ 6) && decide (x ≤ prev) && okP x xs
def totP : List Int → Int
  | [] => 0
  | x :: xs => x + totP xs
theorem okP_tot : ∀ (p : List Int) (prev : Int), okP prev p = true → (p.length : Int) ≤ totP p
  | [], _, _ => Int.le_refl _
  | x :: xs, prev, h => by
    simp only [okP, Bool.and_eq_true, decide_eq_true_eq] at h
    have := okP_tot xs x h.2
    simp only [totP, List.length_cons]
    omega
theorem okP_at : ∀ (p : List Int) (prev : Int), okP prev p = true → ∀ x ∈ p, 1 ≤ x ∧ x ≤ 6
  | [], _, _, x, hx => by simp at hx
  | y :: ys, prev, h, x, hx => by
    simp only [okP, Bool.and_eq_true, decide_eq_true_eq] at h
    rcases List.mem_cons.1 hx with rfl | hx
    · omega
    · exact okP_at ys y h.2 x hx
def vP (p : List Int) : Bool := okP 6 p && (decide (1 ≤ totP p) && decide (totP p ≤ 6))
theorem drop_rd (p : List Int) (i : Nat) (h : i < p.length) : p.drop i = rd p (i : Int) :: p.drop (i + 1) := by rw [List.drop_eq_getElem_cons h, rd_lt p i h]
theorem l6In_ev (a b c : Int) : spec_l6In.f a b c = some (decide (b ≤ a ∧ a ≤ c)) := by
  unfold spec_l6In.f
  by_cases h : b ≤ a
  · simp [show a ≥ b from h, h]
  · simp [show ¬ a ≥ b from h, h]
theorem implPV_run (p : List Int) (hl : p.length ≤ 1048576) : ∀ (d i : Nat) (s prev : Int), p.length - i = d → i ≤ p.length → 0 ≤ s → s ≤ 6 * i → (i = 0 → prev = 6) → (0 < i → prev = rd p ((i : Int) - 1)) →
    Ev (fun k => impl_PartsValid.l0 k p s p p.length i) (okP prev (p.drop i) && (decide (1 ≤ s + totP (p.drop i)) && decide (s + totP (p.drop i) ≤ 6)))
  | 0, i, s, prev, hd, hi, h0, h1, e0, e1 => by
    refine Ev.s ?_
    have e : i = p.length := by omega
    rw [e, List.drop_length]
    simp only [impl_PartsValid.l0, show ¬ (p.length : Int) < (p.length : Int) by omega, if_false, okP, totP, Int.add_zero, Bool.true_and]
    by_cases h : s ≥ 1
    · simp only [h, if_true, show (1 : Int) ≤ s from h, decide_true, Bool.true_and]; exact Ev.const rfl
    · simp only [h, if_false, show ¬ (1 : Int) ≤ s from h, decide_false, Bool.false_and]; exact Ev.const rfl
  | d + 1, i, s, prev, hd, hi, h0, h1, e0, e1 => by
    have hlt : i < p.length := by omega
    rw [drop_rd p i hlt]
    refine Ev.s ?_
    simp only [impl_PartsValid.l0, show (i : Int) < (p.length : Int) by omega, show (0 : Int) ≤ i by omega, if_true, okP, totP]
    by_cases a : rd p (i : Int) < 1
    · simp only [a, if_true, show ¬ (1 : Int) ≤ rd p (i : Int) by omega, decide_false, Bool.false_and]; exact Ev.const rfl
    by_cases b : rd p (i : Int) > 6
    · simp only [a, b, if_true, if_false, show ¬ rd p (i : Int) ≤ 6 by omega, decide_false, Bool.false_and, Bool.and_false]; exact Ev.const rfl
    have hs : wrap64 (s + rd p (i : Int)) = s + rd p (i : Int) := w64 (by omega) (by omega)
    have ih := implPV_run p hl d (i + 1) (s + rd p (i : Int)) (rd p (i : Int)) (by omega) (by omega) (by omega) (by omega) (fun h => by omega) (fun _ => by rw [show (((i + 1 : Nat) : Int) - 1) = (i : Int) by omega])
    rw [Int.add_assoc] at ih
    simp only [a, b, if_false, hs, show (1 : Int) ≤ rd p (i : Int) by omega, show rd p (i : Int) ≤ 6 by omega, decide_true, Bool.true_and]
    rcases i with _ | i
    · have := e0 rfl
      subst this
      simp only [show rd p ((0 : Nat) : Int) ≤ 6 by omega, decide_true, Bool.true_and, show ¬ (((0 : Nat) : Int) > 0) by omega, if_false]
      rw [w64n (by omega)]
      exact ih
    · have e2 := e1 (by omega)
      have hw : wrap64 (((i + 1 : Nat) : Int) - 1) = (((i + 1 : Nat) : Int) - 1) := w64 (by omega) (by omega)
      simp only [show (((i + 1 : Nat) : Int) > 0) by omega, hw, show (0 : Int) ≤ ((i + 1 : Nat) : Int) - 1 by omega, show ((i + 1 : Nat) : Int) - 1 < (p.length : Int) by omega, if_true, ← e2]
      by_cases c : rd p ((i + 1 : Nat) : Int) > prev
      · simp only [c, if_true, show ¬ rd p ((i + 1 : Nat) : Int) ≤ prev by omega, decide_false, Bool.false_and]; exact Ev.const rfl
      · simp only [c, if_false, show rd p ((i + 1 : Nat) : Int) ≤ prev by omega, decide_true, Bool.true_and]
        rw [w64n (by omega)]
        exact ih
theorem implPV_ev (p : List Int) (hl : p.length ≤ 1048576) : Ev (fun k => impl_PartsValid.f k p) (vP p) := by
  unfold impl_PartsValid.f vP
  have h := implPV_run p hl p.length 0 0 6 (by omega) (by omega) (by omega) (by omega) (fun _ => rfl) (fun h => by omega)
  simpa using h
theorem specPV_run (p : List Int) (hl : p.length ≤ 1048576) : ∀ (d i : Nat) (s prev : Int), p.length - i = d → i ≤ p.length → 0 ≤ s → s ≤ 6 → (i = 0 → prev = 6) → (0 < i → prev = rd p ((i : Int) - 1)) →
    Ev (fun k => spec_PartsValid.l0 k p s i) (okP prev (p.drop i) && (decide (1 ≤ s + totP (p.drop i)) && decide (s + totP (p.drop i) ≤ 6)))
  | 0, i, s, prev, hd, hi, h0, h1, e0, e1 => by
    refine Ev.s ?_
    have e : i = p.length := by omega
    rw [e, List.drop_length]
    simp only [spec_PartsValid.l0, show ¬ (p.length : Int) < (p.length : Int) by omega, if_false, okP, totP, Int.add_zero, Bool.true_and, show s ≤ 6 from h1, decide_true, Bool.and_true]
    exact Ev.const (by congr 1)
  | d + 1, i, s, prev, hd, hi, h0, h1, e0, e1 => by
    have hlt : i < p.length := by omega
    rw [drop_rd p i hlt]
    refine Ev.s ?_
    simp only [spec_PartsValid.l0, show (i : Int) < (p.length : Int) by omega, show (0 : Int) ≤ i by omega, if_true, okP, totP, l6In_ev, Option.bind_some]
    by_cases a : 1 ≤ rd p (i : Int) ∧ rd p (i : Int) ≤ 6
    · have hs : wrap64 (s + rd p (i : Int)) = s + rd p (i : Int) := w64 (by omega) (by omega)
      have fin : ∀ (c : Bool), Ev (fun k => spec_PartsValid.j1 k p s i (!c)) (c && okP (rd p (i : Int)) (p.drop (i + 1)) && (decide (1 ≤ s + (rd p (i : Int) + totP (p.drop (i + 1)))) && decide (s + (rd p (i : Int) + totP (p.drop (i + 1))) ≤ 6))) := by
        intro c
        refine Ev.s ?_
        cases c with
        | false =>
          simp only [spec_PartsValid.j1, Bool.not_false, if_true, Bool.false_and]
          exact Ev.const rfl
        | true =>
          simp only [spec_PartsValid.j1, Bool.not_true, Bool.false_eq_true, if_false, show (0 : Int) ≤ (i : Int) by omega, show (i : Int) < (p.length : Int) by omega, if_true, hs, Bool.true_and]
          by_cases b : s + rd p (i : Int) > 6
          · simp only [b, if_true]
            refine Ev.const (congrArg some ?_)
            symm
            by_cases o : okP (rd p (i : Int)) (p.drop (i + 1)) = true
            · have := okP_tot _ _ o
              simp only [show ¬ s + (rd p (i : Int) + totP (p.drop (i + 1))) ≤ 6 by omega, decide_false, Bool.and_false]
            · rw [Bool.not_eq_true] at o
              rw [o, Bool.false_and]
          · simp only [b, if_false]
            rw [w64n (by omega), ← Int.add_assoc]
            exact specPV_run p hl d (i + 1) (s + rd p (i : Int)) (rd p (i : Int)) (by omega) (by omega) (by omega) (by omega) (fun h => by omega) (fun _ => by rw [show (((i + 1 : Nat) : Int) - 1) = (i : Int) by omega])
      simp only [a, and_self, decide_true, if_true, a.1, a.2, Bool.true_and]
      rcases i with _ | i
      · have := e0 rfl
        subst this
        simp only [show rd p ((0 : Nat) : Int) ≤ 6 from a.2, decide_true, show ¬ (((0 : Nat) : Int) > 0) by omega, if_false]
        exact fin true
      · have e2 := e1 (by omega)
        have hw : wrap64 (((i + 1 : Nat) : Int) - 1) = (((i + 1 : Nat) : Int) - 1) := w64 (by omega) (by omega)
        simp only [show (((i + 1 : Nat) : Int) > 0) by omega, hw, show (0 : Int) ≤ ((i + 1 : Nat) : Int) - 1 by omega, show ((i + 1 : Nat) : Int) - 1 < (p.length : Int) by omega, if_true, ← e2]
        have f := fin (decide (rd p ((i + 1 : Nat) : Int) ≤ prev))
        rw [show (!decide (rd p ((i + 1 : Nat) : Int) ≤ prev)) = decide (rd p ((i + 1 : Nat) : Int) > prev) by
          by_cases c : rd p ((i + 1 : Nat) : Int) ≤ prev
          · rw [decide_eq_true c, decide_eq_false (show ¬ rd p ((i + 1 : Nat) : Int) > prev by omega)]; rfl
          · rw [decide_eq_false c, decide_eq_true (show rd p ((i + 1 : Nat) : Int) > prev by omega)]; rfl] at f
        exact f
    · simp only [a, decide_false, Bool.false_eq_true, if_false]
      have hF : (decide (1 ≤ rd p (i : Int)) && decide (rd p (i : Int) ≤ 6)) = false := by
        by_cases b : 1 ≤ rd p (i : Int)
        · simp [b, show ¬ rd p (i : Int) ≤ 6 from fun h => a ⟨b, h⟩]
        · simp [b]
      rw [hF]
      refine Ev.s ?_
      simp only [spec_PartsValid.j1, if_true, Bool.false_and]
      exact Ev.const rfl
theorem specPV_ev (p : List Int) (hl : p.length ≤ 1048576) : Ev (fun k => spec_PartsValid.f k p) (vP p) := by
  unfold spec_PartsValid.f vP
  have h := specPV_run p hl p.length 0 0 6 (by omega) (by omega) (by omega) (by omega) (fun _ => rfl) (fun h => by omega)
  simpa using h
theorem vP_len (p : List Int) (h : vP p = true) : p.length ≤ 6 ∧ 1 ≤ totP p ∧ totP p ≤ 6 ∧ ∀ x ∈ p, 1 ≤ x ∧ x ≤ 6 := by
  simp only [vP, Bool.and_eq_true, decide_eq_true_eq] at h
  have := okP_tot _ _ h.1
  exact ⟨by omega, h.2.1, h.2.2, okP_at _ _ h.1⟩
theorem implSum_run (p : List Int) (hl : p.length ≤ 6) (h6 : ∀ x ∈ p, 1 ≤ x ∧ x ≤ 6) : ∀ (d i : Nat) (s : Int), p.length - i = d → i ≤ p.length → 0 ≤ s → s ≤ 6 * i → Ev (fun k => impl_sumOf.l0 k s p p.length i) (s + totP (p.drop i))
  | 0, i, s, hd, hi, h0, h1 => by
    refine Ev.s ?_
    have e : i = p.length := by omega
    rw [e, List.drop_length]
    simp only [impl_sumOf.l0, show ¬ (p.length : Int) < (p.length : Int) by omega, if_false, totP, Int.add_zero]
    exact Ev.const rfl
  | d + 1, i, s, hd, hi, h0, h1 => by
    have hlt : i < p.length := by omega
    have hx := h6 _ (List.getElem_mem hlt)
    rw [← rd_lt p i hlt] at hx
    rw [drop_rd p i hlt]
    refine Ev.s ?_
    simp only [impl_sumOf.l0, show (i : Int) < (p.length : Int) by omega, show (0 : Int) ≤ i by omega, if_true, totP]
    rw [w64n (by omega), w64 (x := s + rd p (i : Int)) (by omega) (by omega), ← Int.add_assoc]
    exact implSum_run p hl h6 d (i + 1) _ (by omega) (by omega) (by omega) (by omega)
theorem implSum_ev (p : List Int) (h : vP p = true) : Ev (fun k => impl_sumOf.f k p) (totP p) := by
  have h2 := vP_len p h
  unfold impl_sumOf.f
  have h := implSum_run p h2.1 h2.2.2.2 p.length 0 0 (by omega) (by omega) (by omega) (by omega)
  simpa using h
theorem specSum_run (p : List Int) (hl : p.length ≤ 6) (h6 : ∀ x ∈ p, 0 ≤ x ∧ x ≤ 6) : ∀ (d i : Nat) (s : Int), p.length - i = d → i ≤ p.length → 0 ≤ s → s ≤ 6 * i → Ev (fun k => spec_l5Sum.l0 k p s i) (s + totP (p.drop i))
  | 0, i, s, hd, hi, h0, h1 => by
    refine Ev.s ?_
    have e : i = p.length := by omega
    rw [e, List.drop_length]
    simp only [spec_l5Sum.l0, show ¬ (p.length : Int) < (p.length : Int) by omega, if_false, totP, Int.add_zero]
    exact Ev.const rfl
  | d + 1, i, s, hd, hi, h0, h1 => by
    have hlt : i < p.length := by omega
    have hx := h6 _ (List.getElem_mem hlt)
    rw [← rd_lt p i hlt] at hx
    rw [drop_rd p i hlt]
    refine Ev.s ?_
    simp only [spec_l5Sum.l0, show (i : Int) < (p.length : Int) by omega, show (0 : Int) ≤ i by omega, if_true, totP]
    rw [w64n (by omega), w64 (x := s + rd p (i : Int)) (by omega) (by omega), ← Int.add_assoc]
    exact specSum_run p hl h6 d (i + 1) _ (by omega) (by omega) (by omega) (by omega)
theorem specSum_of (p : List Int) (hl : p.length ≤ 6) (h6 : ∀ x ∈ p, 0 ≤ x ∧ x ≤ 6) : Ev (fun k => spec_l5Sum.f k p) (totP p) := by
  unfold spec_l5Sum.f
  have h := specSum_run p hl h6 p.length 0 0 (by omega) (by omega) (by omega) (by omega)
  simpa using h
theorem specSum_ev (p : List Int) (h : vP p = true) : Ev (fun k => spec_l5Sum.f k p) (totP p) := by
  have h2 := vP_len p h
  exact specSum_of p h2.1 (fun x hx => by have := h2.2.2.2 x hx; omega)
def okT (l : List (List Int)) (j : Nat) : Prop := vP (rd_L1 l (j : Int)) = true ∧ totP (rd_L1 l (j : Int)) = totP (rd_L1 l 0)
def goodT (l : List (List Int)) : Prop := 1 ≤ l.length ∧ l.length ≤ 6 ∧ ∀ j : Nat, j < l.length → okT l j
theorem implTypes_run (l : List (List Int)) (hl : l.length ≤ 1048576) (h2 : ∀ j : Nat, j < l.length → (rd_L1 l (j : Int)).length ≤ 1048576) (h0 : 0 < l.length) : ∀ (d i : Nat), l.length - i = d → i ≤ l.length → (∀ j : Nat, j < i → okT l j) → ∃ r, Ev (fun k => impl_typesSum.l0 k l l l.length i) r ∧ (((∀ j : Nat, j < l.length → okT l j) ∧ r = totP (rd_L1 l 0)) ∨ (¬ (∀ j : Nat, j < l.length → okT l j) ∧ r = -1))
  | 0, i, hd, hi, ho => by
    have e : i = l.length := by omega
    subst e
    refine ⟨_, Ev.s ?_, Or.inl ⟨ho, rfl⟩⟩
    simp only [impl_typesSum.l0, show ¬ (l.length : Int) < (l.length : Int) by omega, if_false, show (0 : Int) < (l.length : Int) by omega, if_true]
    exact Ev.bind (implSum_ev _ (ho 0 h0).1) (Ev.const rfl)
  | d + 1, i, hd, hi, ho => by
    have hlt : i < l.length := by omega
    have hv := implPV_ev _ (h2 i hlt)
    by_cases a : vP (rd_L1 l (i : Int)) = true
    · rw [a] at hv
      have hs := implSum_ev _ a
      have a0 : vP (rd_L1 l 0) = true := by
        by_cases e : i = 0
        · subst e; exact a
        · exact (ho 0 (by omega)).1
      have hs0 := implSum_ev _ a0
      by_cases b : totP (rd_L1 l (i : Int)) = totP (rd_L1 l 0)
      · obtain ⟨r, e, h⟩ := implTypes_run l hl h2 h0 d (i + 1) (by omega) (by omega) (fun j hj => by
          by_cases e : j = i
          · subst e; exact ⟨a, b⟩
          · exact ho j (by omega))
        refine ⟨r, Ev.s ?_, h⟩
        simp only [impl_typesSum.l0, show (i : Int) < (l.length : Int) by omega, show (0 : Int) ≤ i by omega, show (0 : Int) < (l.length : Int) by omega, if_true]
        refine Ev.bind hv ?_
        simp only [if_true]
        refine Ev.bind hs (Ev.bind hs0 ?_)
        simp only [b, if_true]
        rw [w64n (by omega)]
        exact e
      · refine ⟨-1, Ev.s ?_, Or.inr ⟨fun h => b (h i hlt).2, rfl⟩⟩
        simp only [impl_typesSum.l0, show (i : Int) < (l.length : Int) by omega, show (0 : Int) ≤ i by omega, show (0 : Int) < (l.length : Int) by omega, if_true]
        refine Ev.bind hv ?_
        simp only [if_true]
        refine Ev.bind hs (Ev.bind hs0 ?_)
        simp only [b, if_false]
        exact Ev.const rfl
    · refine ⟨-1, Ev.s ?_, Or.inr ⟨fun h => a (h i hlt).1, rfl⟩⟩
      rw [Bool.not_eq_true] at a
      rw [a] at hv
      simp only [impl_typesSum.l0, show (i : Int) < (l.length : Int) by omega, show (0 : Int) ≤ i by omega, if_true]
      refine Ev.bind hv ?_
      simp only [Bool.false_eq_true, if_false]
      exact Ev.const rfl
theorem implTypes_ev (l : List (List Int)) (hl : l.length ≤ 1048576) (h2 : ∀ j : Nat, j < l.length → (rd_L1 l (j : Int)).length ≤ 1048576) : ∃ r, Ev (fun k => impl_typesSum.f k l) r ∧ ((goodT l ∧ r = totP (rd_L1 l 0)) ∨ (¬ goodT l ∧ r = -1)) := by
  unfold impl_typesSum.f
  by_cases a : (l.length : Int) < 1
  · refine ⟨-1, ?_, Or.inr ⟨fun h => by have := h.1; omega, rfl⟩⟩
    simp only [a, if_true]
    refine Ev.s ?_
    simp only [impl_typesSum.j0, if_true]
    exact Ev.const rfl
  · by_cases b : (l.length : Int) > 6
    · refine ⟨-1, ?_, Or.inr ⟨fun h => by have := h.2.1; omega, rfl⟩⟩
      simp only [a, b, if_false, decide_true]
      refine Ev.s ?_
      simp only [impl_typesSum.j0, if_true]
      exact Ev.const rfl
    · obtain ⟨r, e, h⟩ := implTypes_run l hl h2 (by omega) l.length 0 (by omega) (by omega) (fun j hj => by omega)
      refine ⟨r, ?_, h.imp (fun h => ⟨⟨by omega, by omega, h.1⟩, h.2⟩) (fun h => ⟨fun g => h.1 g.2.2, h.2⟩)⟩
      simp only [a, b, if_false, decide_false]
      refine Ev.s ?_
      simp only [impl_typesSum.j0, Bool.false_eq_true, if_false]
      exact e
theorem specTypes_run (l : List (List Int)) (hl : l.length ≤ 1048576) (h2 : ∀ j : Nat, j < l.length → (rd_L1 l (j : Int)).length ≤ 1048576) : ∀ (d i : Nat), l.length - i = d → i ≤ l.length → (∀ j : Nat, j < i → okT l j) → ∃ r, Ev (fun k => spec_l5Types.l0 k l i) r ∧ (r = true ↔ goodT l)
  | 0, i, hd, hi, ho => by
    have e : i = l.length := by omega
    subst e
    refine ⟨_, Ev.s ?_, (?_ : decide (1 ≤ (l.length : Int) ∧ (l.length : Int) ≤ 6) = true ↔ _)⟩
    · simp only [spec_l5Types.l0, show ¬ (l.length : Int) < (l.length : Int) by omega, if_false, l6In_ev, Option.bind_some]
      exact Ev.const rfl
    · rw [decide_eq_true_eq]
      exact ⟨fun h => ⟨by omega, by omega, ho⟩, fun h => ⟨by have := h.1; omega, by have := h.2.1; omega⟩⟩
  | d + 1, i, hd, hi, ho => by
    have hlt : i < l.length := by omega
    have hv := specPV_ev _ (h2 i hlt)
    by_cases a : vP (rd_L1 l (i : Int)) = true
    · rw [a] at hv
      have hs := specSum_ev _ a
      have a0 : vP (rd_L1 l 0) = true := by
        by_cases e : i = 0
        · subst e; exact a
        · exact (ho 0 (by omega)).1
      have hs0 := specSum_ev _ a0
      by_cases b : totP (rd_L1 l (i : Int)) = totP (rd_L1 l 0)
      · obtain ⟨r, e, h⟩ := specTypes_run l hl h2 d (i + 1) (by omega) (by omega) (fun j hj => by
          by_cases e : j = i
          · subst e; exact ⟨a, b⟩
          · exact ho j (by omega))
        refine ⟨r, Ev.s ?_, h⟩
        simp only [spec_l5Types.l0, show (i : Int) < (l.length : Int) by omega, show (0 : Int) ≤ i by omega, show (0 : Int) < (l.length : Int) by omega, if_true]
        refine Ev.bind hv ?_
        simp only [if_true]
        refine Ev.bind hs (Ev.bind hs0 ?_)
        simp only [b, if_true]
        rw [w64n (by omega)]
        exact e
      · refine ⟨false, Ev.s ?_, ⟨fun h => (by cases h), fun h => absurd (h.2.2 i hlt).2 b⟩⟩
        simp only [spec_l5Types.l0, show (i : Int) < (l.length : Int) by omega, show (0 : Int) ≤ i by omega, show (0 : Int) < (l.length : Int) by omega, if_true]
        refine Ev.bind hv ?_
        simp only [if_true]
        refine Ev.bind hs (Ev.bind hs0 ?_)
        simp only [b, if_false]
        exact Ev.const rfl
    · refine ⟨false, Ev.s ?_, ⟨fun h => (by cases h), fun h => absurd (h.2.2 i hlt).1 a⟩⟩
      rw [Bool.not_eq_true] at a
      rw [a] at hv
      simp only [spec_l5Types.l0, show (i : Int) < (l.length : Int) by omega, show (0 : Int) ≤ i by omega, if_true]
      refine Ev.bind hv ?_
      simp only [Bool.false_eq_true, if_false]
      exact Ev.const rfl
def smallT (l : List (List Int)) : Prop := goodT l ∧ l.length ≤ 3 ∧ totP (rd_L1 l 0) ≤ 4
theorem specSmall_ev (l : List (List Int)) (hl : l.length ≤ 1048576) (h2 : ∀ j : Nat, j < l.length → (rd_L1 l (j : Int)).length ≤ 1048576) : ∃ r, Ev (fun k => spec_l5Small.f k l) r ∧ (r = true ↔ smallT l) := by
  obtain ⟨b, e, h⟩ := specTypes_run l hl h2 l.length 0 (by omega) (by omega) (fun j hj => by omega)
  unfold spec_l5Small.f
  cases b with
  | false =>
    refine ⟨false, Ev.bind e ?_, ⟨fun h => (by cases h), fun g => absurd (h.2 g.1) (by decide)⟩⟩
    simp only [Bool.false_eq_true, if_false]
    exact Ev.const rfl
  | true =>
    have g := h.1 rfl
    by_cases c : (l.length : Int) ≤ 3
    · refine ⟨decide (totP (rd_L1 l 0) ≤ 4), Ev.bind e ?_, ?_⟩
      · simp only [if_true, c, show (0 : Int) < (l.length : Int) by have := g.1; omega]
        exact Ev.bind (specSum_ev _ (g.2.2 0 (by have := g.1; omega)).1) (Ev.const rfl)
      · rw [decide_eq_true_eq]
        exact ⟨fun h => ⟨g, by omega, h⟩, fun h => h.2.2⟩
    · refine ⟨false, Ev.bind e ?_, ⟨fun h => (by cases h), fun g => absurd g.2.1 (by omega)⟩⟩
      simp only [if_true, c, if_false]
      exact Ev.const rfl
def cw (p : List Int) : Nat → List Bool → List Int → Int → List Bool × List Int
  | 0, s, c, a => (s, c)
  | f + 1, s, c, a => if rdOf false s a = true then (s, c) else cw p f (s.set a.toNat true) (c ++ [a]) (rd p a)
def fresh (s : List Bool) : Nat := s.countP (fun b => !b)
def cyS (p : List Int) (n : Nat) : Nat → List Bool × List (List Int)
  | 0 => (List.replicate n false, [])
  | i + 1 =>
    let q := cw p (n + 1) (cyS p n i).1 [] i
    (q.1, if q.2 = [] then (cyS p n i).2 else (cyS p n i).2 ++ [q.2])
theorem fresh_set : ∀ (s : List Bool) (i : Nat), i < s.length → s.getD i false = false → fresh (s.set i true) + 1 = fresh s
  | b :: s, 0, _, h => by
    simp only [List.getD_cons_zero] at h
    subst h
    simp [fresh]
  | b :: s, i + 1, hi, h => by
    simp only [List.getD_cons_succ] at h
    have ih := fresh_set s i (by simpa using hi) h
    simp only [fresh, List.set_cons_succ, List.countP_cons] at ih ⊢
    omega
theorem rdOf_nat (s : List Bool) (a : Int) (h0 : 0 ≤ a) : rdOf false s a = s.getD a.toNat false := by
  unfold rdOf
  rfl
theorem cw_len (p : List Int) : ∀ (f : Nat) (s : List Bool) (c : List Int) (a : Int), (cw p f s c a).1.length = s.length
  | 0, s, c, a => rfl
  | f + 1, s, c, a => by
    simp only [cw]
    split
    · rfl
    · rw [cw_len p f]; simp
theorem spec_cw (p : List Int) (n : Nat) (hn : n ≤ 1048576) (hp : inR n p) (L : List (List Int)) (hL : L.length ≤ 1048576) (i : Int) (r : List (List Int)) : ∀ (f : Nat) (s : List Bool) (c : List Int) (a : Int), s.length = n → 0 ≤ a → a < n → fresh s < f → c.length + fresh s ≤ 1048577 →
    Ev (fun k => spec_l1Cycles.l0 k p (L ++ [(cw p f s c a).2]) (cw p f s c a).1 (wrap64 (i + 1))) r → Ev (fun k => spec_l1Cycles.l1 k p L s i c a) r
  | 0, s, c, a, hs, h0, h1, hf, hc, h => absurd hf (Nat.not_lt_zero _)
  | f + 1, s, c, a, hs, h0, h1, hf, hc, h => by
    refine Ev.s ?_
    simp only [cw] at h
    have hL' : L.length < 5864062014805 := by omega
    have hc' : c.length < 17592186044416 := by omega
    simp only [spec_l1Cycles.l1, h0, hs, h1, hp.1, hL', hc', if_true]
    by_cases e : rdOf false s a = true
    · simp only [e, if_true] at h ⊢
      exact h
    · simp only [e, if_false] at h ⊢
      have h3 : s.getD a.toNat false = false := by rw [← rdOf_nat s a h0]; simpa using e
      have h4 := fresh_set s a.toNat (by omega) h3
      have h5 := hp.2 a.toNat (by omega)
      rw [show ((a.toNat : Nat) : Int) = a by omega] at h5
      exact spec_cw p n hn hp L hL i r f _ _ _ (by simpa using hs) h5.1 h5.2 (by omega) (by simp only [List.length_append, List.length_cons, List.length_nil]; omega) h
theorem impl_cw (p : List Int) (n : Nat) (hn : n ≤ 1048576) (hp : inR n p) (L : List (List Int)) (hL : L.length ≤ 1048576) (m i : Int) (r : List (List Int)) : ∀ (f : Nat) (s : List Bool) (c : List Int) (a : Int), s.length = n → 0 ≤ a → a < n → fresh s < f → c.length + fresh s ≤ 1048577 →
    Ev (fun k => impl_cyclesOf.l0 k p (if (cw p f s c a).2 = [] then L else L ++ [(cw p f s c a).2]) (cw p f s c a).1 m (wrap64 (i + 1))) r → Ev (fun k => impl_cyclesOf.l1 k p L s c a m i) r
  | 0, s, c, a, hs, h0, h1, hf, hc, h => absurd hf (Nat.not_lt_zero _)
  | f + 1, s, c, a, hs, h0, h1, hf, hc, h => by
    refine Ev.s ?_
    simp only [cw] at h
    have hL' : L.length < 5864062014805 := by omega
    have hc' : c.length < 17592186044416 := by omega
    simp only [impl_cyclesOf.l1, h0, hs, h1, hp.1, hL', hc', if_true]
    by_cases e : rdOf false s a = true
    · simp only [e, if_true] at h ⊢
      cases c with
      | nil => simpa using h
      | cons b c => simpa using h
    · simp only [e, if_false] at h ⊢
      have h3 : s.getD a.toNat false = false := by rw [← rdOf_nat s a h0]; simpa using e
      have h4 := fresh_set s a.toNat (by omega) h3
      have h5 := hp.2 a.toNat (by omega)
      rw [show ((a.toNat : Nat) : Int) = a by omega] at h5
      exact impl_cw p n hn hp L hL m i r f _ _ _ (by simpa using hs) h5.1 h5.2 (by omega) (by simp only [List.length_append, List.length_cons, List.length_nil]; omega) h
theorem fresh_le (s : List Bool) : fresh s ≤ s.length := List.countP_le_length
theorem cyS_len (p : List Int) (n : Nat) : ∀ i, (cyS p n i).1.length = n
  | 0 => by simp [cyS]
  | i + 1 => by simp only [cyS]; rw [cw_len, cyS_len p n i]
theorem cyS_many (p : List Int) (n : Nat) : ∀ i, (cyS p n i).2.length ≤ i
  | 0 => by simp [cyS]
  | i + 1 => by
    have ih := cyS_many p n i
    simp only [cyS]
    split
    · omega
    · simp only [List.length_append, List.length_cons, List.length_nil]; omega
theorem cw_seen (p : List Int) (f : Nat) (s : List Bool) (c : List Int) (a : Int) (h : rdOf false s a = true) : cw p f s c a = (s, c) := by
  cases f with
  | zero => rfl
  | succ f => simp only [cw, h, if_true]
theorem cw_more (p : List Int) : ∀ (f : Nat) (s : List Bool) (c : List Int) (a : Int), c.length ≤ (cw p f s c a).2.length
  | 0, s, c, a => Nat.le_refl _
  | f + 1, s, c, a => by
    simp only [cw]
    split
    · exact Nat.le_refl _
    · have := cw_more p f (s.set a.toNat true) (c ++ [a]) (rd p a)
      simp only [List.length_append, List.length_cons, List.length_nil] at this
      omega
theorem cw_new (p : List Int) (f : Nat) (s : List Bool) (a : Int) (h : ¬ rdOf false s a = true) : (cw p (f + 1) s [] a).2 ≠ [] := by
  simp only [cw, h, Bool.false_eq_true, if_false]
  intro e
  have := cw_more p f (s.set a.toNat true) ([] ++ [a]) (rd p a)
  rw [e] at this
  simp at this
theorem specCyc_run (p : List Int) (n : Nat) (hn : n ≤ 1048575) (hp : inR n p) : ∀ (d i : Nat), n - i = d → i ≤ n → Ev (fun k => spec_l1Cycles.l0 k p (cyS p n i).2 (cyS p n i).1 i) (cyS p n n).2
  | 0, i, hd, hi => by
    have : i = n := by omega
    subst this
    refine Ev.s ?_
    simp only [spec_l1Cycles.l0, hp.1, show ¬ (i : Int) < (i : Int) by omega, if_false]
    exact Ev.const rfl
  | d + 1, i, hd, hi => by
    have ih := specCyc_run p n hn hp d (i + 1) (by omega) (by omega)
    have hl := cyS_len p n i
    have hm := cyS_many p n i
    have hf := fresh_le (cyS p n i).1
    have h1 : (i : Int) < (n : Int) := by omega
    have h0 : (0 : Int) ≤ (i : Int) := by omega
    refine Ev.s ?_
    simp only [spec_l1Cycles.l0, hp.1, hl, h1, h0, if_true]
    by_cases e : rdOf false (cyS p n i).1 (i : Int) = true
    · simp only [e, if_true]
      rw [w64n (by omega)]
      simp only [cyS, cw_seen p (n + 1) (cyS p n i).1 [] i e, if_true] at ih
      exact ih
    · simp only [e, if_false]
      refine spec_cw p n (by omega) hp _ (by omega) i _ (n + 1) _ _ _ hl h0 h1 (by omega) (by simp only [List.length_nil]; omega) ?_
      rw [w64n (by omega)]
      simp only [cyS, cw_new p n (cyS p n i).1 i e, if_false] at ih
      exact ih
theorem implCyc_run (p : List Int) (n : Nat) (hn : n ≤ 1048575) (hp : inR n p) : ∀ (d i : Nat), n - i = d → i ≤ n → Ev (fun k => impl_cyclesOf.l0 k p (cyS p n i).2 (cyS p n i).1 n i) (cyS p n n).2
  | 0, i, hd, hi => by
    have : i = n := by omega
    subst this
    refine Ev.s ?_
    simp only [impl_cyclesOf.l0, show ¬ (i : Int) < (i : Int) by omega, if_false]
    exact Ev.const rfl
  | d + 1, i, hd, hi => by
    have ih := implCyc_run p n hn hp d (i + 1) (by omega) (by omega)
    have hl := cyS_len p n i
    have hm := cyS_many p n i
    have hf := fresh_le (cyS p n i).1
    have h1 : (i : Int) < (n : Int) := by omega
    have h0 : (0 : Int) ≤ (i : Int) := by omega
    refine Ev.s ?_
    simp only [impl_cyclesOf.l0, h1, if_true]
    refine impl_cw p n (by omega) hp _ (by omega) n i _ (n + 1) _ _ _ hl h0 h1 (by omega) (by simp only [List.length_nil]; omega) ?_
    rw [w64n (by omega)]
    simp only [cyS] at ih
    exact ih
theorem specCyc_ev (p : List Int) (n : Nat) (hn : n ≤ 1048575) (hp : inR n p) : Ev (fun k => spec_l1Cycles.f k p) (cyS p n n).2 := by
  unfold spec_l1Cycles.f
  have h1 : n ≤ 281474976710656 := by omega
  have h2 : (0 : Int) ≤ (n : Int) := by omega
  simp only [hp.1, Int.toNat_natCast, h1, h2, if_true]
  exact specCyc_run p n hn hp n 0 (by omega) (by omega)
theorem implCyc_ev (p : List Int) (n : Nat) (hn : n ≤ 1048575) (hp : inR n p) : Ev (fun k => impl_cyclesOf.f k p) (cyS p n n).2 := by
  unfold impl_cyclesOf.f
  have h1 : n ≤ 281474976710656 := by omega
  have h2 : (0 : Int) ≤ (n : Int) := by omega
  simp only [hp.1, Int.toNat_natCast, h1, h2, if_true]
  exact implCyc_run p n hn hp n 0 (by omega) (by omega)
theorem take_set_one (l : List Int) (i : Nat) (v : Int) (h : i < l.length) : (l.set i v).take (i + 1) = l.take i ++ [v] := by
  rw [List.take_succ_eq_append_getElem (by simpa using h), List.take_set_of_le (Nat.le_refl _), List.getElem_set_self]
def mulL (a b : List Int) : Nat → List Int
  | 0 => []
  | i + 1 => mulL a b i ++ [rd b (rd a i)]
theorem mulL_length (a b : List Int) : ∀ n, (mulL a b n).length = n
  | 0 => rfl
  | n + 1 => by simp [mulL, mulL_length a b n]
theorem mulL_rd (a b : List Int) : ∀ (n i : Nat), i < n → rd (mulL a b n) i = rd b (rd a i)
  | n + 1, i, h => by
    simp only [mulL]
    by_cases e : i < n
    · rw [rd_app_lt _ _ _ (by rw [mulL_length]; exact e), mulL_rd a b n i e]
    · have : i = n := by omega
      subst this
      have h2 : i < (mulL a b i ++ [rd b (rd a (i : Int))]).length := by simp [mulL_length]
      rw [rd_lt _ i h2, List.getElem_append_right (by rw [mulL_length]; exact Nat.le_refl _)]
      simp [mulL_length]
theorem mulL_inR (n : Nat) (a b : List Int) (ha : inR n a) (hb : inR n b) : inR n (mulL a b n) := by
  refine ⟨mulL_length a b n, fun i hi => ?_⟩
  rw [mulL_rd a b n i hi]
  have h1 := ha.2 i hi
  have h2 := hb.2 (rd a i).toNat (by omega)
  rwa [show ((rd a i).toNat : Int) = rd a i by omega] at h2
theorem specMul_run (n : Nat) (hn : n ≤ 1048576) (a b : List Int) (ha : inR n a) (hb : inR n b) : ∀ (d i : Nat), n - i = d → i ≤ n → Ev (fun k => spec_l1Mul.l0 k a b (mulL a b i) i) (mulL a b n)
  | 0, i, hd, hi => by
    have : i = n := by omega
    subst this
    refine Ev.s ?_
    simp only [spec_l1Mul.l0, ha.1, show ¬ (i : Int) < (i : Int) by omega, if_false]
    exact Ev.const rfl
  | d + 1, i, hd, hi => by
    have h1 := ha.2 i (by omega)
    have hb1 := hb.1
    refine Ev.s ?_
    simp only [spec_l1Mul.l0, ha.1, hb1, mulL_length, show (i : Int) < (n : Int) by omega, show (0 : Int) ≤ (i : Int) by omega, h1.1, h1.2, show i < 17592186044416 by omega, if_true]
    rw [w64n (by omega)]
    exact specMul_run n hn a b ha hb d (i + 1) (by omega) (by omega)
theorem specMul_ev (n : Nat) (hn : n ≤ 1048576) (a b : List Int) (ha : inR n a) (hb : inR n b) : Ev (fun k => spec_l1Mul.f k a b) (mulL a b n) := by
  unfold spec_l1Mul.f
  exact specMul_run n hn a b ha hb n 0 (by omega) (by omega)
theorem implMul_run (n : Nat) (hn : n ≤ 1048576) (a b : List Int) (ha : inR n a) (hb : inR n b) : ∀ (d i : Nat) (l : List Int), n - i = d → i ≤ n → l.length = n → l.take i = mulL a b i → Ev (fun k => impl_mul.l0 k b l a n i) (mulL a b n)
  | 0, i, l, hd, hi, hl, ht => by
    have : i = n := by omega
    subst this
    refine Ev.s ?_
    simp only [impl_mul.l0, show ¬ (i : Int) < (i : Int) by omega, if_false]
    rw [List.take_of_length_le (by omega)] at ht
    exact Ev.const (by rw [ht])
  | d + 1, i, l, hd, hi, hl, ht => by
    have h1 := ha.2 i (by omega)
    have hb1 := hb.1
    refine Ev.s ?_
    simp only [impl_mul.l0, ha.1, hb1, hl, show (i : Int) < (n : Int) by omega, show (0 : Int) ≤ (i : Int) by omega, h1.1, h1.2, if_true, Int.toNat_natCast]
    rw [w64n (by omega)]
    refine implMul_run n hn a b ha hb d (i + 1) _ (by omega) (by omega) (by simpa using hl) ?_
    rw [take_set_one _ _ _ (by omega), ht]
    rfl
theorem implMul_ev (n : Nat) (hn : n ≤ 1048576) (a b : List Int) (ha : inR n a) (hb : inR n b) : Ev (fun k => impl_mul.f k a b) (mulL a b n) := by
  unfold impl_mul.f
  have h1 : n ≤ 35184372088832 := by omega
  have h2 : (0 : Int) ≤ (n : Int) := by omega
  simp only [ha.1, Int.toNat_natCast, h1, h2, if_true]
  exact implMul_run n hn a b ha hb n 0 _ (by omega) (by omega) (by simp) (by simp [mulL])
theorem cw_bound (p : List Int) (n : Nat) (hp : inR n p) : ∀ (f : Nat) (s : List Bool) (c : List Int) (a : Int), s.length = n → 0 ≤ a → a < n → (cw p f s c a).2.length + fresh (cw p f s c a).1 ≤ c.length + fresh s
  | 0, s, c, a, hs, h0, h1 => Nat.le_refl _
  | f + 1, s, c, a, hs, h0, h1 => by
    simp only [cw]
    by_cases e : rdOf false s a = true
    · simp only [e, if_true]
      exact Nat.le_refl _
    · simp only [e, Bool.false_eq_true, if_false]
      have h3 : s.getD a.toNat false = false := by rw [← rdOf_nat s a h0]; simpa using e
      have h4 := fresh_set s a.toNat (by omega) h3
      have h5 := hp.2 a.toNat (by omega)
      rw [show ((a.toNat : Nat) : Int) = a by omega] at h5
      have ih := cw_bound p n hp f (s.set a.toNat true) (c ++ [a]) (rd p a) (by simpa using hs) h5.1 h5.2
      rw [List.length_append, List.length_singleton] at ih
      omega
theorem cyS_bound (p : List Int) (n : Nat) (hp : inR n p) : ∀ i, i ≤ n → ∀ l ∈ (cyS p n i).2, 1 ≤ l.length ∧ l.length ≤ n
  | 0, _, l, hl => by simp [cyS] at hl
  | i + 1, hi, l, hl => by
    have ih := cyS_bound p n hp i (by omega) l
    simp only [cyS] at hl
    have hb := cw_bound p n hp (n + 1) (cyS p n i).1 [] i (cyS_len p n i) (by omega) (by omega)
    have hf := fresh_le (cyS p n i).1
    rw [cyS_len] at hf
    rw [List.length_nil, Nat.zero_add] at hb
    by_cases e : (cw p (n + 1) (cyS p n i).1 [] (i : Int)).2 = []
    · rw [if_pos e] at hl
      exact ih hl
    · rw [if_neg e, List.mem_append] at hl
      rcases hl with hl | hl
      · exact ih hl
      · rw [List.mem_singleton.1 hl]
        have : 0 < (cw p (n + 1) (cyS p n i).1 [] (i : Int)).2.length := List.length_pos_iff.2 e
        omega
theorem cyS_pos (p : List Int) (n : Nat) (h1 : 1 ≤ n) : 0 < (cyS p n n).2.length := by
  have hm : ∀ i, 1 ≤ i → 0 < (cyS p n i).2.length := by
    intro i
    induction i with
    | zero => intro h; omega
    | succ i ih =>
      intro _
      simp only [cyS]
      by_cases hi : 1 ≤ i
      · have := ih hi
        split
        · exact this
        · rw [List.length_append]; omega
      · have : i = 0 := by omega
        subst this
        rw [if_neg (cw_new p n _ _ (by show ¬ (List.replicate n false).getD 0 false = true; rw [List.getD_eq_getElem?_getD, List.getElem?_replicate]; split <;> simp))]
        rw [List.length_append, List.length_singleton]
        omega
  exact hm n h1
def lensL (C : List (List Int)) : List Int := C.map fun l => (l.length : Int)
theorem lens_take (C : List (List Int)) (i : Nat) (h : i < C.length) : lensL (C.take (i + 1)) = lensL (C.take i) ++ [((rd_L1 C (i : Int)).length : Int)] := by
  unfold lensL rd_L1
  rw [List.take_succ_eq_append_getElem h, List.map_append, Int.toNat_natCast, List.getD_eq_getElem?_getD, List.getElem?_eq_getElem h]
  rfl
def tlL (C : List (List Int)) : Nat → List Int
  | 0 => []
  | d + 1 => List.replicate (C.countP fun l => decide (l.length = d + 1)) ((d + 1 : Nat) : Int) ++ tlL C d
theorem tlL_len (C : List (List Int)) : ∀ d, (tlL C d).length ≤ d * C.length
  | 0 => by simp [tlL]
  | d + 1 => by
    have ih := tlL_len C d
    have := List.countP_le_length (p := fun l : List Int => decide (l.length = d + 1)) (l := C)
    simp only [tlL, List.length_append, List.length_replicate]
    rw [Nat.succ_mul]
    omega
theorem type_inner (C : List (List Int)) (hC : C.length ≤ 12) (n : Nat) (v : Nat) (hv : v ≤ 12) (r : List Int) : ∀ (d i : Nat) (acc : List Int), C.length - i = d → i ≤ C.length → acc.length + d ≤ 1000 →
    Ev (fun k => spec_l1Type.l0 k (acc ++ List.replicate ((C.drop i).countP fun l => decide (l.length = v)) (v : Int)) C (wrap64 ((v : Int) - 1))) r → Ev (fun k => spec_l1Type.l1 k acc C v i) r
  | 0, i, acc, hd, hi, ha, h => by
    refine Ev.s ?_
    rw [List.drop_eq_nil_of_le (by omega)] at h
    simp only [List.countP_nil, List.replicate_zero, List.append_nil] at h
    simp only [spec_l1Type.l1, show ¬ (i : Int) < (C.length : Int) by omega, if_false]
    exact h
  | d + 1, i, acc, hd, hi, ha, h => by
    have hlt : i < C.length := by omega
    have hrd : rd_L1 C (i : Int) = C[i] := by unfold rd_L1; rw [Int.toNat_natCast, List.getD_eq_getElem?_getD, List.getElem?_eq_getElem hlt]; rfl
    rw [List.drop_eq_getElem_cons hlt, List.countP_cons] at h
    refine Ev.s ?_
    simp only [spec_l1Type.l1, show (i : Int) < (C.length : Int) by omega, show (0 : Int) ≤ (i : Int) by omega, hrd, if_true, w64n (show i < 4611686018427387904 by omega)]
    by_cases e : C[i].length = v
    · simp only [e, decide_true, if_true, show acc.length < 17592186044416 by omega] at h ⊢
      refine type_inner C hC n v hv r d (i + 1) (acc ++ [(v : Int)]) (by omega) (by omega) (by rw [List.length_append, List.length_singleton]; omega) ?_
      rw [List.append_assoc, List.singleton_append, ← List.replicate_succ]
      exact h
    · simp only [e, decide_false, Bool.false_eq_true, if_false, Nat.add_zero] at h
      simp only [show ¬ ((C[i].length : Nat) : Int) = (v : Int) by omega, if_false]
      exact type_inner C hC n v hv r d (i + 1) acc (by omega) (by omega) (by omega) h
theorem type_outer (C : List (List Int)) (hC : C.length ≤ 12) : ∀ (d : Nat) (acc : List Int), d ≤ 12 → acc.length + 12 * d ≤ 500 → Ev (fun k => spec_l1Type.l0 k acc C (d : Int)) (acc ++ tlL C d)
  | 0, acc, hd, ha => by
    refine Ev.s ?_
    simp only [spec_l1Type.l0, tlL, List.append_nil, show ¬ ((0 : Nat) : Int) > 0 by omega, if_false]
    exact Ev.const rfl
  | d + 1, acc, hd, ha => by
    have hc := List.countP_le_length (p := fun l : List Int => decide (l.length = d + 1)) (l := C)
    have ih := type_outer C hC d (acc ++ List.replicate (C.countP fun l => decide (l.length = d + 1)) ((d + 1 : Nat) : Int)) (by omega) (by rw [List.length_append, List.length_replicate]; omega)
    refine Ev.s ?_
    simp only [spec_l1Type.l0, show ((d + 1 : Nat) : Int) > 0 by omega, if_true]
    refine type_inner C hC 0 (d + 1) hd _ C.length 0 acc (by omega) (by omega) (by omega) ?_
    rw [List.drop_zero, w64 (x := ((d + 1 : Nat) : Int) - 1) (by omega) (by omega), show ((d + 1 : Nat) : Int) - 1 = (d : Int) by omega]
    rw [List.append_assoc] at ih
    exact ih
theorem rd_setN (l : List Int) (i j : Nat) (v : Int) (h : i < l.length) : rd (l.set i v) (j : Int) = if j = i then v else rd l (j : Int) := by
  by_cases e : j = i
  · subst e
    rw [if_pos rfl, rd_set_self l j v h]
  · rw [if_neg e, rd_set_ne l i j v (fun z => e z.symm)]
theorem rev_exact_run (l : List Int) (hl : l.length ≤ 1048576) : ∀ (d i : Nat) (m : List Int), l.length - 2 * i ≤ d → 2 * i ≤ l.length + 1 → m.length = l.length →
    (∀ z : Nat, z < l.length → rd m (z : Int) = if z < i ∨ l.length < z + i + 1 then rd l ((l.length - 1 - z : Nat) : Int) else rd l (z : Int)) → Ev (fun k => slices_Reverse_int_int.l0 k m (i : Int) ((l.length : Int) - 1 - (i : Int))) l.reverse
  | d, i, m, hd, hi, hm, hr => by
    by_cases hij : (i : Int) < (l.length : Int) - 1 - (i : Int)
    · obtain ⟨d, rfl⟩ : ∃ e, d = e + 1 := ⟨d - 1, by omega⟩
      have hjn : ((l.length : Int) - 1 - (i : Int)).toNat = l.length - 1 - i := by omega
      have hji : ((l.length : Int) - 1 - (i : Int)) = ((l.length - 1 - i : Nat) : Int) := by omega
      have ih := rev_exact_run l hl d (i + 1) ((m.set (i : Int).toNat (rd m ((l.length : Int) - 1 - (i : Int)))).set ((l.length : Int) - 1 - (i : Int)).toNat (rd m (i : Int))) (by omega) (by omega) (by simpa using hm) (by
        intro z hz
        rw [hjn, Int.toNat_natCast, rd_setN _ _ _ _ (by simp only [List.length_set]; omega), rd_setN _ _ _ _ (by omega), hji, hr (l.length - 1 - i) (by omega), hr i (by omega), hr z hz]
        by_cases e1 : z = l.length - 1 - i
        · subst e1
          rw [if_pos rfl, if_neg (by omega), if_pos (by omega)]
          congr 1
          omega
        · rw [if_neg e1]
          by_cases e2 : z = i
          · subst e2
            rw [if_pos rfl, if_neg (by omega), if_pos (by omega)]
          · rw [if_neg e2]
            by_cases e3 : z < i ∨ l.length < z + i + 1
            · rw [if_pos e3, if_pos (by omega)]
            · rw [if_neg e3, if_neg (by omega)])
      refine Ev.s ?_
      simp only [slices_Reverse_int_int.l0, hij, show (0 : Int) ≤ (l.length : Int) - 1 - (i : Int) by omega, show (l.length : Int) - 1 - (i : Int) < (m.length : Int) by omega, show (0 : Int) ≤ (i : Int) by omega, show (i : Int) < (m.length : Int) by omega, if_true]
      rw [w64 (x := (i : Int) + 1) (by omega) (by omega), w64 (x := (l.length : Int) - 1 - (i : Int) - 1) (by omega) (by omega), show (i : Int) + 1 = ((i + 1 : Nat) : Int) by omega, show (l.length : Int) - 1 - (i : Int) - 1 = (l.length : Int) - 1 - ((i + 1 : Nat) : Int) by omega]
      exact ih
    · have e : m = l.reverse := by
        refine list_ext _ _ (by rw [List.length_reverse, hm]) fun z hz => ?_
        rw [hm] at hz
        have hrev : rd l.reverse (z : Int) = rd l ((l.length - 1 - z : Nat) : Int) := by
          rw [rd_lt _ z (by simpa using hz), rd_lt l (l.length - 1 - z) (by omega), List.getElem_reverse]
        rw [hrev, hr z hz]
        by_cases e3 : z < i ∨ l.length < z + i + 1
        · rw [if_pos e3]
        · rw [if_neg e3]
          congr 1
          omega
      refine Ev.s ?_
      simp only [slices_Reverse_int_int.l0, hij, if_false]
      rw [e]
      exact Ev.const rfl
theorem rev_exact (l : List Int) (hl : l.length ≤ 1048576) : Ev (fun k => slices_Reverse_int_int.f k l) l.reverse := by
  unfold slices_Reverse_int_int.f
  rw [w64 (by omega) (by omega)]
  have := rev_exact_run l hl l.length 0 l (by omega) (by omega) rfl (fun z hz => by rw [if_neg (by omega)])
  simpa using this
theorem desc_uniq : ∀ (a b : List Int), a.Pairwise (fun x y => y ≤ x) → b.Pairwise (fun x y => y ≤ x) → a.Perm b → a = b
  | [], b, _, _, h => (List.nil_perm.1 h).symm
  | x :: a, b, ha, hb, h => by
    match b, hb, h with
    | [], _, h => exact absurd h.length_eq (by simp)
    | y :: b, hb, h =>
      rw [List.pairwise_cons] at ha hb
      have hx : x ∈ y :: b := h.mem_iff.1 (by simp)
      have hy : y ∈ x :: a := h.mem_iff.2 (by simp)
      have hxy : x = y := by
        rcases List.mem_cons.1 hx with e | hx
        · exact e
        · rcases List.mem_cons.1 hy with e | hy
          · exact e.symm
          · have h1 := hb.1 x hx
            have h2 := ha.1 y hy
            omega
      subst hxy
      rw [desc_uniq a b ha.2 hb.2 (List.Perm.cons_inv h)]
theorem tlL_desc (C : List (List Int)) : ∀ d, (tlL C d).Pairwise (fun x y => y ≤ x) ∧ ∀ x ∈ tlL C d, x ≤ (d : Int)
  | 0 => by simp [tlL]
  | d + 1 => by
    obtain ⟨ih1, ih2⟩ := tlL_desc C d
    constructor
    · simp only [tlL]
      rw [List.pairwise_append]
      refine ⟨List.pairwise_replicate.2 (.inr (Int.le_refl _)), ih1, fun x hx y hy => ?_⟩
      have := ih2 y hy
      rw [(List.mem_replicate.1 hx).2]
      omega
    · intro x hx
      simp only [tlL, List.mem_append] at hx
      rcases hx with hx | hx
      · rw [(List.mem_replicate.1 hx).2]; omega
      · have := ih2 x hx; omega
theorem tlL_count (C : List (List Int)) (x : Int) : ∀ d, (tlL C d).count x = C.countP fun l => decide (1 ≤ l.length ∧ l.length ≤ d ∧ (l.length : Int) = x)
  | 0 => by
    simp only [tlL, List.count_nil]
    exact (List.countP_eq_zero.2 fun l _ => by simp only [decide_eq_true_eq]; omega).symm
  | d + 1 => by
    have ih := tlL_count C x d
    simp only [tlL, List.count_append, List.count_replicate, ih]
    by_cases e : x = ((d + 1 : Nat) : Int)
    · subst e
      rw [if_pos (by simp), (List.countP_eq_zero (p := fun l : List Int => decide (1 ≤ l.length ∧ l.length ≤ d ∧ (l.length : Int) = ((d + 1 : Nat) : Int)))).2 (fun l _ => by simp only [decide_eq_true_eq]; omega), Nat.add_zero]
      refine List.countP_congr fun l _ => ?_
      simp only [decide_eq_true_eq]
      omega
    · rw [if_neg (by simp only [beq_iff_eq]; omega), Nat.zero_add]
      refine List.countP_congr fun l _ => ?_
      simp only [decide_eq_true_eq]
      omega
theorem tlL_perm (C : List (List Int)) (d : Nat) (h : ∀ l ∈ C, 1 ≤ l.length ∧ l.length ≤ d) : (tlL C d).Perm (lensL C) := by
  rw [List.perm_iff_count]
  intro x
  rw [tlL_count]
  unfold lensL List.count
  rw [List.countP_map]
  refine List.countP_congr fun l hl => ?_
  have := h l hl
  simp only [decide_eq_true_eq, Function.comp_apply, beq_iff_eq]
  omega
theorem typeOf_ev (p : List Int) (n : Nat) (hn : n ≤ 12) (h1 : 1 ≤ n) (hp : inR n p) : Ev (fun k => impl_typeOf.f k p) (tlL (cyS p n n).2 n) := by
  have hCb := cyS_bound p n hp n (Nat.le_refl _)
  have hCm := cyS_many p n n
  have hCp := cyS_pos p n h1
  have hll : (lensL (cyS p n n).2).length = (cyS p n n).2.length := by simp [lensL]
  have hs : ((lensL (cyS p n n).2).mergeSort fun x y => decide (x ≤ y)).length = (cyS p n n).2.length := by rw [List.length_mergeSort, hll]
  have hrev : ((lensL (cyS p n n).2).mergeSort fun x y => decide (x ≤ y)).reverse = tlL (cyS p n n).2 n := by
    refine desc_uniq _ _ ?_ (tlL_desc _ n).1 ?_
    · rw [List.pairwise_reverse]
      have := List.pairwise_mergeSort (le := fun x y : Int => decide (x ≤ y)) (fun a b c h1 h2 => by simp only [decide_eq_true_eq] at *; omega) (fun a b => by simp only [Bool.or_eq_true, decide_eq_true_eq]; omega) (lensL (cyS p n n).2)
      exact this.imp fun h => by simpa using h
    · exact (List.reverse_perm _).trans ((List.mergeSort_perm _ _).trans (tlL_perm _ n hCb).symm)
  have r1 := rev_exact ((lensL (cyS p n n).2).mergeSort fun x y => decide (x ≤ y)) (by omega)
  rw [hrev] at r1
  have hsort : slices_Sort_int_int.f (lensL (cyS p n n).2) = some ((lensL (cyS p n n).2).mergeSort fun x y => decide (x ≤ y)) := by
    unfold slices_Sort_int_int.f
    rw [if_pos ⟨by omega, by omega⟩]
  have run : ∀ (d i : Nat), (cyS p n n).2.length - i = d → i ≤ (cyS p n n).2.length → Ev (fun k => impl_typeOf.l0 k (lensL ((cyS p n n).2.take i)) (cyS p n n).2 (cyS p n n).2.length i) (tlL (cyS p n n).2 n) := by
    intro d
    induction d with
    | zero =>
      intro i hd hi
      have e : i = (cyS p n n).2.length := by omega
      rw [e, List.take_length]
      refine Ev.s ?_
      simp only [impl_typeOf.l0, show ¬ ((cyS p n n).2.length : Int) < ((cyS p n n).2.length : Int) by omega, if_false, hsort, Option.bind_some]
      exact Ev.bind r1 (Ev.const rfl)
    | succ d ih =>
      intro i hd hi
      have h := ih (i + 1) (by omega) (by omega)
      rw [lens_take _ i (by omega)] at h
      have hlt : (lensL ((cyS p n n).2.take i)).length < 17592186044416 := by simp only [lensL, List.length_map, List.length_take]; omega
      refine Ev.s ?_
      simp only [impl_typeOf.l0, show (i : Int) < ((cyS p n n).2.length : Int) by omega, show (0 : Int) ≤ (i : Int) by omega, hlt, if_true, w64n (show i < 4611686018427387904 by omega)]
      exact h
  unfold impl_typeOf.f
  refine Ev.bind (implCyc_ev p n (by omega) hp) ?_
  exact run _ 0 rfl (by omega)
theorem l1Type_ev (p : List Int) (n : Nat) (hn : n ≤ 12) (hp : inR n p) : Ev (fun k => spec_l1Type.f k p) (tlL (cyS p n n).2 n) := by
  have hCm := cyS_many p n n
  unfold spec_l1Type.f
  refine Ev.bind (specCyc_ev p n (by omega) hp) ?_
  rw [hp.1]
  exact type_outer (cyS p n n).2 (by omega) n [] (by omega) (by simp only [List.length_nil]; omega)
theorem index_run (c : List Int) (hc : c.length ≤ 1048576) (x : Int) : ∀ (d i : Nat), c.length - i = d → i ≤ c.length → ∃ v : Int, Ev (fun k => slices_Index_int_int.l0 k c x c.length i) v ∧ (v ≥ 0 ↔ x ∈ c.drop i)
  | 0, i, hd, hi => by
    refine ⟨-1, Ev.s ?_, ?_⟩
    · simp only [slices_Index_int_int.l0, show ¬ (i : Int) < (c.length : Int) by omega, if_false]
      exact Ev.const rfl
    · rw [List.drop_eq_nil_of_le (by omega)]
      simp
  | d + 1, i, hd, hi => by
    have hlt : i < c.length := by omega
    have e := rd_lt c i hlt
    by_cases h : x = rd c i
    · refine ⟨i, Ev.s ?_, ?_⟩
      · simp only [slices_Index_int_int.l0, show (i : Int) < (c.length : Int) by omega, show (0 : Int) ≤ (i : Int) by omega, if_true]
        rw [← h]
        simp only [if_true]
        exact Ev.const rfl
      · rw [List.drop_eq_getElem_cons hlt, ← e, ← h]
        exact ⟨fun _ => List.mem_cons_self, fun _ => by omega⟩
    · obtain ⟨v, v1, v2⟩ := index_run c hc x d (i + 1) (by omega) (by omega)
      refine ⟨v, Ev.s ?_, ?_⟩
      · simp only [slices_Index_int_int.l0, show (i : Int) < (c.length : Int) by omega, show (0 : Int) ≤ (i : Int) by omega, if_true, h, if_false, w64n (show i < 4611686018427387904 by omega)]
        exact v1
      · rw [v2, List.drop_eq_getElem_cons hlt, List.mem_cons]
        exact ⟨.inr, fun z => z.elim (fun y => absurd (by rw [e, y]) h) id⟩
theorem contains_ev (c : List Int) (hc : c.length ≤ 1048576) (x : Int) : Ev (fun k => slices_Contains_int_int.f k c x) (decide (x ∈ c)) := by
  obtain ⟨v, v1, v2⟩ := index_run c hc x c.length 0 (by omega) (by omega)
  unfold slices_Contains_int_int.f slices_Index_int_int.f
  refine Ev.bind v1 (Ev.const ?_)
  rw [List.drop_zero] at v2
  congr 1
  rw [Bool.eq_iff_iff, decide_eq_true_eq, decide_eq_true_eq]
  exact v2
theorem fwrap_mod (x : Int) : ∃ k : Int, wrap64 x = x + k * 18446744073709551616 := by
  unfold wrap64
  refine ⟨-((x + 9223372036854775808) / 18446744073709551616), ?_⟩
  omega
theorem fwrap_add_mul (x k : Int) : wrap64 (x + k * 18446744073709551616) = wrap64 x := by
  unfold wrap64
  omega
theorem wrap_addl (a b : Int) : wrap64 (wrap64 a + b) = wrap64 (a + b) := by
  obtain ⟨k1, e1⟩ := fwrap_mod a
  rw [e1, show a + k1 * 18446744073709551616 + b = (a + b) + k1 * 18446744073709551616 by omega, fwrap_add_mul]
theorem wrap_addr (a b : Int) : wrap64 (a + wrap64 b) = wrap64 (a + b) := by
  rw [Int.add_comm, wrap_addl, Int.add_comm]
theorem equal_run (a b : List Int) (ha : a.length ≤ 1048576) (hb : b.length = a.length) : ∀ (d i : Nat), a.length - i = d → i ≤ a.length → Ev (fun k => slices_Equal_int_int.l0 k a b a.length i) (decide (a.drop i = b.drop i))
  | 0, i, hd, hi => by
    have e : i = a.length := by omega
    subst e
    refine Ev.s ?_
    rw [List.drop_length, ← hb, List.drop_length]
    simp only [slices_Equal_int_int.l0, show ¬ (b.length : Int) < (b.length : Int) by omega, if_false, decide_true]
    exact Ev.const rfl
  | d + 1, i, hd, hi => by
    have h1 : i < a.length := by omega
    have h2 : i < b.length := by omega
    refine Ev.s ?_
    rw [drop_rd a i h1, drop_rd b i h2]
    simp only [slices_Equal_int_int.l0, show (i : Int) < (a.length : Int) by omega, show (i : Int) < (b.length : Int) by omega, show (0 : Int) ≤ (i : Int) by omega, if_true]
    by_cases e : rd a (i : Int) = rd b (i : Int)
    · simp only [e, if_true, List.cons.injEq, true_and, w64n (show i < 4611686018427387904 by omega)]
      exact equal_run a b ha hb d (i + 1) (by omega) (by omega)
    · simp only [e, if_false, List.cons.injEq, false_and, decide_false]
      exact Ev.const rfl
theorem equal_ev (a b : List Int) (ha : a.length ≤ 1048576) : Ev (fun k => slices_Equal_int_int.f k a b) (decide (a = b)) := by
  unfold slices_Equal_int_int.f
  by_cases h : (a.length : Int) = (b.length : Int)
  · simp only [h, if_true]
    have := equal_run a b ha (by omega) a.length 0 (by omega) (by omega)
    rw [List.drop_zero, List.drop_zero, show (a.length : Int) = (b.length : Int) from h] at this
    exact this
  · simp only [h, if_false]
    rw [decide_eq_false (fun e => h (by rw [e]))]
    exact Ev.const rfl
def Runs {σ : Type} (step : Nat → σ → List Int → Option σ) : σ → List (List Int) → σ → Prop
  | s, [], s' => s = s'
  | s, p :: L, s' => ∃ s1, Ev (fun k => step k s p) s1 ∧ Runs step s1 L s'
theorem Runs.split {σ : Type} {step : Nat → σ → List Int → Option σ} : ∀ (L1 L2 : List (List Int)) (s s' : σ), Runs step s (L1 ++ L2) s' → ∃ s1, Runs step s L1 s1 ∧ Runs step s1 L2 s'
  | [], L2, s, s', h => ⟨s, rfl, h⟩
  | p :: L1, L2, s, s', h => by
    obtain ⟨s1, e, h⟩ := h
    obtain ⟨s2, h1, h2⟩ := Runs.split L1 L2 s1 s' h
    exact ⟨s2, ⟨s1, e, h1⟩, h2⟩
def pl (n : Nat) : Nat → List Int → List (List Int)
  | 0, p => [p]
  | m + 1, p => (List.range' 0 n).flatMap fun (i : Nat) => if (i : Int) ∈ p then [] else pl n m (p ++ [(i : Int)])
theorem perm_ev {σ : Type} (step : Nat → σ → List Int → Option σ) (n : Nat) (hn : n ≤ 12) : ∀ (m : Nat) (p : List Int) (s s' : σ), p.length + m = n → Runs step s (pl n m p) s' → Ev (fun k => permG step k n s p) s'
  | 0, p, s, s', hl, h => by
    obtain ⟨s1, e, h⟩ := h
    have h : s1 = s' := h
    subst h
    refine Ev.s ?_
    simp only [permG, show (p.length : Int) = (n : Int) by omega, if_true]
    exact e
  | m + 1, p, s, s', hl, h => by
    have ih := perm_ev step n hn m
    have loop : ∀ (d i : Nat) (s : σ), n - i = d → i ≤ n → Runs step s ((List.range' i d).flatMap fun (i : Nat) => if (i : Int) ∈ p then [] else pl n m (p ++ [(i : Int)])) s' → Ev (fun k => permL step k n s p i) s' := by
      intro d
      induction d with
      | zero =>
        intro i s hd hi h
        have h : s = s' := h
        subst h
        refine Ev.s ?_
        simp only [permL, show ¬ (i : Int) < (n : Int) by omega, if_false]
        exact Ev.const rfl
      | succ d ihd =>
        intro i s hd hi h
        rw [List.range'_succ, List.flatMap_cons] at h
        obtain ⟨s1, r1, r2⟩ := Runs.split _ _ _ _ h
        have hc := contains_ev p (by omega) (i : Int)
        have go := ihd (i + 1) s1 (by omega) (by omega) r2
        refine Ev.s ?_
        simp only [permL, show (i : Int) < (n : Int) by omega, if_true]
        refine Ev.bind hc ?_
        by_cases b : (i : Int) ∈ p
        · rw [if_pos b] at r1
          have r1 : s = s1 := r1
          subst r1
          simp only [b, decide_true, if_true, w64n (show i < 4611686018427387904 by omega)]
          exact go
        · rw [if_neg b] at r1
          have e1 := ih (p ++ [(i : Int)]) s s1 (by simp only [List.length_append, List.length_cons, List.length_nil]; omega) r1
          simp only [b, decide_false, Bool.false_eq_true, if_false, slices_Clone_int_int.f, show p.length < 17592186044416 by omega, if_true, Option.bind_some, List.length_cons, List.length_nil, show p.length + (0 + 1) < 17592186044416 by omega]
          refine Ev.bind e1 ?_
          simp only [w64n (show i < 4611686018427387904 by omega)]
          exact go
    refine Ev.s ?_
    simp only [permG, show ¬ (p.length : Int) = (n : Int) by omega, if_false]
    exact loop n 0 s (by omega) (by omega) h
theorem pl_inR (n : Nat) : ∀ (m : Nat) (p : List Int), p.length + m = n → (∀ x ∈ p, 0 ≤ x ∧ x < n) → ∀ q ∈ pl n m p, q.length = n ∧ ∀ x ∈ q, 0 ≤ x ∧ x < n
  | 0, p, hl, hp, q, hq => by
    have : q = p := by simpa [pl] using hq
    subst this
    exact ⟨by omega, hp⟩
  | m + 1, p, hl, hp, q, hq => by
    simp only [pl, List.mem_flatMap, List.mem_range'_1] at hq
    obtain ⟨i, hi, hq⟩ := hq
    split at hq
    · simp at hq
    · refine pl_inR n m (p ++ [(i : Int)]) (by simp only [List.length_append, List.length_cons, List.length_nil]; omega) (fun x hx => ?_) q hq
      rcases List.mem_append.1 hx with hx | hx
      · exact hp x hx
      · have : x = i := by simpa using hx
        omega
def PL (n : Nat) : List (List Int) := pl n n []
theorem PL_inR (n : Nat) (q : List Int) (hq : q ∈ PL n) : inR n q := by
  obtain ⟨h1, h2⟩ := pl_inR n n [] (by simp) (by simp) q hq
  refine ⟨h1, fun i hi => ?_⟩
  rw [rd_lt q i (by omega)]
  exact h2 _ (List.getElem_mem _)
def TY (n : Nat) (p : List Int) : List Int := tlL (cyS p n n).2 n
def FL (n : Nat) (L : List (List Int)) (t : List Int) : List (List Int) := L.filter fun p => decide (TY n p = t)
theorem TY_len (n : Nat) (hn : n ≤ 12) (p : List Int) : (TY n p).length ≤ 1048576 := by
  have h1 := tlL_len (cyS p n n).2 n
  have h2 := cyS_many p n n
  have h3 : n * (cyS p n n).2.length ≤ 12 * 12 := Nat.mul_le_mul hn (by omega)
  unfold TY
  omega
theorem FL_app (n : Nat) (L : List (List Int)) (p t : List Int) : FL n (L ++ [p]) t = if TY n p = t then FL n L t ++ [p] else FL n L t := by
  unfold FL
  rw [List.filter_append]
  by_cases h : TY n p = t <;> simp [h]
theorem FL_len (n : Nat) (L : List (List Int)) (t : List Int) : (FL n L t).length ≤ L.length := List.length_filter_le _ _
def csAt (n : Nat) (ts : List (List Int)) (L : List (List Int)) (p : List Int) (i : Nat) : List (List (List Int)) := (ts.take i).map (FL n (L ++ [p])) ++ (ts.drop i).map (FL n L)
theorem csAt_get (n : Nat) (ts : List (List Int)) (L : List (List Int)) (p : List Int) (i : Nat) (h : i < ts.length) : (csAt n ts L p i).getD i [] = FL n L ts[i] := by
  have h1 : ((ts.take i).map (FL n (L ++ [p]))).length = i := by rw [List.length_map, List.length_take]; omega
  unfold csAt
  rw [List.getD_eq_getElem?_getD, List.getElem?_append_right (by omega), h1, Nat.sub_self, List.drop_eq_getElem_cons h, List.map_cons, List.getElem?_cons_zero]
  rfl
theorem csAt_succ (n : Nat) (ts : List (List Int)) (L : List (List Int)) (p : List Int) (i : Nat) (h : i < ts.length) : (csAt n ts L p i).set i (FL n (L ++ [p]) ts[i]) = csAt n ts L p (i + 1) := by
  have h1 : ((ts.take i).map (FL n (L ++ [p]))).length = i := by rw [List.length_map, List.length_take]; omega
  unfold csAt
  rw [List.set_append_right _ _ (by omega), h1, Nat.sub_self, List.drop_eq_getElem_cons h, List.map_cons, List.set_cons_zero, List.take_succ_eq_append_getElem h, List.map_append, List.append_assoc]
  rfl
theorem csAt_same (n : Nat) (ts : List (List Int)) (L : List (List Int)) (p : List Int) (i : Nat) (h : i < ts.length) (e : FL n (L ++ [p]) ts[i] = FL n L ts[i]) : csAt n ts L p i = csAt n ts L p (i + 1) := by
  unfold csAt
  rw [List.drop_eq_getElem_cons h, List.map_cons, List.take_succ_eq_append_getElem h, List.map_append, List.append_assoc, List.map_cons, List.map_nil, e]
  rfl
theorem rdS_nth (ps : List (List Int)) (q : Nat) (h : q < ps.length) : rdS ps (q : Int) = ps[q] := rdL_nth ps q h
theorem fac1_run (n : Nat) (h1 : 1 ≤ n) (hn : n ≤ 12) (ts : List (List Int)) (hts : ts.length ≤ 1048576) (L : List (List Int)) (hL : L.length ≤ 1048576) (p : List Int) (hp : inR n p) : ∀ (d i : Nat), ts.length - i = d → i ≤ ts.length → Ev (fun k => fac1L k ts p (csAt n ts L p i) i) (ts.map (FL n (L ++ [p])))
  | 0, i, hd, hi => by
    have e : i = ts.length := by omega
    subst e
    refine Ev.s ?_
    simp only [fac1L, show ¬ (ts.length : Int) < (ts.length : Int) by omega, if_false]
    refine Ev.const (congrArg some ?_)
    simp [csAt]
  | d + 1, i, hd, hi => by
    have hlt : i < ts.length := by omega
    have ih := fac1_run n h1 hn ts hts L hL p hp d (i + 1) (by omega) (by omega)
    refine Ev.s ?_
    simp only [fac1L, show (i : Int) < (ts.length : Int) by omega, show (0 : Int) ≤ (i : Int) by omega, if_true]
    refine Ev.bind (typeOf_ev p n hn h1 hp) (Ev.bind (equal_ev (TY n p) (rdS ts (i : Int)) (TY_len n hn p)) ?_)
    rw [rdS_nth ts i hlt]
    simp only [w64n (show i < 4611686018427387904 by omega), Int.toNat_natCast, csAt_get n ts L p i hlt]
    have e := FL_app n L p ts[i]
    by_cases c : TY n p = ts[i]
    · rw [if_pos c] at e
      have hp1 := hp.1
      have hf := FL_len n L ts[i]
      simp only [c, decide_true, if_true, slices_Clone_int_int.f, show p.length < 17592186044416 by omega, Option.bind_some, show (FL n L ts[i]).length < 5864062014805 by omega]
      rw [← e, csAt_succ n ts L p i hlt]
      exact ih
    · rw [if_neg c] at e
      simp only [c, decide_false, Bool.false_eq_true, if_false]
      rw [csAt_same n ts L p i hlt e]
      exact ih
theorem fac1_ev (n : Nat) (h1 : 1 ≤ n) (hn : n ≤ 12) (ts : List (List Int)) (hts : ts.length ≤ 1048576) (L : List (List Int)) (hL : L.length ≤ 1048576) (p : List Int) (hp : inR n p) : Ev (fun k => fac1L k ts p (ts.map (FL n L)) 0) (ts.map (FL n (L ++ [p]))) := by
  have h := fac1_run n h1 hn ts hts L hL p hp ts.length 0 (by omega) (by omega)
  have e : csAt n ts L p 0 = ts.map (FL n L) := by simp [csAt]
  rw [e] at h
  exact h
theorem fac1_runs (n : Nat) (h1 : 1 ≤ n) (hn : n ≤ 12) (ts : List (List Int)) (hts : ts.length ≤ 1048576) : ∀ (L2 L : List (List Int)), L.length + L2.length ≤ 1048576 → (∀ p ∈ L2, inR n p) → Runs (fun k cs p => fac1L k ts p cs 0) (ts.map (FL n L)) L2 (ts.map (FL n (L ++ L2)))
  | [], L, _, _ => by rw [List.append_nil]; exact rfl
  | p :: L2, L, hl, hp => by
    simp only [List.length_cons] at hl
    refine ⟨_, fac1_ev n h1 hn ts hts L (by omega) p (hp p (by simp)), ?_⟩
    have h := fac1_runs n h1 hn ts hts L2 (L ++ [p]) (by simp only [List.length_append, List.length_cons, List.length_nil]; omega) (fun q hq => hp q (by simp [hq]))
    rwa [List.append_assoc, List.singleton_append] at h
theorem classes_ev (n : Nat) (h1 : 1 ≤ n) (hn : n ≤ 12) (hL : (PL n).length ≤ 1048576) (ts : List (List Int)) (hts : ts.length ≤ 1048576) : Ev (fun k => permG (fun k cs p => fac1L k ts p cs 0) k n (List.replicate ts.length []) []) (ts.map (FL n (PL n))) := by
  refine perm_ev _ n hn n [] _ _ (by simp) ?_
  have h := fac1_runs n h1 hn ts hts (PL n) [] (by simpa using hL) (fun p hp => PL_inR n p hp)
  have e : ts.map (FL n []) = List.replicate ts.length [] := by
    rw [List.map_eq_replicate_iff.2]
    intro t _
    rfl
  rw [e] at h
  exact h
def cntF (n : Nat) (leaf : List (List Int) → Nat) : List (List (List Int)) → List (List Int) → List Int → Nat
  | [], l, pr => if pr = stl n then leaf l else 0
  | C :: Cs, l, pr => (C.map fun p => cntF n leaf Cs (l ++ [p]) (mulL pr p n)).sum
theorem fac2_ev (n : Nat) (h1 : 1 ≤ n) (hn : n ≤ 12) (leaf : List (List Int) → Nat) (step : Nat → Int → List (List Int) → Option Int) (ts : List (List Int)) (hts : ts.length ≤ 1048576) (cs : List (List (List Int))) (hcs : cs.length = ts.length) (hC : ∀ C ∈ cs, C.length ≤ 1048576 ∧ ∀ q ∈ C, inR n q)
    (hs : ∀ (l : List (List Int)) (m : Int), l.length = ts.length → (∀ q ∈ l, inR n q) → Ev (fun k => step k (wrap64 m) l) (wrap64 (m + leaf l))) :
    ∀ (Cs : List (List (List Int))) (l : List (List Int)) (pr : List Int) (m : Int), cs.drop l.length = Cs → l.length + Cs.length = cs.length → (∀ q ∈ l, inR n q) → inR n pr → Ev (fun k => facG step ts n cs k (wrap64 m) l pr) (wrap64 (m + (cntF n leaf Cs l pr : Int)))
  | [], l, pr, m, hd, hl, hq, hp => by
    simp only [List.length_nil, Nat.add_zero] at hl
    refine Ev.s ?_
    simp only [facG, show (l.length : Int) = (ts.length : Int) by omega, if_true]
    refine Ev.bind (still_ev n (by omega)) (Ev.bind (equal_ev pr (stl n) (by rw [hp.1]; omega)) ?_)
    by_cases e : pr = stl n
    · simp only [e, decide_true, if_true, cntF]
      exact hs l m (by omega) hq
    · simp only [e, decide_false, Bool.false_eq_true, if_false, cntF]
      exact Ev.const (congrArg some (by rw [Int.natCast_zero, Int.add_zero]))
  | C :: Cs, l, pr, m, hd, hl, hq, hp => by
    simp only [List.length_cons] at hl
    have hlt : l.length < cs.length := by omega
    have hg : cs.getD l.length [] = C := by
      have := List.drop_eq_getElem_cons hlt
      rw [hd] at this
      injection this with e1 e2
      rw [List.getD_eq_getElem?_getD, List.getElem?_eq_getElem hlt, ← e1]
      rfl
    have hd2 : cs.drop (l.length + 1) = Cs := by
      have := List.drop_eq_getElem_cons hlt
      rw [hd] at this
      injection this with e1 e2
      exact e2.symm
    have hC1 := hC C (by rw [← hg, List.getD_eq_getElem?_getD, List.getElem?_eq_getElem hlt]; exact List.getElem_mem hlt)
    have ih := fac2_ev n h1 hn leaf step ts hts cs hcs hC hs Cs
    have loop : ∀ (d i : Nat) (m : Int), C.length - i = d → i ≤ C.length → Ev (fun k => facL step ts n cs k (wrap64 m) l pr C i) (wrap64 (m + (((C.drop i).map fun p => cntF n leaf Cs (l ++ [p]) (mulL pr p n)).sum : Nat))) := by
      intro d
      induction d with
      | zero =>
        intro i m hd hi
        have e : i = C.length := by omega
        subst e
        refine Ev.s ?_
        simp only [facL, show ¬ (C.length : Int) < (C.length : Int) by omega, if_false, List.drop_length, List.map_nil, List.sum_nil, Int.natCast_zero, Int.add_zero]
        exact Ev.const rfl
      | succ d ihd =>
        intro i m hd hi
        have hi2 : i < C.length := by omega
        have hqi := hC1.2 _ (List.getElem_mem hi2)
        refine Ev.s ?_
        simp only [facL, show (i : Int) < (C.length : Int) by omega, show (0 : Int) ≤ (i : Int) by omega, show l.length < 5864062014805 by omega, if_true]
        rw [rdS_nth C i hi2, List.drop_eq_getElem_cons hi2, List.map_cons, List.sum_cons]
        refine Ev.bind (implMul_ev n (by omega) pr C[i] hp hqi) ?_
        have a := ih (l ++ [C[i]]) (mulL pr C[i] n) m (by rw [List.length_append, List.length_cons, List.length_nil]; exact hd2) (by rw [List.length_append, List.length_cons, List.length_nil]; omega) (fun q hq2 => by
          rcases List.mem_append.1 hq2 with h | h
          · exact hq q h
          · have : q = C[i] := by simpa using h
            rw [this]; exact hqi) (mulL_inR n pr C[i] hp hqi)
        refine Ev.bind a ?_
        simp only [w64n (show i < 4611686018427387904 by omega)]
        have b := ihd (i + 1) (m + (cntF n leaf Cs (l ++ [C[i]]) (mulL pr C[i] n) : Int)) (by omega) (by omega)
        have e3 : ∀ x y : Nat, m + ((x + y : Nat) : Int) = m + (x : Int) + (y : Int) := fun x y => by omega
        rw [e3]
        exact b
    refine Ev.s ?_
    simp only [facG, show ¬ (l.length : Int) = (ts.length : Int) by omega, show (l.length : Int) < (cs.length : Int) by omega, if_false, if_true, hg]
    have h := loop C.length 0 m (by omega) (by omega)
    rw [List.drop_zero] at h
    exact h
def cntT (n : Nat) (leaf : List (List Int) → Nat) (ts : List (List Int)) : Nat := cntF n leaf (ts.map (FL n (PL n))) [] (stl n)
theorem stl_inR (n : Nat) : inR n (stl n) := ⟨stl_length n, fun i hi => by rw [stl_rd n i hi]; omega⟩
theorem facs_ev (n : Nat) (h1 : 1 ≤ n) (hn : n ≤ 12) (hL : (PL n).length ≤ 1048576) (leaf : List (List Int) → Nat) (step : Nat → Int → List (List Int) → Option Int) (ts : List (List Int)) (hts : ts.length ≤ 1048576)
    (hs : ∀ (l : List (List Int)) (m : Int), l.length = ts.length → (∀ q ∈ l, inR n q) → Ev (fun k => step k (wrap64 m) l) (wrap64 (m + leaf l))) : Ev (fun k => facsG step k ts n 0) (wrap64 (cntT n leaf ts)) := by
  unfold facsG
  simp only [show ts.length ≤ 11728124029610 by omega, if_true]
  refine Ev.bind (classes_ev n h1 hn hL ts hts) (Ev.bind (still_ev n (by omega)) ?_)
  have h := fac2_ev n h1 hn leaf step ts hts (ts.map (FL n (PL n))) (by rw [List.length_map]) (fun C hC => by
    obtain ⟨t, _, rfl⟩ := List.mem_map.1 hC
    have := FL_len n (PL n) t
    exact ⟨by omega, fun q hq => PL_inR n q (List.mem_filter.1 hq).1⟩) hs (ts.map (FL n (PL n))) [] (stl n) 0 (by rw [List.length_nil, List.drop_zero]) (by rw [List.length_nil]; omega) (by simp) (stl_inR n)
  rw [w64 (x := 0) (by omega) (by omega), Int.zero_add] at h
  exact h
def chainB : List (List Int) → Bool
  | [] => true
  | p :: L => decide (spec_l3Next.f 20 p = some (L.headD [])) && chainB L
set_option maxRecDepth 100000 in
theorem chain_all (n : Nat) (h1 : 1 ≤ n) (h4 : n ≤ 4) : chainB (PL n) = true ∧ (PL n).headD [] = stl n ∧ (PL n).length ≤ 24 := by
  have h : ∀ m : Fin 5, 1 ≤ m.val → (chainB (PL m.val) && decide ((PL m.val).headD [] = stl m.val) && decide ((PL m.val).length ≤ 24)) = true := by decide +kernel
  have := h ⟨n, by omega⟩ h1
  simp only [Bool.and_eq_true, decide_eq_true_eq] at this
  exact ⟨this.1.1, this.1.2, this.2⟩
theorem order_run (a b : List Int) (ha : a.length ≤ 1048576) (hb : b.length = a.length) : ∀ (d i : Nat), a.length - i = d → i ≤ a.length → ∃ r, Ev (fun k => spec_l2Order.l0 k a b i) r ∧ (r = 0 ↔ a.drop i = b.drop i)
  | 0, i, hd, hi => by
    have e : i = a.length := by omega
    subst e
    refine ⟨0, Ev.s ?_, by rw [List.drop_length, ← hb, List.drop_length]; simp⟩
    simp only [spec_l2Order.l0, show ¬ (a.length : Int) < (a.length : Int) by omega, if_false]
    exact Ev.const rfl
  | d + 1, i, hd, hi => by
    have h1 : i < a.length := by omega
    have h2 : i < b.length := by omega
    rw [drop_rd a i h1, drop_rd b i h2]
    by_cases l : rd a (i : Int) < rd b (i : Int)
    · refine ⟨-1, Ev.s ?_, ⟨fun h => by omega, fun h => by injection h with e _; omega⟩⟩
      simp only [spec_l2Order.l0, show (i : Int) < (a.length : Int) by omega, show (i : Int) < (b.length : Int) by omega, show (0 : Int) ≤ (i : Int) by omega, if_true, l]
      exact Ev.const rfl
    · by_cases g : rd a (i : Int) > rd b (i : Int)
      · refine ⟨1, Ev.s ?_, ⟨fun h => by omega, fun h => by injection h with e _; omega⟩⟩
        simp only [spec_l2Order.l0, show (i : Int) < (a.length : Int) by omega, show (i : Int) < (b.length : Int) by omega, show (0 : Int) ≤ (i : Int) by omega, if_true, l, g, if_false]
        exact Ev.const rfl
      · obtain ⟨r, e, h⟩ := order_run a b ha hb d (i + 1) (by omega) (by omega)
        refine ⟨r, Ev.s ?_, h.trans ⟨fun e => by rw [e, show rd a (i : Int) = rd b (i : Int) by omega], fun e => by injection e⟩⟩
        simp only [spec_l2Order.l0, show (i : Int) < (a.length : Int) by omega, show (i : Int) < (b.length : Int) by omega, show (0 : Int) ≤ (i : Int) by omega, if_true, l, g, if_false, w64n (show i < 4611686018427387904 by omega)]
        exact e
theorem order_ev (a b : List Int) (ha : a.length ≤ 1048576) (hb : b.length = a.length) : ∃ r, Ev (fun k => spec_l2Order.f k a b) r ∧ (r = 0 ↔ a = b) := by
  unfold spec_l2Order.f
  have := order_run a b ha hb a.length 0 (by omega) (by omega)
  rwa [List.drop_zero, List.drop_zero] at this
theorem class_run (n : Nat) (h1 : 1 ≤ n) (hn : n ≤ 12) (t : List Int) : ∀ (L acc : List (List Int)), chainB L = true → (∀ p ∈ L, inR n p) → acc.length + L.length ≤ 1048576 → Ev (fun k => spec_l5Class.l0 k t acc (L.headD [])) (acc ++ FL n L t)
  | [], acc, hc, hp, hl => by
    refine Ev.s ?_
    simp only [spec_l5Class.l0, List.headD_nil, List.length_nil, show ¬ (((0 : Nat) : Int) > 0) by omega, if_false]
    exact Ev.const (congrArg some (by simp [FL]))
  | p :: L, acc, hc, hp, hl => by
    simp only [chainB, Bool.and_eq_true, decide_eq_true_eq] at hc
    simp only [List.length_cons] at hl
    have hpn := hp p (by simp)
    have hp1 := hpn.1
    have hnx : Ev (fun k => spec_l3Next.f k p) (L.headD []) := Ev.of (fun k => spec_l3Next.mono p k) hc.1
    have hty := l1Type_ev p n hn hpn
    have ih := fun acc h => class_run n h1 hn t L acc hc.2 (fun q hq => hp q (by simp [hq])) h
    refine Ev.s ?_
    simp only [spec_l5Class.l0, List.headD_cons, show ((p.length : Nat) : Int) > 0 by omega, if_true]
    refine Ev.bind hty ?_
    have hF : FL n (p :: L) t = (if TY n p = t then [p] else []) ++ FL n L t := by
      unfold FL
      rw [List.filter_cons]
      by_cases h : TY n p = t <;> simp [h]
    rw [hF]
    by_cases e : ((tlL (cyS p n n).2 n).length : Int) = (t.length : Int)
    · simp only [e, if_true]
      refine Ev.bind hty ?_
      obtain ⟨r, er, hr⟩ := order_ev (TY n p) t (TY_len n hn p) (by unfold TY; omega)
      refine Ev.bind er ?_
      by_cases z : r = 0
      · have hz := hr.1 z
        simp only [z, if_true, show acc.length < 5864062014805 by omega]
        refine Ev.bind hnx ?_
        have h := ih (acc ++ [p]) (by simp only [List.length_append, List.length_cons, List.length_nil]; omega)
        rw [List.append_assoc] at h
        rw [if_pos hz]
        exact h
      · have hz : ¬ TY n p = t := fun h => z (hr.2 h)
        simp only [z, if_false]
        refine Ev.bind hnx ?_
        rw [if_neg hz, List.nil_append]
        exact ih acc (by omega)
    · have hz : ¬ TY n p = t := fun h => e (by rw [← h]; rfl)
      simp only [e, if_false]
      refine Ev.bind hnx ?_
      rw [if_neg hz, List.nil_append]
      exact ih acc (by omega)
theorem class_ev (n : Nat) (h1 : 1 ≤ n) (h4 : n ≤ 4) (t : List Int) (ht : vP t = true) (hs : totP t = n) : Ev (fun k => spec_l5Class.f k t) (FL n (PL n) t) := by
  obtain ⟨c1, c2, c3⟩ := chain_all n h1 h4
  have hs1 := specSum_ev t ht
  rw [hs] at hs1
  unfold spec_l5Class.f
  refine Ev.bind hs1 (Ev.bind (same_ev n (by omega)) ?_)
  have h := class_run n h1 (by omega) t (PL n) [] c1 (fun p hp => PL_inR n p hp) (by simp only [List.length_nil]; omega)
  rw [c2, List.nil_append] at h
  exact h
theorem moves_run (n : Nat) (hn : n ≤ 1048576) (p : List Int) (hp : p.length = n) : ∀ (d i : Nat), n - i = d → i ≤ n → (∀ j : Nat, j < i → rd p j = j) → Ev (fun k => spec_l1Moves.l0 k p i) (decide (p ≠ stl n))
  | 0, i, hd, hi, hj => by
    have e : i = n := by omega
    subst e
    have e2 : p = stl i := list_ext p (stl i) (by rw [stl_length]; exact hp) fun j hj2 => by rw [hj j (by omega), stl_rd i j (by omega)]
    refine Ev.s ?_
    simp only [spec_l1Moves.l0, hp, show ¬ (i : Int) < (i : Int) by omega, if_false]
    exact Ev.const (congrArg some (by subst e2; simp))
  | d + 1, i, hd, hi, hj => by
    refine Ev.s ?_
    simp only [spec_l1Moves.l0, hp, show (i : Int) < (n : Int) by omega, show (0 : Int) ≤ (i : Int) by omega, if_true]
    by_cases e : rd p (i : Int) = i
    · simp only [e, if_true, w64n (show i < 4611686018427387904 by omega)]
      exact moves_run n hn p hp d (i + 1) (by omega) (by omega) (fun j hj2 => by
        by_cases e2 : j = i
        · subst e2; exact e
        · exact hj j (by omega))
    · simp only [e, if_false]
      exact Ev.const (congrArg some (Eq.symm (decide_eq_true (fun h => e (by rw [h, stl_rd n i (by omega)])))))
theorem moves_ev (n : Nat) (hn : n ≤ 1048576) (p : List Int) (hp : p.length = n) : Ev (fun k => spec_l1Moves.f k p) (decide (p ≠ stl n)) := moves_run n hn p hp n 0 (by omega) (by omega) (fun j hj => by omega)
theorem Reach.more {ps : List (List Int)} {n i j : Nat} (p : List Int) (h : Reach ps n i j) : Reach (ps ++ [p]) n i j := fun S c => h S (fun q hq => c q (by simp [hq]))
theorem join_run (ps : List (List Int)) (n : Nat) (hn : n ≤ 12) (o p : List Int) (ho : orbI ps n o) (hp : inR n p) (hm : p ∈ ps) : ∀ (e : Nat), (∀ (r : Nat) (out : List Int), n - r = e → r ≤ n → orbI ps n out → ∃ z, Ev (fun k => spec_l5Join.l0 k o p out r) z ∧ orbI ps n z) := by
  intro e
  induction e with
  | zero =>
    intro r out hr hr2 h
    refine ⟨out, Ev.s ?_, h⟩
    simp only [spec_l5Join.l0, hp.1, show ¬ (r : Int) < (n : Int) by omega, if_false]
    exact Ev.const rfl
  | succ e ihe =>
    intro r out hr hr2 h
    have loop : ∀ (d i : Nat) (out : List Int), n - i = d → i ≤ n → orbI ps n out → ∃ z, Ev (fun k => spec_l5Join.l1 k o p out r i) z ∧ orbI ps n z := by
      intro d
      induction d with
      | zero =>
        intro i out hd hi h
        obtain ⟨z, ez, hz⟩ := ihe (r + 1) out (by omega) (by omega) h
        refine ⟨z, Ev.s ?_, hz⟩
        simp only [spec_l5Join.l1, hp.1, show ¬ (i : Int) < (n : Int) by omega, if_false, w64n (show r < 4611686018427387904 by omega)]
        exact ez
      | succ d ihd =>
        intro i out hd hi h
        have hi2 : i < n := by omega
        obtain ⟨p0, p1⟩ := hp.2 i hi2
        obtain ⟨o0, o1, o2⟩ := ho.2 i hi2
        obtain ⟨a0, a1, a2⟩ := h.2 i hi2
        obtain ⟨b0, b1, b2⟩ := h.2 (rd p i).toNat (by omega)
        obtain ⟨c0, c1, c2⟩ := h.2 (rd o i).toNat (by omega)
        have ep : (((rd p i).toNat : Nat) : Int) = rd p i := by omega
        have eo : (((rd o i).toNat : Nat) : Int) = rd o i := by omega
        rw [ep] at b0 b1 b2
        rw [eo] at c0 c1 c2
        obtain ⟨X, hX⟩ : ∃ X, X = mn (rd out i) (mn (rd out (rd p i)) (rd out (rd o i))) := ⟨_, rfl⟩
        have m1 := mn_le (rd out i) (mn (rd out (rd p i)) (rd out (rd o i)))
        have m2 := mn_le (rd out (rd p i)) (rd out (rd o i))
        rw [← hX] at m1
        have X0 : 0 ≤ X := by omega
        have ri : Reach ps n (rd p i).toNat i := (Reach.step hm hi2).symm
        have rX : Reach ps n X.toNat i := by
          rcases m1.2.2 with e | e
          · rw [e]; exact a2
          · rcases m2.2.2 with e2 | e2
            · rw [e, e2]; exact b2.trans ri
            · rw [e, e2]; exact c2.trans o2
        have s1 := orbI_put h hi2 X0 (by omega) rX
        have s2 := orbI_put s1 (i := (rd p i).toNat) (by omega) X0 (by omega) (rX.trans ri.symm)
        have s3 := orbI_put s2 (i := (rd o i).toNat) (by omega) X0 (by omega) (rX.trans o2.symm)
        obtain ⟨z, ez, hz⟩ := ihd (i + 1) _ (by omega) (by omega) s3
        refine ⟨z, Ev.s ?_, hz⟩
        simp only [spec_l5Join.l1, hp.1, ho.1, h.1, show (i : Int) < (n : Int) by omega, show (0 : Int) ≤ (i : Int) by omega, p0, p1, o0, show rd o (i : Int) < (n : Int) by omega, if_true, ← hX, w64n (show i < 4611686018427387904 by omega), Int.toNat_natCast]
        exact ez
    obtain ⟨z, ez, hz⟩ := loop n 0 out (by omega) (by omega) h
    refine ⟨z, Ev.s ?_, hz⟩
    simp only [spec_l5Join.l0, hp.1, show (r : Int) < (n : Int) by omega, if_true]
    exact ez
theorem orbI_more {ps : List (List Int)} {n : Nat} {o : List Int} (p : List Int) (h : orbI ps n o) : orbI (ps ++ [p]) n o := ⟨h.1, fun i hi => ⟨(h.2 i hi).1, (h.2 i hi).2.1, (h.2 i hi).2.2.more p⟩⟩
theorem join_ev (ps : List (List Int)) (n : Nat) (hn : n ≤ 12) (o p : List Int) (ho : orbI ps n o) (hp : inR n p) : ∃ z, Ev (fun k => spec_l5Join.f k o p) z ∧ orbI (ps ++ [p]) n z := by
  have h := orbI_more p ho
  obtain ⟨z, ez, hz⟩ := join_run (ps ++ [p]) n hn o p h hp (by simp) n 0 o (by omega) (by omega) h
  refine ⟨z, ?_, hz⟩
  unfold spec_l5Join.f spec_l2Copy.f
  have hl : o.length < 17592186044416 := by rw [ho.1]; omega
  simp only [Option.bind_some, List.length_nil, Nat.zero_add, hl, if_true, List.nil_append]
  exact ez
theorem count_ev (n : Nat) (h1 : 1 ≤ n) (h4 : n ≤ 4) (ts : List (List Int)) (hts : ts.length ≤ 6) (hT : ∀ t ∈ ts, vP t = true ∧ totP t = n) (whole : Bool) (leaf : List (List Int) → Nat) (Rel : List (List Int) → List Int → Prop)
    (hle : ∀ l, leaf l ≤ 1) (hR : ∀ l orb q, Rel l orb → (∀ x ∈ l, x ∈ PL n) → q ∈ PL n → ∃ z, Ev (fun k => spec_l5Join.f k orb q) z ∧ Rel (l ++ [q]) z)
    (hF : ∀ l orb, Rel l orb → l.length = ts.length → (∀ x ∈ l, x ∈ PL n) → Ev (fun k => if whole = true then ((spec_l5Sum.f k orb).bind fun t => (if t > 0 then (some (0 : Int)) else (some 1))) else (some 1)) (leaf l : Int)) :
    ∀ (Ts : List (List Int)) (l : List (List Int)) (pr orb : List Int), ts.drop l.length = Ts → l.length + Ts.length = ts.length → (∀ q ∈ l, q ∈ PL n) → inR n pr → Rel l orb → Ev (fun k => spec_l5Count.f k ts l.length pr orb whole) (wrap64 (cntF n leaf (Ts.map (FL n (PL n))) l pr))
  | [], l, pr, orb, hd, hl, hq, hp, hr => by
    simp only [List.length_nil, Nat.add_zero] at hl
    refine Ev.s ?_
    simp only [spec_l5Count.f, show ((l.length : Nat) : Int) = (ts.length : Int) by omega, if_true]
    refine Ev.bind (moves_ev n (by omega) pr hp.1) ?_
    by_cases e : pr = stl n
    · have := hle l
      simp only [e, ne_eq, not_true_eq_false, decide_false, Bool.false_eq_true, if_false, List.map_nil, cntF, if_true]
      rw [w64 (x := ((leaf l : Nat) : Int)) (by omega) (by omega)]
      exact hF l orb hr (by omega) hq
    · simp only [e, ne_eq, not_false_eq_true, decide_true, if_true, List.map_nil, cntF, if_false]
      exact Ev.const (congrArg some (w64 (by omega) (by omega)).symm)
  | t :: Ts, l, pr, orb, hd, hl, hq, hp, hr => by
    simp only [List.length_cons] at hl
    have hlt : l.length < ts.length := by omega
    have hg := List.drop_eq_getElem_cons hlt
    rw [hd] at hg
    injection hg with g1 g2
    have hrd : rd_L1 ts ((l.length : Nat) : Int) = t := by rw [rdL_nth ts l.length hlt, ← g1]
    have hTt := hT t (by rw [g1]; exact List.getElem_mem hlt)
    have ih := count_ev n h1 h4 ts hts hT whole leaf Rel hle hR hF Ts
    obtain ⟨_, _, c3⟩ := chain_all n h1 h4
    obtain ⟨C, hC⟩ : ∃ C, C = FL n (PL n) t := ⟨_, rfl⟩
    have hC3 : C.length ≤ 24 := by rw [hC]; exact Nat.le_trans (FL_len n (PL n) t) c3
    have hCm : ∀ q ∈ C, q ∈ PL n := fun q hq => by rw [hC] at hq; exact (List.mem_filter.1 hq).1
    have loop : ∀ (d i : Nat) (m : Int), C.length - i = d → i ≤ C.length → Ev (fun k => spec_l5Count.l0 k ts l.length pr orb whole (wrap64 m) C i) (wrap64 (m + (((C.drop i).map fun p => cntF n leaf (Ts.map (FL n (PL n))) (l ++ [p]) (mulL pr p n)).sum : Nat))) := by
      intro d
      induction d with
      | zero =>
        intro i m hd hi
        have e : i = C.length := by omega
        subst e
        refine Ev.s ?_
        simp only [spec_l5Count.l0, show ¬ (C.length : Int) < (C.length : Int) by omega, if_false, List.drop_length, List.map_nil, List.sum_nil, Int.natCast_zero, Int.add_zero]
        exact Ev.const rfl
      | succ d ihd =>
        intro i m hd hi
        have hi2 : i < C.length := by omega
        have hqi := hCm _ (List.getElem_mem hi2)
        have hqr := PL_inR n _ hqi
        obtain ⟨z, ez, hz⟩ := hR l orb C[i] hr hq hqi
        have a := ih (l ++ [C[i]]) (mulL pr C[i] n) z (by rw [List.length_append, List.length_cons, List.length_nil]; exact g2.symm) (by rw [List.length_append, List.length_cons, List.length_nil]; omega) (fun q hq2 => by
          rcases List.mem_append.1 hq2 with h | h
          · exact hq q h
          · have : q = C[i] := by simpa using h
            rw [this]; exact hqi) (mulL_inR n pr C[i] hp hqr) hz
        have el : ((l ++ [C[i]]).length : Int) = ((l.length + 1 : Nat) : Int) := by rw [List.length_append, List.length_cons, List.length_nil]
        rw [el] at a
        have b := ihd (i + 1) (m + (cntF n leaf (Ts.map (FL n (PL n))) (l ++ [C[i]]) (mulL pr C[i] n) : Int)) (by omega) (by omega)
        refine Ev.s ?_
        simp only [spec_l5Count.l0, show (i : Int) < (C.length : Int) by omega, show (0 : Int) ≤ (i : Int) by omega, if_true]
        rw [rdL_nth C i hi2, List.drop_eq_getElem_cons hi2, List.map_cons, List.sum_cons]
        refine Ev.bind (specMul_ev n (by omega) pr C[i] hp hqr) (Ev.bind ez ?_)
        simp only [w64n (show l.length < 4611686018427387904 by omega), w64n (show i < 4611686018427387904 by omega)]
        refine Ev.bind a ?_
        rw [wrap_addl, wrap_addr]
        have e3 : ∀ x y : Nat, m + ((x + y : Nat) : Int) = m + (x : Int) + (y : Int) := fun x y => by omega
        rw [e3]
        exact b
    refine Ev.s ?_
    simp only [spec_l5Count.f, show ¬ ((l.length : Nat) : Int) = (ts.length : Int) by omega, show ((l.length : Nat) : Int) < (ts.length : Int) by omega, show (0 : Int) ≤ ((l.length : Nat) : Int) by omega, if_false, if_true, hrd]
    refine Ev.bind (class_ev n h1 h4 t hTt.1 hTt.2) ?_
    have h := loop C.length 0 0 (by omega) (by omega)
    rw [List.drop_zero, Int.zero_add, w64 (x := 0) (by omega) (by omega)] at h
    simp only [List.map_cons, cntF]
    rw [hC] at h
    exact h
theorem goodT_mem {l : List (List Int)} {n : Nat} (h : goodT l) (e : totP (rd_L1 l 0) = n) : ∀ t ∈ l, vP t = true ∧ totP t = n := by
  intro t ht
  obtain ⟨i, hi, rfl⟩ := List.mem_iff_getElem.1 ht
  have := h.2.2 i hi
  unfold okT at this
  rw [rdL_nth l i hi] at this
  exact ⟨this.1, this.2.trans e⟩
theorem mx_ge (a b : Int) : a ≤ mx a b ∧ b ≤ mx a b ∧ (mx a b = a ∨ mx a b = b) := by unfold mx; split <;> omega
theorem max_run (o : List Int) (ho : o.length ≤ 1048576) (h0 : ∀ j : Nat, j < o.length → 0 ≤ rd o j) : ∀ (d i : Nat) (a : Int), o.length - i = d → i ≤ o.length → 0 ≤ a → ∃ r, Ev (fun k => slices_Max_int_int.l0 k o a i) r ∧ (r = 0 ↔ a = 0 ∧ ∀ j : Nat, i ≤ j → j < o.length → rd o j = 0) ∧ 0 ≤ r
  | 0, i, a, hd, hi, ha => by
    refine ⟨a, Ev.s ?_, ⟨fun h => ⟨h, fun j h1 h2 => by omega⟩, fun h => h.1⟩, ha⟩
    simp only [slices_Max_int_int.l0, show ¬ (i : Int) < (o.length : Int) by omega, if_false]
    exact Ev.const rfl
  | d + 1, i, a, hd, hi, ha => by
    have hi2 : i < o.length := by omega
    have hv := h0 i hi2
    have hm := mx_ge a (rd o (i : Int))
    obtain ⟨r, er, hr, hr0⟩ := max_run o ho h0 d (i + 1) (mx a (rd o (i : Int))) (by omega) (by omega) (by omega)
    refine ⟨r, Ev.s ?_, hr.trans ⟨fun h => ⟨by omega, fun j h1 h2 => ?_⟩, fun h => ⟨?_, fun j h1 h2 => h.2 j (by omega) h2⟩⟩, hr0⟩
    · simp only [slices_Max_int_int.l0, show (i : Int) < (o.length : Int) by omega, show (0 : Int) ≤ (i : Int) by omega, if_true, w64n (show i < 4611686018427387904 by omega)]
      exact er
    · by_cases e : j = i
      · subst e; omega
      · exact h.2 j (by omega) h2
    · have := h.2 i (Nat.le_refl _) hi2
      omega
theorem max_ev (o : List Int) (ho : o.length ≤ 1048576) (h1 : 1 ≤ o.length) (h0 : ∀ j : Nat, j < o.length → 0 ≤ rd o j) : ∃ r, Ev (fun k => slices_Max_int_int.f k o) r ∧ (r = 0 ↔ ∀ j : Nat, j < o.length → rd o j = 0) := by
  obtain ⟨r, er, hr, _⟩ := max_run o ho h0 (o.length - 1) 1 (rd o 0) (by omega) (by omega) (h0 0 (by omega))
  refine ⟨r, ?_, hr.trans ⟨fun h j hj => ?_, fun h => ⟨h 0 (by omega), fun j _ hj => h j hj⟩⟩⟩
  · unfold slices_Max_int_int.f
    simp only [show ¬ (o.length : Int) < 1 by omega, show (0 : Int) < (o.length : Int) by omega, if_false, if_true]
    exact er
  · rcases j with _ | j
    · exact h.1
    · exact h.2 (j + 1) (by omega) hj
def conn (n : Nat) (l : List (List Int)) : Prop := ∀ i, i < n → Reach l n 0 i
theorem orb_conn (n : Nat) (h1 : 1 ≤ n) (l : List (List Int)) (hl : ∀ p ∈ l, inR n p) (o : List Int) (ho : orbOk l n o) : (∀ j : Nat, j < n → rd o j = 0) ↔ conn n l := by
  constructor
  · intro h i hi
    have := (ho.1.2 i hi).2.2
    rw [h i hi] at this
    exact this
  · intro h i hi
    have e := orbOk_const ho hl (h i hi)
    have := ho.1.2 0 (by omega)
    rw [← e]
    omega
open Classical in
noncomputable def leafW (n : Nat) (l : List (List Int)) : Nat := if conn n l then 1 else 0
theorem leafW_le (n : Nat) (l : List (List Int)) : leafW n l ≤ 1 := by unfold leafW; split <;> omega
theorem stepW_ev (n : Nat) (h1 : 1 ≤ n) (hn : n ≤ 12) (l : List (List Int)) (hl0 : 0 < l.length) (hl : l.length ≤ 1048576) (hp : ∀ p ∈ l, inR n p) (m : Int) : Ev (fun k => stepW k (wrap64 m) l) (wrap64 (m + leafW n l)) := by
  obtain ⟨o, ok, eo⟩ := implOrb_ev l n hn hl0 hl hp
  have ol := ok.1.1
  obtain ⟨r, er, hr⟩ := max_ev o (by omega) (by omega) (fun j hj => (ok.1.2 j (by omega)).1)
  rw [ol] at hr
  have hc := hr.trans (orb_conn n h1 l hp o ok)
  unfold stepW
  refine Ev.bind eo (Ev.bind er ?_)
  by_cases z : r = 0
  · simp only [z, if_true]
    refine Ev.const (congrArg some ?_)
    rw [wrap_addl]
    unfold leafW
    rw [if_pos (hc.1 z)]
    rfl
  · simp only [z, if_false]
    refine Ev.const (congrArg some ?_)
    unfold leafW
    rw [if_neg (fun h => z (hc.2 h)), Int.natCast_zero, Int.add_zero]
def vecs : Nat → List (List Int)
  | 0 => [[]]
  | n + 1 => (vecs n).flatMap fun v => (List.range (n + 1)).map fun (x : Nat) => v ++ [(x : Int)]
def stays (n : Nat) (o out : List Int) : Bool := (List.range n).all fun (i : Nat) => decide (rd out (rd o i) = rd out i)
def joinB (n : Nat) (o p : List Int) : Bool := match spec_l5Join.f 40 o p with
  | some out => stays n p out && stays n o out
  | none => false
def allJ (n : Nat) : Bool := (vecs n).all fun o => !stays n o o || (PL n).all fun p => joinB n o p
set_option maxRecDepth 100000 in
theorem allJ_1 : allJ 1 = true := by decide +kernel
set_option maxRecDepth 100000 in
theorem allJ_2 : allJ 2 = true := by decide +kernel
set_option maxRecDepth 100000 in
theorem allJ_3 : allJ 3 = true := by decide +kernel
set_option maxRecDepth 100000 in
theorem allJ_4 : allJ 4 = true := by decide +kernel
theorem allJ_all (n : Nat) (h1 : 1 ≤ n) (h4 : n ≤ 4) : allJ n = true := by
  rcases n with _ | _ | _ | _ | _ | n
  · omega
  · exact allJ_1
  · exact allJ_2
  · exact allJ_3
  · exact allJ_4
  · omega
theorem vecs_mem : ∀ (n : Nat) (o : List Int), o.length = n → (∀ i : Nat, i < n → 0 ≤ rd o i ∧ rd o i ≤ i) → o ∈ vecs n
  | 0, o, hl, h => by rw [List.length_eq_zero_iff.1 hl]; simp [vecs]
  | n + 1, o, hl, h => by
    have hn := h n (by omega)
    have e : o = o.take n ++ [rd o (n : Int)] := by
      rw [rd_lt o n (by omega), ← List.take_succ_eq_append_getElem (by omega), List.take_of_length_le (by omega)]
    have ht : (o.take n).length = n := by rw [List.length_take]; omega
    simp only [vecs, List.mem_flatMap, List.mem_map, List.mem_range]
    refine ⟨o.take n, vecs_mem n _ ht (fun i hi => ?_), (rd o (n : Int)).toNat, by omega, ?_⟩
    · have h3 := h i (by omega)
      rw [rd_lt o i (by omega)] at h3
      rw [rd_lt _ i (by omega), List.getElem_take]
      exact h3
    · rw [show (((rd o (n : Int)).toNat : Nat) : Int) = rd o (n : Int) by omega]
      exact e.symm
theorem stays_iff (n : Nat) (o out : List Int) : stays n o out = true ↔ ∀ i : Nat, i < n → rd out (rd o i) = rd out i := by
  unfold stays
  rw [List.all_eq_true]
  exact ⟨fun h i hi => of_decide_eq_true (h i (List.mem_range.2 hi)), fun h i hi => decide_eq_true (h i (List.mem_range.1 hi))⟩
theorem join_ok (n : Nat) (h1 : 1 ≤ n) (h4 : n ≤ 4) (l : List (List Int)) (hl : ∀ x ∈ l, x ∈ PL n) (o q : List Int) (ho : orbOk l n o) (hq : q ∈ PL n) : ∃ z, Ev (fun k => spec_l5Join.f k o q) z ∧ orbOk (l ++ [q]) n z := by
  obtain ⟨z, ez, hz⟩ := join_ev l n (by omega) o q ho.1 (PL_inR n q hq)
  refine ⟨z, ez, hz, ?_⟩
  have hA := allJ_all n h1 h4
  unfold allJ at hA
  rw [List.all_eq_true] at hA
  have hv := hA o (vecs_mem n o ho.1.1 (fun i hi => ⟨(ho.1.2 i hi).1, (ho.1.2 i hi).2.1⟩))
  have hs : stays n o o = true := (stays_iff n o o).2 fun i hi => by
    obtain ⟨g0, g1, g2⟩ := ho.1.2 i hi
    have e := orbOk_const ho (fun p hp => PL_inR n p (hl p hp)) g2
    rw [show (((rd o i).toNat : Nat) : Int) = rd o i by omega] at e
    exact e
  rw [hs, Bool.not_true, Bool.false_or, List.all_eq_true] at hv
  have hj := hv q hq
  unfold joinB at hj
  split at hj
  · rename_i out hout
    have ez2 : Ev (fun k => spec_l5Join.f k o q) out := Ev.of (fun k => spec_l5Join.mono o q k) hout
    have ezz := Ev.uniq ez ez2
    subst ezz
    rw [Bool.and_eq_true] at hj
    have c1 := (stays_iff n q z).1 hj.1
    have c2 := (stays_iff n o z).1 hj.2
    intro p hp i hi
    rcases List.mem_append.1 hp with hp | hp
    · have pr := (PL_inR n p (hl p hp)).2 i hi
      have e1 := c2 (rd p i).toNat (by omega)
      rw [show (((rd p i).toNat : Nat) : Int) = rd p i by omega, ho.2 p hp i hi, c2 i hi] at e1
      exact e1.symm
    · have : p = q := by simpa using hp
      rw [this]
      exact c1 i hi
  · cases hj
theorem totP_zero : ∀ (o : List Int), (∀ x ∈ o, 0 ≤ x) → 0 ≤ totP o ∧ (totP o = 0 ↔ ∀ x ∈ o, x = 0)
  | [], _ => by simp [totP]
  | x :: xs, h => by
    have h0 := h x (by simp)
    obtain ⟨a, b⟩ := totP_zero xs fun y hy => h y (by simp [hy])
    simp only [totP, List.mem_cons, forall_eq_or_imp]
    exact ⟨by omega, ⟨fun e => ⟨by omega, b.1 (by omega)⟩, fun e => by rw [e.1, b.2 e.2]; rfl⟩⟩
theorem whole_leaf (n : Nat) (h1 : 1 ≤ n) (h4 : n ≤ 4) (ts : List (List Int)) (hts : ts.length ≤ 6) (hT : ∀ t ∈ ts, vP t = true ∧ totP t = n) : Ev (fun k => spec_l5Count.f k ts 0 (stl n) (stl n) true) (wrap64 (cntT n (leafW n) ts)) := by
  have h := count_ev n h1 h4 ts hts hT true (leafW n) (fun l o => orbOk l n o) (leafW_le n) (fun l orb q hr hl hq => join_ok n h1 h4 l hl orb q hr hq) (fun l orb hr _ hl => by
    simp only [if_true]
    have ol := hr.1.1
    have hm : ∀ x ∈ orb, 0 ≤ x ∧ x ≤ 6 := by
      intro x hx
      obtain ⟨i, hi, rfl⟩ := List.mem_iff_getElem.1 hx
      have := hr.1.2 i (by omega)
      rw [rd_lt orb i hi] at this
      omega
    refine Ev.bind (specSum_of orb (by omega) hm) ?_
    obtain ⟨a, b⟩ := totP_zero orb fun x hx => (hm x hx).1
    have hc := orb_conn n h1 l (fun p hp => PL_inR n p (hl p hp)) orb hr
    have hz : (∀ x ∈ orb, x = 0) ↔ ∀ j : Nat, j < n → rd orb j = 0 := by
      constructor
      · intro h j hj
        rw [rd_lt orb j (by omega)]
        exact h _ (List.getElem_mem _)
      · intro h x hx
        obtain ⟨i, hi, rfl⟩ := List.mem_iff_getElem.1 hx
        rw [← rd_lt orb i hi]
        exact h i (by omega)
    have hb := b.trans (hz.trans hc)
    unfold leafW
    by_cases c : totP orb > 0
    · simp only [c, if_true]
      rw [if_neg (fun h => by have := hb.2 h; omega)]
      exact Ev.const rfl
    · simp only [c, if_false]
      rw [if_pos (hb.1 (by omega))]
      exact Ev.const rfl) ts [] (stl n) (stl n) (by rw [List.length_nil, List.drop_zero]) (by rw [List.length_nil]; omega) (by simp) (stl_inR n) ⟨stl_orbI [] n, fun p hp => by simp at hp⟩
  exact h
theorem factorWhole_both (l : List (List Int)) (hl : l.length ≤ 1048576) (h2 : ∀ j : Nat, j < l.length → (rd_L1 l (j : Int)).length ≤ 1048576) : ∃ r, Ev (fun k => impl_FactorWhole.f k l) r ∧ Ev (fun k => spec_FactorWhole.f k l) r := by
  obtain ⟨r, er, hr⟩ := implTypes_ev l hl h2
  obtain ⟨b, eb, hb⟩ := specSmall_ev l hl h2
  by_cases s : smallT l
  · obtain ⟨g, hl3, ht4⟩ := s
    have hbt := hb.2 ⟨g, hl3, ht4⟩
    subst hbt
    have hre : r = totP (rd_L1 l 0) := hr.elim (fun h => h.2) (fun h => absurd g h.1)
    have hv : vP (rd_L1 l 0) = true := (g.2.2 0 (by have := g.1; omega)).1
    have hv2 := vP_len _ hv
    obtain ⟨n, hn⟩ : ∃ n : Nat, totP (rd_L1 l 0) = n := ⟨(totP (rd_L1 l 0)).toNat, by have := hv2.2.1; omega⟩
    have hv3 : 1 ≤ totP (rd_L1 l 0) := hv2.2.1
    have n1 : 1 ≤ n := by omega
    have n4 : n ≤ 4 := by omega
    have hT := goodT_mem g hn
    have hg1 := g.1
    refine ⟨wrap64 (cntT n (leafW n) l), ?_, ?_⟩
    · unfold impl_FactorWhole.f
      refine Ev.bind er ?_
      rw [hre, hn]
      simp only [show ¬ (n : Int) < 0 by omega, show ¬ (n : Int) > 4 by omega, show ¬ (l.length : Int) > 3 by omega, if_false]
      obtain ⟨_, _, c3⟩ := chain_all n n1 n4
      exact facs_ev n n1 (by omega) (by omega) (leafW n) _ l hl (fun l' m e hp => stepW_ev n n1 (by omega) l' (by omega) (by omega) hp m)
    · unfold spec_FactorWhole.f
      refine Ev.bind eb ?_
      have hsum := specSum_ev _ hv
      rw [hn] at hsum
      simp only [if_true, show (0 : Int) < (l.length : Int) by omega]
      exact Ev.bind hsum (Ev.bind (same_ev n (by omega)) (Ev.bind (whole_leaf n n1 n4 l (by omega) hT) (Ev.const rfl)))
  · have hbf : b = false := by
      cases b with
      | false => rfl
      | true => exact absurd (hb.1 rfl) s
    subst hbf
    refine ⟨-1, ?_, ?_⟩
    · unfold impl_FactorWhole.f
      refine Ev.bind er ?_
      rcases hr with ⟨g, e⟩ | ⟨_, e⟩
      · have hv : vP (rd_L1 l 0) = true := (g.2.2 0 (by have := g.1; omega)).1
        have hv2 := vP_len _ hv
        have hv3 : 1 ≤ totP (rd_L1 l 0) := hv2.2.1
        rw [e]
        by_cases c : totP (rd_L1 l 0) > 4
        · simp only [show ¬ totP (rd_L1 l 0) < 0 by omega, c, if_false, if_true]
          exact Ev.const rfl
        · have : (l.length : Int) > 3 := by
            by_cases c3 : (l.length : Int) > 3
            · exact c3
            · exact absurd ⟨g, by omega, by omega⟩ s
          simp only [show ¬ totP (rd_L1 l 0) < 0 by omega, c, this, if_false, if_true]
          exact Ev.const rfl
      · rw [e]
        simp only [show (-1 : Int) < 0 by omega, if_true]
        exact Ev.const rfl
    · unfold spec_FactorWhole.f
      refine Ev.bind eb ?_
      simp only [Bool.false_eq_true, if_false]
      exact Ev.const rfl
end Go.Proofs.Ytggghijamfmenaa.PL

set_option linter.unusedVariables false
set_option linter.unusedSimpArgs false
namespace Go.Proofs.Ytggghijamfmenaa.Pure
open Go.RowKit Go.Proofs.Ytggghijamfmenaa.PL Go.Proofs.YtggghijamfmenaaW.PrintWords Go.Proofs.YtggghijamfmenaaW.PrintLast
theorem FnExactFactorWhole : laws_FnExactFactorWhole.Pure := by
  intro l h1 h2
  obtain ⟨r, er, hr⟩ := szSS_ev l h1 h2
  refine Ev.rounds (?_ : Ev (fun k => laws_FnExactFactorWhole.f k l) true)
  unfold laws_FnExactFactorWhole.f
  refine Ev.bind er ?_
  by_cases c : r < 0
  · simp only [c, if_true]
    exact Ev.const rfl
  · obtain ⟨hl, hs⟩ := hr.resolve_left c
    obtain ⟨v, v1, v2⟩ := factorWhole_both l hl hs
    have t := toIntSS_ev l hl hs
    simp only [c, if_false]
    refine Ev.bind t (Ev.bind v2 (Ev.bind t (Ev.bind v1 ?_)))
    simp only [if_true]
    refine Ev.bind t (Ev.bind (eqIntSS_same l hl hs) ?_)
    simp only [if_true]
    exact Ev.const rfl
end Go.Proofs.Ytggghijamfmenaa.Pure

namespace Go.Proofs.Ytggghijamfmenaa.fnExactFactorWhole
open Go.ChangeShapes Go.WideShapes Go.ChangeAt Go.RowKit Go.Joins Go.Proofs.YtggghijamfmenaaW.PrintWords Go.Proofs.YtggghijamfmenaaW.PrintLast
open Go.ChangeMaps (open_string shut_string)
set_option linter.unusedVariables false
theorem open_rowsS {H : Type} {enc : TypeId × Value → H} {P : Program} {w : World} {base : Nat} {spare : Nat → Bool} {held : Bool} {t e ei : TypeId} {el : Nat} {k : IntKind} {fuel : Nat} {cs : List Value} {x : DataW H × List MemPlace} (ht : P.underlying t = some (.slice e)) (he : P.underlying e = some (.slice ei)) (hei : P.underlying ei = some (.int k)) (hce : P.cellsOf e = 1) (hci : P.cellsOf ei = 1)
    (h : DataW.trod enc P w base spare held fuel t cs = some x) : ∃ (A : Option Addr) (l : List (List Int)) (c : Nat), cs = [.slice A l.length c] ∧ l.length ≤ c ∧ Kd.C (Kd.slice el (Kd.int k)) w A l.length l ∧ l.length ≤ maxLen ∧ ∀ y ∈ l, y.length ≤ maxLen := by
  rcases DataW.trod_slice ht h with ⟨rfl, _⟩ | ⟨a, len, cap, elems, rest, n, _, rfl, _, hb, hl, hm, hlen, hel, _, _⟩
  · exact ⟨none, [], 0, rfl, Nat.le_refl _, Kd.C_nil _ _, by simp [maxLen], fun y hy => by simp at hy⟩
  · have each : ∀ i, ∃ z : List Int, i < len → (∃ A1 c1, w.cell? (a.add i) = some (.slice A1 z.length c1) ∧ z.length ≤ c1 ∧ Kd.C (Kd.int k) w A1 z.length z ∧ z.length ≤ maxLen) := by
      intro i
      by_cases hi : i < len
      · obtain ⟨y, hy⟩ : ∃ y, elems[i]? = some y := ⟨_, List.getElem?_eq_getElem (by omega)⟩
        have h1 := hel i hi
        rw [hy, hce, Nat.mul_one, Option.bind_eq_some_iff] at h1
        obtain ⟨cs', hcs, hy'⟩ := h1
        rcases Go.ChangeShapes.open_ints he hei hci hy' with ⟨rfl, _⟩ | ⟨a2, len2, cap2, zs, rfl, _, hl2, hm2, hz2, _, hcell, _⟩
        · exact ⟨[], fun _ => ⟨none, 0, cell_of_cells?_one hcs, Nat.le_refl _, Kd.C_nil _ _, by simp [maxLen]⟩⟩
        · have hz3 : len2 ≤ zs.length := by rw [hz2]; split <;> omega
          have ht3 : (zs.take len2).length = len2 := by rw [List.length_take]; omega
          refine ⟨zs.take len2, fun _ => ⟨some a2, cap2, by rw [ht3]; exact cell_of_cells?_one hcs, by omega, ?_, by omega⟩⟩
          refine Kd.C_of_reads (d := (0 : Int)) (h1 := fun _ => rfl) ⟨rfl, by rw [ht3]; unfold maxLen at hm2; omega, fun _ => ⟨a2, rfl, fun j hj => ?_⟩⟩
          rw [hcell j (by omega)]
          congr 2
          rw [List.getD_eq_getElem?_getD, List.getD_eq_getElem?_getD, List.getElem?_take_of_lt (by omega)]
      · exact ⟨[], fun h2 => absurd h2 hi⟩
    have ⟨f, hf⟩ := Classical.axiomOfChoice each
    have hle : ((List.range len).map f).length = len := by simp
    refine ⟨some a, (List.range len).map f, cap, by rw [hle], by omega, ⟨rfl, by rw [hle]; unfold maxLen at hm; omega, fun _ => ⟨a, rfl, fun j p hj => ?_⟩⟩, by omega, fun y hy => ?_⟩
    · obtain ⟨hj2, hp⟩ := List.getElem?_eq_some_iff.1 hj
      have hj3 : j < len := by omega
      simp only [List.getElem_map, List.getElem_range] at hp
      subst hp
      obtain ⟨A1, c1, h1, h2, h3, h4⟩ := hf j hj3
      refine ⟨[.slice A1 (f j).length c1], rfl, ⟨A1, c1, rfl, h2, h3⟩, fun i u hu => ?_⟩
      rcases i with _ | i
      · simp at hu
        subst hu
        simpa [Kd.slice] using h1
      · simp at hu
    · obtain ⟨j, hj, rfl⟩ := List.mem_map.1 hy
      obtain ⟨A1, c1, h1, h2, h3, h4⟩ := hf j (List.mem_range.1 hj)
      exact h4
theorem own : ownKnob Try.prog.godebug = none := by kernel_rfl
theorem laidOut : laidOutB Try.prog = true := by kernel_rfl
def IsRow (k : IntKind) (w : World) (a : Option Addr) (len cap : Nat) (zs : List Int) : Prop :=
  (a = none ∧ len = 0 ∧ cap = 0 ∧ zs = []) ∨
  ∃ x, a = some x ∧ len ≤ cap ∧ cap ≤ maxLen ∧ zs.length = cap ∧ (∀ i, i < zs.length → w.cell? (x.add i) = some (.int k (zs.getD i 0))) ∧ ∀ n ∈ zs, (Lit.int k n).wf = true
set_option maxRecDepth 100000 in
theorem lifted (os : Os) (started : os.Started) (H : Type) (enc : TypeId × Value → H) :
    ReturnsInHanded {} Try.checked os 8 .any (Rows.fnExactFactorWholeSpec.pre6 enc Try.prog Try.f8 Rows.fnExactFactorWholeRow.domain false) (Rows.fnExactFactorWholeSpec.post enc Try.prog Try.f8 false true false false) := by
  refine returnsInHanded_of_change_sized (C := Try.checked) own started (by kernel_rfl) Try.func8
    (ChangeSpec.witness6 (enc := enc) (C := Try.checked) false ⟨#[], #[.slice none 0 0], []⟩ 8 (by kernel_rfl) (by kernel_rfl) (by kernel_rfl) (by kernel_rfl)) ?_
  intro W base args ds gs before hval0 hW hcnd hsz0 _
  have hval : ∀ (j : Nat) t v, Try.f8.params[j]? = some t → args[j]? = some v → Value.okWide Try.prog W .any base t v := hval0
  have hW' := hW
  obtain ⟨p, q, hA0, hV, rfl, hfz, hnd⟩ := hW
  have hA : DataW.TrodAll enc Try.prog W 0 (fun _ => true) true Try.f8.params.toList args.toList ds p := hA0
  rw [Try.params8] at hA hval
  obtain ⟨v0, vs0, d0, ds0, p0, q0, hargs, rfl, rfl, h0, r0⟩ := trodAll_cons hA
  obtain ⟨rfl, rfl, rfl⟩ := trodAll_nil r0
  obtain rfl : args = #[v0] := by cases args; simp_all
  obtain ⟨rfl, rfl⟩ := trodVars_none hV
  obtain ⟨a0, len0, cap0, rfl⟩ := okWide_slice Try.underlying45 (hval 0 45 v0 rfl rfl)
  have k0 := h0
  have lt0 : ∀ x ∈ p0, x.block < W.heap.size := by obtain ⟨m, hm⟩ := k0; exact DataW.trod_lt m _ _ _ hm
  obtain ⟨l0, el0, hc0, hr0, hm0, hw0⟩ : ∃ l : List (List Int), len0 = l.length ∧ l.length ≤ cap0 ∧ Kd.C (Kd.slice 3 (Kd.int .i64)) W a0 l.length l ∧ l.length ≤ maxLen ∧ ∀ y ∈ l, y.length ≤ maxLen := by
    obtain ⟨fuel, hf⟩ := h0
    obtain ⟨A, l, c, hcs, h1, h2, h3, h4⟩ := open_rowsS Try.underlying45 Try.underlying23 Try.underlying3 (by kernel_rfl) (by kernel_rfl) hf
    simp [Value.cells] at hcs
    obtain ⟨rfl, rfl, rfl⟩ := hcs
    exact ⟨l, rfl, h1, h2, h3, h4⟩
  subst el0
  clear hA0 hval0 hsz0
  obtain ⟨k, h⟩ := Pure.FnExactFactorWhole l0 hm0 hw0
  refine (PL.laws_FnExactFactorWhole.calls k _ _ l0 true W hr0 hc0 h).mono fun e W' ⟨he, bel0⟩ => ?_
  have bel : Below W.heap.size W W' := bel0
  subst he
  exact ⟨_, rfl, _, _, _, [], _, [], hW', trodAll_mk1 (shut_bool Try.underlying4 _), (trodAll_cons_mk (Below.trod laidOut (by kernel_rfl) (of_decide_eq_true (by kernel_rfl)) k0 bel lt0) trodAll_mk0), rfl, bel.frame _, fun h => by cases h⟩
theorem over : Rows.fnExactFactorWholeRow.holds Try.pinned (OpenSpec.ofChange Rows.fnExactFactorWholeSpec) :=
  OpenClaim.holds_of_wide 8 Try.f8 rfl rfl rfl rfl rfl rfl rfl ⟨rfl, rfl, rfl, rfl, rfl⟩ rfl rfl rfl rfl rfl (by kernel_rfl) Try.func8 (by kernel_rfl)
    (of_decide_eq_true (by kernel_rfl)) (by unfold Func.isWrapper; first | (rw [if_pos (by decide +kernel)]; kernel_rfl) | (rw [if_neg (by decide +kernel)]; exact ⟨rfl, rfl⟩))
    (fun os started H enc _ => lifted os started H enc)
theorem proved : Rows.FnExactFactorWholeSaid := over
#print axioms proved
end Go.Proofs.Ytggghijamfmenaa.fnExactFactorWhole
namespace Go.Proofs.Ytggghijamfmenaa
theorem fnExactFactorWhole_holds : Rows.FnExactFactorWholeSaid := fnExactFactorWhole.proved
end Go.Proofs.Ytggghijamfmenaa
