/- Printed by a program of this claim (print2.py), over the kit's print, with contracts proved by hand among them. -/
import Derived.Test.YtflnbgdjpflbeaaQx0
import Derived.Test.YtflnbgdjpflbeaaQx1
import Derived.Test.YtflnbgdjpflbeaaQx2
import Derived.Test.YtflnbgdjpflbeaaQx4
import Derived.Test.YtflnbgdjpflbeaaQx5
namespace Go.Proofs.Ytflnbgdjpflbeaa.Q
open Go.RowKit Go.Proofs.YtflnbgdjpflbeaaW.PrintWords Go.Proofs.YtflnbgdjpflbeaaW.PrintLast Go.Proofs.YtflnbgdjpflbeaaW.PrintMore
attribute [local go_sem] max2_int min2_int max_two min_two max_three min_three max_four min_four   -- for this text's walks alone
set_option linter.unusedVariables false
set_option linter.unusedSimpArgs false

/-! ### antiquarylaw05_MetricIsMonotone: function 7 -/
mutual
def antiquarylaw05_MetricIsMonotone.j0 : Nat → Int → Int → Int → Int → Bool → Option (Bool)
  | 0, _, _, _, _, _ => none
  | k + 1, x0, x1, x2, x3, x55 => if x55 = true then (some false) else ((metric_High.f x0 x1 (mn x2 x3)).bind fun t237 => ((metric_High.f x0 x1 (mx x2 x3)).bind fun t238 => (if t237 > t238 then (antiquarylaw05_MetricIsMonotone.j1 k x0 x1 x2 x3 (mn x2 x3) (mx x2 x3) true) else (if (mn x2 x3) ≥ x1 then ((metric_Low.f x0 x1 (mn x2 x3)).bind fun t239 => ((metric_Low.f x0 x1 (mx x2 x3)).bind fun t240 => (if t239 > t240 then (antiquarylaw05_MetricIsMonotone.j1 k x0 x1 x2 x3 (mn x2 x3) (mx x2 x3) true) else (if (mx x2 x3) ≤ x1 then ((metric_Low.f x0 x1 (mx x2 x3)).bind fun t241 => ((metric_Low.f x0 x1 (mn x2 x3)).bind fun t242 => (antiquarylaw05_MetricIsMonotone.j1 k x0 x1 x2 x3 (mn x2 x3) (mx x2 x3) (decide (t241 > t242))))) else (antiquarylaw05_MetricIsMonotone.j1 k x0 x1 x2 x3 (mn x2 x3) (mx x2 x3) false))))) else (if (mx x2 x3) ≤ x1 then ((metric_Low.f x0 x1 (mx x2 x3)).bind fun t243 => ((metric_Low.f x0 x1 (mn x2 x3)).bind fun t244 => (antiquarylaw05_MetricIsMonotone.j1 k x0 x1 x2 x3 (mn x2 x3) (mx x2 x3) (decide (t243 > t244))))) else (antiquarylaw05_MetricIsMonotone.j1 k x0 x1 x2 x3 (mn x2 x3) (mx x2 x3) false))))))
def antiquarylaw05_MetricIsMonotone.j1 : Nat → Int → Int → Int → Int → Int → Int → Bool → Option (Bool)
  | 0, _, _, _, _, _, _, _ => none
  | k + 1, x0, x1, x2, x3, x10, x11, x102 => if x102 = true then (some false) else ((metric_Gap.f x0 x10 x11 x1).bind fun t245 => ((metric_Reach.f x0 x10 x11 x1).bind fun t246 => ((antiquarylaw05_sanity.f k).bind fun t247 => (if t247 = true then ((metric_Low.f x0 x1 x2).bind fun t248 => (if t245 ≤ t248 then ((metric_Low.f x0 x1 x3).bind fun t249 => (if t245 ≤ t249 then ((metric_High.f x0 x1 x2).bind fun t250 => (if t246 ≥ t250 then ((metric_High.f x0 x1 x3).bind fun t251 => (some (decide (t246 ≥ t251)))) else (some false))) else (some false))) else (some false))) else (some false)))))
end
def antiquarylaw05_MetricIsMonotone.f (k : Nat) (a0 : Int) (a1 : Int) (a2 : Int) (a3 : Int) : Option (Bool) := (antiquarylaw05_keys.f a0 a1 a2 a3).bind fun t229 => (if t229 = true then ((metric_Low.f a0 a1 a2).bind fun t231 => ((metric_Low.f a0 a2 a1).bind fun t232 => (if t231 = t232 then ((metric_High.f a0 a1 a2).bind fun t233 => ((metric_High.f a0 a2 a1).bind fun t234 => (if t233 = t234 then ((metric_Low.f a0 a1 a1).bind fun t235 => (if t235 = 0 then ((metric_High.f a0 a1 0).bind fun t236 => (antiquarylaw05_MetricIsMonotone.j0 k a0 a1 a2 a3 (t236 != a1))) else (antiquarylaw05_MetricIsMonotone.j0 k a0 a1 a2 a3 true))) else (antiquarylaw05_MetricIsMonotone.j0 k a0 a1 a2 a3 true)))) else (antiquarylaw05_MetricIsMonotone.j0 k a0 a1 a2 a3 true)))) else ((antiquarylaw05_sanity.f k).bind fun t230 => (some t230)))
theorem antiquarylaw05_MetricIsMonotone.mono_l : ∀ k, (∀ y0 y1 y2 y3 y4, LeO (antiquarylaw05_MetricIsMonotone.j0 k y0 y1 y2 y3 y4) (antiquarylaw05_MetricIsMonotone.j0 (k + 1) y0 y1 y2 y3 y4)) ∧ (∀ y0 y1 y2 y3 y4 y5 y6, LeO (antiquarylaw05_MetricIsMonotone.j1 k y0 y1 y2 y3 y4 y5 y6) (antiquarylaw05_MetricIsMonotone.j1 (k + 1) y0 y1 y2 y3 y4 y5 y6))
  | 0 => ⟨fun _ _ _ _ _ r h => by simp [antiquarylaw05_MetricIsMonotone.j0] at h, fun _ _ _ _ _ _ _ r h => by simp [antiquarylaw05_MetricIsMonotone.j1] at h⟩
  | k + 1 => by
    obtain ⟨ih0, ih1⟩ := antiquarylaw05_MetricIsMonotone.mono_l k
    refine ⟨?_, ?_⟩
    · intro y0 y1 y2 y3 y4
      unfold antiquarylaw05_MetricIsMonotone.j0
      repeat' first
      | (with_reducible exact ih0 _ _ _ _ _)
      | (with_reducible exact ih1 _ _ _ _ _ _ _)
      | (with_reducible exact antiquarylaw05_sanity.mono _)
      | (with_reducible exact LeO.refl _)
      | (with_reducible exact LeO.none _)
      | (with_reducible refine LeO.ite ?_ ?_)
      | (with_reducible refine LeO.bind ?_ (fun _ => ?_))
      | exact ih0 _ _ _ _ _
      | exact ih1 _ _ _ _ _ _ _
      | exact antiquarylaw05_sanity.mono _
      | exact LeO.none _
      | refine LeO.ite ?_ ?_
      | refine LeO.bind ?_ (fun _ => ?_)
    · intro y0 y1 y2 y3 y4 y5 y6
      unfold antiquarylaw05_MetricIsMonotone.j1
      repeat' first
      | (with_reducible exact ih0 _ _ _ _ _)
      | (with_reducible exact ih1 _ _ _ _ _ _ _)
      | (with_reducible exact antiquarylaw05_sanity.mono _)
      | (with_reducible exact LeO.refl _)
      | (with_reducible exact LeO.none _)
      | (with_reducible refine LeO.ite ?_ ?_)
      | (with_reducible refine LeO.bind ?_ (fun _ => ?_))
      | exact ih0 _ _ _ _ _
      | exact ih1 _ _ _ _ _ _ _
      | exact antiquarylaw05_sanity.mono _
      | exact LeO.none _
      | refine LeO.ite ?_ ?_
      | refine LeO.bind ?_ (fun _ => ?_)
theorem antiquarylaw05_MetricIsMonotone.mono : ∀ a0 a1 a2 a3 k, LeO (antiquarylaw05_MetricIsMonotone.f k a0 a1 a2 a3) (antiquarylaw05_MetricIsMonotone.f (k + 1) a0 a1 a2 a3) := by
  intro a0 a1 a2 a3 k
  obtain ⟨ih0, ih1⟩ := antiquarylaw05_MetricIsMonotone.mono_l k
  unfold antiquarylaw05_MetricIsMonotone.f
  repeat' first
      | (with_reducible exact ih0 _ _ _ _ _)
      | (with_reducible exact ih1 _ _ _ _ _ _ _)
      | (with_reducible exact antiquarylaw05_sanity.mono _)
      | (with_reducible exact LeO.refl _)
      | (with_reducible exact LeO.none _)
      | (with_reducible refine LeO.ite ?_ ?_)
      | (with_reducible refine LeO.bind ?_ (fun _ => ?_))
      | exact ih0 _ _ _ _ _
      | exact ih1 _ _ _ _ _ _ _
      | exact antiquarylaw05_sanity.mono _
      | exact LeO.none _
      | refine LeO.ite ?_ ?_
      | refine LeO.bind ?_ (fun _ => ?_)
set_option maxHeartbeats 8000000 in
set_option maxRecDepth 100000 in
theorem antiquarylaw05_MetricIsMonotone.calls (k : Nat) (a0 : Int) (a1 : Int) (a2 : Int) (a3 : Int) (r : Bool) (w : World) (h : antiquarylaw05_MetricIsMonotone.f k a0 a1 a2 a3 = some r) :
    Calls Try.prog 7 #[.int .i64 a0, .int .i64 a1, .int .i64 a2, .int .i64 a3] w fun e w' => e = .returned (.bool r) ∧ Below w.heap.size w w' := by
  have HB := Aside0.mk (Below.refl w.heap.size w)
  have H : ((antiquarylaw05_keys.f a0 a1 a2 a3).bind fun t229 => (if t229 = true then ((metric_Low.f a0 a1 a2).bind fun t231 => ((metric_Low.f a0 a2 a1).bind fun t232 => (if t231 = t232 then ((metric_High.f a0 a1 a2).bind fun t233 => ((metric_High.f a0 a2 a1).bind fun t234 => (if t233 = t234 then ((metric_Low.f a0 a1 a1).bind fun t235 => (if t235 = 0 then ((metric_High.f a0 a1 0).bind fun t236 => (antiquarylaw05_MetricIsMonotone.j0 k a0 a1 a2 a3 (t236 != a1))) else (antiquarylaw05_MetricIsMonotone.j0 k a0 a1 a2 a3 true))) else (antiquarylaw05_MetricIsMonotone.j0 k a0 a1 a2 a3 true)))) else (antiquarylaw05_MetricIsMonotone.j0 k a0 a1 a2 a3 true)))) else ((antiquarylaw05_sanity.f k).bind fun t230 => (some t230)))) = some r := h
  clear h
  replace H := Option.bind_eq_some_iff.mp H
  obtain ⟨t229, A50, H⟩ := H
  replace H : (if t229 = true then ((metric_Low.f a0 a1 a2).bind fun t231 => ((metric_Low.f a0 a2 a1).bind fun t232 => (if t231 = t232 then ((metric_High.f a0 a1 a2).bind fun t233 => ((metric_High.f a0 a2 a1).bind fun t234 => (if t233 = t234 then ((metric_Low.f a0 a1 a1).bind fun t235 => (if t235 = 0 then ((metric_High.f a0 a1 0).bind fun t236 => (antiquarylaw05_MetricIsMonotone.j0 k a0 a1 a2 a3 (t236 != a1))) else (antiquarylaw05_MetricIsMonotone.j0 k a0 a1 a2 a3 true))) else (antiquarylaw05_MetricIsMonotone.j0 k a0 a1 a2 a3 true)))) else (antiquarylaw05_MetricIsMonotone.j0 k a0 a1 a2 a3 true)))) else ((antiquarylaw05_sanity.f k).bind fun t230 => (some t230))) = some r := H
  have A5 := Aside0.mk A50
  clear A50
  by_cases c6 : t229 = true
  · subst c6
    have H1 : ((metric_Low.f a0 a1 a2).bind fun t231 => ((metric_Low.f a0 a2 a1).bind fun t232 => (if t231 = t232 then ((metric_High.f a0 a1 a2).bind fun t233 => ((metric_High.f a0 a2 a1).bind fun t234 => (if t233 = t234 then ((metric_Low.f a0 a1 a1).bind fun t235 => (if t235 = 0 then ((metric_High.f a0 a1 0).bind fun t236 => (antiquarylaw05_MetricIsMonotone.j0 k a0 a1 a2 a3 (t236 != a1))) else (antiquarylaw05_MetricIsMonotone.j0 k a0 a1 a2 a3 true))) else (antiquarylaw05_MetricIsMonotone.j0 k a0 a1 a2 a3 true)))) else (antiquarylaw05_MetricIsMonotone.j0 k a0 a1 a2 a3 true)))) = some r := by rw [if_pos rfl] at H; exact H
    clear H
    have H := H1
    clear H1
    have HC7 := Aside0.mk H
    clear H
    go_enter Try.func7, Try.ntmps7
    go_upto_region 4 with (first | ((with_reducible refine gate_callee (f := 10) rfl ?_); refine goesL_ (some 18) rfl rfl Try.func10 (by kernel_rfl) rfl #[.int .i64 a0, .int .i64 a1, .int .i64 a2, .int .i64 a3] rfl (by (try simp only [List.map_toArray, List.map_cons, List.map_nil]); first | done | rfl | (simp only [List.length_drop, List.length_take]; rfl)) ?_; (with_reducible refine (antiquarylaw05_keys.calls a0 a1 a2 a3 true _ A5.out).mono ?_); rintro e w' ⟨rfl, ⟨nd, rfl⟩⟩; refine ⟨_, rfl, ?_⟩))
    (try simp only [Act.put, List.setIfInBounds_toArray, List.set_cons_zero, List.set_cons_succ])
    go_cut [55] (fun v55 wc => ∃ (kq : Nat) (x55_6 : Bool), v55 = .bool x55_6 ∧ Aside0 (antiquarylaw05_MetricIsMonotone.j0 kq a0 a1 a2 a3 x55_6 = some r) ∧ Aside0 (kq ≤ k) ∧ Aside0 (Below w.heap.size w wc))
    case first =>
      have H := HC7.out
      clear HC7
      replace H := Option.bind_eq_some_iff.mp H
      obtain ⟨t231, A80, H⟩ := H
      replace H : ((metric_Low.f a0 a2 a1).bind fun t232 => (if t231 = t232 then ((metric_High.f a0 a1 a2).bind fun t233 => ((metric_High.f a0 a2 a1).bind fun t234 => (if t233 = t234 then ((metric_Low.f a0 a1 a1).bind fun t235 => (if t235 = 0 then ((metric_High.f a0 a1 0).bind fun t236 => (antiquarylaw05_MetricIsMonotone.j0 k a0 a1 a2 a3 (t236 != a1))) else (antiquarylaw05_MetricIsMonotone.j0 k a0 a1 a2 a3 true))) else (antiquarylaw05_MetricIsMonotone.j0 k a0 a1 a2 a3 true)))) else (antiquarylaw05_MetricIsMonotone.j0 k a0 a1 a2 a3 true))) = some r := H
      have A8 := Aside0.mk A80
      clear A80
      replace H := Option.bind_eq_some_iff.mp H
      obtain ⟨t232, A90, H⟩ := H
      replace H : (if t231 = t232 then ((metric_High.f a0 a1 a2).bind fun t233 => ((metric_High.f a0 a2 a1).bind fun t234 => (if t233 = t234 then ((metric_Low.f a0 a1 a1).bind fun t235 => (if t235 = 0 then ((metric_High.f a0 a1 0).bind fun t236 => (antiquarylaw05_MetricIsMonotone.j0 k a0 a1 a2 a3 (t236 != a1))) else (antiquarylaw05_MetricIsMonotone.j0 k a0 a1 a2 a3 true))) else (antiquarylaw05_MetricIsMonotone.j0 k a0 a1 a2 a3 true)))) else (antiquarylaw05_MetricIsMonotone.j0 k a0 a1 a2 a3 true)) = some r := H
      have A9 := Aside0.mk A90
      clear A90
      by_cases c10 : t231 = t232
      · rw [if_pos c10] at H
        have c10b0 : (t231 == t232) = true := beq_iff_eq.mpr c10
        have c10b1 : (t231 != t232) = false := bne_eq_false_iff_eq.mpr c10
        clear c10
        (first | rw [c10b0] | (simp only [i64_w, i32_w]; rw [c10b0]) | skip)
        replace H := Option.bind_eq_some_iff.mp H
        obtain ⟨t233, A110, H⟩ := H
        replace H : ((metric_High.f a0 a2 a1).bind fun t234 => (if t233 = t234 then ((metric_Low.f a0 a1 a1).bind fun t235 => (if t235 = 0 then ((metric_High.f a0 a1 0).bind fun t236 => (antiquarylaw05_MetricIsMonotone.j0 k a0 a1 a2 a3 (t236 != a1))) else (antiquarylaw05_MetricIsMonotone.j0 k a0 a1 a2 a3 true))) else (antiquarylaw05_MetricIsMonotone.j0 k a0 a1 a2 a3 true))) = some r := H
        have A11 := Aside0.mk A110
        clear A110
        replace H := Option.bind_eq_some_iff.mp H
        obtain ⟨t234, A120, H⟩ := H
        replace H : (if t233 = t234 then ((metric_Low.f a0 a1 a1).bind fun t235 => (if t235 = 0 then ((metric_High.f a0 a1 0).bind fun t236 => (antiquarylaw05_MetricIsMonotone.j0 k a0 a1 a2 a3 (t236 != a1))) else (antiquarylaw05_MetricIsMonotone.j0 k a0 a1 a2 a3 true))) else (antiquarylaw05_MetricIsMonotone.j0 k a0 a1 a2 a3 true)) = some r := H
        have A12 := Aside0.mk A120
        clear A120
        by_cases c13 : t233 = t234
        · rw [if_pos c13] at H
          have c13b0 : (t233 == t234) = true := beq_iff_eq.mpr c13
          have c13b1 : (t233 != t234) = false := bne_eq_false_iff_eq.mpr c13
          clear c13
          replace H := Option.bind_eq_some_iff.mp H
          obtain ⟨t235, A140, H⟩ := H
          replace H : (if t235 = 0 then ((metric_High.f a0 a1 0).bind fun t236 => (antiquarylaw05_MetricIsMonotone.j0 k a0 a1 a2 a3 (t236 != a1))) else (antiquarylaw05_MetricIsMonotone.j0 k a0 a1 a2 a3 true)) = some r := H
          have A14 := Aside0.mk A140
          clear A140
          by_cases c15 : t235 = 0
          · rw [if_pos c15] at H
            have c15b0 : (t235 == 0) = true := beq_iff_eq.mpr c15
            have c15b1 : (t235 != 0) = false := bne_eq_false_iff_eq.mpr c15
            clear c15
            replace H := Option.bind_eq_some_iff.mp H
            obtain ⟨t236, A160, H⟩ := H
            replace H : (antiquarylaw05_MetricIsMonotone.j0 k a0 a1 a2 a3 (t236 != a1)) = some r := H
            have A16 := Aside0.mk A160
            clear A160
            have H' := Aside0.mk H
            clear H
            go_wp2_with (first | ((with_reducible refine gate_callee (f := 14) rfl ?_); refine goesL_ (some 25) rfl rfl Try.func14 (by kernel_rfl) rfl #[.int .i64 a0, .int .i64 a1, .int .i64 a2] rfl (by (try simp only [List.map_toArray, List.map_cons, List.map_nil]); first | done | rfl | (simp only [List.length_drop, List.length_take]; rfl)) ?_; (with_reducible refine (metric_Low.calls a0 a1 a2 t231 _ A8.out).mono ?_); rintro e w17 ⟨rfl, hb⟩; refine ⟨_, rfl, ?_⟩; have n0_ := Aside0.mk (below_step (by repeat (first | (with_reducible first | exact HB.out | apply below_alloc | apply pw_below_drewN | apply below_drew1) | exact HB.out)) hb); clear HB; have HB := n0_; clear n0_; (try clear hb); (try clear hb2); (try clear hk); (try clear hi)) | ((with_reducible refine gate_callee (f := 14) rfl ?_); refine goesL_ (some 29) rfl rfl Try.func14 (by kernel_rfl) rfl #[.int .i64 a0, .int .i64 a2, .int .i64 a1] rfl (by (try simp only [List.map_toArray, List.map_cons, List.map_nil]); first | done | rfl | (simp only [List.length_drop, List.length_take]; rfl)) ?_; (with_reducible refine (metric_Low.calls a0 a2 a1 t232 _ A9.out).mono ?_); rintro e w18 ⟨rfl, hb⟩; refine ⟨_, rfl, ?_⟩; have n0_ := Aside0.mk (below_step (by repeat (first | (with_reducible first | exact HB.out | apply below_alloc | apply pw_below_drewN | apply below_drew1) | exact HB.out)) hb); clear HB; have HB := n0_; clear n0_; (try clear hb); (try clear hb2); (try clear hk); (try clear hi)) | (go_at_call 16; (with_reducible refine (metric_High.calls a0 a1 a2 t233 _ A11.out).mono ?_); rintro e w19 ⟨rfl, hb⟩; have n0_ := Aside0.mk (below_step (by repeat (first | (with_reducible first | exact HB.out | apply below_alloc | apply pw_below_drewN | apply below_drew1) | exact HB.out)) hb); clear HB; have HB := n0_; clear n0_; (try clear hb); (try clear hb2); (try clear hk); (try clear hi)) | (go_at_call 16; (with_reducible refine (metric_High.calls a0 a2 a1 t234 _ A12.out).mono ?_); rintro e w20 ⟨rfl, hb⟩; have n0_ := Aside0.mk (below_step (by repeat (first | (with_reducible first | exact HB.out | apply below_alloc | apply pw_below_drewN | apply below_drew1) | exact HB.out)) hb); clear HB; have HB := n0_; clear n0_; (try clear hb); (try clear hb2); (try clear hk); (try clear hi)) | (go_at_call 14; (with_reducible refine (metric_Low.calls a0 a1 a1 t235 _ A14.out).mono ?_); rintro e w21 ⟨rfl, hb⟩; have n0_ := Aside0.mk (below_step (by repeat (first | (with_reducible first | exact HB.out | apply below_alloc | apply pw_below_drewN | apply below_drew1) | exact HB.out)) hb); clear HB; have HB := n0_; clear n0_; (try clear hb); (try clear hb2); (try clear hk); (try clear hi)) | (go_at_call 16; (with_reducible refine (metric_High.calls a0 a1 0 t236 _ A16.out).mono ?_); rintro e w22 ⟨rfl, hb⟩; have n0_ := Aside0.mk (below_step (by repeat (first | (with_reducible first | exact HB.out | apply below_alloc | apply pw_below_drewN | apply below_drew1) | exact HB.out)) hb); clear HB; have HB := n0_; clear n0_; (try clear hb); (try clear hb2); (try clear hk); (try clear hi)))
            go_meet
            case rel => exact ⟨_, ((t236 != a1)), (by first | rfl | (simp; done) | (simp [*]; done)), H', ⟨by first | omega | exact Nat.le_refl _⟩, ⟨by repeat (first | (with_reducible first | exact HB.out | apply below_alloc | apply pw_below_drewN | apply below_drew1) | exact HB.out)⟩⟩
          · rw [if_neg c15] at H
            have c15b0 : (t235 == 0) = false := beq_eq_false_iff_ne.mpr c15
            have c15b1 : (t235 != 0) = true := bne_iff_ne.mpr c15
            have H' := Aside0.mk H
            clear H
            go_wp2_with (first | ((with_reducible refine gate_callee (f := 14) rfl ?_); refine goesL_ (some 25) rfl rfl Try.func14 (by kernel_rfl) rfl #[.int .i64 a0, .int .i64 a1, .int .i64 a2] rfl (by (try simp only [List.map_toArray, List.map_cons, List.map_nil]); first | done | rfl | (simp only [List.length_drop, List.length_take]; rfl)) ?_; (with_reducible refine (metric_Low.calls a0 a1 a2 t231 _ A8.out).mono ?_); rintro e w23 ⟨rfl, hb⟩; refine ⟨_, rfl, ?_⟩; have n0_ := Aside0.mk (below_step (by repeat (first | (with_reducible first | exact HB.out | apply below_alloc | apply pw_below_drewN | apply below_drew1) | exact HB.out)) hb); clear HB; have HB := n0_; clear n0_; (try clear hb); (try clear hb2); (try clear hk); (try clear hi)) | ((with_reducible refine gate_callee (f := 14) rfl ?_); refine goesL_ (some 29) rfl rfl Try.func14 (by kernel_rfl) rfl #[.int .i64 a0, .int .i64 a2, .int .i64 a1] rfl (by (try simp only [List.map_toArray, List.map_cons, List.map_nil]); first | done | rfl | (simp only [List.length_drop, List.length_take]; rfl)) ?_; (with_reducible refine (metric_Low.calls a0 a2 a1 t232 _ A9.out).mono ?_); rintro e w24 ⟨rfl, hb⟩; refine ⟨_, rfl, ?_⟩; have n0_ := Aside0.mk (below_step (by repeat (first | (with_reducible first | exact HB.out | apply below_alloc | apply pw_below_drewN | apply below_drew1) | exact HB.out)) hb); clear HB; have HB := n0_; clear n0_; (try clear hb); (try clear hb2); (try clear hk); (try clear hi)) | (go_at_call 16; (with_reducible refine (metric_High.calls a0 a1 a2 t233 _ A11.out).mono ?_); rintro e w25 ⟨rfl, hb⟩; have n0_ := Aside0.mk (below_step (by repeat (first | (with_reducible first | exact HB.out | apply below_alloc | apply pw_below_drewN | apply below_drew1) | exact HB.out)) hb); clear HB; have HB := n0_; clear n0_; (try clear hb); (try clear hb2); (try clear hk); (try clear hi)) | (go_at_call 16; (with_reducible refine (metric_High.calls a0 a2 a1 t234 _ A12.out).mono ?_); rintro e w26 ⟨rfl, hb⟩; have n0_ := Aside0.mk (below_step (by repeat (first | (with_reducible first | exact HB.out | apply below_alloc | apply pw_below_drewN | apply below_drew1) | exact HB.out)) hb); clear HB; have HB := n0_; clear n0_; (try clear hb); (try clear hb2); (try clear hk); (try clear hi)) | (go_at_call 14; (with_reducible refine (metric_Low.calls a0 a1 a1 t235 _ A14.out).mono ?_); rintro e w27 ⟨rfl, hb⟩; have n0_ := Aside0.mk (below_step (by repeat (first | (with_reducible first | exact HB.out | apply below_alloc | apply pw_below_drewN | apply below_drew1) | exact HB.out)) hb); clear HB; have HB := n0_; clear n0_; (try clear hb); (try clear hb2); (try clear hk); (try clear hi)))
            go_meet
            case rel => exact ⟨_, (true), (by first | rfl | (simp; done) | (simp [*]; done)), H', ⟨by first | omega | exact Nat.le_refl _⟩, ⟨by repeat (first | (with_reducible first | exact HB.out | apply below_alloc | apply pw_below_drewN | apply below_drew1) | exact HB.out)⟩⟩
        · rw [if_neg c13] at H
          have c13b0 : (t233 == t234) = false := beq_eq_false_iff_ne.mpr c13
          have c13b1 : (t233 != t234) = true := bne_iff_ne.mpr c13
          have H' := Aside0.mk H
          clear H
          go_wp2_with (first | ((with_reducible refine gate_callee (f := 14) rfl ?_); refine goesL_ (some 25) rfl rfl Try.func14 (by kernel_rfl) rfl #[.int .i64 a0, .int .i64 a1, .int .i64 a2] rfl (by (try simp only [List.map_toArray, List.map_cons, List.map_nil]); first | done | rfl | (simp only [List.length_drop, List.length_take]; rfl)) ?_; (with_reducible refine (metric_Low.calls a0 a1 a2 t231 _ A8.out).mono ?_); rintro e w28 ⟨rfl, hb⟩; refine ⟨_, rfl, ?_⟩; have n0_ := Aside0.mk (below_step (by repeat (first | (with_reducible first | exact HB.out | apply below_alloc | apply pw_below_drewN | apply below_drew1) | exact HB.out)) hb); clear HB; have HB := n0_; clear n0_; (try clear hb); (try clear hb2); (try clear hk); (try clear hi)) | ((with_reducible refine gate_callee (f := 14) rfl ?_); refine goesL_ (some 29) rfl rfl Try.func14 (by kernel_rfl) rfl #[.int .i64 a0, .int .i64 a2, .int .i64 a1] rfl (by (try simp only [List.map_toArray, List.map_cons, List.map_nil]); first | done | rfl | (simp only [List.length_drop, List.length_take]; rfl)) ?_; (with_reducible refine (metric_Low.calls a0 a2 a1 t232 _ A9.out).mono ?_); rintro e w29 ⟨rfl, hb⟩; refine ⟨_, rfl, ?_⟩; have n0_ := Aside0.mk (below_step (by repeat (first | (with_reducible first | exact HB.out | apply below_alloc | apply pw_below_drewN | apply below_drew1) | exact HB.out)) hb); clear HB; have HB := n0_; clear n0_; (try clear hb); (try clear hb2); (try clear hk); (try clear hi)) | (go_at_call 16; (with_reducible refine (metric_High.calls a0 a1 a2 t233 _ A11.out).mono ?_); rintro e w30 ⟨rfl, hb⟩; have n0_ := Aside0.mk (below_step (by repeat (first | (with_reducible first | exact HB.out | apply below_alloc | apply pw_below_drewN | apply below_drew1) | exact HB.out)) hb); clear HB; have HB := n0_; clear n0_; (try clear hb); (try clear hb2); (try clear hk); (try clear hi)) | (go_at_call 16; (with_reducible refine (metric_High.calls a0 a2 a1 t234 _ A12.out).mono ?_); rintro e w31 ⟨rfl, hb⟩; have n0_ := Aside0.mk (below_step (by repeat (first | (with_reducible first | exact HB.out | apply below_alloc | apply pw_below_drewN | apply below_drew1) | exact HB.out)) hb); clear HB; have HB := n0_; clear n0_; (try clear hb); (try clear hb2); (try clear hk); (try clear hi)))
          go_meet
          case rel => exact ⟨_, (true), (by first | rfl | (simp; done) | (simp [*]; done)), H', ⟨by first | omega | exact Nat.le_refl _⟩, ⟨by repeat (first | (with_reducible first | exact HB.out | apply below_alloc | apply pw_below_drewN | apply below_drew1) | exact HB.out)⟩⟩
      · rw [if_neg c10] at H
        have c10b0 : (t231 == t232) = false := beq_eq_false_iff_ne.mpr c10
        have c10b1 : (t231 != t232) = true := bne_iff_ne.mpr c10
        (first | rw [c10b0] | (simp only [i64_w, i32_w]; rw [c10b0]) | skip)
        have H' := Aside0.mk H
        clear H
        go_wp2_with (first | ((with_reducible refine gate_callee (f := 14) rfl ?_); refine goesL_ (some 25) rfl rfl Try.func14 (by kernel_rfl) rfl #[.int .i64 a0, .int .i64 a1, .int .i64 a2] rfl (by (try simp only [List.map_toArray, List.map_cons, List.map_nil]); first | done | rfl | (simp only [List.length_drop, List.length_take]; rfl)) ?_; (with_reducible refine (metric_Low.calls a0 a1 a2 t231 _ A8.out).mono ?_); rintro e w32 ⟨rfl, hb⟩; refine ⟨_, rfl, ?_⟩; have n0_ := Aside0.mk (below_step (by repeat (first | (with_reducible first | exact HB.out | apply below_alloc | apply pw_below_drewN | apply below_drew1) | exact HB.out)) hb); clear HB; have HB := n0_; clear n0_; (try clear hb); (try clear hb2); (try clear hk); (try clear hi)) | ((with_reducible refine gate_callee (f := 14) rfl ?_); refine goesL_ (some 29) rfl rfl Try.func14 (by kernel_rfl) rfl #[.int .i64 a0, .int .i64 a2, .int .i64 a1] rfl (by (try simp only [List.map_toArray, List.map_cons, List.map_nil]); first | done | rfl | (simp only [List.length_drop, List.length_take]; rfl)) ?_; (with_reducible refine (metric_Low.calls a0 a2 a1 t232 _ A9.out).mono ?_); rintro e w33 ⟨rfl, hb⟩; refine ⟨_, rfl, ?_⟩; have n0_ := Aside0.mk (below_step (by repeat (first | (with_reducible first | exact HB.out | apply below_alloc | apply pw_below_drewN | apply below_drew1) | exact HB.out)) hb); clear HB; have HB := n0_; clear n0_; (try clear hb); (try clear hb2); (try clear hk); (try clear hi)))
        go_meet
        case rel => exact ⟨_, (true), (by first | rfl | (simp; done) | (simp [*]; done)), H', ⟨by first | omega | exact Nat.le_refl _⟩, ⟨by repeat (first | (with_reducible first | exact HB.out | apply below_alloc | apply pw_below_drewN | apply below_drew1) | exact HB.out)⟩⟩
    case rest =>
      clear HC7
      try clear c1
      try clear p2
      try clear c6
      try clear c7
      try clear c10
      try clear c10b0
      try clear c10b1
      try clear c13
      try clear c13b0
      try clear c13b1
      try clear c14
      try clear c15
      try clear c15b0
      try clear c15b1
      obtain ⟨kq, x55_6, rfl, HA, HJ6, HB⟩ := hcut
      cases kq with
      | zero => exact absurd HA.out (by simp [antiquarylaw05_MetricIsMonotone.j0])
      | succ kj6 =>
        have H := HA.out
        clear HA
        simp only [antiquarylaw05_MetricIsMonotone.j0] at H
        by_cases c34 : x55_6 = true
        · subst c34
          have H1 : (some false) = some r := by rw [if_pos rfl] at H; exact H
          clear H
          have H := H1
          clear H1
          obtain rfl := Option.some.inj H
          go_wp2
          go_ret
          exact ⟨by first | rfl | (simp [errW_none, errW_some] <;> rfl) | (simp [*, errW_none, errW_some] <;> rfl), by repeat (first | (with_reducible first | exact HB.out | apply below_alloc | apply pw_below_drewN | apply below_drew1) | exact HB.out)⟩
        · replace c34 := Bool.eq_false_iff.mpr c34
          subst c34
          have H1 : ((metric_High.f a0 a1 (mn a2 a3)).bind fun t237 => ((metric_High.f a0 a1 (mx a2 a3)).bind fun t238 => (if t237 > t238 then (antiquarylaw05_MetricIsMonotone.j1 kj6 a0 a1 a2 a3 (mn a2 a3) (mx a2 a3) true) else (if (mn a2 a3) ≥ a1 then ((metric_Low.f a0 a1 (mn a2 a3)).bind fun t239 => ((metric_Low.f a0 a1 (mx a2 a3)).bind fun t240 => (if t239 > t240 then (antiquarylaw05_MetricIsMonotone.j1 kj6 a0 a1 a2 a3 (mn a2 a3) (mx a2 a3) true) else (if (mx a2 a3) ≤ a1 then ((metric_Low.f a0 a1 (mx a2 a3)).bind fun t241 => ((metric_Low.f a0 a1 (mn a2 a3)).bind fun t242 => (antiquarylaw05_MetricIsMonotone.j1 kj6 a0 a1 a2 a3 (mn a2 a3) (mx a2 a3) (decide (t241 > t242))))) else (antiquarylaw05_MetricIsMonotone.j1 kj6 a0 a1 a2 a3 (mn a2 a3) (mx a2 a3) false))))) else (if (mx a2 a3) ≤ a1 then ((metric_Low.f a0 a1 (mx a2 a3)).bind fun t243 => ((metric_Low.f a0 a1 (mn a2 a3)).bind fun t244 => (antiquarylaw05_MetricIsMonotone.j1 kj6 a0 a1 a2 a3 (mn a2 a3) (mx a2 a3) (decide (t243 > t244))))) else (antiquarylaw05_MetricIsMonotone.j1 kj6 a0 a1 a2 a3 (mn a2 a3) (mx a2 a3) false)))))) = some r := by rw [if_neg (show ¬ (false = true) by decide)] at H; exact H
          clear H
          have H := H1
          clear H1
          obtain ⟨ji35, hji35⟩ : ∃ j_ : Int, (mn a2 a3) = j_ := ⟨_, rfl⟩
          replace H : ((metric_High.f a0 a1 (ji35)).bind fun t237 => ((metric_High.f a0 a1 (mx a2 a3)).bind fun t238 => (if t237 > t238 then (antiquarylaw05_MetricIsMonotone.j1 kj6 a0 a1 a2 a3 ji35 (mx a2 a3) true) else (if (ji35) ≥ a1 then ((metric_Low.f a0 a1 (ji35)).bind fun t239 => ((metric_Low.f a0 a1 (mx a2 a3)).bind fun t240 => (if t239 > t240 then (antiquarylaw05_MetricIsMonotone.j1 kj6 a0 a1 a2 a3 ji35 (mx a2 a3) true) else (if (mx a2 a3) ≤ a1 then ((metric_Low.f a0 a1 (mx a2 a3)).bind fun t241 => ((metric_Low.f a0 a1 (ji35)).bind fun t242 => (antiquarylaw05_MetricIsMonotone.j1 kj6 a0 a1 a2 a3 ji35 (mx a2 a3) (decide (t241 > t242))))) else (antiquarylaw05_MetricIsMonotone.j1 kj6 a0 a1 a2 a3 ji35 (mx a2 a3) false))))) else (if (mx a2 a3) ≤ a1 then ((metric_Low.f a0 a1 (mx a2 a3)).bind fun t243 => ((metric_Low.f a0 a1 (ji35)).bind fun t244 => (antiquarylaw05_MetricIsMonotone.j1 kj6 a0 a1 a2 a3 ji35 (mx a2 a3) (decide (t243 > t244))))) else (antiquarylaw05_MetricIsMonotone.j1 kj6 a0 a1 a2 a3 ji35 (mx a2 a3) false)))))) = some r := by first | (rw [hji35] at H; exact H) | (simp only [hji35] at H ⊢; exact H)
          have hji35_ : (if a3 < a2 then a3 else a2) = ji35 := hji35
          obtain ⟨ji36, hji36⟩ : ∃ j_ : Int, (mx a2 a3) = j_ := ⟨_, rfl⟩
          replace H : ((metric_High.f a0 a1 (ji35)).bind fun t237 => ((metric_High.f a0 a1 (ji36)).bind fun t238 => (if t237 > t238 then (antiquarylaw05_MetricIsMonotone.j1 kj6 a0 a1 a2 a3 ji35 ji36 true) else (if (ji35) ≥ a1 then ((metric_Low.f a0 a1 (ji35)).bind fun t239 => ((metric_Low.f a0 a1 (ji36)).bind fun t240 => (if t239 > t240 then (antiquarylaw05_MetricIsMonotone.j1 kj6 a0 a1 a2 a3 ji35 ji36 true) else (if (ji36) ≤ a1 then ((metric_Low.f a0 a1 (ji36)).bind fun t241 => ((metric_Low.f a0 a1 (ji35)).bind fun t242 => (antiquarylaw05_MetricIsMonotone.j1 kj6 a0 a1 a2 a3 ji35 ji36 (decide (t241 > t242))))) else (antiquarylaw05_MetricIsMonotone.j1 kj6 a0 a1 a2 a3 ji35 ji36 false))))) else (if (ji36) ≤ a1 then ((metric_Low.f a0 a1 (ji36)).bind fun t243 => ((metric_Low.f a0 a1 (ji35)).bind fun t244 => (antiquarylaw05_MetricIsMonotone.j1 kj6 a0 a1 a2 a3 ji35 ji36 (decide (t243 > t244))))) else (antiquarylaw05_MetricIsMonotone.j1 kj6 a0 a1 a2 a3 ji35 ji36 false)))))) = some r := by first | (rw [hji36] at H; exact H) | (simp only [hji36] at H ⊢; exact H)
          have hji36_ : (if a2 < a3 then a3 else a2) = ji36 := hji36
          have HC37 := Aside0.mk H
          clear H
          go_upto_region 8 with (fail)
          go_cut [102] (fun v102 wc => ∃ (kq : Nat) (x102_36 : Bool), v102 = .bool x102_36 ∧ Aside0 (antiquarylaw05_MetricIsMonotone.j1 kq a0 a1 a2 a3 ji35 ji36 x102_36 = some r) ∧ Aside0 (kq ≤ kj6) ∧ Aside0 (Below w.heap.size w wc))
          case first =>
            have H := HC37.out
            clear HC37
            replace H := Option.bind_eq_some_iff.mp H
            obtain ⟨t237, A380, H⟩ := H
            replace H : ((metric_High.f a0 a1 (ji36)).bind fun t238 => (if t237 > t238 then (antiquarylaw05_MetricIsMonotone.j1 kj6 a0 a1 a2 a3 ji35 ji36 true) else (if (ji35) ≥ a1 then ((metric_Low.f a0 a1 (ji35)).bind fun t239 => ((metric_Low.f a0 a1 (ji36)).bind fun t240 => (if t239 > t240 then (antiquarylaw05_MetricIsMonotone.j1 kj6 a0 a1 a2 a3 ji35 ji36 true) else (if (ji36) ≤ a1 then ((metric_Low.f a0 a1 (ji36)).bind fun t241 => ((metric_Low.f a0 a1 (ji35)).bind fun t242 => (antiquarylaw05_MetricIsMonotone.j1 kj6 a0 a1 a2 a3 ji35 ji36 (decide (t241 > t242))))) else (antiquarylaw05_MetricIsMonotone.j1 kj6 a0 a1 a2 a3 ji35 ji36 false))))) else (if (ji36) ≤ a1 then ((metric_Low.f a0 a1 (ji36)).bind fun t243 => ((metric_Low.f a0 a1 (ji35)).bind fun t244 => (antiquarylaw05_MetricIsMonotone.j1 kj6 a0 a1 a2 a3 ji35 ji36 (decide (t243 > t244))))) else (antiquarylaw05_MetricIsMonotone.j1 kj6 a0 a1 a2 a3 ji35 ji36 false))))) = some r := H
            have A38 := Aside0.mk A380
            clear A380
            replace H := Option.bind_eq_some_iff.mp H
            obtain ⟨t238, A390, H⟩ := H
            replace H : (if t237 > t238 then (antiquarylaw05_MetricIsMonotone.j1 kj6 a0 a1 a2 a3 ji35 ji36 true) else (if (ji35) ≥ a1 then ((metric_Low.f a0 a1 (ji35)).bind fun t239 => ((metric_Low.f a0 a1 (ji36)).bind fun t240 => (if t239 > t240 then (antiquarylaw05_MetricIsMonotone.j1 kj6 a0 a1 a2 a3 ji35 ji36 true) else (if (ji36) ≤ a1 then ((metric_Low.f a0 a1 (ji36)).bind fun t241 => ((metric_Low.f a0 a1 (ji35)).bind fun t242 => (antiquarylaw05_MetricIsMonotone.j1 kj6 a0 a1 a2 a3 ji35 ji36 (decide (t241 > t242))))) else (antiquarylaw05_MetricIsMonotone.j1 kj6 a0 a1 a2 a3 ji35 ji36 false))))) else (if (ji36) ≤ a1 then ((metric_Low.f a0 a1 (ji36)).bind fun t243 => ((metric_Low.f a0 a1 (ji35)).bind fun t244 => (antiquarylaw05_MetricIsMonotone.j1 kj6 a0 a1 a2 a3 ji35 ji36 (decide (t243 > t244))))) else (antiquarylaw05_MetricIsMonotone.j1 kj6 a0 a1 a2 a3 ji35 ji36 false)))) = some r := H
            have A39 := Aside0.mk A390
            clear A390
            by_cases c40 : t237 > t238
            · rw [if_pos c40] at H
              have c40b0 : decide (t238 < t237) = true := decide_eq_true c40
              clear c40
              (first | rw [c40b0] | (simp only [i64_w, i32_w]; rw [c40b0]) | skip)
              have H' := Aside0.mk H
              clear H
              go_wp2_with (first | ((with_reducible refine gate_callee (f := 16) rfl ?_); refine goesL_ (some 65) rfl rfl Try.func16 (by kernel_rfl) rfl #[.int .i64 a0, .int .i64 a1, .int .i64 ji35] rfl (by (try simp only [List.map_toArray, List.map_cons, List.map_nil]); first | done | (simp only [hji35]; rfl) | rfl | (simp only [List.length_drop, List.length_take]; rfl)) ?_; (with_reducible refine (metric_High.calls a0 a1 ji35 t237 _ A38.out).mono ?_); rintro e w41 ⟨rfl, hb⟩; refine ⟨_, rfl, ?_⟩; have n0_ := Aside0.mk (below_step (by repeat (first | (with_reducible first | exact HB.out | apply below_alloc | apply pw_below_drewN | apply below_drew1) | exact HB.out)) hb); clear HB; have HB := n0_; clear n0_; (try clear hb); (try clear hb2); (try clear hk); (try clear hi)) | ((with_reducible refine gate_callee (f := 16) rfl ?_); refine goesL_ (some 69) rfl rfl Try.func16 (by kernel_rfl) rfl #[.int .i64 a0, .int .i64 a1, .int .i64 ji36] rfl (by (try simp only [List.map_toArray, List.map_cons, List.map_nil]); first | done | (simp only [hji36]; rfl) | rfl | (simp only [List.length_drop, List.length_take]; rfl)) ?_; (with_reducible refine (metric_High.calls a0 a1 ji36 t238 _ A39.out).mono ?_); rintro e w42 ⟨rfl, hb⟩; refine ⟨_, rfl, ?_⟩; have n0_ := Aside0.mk (below_step (by repeat (first | (with_reducible first | exact HB.out | apply below_alloc | apply pw_below_drewN | apply below_drew1) | exact HB.out)) hb); clear HB; have HB := n0_; clear n0_; (try clear hb); (try clear hb2); (try clear hk); (try clear hi)))
              go_meet
              case rel => exact ⟨_, (true), (by first | rfl | (simp; done) | (simp [*]; done)), H', ⟨by have := HJ6.out; first | omega | exact Nat.le_refl _⟩, ⟨by repeat (first | (with_reducible first | exact HB.out | apply below_alloc | apply pw_below_drewN | apply below_drew1) | exact HB.out)⟩⟩
            · rw [if_neg c40] at H
              have c40b0 : decide (t238 < t237) = false := decide_eq_false c40
              clear c40
              (first | rw [c40b0] | (simp only [i64_w, i32_w]; rw [c40b0]) | skip)
              by_cases c43 : (ji35) ≥ a1
              · rw [if_pos c43] at H
                have c43b0 : decide (a1 ≤ (ji35)) = true := decide_eq_true c43
                clear c43
                replace H := Option.bind_eq_some_iff.mp H
                obtain ⟨t239, A440, H⟩ := H
                replace H : ((metric_Low.f a0 a1 (ji36)).bind fun t240 => (if t239 > t240 then (antiquarylaw05_MetricIsMonotone.j1 kj6 a0 a1 a2 a3 ji35 ji36 true) else (if (ji36) ≤ a1 then ((metric_Low.f a0 a1 (ji36)).bind fun t241 => ((metric_Low.f a0 a1 (ji35)).bind fun t242 => (antiquarylaw05_MetricIsMonotone.j1 kj6 a0 a1 a2 a3 ji35 ji36 (decide (t241 > t242))))) else (antiquarylaw05_MetricIsMonotone.j1 kj6 a0 a1 a2 a3 ji35 ji36 false)))) = some r := H
                have A44 := Aside0.mk A440
                clear A440
                replace H := Option.bind_eq_some_iff.mp H
                obtain ⟨t240, A450, H⟩ := H
                replace H : (if t239 > t240 then (antiquarylaw05_MetricIsMonotone.j1 kj6 a0 a1 a2 a3 ji35 ji36 true) else (if (ji36) ≤ a1 then ((metric_Low.f a0 a1 (ji36)).bind fun t241 => ((metric_Low.f a0 a1 (ji35)).bind fun t242 => (antiquarylaw05_MetricIsMonotone.j1 kj6 a0 a1 a2 a3 ji35 ji36 (decide (t241 > t242))))) else (antiquarylaw05_MetricIsMonotone.j1 kj6 a0 a1 a2 a3 ji35 ji36 false))) = some r := H
                have A45 := Aside0.mk A450
                clear A450
                by_cases c46 : t239 > t240
                · rw [if_pos c46] at H
                  have c46b0 : decide (t240 < t239) = true := decide_eq_true c46
                  clear c46
                  have H' := Aside0.mk H
                  clear H
                  go_wp2_with (first | ((with_reducible refine gate_callee (f := 16) rfl ?_); refine goesL_ (some 65) rfl rfl Try.func16 (by kernel_rfl) rfl #[.int .i64 a0, .int .i64 a1, .int .i64 ji35] rfl (by (try simp only [List.map_toArray, List.map_cons, List.map_nil]); first | done | (simp only [hji35]; rfl) | rfl | (simp only [List.length_drop, List.length_take]; rfl)) ?_; (with_reducible refine (metric_High.calls a0 a1 ji35 t237 _ A38.out).mono ?_); rintro e w47 ⟨rfl, hb⟩; refine ⟨_, rfl, ?_⟩; have n0_ := Aside0.mk (below_step (by repeat (first | (with_reducible first | exact HB.out | apply below_alloc | apply pw_below_drewN | apply below_drew1) | exact HB.out)) hb); clear HB; have HB := n0_; clear n0_; (try clear hb); (try clear hb2); (try clear hk); (try clear hi)) | ((with_reducible refine gate_callee (f := 16) rfl ?_); refine goesL_ (some 69) rfl rfl Try.func16 (by kernel_rfl) rfl #[.int .i64 a0, .int .i64 a1, .int .i64 ji36] rfl (by (try simp only [List.map_toArray, List.map_cons, List.map_nil]); first | done | (simp only [hji36]; rfl) | rfl | (simp only [List.length_drop, List.length_take]; rfl)) ?_; (with_reducible refine (metric_High.calls a0 a1 ji36 t238 _ A39.out).mono ?_); rintro e w48 ⟨rfl, hb⟩; refine ⟨_, rfl, ?_⟩; have n0_ := Aside0.mk (below_step (by repeat (first | (with_reducible first | exact HB.out | apply below_alloc | apply pw_below_drewN | apply below_drew1) | exact HB.out)) hb); clear HB; have HB := n0_; clear n0_; (try clear hb); (try clear hb2); (try clear hk); (try clear hi)) | (go_at_call 14; (with_reducible refine (metric_Low.calls a0 a1 ji35 t239 _ A44.out).mono ?_); rintro e w49 ⟨rfl, hb⟩; have n0_ := Aside0.mk (below_step (by repeat (first | (with_reducible first | exact HB.out | apply below_alloc | apply pw_below_drewN | apply below_drew1) | exact HB.out)) hb); clear HB; have HB := n0_; clear n0_; (try clear hb); (try clear hb2); (try clear hk); (try clear hi)) | (go_at_call 14; (with_reducible refine (metric_Low.calls a0 a1 ji36 t240 _ A45.out).mono ?_); rintro e w50 ⟨rfl, hb⟩; have n0_ := Aside0.mk (below_step (by repeat (first | (with_reducible first | exact HB.out | apply below_alloc | apply pw_below_drewN | apply below_drew1) | exact HB.out)) hb); clear HB; have HB := n0_; clear n0_; (try clear hb); (try clear hb2); (try clear hk); (try clear hi)))
                  go_meet
                  case rel => exact ⟨_, (true), (by first | rfl | (simp; done) | (simp [*]; done)), H', ⟨by have := HJ6.out; first | omega | exact Nat.le_refl _⟩, ⟨by repeat (first | (with_reducible first | exact HB.out | apply below_alloc | apply pw_below_drewN | apply below_drew1) | exact HB.out)⟩⟩
                · rw [if_neg c46] at H
                  have c46b0 : decide (t240 < t239) = false := decide_eq_false c46
                  clear c46
                  by_cases c51 : (ji36) ≤ a1
                  · rw [if_pos c51] at H
                    have c51b0 : decide ((ji36) ≤ a1) = true := decide_eq_true c51
                    clear c51
                    replace H := Option.bind_eq_some_iff.mp H
                    obtain ⟨t241, A520, H⟩ := H
                    replace H : ((metric_Low.f a0 a1 (ji35)).bind fun t242 => (antiquarylaw05_MetricIsMonotone.j1 kj6 a0 a1 a2 a3 ji35 ji36 (decide (t241 > t242)))) = some r := H
                    have A52 := Aside0.mk A520
                    obtain rfl : t240 = t241 := Option.some.inj (A45.out.symm.trans A520)
                    clear A520
                    replace H := Option.bind_eq_some_iff.mp H
                    obtain ⟨t242, A530, H⟩ := H
                    replace H : (antiquarylaw05_MetricIsMonotone.j1 kj6 a0 a1 a2 a3 ji35 ji36 (decide (t240 > t242))) = some r := H
                    have A53 := Aside0.mk A530
                    obtain rfl : t239 = t242 := Option.some.inj (A44.out.symm.trans A530)
                    clear A530
                    have H' := Aside0.mk H
                    clear H
                    go_wp2_with (first | ((with_reducible refine gate_callee (f := 16) rfl ?_); refine goesL_ (some 65) rfl rfl Try.func16 (by kernel_rfl) rfl #[.int .i64 a0, .int .i64 a1, .int .i64 ji35] rfl (by (try simp only [List.map_toArray, List.map_cons, List.map_nil]); first | done | (simp only [hji35]; rfl) | rfl | (simp only [List.length_drop, List.length_take]; rfl)) ?_; (with_reducible refine (metric_High.calls a0 a1 ji35 t237 _ A38.out).mono ?_); rintro e w54 ⟨rfl, hb⟩; refine ⟨_, rfl, ?_⟩; have n0_ := Aside0.mk (below_step (by repeat (first | (with_reducible first | exact HB.out | apply below_alloc | apply pw_below_drewN | apply below_drew1) | exact HB.out)) hb); clear HB; have HB := n0_; clear n0_; (try clear hb); (try clear hb2); (try clear hk); (try clear hi)) | ((with_reducible refine gate_callee (f := 16) rfl ?_); refine goesL_ (some 69) rfl rfl Try.func16 (by kernel_rfl) rfl #[.int .i64 a0, .int .i64 a1, .int .i64 ji36] rfl (by (try simp only [List.map_toArray, List.map_cons, List.map_nil]); first | done | (simp only [hji36]; rfl) | rfl | (simp only [List.length_drop, List.length_take]; rfl)) ?_; (with_reducible refine (metric_High.calls a0 a1 ji36 t238 _ A39.out).mono ?_); rintro e w55 ⟨rfl, hb⟩; refine ⟨_, rfl, ?_⟩; have n0_ := Aside0.mk (below_step (by repeat (first | (with_reducible first | exact HB.out | apply below_alloc | apply pw_below_drewN | apply below_drew1) | exact HB.out)) hb); clear HB; have HB := n0_; clear n0_; (try clear hb); (try clear hb2); (try clear hk); (try clear hi)) | (go_at_call 14; (with_reducible refine (metric_Low.calls a0 a1 ji35 t239 _ A44.out).mono ?_); rintro e w56 ⟨rfl, hb⟩; have n0_ := Aside0.mk (below_step (by repeat (first | (with_reducible first | exact HB.out | apply below_alloc | apply pw_below_drewN | apply below_drew1) | exact HB.out)) hb); clear HB; have HB := n0_; clear n0_; (try clear hb); (try clear hb2); (try clear hk); (try clear hi)) | (go_at_call 14; (with_reducible refine (metric_Low.calls a0 a1 ji36 t240 _ A45.out).mono ?_); rintro e w57 ⟨rfl, hb⟩; have n0_ := Aside0.mk (below_step (by repeat (first | (with_reducible first | exact HB.out | apply below_alloc | apply pw_below_drewN | apply below_drew1) | exact HB.out)) hb); clear HB; have HB := n0_; clear n0_; (try clear hb); (try clear hb2); (try clear hk); (try clear hi)) | (go_at_call 14; (with_reducible refine (metric_Low.calls a0 a1 ji36 t240 _ A52.out).mono ?_); rintro e w58 ⟨rfl, hb⟩; have n0_ := Aside0.mk (below_step (by repeat (first | (with_reducible first | exact HB.out | apply below_alloc | apply pw_below_drewN | apply below_drew1) | exact HB.out)) hb); clear HB; have HB := n0_; clear n0_; (try clear hb); (try clear hb2); (try clear hk); (try clear hi)) | (go_at_call 14; (with_reducible refine (metric_Low.calls a0 a1 ji35 t239 _ A53.out).mono ?_); rintro e w59 ⟨rfl, hb⟩; have n0_ := Aside0.mk (below_step (by repeat (first | (with_reducible first | exact HB.out | apply below_alloc | apply pw_below_drewN | apply below_drew1) | exact HB.out)) hb); clear HB; have HB := n0_; clear n0_; (try clear hb); (try clear hb2); (try clear hk); (try clear hi)))
                    go_meet
                    case rel => exact ⟨_, (decide (t240 > t239)), (by first | rfl | (simp; done) | (simp [*]; done)), H', ⟨by have := HJ6.out; first | omega | exact Nat.le_refl _⟩, ⟨by repeat (first | (with_reducible first | exact HB.out | apply below_alloc | apply pw_below_drewN | apply below_drew1) | exact HB.out)⟩⟩
                  · rw [if_neg c51] at H
                    have c51b0 : decide ((ji36) ≤ a1) = false := decide_eq_false c51
                    clear c51
                    have H' := Aside0.mk H
                    clear H
                    go_wp2_with (first | ((with_reducible refine gate_callee (f := 16) rfl ?_); refine goesL_ (some 65) rfl rfl Try.func16 (by kernel_rfl) rfl #[.int .i64 a0, .int .i64 a1, .int .i64 ji35] rfl (by (try simp only [List.map_toArray, List.map_cons, List.map_nil]); first | done | (simp only [hji35]; rfl) | rfl | (simp only [List.length_drop, List.length_take]; rfl)) ?_; (with_reducible refine (metric_High.calls a0 a1 ji35 t237 _ A38.out).mono ?_); rintro e w60 ⟨rfl, hb⟩; refine ⟨_, rfl, ?_⟩; have n0_ := Aside0.mk (below_step (by repeat (first | (with_reducible first | exact HB.out | apply below_alloc | apply pw_below_drewN | apply below_drew1) | exact HB.out)) hb); clear HB; have HB := n0_; clear n0_; (try clear hb); (try clear hb2); (try clear hk); (try clear hi)) | ((with_reducible refine gate_callee (f := 16) rfl ?_); refine goesL_ (some 69) rfl rfl Try.func16 (by kernel_rfl) rfl #[.int .i64 a0, .int .i64 a1, .int .i64 ji36] rfl (by (try simp only [List.map_toArray, List.map_cons, List.map_nil]); first | done | (simp only [hji36]; rfl) | rfl | (simp only [List.length_drop, List.length_take]; rfl)) ?_; (with_reducible refine (metric_High.calls a0 a1 ji36 t238 _ A39.out).mono ?_); rintro e w61 ⟨rfl, hb⟩; refine ⟨_, rfl, ?_⟩; have n0_ := Aside0.mk (below_step (by repeat (first | (with_reducible first | exact HB.out | apply below_alloc | apply pw_below_drewN | apply below_drew1) | exact HB.out)) hb); clear HB; have HB := n0_; clear n0_; (try clear hb); (try clear hb2); (try clear hk); (try clear hi)) | (go_at_call 14; (with_reducible refine (metric_Low.calls a0 a1 ji35 t239 _ A44.out).mono ?_); rintro e w62 ⟨rfl, hb⟩; have n0_ := Aside0.mk (below_step (by repeat (first | (with_reducible first | exact HB.out | apply below_alloc | apply pw_below_drewN | apply below_drew1) | exact HB.out)) hb); clear HB; have HB := n0_; clear n0_; (try clear hb); (try clear hb2); (try clear hk); (try clear hi)) | (go_at_call 14; (with_reducible refine (metric_Low.calls a0 a1 ji36 t240 _ A45.out).mono ?_); rintro e w63 ⟨rfl, hb⟩; have n0_ := Aside0.mk (below_step (by repeat (first | (with_reducible first | exact HB.out | apply below_alloc | apply pw_below_drewN | apply below_drew1) | exact HB.out)) hb); clear HB; have HB := n0_; clear n0_; (try clear hb); (try clear hb2); (try clear hk); (try clear hi)))
                    go_meet
                    case rel => exact ⟨_, (false), (by first | rfl | (simp; done) | (simp [*]; done)), H', ⟨by have := HJ6.out; first | omega | exact Nat.le_refl _⟩, ⟨by repeat (first | (with_reducible first | exact HB.out | apply below_alloc | apply pw_below_drewN | apply below_drew1) | exact HB.out)⟩⟩
              · rw [if_neg c43] at H
                have c43b0 : decide (a1 ≤ (ji35)) = false := decide_eq_false c43
                clear c43
                by_cases c64 : (ji36) ≤ a1
                · rw [if_pos c64] at H
                  have c64b0 : decide ((ji36) ≤ a1) = true := decide_eq_true c64
                  clear c64
                  replace H := Option.bind_eq_some_iff.mp H
                  obtain ⟨t243, A650, H⟩ := H
                  replace H : ((metric_Low.f a0 a1 (ji35)).bind fun t244 => (antiquarylaw05_MetricIsMonotone.j1 kj6 a0 a1 a2 a3 ji35 ji36 (decide (t243 > t244)))) = some r := H
                  have A65 := Aside0.mk A650
                  clear A650
                  replace H := Option.bind_eq_some_iff.mp H
                  obtain ⟨t244, A660, H⟩ := H
                  replace H : (antiquarylaw05_MetricIsMonotone.j1 kj6 a0 a1 a2 a3 ji35 ji36 (decide (t243 > t244))) = some r := H
                  have A66 := Aside0.mk A660
                  clear A660
                  have H' := Aside0.mk H
                  clear H
                  go_wp2_with (first | ((with_reducible refine gate_callee (f := 16) rfl ?_); refine goesL_ (some 65) rfl rfl Try.func16 (by kernel_rfl) rfl #[.int .i64 a0, .int .i64 a1, .int .i64 ji35] rfl (by (try simp only [List.map_toArray, List.map_cons, List.map_nil]); first | done | (simp only [hji35]; rfl) | rfl | (simp only [List.length_drop, List.length_take]; rfl)) ?_; (with_reducible refine (metric_High.calls a0 a1 ji35 t237 _ A38.out).mono ?_); rintro e w67 ⟨rfl, hb⟩; refine ⟨_, rfl, ?_⟩; have n0_ := Aside0.mk (below_step (by repeat (first | (with_reducible first | exact HB.out | apply below_alloc | apply pw_below_drewN | apply below_drew1) | exact HB.out)) hb); clear HB; have HB := n0_; clear n0_; (try clear hb); (try clear hb2); (try clear hk); (try clear hi)) | ((with_reducible refine gate_callee (f := 16) rfl ?_); refine goesL_ (some 69) rfl rfl Try.func16 (by kernel_rfl) rfl #[.int .i64 a0, .int .i64 a1, .int .i64 ji36] rfl (by (try simp only [List.map_toArray, List.map_cons, List.map_nil]); first | done | (simp only [hji36]; rfl) | rfl | (simp only [List.length_drop, List.length_take]; rfl)) ?_; (with_reducible refine (metric_High.calls a0 a1 ji36 t238 _ A39.out).mono ?_); rintro e w68 ⟨rfl, hb⟩; refine ⟨_, rfl, ?_⟩; have n0_ := Aside0.mk (below_step (by repeat (first | (with_reducible first | exact HB.out | apply below_alloc | apply pw_below_drewN | apply below_drew1) | exact HB.out)) hb); clear HB; have HB := n0_; clear n0_; (try clear hb); (try clear hb2); (try clear hk); (try clear hi)) | (go_at_call 14; (with_reducible refine (metric_Low.calls a0 a1 ji36 t243 _ A65.out).mono ?_); rintro e w69 ⟨rfl, hb⟩; have n0_ := Aside0.mk (below_step (by repeat (first | (with_reducible first | exact HB.out | apply below_alloc | apply pw_below_drewN | apply below_drew1) | exact HB.out)) hb); clear HB; have HB := n0_; clear n0_; (try clear hb); (try clear hb2); (try clear hk); (try clear hi)) | (go_at_call 14; (with_reducible refine (metric_Low.calls a0 a1 ji35 t244 _ A66.out).mono ?_); rintro e w70 ⟨rfl, hb⟩; have n0_ := Aside0.mk (below_step (by repeat (first | (with_reducible first | exact HB.out | apply below_alloc | apply pw_below_drewN | apply below_drew1) | exact HB.out)) hb); clear HB; have HB := n0_; clear n0_; (try clear hb); (try clear hb2); (try clear hk); (try clear hi)))
                  go_meet
                  case rel => exact ⟨_, (decide (t243 > t244)), (by first | rfl | (simp; done) | (simp [*]; done)), H', ⟨by have := HJ6.out; first | omega | exact Nat.le_refl _⟩, ⟨by repeat (first | (with_reducible first | exact HB.out | apply below_alloc | apply pw_below_drewN | apply below_drew1) | exact HB.out)⟩⟩
                · rw [if_neg c64] at H
                  have c64b0 : decide ((ji36) ≤ a1) = false := decide_eq_false c64
                  clear c64
                  have H' := Aside0.mk H
                  clear H
                  go_wp2_with (first | ((with_reducible refine gate_callee (f := 16) rfl ?_); refine goesL_ (some 65) rfl rfl Try.func16 (by kernel_rfl) rfl #[.int .i64 a0, .int .i64 a1, .int .i64 ji35] rfl (by (try simp only [List.map_toArray, List.map_cons, List.map_nil]); first | done | (simp only [hji35]; rfl) | rfl | (simp only [List.length_drop, List.length_take]; rfl)) ?_; (with_reducible refine (metric_High.calls a0 a1 ji35 t237 _ A38.out).mono ?_); rintro e w71 ⟨rfl, hb⟩; refine ⟨_, rfl, ?_⟩; have n0_ := Aside0.mk (below_step (by repeat (first | (with_reducible first | exact HB.out | apply below_alloc | apply pw_below_drewN | apply below_drew1) | exact HB.out)) hb); clear HB; have HB := n0_; clear n0_; (try clear hb); (try clear hb2); (try clear hk); (try clear hi)) | ((with_reducible refine gate_callee (f := 16) rfl ?_); refine goesL_ (some 69) rfl rfl Try.func16 (by kernel_rfl) rfl #[.int .i64 a0, .int .i64 a1, .int .i64 ji36] rfl (by (try simp only [List.map_toArray, List.map_cons, List.map_nil]); first | done | (simp only [hji36]; rfl) | rfl | (simp only [List.length_drop, List.length_take]; rfl)) ?_; (with_reducible refine (metric_High.calls a0 a1 ji36 t238 _ A39.out).mono ?_); rintro e w72 ⟨rfl, hb⟩; refine ⟨_, rfl, ?_⟩; have n0_ := Aside0.mk (below_step (by repeat (first | (with_reducible first | exact HB.out | apply below_alloc | apply pw_below_drewN | apply below_drew1) | exact HB.out)) hb); clear HB; have HB := n0_; clear n0_; (try clear hb); (try clear hb2); (try clear hk); (try clear hi)))
                  go_meet
                  case rel => exact ⟨_, (false), (by first | rfl | (simp; done) | (simp [*]; done)), H', ⟨by have := HJ6.out; first | omega | exact Nat.le_refl _⟩, ⟨by repeat (first | (with_reducible first | exact HB.out | apply below_alloc | apply pw_below_drewN | apply below_drew1) | exact HB.out)⟩⟩
          case rest =>
            clear HC37
            try clear c1
            try clear p2
            try clear c3
            try clear c4
            try clear c5
            try clear c6
            try clear c7
            try clear c10
            try clear c10b0
            try clear c10b1
            try clear c13
            try clear c13b0
            try clear c13b1
            try clear c14
            try clear c15
            try clear c15b0
            try clear c15b1
            try clear c16
            try clear c34
            try clear c40
            try clear c40b0
            try clear c43
            try clear c43b0
            try clear c46
            try clear c46b0
            try clear c51
            try clear c51b0
            try clear c64
            try clear c64b0
            try clear p2
            obtain ⟨kq, x102_36, rfl, HA, HJ36, HB⟩ := hcut
            cases kq with
            | zero => exact absurd HA.out (by simp [antiquarylaw05_MetricIsMonotone.j1])
            | succ kj36 =>
              have H := HA.out
              clear HA
              simp only [antiquarylaw05_MetricIsMonotone.j1] at H
              by_cases c73 : x102_36 = true
              · subst c73
                have H1 : (some false) = some r := by rw [if_pos rfl] at H; exact H
                clear H
                have H := H1
                clear H1
                obtain rfl := Option.some.inj H
                go_wp2
                go_ret
                exact ⟨by first | rfl | (simp [errW_none, errW_some] <;> rfl) | (simp only [← hji35, ← hji36]; first | rfl | (simp [errW_none, errW_some] <;> rfl)) | (simp [*, errW_none, errW_some] <;> rfl), by repeat (first | (with_reducible first | exact HB.out | apply below_alloc | apply pw_below_drewN | apply below_drew1) | exact HB.out)⟩
              · replace c73 := Bool.eq_false_iff.mpr c73
                subst c73
                have H1 : ((metric_Gap.f a0 ji35 ji36 a1).bind fun t245 => ((metric_Reach.f a0 ji35 ji36 a1).bind fun t246 => ((antiquarylaw05_sanity.f kj36).bind fun t247 => (if t247 = true then ((metric_Low.f a0 a1 a2).bind fun t248 => (if t245 ≤ t248 then ((metric_Low.f a0 a1 a3).bind fun t249 => (if t245 ≤ t249 then ((metric_High.f a0 a1 a2).bind fun t250 => (if t246 ≥ t250 then ((metric_High.f a0 a1 a3).bind fun t251 => (some (decide (t246 ≥ t251)))) else (some false))) else (some false))) else (some false))) else (some false))))) = some r := by rw [if_neg (show ¬ (false = true) by decide)] at H; exact H
                clear H
                have H := H1
                clear H1
                replace H := Option.bind_eq_some_iff.mp H
                obtain ⟨t245, A740, H⟩ := H
                replace H : ((metric_Reach.f a0 ji35 ji36 a1).bind fun t246 => ((antiquarylaw05_sanity.f kj36).bind fun t247 => (if t247 = true then ((metric_Low.f a0 a1 a2).bind fun t248 => (if t245 ≤ t248 then ((metric_Low.f a0 a1 a3).bind fun t249 => (if t245 ≤ t249 then ((metric_High.f a0 a1 a2).bind fun t250 => (if t246 ≥ t250 then ((metric_High.f a0 a1 a3).bind fun t251 => (some (decide (t246 ≥ t251)))) else (some false))) else (some false))) else (some false))) else (some false)))) = some r := H
                have A74 := Aside0.mk A740
                clear A740
                replace H := Option.bind_eq_some_iff.mp H
                obtain ⟨t246, A750, H⟩ := H
                replace H : ((antiquarylaw05_sanity.f kj36).bind fun t247 => (if t247 = true then ((metric_Low.f a0 a1 a2).bind fun t248 => (if t245 ≤ t248 then ((metric_Low.f a0 a1 a3).bind fun t249 => (if t245 ≤ t249 then ((metric_High.f a0 a1 a2).bind fun t250 => (if t246 ≥ t250 then ((metric_High.f a0 a1 a3).bind fun t251 => (some (decide (t246 ≥ t251)))) else (some false))) else (some false))) else (some false))) else (some false))) = some r := H
                have A75 := Aside0.mk A750
                clear A750
                replace H := Option.bind_eq_some_iff.mp H
                obtain ⟨t247, A760, H⟩ := H
                replace H : (if t247 = true then ((metric_Low.f a0 a1 a2).bind fun t248 => (if t245 ≤ t248 then ((metric_Low.f a0 a1 a3).bind fun t249 => (if t245 ≤ t249 then ((metric_High.f a0 a1 a2).bind fun t250 => (if t246 ≥ t250 then ((metric_High.f a0 a1 a3).bind fun t251 => (some (decide (t246 ≥ t251)))) else (some false))) else (some false))) else (some false))) else (some false)) = some r := H
                have A76 := Aside0.mk A760
                clear A760
                by_cases c77 : t247 = true
                · subst c77
                  have H1 : ((metric_Low.f a0 a1 a2).bind fun t248 => (if t245 ≤ t248 then ((metric_Low.f a0 a1 a3).bind fun t249 => (if t245 ≤ t249 then ((metric_High.f a0 a1 a2).bind fun t250 => (if t246 ≥ t250 then ((metric_High.f a0 a1 a3).bind fun t251 => (some (decide (t246 ≥ t251)))) else (some false))) else (some false))) else (some false))) = some r := by rw [if_pos rfl] at H; exact H
                  clear H
                  have H := H1
                  clear H1
                  replace H := Option.bind_eq_some_iff.mp H
                  obtain ⟨t248, A780, H⟩ := H
                  replace H : (if t245 ≤ t248 then ((metric_Low.f a0 a1 a3).bind fun t249 => (if t245 ≤ t249 then ((metric_High.f a0 a1 a2).bind fun t250 => (if t246 ≥ t250 then ((metric_High.f a0 a1 a3).bind fun t251 => (some (decide (t246 ≥ t251)))) else (some false))) else (some false))) else (some false)) = some r := H
                  have A78 := Aside0.mk A780
                  clear A780
                  by_cases c79 : t245 ≤ t248
                  · rw [if_pos c79] at H
                    have c79b0 : decide (t245 ≤ t248) = true := decide_eq_true c79
                    clear c79
                    replace H := Option.bind_eq_some_iff.mp H
                    obtain ⟨t249, A800, H⟩ := H
                    replace H : (if t245 ≤ t249 then ((metric_High.f a0 a1 a2).bind fun t250 => (if t246 ≥ t250 then ((metric_High.f a0 a1 a3).bind fun t251 => (some (decide (t246 ≥ t251)))) else (some false))) else (some false)) = some r := H
                    have A80 := Aside0.mk A800
                    clear A800
                    by_cases c81 : t245 ≤ t249
                    · rw [if_pos c81] at H
                      have c81b0 : decide (t245 ≤ t249) = true := decide_eq_true c81
                      clear c81
                      replace H := Option.bind_eq_some_iff.mp H
                      obtain ⟨t250, A820, H⟩ := H
                      replace H : (if t246 ≥ t250 then ((metric_High.f a0 a1 a3).bind fun t251 => (some (decide (t246 ≥ t251)))) else (some false)) = some r := H
                      have A82 := Aside0.mk A820
                      clear A820
                      by_cases c83 : t246 ≥ t250
                      · rw [if_pos c83] at H
                        have c83b0 : decide (t250 ≤ t246) = true := decide_eq_true c83
                        clear c83
                        replace H := Option.bind_eq_some_iff.mp H
                        obtain ⟨t251, A840, H⟩ := H
                        replace H : (some (decide (t246 ≥ t251))) = some r := H
                        have A84 := Aside0.mk A840
                        clear A840
                        obtain rfl := Option.some.inj H
                        go_wp2_with (first | ((with_reducible refine gate_callee (f := 20) rfl ?_); refine goesL_ (some 107) rfl rfl Try.func20 (by kernel_rfl) rfl #[.int .i64 a0, .int .i64 ji35, .int .i64 ji36, .int .i64 a1] rfl (by (try simp only [List.map_toArray, List.map_cons, List.map_nil]); first | done | (simp only [hji35, hji36]; rfl) | rfl | (simp only [List.length_drop, List.length_take]; rfl)) ?_; (with_reducible refine (metric_Gap.calls a0 ji35 ji36 a1 t245 _ A74.out).mono ?_); rintro e w85 ⟨rfl, hb⟩; refine ⟨_, rfl, ?_⟩; have n0_ := Aside0.mk (below_step (by repeat (first | (with_reducible first | exact HB.out | apply below_alloc | apply pw_below_drewN | apply below_drew1) | exact HB.out)) hb); clear HB; have HB := n0_; clear n0_; (try clear hb); (try clear hb2); (try clear hk); (try clear hi)) | ((with_reducible refine gate_callee (f := 22) rfl ?_); refine goesL_ (some 112) rfl rfl Try.func22 (by kernel_rfl) rfl #[.int .i64 a0, .int .i64 ji35, .int .i64 ji36, .int .i64 a1] rfl (by (try simp only [List.map_toArray, List.map_cons, List.map_nil]); first | done | (simp only [hji35, hji36]; rfl) | rfl | (simp only [List.length_drop, List.length_take]; rfl)) ?_; (with_reducible refine (metric_Reach.calls a0 ji35 ji36 a1 t246 _ A75.out).mono ?_); rintro e w86 ⟨rfl, hb⟩; refine ⟨_, rfl, ?_⟩; have n0_ := Aside0.mk (below_step (by repeat (first | (with_reducible first | exact HB.out | apply below_alloc | apply pw_below_drewN | apply below_drew1) | exact HB.out)) hb); clear HB; have HB := n0_; clear n0_; (try clear hb); (try clear hb2); (try clear hk); (try clear hi)) | ((with_reducible refine gate_callee (f := 11) rfl ?_); refine goesL_ (some 113) rfl rfl Try.func11 (by kernel_rfl) rfl #[] rfl (by (try simp only [List.map_toArray, List.map_cons, List.map_nil]); first | done | rfl | (simp only [List.length_drop, List.length_take]; rfl)) ?_; (with_reducible refine (antiquarylaw05_sanity.calls kj36  true _ A76.out).mono ?_); rintro e w87 ⟨rfl, hb⟩; refine ⟨_, rfl, ?_⟩; have n0_ := Aside0.mk (below_step (by repeat (first | (with_reducible first | exact HB.out | apply below_alloc | apply pw_below_drewN | apply below_drew1) | exact HB.out)) hb); clear HB; have HB := n0_; clear n0_; (try clear hb); (try clear hb2); (try clear hk); (try clear hi)) | (go_at_call 14; (with_reducible refine (metric_Low.calls a0 a1 a2 t248 _ A78.out).mono ?_); rintro e w88 ⟨rfl, hb⟩; have n0_ := Aside0.mk (below_step (by repeat (first | (with_reducible first | exact HB.out | apply below_alloc | apply pw_below_drewN | apply below_drew1) | exact HB.out)) hb); clear HB; have HB := n0_; clear n0_; (try clear hb); (try clear hb2); (try clear hk); (try clear hi)) | (go_at_call 14; (with_reducible refine (metric_Low.calls a0 a1 a3 t249 _ A80.out).mono ?_); rintro e w89 ⟨rfl, hb⟩; have n0_ := Aside0.mk (below_step (by repeat (first | (with_reducible first | exact HB.out | apply below_alloc | apply pw_below_drewN | apply below_drew1) | exact HB.out)) hb); clear HB; have HB := n0_; clear n0_; (try clear hb); (try clear hb2); (try clear hk); (try clear hi)) | (go_at_call 16; (with_reducible refine (metric_High.calls a0 a1 a2 t250 _ A82.out).mono ?_); rintro e w90 ⟨rfl, hb⟩; have n0_ := Aside0.mk (below_step (by repeat (first | (with_reducible first | exact HB.out | apply below_alloc | apply pw_below_drewN | apply below_drew1) | exact HB.out)) hb); clear HB; have HB := n0_; clear n0_; (try clear hb); (try clear hb2); (try clear hk); (try clear hi)) | (go_at_call 16; (with_reducible refine (metric_High.calls a0 a1 a3 t251 _ A84.out).mono ?_); rintro e w91 ⟨rfl, hb⟩; have n0_ := Aside0.mk (below_step (by repeat (first | (with_reducible first | exact HB.out | apply below_alloc | apply pw_below_drewN | apply below_drew1) | exact HB.out)) hb); clear HB; have HB := n0_; clear n0_; (try clear hb); (try clear hb2); (try clear hk); (try clear hi)))
                        go_ret
                        exact ⟨by first | rfl | (simp [errW_none, errW_some] <;> rfl) | (simp only [← hji35, ← hji36]; first | rfl | (simp [errW_none, errW_some] <;> rfl)) | (simp [*, errW_none, errW_some] <;> rfl), by repeat (first | (with_reducible first | exact HB.out | apply below_alloc | apply pw_below_drewN | apply below_drew1) | exact HB.out)⟩
                      · rw [if_neg c83] at H
                        have c83b0 : decide (t250 ≤ t246) = false := decide_eq_false c83
                        clear c83
                        obtain rfl := Option.some.inj H
                        go_wp2_with (first | ((with_reducible refine gate_callee (f := 20) rfl ?_); refine goesL_ (some 107) rfl rfl Try.func20 (by kernel_rfl) rfl #[.int .i64 a0, .int .i64 ji35, .int .i64 ji36, .int .i64 a1] rfl (by (try simp only [List.map_toArray, List.map_cons, List.map_nil]); first | done | (simp only [hji35, hji36]; rfl) | rfl | (simp only [List.length_drop, List.length_take]; rfl)) ?_; (with_reducible refine (metric_Gap.calls a0 ji35 ji36 a1 t245 _ A74.out).mono ?_); rintro e w92 ⟨rfl, hb⟩; refine ⟨_, rfl, ?_⟩; have n0_ := Aside0.mk (below_step (by repeat (first | (with_reducible first | exact HB.out | apply below_alloc | apply pw_below_drewN | apply below_drew1) | exact HB.out)) hb); clear HB; have HB := n0_; clear n0_; (try clear hb); (try clear hb2); (try clear hk); (try clear hi)) | ((with_reducible refine gate_callee (f := 22) rfl ?_); refine goesL_ (some 112) rfl rfl Try.func22 (by kernel_rfl) rfl #[.int .i64 a0, .int .i64 ji35, .int .i64 ji36, .int .i64 a1] rfl (by (try simp only [List.map_toArray, List.map_cons, List.map_nil]); first | done | (simp only [hji35, hji36]; rfl) | rfl | (simp only [List.length_drop, List.length_take]; rfl)) ?_; (with_reducible refine (metric_Reach.calls a0 ji35 ji36 a1 t246 _ A75.out).mono ?_); rintro e w93 ⟨rfl, hb⟩; refine ⟨_, rfl, ?_⟩; have n0_ := Aside0.mk (below_step (by repeat (first | (with_reducible first | exact HB.out | apply below_alloc | apply pw_below_drewN | apply below_drew1) | exact HB.out)) hb); clear HB; have HB := n0_; clear n0_; (try clear hb); (try clear hb2); (try clear hk); (try clear hi)) | ((with_reducible refine gate_callee (f := 11) rfl ?_); refine goesL_ (some 113) rfl rfl Try.func11 (by kernel_rfl) rfl #[] rfl (by (try simp only [List.map_toArray, List.map_cons, List.map_nil]); first | done | rfl | (simp only [List.length_drop, List.length_take]; rfl)) ?_; (with_reducible refine (antiquarylaw05_sanity.calls kj36  true _ A76.out).mono ?_); rintro e w94 ⟨rfl, hb⟩; refine ⟨_, rfl, ?_⟩; have n0_ := Aside0.mk (below_step (by repeat (first | (with_reducible first | exact HB.out | apply below_alloc | apply pw_below_drewN | apply below_drew1) | exact HB.out)) hb); clear HB; have HB := n0_; clear n0_; (try clear hb); (try clear hb2); (try clear hk); (try clear hi)) | (go_at_call 14; (with_reducible refine (metric_Low.calls a0 a1 a2 t248 _ A78.out).mono ?_); rintro e w95 ⟨rfl, hb⟩; have n0_ := Aside0.mk (below_step (by repeat (first | (with_reducible first | exact HB.out | apply below_alloc | apply pw_below_drewN | apply below_drew1) | exact HB.out)) hb); clear HB; have HB := n0_; clear n0_; (try clear hb); (try clear hb2); (try clear hk); (try clear hi)) | (go_at_call 14; (with_reducible refine (metric_Low.calls a0 a1 a3 t249 _ A80.out).mono ?_); rintro e w96 ⟨rfl, hb⟩; have n0_ := Aside0.mk (below_step (by repeat (first | (with_reducible first | exact HB.out | apply below_alloc | apply pw_below_drewN | apply below_drew1) | exact HB.out)) hb); clear HB; have HB := n0_; clear n0_; (try clear hb); (try clear hb2); (try clear hk); (try clear hi)) | (go_at_call 16; (with_reducible refine (metric_High.calls a0 a1 a2 t250 _ A82.out).mono ?_); rintro e w97 ⟨rfl, hb⟩; have n0_ := Aside0.mk (below_step (by repeat (first | (with_reducible first | exact HB.out | apply below_alloc | apply pw_below_drewN | apply below_drew1) | exact HB.out)) hb); clear HB; have HB := n0_; clear n0_; (try clear hb); (try clear hb2); (try clear hk); (try clear hi)))
                        go_ret
                        exact ⟨by first | rfl | (simp [errW_none, errW_some] <;> rfl) | (simp only [← hji35, ← hji36]; first | rfl | (simp [errW_none, errW_some] <;> rfl)) | (simp [*, errW_none, errW_some] <;> rfl), by repeat (first | (with_reducible first | exact HB.out | apply below_alloc | apply pw_below_drewN | apply below_drew1) | exact HB.out)⟩
                    · rw [if_neg c81] at H
                      have c81b0 : decide (t245 ≤ t249) = false := decide_eq_false c81
                      clear c81
                      obtain rfl := Option.some.inj H
                      go_wp2_with (first | ((with_reducible refine gate_callee (f := 20) rfl ?_); refine goesL_ (some 107) rfl rfl Try.func20 (by kernel_rfl) rfl #[.int .i64 a0, .int .i64 ji35, .int .i64 ji36, .int .i64 a1] rfl (by (try simp only [List.map_toArray, List.map_cons, List.map_nil]); first | done | (simp only [hji35, hji36]; rfl) | rfl | (simp only [List.length_drop, List.length_take]; rfl)) ?_; (with_reducible refine (metric_Gap.calls a0 ji35 ji36 a1 t245 _ A74.out).mono ?_); rintro e w98 ⟨rfl, hb⟩; refine ⟨_, rfl, ?_⟩; have n0_ := Aside0.mk (below_step (by repeat (first | (with_reducible first | exact HB.out | apply below_alloc | apply pw_below_drewN | apply below_drew1) | exact HB.out)) hb); clear HB; have HB := n0_; clear n0_; (try clear hb); (try clear hb2); (try clear hk); (try clear hi)) | ((with_reducible refine gate_callee (f := 22) rfl ?_); refine goesL_ (some 112) rfl rfl Try.func22 (by kernel_rfl) rfl #[.int .i64 a0, .int .i64 ji35, .int .i64 ji36, .int .i64 a1] rfl (by (try simp only [List.map_toArray, List.map_cons, List.map_nil]); first | done | (simp only [hji35, hji36]; rfl) | rfl | (simp only [List.length_drop, List.length_take]; rfl)) ?_; (with_reducible refine (metric_Reach.calls a0 ji35 ji36 a1 t246 _ A75.out).mono ?_); rintro e w99 ⟨rfl, hb⟩; refine ⟨_, rfl, ?_⟩; have n0_ := Aside0.mk (below_step (by repeat (first | (with_reducible first | exact HB.out | apply below_alloc | apply pw_below_drewN | apply below_drew1) | exact HB.out)) hb); clear HB; have HB := n0_; clear n0_; (try clear hb); (try clear hb2); (try clear hk); (try clear hi)) | ((with_reducible refine gate_callee (f := 11) rfl ?_); refine goesL_ (some 113) rfl rfl Try.func11 (by kernel_rfl) rfl #[] rfl (by (try simp only [List.map_toArray, List.map_cons, List.map_nil]); first | done | rfl | (simp only [List.length_drop, List.length_take]; rfl)) ?_; (with_reducible refine (antiquarylaw05_sanity.calls kj36  true _ A76.out).mono ?_); rintro e w100 ⟨rfl, hb⟩; refine ⟨_, rfl, ?_⟩; have n0_ := Aside0.mk (below_step (by repeat (first | (with_reducible first | exact HB.out | apply below_alloc | apply pw_below_drewN | apply below_drew1) | exact HB.out)) hb); clear HB; have HB := n0_; clear n0_; (try clear hb); (try clear hb2); (try clear hk); (try clear hi)) | (go_at_call 14; (with_reducible refine (metric_Low.calls a0 a1 a2 t248 _ A78.out).mono ?_); rintro e w101 ⟨rfl, hb⟩; have n0_ := Aside0.mk (below_step (by repeat (first | (with_reducible first | exact HB.out | apply below_alloc | apply pw_below_drewN | apply below_drew1) | exact HB.out)) hb); clear HB; have HB := n0_; clear n0_; (try clear hb); (try clear hb2); (try clear hk); (try clear hi)) | (go_at_call 14; (with_reducible refine (metric_Low.calls a0 a1 a3 t249 _ A80.out).mono ?_); rintro e w102 ⟨rfl, hb⟩; have n0_ := Aside0.mk (below_step (by repeat (first | (with_reducible first | exact HB.out | apply below_alloc | apply pw_below_drewN | apply below_drew1) | exact HB.out)) hb); clear HB; have HB := n0_; clear n0_; (try clear hb); (try clear hb2); (try clear hk); (try clear hi)))
                      go_ret
                      exact ⟨by first | rfl | (simp [errW_none, errW_some] <;> rfl) | (simp only [← hji35, ← hji36]; first | rfl | (simp [errW_none, errW_some] <;> rfl)) | (simp [*, errW_none, errW_some] <;> rfl), by repeat (first | (with_reducible first | exact HB.out | apply below_alloc | apply pw_below_drewN | apply below_drew1) | exact HB.out)⟩
                  · rw [if_neg c79] at H
                    have c79b0 : decide (t245 ≤ t248) = false := decide_eq_false c79
                    clear c79
                    obtain rfl := Option.some.inj H
                    go_wp2_with (first | ((with_reducible refine gate_callee (f := 20) rfl ?_); refine goesL_ (some 107) rfl rfl Try.func20 (by kernel_rfl) rfl #[.int .i64 a0, .int .i64 ji35, .int .i64 ji36, .int .i64 a1] rfl (by (try simp only [List.map_toArray, List.map_cons, List.map_nil]); first | done | (simp only [hji35, hji36]; rfl) | rfl | (simp only [List.length_drop, List.length_take]; rfl)) ?_; (with_reducible refine (metric_Gap.calls a0 ji35 ji36 a1 t245 _ A74.out).mono ?_); rintro e w103 ⟨rfl, hb⟩; refine ⟨_, rfl, ?_⟩; have n0_ := Aside0.mk (below_step (by repeat (first | (with_reducible first | exact HB.out | apply below_alloc | apply pw_below_drewN | apply below_drew1) | exact HB.out)) hb); clear HB; have HB := n0_; clear n0_; (try clear hb); (try clear hb2); (try clear hk); (try clear hi)) | ((with_reducible refine gate_callee (f := 22) rfl ?_); refine goesL_ (some 112) rfl rfl Try.func22 (by kernel_rfl) rfl #[.int .i64 a0, .int .i64 ji35, .int .i64 ji36, .int .i64 a1] rfl (by (try simp only [List.map_toArray, List.map_cons, List.map_nil]); first | done | (simp only [hji35, hji36]; rfl) | rfl | (simp only [List.length_drop, List.length_take]; rfl)) ?_; (with_reducible refine (metric_Reach.calls a0 ji35 ji36 a1 t246 _ A75.out).mono ?_); rintro e w104 ⟨rfl, hb⟩; refine ⟨_, rfl, ?_⟩; have n0_ := Aside0.mk (below_step (by repeat (first | (with_reducible first | exact HB.out | apply below_alloc | apply pw_below_drewN | apply below_drew1) | exact HB.out)) hb); clear HB; have HB := n0_; clear n0_; (try clear hb); (try clear hb2); (try clear hk); (try clear hi)) | ((with_reducible refine gate_callee (f := 11) rfl ?_); refine goesL_ (some 113) rfl rfl Try.func11 (by kernel_rfl) rfl #[] rfl (by (try simp only [List.map_toArray, List.map_cons, List.map_nil]); first | done | rfl | (simp only [List.length_drop, List.length_take]; rfl)) ?_; (with_reducible refine (antiquarylaw05_sanity.calls kj36  true _ A76.out).mono ?_); rintro e w105 ⟨rfl, hb⟩; refine ⟨_, rfl, ?_⟩; have n0_ := Aside0.mk (below_step (by repeat (first | (with_reducible first | exact HB.out | apply below_alloc | apply pw_below_drewN | apply below_drew1) | exact HB.out)) hb); clear HB; have HB := n0_; clear n0_; (try clear hb); (try clear hb2); (try clear hk); (try clear hi)) | (go_at_call 14; (with_reducible refine (metric_Low.calls a0 a1 a2 t248 _ A78.out).mono ?_); rintro e w106 ⟨rfl, hb⟩; have n0_ := Aside0.mk (below_step (by repeat (first | (with_reducible first | exact HB.out | apply below_alloc | apply pw_below_drewN | apply below_drew1) | exact HB.out)) hb); clear HB; have HB := n0_; clear n0_; (try clear hb); (try clear hb2); (try clear hk); (try clear hi)))
                    go_ret
                    exact ⟨by first | rfl | (simp [errW_none, errW_some] <;> rfl) | (simp only [← hji35, ← hji36]; first | rfl | (simp [errW_none, errW_some] <;> rfl)) | (simp [*, errW_none, errW_some] <;> rfl), by repeat (first | (with_reducible first | exact HB.out | apply below_alloc | apply pw_below_drewN | apply below_drew1) | exact HB.out)⟩
                · replace c77 := Bool.eq_false_iff.mpr c77
                  subst c77
                  have H1 : (some false) = some r := by rw [if_neg (show ¬ (false = true) by decide)] at H; exact H
                  clear H
                  have H := H1
                  clear H1
                  obtain rfl := Option.some.inj H
                  go_wp2_with (first | ((with_reducible refine gate_callee (f := 20) rfl ?_); refine goesL_ (some 107) rfl rfl Try.func20 (by kernel_rfl) rfl #[.int .i64 a0, .int .i64 ji35, .int .i64 ji36, .int .i64 a1] rfl (by (try simp only [List.map_toArray, List.map_cons, List.map_nil]); first | done | (simp only [hji35, hji36]; rfl) | rfl | (simp only [List.length_drop, List.length_take]; rfl)) ?_; (with_reducible refine (metric_Gap.calls a0 ji35 ji36 a1 t245 _ A74.out).mono ?_); rintro e w107 ⟨rfl, hb⟩; refine ⟨_, rfl, ?_⟩; have n0_ := Aside0.mk (below_step (by repeat (first | (with_reducible first | exact HB.out | apply below_alloc | apply pw_below_drewN | apply below_drew1) | exact HB.out)) hb); clear HB; have HB := n0_; clear n0_; (try clear hb); (try clear hb2); (try clear hk); (try clear hi)) | ((with_reducible refine gate_callee (f := 22) rfl ?_); refine goesL_ (some 112) rfl rfl Try.func22 (by kernel_rfl) rfl #[.int .i64 a0, .int .i64 ji35, .int .i64 ji36, .int .i64 a1] rfl (by (try simp only [List.map_toArray, List.map_cons, List.map_nil]); first | done | (simp only [hji35, hji36]; rfl) | rfl | (simp only [List.length_drop, List.length_take]; rfl)) ?_; (with_reducible refine (metric_Reach.calls a0 ji35 ji36 a1 t246 _ A75.out).mono ?_); rintro e w108 ⟨rfl, hb⟩; refine ⟨_, rfl, ?_⟩; have n0_ := Aside0.mk (below_step (by repeat (first | (with_reducible first | exact HB.out | apply below_alloc | apply pw_below_drewN | apply below_drew1) | exact HB.out)) hb); clear HB; have HB := n0_; clear n0_; (try clear hb); (try clear hb2); (try clear hk); (try clear hi)) | ((with_reducible refine gate_callee (f := 11) rfl ?_); refine goesL_ (some 113) rfl rfl Try.func11 (by kernel_rfl) rfl #[] rfl (by (try simp only [List.map_toArray, List.map_cons, List.map_nil]); first | done | rfl | (simp only [List.length_drop, List.length_take]; rfl)) ?_; (with_reducible refine (antiquarylaw05_sanity.calls kj36  false _ A76.out).mono ?_); rintro e w109 ⟨rfl, hb⟩; refine ⟨_, rfl, ?_⟩; have n0_ := Aside0.mk (below_step (by repeat (first | (with_reducible first | exact HB.out | apply below_alloc | apply pw_below_drewN | apply below_drew1) | exact HB.out)) hb); clear HB; have HB := n0_; clear n0_; (try clear hb); (try clear hb2); (try clear hk); (try clear hi)))
                  go_ret
                  exact ⟨by first | rfl | (simp [errW_none, errW_some] <;> rfl) | (simp only [← hji35, ← hji36]; first | rfl | (simp [errW_none, errW_some] <;> rfl)) | (simp [*, errW_none, errW_some] <;> rfl), by repeat (first | (with_reducible first | exact HB.out | apply below_alloc | apply pw_below_drewN | apply below_drew1) | exact HB.out)⟩
  · replace c6 := Bool.eq_false_iff.mpr c6
    subst c6
    have H1 : ((antiquarylaw05_sanity.f k).bind fun t230 => (some t230)) = some r := by rw [if_neg (show ¬ (false = true) by decide)] at H; exact H
    clear H
    have H := H1
    clear H1
    replace H := Option.bind_eq_some_iff.mp H
    obtain ⟨t230, A1100, H⟩ := H
    replace H : (some t230) = some r := H
    have A110 := Aside0.mk A1100
    clear A1100
    obtain rfl := Option.some.inj H
    go_enter Try.func7, Try.ntmps7
    go_wp2_with (first | ((with_reducible refine gate_callee (f := 10) rfl ?_); refine goesL_ (some 18) rfl rfl Try.func10 (by kernel_rfl) rfl #[.int .i64 a0, .int .i64 a1, .int .i64 a2, .int .i64 a3] rfl (by (try simp only [List.map_toArray, List.map_cons, List.map_nil]); first | done | rfl | (simp only [List.length_drop, List.length_take]; rfl)) ?_; (with_reducible refine (antiquarylaw05_keys.calls a0 a1 a2 a3 false _ A5.out).mono ?_); rintro e w' ⟨rfl, ⟨nd, rfl⟩⟩; refine ⟨_, rfl, ?_⟩) | ((with_reducible refine gate_callee (f := 11) rfl ?_); refine goesL_ (some 21) rfl rfl Try.func11 (by kernel_rfl) rfl #[] rfl (by (try simp only [List.map_toArray, List.map_cons, List.map_nil]); first | done | rfl | (simp only [List.length_drop, List.length_take]; rfl)) ?_; (with_reducible refine (antiquarylaw05_sanity.calls k  t230 _ A110.out).mono ?_); rintro e w111 ⟨rfl, hb⟩; refine ⟨_, rfl, ?_⟩; have n0_ := Aside0.mk (below_step (by repeat (first | (with_reducible first | exact HB.out | apply below_alloc | apply pw_below_drewN | apply below_drew1) | exact HB.out)) hb); clear HB; have HB := n0_; clear n0_; (try clear hb); (try clear hb2); (try clear hk); (try clear hi)))
    go_ret
    exact ⟨by first | rfl | (simp [errW_none, errW_some] <;> rfl) | (simp [*, errW_none, errW_some] <;> rfl), by repeat (first | (with_reducible first | exact HB.out | apply below_alloc | apply pw_below_drewN | apply below_drew1) | exact HB.out)⟩

/-- THE ONE PURE STATEMENT of antiquarylaw05_MetricIsMonotone: yours. -/
def antiquarylaw05_MetricIsMonotone.Pure : Prop := ∀ (a0 : Int) (a1 : Int) (a2 : Int) (a3 : Int), (Lit.int .i64 a0).wf = true → (Lit.int .i64 a1).wf = true → (Lit.int .i64 a2).wf = true → (Lit.int .i64 a3).wf = true → ∃ k, antiquarylaw05_MetricIsMonotone.f k a0 a1 a2 a3 = some true
theorem antiquarylaw05_MetricIsMonotone.walk (P : antiquarylaw05_MetricIsMonotone.Pure) (a0 : Int) (a1 : Int) (a2 : Int) (a3 : Int) (w : World) (w0 : (Lit.int .i64 a0).wf = true) (w1 : (Lit.int .i64 a1).wf = true) (w2 : (Lit.int .i64 a2).wf = true) (w3 : (Lit.int .i64 a3).wf = true) :
    Calls Try.prog 7 #[.int .i64 a0, .int .i64 a1, .int .i64 a2, .int .i64 a3] w fun e w' => e = .returned (.bool true) ∧ Below w.heap.size w w' := by
  obtain ⟨k, h⟩ := P a0 a1 a2 a3 w0 w1 w2 w3
  refine (antiquarylaw05_MetricIsMonotone.calls k a0 a1 a2 a3 true w h).mono ?_
  rintro e w' ⟨rfl, hd⟩
  exact ⟨rfl, hd⟩

/-! ### antiquarylaw05_MetricBallsMeet: function 8 -/
mutual
def antiquarylaw05_MetricBallsMeet.j0 : Nat → Int → List Int → List Int → List Int → Int → Int → Bool → Option (Bool)
  | 0, _, _, _, _, _, _, _ => none
  | k + 1, x0, x1, x2, x3, x4, x5, x36 => if x36 = true then ((antiquarylaw05_sanity.f k).bind fun t255 => (some t255)) else ((antiquaryref04_Key.f k x0 x1 x2).bind fun t256 => ((antiquaryref04_Key.f k x0 x1 x3).bind fun t257 => ((antiquaryref04_Key.f k x0 x2 x3).bind fun t258 => (if t257 ≤ x4 then (antiquarylaw05_MetricBallsMeet.j1 k x0 x4 x5 t256 (decide (t258 ≤ x5))) else (antiquarylaw05_MetricBallsMeet.j1 k x0 x4 x5 t256 false)))))
def antiquarylaw05_MetricBallsMeet.j1 : Nat → Int → Int → Int → Int → Bool → Option (Bool)
  | 0, _, _, _, _, _ => none
  | k + 1, x0, x4, x5, x15, x57 => if x57 = true then ((antiquarylaw05_sanity.f k).bind fun t259 => (if t259 = true then ((metric_Ball.f x0 x15 x4 x5).bind fun t260 => (some t260)) else (some false))) else ((antiquarylaw05_sanity.f k).bind fun t261 => (if t261 = true then ((metric_Ball.f x0 x15 x4 x5).bind fun t262 => ((metric_High.f x0 x4 x5).bind fun t263 => (some (t262 == (decide (x15 ≤ t263)))))) else (some false)))
end
def antiquarylaw05_MetricBallsMeet.f (k : Nat) (a0 : Int) (l1 : List Int) (l2 : List Int) (l3 : List Int) (a4 : Int) (a5 : Int) : Option (Bool) := (antiquaryref04_Alike.f k l1 l2).bind fun t252 => ((antiquaryref04_Alike.f k l2 l3).bind fun t253 => (if t252 = true then (if t253 = true then ((antiquarylaw05_keys.f a0 a4 a5 0).bind fun t254 => (antiquarylaw05_MetricBallsMeet.j0 k a0 l1 l2 l3 a4 a5 (!t254))) else (antiquarylaw05_MetricBallsMeet.j0 k a0 l1 l2 l3 a4 a5 true)) else (antiquarylaw05_MetricBallsMeet.j0 k a0 l1 l2 l3 a4 a5 true)))
theorem antiquarylaw05_MetricBallsMeet.mono_l : ∀ k, (∀ y0 y1 y2 y3 y4 y5 y6, LeO (antiquarylaw05_MetricBallsMeet.j0 k y0 y1 y2 y3 y4 y5 y6) (antiquarylaw05_MetricBallsMeet.j0 (k + 1) y0 y1 y2 y3 y4 y5 y6)) ∧ (∀ y0 y1 y2 y3 y4, LeO (antiquarylaw05_MetricBallsMeet.j1 k y0 y1 y2 y3 y4) (antiquarylaw05_MetricBallsMeet.j1 (k + 1) y0 y1 y2 y3 y4))
  | 0 => ⟨fun _ _ _ _ _ _ _ r h => by simp [antiquarylaw05_MetricBallsMeet.j0] at h, fun _ _ _ _ _ r h => by simp [antiquarylaw05_MetricBallsMeet.j1] at h⟩
  | k + 1 => by
    obtain ⟨ih0, ih1⟩ := antiquarylaw05_MetricBallsMeet.mono_l k
    refine ⟨?_, ?_⟩
    · intro y0 y1 y2 y3 y4 y5 y6
      unfold antiquarylaw05_MetricBallsMeet.j0
      repeat' first
      | (with_reducible exact ih0 _ _ _ _ _ _ _)
      | (with_reducible exact ih1 _ _ _ _ _)
      | (with_reducible exact antiquarylaw05_sanity.mono _)
      | (with_reducible exact antiquaryref04_Alike.mono _ _ _)
      | (with_reducible exact antiquaryref04_Key.mono _ _ _ _)
      | (with_reducible exact LeO.refl _)
      | (with_reducible exact LeO.none _)
      | (with_reducible refine LeO.ite ?_ ?_)
      | (with_reducible refine LeO.bind ?_ (fun _ => ?_))
      | exact ih0 _ _ _ _ _ _ _
      | exact ih1 _ _ _ _ _
      | exact antiquarylaw05_sanity.mono _
      | exact antiquaryref04_Alike.mono _ _ _
      | exact antiquaryref04_Key.mono _ _ _ _
      | exact LeO.none _
      | refine LeO.ite ?_ ?_
      | refine LeO.bind ?_ (fun _ => ?_)
    · intro y0 y1 y2 y3 y4
      unfold antiquarylaw05_MetricBallsMeet.j1
      repeat' first
      | (with_reducible exact ih0 _ _ _ _ _ _ _)
      | (with_reducible exact ih1 _ _ _ _ _)
      | (with_reducible exact antiquarylaw05_sanity.mono _)
      | (with_reducible exact antiquaryref04_Alike.mono _ _ _)
      | (with_reducible exact antiquaryref04_Key.mono _ _ _ _)
      | (with_reducible exact LeO.refl _)
      | (with_reducible exact LeO.none _)
      | (with_reducible refine LeO.ite ?_ ?_)
      | (with_reducible refine LeO.bind ?_ (fun _ => ?_))
      | exact ih0 _ _ _ _ _ _ _
      | exact ih1 _ _ _ _ _
      | exact antiquarylaw05_sanity.mono _
      | exact antiquaryref04_Alike.mono _ _ _
      | exact antiquaryref04_Key.mono _ _ _ _
      | exact LeO.none _
      | refine LeO.ite ?_ ?_
      | refine LeO.bind ?_ (fun _ => ?_)
theorem antiquarylaw05_MetricBallsMeet.mono : ∀ a0 a1 a2 a3 a4 a5 k, LeO (antiquarylaw05_MetricBallsMeet.f k a0 a1 a2 a3 a4 a5) (antiquarylaw05_MetricBallsMeet.f (k + 1) a0 a1 a2 a3 a4 a5) := by
  intro a0 a1 a2 a3 a4 a5 k
  obtain ⟨ih0, ih1⟩ := antiquarylaw05_MetricBallsMeet.mono_l k
  unfold antiquarylaw05_MetricBallsMeet.f
  repeat' first
      | (with_reducible exact ih0 _ _ _ _ _ _ _)
      | (with_reducible exact ih1 _ _ _ _ _)
      | (with_reducible exact antiquarylaw05_sanity.mono _)
      | (with_reducible exact antiquaryref04_Alike.mono _ _ _)
      | (with_reducible exact antiquaryref04_Key.mono _ _ _ _)
      | (with_reducible exact LeO.refl _)
      | (with_reducible exact LeO.none _)
      | (with_reducible refine LeO.ite ?_ ?_)
      | (with_reducible refine LeO.bind ?_ (fun _ => ?_))
      | exact ih0 _ _ _ _ _ _ _
      | exact ih1 _ _ _ _ _
      | exact antiquarylaw05_sanity.mono _
      | exact antiquaryref04_Alike.mono _ _ _
      | exact antiquaryref04_Key.mono _ _ _ _
      | exact LeO.none _
      | refine LeO.ite ?_ ?_
      | refine LeO.bind ?_ (fun _ => ?_)
set_option maxHeartbeats 8000000 in
set_option maxRecDepth 100000 in
theorem antiquarylaw05_MetricBallsMeet.calls (k : Nat) (a0 : Int) (A1 : Option Addr) (c1 : Nat) (l1 : List Int) (A2 : Option Addr) (c2 : Nat) (l2 : List Int) (A3 : Option Addr) (c3 : Nat) (l3 : List Int) (a4 : Int) (a5 : Int) (r : Bool) (w : World) (hr1 : Kd.C (Kd.int .i64) w A1 l1.length l1) (hc1 : l1.length ≤ c1) (hr2 : Kd.C (Kd.int .i64) w A2 l2.length l2) (hc2 : l2.length ≤ c2) (hr3 : Kd.C (Kd.int .i64) w A3 l3.length l3) (hc3 : l3.length ≤ c3) (h : antiquarylaw05_MetricBallsMeet.f k a0 l1 l2 l3 a4 a5 = some r) :
    Calls Try.prog 8 #[.int .i64 a0, .slice A1 l1.length c1, .slice A2 l2.length c2, .slice A3 l3.length c3, .int .i64 a4, .int .i64 a5] w fun e w' => e = .returned (.bool r) ∧ Below w.heap.size w w' := by
  have HR1 := Aside0.mk hr1
  have HC1 := Aside0.mk hc1
  clear hr1 hc1
  have HR2 := Aside0.mk hr2
  have HC2 := Aside0.mk hc2
  clear hr2 hc2
  have HR3 := Aside0.mk hr3
  have HC3 := Aside0.mk hc3
  clear hr3 hc3
  have HB := Aside0.mk (Below.refl w.heap.size w)
  have H : ((antiquaryref04_Alike.f k l1 l2).bind fun t252 => ((antiquaryref04_Alike.f k l2 l3).bind fun t253 => (if t252 = true then (if t253 = true then ((antiquarylaw05_keys.f a0 a4 a5 0).bind fun t254 => (antiquarylaw05_MetricBallsMeet.j0 k a0 l1 l2 l3 a4 a5 (!t254))) else (antiquarylaw05_MetricBallsMeet.j0 k a0 l1 l2 l3 a4 a5 true)) else (antiquarylaw05_MetricBallsMeet.j0 k a0 l1 l2 l3 a4 a5 true)))) = some r := h
  clear h
  replace H := Option.bind_eq_some_iff.mp H
  obtain ⟨t252, A70, H⟩ := H
  replace H : ((antiquaryref04_Alike.f k l2 l3).bind fun t253 => (if t252 = true then (if t253 = true then ((antiquarylaw05_keys.f a0 a4 a5 0).bind fun t254 => (antiquarylaw05_MetricBallsMeet.j0 k a0 l1 l2 l3 a4 a5 (!t254))) else (antiquarylaw05_MetricBallsMeet.j0 k a0 l1 l2 l3 a4 a5 true)) else (antiquarylaw05_MetricBallsMeet.j0 k a0 l1 l2 l3 a4 a5 true))) = some r := H
  have A7 := Aside0.mk A70
  clear A70
  replace H := Option.bind_eq_some_iff.mp H
  obtain ⟨t253, A80, H⟩ := H
  replace H : (if t252 = true then (if t253 = true then ((antiquarylaw05_keys.f a0 a4 a5 0).bind fun t254 => (antiquarylaw05_MetricBallsMeet.j0 k a0 l1 l2 l3 a4 a5 (!t254))) else (antiquarylaw05_MetricBallsMeet.j0 k a0 l1 l2 l3 a4 a5 true)) else (antiquarylaw05_MetricBallsMeet.j0 k a0 l1 l2 l3 a4 a5 true)) = some r := H
  have A8 := Aside0.mk A80
  clear A80
  have HC9 := Aside0.mk H
  clear H
  go_enter Try.func8, Try.ntmps8
  go_upto_region 3 with (first | ((with_reducible refine gate_callee (f := 26) rfl ?_); refine goesL_ (some 20) rfl rfl Try.func26 (by kernel_rfl) rfl #[.slice A1 l1.length c1, .slice A2 l2.length c2] rfl (by (try simp only [List.map_toArray, List.map_cons, List.map_nil]); first | done | rfl | (simp only [List.length_drop, List.length_take]; rfl)) ?_; (with_reducible refine (antiquaryref04_Alike.calls k _ _ l1 _ _ l2 t252 _ ?side1 ?side2 ?side3 ?side4 A7.out).mono ?_); (case side1 => repeat (first | exact HR1.out | (with_reducible refine Kd.C_alloc ?_ _) | (with_reducible refine Kd.C_drewN ?_ _) | (with_reducible refine Kd.C_drew ?_))); (case side2 => exact HC1.out); (case side3 => repeat (first | exact HR2.out | (with_reducible refine Kd.C_alloc ?_ _) | (with_reducible refine Kd.C_drewN ?_ _) | (with_reducible refine Kd.C_drew ?_))); (case side4 => exact HC2.out); rintro e w' ⟨rfl, ⟨nd, rfl⟩⟩; refine ⟨_, rfl, ?_⟩) | ((with_reducible refine gate_callee (f := 26) rfl ?_); refine goesL_ (some 23) rfl rfl Try.func26 (by kernel_rfl) rfl #[.slice A2 l2.length c2, .slice A3 l3.length c3] rfl (by (try simp only [List.map_toArray, List.map_cons, List.map_nil]); first | done | rfl | (simp only [List.length_drop, List.length_take]; rfl)) ?_; (with_reducible refine (antiquaryref04_Alike.calls k _ _ l2 _ _ l3 t253 _ ?side1 ?side2 ?side3 ?side4 A8.out).mono ?_); (case side1 => repeat (first | exact HR2.out | (with_reducible refine Kd.C_alloc ?_ _) | (with_reducible refine Kd.C_drewN ?_ _) | (with_reducible refine Kd.C_drew ?_))); (case side2 => exact HC2.out); (case side3 => repeat (first | exact HR3.out | (with_reducible refine Kd.C_alloc ?_ _) | (with_reducible refine Kd.C_drewN ?_ _) | (with_reducible refine Kd.C_drew ?_))); (case side4 => exact HC3.out); rintro e w' ⟨rfl, ⟨nd, rfl⟩⟩; refine ⟨_, rfl, ?_⟩))
  (try simp only [Act.put, List.setIfInBounds_toArray, List.set_cons_zero, List.set_cons_succ])
  go_cut [36] (fun v36 wc => ∃ (kq : Nat) (x36_8 : Bool), v36 = .bool x36_8 ∧ Aside0 (antiquarylaw05_MetricBallsMeet.j0 kq a0 l1 l2 l3 a4 a5 x36_8 = some r) ∧ Aside0 (kq ≤ k) ∧ Aside0 (Below w.heap.size w wc))
  case first =>
    have H := HC9.out
    clear HC9
    by_cases c10 : t252 = true
    · subst c10
      have H1 : (if t253 = true then ((antiquarylaw05_keys.f a0 a4 a5 0).bind fun t254 => (antiquarylaw05_MetricBallsMeet.j0 k a0 l1 l2 l3 a4 a5 (!t254))) else (antiquarylaw05_MetricBallsMeet.j0 k a0 l1 l2 l3 a4 a5 true)) = some r := by rw [if_pos rfl] at H; exact H
      clear H
      have H := H1
      clear H1
      by_cases c11 : t253 = true
      · subst c11
        have H1 : ((antiquarylaw05_keys.f a0 a4 a5 0).bind fun t254 => (antiquarylaw05_MetricBallsMeet.j0 k a0 l1 l2 l3 a4 a5 (!t254))) = some r := by rw [if_pos rfl] at H; exact H
        clear H
        have H := H1
        clear H1
        replace H := Option.bind_eq_some_iff.mp H
        obtain ⟨t254, A120, H⟩ := H
        replace H : (antiquarylaw05_MetricBallsMeet.j0 k a0 l1 l2 l3 a4 a5 (!t254)) = some r := H
        have A12 := Aside0.mk A120
        clear A120
        have H' := Aside0.mk H
        clear H
        go_wp2_with (first | (go_at_call 10; (with_reducible refine (antiquarylaw05_keys.calls a0 a4 a5 0 t254 _ A12.out).mono ?_); rintro e w' ⟨rfl, ⟨nd, rfl⟩⟩))
        go_meet
        case rel => exact ⟨_, (!t254), (by first | rfl | (simp; done) | (simp [*]; done)), H', ⟨by first | omega | exact Nat.le_refl _⟩, ⟨by repeat (first | (with_reducible first | exact HB.out | apply below_alloc | apply pw_below_drewN | apply below_drew1) | exact HB.out)⟩⟩
      · replace c11 := Bool.eq_false_iff.mpr c11
        subst c11
        have H1 : (antiquarylaw05_MetricBallsMeet.j0 k a0 l1 l2 l3 a4 a5 true) = some r := by rw [if_neg (show ¬ (false = true) by decide)] at H; exact H
        clear H
        have H := H1
        clear H1
        have H' := Aside0.mk H
        clear H
        go_wp2
        go_meet
        case rel => exact ⟨_, (true), (by first | rfl | (simp; done) | (simp [*]; done)), H', ⟨by first | omega | exact Nat.le_refl _⟩, ⟨by repeat (first | (with_reducible first | exact HB.out | apply below_alloc | apply pw_below_drewN | apply below_drew1) | exact HB.out)⟩⟩
    · replace c10 := Bool.eq_false_iff.mpr c10
      subst c10
      have H1 : (antiquarylaw05_MetricBallsMeet.j0 k a0 l1 l2 l3 a4 a5 true) = some r := by rw [if_neg (show ¬ (false = true) by decide)] at H; exact H
      clear H
      have H := H1
      clear H1
      have H' := Aside0.mk H
      clear H
      go_wp2
      go_meet
      case rel => exact ⟨_, (true), (by first | rfl | (simp; done) | (simp [*]; done)), H', ⟨by first | omega | exact Nat.le_refl _⟩, ⟨by repeat (first | (with_reducible first | exact HB.out | apply below_alloc | apply pw_below_drewN | apply below_drew1) | exact HB.out)⟩⟩
  case rest =>
    clear HC9
    try clear c1
    try clear c2
    try clear p2
    try clear c3
    try clear c8
    try clear c10
    try clear c11
    obtain ⟨kq, x36_8, rfl, HA, HJ8, HB⟩ := hcut
    cases kq with
    | zero => exact absurd HA.out (by simp [antiquarylaw05_MetricBallsMeet.j0])
    | succ kj8 =>
      have H := HA.out
      clear HA
      simp only [antiquarylaw05_MetricBallsMeet.j0] at H
      by_cases c13 : x36_8 = true
      · subst c13
        have H1 : ((antiquarylaw05_sanity.f kj8).bind fun t255 => (some t255)) = some r := by rw [if_pos rfl] at H; exact H
        clear H
        have H := H1
        clear H1
        replace H := Option.bind_eq_some_iff.mp H
        obtain ⟨t255, A140, H⟩ := H
        replace H : (some t255) = some r := H
        have A14 := Aside0.mk A140
        clear A140
        obtain rfl := Option.some.inj H
        go_wp2_with (first | ((with_reducible refine gate_callee (f := 11) rfl ?_); refine goesL_ (some 37) rfl rfl Try.func11 (by kernel_rfl) rfl #[] rfl (by (try simp only [List.map_toArray, List.map_cons, List.map_nil]); first | done | rfl | (simp only [List.length_drop, List.length_take]; rfl)) ?_; (with_reducible refine (antiquarylaw05_sanity.calls kj8  t255 _ A14.out).mono ?_); rintro e w15 ⟨rfl, hb⟩; refine ⟨_, rfl, ?_⟩; have n0_ := Aside0.mk (below_step (by repeat (first | (with_reducible first | exact HB.out | apply below_alloc | apply pw_below_drewN | apply below_drew1) | exact HB.out)) hb); clear HB; have HB := n0_; clear n0_; (try clear hb); (try clear hb2); (try clear hk); (try clear hi)))
        go_ret
        exact ⟨by first | rfl | (simp [errW_none, errW_some] <;> rfl) | (simp [*, errW_none, errW_some] <;> rfl), by repeat (first | (with_reducible first | exact HB.out | apply below_alloc | apply pw_below_drewN | apply below_drew1) | exact HB.out)⟩
      · replace c13 := Bool.eq_false_iff.mpr c13
        subst c13
        have H1 : ((antiquaryref04_Key.f kj8 a0 l1 l2).bind fun t256 => ((antiquaryref04_Key.f kj8 a0 l1 l3).bind fun t257 => ((antiquaryref04_Key.f kj8 a0 l2 l3).bind fun t258 => (if t257 ≤ a4 then (antiquarylaw05_MetricBallsMeet.j1 kj8 a0 a4 a5 t256 (decide (t258 ≤ a5))) else (antiquarylaw05_MetricBallsMeet.j1 kj8 a0 a4 a5 t256 false))))) = some r := by rw [if_neg (show ¬ (false = true) by decide)] at H; exact H
        clear H
        have H := H1
        clear H1
        replace H := Option.bind_eq_some_iff.mp H
        obtain ⟨t256, A160, H⟩ := H
        replace H : ((antiquaryref04_Key.f kj8 a0 l1 l3).bind fun t257 => ((antiquaryref04_Key.f kj8 a0 l2 l3).bind fun t258 => (if t257 ≤ a4 then (antiquarylaw05_MetricBallsMeet.j1 kj8 a0 a4 a5 t256 (decide (t258 ≤ a5))) else (antiquarylaw05_MetricBallsMeet.j1 kj8 a0 a4 a5 t256 false)))) = some r := H
        have A16 := Aside0.mk A160
        clear A160
        replace H := Option.bind_eq_some_iff.mp H
        obtain ⟨t257, A170, H⟩ := H
        replace H : ((antiquaryref04_Key.f kj8 a0 l2 l3).bind fun t258 => (if t257 ≤ a4 then (antiquarylaw05_MetricBallsMeet.j1 kj8 a0 a4 a5 t256 (decide (t258 ≤ a5))) else (antiquarylaw05_MetricBallsMeet.j1 kj8 a0 a4 a5 t256 false))) = some r := H
        have A17 := Aside0.mk A170
        clear A170
        replace H := Option.bind_eq_some_iff.mp H
        obtain ⟨t258, A180, H⟩ := H
        replace H : (if t257 ≤ a4 then (antiquarylaw05_MetricBallsMeet.j1 kj8 a0 a4 a5 t256 (decide (t258 ≤ a5))) else (antiquarylaw05_MetricBallsMeet.j1 kj8 a0 a4 a5 t256 false)) = some r := H
        have A18 := Aside0.mk A180
        clear A180
        have HC19 := Aside0.mk H
        clear H
        go_upto_region 8 with (first | ((with_reducible refine gate_callee (f := 28) rfl ?_); refine goesL_ (some 41) rfl rfl Try.func28 (by kernel_rfl) rfl #[.int .i64 a0, .slice A1 l1.length c1, .slice A2 l2.length c2] rfl (by (try simp only [List.map_toArray, List.map_cons, List.map_nil]); first | done | rfl | (simp only [List.length_drop, List.length_take]; rfl)) ?_; (with_reducible refine (antiquaryref04_Key.calls kj8 a0 _ _ l1 _ _ l2 t256 _ ?side1 ?side2 ?side3 ?side4 A16.out).mono ?_); (case side1 => repeat (first | exact (Kd.C_below HR1.out HB.out) | (with_reducible refine Kd.C_alloc ?_ _) | (with_reducible refine Kd.C_drewN ?_ _) | (with_reducible refine Kd.C_drew ?_))); (case side2 => exact HC1.out); (case side3 => repeat (first | exact (Kd.C_below HR2.out HB.out) | (with_reducible refine Kd.C_alloc ?_ _) | (with_reducible refine Kd.C_drewN ?_ _) | (with_reducible refine Kd.C_drew ?_))); (case side4 => exact HC2.out); rintro e w20 ⟨rfl, hb⟩; refine ⟨_, rfl, ?_⟩; have n0_ := Aside0.mk (below_step (by repeat (first | (with_reducible first | exact HB.out | apply below_alloc | apply pw_below_drewN | apply below_drew1) | exact HB.out)) hb); clear HB; have HB := n0_; clear n0_; (try clear hb); (try clear hb2); (try clear hk); (try clear hi)) | ((with_reducible refine gate_callee (f := 28) rfl ?_); refine goesL_ (some 45) rfl rfl Try.func28 (by kernel_rfl) rfl #[.int .i64 a0, .slice A1 l1.length c1, .slice A3 l3.length c3] rfl (by (try simp only [List.map_toArray, List.map_cons, List.map_nil]); first | done | rfl | (simp only [List.length_drop, List.length_take]; rfl)) ?_; (with_reducible refine (antiquaryref04_Key.calls kj8 a0 _ _ l1 _ _ l3 t257 _ ?side1 ?side2 ?side3 ?side4 A17.out).mono ?_); (case side1 => repeat (first | exact (Kd.C_below HR1.out HB.out) | (with_reducible refine Kd.C_alloc ?_ _) | (with_reducible refine Kd.C_drewN ?_ _) | (with_reducible refine Kd.C_drew ?_))); (case side2 => exact HC1.out); (case side3 => repeat (first | exact (Kd.C_below HR3.out HB.out) | (with_reducible refine Kd.C_alloc ?_ _) | (with_reducible refine Kd.C_drewN ?_ _) | (with_reducible refine Kd.C_drew ?_))); (case side4 => exact HC3.out); rintro e w21 ⟨rfl, hb⟩; refine ⟨_, rfl, ?_⟩; have n0_ := Aside0.mk (below_step (by repeat (first | (with_reducible first | exact HB.out | apply below_alloc | apply pw_below_drewN | apply below_drew1) | exact HB.out)) hb); clear HB; have HB := n0_; clear n0_; (try clear hb); (try clear hb2); (try clear hk); (try clear hi)) | ((with_reducible refine gate_callee (f := 28) rfl ?_); refine goesL_ (some 49) rfl rfl Try.func28 (by kernel_rfl) rfl #[.int .i64 a0, .slice A2 l2.length c2, .slice A3 l3.length c3] rfl (by (try simp only [List.map_toArray, List.map_cons, List.map_nil]); first | done | rfl | (simp only [List.length_drop, List.length_take]; rfl)) ?_; (with_reducible refine (antiquaryref04_Key.calls kj8 a0 _ _ l2 _ _ l3 t258 _ ?side1 ?side2 ?side3 ?side4 A18.out).mono ?_); (case side1 => repeat (first | exact (Kd.C_below HR2.out HB.out) | (with_reducible refine Kd.C_alloc ?_ _) | (with_reducible refine Kd.C_drewN ?_ _) | (with_reducible refine Kd.C_drew ?_))); (case side2 => exact HC2.out); (case side3 => repeat (first | exact (Kd.C_below HR3.out HB.out) | (with_reducible refine Kd.C_alloc ?_ _) | (with_reducible refine Kd.C_drewN ?_ _) | (with_reducible refine Kd.C_drew ?_))); (case side4 => exact HC3.out); rintro e w22 ⟨rfl, hb⟩; refine ⟨_, rfl, ?_⟩; have n0_ := Aside0.mk (below_step (by repeat (first | (with_reducible first | exact HB.out | apply below_alloc | apply pw_below_drewN | apply below_drew1) | exact HB.out)) hb); clear HB; have HB := n0_; clear n0_; (try clear hb); (try clear hb2); (try clear hk); (try clear hi)))
        (try simp only [Act.put, List.setIfInBounds_toArray, List.set_cons_zero, List.set_cons_succ])
        go_cut [57] (fun v57 wc => ∃ (kq : Nat) (x57_18 : Bool), v57 = .bool x57_18 ∧ Aside0 (antiquarylaw05_MetricBallsMeet.j1 kq a0 a4 a5 t256 x57_18 = some r) ∧ Aside0 (kq ≤ kj8) ∧ Aside0 (Below w.heap.size w wc))
        case first =>
          have H := HC19.out
          clear HC19
          by_cases c23 : t257 ≤ a4
          · rw [if_pos c23] at H
            have c23b0 : decide (t257 ≤ a4) = true := decide_eq_true c23
            clear c23
            (first | rw [c23b0] | (simp only [i64_w, i32_w]; rw [c23b0]) | skip)
            have H' := Aside0.mk H
            clear H
            go_wp2
            go_meet
            case rel => exact ⟨_, (decide (t258 ≤ a5)), (by first | rfl | (simp; done) | (simp [*]; done)), H', ⟨by have := HJ8.out; first | omega | exact Nat.le_refl _⟩, ⟨by repeat (first | (with_reducible first | exact HB.out | apply below_alloc | apply pw_below_drewN | apply below_drew1) | exact HB.out)⟩⟩
          · rw [if_neg c23] at H
            have c23b0 : decide (t257 ≤ a4) = false := decide_eq_false c23
            clear c23
            (first | rw [c23b0] | (simp only [i64_w, i32_w]; rw [c23b0]) | skip)
            have H' := Aside0.mk H
            clear H
            go_wp2
            go_meet
            case rel => exact ⟨_, (false), (by first | rfl | (simp; done) | (simp [*]; done)), H', ⟨by have := HJ8.out; first | omega | exact Nat.le_refl _⟩, ⟨by repeat (first | (with_reducible first | exact HB.out | apply below_alloc | apply pw_below_drewN | apply below_drew1) | exact HB.out)⟩⟩
        case rest =>
          clear HC19
          try clear c1
          try clear c2
          try clear p2
          try clear c3
          try clear c8
          try clear c10
          try clear c11
          try clear c13
          try clear c23
          try clear c23b0
          try clear p2
          obtain ⟨kq, x57_18, rfl, HA, HJ18, HB⟩ := hcut
          cases kq with
          | zero => exact absurd HA.out (by simp [antiquarylaw05_MetricBallsMeet.j1])
          | succ kj18 =>
            have H := HA.out
            clear HA
            simp only [antiquarylaw05_MetricBallsMeet.j1] at H
            by_cases c24 : x57_18 = true
            · subst c24
              have H1 : ((antiquarylaw05_sanity.f kj18).bind fun t259 => (if t259 = true then ((metric_Ball.f a0 t256 a4 a5).bind fun t260 => (some t260)) else (some false))) = some r := by rw [if_pos rfl] at H; exact H
              clear H
              have H := H1
              clear H1
              replace H := Option.bind_eq_some_iff.mp H
              obtain ⟨t259, A250, H⟩ := H
              replace H : (if t259 = true then ((metric_Ball.f a0 t256 a4 a5).bind fun t260 => (some t260)) else (some false)) = some r := H
              have A25 := Aside0.mk A250
              clear A250
              by_cases c26 : t259 = true
              · subst c26
                have H1 : ((metric_Ball.f a0 t256 a4 a5).bind fun t260 => (some t260)) = some r := by rw [if_pos rfl] at H; exact H
                clear H
                have H := H1
                clear H1
                replace H := Option.bind_eq_some_iff.mp H
                obtain ⟨t260, A270, H⟩ := H
                replace H : (some t260) = some r := H
                have A27 := Aside0.mk A270
                clear A270
                obtain rfl := Option.some.inj H
                go_wp2_with (first | ((with_reducible refine gate_callee (f := 11) rfl ?_); refine goesL_ (some 58) rfl rfl Try.func11 (by kernel_rfl) rfl #[] rfl (by (try simp only [List.map_toArray, List.map_cons, List.map_nil]); first | done | rfl | (simp only [List.length_drop, List.length_take]; rfl)) ?_; (with_reducible refine (antiquarylaw05_sanity.calls kj18  true _ A25.out).mono ?_); rintro e w28 ⟨rfl, hb⟩; refine ⟨_, rfl, ?_⟩; have n0_ := Aside0.mk (below_step (by repeat (first | (with_reducible first | exact HB.out | apply below_alloc | apply pw_below_drewN | apply below_drew1) | exact HB.out)) hb); clear HB; have HB := n0_; clear n0_; (try clear hb); (try clear hb2); (try clear hk); (try clear hi)) | (go_at_call 24; (with_reducible refine (metric_Ball.calls a0 t256 a4 a5 t260 _ A27.out).mono ?_); rintro e w29 ⟨rfl, hb⟩; have n0_ := Aside0.mk (below_step (by repeat (first | (with_reducible first | exact HB.out | apply below_alloc | apply pw_below_drewN | apply below_drew1) | exact HB.out)) hb); clear HB; have HB := n0_; clear n0_; (try clear hb); (try clear hb2); (try clear hk); (try clear hi)))
                go_ret
                exact ⟨by first | rfl | (simp [errW_none, errW_some] <;> rfl) | (simp [*, errW_none, errW_some] <;> rfl), by repeat (first | (with_reducible first | exact HB.out | apply below_alloc | apply pw_below_drewN | apply below_drew1) | exact HB.out)⟩
              · replace c26 := Bool.eq_false_iff.mpr c26
                subst c26
                have H1 : (some false) = some r := by rw [if_neg (show ¬ (false = true) by decide)] at H; exact H
                clear H
                have H := H1
                clear H1
                obtain rfl := Option.some.inj H
                go_wp2_with (first | ((with_reducible refine gate_callee (f := 11) rfl ?_); refine goesL_ (some 58) rfl rfl Try.func11 (by kernel_rfl) rfl #[] rfl (by (try simp only [List.map_toArray, List.map_cons, List.map_nil]); first | done | rfl | (simp only [List.length_drop, List.length_take]; rfl)) ?_; (with_reducible refine (antiquarylaw05_sanity.calls kj18  false _ A25.out).mono ?_); rintro e w30 ⟨rfl, hb⟩; refine ⟨_, rfl, ?_⟩; have n0_ := Aside0.mk (below_step (by repeat (first | (with_reducible first | exact HB.out | apply below_alloc | apply pw_below_drewN | apply below_drew1) | exact HB.out)) hb); clear HB; have HB := n0_; clear n0_; (try clear hb); (try clear hb2); (try clear hk); (try clear hi)))
                go_ret
                exact ⟨by first | rfl | (simp [errW_none, errW_some] <;> rfl) | (simp [*, errW_none, errW_some] <;> rfl), by repeat (first | (with_reducible first | exact HB.out | apply below_alloc | apply pw_below_drewN | apply below_drew1) | exact HB.out)⟩
            · replace c24 := Bool.eq_false_iff.mpr c24
              subst c24
              have H1 : ((antiquarylaw05_sanity.f kj18).bind fun t261 => (if t261 = true then ((metric_Ball.f a0 t256 a4 a5).bind fun t262 => ((metric_High.f a0 a4 a5).bind fun t263 => (some (t262 == (decide (t256 ≤ t263)))))) else (some false))) = some r := by rw [if_neg (show ¬ (false = true) by decide)] at H; exact H
              clear H
              have H := H1
              clear H1
              replace H := Option.bind_eq_some_iff.mp H
              obtain ⟨t261, A310, H⟩ := H
              replace H : (if t261 = true then ((metric_Ball.f a0 t256 a4 a5).bind fun t262 => ((metric_High.f a0 a4 a5).bind fun t263 => (some (t262 == (decide (t256 ≤ t263)))))) else (some false)) = some r := H
              have A31 := Aside0.mk A310
              clear A310
              by_cases c32 : t261 = true
              · subst c32
                have H1 : ((metric_Ball.f a0 t256 a4 a5).bind fun t262 => ((metric_High.f a0 a4 a5).bind fun t263 => (some (t262 == (decide (t256 ≤ t263)))))) = some r := by rw [if_pos rfl] at H; exact H
                clear H
                have H := H1
                clear H1
                replace H := Option.bind_eq_some_iff.mp H
                obtain ⟨t262, A330, H⟩ := H
                replace H : ((metric_High.f a0 a4 a5).bind fun t263 => (some (t262 == (decide (t256 ≤ t263))))) = some r := H
                have A33 := Aside0.mk A330
                clear A330
                replace H := Option.bind_eq_some_iff.mp H
                obtain ⟨t263, A340, H⟩ := H
                replace H : (some (t262 == (decide (t256 ≤ t263)))) = some r := H
                have A34 := Aside0.mk A340
                clear A340
                obtain rfl := Option.some.inj H
                go_wp2_with (first | ((with_reducible refine gate_callee (f := 11) rfl ?_); refine goesL_ (some 66) rfl rfl Try.func11 (by kernel_rfl) rfl #[] rfl (by (try simp only [List.map_toArray, List.map_cons, List.map_nil]); first | done | rfl | (simp only [List.length_drop, List.length_take]; rfl)) ?_; (with_reducible refine (antiquarylaw05_sanity.calls kj18  true _ A31.out).mono ?_); rintro e w35 ⟨rfl, hb⟩; refine ⟨_, rfl, ?_⟩; have n0_ := Aside0.mk (below_step (by repeat (first | (with_reducible first | exact HB.out | apply below_alloc | apply pw_below_drewN | apply below_drew1) | exact HB.out)) hb); clear HB; have HB := n0_; clear n0_; (try clear hb); (try clear hb2); (try clear hk); (try clear hi)) | (go_at_call 24; (with_reducible refine (metric_Ball.calls a0 t256 a4 a5 t262 _ A33.out).mono ?_); rintro e w36 ⟨rfl, hb⟩; have n0_ := Aside0.mk (below_step (by repeat (first | (with_reducible first | exact HB.out | apply below_alloc | apply pw_below_drewN | apply below_drew1) | exact HB.out)) hb); clear HB; have HB := n0_; clear n0_; (try clear hb); (try clear hb2); (try clear hk); (try clear hi)) | (go_at_call 16; (with_reducible refine (metric_High.calls a0 a4 a5 t263 _ A34.out).mono ?_); rintro e w37 ⟨rfl, hb⟩; have n0_ := Aside0.mk (below_step (by repeat (first | (with_reducible first | exact HB.out | apply below_alloc | apply pw_below_drewN | apply below_drew1) | exact HB.out)) hb); clear HB; have HB := n0_; clear n0_; (try clear hb); (try clear hb2); (try clear hk); (try clear hi)))
                go_ret
                exact ⟨by first | rfl | (simp [errW_none, errW_some] <;> rfl) | (simp [*, errW_none, errW_some] <;> rfl), by repeat (first | (with_reducible first | exact HB.out | apply below_alloc | apply pw_below_drewN | apply below_drew1) | exact HB.out)⟩
              · replace c32 := Bool.eq_false_iff.mpr c32
                subst c32
                have H1 : (some false) = some r := by rw [if_neg (show ¬ (false = true) by decide)] at H; exact H
                clear H
                have H := H1
                clear H1
                obtain rfl := Option.some.inj H
                go_wp2_with (first | ((with_reducible refine gate_callee (f := 11) rfl ?_); refine goesL_ (some 66) rfl rfl Try.func11 (by kernel_rfl) rfl #[] rfl (by (try simp only [List.map_toArray, List.map_cons, List.map_nil]); first | done | rfl | (simp only [List.length_drop, List.length_take]; rfl)) ?_; (with_reducible refine (antiquarylaw05_sanity.calls kj18  false _ A31.out).mono ?_); rintro e w38 ⟨rfl, hb⟩; refine ⟨_, rfl, ?_⟩; have n0_ := Aside0.mk (below_step (by repeat (first | (with_reducible first | exact HB.out | apply below_alloc | apply pw_below_drewN | apply below_drew1) | exact HB.out)) hb); clear HB; have HB := n0_; clear n0_; (try clear hb); (try clear hb2); (try clear hk); (try clear hi)))
                go_ret
                exact ⟨by first | rfl | (simp [errW_none, errW_some] <;> rfl) | (simp [*, errW_none, errW_some] <;> rfl), by repeat (first | (with_reducible first | exact HB.out | apply below_alloc | apply pw_below_drewN | apply below_drew1) | exact HB.out)⟩

/-- THE ONE PURE STATEMENT of antiquarylaw05_MetricBallsMeet: yours. -/
def antiquarylaw05_MetricBallsMeet.Pure : Prop := ∀ (a0 : Int) (l1 : List Int) (l2 : List Int) (l3 : List Int) (a4 : Int) (a5 : Int), (Lit.int .i64 a0).wf = true → l1.length ≤ maxLen → l1.length * 8 ≤ 140737488351232 → (∀ x ∈ l1, (Lit.int .i64 x).wf = true) → l2.length ≤ maxLen → l2.length * 8 ≤ 140737488351232 → (∀ x ∈ l2, (Lit.int .i64 x).wf = true) → l3.length ≤ maxLen → l3.length * 8 ≤ 140737488351232 → (∀ x ∈ l3, (Lit.int .i64 x).wf = true) → (Lit.int .i64 a4).wf = true → (Lit.int .i64 a5).wf = true → ∃ k, antiquarylaw05_MetricBallsMeet.f k a0 l1 l2 l3 a4 a5 = some true
theorem antiquarylaw05_MetricBallsMeet.walk (P : antiquarylaw05_MetricBallsMeet.Pure) (a0 : Int) (a1 : Option Addr) (len1 cap1 : Nat) (z1 : List Int) (a2 : Option Addr) (len2 cap2 : Nat) (z2 : List Int) (a3 : Option Addr) (len3 cap3 : Nat) (z3 : List Int) (a4 : Int) (a5 : Int) (w : World) (w0 : (Lit.int .i64 a0).wf = true) (w1 : (a1 = none ∧ len1 = 0 ∧ cap1 = 0 ∧ z1 = []) ∨ ∃ x, a1 = some x ∧ len1 ≤ cap1 ∧ cap1 ≤ maxLen ∧ z1.length = cap1 ∧ (∀ i, i < z1.length → w.cell? (x.add i) = some (.int .i64 (z1.getD i 0))) ∧ ∀ n ∈ z1, (Lit.int .i64 n).wf = true) (y1 : len1 * 8 ≤ 140737488351232) (w2 : (a2 = none ∧ len2 = 0 ∧ cap2 = 0 ∧ z2 = []) ∨ ∃ x, a2 = some x ∧ len2 ≤ cap2 ∧ cap2 ≤ maxLen ∧ z2.length = cap2 ∧ (∀ i, i < z2.length → w.cell? (x.add i) = some (.int .i64 (z2.getD i 0))) ∧ ∀ n ∈ z2, (Lit.int .i64 n).wf = true) (y2 : len2 * 8 ≤ 140737488351232) (w3 : (a3 = none ∧ len3 = 0 ∧ cap3 = 0 ∧ z3 = []) ∨ ∃ x, a3 = some x ∧ len3 ≤ cap3 ∧ cap3 ≤ maxLen ∧ z3.length = cap3 ∧ (∀ i, i < z3.length → w.cell? (x.add i) = some (.int .i64 (z3.getD i 0))) ∧ ∀ n ∈ z3, (Lit.int .i64 n).wf = true) (y3 : len3 * 8 ≤ 140737488351232) (w4 : (Lit.int .i64 a4).wf = true) (w5 : (Lit.int .i64 a5).wf = true) :
    Calls Try.prog 8 #[.int .i64 a0, .slice a1 len1 cap1, .slice a2 len2 cap2, .slice a3 len3 cap3, .int .i64 a4, .int .i64 a5] w fun e w' => e = .returned (.bool true) ∧ Below w.heap.size w w' := by
  obtain ⟨l1, rfl, hr1, hm1, hw1, hc1⟩ := ReadsInt.ofRowC w1
  obtain ⟨l2, rfl, hr2, hm2, hw2, hc2⟩ := ReadsInt.ofRowC w2
  obtain ⟨l3, rfl, hr3, hm3, hw3, hc3⟩ := ReadsInt.ofRowC w3
  obtain ⟨k, h⟩ := P a0 l1 l2 l3 a4 a5 w0 hm1 y1 hw1 hm2 y2 hw2 hm3 y3 hw3 w4 w5
  refine (antiquarylaw05_MetricBallsMeet.calls k a0 _ _ l1 _ _ l2 _ _ l3 a4 a5 true w (Kd.C_of_reads (d := (0 : Int)) (h1 := fun _ => rfl) hr1) hc1 (Kd.C_of_reads (d := (0 : Int)) (h1 := fun _ => rfl) hr2) hc2 (Kd.C_of_reads (d := (0 : Int)) (h1 := fun _ => rfl) hr3) hc3 h).mono ?_
  rintro e w' ⟨rfl, hd⟩
  exact ⟨rfl, hd⟩

/-! ### metric_Valid: function 31 -/
def metric_Valid.f (a0 : Int) (a1 : Int) : Option (Bool) := if a0 ≥ 1 then (if a0 ≤ 3 then ((metric_clamp_int.f a1 0 134217728).bind fun t264 => (some (t264 == a1))) else (some false)) else (some false)
set_option maxHeartbeats 8000000 in
set_option maxRecDepth 100000 in
theorem metric_Valid.calls (a0 : Int) (a1 : Int) (r : Bool) (w : World) (h : metric_Valid.f a0 a1 = some r) :
    Calls Try.prog 31 #[.int .i64 a0, .int .i64 a1] w fun e w' => e = .returned (.bool r) ∧ Drawn0 w w' := by
  have H : (if a0 ≥ 1 then (if a0 ≤ 3 then ((metric_clamp_int.f a1 0 134217728).bind fun t264 => (some (t264 == a1))) else (some false)) else (some false)) = some r := h
  clear h
  by_cases c3 : a0 ≥ 1
  · rw [if_pos c3] at H
    have c3b0 : decide (1 ≤ a0) = true := decide_eq_true c3
    clear c3
    by_cases c4 : a0 ≤ 3
    · rw [if_pos c4] at H
      have c4b0 : decide (a0 ≤ 3) = true := decide_eq_true c4
      clear c4
      replace H := Option.bind_eq_some_iff.mp H
      obtain ⟨t264, A50, H⟩ := H
      replace H : (some (t264 == a1)) = some r := H
      have A5 := Aside0.mk A50
      clear A50
      obtain rfl := Option.some.inj H
      go_enter Try.func31, Try.ntmps31
      go_wp2_with (first | (go_at_call 34; (with_reducible refine (metric_clamp_int.calls a1 0 134217728 t264 _ A5.out).mono ?_); rintro e w' ⟨rfl, ⟨nd, rfl⟩⟩))
      go_ret
      exact ⟨by first | rfl | (simp; done) | (simp [*]; done), by repeat (first | exact Drawn0.refl _ | apply Drawn0.step)⟩
    · rw [if_neg c4] at H
      have c4b0 : decide (a0 ≤ 3) = false := decide_eq_false c4
      clear c4
      obtain rfl := Option.some.inj H
      go_enter Try.func31, Try.ntmps31
      go_wp2
      go_ret
      exact ⟨by first | rfl | (simp; done) | (simp [*]; done), by repeat (first | exact Drawn0.refl _ | apply Drawn0.step)⟩
  · rw [if_neg c3] at H
    have c3b0 : decide (1 ≤ a0) = false := decide_eq_false c3
    clear c3
    obtain rfl := Option.some.inj H
    go_enter Try.func31, Try.ntmps31
    go_wp2
    go_ret
    exact ⟨by first | rfl | (simp; done) | (simp [*]; done), by repeat (first | exact Drawn0.refl _ | apply Drawn0.step)⟩

end Go.Proofs.Ytflnbgdjpflbeaa.Q
