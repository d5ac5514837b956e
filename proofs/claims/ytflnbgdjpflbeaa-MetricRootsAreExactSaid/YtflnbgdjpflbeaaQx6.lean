/- Printed by a program of this claim (print2.py), over the kit's print, with contracts proved by hand among them. -/
import Derived.Test.YtflnbgdjpflbeaaQx0
import Derived.Test.YtflnbgdjpflbeaaQx1
import Derived.Test.YtflnbgdjpflbeaaQx2
import Derived.Test.YtflnbgdjpflbeaaQx5
namespace Go.Proofs.Ytflnbgdjpflbeaa.Q
open Go.RowKit Go.Proofs.YtflnbgdjpflbeaaW.PrintWords Go.Proofs.YtflnbgdjpflbeaaW.PrintLast Go.Proofs.YtflnbgdjpflbeaaW.PrintMore
attribute [local go_sem] max2_int min2_int max_two min_two max_three min_three max_four min_four   -- for this text's walks alone
set_option linter.unusedVariables false
set_option linter.unusedSimpArgs false

/-! ### antiquarylaw05_MetricBoundsAreTight: function 5 -/
mutual
def antiquarylaw05_MetricBoundsAreTight.j0 : Nat → Int → Int → Int → Bool → Option (Bool)
  | 0, _, _, _, _ => none
  | k + 1, x0, x1, x2, x26 => if x26 = true then ((antiquarylaw05_sanity.f k).bind fun t207 => (some t207)) else ((antiquarylaw05_key.f x0 (wrap64 (x1 + x2))).bind fun t208 => (if t208 > 134217728 then (antiquarylaw05_MetricBoundsAreTight.j1 k x0 x1 x2 134217728) else (antiquarylaw05_MetricBoundsAreTight.j1 k x0 x1 x2 t208)))
def antiquarylaw05_MetricBoundsAreTight.j1 : Nat → Int → Int → Int → Int → Option (Bool)
  | 0, _, _, _, _ => none
  | k + 1, x0, x1, x2, x7 => (antiquarylaw05_sanity.f k).bind fun t209 => (if t209 = true then ((antiquarylaw05_key.f x0 x1).bind fun t210 => ((antiquarylaw05_key.f x0 x2).bind fun t211 => ((metric_Low.f x0 t210 t211).bind fun t212 => ((antiquarylaw05_key.f x0 (wrap64 ((mx x1 x2) - (mn x1 x2)))).bind fun t213 => (if t212 = t213 then ((antiquarylaw05_key.f x0 x1).bind fun t214 => ((antiquarylaw05_key.f x0 x2).bind fun t215 => ((metric_High.f x0 t214 t215).bind fun t216 => (some (t216 == x7))))) else (some false)))))) else (some false))
end
def antiquarylaw05_MetricBoundsAreTight.f (k : Nat) (a0 : Int) (a1 : Int) (a2 : Int) : Option (Bool) := (antiquaryref05_Valid.f a0 0).bind fun t206 => (if t206 = true then (if a1 < 0 then (antiquarylaw05_MetricBoundsAreTight.j0 k a0 a1 a2 true) else (if a1 > 11585 then (antiquarylaw05_MetricBoundsAreTight.j0 k a0 a1 a2 true) else (if a2 < 0 then (antiquarylaw05_MetricBoundsAreTight.j0 k a0 a1 a2 true) else (antiquarylaw05_MetricBoundsAreTight.j0 k a0 a1 a2 (decide (a2 > 11585)))))) else (antiquarylaw05_MetricBoundsAreTight.j0 k a0 a1 a2 true))
theorem antiquarylaw05_MetricBoundsAreTight.mono_l : ∀ k, (∀ y0 y1 y2 y3, LeO (antiquarylaw05_MetricBoundsAreTight.j0 k y0 y1 y2 y3) (antiquarylaw05_MetricBoundsAreTight.j0 (k + 1) y0 y1 y2 y3)) ∧ (∀ y0 y1 y2 y3, LeO (antiquarylaw05_MetricBoundsAreTight.j1 k y0 y1 y2 y3) (antiquarylaw05_MetricBoundsAreTight.j1 (k + 1) y0 y1 y2 y3))
  | 0 => ⟨fun _ _ _ _ r h => by simp [antiquarylaw05_MetricBoundsAreTight.j0] at h, fun _ _ _ _ r h => by simp [antiquarylaw05_MetricBoundsAreTight.j1] at h⟩
  | k + 1 => by
    obtain ⟨ih0, ih1⟩ := antiquarylaw05_MetricBoundsAreTight.mono_l k
    refine ⟨?_, ?_⟩
    · intro y0 y1 y2 y3
      unfold antiquarylaw05_MetricBoundsAreTight.j0
      repeat' first
      | (with_reducible exact ih0 _ _ _ _)
      | (with_reducible exact ih1 _ _ _ _)
      | (with_reducible exact antiquarylaw05_sanity.mono _)
      | (with_reducible exact LeO.refl _)
      | (with_reducible exact LeO.none _)
      | (with_reducible refine LeO.ite ?_ ?_)
      | (with_reducible refine LeO.bind ?_ (fun _ => ?_))
      | exact ih0 _ _ _ _
      | exact ih1 _ _ _ _
      | exact antiquarylaw05_sanity.mono _
      | exact LeO.none _
      | refine LeO.ite ?_ ?_
      | refine LeO.bind ?_ (fun _ => ?_)
    · intro y0 y1 y2 y3
      unfold antiquarylaw05_MetricBoundsAreTight.j1
      repeat' first
      | (with_reducible exact ih0 _ _ _ _)
      | (with_reducible exact ih1 _ _ _ _)
      | (with_reducible exact antiquarylaw05_sanity.mono _)
      | (with_reducible exact LeO.refl _)
      | (with_reducible exact LeO.none _)
      | (with_reducible refine LeO.ite ?_ ?_)
      | (with_reducible refine LeO.bind ?_ (fun _ => ?_))
      | exact ih0 _ _ _ _
      | exact ih1 _ _ _ _
      | exact antiquarylaw05_sanity.mono _
      | exact LeO.none _
      | refine LeO.ite ?_ ?_
      | refine LeO.bind ?_ (fun _ => ?_)
theorem antiquarylaw05_MetricBoundsAreTight.mono : ∀ a0 a1 a2 k, LeO (antiquarylaw05_MetricBoundsAreTight.f k a0 a1 a2) (antiquarylaw05_MetricBoundsAreTight.f (k + 1) a0 a1 a2) := by
  intro a0 a1 a2 k
  obtain ⟨ih0, ih1⟩ := antiquarylaw05_MetricBoundsAreTight.mono_l k
  unfold antiquarylaw05_MetricBoundsAreTight.f
  repeat' first
      | (with_reducible exact ih0 _ _ _ _)
      | (with_reducible exact ih1 _ _ _ _)
      | (with_reducible exact antiquarylaw05_sanity.mono _)
      | (with_reducible exact LeO.refl _)
      | (with_reducible exact LeO.none _)
      | (with_reducible refine LeO.ite ?_ ?_)
      | (with_reducible refine LeO.bind ?_ (fun _ => ?_))
      | exact ih0 _ _ _ _
      | exact ih1 _ _ _ _
      | exact antiquarylaw05_sanity.mono _
      | exact LeO.none _
      | refine LeO.ite ?_ ?_
      | refine LeO.bind ?_ (fun _ => ?_)
set_option maxHeartbeats 8000000 in
set_option maxRecDepth 100000 in
theorem antiquarylaw05_MetricBoundsAreTight.calls (k : Nat) (a0 : Int) (a1 : Int) (a2 : Int) (r : Bool) (w : World) (h : antiquarylaw05_MetricBoundsAreTight.f k a0 a1 a2 = some r) :
    Calls Try.prog 5 #[.int .i64 a0, .int .i64 a1, .int .i64 a2] w fun e w' => e = .returned (.bool r) ∧ Below w.heap.size w w' := by
  have HB := Aside0.mk (Below.refl w.heap.size w)
  have H : ((antiquaryref05_Valid.f a0 0).bind fun t206 => (if t206 = true then (if a1 < 0 then (antiquarylaw05_MetricBoundsAreTight.j0 k a0 a1 a2 true) else (if a1 > 11585 then (antiquarylaw05_MetricBoundsAreTight.j0 k a0 a1 a2 true) else (if a2 < 0 then (antiquarylaw05_MetricBoundsAreTight.j0 k a0 a1 a2 true) else (antiquarylaw05_MetricBoundsAreTight.j0 k a0 a1 a2 (decide (a2 > 11585)))))) else (antiquarylaw05_MetricBoundsAreTight.j0 k a0 a1 a2 true))) = some r := h
  clear h
  have HC4 := Aside0.mk H
  clear H
  go_enter Try.func5, Try.ntmps5
  go_upto_region 1 with (fail)
  go_cut [26] (fun v26 wc => ∃ (kq : Nat) (x26_3 : Bool), v26 = .bool x26_3 ∧ Aside0 (antiquarylaw05_MetricBoundsAreTight.j0 kq a0 a1 a2 x26_3 = some r) ∧ Aside0 (kq ≤ k) ∧ Aside0 (Below w.heap.size w wc))
  case first =>
    have H := HC4.out
    clear HC4
    replace H := Option.bind_eq_some_iff.mp H
    obtain ⟨t206, A50, H⟩ := H
    replace H : (if t206 = true then (if a1 < 0 then (antiquarylaw05_MetricBoundsAreTight.j0 k a0 a1 a2 true) else (if a1 > 11585 then (antiquarylaw05_MetricBoundsAreTight.j0 k a0 a1 a2 true) else (if a2 < 0 then (antiquarylaw05_MetricBoundsAreTight.j0 k a0 a1 a2 true) else (antiquarylaw05_MetricBoundsAreTight.j0 k a0 a1 a2 (decide (a2 > 11585)))))) else (antiquarylaw05_MetricBoundsAreTight.j0 k a0 a1 a2 true)) = some r := H
    have A5 := Aside0.mk A50
    clear A50
    by_cases c6 : t206 = true
    · subst c6
      have H1 : (if a1 < 0 then (antiquarylaw05_MetricBoundsAreTight.j0 k a0 a1 a2 true) else (if a1 > 11585 then (antiquarylaw05_MetricBoundsAreTight.j0 k a0 a1 a2 true) else (if a2 < 0 then (antiquarylaw05_MetricBoundsAreTight.j0 k a0 a1 a2 true) else (antiquarylaw05_MetricBoundsAreTight.j0 k a0 a1 a2 (decide (a2 > 11585)))))) = some r := by rw [if_pos rfl] at H; exact H
      clear H
      have H := H1
      clear H1
      by_cases c7 : a1 < 0
      · rw [if_pos c7] at H
        have c7b0 : decide (a1 < 0) = true := decide_eq_true c7
        clear c7
        (first | rw [c7b0] | (simp only [i64_w, i32_w]; rw [c7b0]) | skip)
        have H' := Aside0.mk H
        clear H
        go_wp2_with (first | ((with_reducible refine gate_callee (f := 27) rfl ?_); refine goesL_ (some 9) rfl rfl Try.func27 (by kernel_rfl) rfl #[.int .i64 a0, .int .i64 0] rfl (by (try simp only [List.map_toArray, List.map_cons, List.map_nil]); first | done | rfl | (simp only [List.length_drop, List.length_take]; rfl)) ?_; (with_reducible refine (antiquaryref05_Valid.calls a0 0 true _ A5.out).mono ?_); rintro e w' ⟨rfl, ⟨nd, rfl⟩⟩; refine ⟨_, rfl, ?_⟩))
        go_meet
        case rel => exact ⟨_, (true), (by first | rfl | (simp; done) | (simp [*]; done)), H', ⟨by first | omega | exact Nat.le_refl _⟩, ⟨by repeat (first | (with_reducible first | exact HB.out | apply below_alloc | apply pw_below_drewN | apply below_drew1) | exact HB.out)⟩⟩
      · rw [if_neg c7] at H
        have c7b0 : decide (a1 < 0) = false := decide_eq_false c7
        clear c7
        (first | rw [c7b0] | (simp only [i64_w, i32_w]; rw [c7b0]) | skip)
        by_cases c8 : a1 > 11585
        · rw [if_pos c8] at H
          have c8b0 : decide (11585 < a1) = true := decide_eq_true c8
          clear c8
          have H' := Aside0.mk H
          clear H
          go_wp2_with (first | ((with_reducible refine gate_callee (f := 27) rfl ?_); refine goesL_ (some 9) rfl rfl Try.func27 (by kernel_rfl) rfl #[.int .i64 a0, .int .i64 0] rfl (by (try simp only [List.map_toArray, List.map_cons, List.map_nil]); first | done | rfl | (simp only [List.length_drop, List.length_take]; rfl)) ?_; (with_reducible refine (antiquaryref05_Valid.calls a0 0 true _ A5.out).mono ?_); rintro e w' ⟨rfl, ⟨nd, rfl⟩⟩; refine ⟨_, rfl, ?_⟩))
          go_meet
          case rel => exact ⟨_, (true), (by first | rfl | (simp; done) | (simp [*]; done)), H', ⟨by first | omega | exact Nat.le_refl _⟩, ⟨by repeat (first | (with_reducible first | exact HB.out | apply below_alloc | apply pw_below_drewN | apply below_drew1) | exact HB.out)⟩⟩
        · rw [if_neg c8] at H
          have c8b0 : decide (11585 < a1) = false := decide_eq_false c8
          clear c8
          by_cases c9 : a2 < 0
          · rw [if_pos c9] at H
            have c9b0 : decide (a2 < 0) = true := decide_eq_true c9
            clear c9
            have H' := Aside0.mk H
            clear H
            go_wp2_with (first | ((with_reducible refine gate_callee (f := 27) rfl ?_); refine goesL_ (some 9) rfl rfl Try.func27 (by kernel_rfl) rfl #[.int .i64 a0, .int .i64 0] rfl (by (try simp only [List.map_toArray, List.map_cons, List.map_nil]); first | done | rfl | (simp only [List.length_drop, List.length_take]; rfl)) ?_; (with_reducible refine (antiquaryref05_Valid.calls a0 0 true _ A5.out).mono ?_); rintro e w' ⟨rfl, ⟨nd, rfl⟩⟩; refine ⟨_, rfl, ?_⟩))
            go_meet
            case rel => exact ⟨_, (true), (by first | rfl | (simp; done) | (simp [*]; done)), H', ⟨by first | omega | exact Nat.le_refl _⟩, ⟨by repeat (first | (with_reducible first | exact HB.out | apply below_alloc | apply pw_below_drewN | apply below_drew1) | exact HB.out)⟩⟩
          · rw [if_neg c9] at H
            have c9b0 : decide (a2 < 0) = false := decide_eq_false c9
            clear c9
            have H' := Aside0.mk H
            clear H
            go_wp2_with (first | ((with_reducible refine gate_callee (f := 27) rfl ?_); refine goesL_ (some 9) rfl rfl Try.func27 (by kernel_rfl) rfl #[.int .i64 a0, .int .i64 0] rfl (by (try simp only [List.map_toArray, List.map_cons, List.map_nil]); first | done | rfl | (simp only [List.length_drop, List.length_take]; rfl)) ?_; (with_reducible refine (antiquaryref05_Valid.calls a0 0 true _ A5.out).mono ?_); rintro e w' ⟨rfl, ⟨nd, rfl⟩⟩; refine ⟨_, rfl, ?_⟩))
            go_meet
            case rel => exact ⟨_, (decide (a2 > 11585)), (by first | rfl | (simp; done) | (simp [*]; done)), H', ⟨by first | omega | exact Nat.le_refl _⟩, ⟨by repeat (first | (with_reducible first | exact HB.out | apply below_alloc | apply pw_below_drewN | apply below_drew1) | exact HB.out)⟩⟩
    · replace c6 := Bool.eq_false_iff.mpr c6
      subst c6
      have H1 : (antiquarylaw05_MetricBoundsAreTight.j0 k a0 a1 a2 true) = some r := by rw [if_neg (show ¬ (false = true) by decide)] at H; exact H
      clear H
      have H := H1
      clear H1
      have H' := Aside0.mk H
      clear H
      go_wp2_with (first | ((with_reducible refine gate_callee (f := 27) rfl ?_); refine goesL_ (some 9) rfl rfl Try.func27 (by kernel_rfl) rfl #[.int .i64 a0, .int .i64 0] rfl (by (try simp only [List.map_toArray, List.map_cons, List.map_nil]); first | done | rfl | (simp only [List.length_drop, List.length_take]; rfl)) ?_; (with_reducible refine (antiquaryref05_Valid.calls a0 0 false _ A5.out).mono ?_); rintro e w' ⟨rfl, ⟨nd, rfl⟩⟩; refine ⟨_, rfl, ?_⟩))
      go_meet
      case rel => exact ⟨_, (true), (by first | rfl | (simp; done) | (simp [*]; done)), H', ⟨by first | omega | exact Nat.le_refl _⟩, ⟨by repeat (first | (with_reducible first | exact HB.out | apply below_alloc | apply pw_below_drewN | apply below_drew1) | exact HB.out)⟩⟩
  case rest =>
    clear HC4
    try clear c2
    try clear p2
    try clear c5
    try clear c6
    try clear c7
    try clear c7b0
    try clear c8
    try clear c8b0
    try clear c9
    try clear c9b0
    obtain ⟨kq, x26_3, rfl, HA, HJ3, HB⟩ := hcut
    cases kq with
    | zero => exact absurd HA.out (by simp [antiquarylaw05_MetricBoundsAreTight.j0])
    | succ kj3 =>
      have H := HA.out
      clear HA
      simp only [antiquarylaw05_MetricBoundsAreTight.j0] at H
      by_cases c10 : x26_3 = true
      · subst c10
        have H1 : ((antiquarylaw05_sanity.f kj3).bind fun t207 => (some t207)) = some r := by rw [if_pos rfl] at H; exact H
        clear H
        have H := H1
        clear H1
        replace H := Option.bind_eq_some_iff.mp H
        obtain ⟨t207, A110, H⟩ := H
        replace H : (some t207) = some r := H
        have A11 := Aside0.mk A110
        clear A110
        obtain rfl := Option.some.inj H
        go_wp2_with (first | ((with_reducible refine gate_callee (f := 11) rfl ?_); refine goesL_ (some 27) rfl rfl Try.func11 (by kernel_rfl) rfl #[] rfl (by (try simp only [List.map_toArray, List.map_cons, List.map_nil]); first | done | rfl | (simp only [List.length_drop, List.length_take]; rfl)) ?_; (with_reducible refine (antiquarylaw05_sanity.calls kj3  t207 _ A11.out).mono ?_); rintro e w12 ⟨rfl, hb⟩; refine ⟨_, rfl, ?_⟩; have n0_ := Aside0.mk (below_step (by repeat (first | (with_reducible first | exact HB.out | apply below_alloc | apply pw_below_drewN | apply below_drew1) | exact HB.out)) hb); clear HB; have HB := n0_; clear n0_; (try clear hb); (try clear hb2); (try clear hk); (try clear hi)))
        go_ret
        exact ⟨by first | rfl | (simp [errW_none, errW_some] <;> rfl) | (simp [*, errW_none, errW_some] <;> rfl), by repeat (first | (with_reducible first | exact HB.out | apply below_alloc | apply pw_below_drewN | apply below_drew1) | exact HB.out)⟩
      · replace c10 := Bool.eq_false_iff.mpr c10
        subst c10
        have H1 : ((antiquarylaw05_key.f a0 (wrap64 (a1 + a2))).bind fun t208 => (if t208 > 134217728 then (antiquarylaw05_MetricBoundsAreTight.j1 kj3 a0 a1 a2 134217728) else (antiquarylaw05_MetricBoundsAreTight.j1 kj3 a0 a1 a2 t208))) = some r := by rw [if_neg (show ¬ (false = true) by decide)] at H; exact H
        clear H
        have H := H1
        clear H1
        replace H := Option.bind_eq_some_iff.mp H
        obtain ⟨t208, A130, H⟩ := H
        replace H : (if t208 > 134217728 then (antiquarylaw05_MetricBoundsAreTight.j1 kj3 a0 a1 a2 134217728) else (antiquarylaw05_MetricBoundsAreTight.j1 kj3 a0 a1 a2 t208)) = some r := H
        have A13 := Aside0.mk A130
        clear A130
        have HC14 := Aside0.mk H
        clear H
        go_upto_if 34 with (first | ((with_reducible refine gate_callee (f := 29) rfl ?_); refine goesL_ (some 32) rfl rfl Try.func29 (by kernel_rfl) rfl #[.int .i64 a0, .int .i64 (wrap64 (a1 + a2))] rfl (by (try simp only [List.map_toArray, List.map_cons, List.map_nil]); first | done | rfl | (simp only [List.length_drop, List.length_take]; rfl)) ?_; (with_reducible refine (antiquarylaw05_key.calls a0 (wrap64 (a1 + a2)) t208 _ A13.out).mono ?_); rintro e w' ⟨rfl, ⟨nd, rfl⟩⟩; refine ⟨_, rfl, ?_⟩))
        (try simp only [Act.put, List.setIfInBounds_toArray, List.set_cons_zero, List.set_cons_succ])
        go_cut [7] (fun v7 wc => ∃ (kq : Nat) (x7_13 : Int), v7 = .int .i64 x7_13 ∧ Aside0 (antiquarylaw05_MetricBoundsAreTight.j1 kq a0 a1 a2 x7_13 = some r) ∧ Aside0 (kq ≤ kj3) ∧ Aside0 (Below w.heap.size w wc))
        case first =>
          have H := HC14.out
          clear HC14
          by_cases c15 : t208 > 134217728
          · rw [if_pos c15] at H
            have c15b0 : decide (134217728 < t208) = true := decide_eq_true c15
            clear c15
            (first | rw [c15b0] | (simp only [i64_w, i32_w]; rw [c15b0]) | skip)
            have H' := Aside0.mk H
            clear H
            go_wp2
            go_meet
            case rel => exact ⟨_, (134217728), (by first | rfl | (simp; done) | (simp [*]; done)), H', ⟨by have := HJ3.out; first | omega | exact Nat.le_refl _⟩, ⟨by repeat (first | (with_reducible first | exact HB.out | apply below_alloc | apply pw_below_drewN | apply below_drew1) | exact HB.out)⟩⟩
          · rw [if_neg c15] at H
            have c15b0 : decide (134217728 < t208) = false := decide_eq_false c15
            clear c15
            (first | rw [c15b0] | (simp only [i64_w, i32_w]; rw [c15b0]) | skip)
            have H' := Aside0.mk H
            clear H
            go_wp2
            go_meet
            case rel => exact ⟨_, (t208), (by first | rfl | (simp; done) | (simp [*]; done)), H', ⟨by have := HJ3.out; first | omega | exact Nat.le_refl _⟩, ⟨by repeat (first | (with_reducible first | exact HB.out | apply below_alloc | apply pw_below_drewN | apply below_drew1) | exact HB.out)⟩⟩
        case rest =>
          clear HC14
          try clear c1
          try clear c2
          try clear p2
          try clear c5
          try clear c6
          try clear p6
          try clear c7
          try clear c7b0
          try clear c8
          try clear c8b0
          try clear c9
          try clear c9b0
          try clear c10
          try clear c11
          try clear c15
          try clear c15b0
          try clear p2
          obtain ⟨kq, x7_13, rfl, HA, HJ13, HB⟩ := hcut
          cases kq with
          | zero => exact absurd HA.out (by simp [antiquarylaw05_MetricBoundsAreTight.j1])
          | succ kj13 =>
            have H := HA.out
            clear HA
            simp only [antiquarylaw05_MetricBoundsAreTight.j1] at H
            replace H := Option.bind_eq_some_iff.mp H
            obtain ⟨t209, A160, H⟩ := H
            replace H : (if t209 = true then ((antiquarylaw05_key.f a0 a1).bind fun t210 => ((antiquarylaw05_key.f a0 a2).bind fun t211 => ((metric_Low.f a0 t210 t211).bind fun t212 => ((antiquarylaw05_key.f a0 (wrap64 ((mx a1 a2) - (mn a1 a2)))).bind fun t213 => (if t212 = t213 then ((antiquarylaw05_key.f a0 a1).bind fun t214 => ((antiquarylaw05_key.f a0 a2).bind fun t215 => ((metric_High.f a0 t214 t215).bind fun t216 => (some (t216 == x7_13))))) else (some false)))))) else (some false)) = some r := H
            have A16 := Aside0.mk A160
            clear A160
            by_cases c17 : t209 = true
            · subst c17
              have H1 : ((antiquarylaw05_key.f a0 a1).bind fun t210 => ((antiquarylaw05_key.f a0 a2).bind fun t211 => ((metric_Low.f a0 t210 t211).bind fun t212 => ((antiquarylaw05_key.f a0 (wrap64 ((mx a1 a2) - (mn a1 a2)))).bind fun t213 => (if t212 = t213 then ((antiquarylaw05_key.f a0 a1).bind fun t214 => ((antiquarylaw05_key.f a0 a2).bind fun t215 => ((metric_High.f a0 t214 t215).bind fun t216 => (some (t216 == x7_13))))) else (some false)))))) = some r := by rw [if_pos rfl] at H; exact H
              clear H
              have H := H1
              clear H1
              replace H := Option.bind_eq_some_iff.mp H
              obtain ⟨t210, A180, H⟩ := H
              replace H : ((antiquarylaw05_key.f a0 a2).bind fun t211 => ((metric_Low.f a0 t210 t211).bind fun t212 => ((antiquarylaw05_key.f a0 (wrap64 ((mx a1 a2) - (mn a1 a2)))).bind fun t213 => (if t212 = t213 then ((antiquarylaw05_key.f a0 a1).bind fun t214 => ((antiquarylaw05_key.f a0 a2).bind fun t215 => ((metric_High.f a0 t214 t215).bind fun t216 => (some (t216 == x7_13))))) else (some false))))) = some r := H
              have A18 := Aside0.mk A180
              clear A180
              replace H := Option.bind_eq_some_iff.mp H
              obtain ⟨t211, A190, H⟩ := H
              replace H : ((metric_Low.f a0 t210 t211).bind fun t212 => ((antiquarylaw05_key.f a0 (wrap64 ((mx a1 a2) - (mn a1 a2)))).bind fun t213 => (if t212 = t213 then ((antiquarylaw05_key.f a0 a1).bind fun t214 => ((antiquarylaw05_key.f a0 a2).bind fun t215 => ((metric_High.f a0 t214 t215).bind fun t216 => (some (t216 == x7_13))))) else (some false)))) = some r := H
              have A19 := Aside0.mk A190
              clear A190
              replace H := Option.bind_eq_some_iff.mp H
              obtain ⟨t212, A200, H⟩ := H
              replace H : ((antiquarylaw05_key.f a0 (wrap64 ((mx a1 a2) - (mn a1 a2)))).bind fun t213 => (if t212 = t213 then ((antiquarylaw05_key.f a0 a1).bind fun t214 => ((antiquarylaw05_key.f a0 a2).bind fun t215 => ((metric_High.f a0 t214 t215).bind fun t216 => (some (t216 == x7_13))))) else (some false))) = some r := H
              have A20 := Aside0.mk A200
              clear A200
              obtain ⟨ji21, hji21⟩ : ∃ j_ : Int, (mx a1 a2) = j_ := ⟨_, rfl⟩
              replace H : ((antiquarylaw05_key.f a0 (wrap64 ((ji21) - (mn a1 a2)))).bind fun t213 => (if t212 = t213 then ((antiquarylaw05_key.f a0 a1).bind fun t214 => ((antiquarylaw05_key.f a0 a2).bind fun t215 => ((metric_High.f a0 t214 t215).bind fun t216 => (some (t216 == x7_13))))) else (some false))) = some r := by first | (rw [hji21] at H; exact H) | (simp only [hji21] at H ⊢; exact H)
              (try rw [hji21] at A16)
              (try rw [hji21] at A18)
              (try rw [hji21] at A19)
              (try rw [hji21] at A20)
              have hji21_ : (if a1 < a2 then a2 else a1) = ji21 := hji21
              obtain ⟨ji22, hji22⟩ : ∃ j_ : Int, (mn a1 a2) = j_ := ⟨_, rfl⟩
              replace H : ((antiquarylaw05_key.f a0 (wrap64 ((ji21) - (ji22)))).bind fun t213 => (if t212 = t213 then ((antiquarylaw05_key.f a0 a1).bind fun t214 => ((antiquarylaw05_key.f a0 a2).bind fun t215 => ((metric_High.f a0 t214 t215).bind fun t216 => (some (t216 == x7_13))))) else (some false))) = some r := by first | (rw [hji22] at H; exact H) | (simp only [hji22] at H ⊢; exact H)
              (try rw [hji22] at A16)
              (try rw [hji22] at A18)
              (try rw [hji22] at A19)
              (try rw [hji22] at A20)
              have hji22_ : (if a2 < a1 then a2 else a1) = ji22 := hji22
              replace H := Option.bind_eq_some_iff.mp H
              obtain ⟨t213, A230, H⟩ := H
              replace H : (if t212 = t213 then ((antiquarylaw05_key.f a0 a1).bind fun t214 => ((antiquarylaw05_key.f a0 a2).bind fun t215 => ((metric_High.f a0 t214 t215).bind fun t216 => (some (t216 == x7_13))))) else (some false)) = some r := H
              have A23 := Aside0.mk A230
              clear A230
              by_cases c24 : t212 = t213
              · rw [if_pos c24] at H
                have c24b0 : (t212 == t213) = true := beq_iff_eq.mpr c24
                have c24b1 : (t212 != t213) = false := bne_eq_false_iff_eq.mpr c24
                clear c24
                replace H := Option.bind_eq_some_iff.mp H
                obtain ⟨t214, A250, H⟩ := H
                replace H : ((antiquarylaw05_key.f a0 a2).bind fun t215 => ((metric_High.f a0 t214 t215).bind fun t216 => (some (t216 == x7_13)))) = some r := H
                have A25 := Aside0.mk A250
                obtain rfl : t210 = t214 := Option.some.inj (A18.out.symm.trans A250)
                clear A250
                replace H := Option.bind_eq_some_iff.mp H
                obtain ⟨t215, A260, H⟩ := H
                replace H : ((metric_High.f a0 t210 t215).bind fun t216 => (some (t216 == x7_13))) = some r := H
                have A26 := Aside0.mk A260
                obtain rfl : t211 = t215 := Option.some.inj (A19.out.symm.trans A260)
                clear A260
                replace H := Option.bind_eq_some_iff.mp H
                obtain ⟨t216, A270, H⟩ := H
                replace H : (some (t216 == x7_13)) = some r := H
                have A27 := Aside0.mk A270
                clear A270
                obtain rfl := Option.some.inj H
                go_wp2_with (first | ((with_reducible refine gate_callee (f := 11) rfl ?_); refine goesL_ (some 35) rfl rfl Try.func11 (by kernel_rfl) rfl #[] rfl (by (try simp only [List.map_toArray, List.map_cons, List.map_nil]); first | done | rfl | (simp only [List.length_drop, List.length_take]; rfl)) ?_; (with_reducible refine (antiquarylaw05_sanity.calls kj13  true _ A16.out).mono ?_); rintro e w28 ⟨rfl, hb⟩; refine ⟨_, rfl, ?_⟩; have n0_ := Aside0.mk (below_step (by repeat (first | (with_reducible first | exact HB.out | apply below_alloc | apply pw_below_drewN | apply below_drew1) | exact HB.out)) hb); clear HB; have HB := n0_; clear n0_; (try clear hb); (try clear hb2); (try clear hk); (try clear hi)) | (go_at_call 29; (with_reducible refine (antiquarylaw05_key.calls a0 a1 t210 _ A18.out).mono ?_); rintro e w' ⟨rfl, ⟨nd, rfl⟩⟩) | (go_at_call 29; (with_reducible refine (antiquarylaw05_key.calls a0 a2 t211 _ A19.out).mono ?_); rintro e w' ⟨rfl, ⟨nd, rfl⟩⟩) | (go_at_call 14; (with_reducible refine (metric_Low.calls a0 t210 t211 t212 _ A20.out).mono ?_); rintro e w29 ⟨rfl, hb⟩; have n0_ := Aside0.mk (below_step (by repeat (first | (with_reducible first | exact HB.out | apply below_alloc | apply pw_below_drewN | apply below_drew1) | exact HB.out)) hb); clear HB; have HB := n0_; clear n0_; (try clear hb); (try clear hb2); (try clear hk); (try clear hi)) | (go_at_call 29; (with_reducible refine (antiquarylaw05_key.calls a0 (wrap64 ((ji21) - (ji22))) t213 _ A23.out).mono ?_); rintro e w' ⟨rfl, ⟨nd, rfl⟩⟩) | (go_at_call 29; (with_reducible refine (antiquarylaw05_key.calls a0 a1 t210 _ A25.out).mono ?_); rintro e w' ⟨rfl, ⟨nd, rfl⟩⟩) | (go_at_call 29; (with_reducible refine (antiquarylaw05_key.calls a0 a2 t211 _ A26.out).mono ?_); rintro e w' ⟨rfl, ⟨nd, rfl⟩⟩) | (go_at_call 16; (with_reducible refine (metric_High.calls a0 t210 t211 t216 _ A27.out).mono ?_); rintro e w30 ⟨rfl, hb⟩; have n0_ := Aside0.mk (below_step (by repeat (first | (with_reducible first | exact HB.out | apply below_alloc | apply pw_below_drewN | apply below_drew1) | exact HB.out)) hb); clear HB; have HB := n0_; clear n0_; (try clear hb); (try clear hb2); (try clear hk); (try clear hi)))
                go_ret
                exact ⟨by first | rfl | (simp [errW_none, errW_some] <;> rfl) | (simp only [← hji21, ← hji22]; first | rfl | (simp [errW_none, errW_some] <;> rfl)) | (simp [*, errW_none, errW_some] <;> rfl), by repeat (first | (with_reducible first | exact HB.out | apply below_alloc | apply pw_below_drewN | apply below_drew1) | exact HB.out)⟩
              · rw [if_neg c24] at H
                have c24b0 : (t212 == t213) = false := beq_eq_false_iff_ne.mpr c24
                have c24b1 : (t212 != t213) = true := bne_iff_ne.mpr c24
                obtain rfl := Option.some.inj H
                go_wp2_with (first | ((with_reducible refine gate_callee (f := 11) rfl ?_); refine goesL_ (some 35) rfl rfl Try.func11 (by kernel_rfl) rfl #[] rfl (by (try simp only [List.map_toArray, List.map_cons, List.map_nil]); first | done | rfl | (simp only [List.length_drop, List.length_take]; rfl)) ?_; (with_reducible refine (antiquarylaw05_sanity.calls kj13  true _ A16.out).mono ?_); rintro e w31 ⟨rfl, hb⟩; refine ⟨_, rfl, ?_⟩; have n0_ := Aside0.mk (below_step (by repeat (first | (with_reducible first | exact HB.out | apply below_alloc | apply pw_below_drewN | apply below_drew1) | exact HB.out)) hb); clear HB; have HB := n0_; clear n0_; (try clear hb); (try clear hb2); (try clear hk); (try clear hi)) | (go_at_call 29; (with_reducible refine (antiquarylaw05_key.calls a0 a1 t210 _ A18.out).mono ?_); rintro e w' ⟨rfl, ⟨nd, rfl⟩⟩) | (go_at_call 29; (with_reducible refine (antiquarylaw05_key.calls a0 a2 t211 _ A19.out).mono ?_); rintro e w' ⟨rfl, ⟨nd, rfl⟩⟩) | (go_at_call 14; (with_reducible refine (metric_Low.calls a0 t210 t211 t212 _ A20.out).mono ?_); rintro e w32 ⟨rfl, hb⟩; have n0_ := Aside0.mk (below_step (by repeat (first | (with_reducible first | exact HB.out | apply below_alloc | apply pw_below_drewN | apply below_drew1) | exact HB.out)) hb); clear HB; have HB := n0_; clear n0_; (try clear hb); (try clear hb2); (try clear hk); (try clear hi)) | (go_at_call 29; (with_reducible refine (antiquarylaw05_key.calls a0 (wrap64 ((ji21) - (ji22))) t213 _ A23.out).mono ?_); rintro e w' ⟨rfl, ⟨nd, rfl⟩⟩))
                go_ret
                exact ⟨by first | rfl | (simp [errW_none, errW_some] <;> rfl) | (simp only [← hji21, ← hji22]; first | rfl | (simp [errW_none, errW_some] <;> rfl)) | (simp [*, errW_none, errW_some] <;> rfl), by repeat (first | (with_reducible first | exact HB.out | apply below_alloc | apply pw_below_drewN | apply below_drew1) | exact HB.out)⟩
            · replace c17 := Bool.eq_false_iff.mpr c17
              subst c17
              have H1 : (some false) = some r := by rw [if_neg (show ¬ (false = true) by decide)] at H; exact H
              clear H
              have H := H1
              clear H1
              obtain rfl := Option.some.inj H
              go_wp2_with (first | ((with_reducible refine gate_callee (f := 11) rfl ?_); refine goesL_ (some 35) rfl rfl Try.func11 (by kernel_rfl) rfl #[] rfl (by (try simp only [List.map_toArray, List.map_cons, List.map_nil]); first | done | rfl | (simp only [List.length_drop, List.length_take]; rfl)) ?_; (with_reducible refine (antiquarylaw05_sanity.calls kj13  false _ A16.out).mono ?_); rintro e w33 ⟨rfl, hb⟩; refine ⟨_, rfl, ?_⟩; have n0_ := Aside0.mk (below_step (by repeat (first | (with_reducible first | exact HB.out | apply below_alloc | apply pw_below_drewN | apply below_drew1) | exact HB.out)) hb); clear HB; have HB := n0_; clear n0_; (try clear hb); (try clear hb2); (try clear hk); (try clear hi)))
              go_ret
              exact ⟨by first | rfl | (simp [errW_none, errW_some] <;> rfl) | (simp [*, errW_none, errW_some] <;> rfl), by repeat (first | (with_reducible first | exact HB.out | apply below_alloc | apply pw_below_drewN | apply below_drew1) | exact HB.out)⟩

/-- THE ONE PURE STATEMENT of antiquarylaw05_MetricBoundsAreTight: yours. -/
def antiquarylaw05_MetricBoundsAreTight.Pure : Prop := ∀ (a0 : Int) (a1 : Int) (a2 : Int), (Lit.int .i64 a0).wf = true → (Lit.int .i64 a1).wf = true → (Lit.int .i64 a2).wf = true → ∃ k, antiquarylaw05_MetricBoundsAreTight.f k a0 a1 a2 = some true
theorem antiquarylaw05_MetricBoundsAreTight.walk (P : antiquarylaw05_MetricBoundsAreTight.Pure) (a0 : Int) (a1 : Int) (a2 : Int) (w : World) (w0 : (Lit.int .i64 a0).wf = true) (w1 : (Lit.int .i64 a1).wf = true) (w2 : (Lit.int .i64 a2).wf = true) :
    Calls Try.prog 5 #[.int .i64 a0, .int .i64 a1, .int .i64 a2] w fun e w' => e = .returned (.bool true) ∧ Below w.heap.size w w' := by
  obtain ⟨k, h⟩ := P a0 a1 a2 w0 w1 w2
  refine (antiquarylaw05_MetricBoundsAreTight.calls k a0 a1 a2 true w h).mono ?_
  rintro e w' ⟨rfl, hd⟩
  exact ⟨rfl, hd⟩

/-! ### antiquarylaw05_MetricRingsAreExact: function 6 -/
mutual
def antiquarylaw05_MetricRingsAreExact.j0 : Nat → Int → Int → Int → Int → Int → Int → Bool → Option (Bool)
  | 0, _, _, _, _, _, _, _ => none
  | k + 1, x0, x1, x2, x3, x10, x11, x48 => if x48 = true then (some false) else (if x3 ≥ x10 then (antiquarylaw05_MetricRingsAreExact.j1 k x0 x1 x2 x3 (decide (x3 ≤ x11))) else (antiquarylaw05_MetricRingsAreExact.j1 k x0 x1 x2 x3 false))
def antiquarylaw05_MetricRingsAreExact.j1 : Nat → Int → Int → Int → Int → Bool → Option (Bool)
  | 0, _, _, _, _, _ => none
  | k + 1, x0, x1, x2, x3, x12 => (metric_Ring.f x0 x1 0).bind fun bt221 => (if bt221.1 ≤ (mx x2 x3) then ((antiquarylaw05_sanity.f k).bind fun t223 => (if t223 = true then ((metric_Low.f x0 x1 x3).bind fun t224 => (if (x12 == (decide (t224 ≤ x2))) = true then ((metric_Gap.f x0 (mn x2 x3) (mx x2 x3) x1).bind fun t225 => (some ((t225 == 0) == (decide (bt221.2 ≥ (mn x2 x3)))))) else (some false))) else (some false))) else ((antiquarylaw05_sanity.f k).bind fun t226 => (if t226 = true then ((metric_Low.f x0 x1 x3).bind fun t227 => (if (x12 == (decide (t227 ≤ x2))) = true then ((metric_Gap.f x0 (mn x2 x3) (mx x2 x3) x1).bind fun t228 => (some ((t228 == 0) == false))) else (some false))) else (some false))))
end
def antiquarylaw05_MetricRingsAreExact.f (k : Nat) (a0 : Int) (a1 : Int) (a2 : Int) (a3 : Int) : Option (Bool) := (antiquarylaw05_keys.f a0 a1 a2 a3).bind fun t217 => (if t217 = true then ((metric_Ring.f a0 a1 a2).bind fun bt219 => (if bt219.1 < 0 then (antiquarylaw05_MetricRingsAreExact.j0 k a0 a1 a2 a3 bt219.1 bt219.2 true) else (if bt219.2 > 134217728 then (antiquarylaw05_MetricRingsAreExact.j0 k a0 a1 a2 a3 bt219.1 bt219.2 true) else (if bt219.1 > a1 then (antiquarylaw05_MetricRingsAreExact.j0 k a0 a1 a2 a3 bt219.1 bt219.2 true) else (antiquarylaw05_MetricRingsAreExact.j0 k a0 a1 a2 a3 bt219.1 bt219.2 (decide (bt219.2 < a1))))))) else ((antiquarylaw05_sanity.f k).bind fun t218 => (some t218)))
theorem antiquarylaw05_MetricRingsAreExact.mono_l : ∀ k, (∀ y0 y1 y2 y3 y4 y5 y6, LeO (antiquarylaw05_MetricRingsAreExact.j0 k y0 y1 y2 y3 y4 y5 y6) (antiquarylaw05_MetricRingsAreExact.j0 (k + 1) y0 y1 y2 y3 y4 y5 y6)) ∧ (∀ y0 y1 y2 y3 y4, LeO (antiquarylaw05_MetricRingsAreExact.j1 k y0 y1 y2 y3 y4) (antiquarylaw05_MetricRingsAreExact.j1 (k + 1) y0 y1 y2 y3 y4))
  | 0 => ⟨fun _ _ _ _ _ _ _ r h => by simp [antiquarylaw05_MetricRingsAreExact.j0] at h, fun _ _ _ _ _ r h => by simp [antiquarylaw05_MetricRingsAreExact.j1] at h⟩
  | k + 1 => by
    obtain ⟨ih0, ih1⟩ := antiquarylaw05_MetricRingsAreExact.mono_l k
    refine ⟨?_, ?_⟩
    · intro y0 y1 y2 y3 y4 y5 y6
      unfold antiquarylaw05_MetricRingsAreExact.j0
      repeat' first
      | (with_reducible exact ih0 _ _ _ _ _ _ _)
      | (with_reducible exact ih1 _ _ _ _ _)
      | (with_reducible exact antiquarylaw05_sanity.mono _)
      | (with_reducible exact LeO.refl _)
      | (with_reducible exact LeO.none _)
      | (with_reducible refine LeO.ite ?_ ?_)
      | (with_reducible refine LeO.bind ?_ (fun _ => ?_))
      | exact ih0 _ _ _ _ _ _ _
      | exact ih1 _ _ _ _ _
      | exact antiquarylaw05_sanity.mono _
      | exact LeO.none _
      | refine LeO.ite ?_ ?_
      | refine LeO.bind ?_ (fun _ => ?_)
    · intro y0 y1 y2 y3 y4
      unfold antiquarylaw05_MetricRingsAreExact.j1
      repeat' first
      | (with_reducible exact ih0 _ _ _ _ _ _ _)
      | (with_reducible exact ih1 _ _ _ _ _)
      | (with_reducible exact antiquarylaw05_sanity.mono _)
      | (with_reducible exact LeO.refl _)
      | (with_reducible exact LeO.none _)
      | (with_reducible refine LeO.ite ?_ ?_)
      | (with_reducible refine LeO.bind ?_ (fun _ => ?_))
      | exact ih0 _ _ _ _ _ _ _
      | exact ih1 _ _ _ _ _
      | exact antiquarylaw05_sanity.mono _
      | exact LeO.none _
      | refine LeO.ite ?_ ?_
      | refine LeO.bind ?_ (fun _ => ?_)
theorem antiquarylaw05_MetricRingsAreExact.mono : ∀ a0 a1 a2 a3 k, LeO (antiquarylaw05_MetricRingsAreExact.f k a0 a1 a2 a3) (antiquarylaw05_MetricRingsAreExact.f (k + 1) a0 a1 a2 a3) := by
  intro a0 a1 a2 a3 k
  obtain ⟨ih0, ih1⟩ := antiquarylaw05_MetricRingsAreExact.mono_l k
  unfold antiquarylaw05_MetricRingsAreExact.f
  repeat' first
      | (with_reducible exact ih0 _ _ _ _ _ _ _)
      | (with_reducible exact ih1 _ _ _ _ _)
      | (with_reducible exact antiquarylaw05_sanity.mono _)
      | (with_reducible exact LeO.refl _)
      | (with_reducible exact LeO.none _)
      | (with_reducible refine LeO.ite ?_ ?_)
      | (with_reducible refine LeO.bind ?_ (fun _ => ?_))
      | exact ih0 _ _ _ _ _ _ _
      | exact ih1 _ _ _ _ _
      | exact antiquarylaw05_sanity.mono _
      | exact LeO.none _
      | refine LeO.ite ?_ ?_
      | refine LeO.bind ?_ (fun _ => ?_)
set_option maxHeartbeats 8000000 in
set_option maxRecDepth 100000 in
theorem antiquarylaw05_MetricRingsAreExact.calls (k : Nat) (a0 : Int) (a1 : Int) (a2 : Int) (a3 : Int) (r : Bool) (w : World) (h : antiquarylaw05_MetricRingsAreExact.f k a0 a1 a2 a3 = some r) :
    Calls Try.prog 6 #[.int .i64 a0, .int .i64 a1, .int .i64 a2, .int .i64 a3] w fun e w' => e = .returned (.bool r) ∧ Below w.heap.size w w' := by
  have HB := Aside0.mk (Below.refl w.heap.size w)
  have H : ((antiquarylaw05_keys.f a0 a1 a2 a3).bind fun t217 => (if t217 = true then ((metric_Ring.f a0 a1 a2).bind fun bt219 => (if bt219.1 < 0 then (antiquarylaw05_MetricRingsAreExact.j0 k a0 a1 a2 a3 bt219.1 bt219.2 true) else (if bt219.2 > 134217728 then (antiquarylaw05_MetricRingsAreExact.j0 k a0 a1 a2 a3 bt219.1 bt219.2 true) else (if bt219.1 > a1 then (antiquarylaw05_MetricRingsAreExact.j0 k a0 a1 a2 a3 bt219.1 bt219.2 true) else (antiquarylaw05_MetricRingsAreExact.j0 k a0 a1 a2 a3 bt219.1 bt219.2 (decide (bt219.2 < a1))))))) else ((antiquarylaw05_sanity.f k).bind fun t218 => (some t218)))) = some r := h
  clear h
  replace H := Option.bind_eq_some_iff.mp H
  obtain ⟨t217, A50, H⟩ := H
  replace H : (if t217 = true then ((metric_Ring.f a0 a1 a2).bind fun bt219 => (if bt219.1 < 0 then (antiquarylaw05_MetricRingsAreExact.j0 k a0 a1 a2 a3 bt219.1 bt219.2 true) else (if bt219.2 > 134217728 then (antiquarylaw05_MetricRingsAreExact.j0 k a0 a1 a2 a3 bt219.1 bt219.2 true) else (if bt219.1 > a1 then (antiquarylaw05_MetricRingsAreExact.j0 k a0 a1 a2 a3 bt219.1 bt219.2 true) else (antiquarylaw05_MetricRingsAreExact.j0 k a0 a1 a2 a3 bt219.1 bt219.2 (decide (bt219.2 < a1))))))) else ((antiquarylaw05_sanity.f k).bind fun t218 => (some t218))) = some r := H
  have A5 := Aside0.mk A50
  clear A50
  by_cases c6 : t217 = true
  · subst c6
    have H1 : ((metric_Ring.f a0 a1 a2).bind fun bt219 => (if bt219.1 < 0 then (antiquarylaw05_MetricRingsAreExact.j0 k a0 a1 a2 a3 bt219.1 bt219.2 true) else (if bt219.2 > 134217728 then (antiquarylaw05_MetricRingsAreExact.j0 k a0 a1 a2 a3 bt219.1 bt219.2 true) else (if bt219.1 > a1 then (antiquarylaw05_MetricRingsAreExact.j0 k a0 a1 a2 a3 bt219.1 bt219.2 true) else (antiquarylaw05_MetricRingsAreExact.j0 k a0 a1 a2 a3 bt219.1 bt219.2 (decide (bt219.2 < a1))))))) = some r := by rw [if_pos rfl] at H; exact H
    clear H
    have H := H1
    clear H1
    replace H := Option.bind_eq_some_iff.mp H
    obtain ⟨⟨t219, t220⟩, A70, H⟩ := H
    replace H : (if t219 < 0 then (antiquarylaw05_MetricRingsAreExact.j0 k a0 a1 a2 a3 t219 t220 true) else (if t220 > 134217728 then (antiquarylaw05_MetricRingsAreExact.j0 k a0 a1 a2 a3 t219 t220 true) else (if t219 > a1 then (antiquarylaw05_MetricRingsAreExact.j0 k a0 a1 a2 a3 t219 t220 true) else (antiquarylaw05_MetricRingsAreExact.j0 k a0 a1 a2 a3 t219 t220 (decide (t220 < a1)))))) = some r := H
    have A7 := Aside0.mk A70
    clear A70
    have HC8 := Aside0.mk H
    clear H
    go_enter Try.func6, Try.ntmps6
    go_upto_region 5 with (first | ((with_reducible refine gate_callee (f := 10) rfl ?_); refine goesL_ (some 22) rfl rfl Try.func10 (by kernel_rfl) rfl #[.int .i64 a0, .int .i64 a1, .int .i64 a2, .int .i64 a3] rfl (by (try simp only [List.map_toArray, List.map_cons, List.map_nil]); first | done | rfl | (simp only [List.length_drop, List.length_take]; rfl)) ?_; (with_reducible refine (antiquarylaw05_keys.calls a0 a1 a2 a3 true _ A5.out).mono ?_); rintro e w' ⟨rfl, ⟨nd, rfl⟩⟩; refine ⟨_, rfl, ?_⟩) | ((with_reducible refine gate_callee (f := 12) rfl ?_); refine goesL_ (some 30) rfl rfl Try.func12 (by kernel_rfl) rfl #[.int .i64 a0, .int .i64 a1, .int .i64 a2] rfl (by (try simp only [List.map_toArray, List.map_cons, List.map_nil]); first | done | rfl | (simp only [List.length_drop, List.length_take]; rfl)) ?_; (with_reducible refine (metric_Ring.calls a0 a1 a2 t219 t220 _ A7.out).mono ?_); rintro e w9 ⟨rfl, hb⟩; refine ⟨_, rfl, ?_⟩; have n0_ := Aside0.mk (below_step (by repeat (first | (with_reducible first | exact HB.out | apply below_alloc | apply pw_below_drewN | apply below_drew1) | exact HB.out)) hb); clear HB; have HB := n0_; clear n0_; (try clear hb); (try clear hb2); (try clear hk); (try clear hi)))
    (try simp only [Act.put, List.setIfInBounds_toArray, List.set_cons_zero, List.set_cons_succ])
    go_cut [48] (fun v48 wc => ∃ (kq : Nat) (x48_7 : Bool), v48 = .bool x48_7 ∧ Aside0 (antiquarylaw05_MetricRingsAreExact.j0 kq a0 a1 a2 a3 t219 t220 x48_7 = some r) ∧ Aside0 (kq ≤ k) ∧ Aside0 (Below w.heap.size w wc))
    case first =>
      have H := HC8.out
      clear HC8
      by_cases c10 : t219 < 0
      · rw [if_pos c10] at H
        have c10b0 : decide (t219 < 0) = true := decide_eq_true c10
        clear c10
        (first | rw [c10b0] | (simp only [i64_w, i32_w]; rw [c10b0]) | skip)
        have H' := Aside0.mk H
        clear H
        go_wp2
        go_meet
        case rel => exact ⟨_, (true), (by first | rfl | (simp; done) | (simp [*]; done)), H', ⟨by first | omega | exact Nat.le_refl _⟩, ⟨by repeat (first | (with_reducible first | exact HB.out | apply below_alloc | apply pw_below_drewN | apply below_drew1) | exact HB.out)⟩⟩
      · rw [if_neg c10] at H
        have c10b0 : decide (t219 < 0) = false := decide_eq_false c10
        clear c10
        (first | rw [c10b0] | (simp only [i64_w, i32_w]; rw [c10b0]) | skip)
        by_cases c11 : t220 > 134217728
        · rw [if_pos c11] at H
          have c11b0 : decide (134217728 < t220) = true := decide_eq_true c11
          clear c11
          have H' := Aside0.mk H
          clear H
          go_wp2
          go_meet
          case rel => exact ⟨_, (true), (by first | rfl | (simp; done) | (simp [*]; done)), H', ⟨by first | omega | exact Nat.le_refl _⟩, ⟨by repeat (first | (with_reducible first | exact HB.out | apply below_alloc | apply pw_below_drewN | apply below_drew1) | exact HB.out)⟩⟩
        · rw [if_neg c11] at H
          have c11b0 : decide (134217728 < t220) = false := decide_eq_false c11
          clear c11
          by_cases c12 : t219 > a1
          · rw [if_pos c12] at H
            have c12b0 : decide (a1 < t219) = true := decide_eq_true c12
            clear c12
            have H' := Aside0.mk H
            clear H
            go_wp2
            go_meet
            case rel => exact ⟨_, (true), (by first | rfl | (simp; done) | (simp [*]; done)), H', ⟨by first | omega | exact Nat.le_refl _⟩, ⟨by repeat (first | (with_reducible first | exact HB.out | apply below_alloc | apply pw_below_drewN | apply below_drew1) | exact HB.out)⟩⟩
          · rw [if_neg c12] at H
            have c12b0 : decide (a1 < t219) = false := decide_eq_false c12
            clear c12
            have H' := Aside0.mk H
            clear H
            go_wp2
            go_meet
            case rel => exact ⟨_, (decide (t220 < a1)), (by first | rfl | (simp; done) | (simp [*]; done)), H', ⟨by first | omega | exact Nat.le_refl _⟩, ⟨by repeat (first | (with_reducible first | exact HB.out | apply below_alloc | apply pw_below_drewN | apply below_drew1) | exact HB.out)⟩⟩
    case rest =>
      clear HC8
      try clear c1
      try clear p2
      try clear c6
      try clear c10
      try clear c10b0
      try clear c11
      try clear c11b0
      try clear c12
      try clear c12b0
      obtain ⟨kq, x48_7, rfl, HA, HJ7, HB⟩ := hcut
      cases kq with
      | zero => exact absurd HA.out (by simp [antiquarylaw05_MetricRingsAreExact.j0])
      | succ kj7 =>
        have H := HA.out
        clear HA
        simp only [antiquarylaw05_MetricRingsAreExact.j0] at H
        by_cases c13 : x48_7 = true
        · subst c13
          have H1 : (some false) = some r := by rw [if_pos rfl] at H; exact H
          clear H
          have H := H1
          clear H1
          obtain rfl := Option.some.inj H
          go_wp2
          go_ret
          exact ⟨by first | rfl | (simp [errW_none, errW_some] <;> rfl) | (simp [*, errW_none, errW_some] <;> rfl), by repeat (first | (with_reducible first | exact HB.out | apply below_alloc | apply pw_below_drewN | apply below_drew1) | exact HB.out)⟩
        · replace c13 := Bool.eq_false_iff.mpr c13
          subst c13
          have H1 : (if a3 ≥ t219 then (antiquarylaw05_MetricRingsAreExact.j1 kj7 a0 a1 a2 a3 (decide (a3 ≤ t220))) else (antiquarylaw05_MetricRingsAreExact.j1 kj7 a0 a1 a2 a3 false)) = some r := by rw [if_neg (show ¬ (false = true) by decide)] at H; exact H
          clear H
          have H := H1
          clear H1
          have HC14 := Aside0.mk H
          clear H
          go_upto_region 7 with (fail)
          go_cut [12] (fun v12 wc => ∃ (kq : Nat) (x12_13 : Bool), v12 = .bool x12_13 ∧ Aside0 (antiquarylaw05_MetricRingsAreExact.j1 kq a0 a1 a2 a3 x12_13 = some r) ∧ Aside0 (kq ≤ kj7) ∧ Aside0 (Below w.heap.size w wc))
          case first =>
            have H := HC14.out
            clear HC14
            by_cases c15 : a3 ≥ t219
            · rw [if_pos c15] at H
              have c15b0 : decide (t219 ≤ a3) = true := decide_eq_true c15
              clear c15
              (first | rw [c15b0] | (simp only [i64_w, i32_w]; rw [c15b0]) | skip)
              have H' := Aside0.mk H
              clear H
              go_wp2
              go_meet
              case rel => exact ⟨_, (decide (a3 ≤ t220)), (by first | rfl | (simp; done) | (simp [*]; done)), H', ⟨by have := HJ7.out; first | omega | exact Nat.le_refl _⟩, ⟨by repeat (first | (with_reducible first | exact HB.out | apply below_alloc | apply pw_below_drewN | apply below_drew1) | exact HB.out)⟩⟩
            · rw [if_neg c15] at H
              have c15b0 : decide (t219 ≤ a3) = false := decide_eq_false c15
              clear c15
              (first | rw [c15b0] | (simp only [i64_w, i32_w]; rw [c15b0]) | skip)
              have H' := Aside0.mk H
              clear H
              go_wp2
              go_meet
              case rel => exact ⟨_, (false), (by first | rfl | (simp; done) | (simp [*]; done)), H', ⟨by have := HJ7.out; first | omega | exact Nat.le_refl _⟩, ⟨by repeat (first | (with_reducible first | exact HB.out | apply below_alloc | apply pw_below_drewN | apply below_drew1) | exact HB.out)⟩⟩
          case rest =>
            clear HC14
            try clear c1
            try clear p2
            try clear c6
            try clear c10
            try clear c10b0
            try clear c11
            try clear c11b0
            try clear c12
            try clear c12b0
            try clear c13
            try clear c15
            try clear c15b0
            try clear p2
            obtain ⟨kq, x12_13, rfl, HA, HJ13, HB⟩ := hcut
            cases kq with
            | zero => exact absurd HA.out (by simp [antiquarylaw05_MetricRingsAreExact.j1])
            | succ kj13 =>
              have H := HA.out
              clear HA
              simp only [antiquarylaw05_MetricRingsAreExact.j1] at H
              obtain ⟨ji16, hji16⟩ : ∃ j_ : Int, (mn a2 a3) = j_ := ⟨_, rfl⟩
              replace H : ((metric_Ring.f a0 a1 0).bind fun bt221 => (if bt221.1 ≤ (mx a2 a3) then ((antiquarylaw05_sanity.f kj13).bind fun t223 => (if t223 = true then ((metric_Low.f a0 a1 a3).bind fun t224 => (if (x12_13 == (decide (t224 ≤ a2))) = true then ((metric_Gap.f a0 (ji16) (mx a2 a3) a1).bind fun t225 => (some ((t225 == 0) == (decide (bt221.2 ≥ (ji16)))))) else (some false))) else (some false))) else ((antiquarylaw05_sanity.f kj13).bind fun t226 => (if t226 = true then ((metric_Low.f a0 a1 a3).bind fun t227 => (if (x12_13 == (decide (t227 ≤ a2))) = true then ((metric_Gap.f a0 (ji16) (mx a2 a3) a1).bind fun t228 => (some ((t228 == 0) == false))) else (some false))) else (some false))))) = some r := by first | (rw [hji16] at H; exact H) | (simp only [hji16] at H ⊢; exact H)
              have hji16_ : (if a3 < a2 then a3 else a2) = ji16 := hji16
              obtain ⟨ji17, hji17⟩ : ∃ j_ : Int, (mx a2 a3) = j_ := ⟨_, rfl⟩
              replace H : ((metric_Ring.f a0 a1 0).bind fun bt221 => (if bt221.1 ≤ (ji17) then ((antiquarylaw05_sanity.f kj13).bind fun t223 => (if t223 = true then ((metric_Low.f a0 a1 a3).bind fun t224 => (if (x12_13 == (decide (t224 ≤ a2))) = true then ((metric_Gap.f a0 (ji16) (ji17) a1).bind fun t225 => (some ((t225 == 0) == (decide (bt221.2 ≥ (ji16)))))) else (some false))) else (some false))) else ((antiquarylaw05_sanity.f kj13).bind fun t226 => (if t226 = true then ((metric_Low.f a0 a1 a3).bind fun t227 => (if (x12_13 == (decide (t227 ≤ a2))) = true then ((metric_Gap.f a0 (ji16) (ji17) a1).bind fun t228 => (some ((t228 == 0) == false))) else (some false))) else (some false))))) = some r := by first | (rw [hji17] at H; exact H) | (simp only [hji17] at H ⊢; exact H)
              have hji17_ : (if a2 < a3 then a3 else a2) = ji17 := hji17
              replace H := Option.bind_eq_some_iff.mp H
              obtain ⟨⟨t221, t222⟩, A180, H⟩ := H
              replace H : (if t221 ≤ (ji17) then ((antiquarylaw05_sanity.f kj13).bind fun t223 => (if t223 = true then ((metric_Low.f a0 a1 a3).bind fun t224 => (if (x12_13 == (decide (t224 ≤ a2))) = true then ((metric_Gap.f a0 (ji16) (ji17) a1).bind fun t225 => (some ((t225 == 0) == (decide (t222 ≥ (ji16)))))) else (some false))) else (some false))) else ((antiquarylaw05_sanity.f kj13).bind fun t226 => (if t226 = true then ((metric_Low.f a0 a1 a3).bind fun t227 => (if (x12_13 == (decide (t227 ≤ a2))) = true then ((metric_Gap.f a0 (ji16) (ji17) a1).bind fun t228 => (some ((t228 == 0) == false))) else (some false))) else (some false)))) = some r := H
              have A18 := Aside0.mk A180
              clear A180
              by_cases c19 : t221 ≤ (ji17)
              · rw [if_pos c19] at H
                have c19b0 : decide (t221 ≤ (ji17)) = true := decide_eq_true c19
                clear c19
                replace H := Option.bind_eq_some_iff.mp H
                obtain ⟨t223, A200, H⟩ := H
                replace H : (if t223 = true then ((metric_Low.f a0 a1 a3).bind fun t224 => (if (x12_13 == (decide (t224 ≤ a2))) = true then ((metric_Gap.f a0 (ji16) (ji17) a1).bind fun t225 => (some ((t225 == 0) == (decide (t222 ≥ (ji16)))))) else (some false))) else (some false)) = some r := H
                have A20 := Aside0.mk A200
                clear A200
                by_cases c21 : t223 = true
                · subst c21
                  have H1 : ((metric_Low.f a0 a1 a3).bind fun t224 => (if (x12_13 == (decide (t224 ≤ a2))) = true then ((metric_Gap.f a0 (ji16) (ji17) a1).bind fun t225 => (some ((t225 == 0) == (decide (t222 ≥ (ji16)))))) else (some false))) = some r := by rw [if_pos rfl] at H; exact H
                  clear H
                  have H := H1
                  clear H1
                  replace H := Option.bind_eq_some_iff.mp H
                  obtain ⟨t224, A220, H⟩ := H
                  replace H : (if (x12_13 == (decide (t224 ≤ a2))) = true then ((metric_Gap.f a0 (ji16) (ji17) a1).bind fun t225 => (some ((t225 == 0) == (decide (t222 ≥ (ji16)))))) else (some false)) = some r := H
                  have A22 := Aside0.mk A220
                  clear A220
                  by_cases c23 : (x12_13 == (decide (t224 ≤ a2))) = true
                  · rw [if_pos c23] at H
                    have c23b0 : (x12_13 == (decide (t224 ≤ a2))) = true := c23
                    (try (have c23b1 : decide (x12_13 = (decide (t224 ≤ a2))) = true := by simpa using c23))
                    (try (have c23b2 : (x12_13 == (decide (t224 ≤ a2))) = true := by simpa using c23))
                    clear c23
                    replace H := Option.bind_eq_some_iff.mp H
                    obtain ⟨t225, A240, H⟩ := H
                    replace H : (some ((t225 == 0) == (decide (t222 ≥ (ji16))))) = some r := H
                    have A24 := Aside0.mk A240
                    clear A240
                    obtain rfl := Option.some.inj H
                    go_wp2_with (first | ((with_reducible refine gate_callee (f := 12) rfl ?_); refine goesL_ (some 66) rfl rfl Try.func12 (by kernel_rfl) rfl #[.int .i64 a0, .int .i64 a1, .int .i64 0] rfl (by (try simp only [List.map_toArray, List.map_cons, List.map_nil]); first | done | rfl | (simp only [List.length_drop, List.length_take]; rfl)) ?_; (with_reducible refine (metric_Ring.calls a0 a1 0 t221 t222 _ A18.out).mono ?_); rintro e w25 ⟨rfl, hb⟩; refine ⟨_, rfl, ?_⟩; have n0_ := Aside0.mk (below_step (by repeat (first | (with_reducible first | exact HB.out | apply below_alloc | apply pw_below_drewN | apply below_drew1) | exact HB.out)) hb); clear HB; have HB := n0_; clear n0_; (try clear hb); (try clear hb2); (try clear hk); (try clear hi)) | ((with_reducible refine gate_callee (f := 11) rfl ?_); refine goesL_ (some 77) rfl rfl Try.func11 (by kernel_rfl) rfl #[] rfl (by (try simp only [List.map_toArray, List.map_cons, List.map_nil]); first | done | rfl | (simp only [List.length_drop, List.length_take]; rfl)) ?_; (with_reducible refine (antiquarylaw05_sanity.calls kj13  true _ A20.out).mono ?_); rintro e w26 ⟨rfl, hb⟩; refine ⟨_, rfl, ?_⟩; have n0_ := Aside0.mk (below_step (by repeat (first | (with_reducible first | exact HB.out | apply below_alloc | apply pw_below_drewN | apply below_drew1) | exact HB.out)) hb); clear HB; have HB := n0_; clear n0_; (try clear hb); (try clear hb2); (try clear hk); (try clear hi)) | (go_at_call 14; (with_reducible refine (metric_Low.calls a0 a1 a3 t224 _ A22.out).mono ?_); rintro e w27 ⟨rfl, hb⟩; have n0_ := Aside0.mk (below_step (by repeat (first | (with_reducible first | exact HB.out | apply below_alloc | apply pw_below_drewN | apply below_drew1) | exact HB.out)) hb); clear HB; have HB := n0_; clear n0_; (try clear hb); (try clear hb2); (try clear hk); (try clear hi)) | (go_at_call 20; (with_reducible refine (metric_Gap.calls a0 ji16 ji17 a1 t225 _ A24.out).mono ?_); rintro e w28 ⟨rfl, hb⟩; have n0_ := Aside0.mk (below_step (by repeat (first | (with_reducible first | exact HB.out | apply below_alloc | apply pw_below_drewN | apply below_drew1) | exact HB.out)) hb); clear HB; have HB := n0_; clear n0_; (try clear hb); (try clear hb2); (try clear hk); (try clear hi)))
                    go_ret
                    exact ⟨by first | rfl | (simp [errW_none, errW_some] <;> rfl) | (simp only [← hji16, ← hji17]; first | rfl | (simp [errW_none, errW_some] <;> rfl)) | (simp [*, errW_none, errW_some] <;> rfl), by repeat (first | (with_reducible first | exact HB.out | apply below_alloc | apply pw_below_drewN | apply below_drew1) | exact HB.out)⟩
                  · rw [if_neg c23] at H
                    have c23b0 : (x12_13 == (decide (t224 ≤ a2))) = false := by simpa using c23
                    (try (have c23b1 : decide (x12_13 = (decide (t224 ≤ a2))) = false := by simpa using c23))
                    (try (have c23b2 : (x12_13 == (decide (t224 ≤ a2))) = false := by simpa using c23))
                    (try (have c23b3 : ¬ (x12_13 = (decide (t224 ≤ a2))) := by simpa using c23))
                    clear c23
                    obtain rfl := Option.some.inj H
                    go_wp2_with (first | ((with_reducible refine gate_callee (f := 12) rfl ?_); refine goesL_ (some 66) rfl rfl Try.func12 (by kernel_rfl) rfl #[.int .i64 a0, .int .i64 a1, .int .i64 0] rfl (by (try simp only [List.map_toArray, List.map_cons, List.map_nil]); first | done | rfl | (simp only [List.length_drop, List.length_take]; rfl)) ?_; (with_reducible refine (metric_Ring.calls a0 a1 0 t221 t222 _ A18.out).mono ?_); rintro e w29 ⟨rfl, hb⟩; refine ⟨_, rfl, ?_⟩; have n0_ := Aside0.mk (below_step (by repeat (first | (with_reducible first | exact HB.out | apply below_alloc | apply pw_below_drewN | apply below_drew1) | exact HB.out)) hb); clear HB; have HB := n0_; clear n0_; (try clear hb); (try clear hb2); (try clear hk); (try clear hi)) | ((with_reducible refine gate_callee (f := 11) rfl ?_); refine goesL_ (some 77) rfl rfl Try.func11 (by kernel_rfl) rfl #[] rfl (by (try simp only [List.map_toArray, List.map_cons, List.map_nil]); first | done | rfl | (simp only [List.length_drop, List.length_take]; rfl)) ?_; (with_reducible refine (antiquarylaw05_sanity.calls kj13  true _ A20.out).mono ?_); rintro e w30 ⟨rfl, hb⟩; refine ⟨_, rfl, ?_⟩; have n0_ := Aside0.mk (below_step (by repeat (first | (with_reducible first | exact HB.out | apply below_alloc | apply pw_below_drewN | apply below_drew1) | exact HB.out)) hb); clear HB; have HB := n0_; clear n0_; (try clear hb); (try clear hb2); (try clear hk); (try clear hi)) | (go_at_call 14; (with_reducible refine (metric_Low.calls a0 a1 a3 t224 _ A22.out).mono ?_); rintro e w31 ⟨rfl, hb⟩; have n0_ := Aside0.mk (below_step (by repeat (first | (with_reducible first | exact HB.out | apply below_alloc | apply pw_below_drewN | apply below_drew1) | exact HB.out)) hb); clear HB; have HB := n0_; clear n0_; (try clear hb); (try clear hb2); (try clear hk); (try clear hi)))
                    go_ret
                    exact ⟨by first | rfl | (simp [errW_none, errW_some] <;> rfl) | (simp only [← hji16, ← hji17]; first | rfl | (simp [errW_none, errW_some] <;> rfl)) | (simp [*, errW_none, errW_some] <;> rfl), by repeat (first | (with_reducible first | exact HB.out | apply below_alloc | apply pw_below_drewN | apply below_drew1) | exact HB.out)⟩
                · replace c21 := Bool.eq_false_iff.mpr c21
                  subst c21
                  have H1 : (some false) = some r := by rw [if_neg (show ¬ (false = true) by decide)] at H; exact H
                  clear H
                  have H := H1
                  clear H1
                  obtain rfl := Option.some.inj H
                  go_wp2_with (first | ((with_reducible refine gate_callee (f := 12) rfl ?_); refine goesL_ (some 66) rfl rfl Try.func12 (by kernel_rfl) rfl #[.int .i64 a0, .int .i64 a1, .int .i64 0] rfl (by (try simp only [List.map_toArray, List.map_cons, List.map_nil]); first | done | rfl | (simp only [List.length_drop, List.length_take]; rfl)) ?_; (with_reducible refine (metric_Ring.calls a0 a1 0 t221 t222 _ A18.out).mono ?_); rintro e w32 ⟨rfl, hb⟩; refine ⟨_, rfl, ?_⟩; have n0_ := Aside0.mk (below_step (by repeat (first | (with_reducible first | exact HB.out | apply below_alloc | apply pw_below_drewN | apply below_drew1) | exact HB.out)) hb); clear HB; have HB := n0_; clear n0_; (try clear hb); (try clear hb2); (try clear hk); (try clear hi)) | ((with_reducible refine gate_callee (f := 11) rfl ?_); refine goesL_ (some 77) rfl rfl Try.func11 (by kernel_rfl) rfl #[] rfl (by (try simp only [List.map_toArray, List.map_cons, List.map_nil]); first | done | rfl | (simp only [List.length_drop, List.length_take]; rfl)) ?_; (with_reducible refine (antiquarylaw05_sanity.calls kj13  false _ A20.out).mono ?_); rintro e w33 ⟨rfl, hb⟩; refine ⟨_, rfl, ?_⟩; have n0_ := Aside0.mk (below_step (by repeat (first | (with_reducible first | exact HB.out | apply below_alloc | apply pw_below_drewN | apply below_drew1) | exact HB.out)) hb); clear HB; have HB := n0_; clear n0_; (try clear hb); (try clear hb2); (try clear hk); (try clear hi)))
                  go_ret
                  exact ⟨by first | rfl | (simp [errW_none, errW_some] <;> rfl) | (simp only [← hji16, ← hji17]; first | rfl | (simp [errW_none, errW_some] <;> rfl)) | (simp [*, errW_none, errW_some] <;> rfl), by repeat (first | (with_reducible first | exact HB.out | apply below_alloc | apply pw_below_drewN | apply below_drew1) | exact HB.out)⟩
              · rw [if_neg c19] at H
                have c19b0 : decide (t221 ≤ (ji17)) = false := decide_eq_false c19
                clear c19
                replace H := Option.bind_eq_some_iff.mp H
                obtain ⟨t226, A340, H⟩ := H
                replace H : (if t226 = true then ((metric_Low.f a0 a1 a3).bind fun t227 => (if (x12_13 == (decide (t227 ≤ a2))) = true then ((metric_Gap.f a0 (ji16) (ji17) a1).bind fun t228 => (some ((t228 == 0) == false))) else (some false))) else (some false)) = some r := H
                have A34 := Aside0.mk A340
                clear A340
                by_cases c35 : t226 = true
                · subst c35
                  have H1 : ((metric_Low.f a0 a1 a3).bind fun t227 => (if (x12_13 == (decide (t227 ≤ a2))) = true then ((metric_Gap.f a0 (ji16) (ji17) a1).bind fun t228 => (some ((t228 == 0) == false))) else (some false))) = some r := by rw [if_pos rfl] at H; exact H
                  clear H
                  have H := H1
                  clear H1
                  replace H := Option.bind_eq_some_iff.mp H
                  obtain ⟨t227, A360, H⟩ := H
                  replace H : (if (x12_13 == (decide (t227 ≤ a2))) = true then ((metric_Gap.f a0 (ji16) (ji17) a1).bind fun t228 => (some ((t228 == 0) == false))) else (some false)) = some r := H
                  have A36 := Aside0.mk A360
                  clear A360
                  by_cases c37 : (x12_13 == (decide (t227 ≤ a2))) = true
                  · rw [if_pos c37] at H
                    have c37b0 : (x12_13 == (decide (t227 ≤ a2))) = true := c37
                    (try (have c37b1 : decide (x12_13 = (decide (t227 ≤ a2))) = true := by simpa using c37))
                    (try (have c37b2 : (x12_13 == (decide (t227 ≤ a2))) = true := by simpa using c37))
                    clear c37
                    replace H := Option.bind_eq_some_iff.mp H
                    obtain ⟨t228, A380, H⟩ := H
                    replace H : (some ((t228 == 0) == false)) = some r := H
                    have A38 := Aside0.mk A380
                    clear A380
                    obtain rfl := Option.some.inj H
                    go_wp2_with (first | ((with_reducible refine gate_callee (f := 12) rfl ?_); refine goesL_ (some 66) rfl rfl Try.func12 (by kernel_rfl) rfl #[.int .i64 a0, .int .i64 a1, .int .i64 0] rfl (by (try simp only [List.map_toArray, List.map_cons, List.map_nil]); first | done | rfl | (simp only [List.length_drop, List.length_take]; rfl)) ?_; (with_reducible refine (metric_Ring.calls a0 a1 0 t221 t222 _ A18.out).mono ?_); rintro e w39 ⟨rfl, hb⟩; refine ⟨_, rfl, ?_⟩; have n0_ := Aside0.mk (below_step (by repeat (first | (with_reducible first | exact HB.out | apply below_alloc | apply pw_below_drewN | apply below_drew1) | exact HB.out)) hb); clear HB; have HB := n0_; clear n0_; (try clear hb); (try clear hb2); (try clear hk); (try clear hi)) | ((with_reducible refine gate_callee (f := 11) rfl ?_); refine goesL_ (some 77) rfl rfl Try.func11 (by kernel_rfl) rfl #[] rfl (by (try simp only [List.map_toArray, List.map_cons, List.map_nil]); first | done | rfl | (simp only [List.length_drop, List.length_take]; rfl)) ?_; (with_reducible refine (antiquarylaw05_sanity.calls kj13  true _ A34.out).mono ?_); rintro e w40 ⟨rfl, hb⟩; refine ⟨_, rfl, ?_⟩; have n0_ := Aside0.mk (below_step (by repeat (first | (with_reducible first | exact HB.out | apply below_alloc | apply pw_below_drewN | apply below_drew1) | exact HB.out)) hb); clear HB; have HB := n0_; clear n0_; (try clear hb); (try clear hb2); (try clear hk); (try clear hi)) | (go_at_call 14; (with_reducible refine (metric_Low.calls a0 a1 a3 t227 _ A36.out).mono ?_); rintro e w41 ⟨rfl, hb⟩; have n0_ := Aside0.mk (below_step (by repeat (first | (with_reducible first | exact HB.out | apply below_alloc | apply pw_below_drewN | apply below_drew1) | exact HB.out)) hb); clear HB; have HB := n0_; clear n0_; (try clear hb); (try clear hb2); (try clear hk); (try clear hi)) | (go_at_call 20; (with_reducible refine (metric_Gap.calls a0 ji16 ji17 a1 t228 _ A38.out).mono ?_); rintro e w42 ⟨rfl, hb⟩; have n0_ := Aside0.mk (below_step (by repeat (first | (with_reducible first | exact HB.out | apply below_alloc | apply pw_below_drewN | apply below_drew1) | exact HB.out)) hb); clear HB; have HB := n0_; clear n0_; (try clear hb); (try clear hb2); (try clear hk); (try clear hi)))
                    go_ret
                    exact ⟨by first | rfl | (simp [errW_none, errW_some] <;> rfl) | (simp only [← hji16, ← hji17]; first | rfl | (simp [errW_none, errW_some] <;> rfl)) | (simp [*, errW_none, errW_some] <;> rfl), by repeat (first | (with_reducible first | exact HB.out | apply below_alloc | apply pw_below_drewN | apply below_drew1) | exact HB.out)⟩
                  · rw [if_neg c37] at H
                    have c37b0 : (x12_13 == (decide (t227 ≤ a2))) = false := by simpa using c37
                    (try (have c37b1 : decide (x12_13 = (decide (t227 ≤ a2))) = false := by simpa using c37))
                    (try (have c37b2 : (x12_13 == (decide (t227 ≤ a2))) = false := by simpa using c37))
                    (try (have c37b3 : ¬ (x12_13 = (decide (t227 ≤ a2))) := by simpa using c37))
                    clear c37
                    obtain rfl := Option.some.inj H
                    go_wp2_with (first | ((with_reducible refine gate_callee (f := 12) rfl ?_); refine goesL_ (some 66) rfl rfl Try.func12 (by kernel_rfl) rfl #[.int .i64 a0, .int .i64 a1, .int .i64 0] rfl (by (try simp only [List.map_toArray, List.map_cons, List.map_nil]); first | done | rfl | (simp only [List.length_drop, List.length_take]; rfl)) ?_; (with_reducible refine (metric_Ring.calls a0 a1 0 t221 t222 _ A18.out).mono ?_); rintro e w43 ⟨rfl, hb⟩; refine ⟨_, rfl, ?_⟩; have n0_ := Aside0.mk (below_step (by repeat (first | (with_reducible first | exact HB.out | apply below_alloc | apply pw_below_drewN | apply below_drew1) | exact HB.out)) hb); clear HB; have HB := n0_; clear n0_; (try clear hb); (try clear hb2); (try clear hk); (try clear hi)) | ((with_reducible refine gate_callee (f := 11) rfl ?_); refine goesL_ (some 77) rfl rfl Try.func11 (by kernel_rfl) rfl #[] rfl (by (try simp only [List.map_toArray, List.map_cons, List.map_nil]); first | done | rfl | (simp only [List.length_drop, List.length_take]; rfl)) ?_; (with_reducible refine (antiquarylaw05_sanity.calls kj13  true _ A34.out).mono ?_); rintro e w44 ⟨rfl, hb⟩; refine ⟨_, rfl, ?_⟩; have n0_ := Aside0.mk (below_step (by repeat (first | (with_reducible first | exact HB.out | apply below_alloc | apply pw_below_drewN | apply below_drew1) | exact HB.out)) hb); clear HB; have HB := n0_; clear n0_; (try clear hb); (try clear hb2); (try clear hk); (try clear hi)) | (go_at_call 14; (with_reducible refine (metric_Low.calls a0 a1 a3 t227 _ A36.out).mono ?_); rintro e w45 ⟨rfl, hb⟩; have n0_ := Aside0.mk (below_step (by repeat (first | (with_reducible first | exact HB.out | apply below_alloc | apply pw_below_drewN | apply below_drew1) | exact HB.out)) hb); clear HB; have HB := n0_; clear n0_; (try clear hb); (try clear hb2); (try clear hk); (try clear hi)))
                    go_ret
                    exact ⟨by first | rfl | (simp [errW_none, errW_some] <;> rfl) | (simp only [← hji16, ← hji17]; first | rfl | (simp [errW_none, errW_some] <;> rfl)) | (simp [*, errW_none, errW_some] <;> rfl), by repeat (first | (with_reducible first | exact HB.out | apply below_alloc | apply pw_below_drewN | apply below_drew1) | exact HB.out)⟩
                · replace c35 := Bool.eq_false_iff.mpr c35
                  subst c35
                  have H1 : (some false) = some r := by rw [if_neg (show ¬ (false = true) by decide)] at H; exact H
                  clear H
                  have H := H1
                  clear H1
                  obtain rfl := Option.some.inj H
                  go_wp2_with (first | ((with_reducible refine gate_callee (f := 12) rfl ?_); refine goesL_ (some 66) rfl rfl Try.func12 (by kernel_rfl) rfl #[.int .i64 a0, .int .i64 a1, .int .i64 0] rfl (by (try simp only [List.map_toArray, List.map_cons, List.map_nil]); first | done | rfl | (simp only [List.length_drop, List.length_take]; rfl)) ?_; (with_reducible refine (metric_Ring.calls a0 a1 0 t221 t222 _ A18.out).mono ?_); rintro e w46 ⟨rfl, hb⟩; refine ⟨_, rfl, ?_⟩; have n0_ := Aside0.mk (below_step (by repeat (first | (with_reducible first | exact HB.out | apply below_alloc | apply pw_below_drewN | apply below_drew1) | exact HB.out)) hb); clear HB; have HB := n0_; clear n0_; (try clear hb); (try clear hb2); (try clear hk); (try clear hi)) | ((with_reducible refine gate_callee (f := 11) rfl ?_); refine goesL_ (some 77) rfl rfl Try.func11 (by kernel_rfl) rfl #[] rfl (by (try simp only [List.map_toArray, List.map_cons, List.map_nil]); first | done | rfl | (simp only [List.length_drop, List.length_take]; rfl)) ?_; (with_reducible refine (antiquarylaw05_sanity.calls kj13  false _ A34.out).mono ?_); rintro e w47 ⟨rfl, hb⟩; refine ⟨_, rfl, ?_⟩; have n0_ := Aside0.mk (below_step (by repeat (first | (with_reducible first | exact HB.out | apply below_alloc | apply pw_below_drewN | apply below_drew1) | exact HB.out)) hb); clear HB; have HB := n0_; clear n0_; (try clear hb); (try clear hb2); (try clear hk); (try clear hi)))
                  go_ret
                  exact ⟨by first | rfl | (simp [errW_none, errW_some] <;> rfl) | (simp only [← hji16, ← hji17]; first | rfl | (simp [errW_none, errW_some] <;> rfl)) | (simp [*, errW_none, errW_some] <;> rfl), by repeat (first | (with_reducible first | exact HB.out | apply below_alloc | apply pw_below_drewN | apply below_drew1) | exact HB.out)⟩
  · replace c6 := Bool.eq_false_iff.mpr c6
    subst c6
    have H1 : ((antiquarylaw05_sanity.f k).bind fun t218 => (some t218)) = some r := by rw [if_neg (show ¬ (false = true) by decide)] at H; exact H
    clear H
    have H := H1
    clear H1
    replace H := Option.bind_eq_some_iff.mp H
    obtain ⟨t218, A480, H⟩ := H
    replace H : (some t218) = some r := H
    have A48 := Aside0.mk A480
    clear A480
    obtain rfl := Option.some.inj H
    go_enter Try.func6, Try.ntmps6
    go_wp2_with (first | ((with_reducible refine gate_callee (f := 10) rfl ?_); refine goesL_ (some 22) rfl rfl Try.func10 (by kernel_rfl) rfl #[.int .i64 a0, .int .i64 a1, .int .i64 a2, .int .i64 a3] rfl (by (try simp only [List.map_toArray, List.map_cons, List.map_nil]); first | done | rfl | (simp only [List.length_drop, List.length_take]; rfl)) ?_; (with_reducible refine (antiquarylaw05_keys.calls a0 a1 a2 a3 false _ A5.out).mono ?_); rintro e w' ⟨rfl, ⟨nd, rfl⟩⟩; refine ⟨_, rfl, ?_⟩) | ((with_reducible refine gate_callee (f := 11) rfl ?_); refine goesL_ (some 25) rfl rfl Try.func11 (by kernel_rfl) rfl #[] rfl (by (try simp only [List.map_toArray, List.map_cons, List.map_nil]); first | done | rfl | (simp only [List.length_drop, List.length_take]; rfl)) ?_; (with_reducible refine (antiquarylaw05_sanity.calls k  t218 _ A48.out).mono ?_); rintro e w49 ⟨rfl, hb⟩; refine ⟨_, rfl, ?_⟩; have n0_ := Aside0.mk (below_step (by repeat (first | (with_reducible first | exact HB.out | apply below_alloc | apply pw_below_drewN | apply below_drew1) | exact HB.out)) hb); clear HB; have HB := n0_; clear n0_; (try clear hb); (try clear hb2); (try clear hk); (try clear hi)))
    go_ret
    exact ⟨by first | rfl | (simp [errW_none, errW_some] <;> rfl) | (simp [*, errW_none, errW_some] <;> rfl), by repeat (first | (with_reducible first | exact HB.out | apply below_alloc | apply pw_below_drewN | apply below_drew1) | exact HB.out)⟩

/-- THE ONE PURE STATEMENT of antiquarylaw05_MetricRingsAreExact: yours. -/
def antiquarylaw05_MetricRingsAreExact.Pure : Prop := ∀ (a0 : Int) (a1 : Int) (a2 : Int) (a3 : Int), (Lit.int .i64 a0).wf = true → (Lit.int .i64 a1).wf = true → (Lit.int .i64 a2).wf = true → (Lit.int .i64 a3).wf = true → ∃ k, antiquarylaw05_MetricRingsAreExact.f k a0 a1 a2 a3 = some true
theorem antiquarylaw05_MetricRingsAreExact.walk (P : antiquarylaw05_MetricRingsAreExact.Pure) (a0 : Int) (a1 : Int) (a2 : Int) (a3 : Int) (w : World) (w0 : (Lit.int .i64 a0).wf = true) (w1 : (Lit.int .i64 a1).wf = true) (w2 : (Lit.int .i64 a2).wf = true) (w3 : (Lit.int .i64 a3).wf = true) :
    Calls Try.prog 6 #[.int .i64 a0, .int .i64 a1, .int .i64 a2, .int .i64 a3] w fun e w' => e = .returned (.bool true) ∧ Below w.heap.size w w' := by
  obtain ⟨k, h⟩ := P a0 a1 a2 a3 w0 w1 w2 w3
  refine (antiquarylaw05_MetricRingsAreExact.calls k a0 a1 a2 a3 true w h).mono ?_
  rintro e w' ⟨rfl, hd⟩
  exact ⟨rfl, hd⟩

end Go.Proofs.Ytflnbgdjpflbeaa.Q
