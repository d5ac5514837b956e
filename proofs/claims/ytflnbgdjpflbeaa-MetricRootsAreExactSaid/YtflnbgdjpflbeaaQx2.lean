/- Printed by a program of this claim (print2.py), over the kit's print, with contracts proved by hand among them. -/
import Derived.Test.YtflnbgdjpflbeaaQx0
import Derived.Test.YtflnbgdjpflbeaaQx1
namespace Go.Proofs.Ytflnbgdjpflbeaa.Q
open Go.RowKit Go.Proofs.YtflnbgdjpflbeaaW.PrintWords Go.Proofs.YtflnbgdjpflbeaaW.PrintLast Go.Proofs.YtflnbgdjpflbeaaW.PrintMore
attribute [local go_sem] max2_int min2_int max_two min_two max_three min_three max_four min_four   -- for this text's walks alone
set_option linter.unusedVariables false
set_option linter.unusedSimpArgs false

/-! ### antiquarylaw05_sanity: function 11 -/
mutual
def antiquarylaw05_sanity.j0 : Nat → Int → Int → Int → Int → Int → Int → Int → Bool → Option (Bool)
  | 0, _, _, _, _, _, _, _, _ => none
  | k + 1, x1, x2, x3, x4, x5, x6, x7, x8 => (metric_Low.f x1 9 25).bind fun t127 => (if t127 = 4 then ((metric_High.f x1 9 25).bind fun t128 => (if t128 = 64 then ((metric_Low.f x1 2 3).bind fun t129 => (if t129 = 1 then ((metric_High.f x1 2 3).bind fun t130 => (antiquarylaw05_sanity.j1 k x1 x2 x3 x4 x5 x6 x7 x8 (t130 == 9))) else (antiquarylaw05_sanity.j1 k x1 x2 x3 x4 x5 x6 x7 x8 false))) else (antiquarylaw05_sanity.j1 k x1 x2 x3 x4 x5 x6 x7 x8 false))) else (antiquarylaw05_sanity.j1 k x1 x2 x3 x4 x5 x6 x7 x8 false))
def antiquarylaw05_sanity.j1 : Nat → Int → Int → Int → Int → Int → Int → Int → Bool → Bool → Option (Bool)
  | 0, _, _, _, _, _, _, _, _, _ => none
  | k + 1, x1, x2, x3, x4, x5, x6, x7, x8, x9 => (metric_Triangle.f x1 9 25 64).bind fun t131 => (if t131 = true then ((metric_Triangle.f x1 9 25 65).bind fun t132 => (if t132 = true then (antiquarylaw05_sanity.j2 k x1 x2 x3 x4 x5 x6 x7 x8 x9 false) else ((metric_Triangle.f x1 9 25 3).bind fun t133 => (antiquarylaw05_sanity.j2 k x1 x2 x3 x4 x5 x6 x7 x8 x9 (!t133))))) else (antiquarylaw05_sanity.j2 k x1 x2 x3 x4 x5 x6 x7 x8 x9 false))
def antiquarylaw05_sanity.j2 : Nat → Int → Int → Int → Int → Int → Int → Int → Bool → Bool → Bool → Option (Bool)
  | 0, _, _, _, _, _, _, _, _, _, _ => none
  | k + 1, x1, x2, x3, x4, x5, x6, x7, x8, x9, x10 => if x2 = 4 then (if x3 = 64 then (if x4 = 16 then (if x5 = 34 then (if x6 = 0 then (antiquarylaw05_sanity.j3 k x1 x8 x9 x10 (x7 == 25)) else (antiquarylaw05_sanity.j3 k x1 x8 x9 x10 false)) else (antiquarylaw05_sanity.j3 k x1 x8 x9 x10 false)) else (antiquarylaw05_sanity.j3 k x1 x8 x9 x10 false)) else (antiquarylaw05_sanity.j3 k x1 x8 x9 x10 false)) else (antiquarylaw05_sanity.j3 k x1 x8 x9 x10 false)
def antiquarylaw05_sanity.j3 : Nat → Int → Bool → Bool → Bool → Bool → Option (Bool)
  | 0, _, _, _, _, _ => none
  | k + 1, x1, x8, x9, x10, x11 => if x8 = true then (if x9 = true then (if x10 = true then (if x11 = true then ((metric_Gap.f x1 9 16 25).bind fun t134 => (if t134 = 1 then ((metric_Gap.f x1 9 16 10).bind fun t135 => (if t135 = 0 then ((metric_Reach.f x1 9 16 25).bind fun t136 => (if t136 = 81 then ((metric_Ball.f x1 64 9 25).bind fun t137 => (if t137 = true then ((metric_Ball.f x1 65 9 25).bind fun t138 => (some (!t138))) else (some false))) else (some false))) else (some false))) else (some false))) else (some false)) else (some false)) else (some false)) else (some false)
end
def antiquarylaw05_sanity.f (k : Nat)  : Option (Bool) := (metric_Ring.f 2 25 9).bind fun bt116 => ((metric_Ring.f 1 25 9).bind fun bt118 => ((metric_Ring.f 2 4 9).bind fun bt120 => ((metric_Isqrt.f k 35).bind fun t122 => (if t122 = 5 then ((metric_Isqrt.f k 36).bind fun t123 => (if t123 = 6 then ((metric_Isqrt.f k (-1)).bind fun t124 => (if t124 = 0 then ((metric_Low.f 1 9 25).bind fun t125 => (if t125 = 16 then ((metric_High.f 1 9 25).bind fun t126 => (antiquarylaw05_sanity.j0 k 2 bt116.1 bt116.2 bt118.1 bt118.2 bt120.1 bt120.2 (t126 == 34))) else (antiquarylaw05_sanity.j0 k 2 bt116.1 bt116.2 bt118.1 bt118.2 bt120.1 bt120.2 false))) else (antiquarylaw05_sanity.j0 k 2 bt116.1 bt116.2 bt118.1 bt118.2 bt120.1 bt120.2 false))) else (antiquarylaw05_sanity.j0 k 2 bt116.1 bt116.2 bt118.1 bt118.2 bt120.1 bt120.2 false))) else (antiquarylaw05_sanity.j0 k 2 bt116.1 bt116.2 bt118.1 bt118.2 bt120.1 bt120.2 false)))))
theorem antiquarylaw05_sanity.mono_l : ∀ k, (∀ y0 y1 y2 y3 y4 y5 y6 y7, LeO (antiquarylaw05_sanity.j0 k y0 y1 y2 y3 y4 y5 y6 y7) (antiquarylaw05_sanity.j0 (k + 1) y0 y1 y2 y3 y4 y5 y6 y7)) ∧ (∀ y0 y1 y2 y3 y4 y5 y6 y7 y8, LeO (antiquarylaw05_sanity.j1 k y0 y1 y2 y3 y4 y5 y6 y7 y8) (antiquarylaw05_sanity.j1 (k + 1) y0 y1 y2 y3 y4 y5 y6 y7 y8)) ∧ (∀ y0 y1 y2 y3 y4 y5 y6 y7 y8 y9, LeO (antiquarylaw05_sanity.j2 k y0 y1 y2 y3 y4 y5 y6 y7 y8 y9) (antiquarylaw05_sanity.j2 (k + 1) y0 y1 y2 y3 y4 y5 y6 y7 y8 y9)) ∧ (∀ y0 y1 y2 y3 y4, LeO (antiquarylaw05_sanity.j3 k y0 y1 y2 y3 y4) (antiquarylaw05_sanity.j3 (k + 1) y0 y1 y2 y3 y4))
  | 0 => ⟨fun _ _ _ _ _ _ _ _ r h => by simp [antiquarylaw05_sanity.j0] at h, fun _ _ _ _ _ _ _ _ _ r h => by simp [antiquarylaw05_sanity.j1] at h, fun _ _ _ _ _ _ _ _ _ _ r h => by simp [antiquarylaw05_sanity.j2] at h, fun _ _ _ _ _ r h => by simp [antiquarylaw05_sanity.j3] at h⟩
  | k + 1 => by
    obtain ⟨ih0, ih1, ih2, ih3⟩ := antiquarylaw05_sanity.mono_l k
    refine ⟨?_, ?_, ?_, ?_⟩
    · intro y0 y1 y2 y3 y4 y5 y6 y7
      unfold antiquarylaw05_sanity.j0
      repeat' first
      | (with_reducible exact ih0 _ _ _ _ _ _ _ _)
      | (with_reducible exact ih1 _ _ _ _ _ _ _ _ _)
      | (with_reducible exact ih2 _ _ _ _ _ _ _ _ _ _)
      | (with_reducible exact ih3 _ _ _ _ _)
      | (with_reducible exact metric_Isqrt.mono _ _)
      | (with_reducible exact LeO.refl _)
      | (with_reducible exact LeO.none _)
      | (with_reducible refine LeO.ite ?_ ?_)
      | (with_reducible refine LeO.bind ?_ (fun _ => ?_))
      | exact ih0 _ _ _ _ _ _ _ _
      | exact ih1 _ _ _ _ _ _ _ _ _
      | exact ih2 _ _ _ _ _ _ _ _ _ _
      | exact ih3 _ _ _ _ _
      | exact metric_Isqrt.mono _ _
      | exact LeO.none _
      | refine LeO.ite ?_ ?_
      | refine LeO.bind ?_ (fun _ => ?_)
    · intro y0 y1 y2 y3 y4 y5 y6 y7 y8
      unfold antiquarylaw05_sanity.j1
      repeat' first
      | (with_reducible exact ih0 _ _ _ _ _ _ _ _)
      | (with_reducible exact ih1 _ _ _ _ _ _ _ _ _)
      | (with_reducible exact ih2 _ _ _ _ _ _ _ _ _ _)
      | (with_reducible exact ih3 _ _ _ _ _)
      | (with_reducible exact metric_Isqrt.mono _ _)
      | (with_reducible exact LeO.refl _)
      | (with_reducible exact LeO.none _)
      | (with_reducible refine LeO.ite ?_ ?_)
      | (with_reducible refine LeO.bind ?_ (fun _ => ?_))
      | exact ih0 _ _ _ _ _ _ _ _
      | exact ih1 _ _ _ _ _ _ _ _ _
      | exact ih2 _ _ _ _ _ _ _ _ _ _
      | exact ih3 _ _ _ _ _
      | exact metric_Isqrt.mono _ _
      | exact LeO.none _
      | refine LeO.ite ?_ ?_
      | refine LeO.bind ?_ (fun _ => ?_)
    · intro y0 y1 y2 y3 y4 y5 y6 y7 y8 y9
      unfold antiquarylaw05_sanity.j2
      repeat' first
      | (with_reducible exact ih0 _ _ _ _ _ _ _ _)
      | (with_reducible exact ih1 _ _ _ _ _ _ _ _ _)
      | (with_reducible exact ih2 _ _ _ _ _ _ _ _ _ _)
      | (with_reducible exact ih3 _ _ _ _ _)
      | (with_reducible exact metric_Isqrt.mono _ _)
      | (with_reducible exact LeO.refl _)
      | (with_reducible exact LeO.none _)
      | (with_reducible refine LeO.ite ?_ ?_)
      | (with_reducible refine LeO.bind ?_ (fun _ => ?_))
      | exact ih0 _ _ _ _ _ _ _ _
      | exact ih1 _ _ _ _ _ _ _ _ _
      | exact ih2 _ _ _ _ _ _ _ _ _ _
      | exact ih3 _ _ _ _ _
      | exact metric_Isqrt.mono _ _
      | exact LeO.none _
      | refine LeO.ite ?_ ?_
      | refine LeO.bind ?_ (fun _ => ?_)
    · intro y0 y1 y2 y3 y4
      unfold antiquarylaw05_sanity.j3
      repeat' first
      | (with_reducible exact ih0 _ _ _ _ _ _ _ _)
      | (with_reducible exact ih1 _ _ _ _ _ _ _ _ _)
      | (with_reducible exact ih2 _ _ _ _ _ _ _ _ _ _)
      | (with_reducible exact ih3 _ _ _ _ _)
      | (with_reducible exact metric_Isqrt.mono _ _)
      | (with_reducible exact LeO.refl _)
      | (with_reducible exact LeO.none _)
      | (with_reducible refine LeO.ite ?_ ?_)
      | (with_reducible refine LeO.bind ?_ (fun _ => ?_))
      | exact ih0 _ _ _ _ _ _ _ _
      | exact ih1 _ _ _ _ _ _ _ _ _
      | exact ih2 _ _ _ _ _ _ _ _ _ _
      | exact ih3 _ _ _ _ _
      | exact metric_Isqrt.mono _ _
      | exact LeO.none _
      | refine LeO.ite ?_ ?_
      | refine LeO.bind ?_ (fun _ => ?_)
theorem antiquarylaw05_sanity.mono : ∀ k, LeO (antiquarylaw05_sanity.f k ) (antiquarylaw05_sanity.f (k + 1) ) := by
  intro  k
  obtain ⟨ih0, ih1, ih2, ih3⟩ := antiquarylaw05_sanity.mono_l k
  unfold antiquarylaw05_sanity.f
  repeat' first
      | (with_reducible exact ih0 _ _ _ _ _ _ _ _)
      | (with_reducible exact ih1 _ _ _ _ _ _ _ _ _)
      | (with_reducible exact ih2 _ _ _ _ _ _ _ _ _ _)
      | (with_reducible exact ih3 _ _ _ _ _)
      | (with_reducible exact metric_Isqrt.mono _ _)
      | (with_reducible exact LeO.refl _)
      | (with_reducible exact LeO.none _)
      | (with_reducible refine LeO.ite ?_ ?_)
      | (with_reducible refine LeO.bind ?_ (fun _ => ?_))
      | exact ih0 _ _ _ _ _ _ _ _
      | exact ih1 _ _ _ _ _ _ _ _ _
      | exact ih2 _ _ _ _ _ _ _ _ _ _
      | exact ih3 _ _ _ _ _
      | exact metric_Isqrt.mono _ _
      | exact LeO.none _
      | refine LeO.ite ?_ ?_
      | refine LeO.bind ?_ (fun _ => ?_)
set_option maxHeartbeats 8000000 in
set_option maxRecDepth 100000 in
theorem antiquarylaw05_sanity.calls (k : Nat)  (r : Bool) (w : World) (h : antiquarylaw05_sanity.f k  = some r) :
    Calls Try.prog 11 #[] w fun e w' => e = .returned (.bool r) ∧ Below w.heap.size w w' := by
  have HB := Aside0.mk (Below.refl w.heap.size w)
  have H : ((metric_Ring.f 2 25 9).bind fun bt116 => ((metric_Ring.f 1 25 9).bind fun bt118 => ((metric_Ring.f 2 4 9).bind fun bt120 => ((metric_Isqrt.f k 35).bind fun t122 => (if t122 = 5 then ((metric_Isqrt.f k 36).bind fun t123 => (if t123 = 6 then ((metric_Isqrt.f k (-1)).bind fun t124 => (if t124 = 0 then ((metric_Low.f 1 9 25).bind fun t125 => (if t125 = 16 then ((metric_High.f 1 9 25).bind fun t126 => (antiquarylaw05_sanity.j0 k 2 bt116.1 bt116.2 bt118.1 bt118.2 bt120.1 bt120.2 (t126 == 34))) else (antiquarylaw05_sanity.j0 k 2 bt116.1 bt116.2 bt118.1 bt118.2 bt120.1 bt120.2 false))) else (antiquarylaw05_sanity.j0 k 2 bt116.1 bt116.2 bt118.1 bt118.2 bt120.1 bt120.2 false))) else (antiquarylaw05_sanity.j0 k 2 bt116.1 bt116.2 bt118.1 bt118.2 bt120.1 bt120.2 false))) else (antiquarylaw05_sanity.j0 k 2 bt116.1 bt116.2 bt118.1 bt118.2 bt120.1 bt120.2 false)))))) = some r := h
  clear h
  replace H := Option.bind_eq_some_iff.mp H
  obtain ⟨⟨t116, t117⟩, A10, H⟩ := H
  replace H : ((metric_Ring.f 1 25 9).bind fun bt118 => ((metric_Ring.f 2 4 9).bind fun bt120 => ((metric_Isqrt.f k 35).bind fun t122 => (if t122 = 5 then ((metric_Isqrt.f k 36).bind fun t123 => (if t123 = 6 then ((metric_Isqrt.f k (-1)).bind fun t124 => (if t124 = 0 then ((metric_Low.f 1 9 25).bind fun t125 => (if t125 = 16 then ((metric_High.f 1 9 25).bind fun t126 => (antiquarylaw05_sanity.j0 k 2 t116 t117 bt118.1 bt118.2 bt120.1 bt120.2 (t126 == 34))) else (antiquarylaw05_sanity.j0 k 2 t116 t117 bt118.1 bt118.2 bt120.1 bt120.2 false))) else (antiquarylaw05_sanity.j0 k 2 t116 t117 bt118.1 bt118.2 bt120.1 bt120.2 false))) else (antiquarylaw05_sanity.j0 k 2 t116 t117 bt118.1 bt118.2 bt120.1 bt120.2 false))) else (antiquarylaw05_sanity.j0 k 2 t116 t117 bt118.1 bt118.2 bt120.1 bt120.2 false))))) = some r := H
  have A1 := Aside0.mk A10
  clear A10
  replace H := Option.bind_eq_some_iff.mp H
  obtain ⟨⟨t118, t119⟩, A20, H⟩ := H
  replace H : ((metric_Ring.f 2 4 9).bind fun bt120 => ((metric_Isqrt.f k 35).bind fun t122 => (if t122 = 5 then ((metric_Isqrt.f k 36).bind fun t123 => (if t123 = 6 then ((metric_Isqrt.f k (-1)).bind fun t124 => (if t124 = 0 then ((metric_Low.f 1 9 25).bind fun t125 => (if t125 = 16 then ((metric_High.f 1 9 25).bind fun t126 => (antiquarylaw05_sanity.j0 k 2 t116 t117 t118 t119 bt120.1 bt120.2 (t126 == 34))) else (antiquarylaw05_sanity.j0 k 2 t116 t117 t118 t119 bt120.1 bt120.2 false))) else (antiquarylaw05_sanity.j0 k 2 t116 t117 t118 t119 bt120.1 bt120.2 false))) else (antiquarylaw05_sanity.j0 k 2 t116 t117 t118 t119 bt120.1 bt120.2 false))) else (antiquarylaw05_sanity.j0 k 2 t116 t117 t118 t119 bt120.1 bt120.2 false)))) = some r := H
  have A2 := Aside0.mk A20
  clear A20
  replace H := Option.bind_eq_some_iff.mp H
  obtain ⟨⟨t120, t121⟩, A30, H⟩ := H
  replace H : ((metric_Isqrt.f k 35).bind fun t122 => (if t122 = 5 then ((metric_Isqrt.f k 36).bind fun t123 => (if t123 = 6 then ((metric_Isqrt.f k (-1)).bind fun t124 => (if t124 = 0 then ((metric_Low.f 1 9 25).bind fun t125 => (if t125 = 16 then ((metric_High.f 1 9 25).bind fun t126 => (antiquarylaw05_sanity.j0 k 2 t116 t117 t118 t119 t120 t121 (t126 == 34))) else (antiquarylaw05_sanity.j0 k 2 t116 t117 t118 t119 t120 t121 false))) else (antiquarylaw05_sanity.j0 k 2 t116 t117 t118 t119 t120 t121 false))) else (antiquarylaw05_sanity.j0 k 2 t116 t117 t118 t119 t120 t121 false))) else (antiquarylaw05_sanity.j0 k 2 t116 t117 t118 t119 t120 t121 false))) = some r := H
  have A3 := Aside0.mk A30
  clear A30
  have HC4 := Aside0.mk H
  clear H
  go_enter Try.func11, Try.ntmps11
  go_upto_region 5 with (first | ((with_reducible refine gate_callee (f := 12) rfl ?_); refine goesL_ (some 14) rfl rfl Try.func12 (by kernel_rfl) rfl #[.int .i64 2, .int .i64 25, .int .i64 9] rfl (by (try simp only [List.map_toArray, List.map_cons, List.map_nil]); first | done | rfl | (simp only [List.length_drop, List.length_take]; rfl)) ?_; (with_reducible refine (metric_Ring.calls 2 25 9 t116 t117 _ A1.out).mono ?_); rintro e w5 ⟨rfl, hb⟩; refine ⟨_, rfl, ?_⟩; have n0_ := Aside0.mk (below_step (by repeat (first | (with_reducible first | exact HB.out | apply below_alloc | apply pw_below_drewN | apply below_drew1) | exact HB.out)) hb); clear HB; have HB := n0_; clear n0_; (try clear hb); (try clear hb2); (try clear hk); (try clear hi)) | ((with_reducible refine gate_callee (f := 12) rfl ?_); refine goesL_ (some 18) rfl rfl Try.func12 (by kernel_rfl) rfl #[.int .i64 1, .int .i64 25, .int .i64 9] rfl (by (try simp only [List.map_toArray, List.map_cons, List.map_nil]); first | done | rfl | (simp only [List.length_drop, List.length_take]; rfl)) ?_; (with_reducible refine (metric_Ring.calls 1 25 9 t118 t119 _ A2.out).mono ?_); rintro e w6 ⟨rfl, hb⟩; refine ⟨_, rfl, ?_⟩; have n0_ := Aside0.mk (below_step (by repeat (first | (with_reducible first | exact HB.out | apply below_alloc | apply pw_below_drewN | apply below_drew1) | exact HB.out)) hb); clear HB; have HB := n0_; clear n0_; (try clear hb); (try clear hb2); (try clear hk); (try clear hi)) | ((with_reducible refine gate_callee (f := 12) rfl ?_); refine goesL_ (some 23) rfl rfl Try.func12 (by kernel_rfl) rfl #[.int .i64 2, .int .i64 4, .int .i64 9] rfl (by (try simp only [List.map_toArray, List.map_cons, List.map_nil]); first | done | rfl | (simp only [List.length_drop, List.length_take]; rfl)) ?_; (with_reducible refine (metric_Ring.calls 2 4 9 t120 t121 _ A3.out).mono ?_); rintro e w7 ⟨rfl, hb⟩; refine ⟨_, rfl, ?_⟩; have n0_ := Aside0.mk (below_step (by repeat (first | (with_reducible first | exact HB.out | apply below_alloc | apply pw_below_drewN | apply below_drew1) | exact HB.out)) hb); clear HB; have HB := n0_; clear n0_; (try clear hb); (try clear hb2); (try clear hk); (try clear hi)))
  (try simp only [Act.put, List.setIfInBounds_toArray, List.set_cons_zero, List.set_cons_succ])
  go_cut [8] (fun v8 wc => ∃ (kq : Nat) (x8_3 : Bool), v8 = .bool x8_3 ∧ Aside0 (antiquarylaw05_sanity.j0 kq 2 t116 t117 t118 t119 t120 t121 x8_3 = some r) ∧ Aside0 (kq ≤ k) ∧ Aside0 (Below w.heap.size w wc))
  case first =>
    have H := HC4.out
    clear HC4
    replace H := Option.bind_eq_some_iff.mp H
    obtain ⟨t122, A80, H⟩ := H
    replace H : (if t122 = 5 then ((metric_Isqrt.f k 36).bind fun t123 => (if t123 = 6 then ((metric_Isqrt.f k (-1)).bind fun t124 => (if t124 = 0 then ((metric_Low.f 1 9 25).bind fun t125 => (if t125 = 16 then ((metric_High.f 1 9 25).bind fun t126 => (antiquarylaw05_sanity.j0 k 2 t116 t117 t118 t119 t120 t121 (t126 == 34))) else (antiquarylaw05_sanity.j0 k 2 t116 t117 t118 t119 t120 t121 false))) else (antiquarylaw05_sanity.j0 k 2 t116 t117 t118 t119 t120 t121 false))) else (antiquarylaw05_sanity.j0 k 2 t116 t117 t118 t119 t120 t121 false))) else (antiquarylaw05_sanity.j0 k 2 t116 t117 t118 t119 t120 t121 false)) = some r := H
    have A8 := Aside0.mk A80
    clear A80
    by_cases c9 : t122 = 5
    · rw [if_pos c9] at H
      have c9b0 : (t122 == 5) = true := beq_iff_eq.mpr c9
      have c9b1 : (t122 != 5) = false := bne_eq_false_iff_eq.mpr c9
      clear c9
      (first | rw [c9b0] | (simp only [i64_w, i32_w]; rw [c9b0]) | skip)
      replace H := Option.bind_eq_some_iff.mp H
      obtain ⟨t123, A100, H⟩ := H
      replace H : (if t123 = 6 then ((metric_Isqrt.f k (-1)).bind fun t124 => (if t124 = 0 then ((metric_Low.f 1 9 25).bind fun t125 => (if t125 = 16 then ((metric_High.f 1 9 25).bind fun t126 => (antiquarylaw05_sanity.j0 k 2 t116 t117 t118 t119 t120 t121 (t126 == 34))) else (antiquarylaw05_sanity.j0 k 2 t116 t117 t118 t119 t120 t121 false))) else (antiquarylaw05_sanity.j0 k 2 t116 t117 t118 t119 t120 t121 false))) else (antiquarylaw05_sanity.j0 k 2 t116 t117 t118 t119 t120 t121 false)) = some r := H
      have A10 := Aside0.mk A100
      clear A100
      by_cases c11 : t123 = 6
      · rw [if_pos c11] at H
        have c11b0 : (t123 == 6) = true := beq_iff_eq.mpr c11
        have c11b1 : (t123 != 6) = false := bne_eq_false_iff_eq.mpr c11
        clear c11
        replace H := Option.bind_eq_some_iff.mp H
        obtain ⟨t124, A120, H⟩ := H
        replace H : (if t124 = 0 then ((metric_Low.f 1 9 25).bind fun t125 => (if t125 = 16 then ((metric_High.f 1 9 25).bind fun t126 => (antiquarylaw05_sanity.j0 k 2 t116 t117 t118 t119 t120 t121 (t126 == 34))) else (antiquarylaw05_sanity.j0 k 2 t116 t117 t118 t119 t120 t121 false))) else (antiquarylaw05_sanity.j0 k 2 t116 t117 t118 t119 t120 t121 false)) = some r := H
        have A12 := Aside0.mk A120
        clear A120
        by_cases c13 : t124 = 0
        · rw [if_pos c13] at H
          have c13b0 : (t124 == 0) = true := beq_iff_eq.mpr c13
          have c13b1 : (t124 != 0) = false := bne_eq_false_iff_eq.mpr c13
          clear c13
          replace H := Option.bind_eq_some_iff.mp H
          obtain ⟨t125, A140, H⟩ := H
          replace H : (if t125 = 16 then ((metric_High.f 1 9 25).bind fun t126 => (antiquarylaw05_sanity.j0 k 2 t116 t117 t118 t119 t120 t121 (t126 == 34))) else (antiquarylaw05_sanity.j0 k 2 t116 t117 t118 t119 t120 t121 false)) = some r := H
          have A14 := Aside0.mk A140
          clear A140
          by_cases c15 : t125 = 16
          · rw [if_pos c15] at H
            have c15b0 : (t125 == 16) = true := beq_iff_eq.mpr c15
            have c15b1 : (t125 != 16) = false := bne_eq_false_iff_eq.mpr c15
            clear c15
            replace H := Option.bind_eq_some_iff.mp H
            obtain ⟨t126, A160, H⟩ := H
            replace H : (antiquarylaw05_sanity.j0 k 2 t116 t117 t118 t119 t120 t121 (t126 == 34)) = some r := H
            have A16 := Aside0.mk A160
            clear A160
            have H' := Aside0.mk H
            clear H
            go_wp2_with (first | ((with_reducible refine gate_callee (f := 30) rfl ?_); refine goesL_ (some 26) rfl rfl Try.func30 (by kernel_rfl) rfl #[.int .i64 35] rfl (by (try simp only [List.map_toArray, List.map_cons, List.map_nil]); first | done | rfl | (simp only [List.length_drop, List.length_take]; rfl)) ?_; (with_reducible refine (metric_Isqrt.calls k 35 t122 _ A8.out).mono ?_); rintro e w' ⟨rfl, ⟨nd, rfl⟩⟩; refine ⟨_, rfl, ?_⟩) | (go_at_call 30; (with_reducible refine (metric_Isqrt.calls k 36 t123 _ A10.out).mono ?_); rintro e w' ⟨rfl, ⟨nd, rfl⟩⟩) | (go_at_call 30; (with_reducible refine (metric_Isqrt.calls k (-1) t124 _ A12.out).mono ?_); rintro e w' ⟨rfl, ⟨nd, rfl⟩⟩) | (go_at_call 14; (with_reducible refine (metric_Low.calls 1 9 25 t125 _ A14.out).mono ?_); rintro e w17 ⟨rfl, hb⟩; have n0_ := Aside0.mk (below_step (by repeat (first | (with_reducible first | exact HB.out | apply below_alloc | apply pw_below_drewN | apply below_drew1) | exact HB.out)) hb); clear HB; have HB := n0_; clear n0_; (try clear hb); (try clear hb2); (try clear hk); (try clear hi)) | (go_at_call 16; (with_reducible refine (metric_High.calls 1 9 25 t126 _ A16.out).mono ?_); rintro e w18 ⟨rfl, hb⟩; have n0_ := Aside0.mk (below_step (by repeat (first | (with_reducible first | exact HB.out | apply below_alloc | apply pw_below_drewN | apply below_drew1) | exact HB.out)) hb); clear HB; have HB := n0_; clear n0_; (try clear hb); (try clear hb2); (try clear hk); (try clear hi)))
            go_meet
            case rel => exact ⟨_, ((t126 == 34)), (by first | rfl | (simp; done) | (simp [*]; done)), H', ⟨by first | omega | exact Nat.le_refl _⟩, ⟨by repeat (first | (with_reducible first | exact HB.out | apply below_alloc | apply pw_below_drewN | apply below_drew1) | exact HB.out)⟩⟩
          · rw [if_neg c15] at H
            have c15b0 : (t125 == 16) = false := beq_eq_false_iff_ne.mpr c15
            have c15b1 : (t125 != 16) = true := bne_iff_ne.mpr c15
            have H' := Aside0.mk H
            clear H
            go_wp2_with (first | ((with_reducible refine gate_callee (f := 30) rfl ?_); refine goesL_ (some 26) rfl rfl Try.func30 (by kernel_rfl) rfl #[.int .i64 35] rfl (by (try simp only [List.map_toArray, List.map_cons, List.map_nil]); first | done | rfl | (simp only [List.length_drop, List.length_take]; rfl)) ?_; (with_reducible refine (metric_Isqrt.calls k 35 t122 _ A8.out).mono ?_); rintro e w' ⟨rfl, ⟨nd, rfl⟩⟩; refine ⟨_, rfl, ?_⟩) | (go_at_call 30; (with_reducible refine (metric_Isqrt.calls k 36 t123 _ A10.out).mono ?_); rintro e w' ⟨rfl, ⟨nd, rfl⟩⟩) | (go_at_call 30; (with_reducible refine (metric_Isqrt.calls k (-1) t124 _ A12.out).mono ?_); rintro e w' ⟨rfl, ⟨nd, rfl⟩⟩) | (go_at_call 14; (with_reducible refine (metric_Low.calls 1 9 25 t125 _ A14.out).mono ?_); rintro e w19 ⟨rfl, hb⟩; have n0_ := Aside0.mk (below_step (by repeat (first | (with_reducible first | exact HB.out | apply below_alloc | apply pw_below_drewN | apply below_drew1) | exact HB.out)) hb); clear HB; have HB := n0_; clear n0_; (try clear hb); (try clear hb2); (try clear hk); (try clear hi)))
            go_meet
            case rel => exact ⟨_, (false), (by first | rfl | (simp; done) | (simp [*]; done)), H', ⟨by first | omega | exact Nat.le_refl _⟩, ⟨by repeat (first | (with_reducible first | exact HB.out | apply below_alloc | apply pw_below_drewN | apply below_drew1) | exact HB.out)⟩⟩
        · rw [if_neg c13] at H
          have c13b0 : (t124 == 0) = false := beq_eq_false_iff_ne.mpr c13
          have c13b1 : (t124 != 0) = true := bne_iff_ne.mpr c13
          have H' := Aside0.mk H
          clear H
          go_wp2_with (first | ((with_reducible refine gate_callee (f := 30) rfl ?_); refine goesL_ (some 26) rfl rfl Try.func30 (by kernel_rfl) rfl #[.int .i64 35] rfl (by (try simp only [List.map_toArray, List.map_cons, List.map_nil]); first | done | rfl | (simp only [List.length_drop, List.length_take]; rfl)) ?_; (with_reducible refine (metric_Isqrt.calls k 35 t122 _ A8.out).mono ?_); rintro e w' ⟨rfl, ⟨nd, rfl⟩⟩; refine ⟨_, rfl, ?_⟩) | (go_at_call 30; (with_reducible refine (metric_Isqrt.calls k 36 t123 _ A10.out).mono ?_); rintro e w' ⟨rfl, ⟨nd, rfl⟩⟩) | (go_at_call 30; (with_reducible refine (metric_Isqrt.calls k (-1) t124 _ A12.out).mono ?_); rintro e w' ⟨rfl, ⟨nd, rfl⟩⟩))
          go_meet
          case rel => exact ⟨_, (false), (by first | rfl | (simp; done) | (simp [*]; done)), H', ⟨by first | omega | exact Nat.le_refl _⟩, ⟨by repeat (first | (with_reducible first | exact HB.out | apply below_alloc | apply pw_below_drewN | apply below_drew1) | exact HB.out)⟩⟩
      · rw [if_neg c11] at H
        have c11b0 : (t123 == 6) = false := beq_eq_false_iff_ne.mpr c11
        have c11b1 : (t123 != 6) = true := bne_iff_ne.mpr c11
        have H' := Aside0.mk H
        clear H
        go_wp2_with (first | ((with_reducible refine gate_callee (f := 30) rfl ?_); refine goesL_ (some 26) rfl rfl Try.func30 (by kernel_rfl) rfl #[.int .i64 35] rfl (by (try simp only [List.map_toArray, List.map_cons, List.map_nil]); first | done | rfl | (simp only [List.length_drop, List.length_take]; rfl)) ?_; (with_reducible refine (metric_Isqrt.calls k 35 t122 _ A8.out).mono ?_); rintro e w' ⟨rfl, ⟨nd, rfl⟩⟩; refine ⟨_, rfl, ?_⟩) | (go_at_call 30; (with_reducible refine (metric_Isqrt.calls k 36 t123 _ A10.out).mono ?_); rintro e w' ⟨rfl, ⟨nd, rfl⟩⟩))
        go_meet
        case rel => exact ⟨_, (false), (by first | rfl | (simp; done) | (simp [*]; done)), H', ⟨by first | omega | exact Nat.le_refl _⟩, ⟨by repeat (first | (with_reducible first | exact HB.out | apply below_alloc | apply pw_below_drewN | apply below_drew1) | exact HB.out)⟩⟩
    · rw [if_neg c9] at H
      have c9b0 : (t122 == 5) = false := beq_eq_false_iff_ne.mpr c9
      have c9b1 : (t122 != 5) = true := bne_iff_ne.mpr c9
      (first | rw [c9b0] | (simp only [i64_w, i32_w]; rw [c9b0]) | skip)
      have H' := Aside0.mk H
      clear H
      go_wp2_with (first | ((with_reducible refine gate_callee (f := 30) rfl ?_); refine goesL_ (some 26) rfl rfl Try.func30 (by kernel_rfl) rfl #[.int .i64 35] rfl (by (try simp only [List.map_toArray, List.map_cons, List.map_nil]); first | done | rfl | (simp only [List.length_drop, List.length_take]; rfl)) ?_; (with_reducible refine (metric_Isqrt.calls k 35 t122 _ A8.out).mono ?_); rintro e w' ⟨rfl, ⟨nd, rfl⟩⟩; refine ⟨_, rfl, ?_⟩))
      go_meet
      case rel => exact ⟨_, (false), (by first | rfl | (simp; done) | (simp [*]; done)), H', ⟨by first | omega | exact Nat.le_refl _⟩, ⟨by repeat (first | (with_reducible first | exact HB.out | apply below_alloc | apply pw_below_drewN | apply below_drew1) | exact HB.out)⟩⟩
  case rest =>
    clear HC4
    try clear c1
    try clear p2
    try clear c3
    try clear c9
    try clear c9b0
    try clear c9b1
    try clear c11
    try clear c11b0
    try clear c11b1
    try clear c12
    try clear c13
    try clear c13b0
    try clear c13b1
    try clear c15
    try clear c15b0
    try clear c15b1
    obtain ⟨kq, x8_3, rfl, HA, HJ3, HB⟩ := hcut
    cases kq with
    | zero => exact absurd HA.out (by simp [antiquarylaw05_sanity.j0])
    | succ kj3 =>
      have H := HA.out
      clear HA
      simp only [antiquarylaw05_sanity.j0] at H
      have HC20 := Aside0.mk H
      clear H
      go_upto_region 6 with (fail)
      go_cut [9] (fun v9 wc => ∃ (kq : Nat) (x9_19 : Bool), v9 = .bool x9_19 ∧ Aside0 (antiquarylaw05_sanity.j1 kq 2 t116 t117 t118 t119 t120 t121 x8_3 x9_19 = some r) ∧ Aside0 (kq ≤ kj3) ∧ Aside0 (Below w.heap.size w wc))
      case first =>
        have H := HC20.out
        clear HC20
        replace H := Option.bind_eq_some_iff.mp H
        obtain ⟨t127, A210, H⟩ := H
        replace H : (if t127 = 4 then ((metric_High.f 2 9 25).bind fun t128 => (if t128 = 64 then ((metric_Low.f 2 2 3).bind fun t129 => (if t129 = 1 then ((metric_High.f 2 2 3).bind fun t130 => (antiquarylaw05_sanity.j1 kj3 2 t116 t117 t118 t119 t120 t121 x8_3 (t130 == 9))) else (antiquarylaw05_sanity.j1 kj3 2 t116 t117 t118 t119 t120 t121 x8_3 false))) else (antiquarylaw05_sanity.j1 kj3 2 t116 t117 t118 t119 t120 t121 x8_3 false))) else (antiquarylaw05_sanity.j1 kj3 2 t116 t117 t118 t119 t120 t121 x8_3 false)) = some r := H
        have A21 := Aside0.mk A210
        clear A210
        by_cases c22 : t127 = 4
        · rw [if_pos c22] at H
          have c22b0 : (t127 == 4) = true := beq_iff_eq.mpr c22
          have c22b1 : (t127 != 4) = false := bne_eq_false_iff_eq.mpr c22
          clear c22
          (first | rw [c22b0] | (simp only [i64_w, i32_w]; rw [c22b0]) | skip)
          replace H := Option.bind_eq_some_iff.mp H
          obtain ⟨t128, A230, H⟩ := H
          replace H : (if t128 = 64 then ((metric_Low.f 2 2 3).bind fun t129 => (if t129 = 1 then ((metric_High.f 2 2 3).bind fun t130 => (antiquarylaw05_sanity.j1 kj3 2 t116 t117 t118 t119 t120 t121 x8_3 (t130 == 9))) else (antiquarylaw05_sanity.j1 kj3 2 t116 t117 t118 t119 t120 t121 x8_3 false))) else (antiquarylaw05_sanity.j1 kj3 2 t116 t117 t118 t119 t120 t121 x8_3 false)) = some r := H
          have A23 := Aside0.mk A230
          clear A230
          by_cases c24 : t128 = 64
          · rw [if_pos c24] at H
            have c24b0 : (t128 == 64) = true := beq_iff_eq.mpr c24
            have c24b1 : (t128 != 64) = false := bne_eq_false_iff_eq.mpr c24
            clear c24
            replace H := Option.bind_eq_some_iff.mp H
            obtain ⟨t129, A250, H⟩ := H
            replace H : (if t129 = 1 then ((metric_High.f 2 2 3).bind fun t130 => (antiquarylaw05_sanity.j1 kj3 2 t116 t117 t118 t119 t120 t121 x8_3 (t130 == 9))) else (antiquarylaw05_sanity.j1 kj3 2 t116 t117 t118 t119 t120 t121 x8_3 false)) = some r := H
            have A25 := Aside0.mk A250
            clear A250
            by_cases c26 : t129 = 1
            · rw [if_pos c26] at H
              have c26b0 : (t129 == 1) = true := beq_iff_eq.mpr c26
              have c26b1 : (t129 != 1) = false := bne_eq_false_iff_eq.mpr c26
              clear c26
              replace H := Option.bind_eq_some_iff.mp H
              obtain ⟨t130, A270, H⟩ := H
              replace H : (antiquarylaw05_sanity.j1 kj3 2 t116 t117 t118 t119 t120 t121 x8_3 (t130 == 9)) = some r := H
              have A27 := Aside0.mk A270
              clear A270
              have H' := Aside0.mk H
              clear H
              go_wp2_with (first | ((with_reducible refine gate_callee (f := 14) rfl ?_); refine goesL_ (some 45) rfl rfl Try.func14 (by kernel_rfl) rfl #[.int .i64 2, .int .i64 9, .int .i64 25] rfl (by (try simp only [List.map_toArray, List.map_cons, List.map_nil]); first | done | rfl | (simp only [List.length_drop, List.length_take]; rfl)) ?_; (with_reducible refine (metric_Low.calls 2 9 25 t127 _ A21.out).mono ?_); rintro e w28 ⟨rfl, hb⟩; refine ⟨_, rfl, ?_⟩; have n0_ := Aside0.mk (below_step (by repeat (first | (with_reducible first | exact HB.out | apply below_alloc | apply pw_below_drewN | apply below_drew1) | exact HB.out)) hb); clear HB; have HB := n0_; clear n0_; (try clear hb); (try clear hb2); (try clear hk); (try clear hi)) | (go_at_call 16; (with_reducible refine (metric_High.calls 2 9 25 t128 _ A23.out).mono ?_); rintro e w29 ⟨rfl, hb⟩; have n0_ := Aside0.mk (below_step (by repeat (first | (with_reducible first | exact HB.out | apply below_alloc | apply pw_below_drewN | apply below_drew1) | exact HB.out)) hb); clear HB; have HB := n0_; clear n0_; (try clear hb); (try clear hb2); (try clear hk); (try clear hi)) | (go_at_call 14; (with_reducible refine (metric_Low.calls 2 2 3 t129 _ A25.out).mono ?_); rintro e w30 ⟨rfl, hb⟩; have n0_ := Aside0.mk (below_step (by repeat (first | (with_reducible first | exact HB.out | apply below_alloc | apply pw_below_drewN | apply below_drew1) | exact HB.out)) hb); clear HB; have HB := n0_; clear n0_; (try clear hb); (try clear hb2); (try clear hk); (try clear hi)) | (go_at_call 16; (with_reducible refine (metric_High.calls 2 2 3 t130 _ A27.out).mono ?_); rintro e w31 ⟨rfl, hb⟩; have n0_ := Aside0.mk (below_step (by repeat (first | (with_reducible first | exact HB.out | apply below_alloc | apply pw_below_drewN | apply below_drew1) | exact HB.out)) hb); clear HB; have HB := n0_; clear n0_; (try clear hb); (try clear hb2); (try clear hk); (try clear hi)))
              go_meet
              case rel => exact ⟨_, ((t130 == 9)), (by first | rfl | (simp; done) | (simp [*]; done)), H', ⟨by have := HJ3.out; first | omega | exact Nat.le_refl _⟩, ⟨by repeat (first | (with_reducible first | exact HB.out | apply below_alloc | apply pw_below_drewN | apply below_drew1) | exact HB.out)⟩⟩
            · rw [if_neg c26] at H
              have c26b0 : (t129 == 1) = false := beq_eq_false_iff_ne.mpr c26
              have c26b1 : (t129 != 1) = true := bne_iff_ne.mpr c26
              have H' := Aside0.mk H
              clear H
              go_wp2_with (first | ((with_reducible refine gate_callee (f := 14) rfl ?_); refine goesL_ (some 45) rfl rfl Try.func14 (by kernel_rfl) rfl #[.int .i64 2, .int .i64 9, .int .i64 25] rfl (by (try simp only [List.map_toArray, List.map_cons, List.map_nil]); first | done | rfl | (simp only [List.length_drop, List.length_take]; rfl)) ?_; (with_reducible refine (metric_Low.calls 2 9 25 t127 _ A21.out).mono ?_); rintro e w32 ⟨rfl, hb⟩; refine ⟨_, rfl, ?_⟩; have n0_ := Aside0.mk (below_step (by repeat (first | (with_reducible first | exact HB.out | apply below_alloc | apply pw_below_drewN | apply below_drew1) | exact HB.out)) hb); clear HB; have HB := n0_; clear n0_; (try clear hb); (try clear hb2); (try clear hk); (try clear hi)) | (go_at_call 16; (with_reducible refine (metric_High.calls 2 9 25 t128 _ A23.out).mono ?_); rintro e w33 ⟨rfl, hb⟩; have n0_ := Aside0.mk (below_step (by repeat (first | (with_reducible first | exact HB.out | apply below_alloc | apply pw_below_drewN | apply below_drew1) | exact HB.out)) hb); clear HB; have HB := n0_; clear n0_; (try clear hb); (try clear hb2); (try clear hk); (try clear hi)) | (go_at_call 14; (with_reducible refine (metric_Low.calls 2 2 3 t129 _ A25.out).mono ?_); rintro e w34 ⟨rfl, hb⟩; have n0_ := Aside0.mk (below_step (by repeat (first | (with_reducible first | exact HB.out | apply below_alloc | apply pw_below_drewN | apply below_drew1) | exact HB.out)) hb); clear HB; have HB := n0_; clear n0_; (try clear hb); (try clear hb2); (try clear hk); (try clear hi)))
              go_meet
              case rel => exact ⟨_, (false), (by first | rfl | (simp; done) | (simp [*]; done)), H', ⟨by have := HJ3.out; first | omega | exact Nat.le_refl _⟩, ⟨by repeat (first | (with_reducible first | exact HB.out | apply below_alloc | apply pw_below_drewN | apply below_drew1) | exact HB.out)⟩⟩
          · rw [if_neg c24] at H
            have c24b0 : (t128 == 64) = false := beq_eq_false_iff_ne.mpr c24
            have c24b1 : (t128 != 64) = true := bne_iff_ne.mpr c24
            have H' := Aside0.mk H
            clear H
            go_wp2_with (first | ((with_reducible refine gate_callee (f := 14) rfl ?_); refine goesL_ (some 45) rfl rfl Try.func14 (by kernel_rfl) rfl #[.int .i64 2, .int .i64 9, .int .i64 25] rfl (by (try simp only [List.map_toArray, List.map_cons, List.map_nil]); first | done | rfl | (simp only [List.length_drop, List.length_take]; rfl)) ?_; (with_reducible refine (metric_Low.calls 2 9 25 t127 _ A21.out).mono ?_); rintro e w35 ⟨rfl, hb⟩; refine ⟨_, rfl, ?_⟩; have n0_ := Aside0.mk (below_step (by repeat (first | (with_reducible first | exact HB.out | apply below_alloc | apply pw_below_drewN | apply below_drew1) | exact HB.out)) hb); clear HB; have HB := n0_; clear n0_; (try clear hb); (try clear hb2); (try clear hk); (try clear hi)) | (go_at_call 16; (with_reducible refine (metric_High.calls 2 9 25 t128 _ A23.out).mono ?_); rintro e w36 ⟨rfl, hb⟩; have n0_ := Aside0.mk (below_step (by repeat (first | (with_reducible first | exact HB.out | apply below_alloc | apply pw_below_drewN | apply below_drew1) | exact HB.out)) hb); clear HB; have HB := n0_; clear n0_; (try clear hb); (try clear hb2); (try clear hk); (try clear hi)))
            go_meet
            case rel => exact ⟨_, (false), (by first | rfl | (simp; done) | (simp [*]; done)), H', ⟨by have := HJ3.out; first | omega | exact Nat.le_refl _⟩, ⟨by repeat (first | (with_reducible first | exact HB.out | apply below_alloc | apply pw_below_drewN | apply below_drew1) | exact HB.out)⟩⟩
        · rw [if_neg c22] at H
          have c22b0 : (t127 == 4) = false := beq_eq_false_iff_ne.mpr c22
          have c22b1 : (t127 != 4) = true := bne_iff_ne.mpr c22
          (first | rw [c22b0] | (simp only [i64_w, i32_w]; rw [c22b0]) | skip)
          have H' := Aside0.mk H
          clear H
          go_wp2_with (first | ((with_reducible refine gate_callee (f := 14) rfl ?_); refine goesL_ (some 45) rfl rfl Try.func14 (by kernel_rfl) rfl #[.int .i64 2, .int .i64 9, .int .i64 25] rfl (by (try simp only [List.map_toArray, List.map_cons, List.map_nil]); first | done | rfl | (simp only [List.length_drop, List.length_take]; rfl)) ?_; (with_reducible refine (metric_Low.calls 2 9 25 t127 _ A21.out).mono ?_); rintro e w37 ⟨rfl, hb⟩; refine ⟨_, rfl, ?_⟩; have n0_ := Aside0.mk (below_step (by repeat (first | (with_reducible first | exact HB.out | apply below_alloc | apply pw_below_drewN | apply below_drew1) | exact HB.out)) hb); clear HB; have HB := n0_; clear n0_; (try clear hb); (try clear hb2); (try clear hk); (try clear hi)))
          go_meet
          case rel => exact ⟨_, (false), (by first | rfl | (simp; done) | (simp [*]; done)), H', ⟨by have := HJ3.out; first | omega | exact Nat.le_refl _⟩, ⟨by repeat (first | (with_reducible first | exact HB.out | apply below_alloc | apply pw_below_drewN | apply below_drew1) | exact HB.out)⟩⟩
      case rest =>
        clear HC20
        try clear c1
        try clear c2
        try clear p2
        try clear c3
        try clear c9
        try clear c9b0
        try clear c9b1
        try clear c11
        try clear c11b0
        try clear c11b1
        try clear c12
        try clear c13
        try clear c13b0
        try clear c13b1
        try clear c14
        try clear c15
        try clear c15b0
        try clear c15b1
        try clear c22
        try clear c22b0
        try clear c22b1
        try clear c24
        try clear c24b0
        try clear c24b1
        try clear c26
        try clear c26b0
        try clear c26b1
        try clear c30
        try clear p2
        obtain ⟨kq, x9_19, rfl, HA, HJ19, HB⟩ := hcut
        cases kq with
        | zero => exact absurd HA.out (by simp [antiquarylaw05_sanity.j1])
        | succ kj19 =>
          have H := HA.out
          clear HA
          simp only [antiquarylaw05_sanity.j1] at H
          have HC38 := Aside0.mk H
          clear H
          go_upto_region 7 with (fail)
          go_cut [10] (fun v10 wc => ∃ (kq : Nat) (x10_37 : Bool), v10 = .bool x10_37 ∧ Aside0 (antiquarylaw05_sanity.j2 kq 2 t116 t117 t118 t119 t120 t121 x8_3 x9_19 x10_37 = some r) ∧ Aside0 (kq ≤ kj19) ∧ Aside0 (Below w.heap.size w wc))
          case first =>
            have H := HC38.out
            clear HC38
            replace H := Option.bind_eq_some_iff.mp H
            obtain ⟨t131, A390, H⟩ := H
            replace H : (if t131 = true then ((metric_Triangle.f 2 9 25 65).bind fun t132 => (if t132 = true then (antiquarylaw05_sanity.j2 kj19 2 t116 t117 t118 t119 t120 t121 x8_3 x9_19 false) else ((metric_Triangle.f 2 9 25 3).bind fun t133 => (antiquarylaw05_sanity.j2 kj19 2 t116 t117 t118 t119 t120 t121 x8_3 x9_19 (!t133))))) else (antiquarylaw05_sanity.j2 kj19 2 t116 t117 t118 t119 t120 t121 x8_3 x9_19 false)) = some r := H
            have A39 := Aside0.mk A390
            clear A390
            by_cases c40 : t131 = true
            · subst c40
              have H1 : ((metric_Triangle.f 2 9 25 65).bind fun t132 => (if t132 = true then (antiquarylaw05_sanity.j2 kj19 2 t116 t117 t118 t119 t120 t121 x8_3 x9_19 false) else ((metric_Triangle.f 2 9 25 3).bind fun t133 => (antiquarylaw05_sanity.j2 kj19 2 t116 t117 t118 t119 t120 t121 x8_3 x9_19 (!t133))))) = some r := by rw [if_pos rfl] at H; exact H
              clear H
              have H := H1
              clear H1
              replace H := Option.bind_eq_some_iff.mp H
              obtain ⟨t132, A410, H⟩ := H
              replace H : (if t132 = true then (antiquarylaw05_sanity.j2 kj19 2 t116 t117 t118 t119 t120 t121 x8_3 x9_19 false) else ((metric_Triangle.f 2 9 25 3).bind fun t133 => (antiquarylaw05_sanity.j2 kj19 2 t116 t117 t118 t119 t120 t121 x8_3 x9_19 (!t133)))) = some r := H
              have A41 := Aside0.mk A410
              clear A410
              by_cases c42 : t132 = true
              · subst c42
                have H1 : (antiquarylaw05_sanity.j2 kj19 2 t116 t117 t118 t119 t120 t121 x8_3 x9_19 false) = some r := by rw [if_pos rfl] at H; exact H
                clear H
                have H := H1
                clear H1
                have H' := Aside0.mk H
                clear H
                go_wp2_with (first | ((with_reducible refine gate_callee (f := 18) rfl ?_); refine goesL_ (some 63) rfl rfl Try.func18 (by kernel_rfl) rfl #[.int .i64 2, .int .i64 9, .int .i64 25, .int .i64 64] rfl (by (try simp only [List.map_toArray, List.map_cons, List.map_nil]); first | done | rfl | (simp only [List.length_drop, List.length_take]; rfl)) ?_; (with_reducible refine (metric_Triangle.calls 2 9 25 64 true _ A39.out).mono ?_); rintro e w43 ⟨rfl, hb⟩; refine ⟨_, rfl, ?_⟩; have n0_ := Aside0.mk (below_step (by repeat (first | (with_reducible first | exact HB.out | apply below_alloc | apply pw_below_drewN | apply below_drew1) | exact HB.out)) hb); clear HB; have HB := n0_; clear n0_; (try clear hb); (try clear hb2); (try clear hk); (try clear hi)) | (go_at_call 18; (with_reducible refine (metric_Triangle.calls 2 9 25 65 true _ A41.out).mono ?_); rintro e w44 ⟨rfl, hb⟩; have n0_ := Aside0.mk (below_step (by repeat (first | (with_reducible first | exact HB.out | apply below_alloc | apply pw_below_drewN | apply below_drew1) | exact HB.out)) hb); clear HB; have HB := n0_; clear n0_; (try clear hb); (try clear hb2); (try clear hk); (try clear hi)))
                go_meet
                case rel => exact ⟨_, (false), (by first | rfl | (simp; done) | (simp [*]; done)), H', ⟨by have := HJ3.out; have := HJ19.out; first | omega | exact Nat.le_refl _⟩, ⟨by repeat (first | (with_reducible first | exact HB.out | apply below_alloc | apply pw_below_drewN | apply below_drew1) | exact HB.out)⟩⟩
              · replace c42 := Bool.eq_false_iff.mpr c42
                subst c42
                have H1 : ((metric_Triangle.f 2 9 25 3).bind fun t133 => (antiquarylaw05_sanity.j2 kj19 2 t116 t117 t118 t119 t120 t121 x8_3 x9_19 (!t133))) = some r := by rw [if_neg (show ¬ (false = true) by decide)] at H; exact H
                clear H
                have H := H1
                clear H1
                replace H := Option.bind_eq_some_iff.mp H
                obtain ⟨t133, A450, H⟩ := H
                replace H : (antiquarylaw05_sanity.j2 kj19 2 t116 t117 t118 t119 t120 t121 x8_3 x9_19 (!t133)) = some r := H
                have A45 := Aside0.mk A450
                clear A450
                have H' := Aside0.mk H
                clear H
                go_wp2_with (first | ((with_reducible refine gate_callee (f := 18) rfl ?_); refine goesL_ (some 63) rfl rfl Try.func18 (by kernel_rfl) rfl #[.int .i64 2, .int .i64 9, .int .i64 25, .int .i64 64] rfl (by (try simp only [List.map_toArray, List.map_cons, List.map_nil]); first | done | rfl | (simp only [List.length_drop, List.length_take]; rfl)) ?_; (with_reducible refine (metric_Triangle.calls 2 9 25 64 true _ A39.out).mono ?_); rintro e w46 ⟨rfl, hb⟩; refine ⟨_, rfl, ?_⟩; have n0_ := Aside0.mk (below_step (by repeat (first | (with_reducible first | exact HB.out | apply below_alloc | apply pw_below_drewN | apply below_drew1) | exact HB.out)) hb); clear HB; have HB := n0_; clear n0_; (try clear hb); (try clear hb2); (try clear hk); (try clear hi)) | (go_at_call 18; (with_reducible refine (metric_Triangle.calls 2 9 25 65 false _ A41.out).mono ?_); rintro e w47 ⟨rfl, hb⟩; have n0_ := Aside0.mk (below_step (by repeat (first | (with_reducible first | exact HB.out | apply below_alloc | apply pw_below_drewN | apply below_drew1) | exact HB.out)) hb); clear HB; have HB := n0_; clear n0_; (try clear hb); (try clear hb2); (try clear hk); (try clear hi)) | (go_at_call 18; (with_reducible refine (metric_Triangle.calls 2 9 25 3 t133 _ A45.out).mono ?_); rintro e w48 ⟨rfl, hb⟩; have n0_ := Aside0.mk (below_step (by repeat (first | (with_reducible first | exact HB.out | apply below_alloc | apply pw_below_drewN | apply below_drew1) | exact HB.out)) hb); clear HB; have HB := n0_; clear n0_; (try clear hb); (try clear hb2); (try clear hk); (try clear hi)))
                go_meet
                case rel => exact ⟨_, (!t133), (by first | rfl | (simp; done) | (simp [*]; done)), H', ⟨by have := HJ3.out; have := HJ19.out; first | omega | exact Nat.le_refl _⟩, ⟨by repeat (first | (with_reducible first | exact HB.out | apply below_alloc | apply pw_below_drewN | apply below_drew1) | exact HB.out)⟩⟩
            · replace c40 := Bool.eq_false_iff.mpr c40
              subst c40
              have H1 : (antiquarylaw05_sanity.j2 kj19 2 t116 t117 t118 t119 t120 t121 x8_3 x9_19 false) = some r := by rw [if_neg (show ¬ (false = true) by decide)] at H; exact H
              clear H
              have H := H1
              clear H1
              have H' := Aside0.mk H
              clear H
              go_wp2_with (first | ((with_reducible refine gate_callee (f := 18) rfl ?_); refine goesL_ (some 63) rfl rfl Try.func18 (by kernel_rfl) rfl #[.int .i64 2, .int .i64 9, .int .i64 25, .int .i64 64] rfl (by (try simp only [List.map_toArray, List.map_cons, List.map_nil]); first | done | rfl | (simp only [List.length_drop, List.length_take]; rfl)) ?_; (with_reducible refine (metric_Triangle.calls 2 9 25 64 false _ A39.out).mono ?_); rintro e w49 ⟨rfl, hb⟩; refine ⟨_, rfl, ?_⟩; have n0_ := Aside0.mk (below_step (by repeat (first | (with_reducible first | exact HB.out | apply below_alloc | apply pw_below_drewN | apply below_drew1) | exact HB.out)) hb); clear HB; have HB := n0_; clear n0_; (try clear hb); (try clear hb2); (try clear hk); (try clear hi)))
              go_meet
              case rel => exact ⟨_, (false), (by first | rfl | (simp; done) | (simp [*]; done)), H', ⟨by have := HJ3.out; have := HJ19.out; first | omega | exact Nat.le_refl _⟩, ⟨by repeat (first | (with_reducible first | exact HB.out | apply below_alloc | apply pw_below_drewN | apply below_drew1) | exact HB.out)⟩⟩
          case rest =>
            clear HC38
            try clear c1
            try clear c2
            try clear p2
            try clear c3
            try clear c4
            try clear c9
            try clear c9b0
            try clear c9b1
            try clear c11
            try clear c11b0
            try clear c11b1
            try clear c12
            try clear c13
            try clear c13b0
            try clear c13b1
            try clear c14
            try clear c15
            try clear c15b0
            try clear c15b1
            try clear c18
            try clear c22
            try clear c22b0
            try clear c22b1
            try clear c24
            try clear c24b0
            try clear c24b1
            try clear c26
            try clear c26b0
            try clear c26b1
            try clear c30
            try clear c40
            try clear c42
            try clear p2
            obtain ⟨kq, x10_37, rfl, HA, HJ37, HB⟩ := hcut
            cases kq with
            | zero => exact absurd HA.out (by simp [antiquarylaw05_sanity.j2])
            | succ kj37 =>
              have H := HA.out
              clear HA
              simp only [antiquarylaw05_sanity.j2] at H
              have HC50 := Aside0.mk H
              clear H
              go_upto_region 8 with (fail)
              go_cut [11] (fun v11 wc => ∃ (kq : Nat) (x11_49 : Bool), v11 = .bool x11_49 ∧ Aside0 (antiquarylaw05_sanity.j3 kq 2 x8_3 x9_19 x10_37 x11_49 = some r) ∧ Aside0 (kq ≤ kj37) ∧ Aside0 (Below w.heap.size w wc))
              case first =>
                have H := HC50.out
                clear HC50
                by_cases c51 : t116 = 4
                · rw [if_pos c51] at H
                  have c51b0 : (t116 == 4) = true := beq_iff_eq.mpr c51
                  have c51b1 : (t116 != 4) = false := bne_eq_false_iff_eq.mpr c51
                  clear c51
                  (first | rw [c51b0] | (simp only [i64_w, i32_w]; rw [c51b0]) | skip)
                  by_cases c52 : t117 = 64
                  · rw [if_pos c52] at H
                    have c52b0 : (t117 == 64) = true := beq_iff_eq.mpr c52
                    have c52b1 : (t117 != 64) = false := bne_eq_false_iff_eq.mpr c52
                    clear c52
                    by_cases c53 : t118 = 16
                    · rw [if_pos c53] at H
                      have c53b0 : (t118 == 16) = true := beq_iff_eq.mpr c53
                      have c53b1 : (t118 != 16) = false := bne_eq_false_iff_eq.mpr c53
                      clear c53
                      by_cases c54 : t119 = 34
                      · rw [if_pos c54] at H
                        have c54b0 : (t119 == 34) = true := beq_iff_eq.mpr c54
                        have c54b1 : (t119 != 34) = false := bne_eq_false_iff_eq.mpr c54
                        clear c54
                        by_cases c55 : t120 = 0
                        · rw [if_pos c55] at H
                          have c55b0 : (t120 == 0) = true := beq_iff_eq.mpr c55
                          have c55b1 : (t120 != 0) = false := bne_eq_false_iff_eq.mpr c55
                          clear c55
                          have H' := Aside0.mk H
                          clear H
                          go_wp2
                          go_meet
                          case rel => exact ⟨_, ((t121 == 25)), (by first | rfl | (simp; done) | (simp [*]; done)), H', ⟨by have := HJ3.out; have := HJ19.out; have := HJ37.out; first | omega | exact Nat.le_refl _⟩, ⟨by repeat (first | (with_reducible first | exact HB.out | apply below_alloc | apply pw_below_drewN | apply below_drew1) | exact HB.out)⟩⟩
                        · rw [if_neg c55] at H
                          have c55b0 : (t120 == 0) = false := beq_eq_false_iff_ne.mpr c55
                          have c55b1 : (t120 != 0) = true := bne_iff_ne.mpr c55
                          have H' := Aside0.mk H
                          clear H
                          go_wp2
                          go_meet
                          case rel => exact ⟨_, (false), (by first | rfl | (simp; done) | (simp [*]; done)), H', ⟨by have := HJ3.out; have := HJ19.out; have := HJ37.out; first | omega | exact Nat.le_refl _⟩, ⟨by repeat (first | (with_reducible first | exact HB.out | apply below_alloc | apply pw_below_drewN | apply below_drew1) | exact HB.out)⟩⟩
                      · rw [if_neg c54] at H
                        have c54b0 : (t119 == 34) = false := beq_eq_false_iff_ne.mpr c54
                        have c54b1 : (t119 != 34) = true := bne_iff_ne.mpr c54
                        have H' := Aside0.mk H
                        clear H
                        go_wp2
                        go_meet
                        case rel => exact ⟨_, (false), (by first | rfl | (simp; done) | (simp [*]; done)), H', ⟨by have := HJ3.out; have := HJ19.out; have := HJ37.out; first | omega | exact Nat.le_refl _⟩, ⟨by repeat (first | (with_reducible first | exact HB.out | apply below_alloc | apply pw_below_drewN | apply below_drew1) | exact HB.out)⟩⟩
                    · rw [if_neg c53] at H
                      have c53b0 : (t118 == 16) = false := beq_eq_false_iff_ne.mpr c53
                      have c53b1 : (t118 != 16) = true := bne_iff_ne.mpr c53
                      have H' := Aside0.mk H
                      clear H
                      go_wp2
                      go_meet
                      case rel => exact ⟨_, (false), (by first | rfl | (simp; done) | (simp [*]; done)), H', ⟨by have := HJ3.out; have := HJ19.out; have := HJ37.out; first | omega | exact Nat.le_refl _⟩, ⟨by repeat (first | (with_reducible first | exact HB.out | apply below_alloc | apply pw_below_drewN | apply below_drew1) | exact HB.out)⟩⟩
                  · rw [if_neg c52] at H
                    have c52b0 : (t117 == 64) = false := beq_eq_false_iff_ne.mpr c52
                    have c52b1 : (t117 != 64) = true := bne_iff_ne.mpr c52
                    have H' := Aside0.mk H
                    clear H
                    go_wp2
                    go_meet
                    case rel => exact ⟨_, (false), (by first | rfl | (simp; done) | (simp [*]; done)), H', ⟨by have := HJ3.out; have := HJ19.out; have := HJ37.out; first | omega | exact Nat.le_refl _⟩, ⟨by repeat (first | (with_reducible first | exact HB.out | apply below_alloc | apply pw_below_drewN | apply below_drew1) | exact HB.out)⟩⟩
                · rw [if_neg c51] at H
                  have c51b0 : (t116 == 4) = false := beq_eq_false_iff_ne.mpr c51
                  have c51b1 : (t116 != 4) = true := bne_iff_ne.mpr c51
                  (first | rw [c51b0] | (simp only [i64_w, i32_w]; rw [c51b0]) | skip)
                  have H' := Aside0.mk H
                  clear H
                  go_wp2
                  go_meet
                  case rel => exact ⟨_, (false), (by first | rfl | (simp; done) | (simp [*]; done)), H', ⟨by have := HJ3.out; have := HJ19.out; have := HJ37.out; first | omega | exact Nat.le_refl _⟩, ⟨by repeat (first | (with_reducible first | exact HB.out | apply below_alloc | apply pw_below_drewN | apply below_drew1) | exact HB.out)⟩⟩
              case rest =>
                clear HC50
                try clear c1
                try clear c2
                try clear p2
                try clear c3
                try clear c4
                try clear c5
                try clear c9
                try clear c9b0
                try clear c9b1
                try clear c11
                try clear c11b0
                try clear c11b1
                try clear c12
                try clear c13
                try clear c13b0
                try clear c13b1
                try clear c14
                try clear c15
                try clear c15b0
                try clear c15b1
                try clear c18
                try clear c22
                try clear c22b0
                try clear c22b1
                try clear c24
                try clear c24b0
                try clear c24b1
                try clear c26
                try clear c26b0
                try clear c26b1
                try clear c30
                try clear c40
                try clear c42
                try clear c51
                try clear c51b0
                try clear c51b1
                try clear c52
                try clear c52b0
                try clear c52b1
                try clear c53
                try clear c53b0
                try clear c53b1
                try clear c54
                try clear c54b0
                try clear c54b1
                try clear c55
                try clear c55b0
                try clear c55b1
                try clear p2
                obtain ⟨kq, x11_49, rfl, HA, HJ49, HB⟩ := hcut
                cases kq with
                | zero => exact absurd HA.out (by simp [antiquarylaw05_sanity.j3])
                | succ kj49 =>
                  have H := HA.out
                  clear HA
                  simp only [antiquarylaw05_sanity.j3] at H
                  by_cases c56 : x8_3 = true
                  · subst c56
                    have H1 : (if x9_19 = true then (if x10_37 = true then (if x11_49 = true then ((metric_Gap.f 2 9 16 25).bind fun t134 => (if t134 = 1 then ((metric_Gap.f 2 9 16 10).bind fun t135 => (if t135 = 0 then ((metric_Reach.f 2 9 16 25).bind fun t136 => (if t136 = 81 then ((metric_Ball.f 2 64 9 25).bind fun t137 => (if t137 = true then ((metric_Ball.f 2 65 9 25).bind fun t138 => (some (!t138))) else (some false))) else (some false))) else (some false))) else (some false))) else (some false)) else (some false)) else (some false)) = some r := by rw [if_pos rfl] at H; exact H
                    clear H
                    have H := H1
                    clear H1
                    by_cases c57 : x9_19 = true
                    · subst c57
                      have H1 : (if x10_37 = true then (if x11_49 = true then ((metric_Gap.f 2 9 16 25).bind fun t134 => (if t134 = 1 then ((metric_Gap.f 2 9 16 10).bind fun t135 => (if t135 = 0 then ((metric_Reach.f 2 9 16 25).bind fun t136 => (if t136 = 81 then ((metric_Ball.f 2 64 9 25).bind fun t137 => (if t137 = true then ((metric_Ball.f 2 65 9 25).bind fun t138 => (some (!t138))) else (some false))) else (some false))) else (some false))) else (some false))) else (some false)) else (some false)) = some r := by rw [if_pos rfl] at H; exact H
                      clear H
                      have H := H1
                      clear H1
                      by_cases c58 : x10_37 = true
                      · subst c58
                        have H1 : (if x11_49 = true then ((metric_Gap.f 2 9 16 25).bind fun t134 => (if t134 = 1 then ((metric_Gap.f 2 9 16 10).bind fun t135 => (if t135 = 0 then ((metric_Reach.f 2 9 16 25).bind fun t136 => (if t136 = 81 then ((metric_Ball.f 2 64 9 25).bind fun t137 => (if t137 = true then ((metric_Ball.f 2 65 9 25).bind fun t138 => (some (!t138))) else (some false))) else (some false))) else (some false))) else (some false))) else (some false)) = some r := by rw [if_pos rfl] at H; exact H
                        clear H
                        have H := H1
                        clear H1
                        by_cases c59 : x11_49 = true
                        · subst c59
                          have H1 : ((metric_Gap.f 2 9 16 25).bind fun t134 => (if t134 = 1 then ((metric_Gap.f 2 9 16 10).bind fun t135 => (if t135 = 0 then ((metric_Reach.f 2 9 16 25).bind fun t136 => (if t136 = 81 then ((metric_Ball.f 2 64 9 25).bind fun t137 => (if t137 = true then ((metric_Ball.f 2 65 9 25).bind fun t138 => (some (!t138))) else (some false))) else (some false))) else (some false))) else (some false))) = some r := by rw [if_pos rfl] at H; exact H
                          clear H
                          have H := H1
                          clear H1
                          replace H := Option.bind_eq_some_iff.mp H
                          obtain ⟨t134, A600, H⟩ := H
                          replace H : (if t134 = 1 then ((metric_Gap.f 2 9 16 10).bind fun t135 => (if t135 = 0 then ((metric_Reach.f 2 9 16 25).bind fun t136 => (if t136 = 81 then ((metric_Ball.f 2 64 9 25).bind fun t137 => (if t137 = true then ((metric_Ball.f 2 65 9 25).bind fun t138 => (some (!t138))) else (some false))) else (some false))) else (some false))) else (some false)) = some r := H
                          have A60 := Aside0.mk A600
                          clear A600
                          by_cases c61 : t134 = 1
                          · rw [if_pos c61] at H
                            have c61b0 : (t134 == 1) = true := beq_iff_eq.mpr c61
                            have c61b1 : (t134 != 1) = false := bne_eq_false_iff_eq.mpr c61
                            clear c61
                            replace H := Option.bind_eq_some_iff.mp H
                            obtain ⟨t135, A620, H⟩ := H
                            replace H : (if t135 = 0 then ((metric_Reach.f 2 9 16 25).bind fun t136 => (if t136 = 81 then ((metric_Ball.f 2 64 9 25).bind fun t137 => (if t137 = true then ((metric_Ball.f 2 65 9 25).bind fun t138 => (some (!t138))) else (some false))) else (some false))) else (some false)) = some r := H
                            have A62 := Aside0.mk A620
                            clear A620
                            by_cases c63 : t135 = 0
                            · rw [if_pos c63] at H
                              have c63b0 : (t135 == 0) = true := beq_iff_eq.mpr c63
                              have c63b1 : (t135 != 0) = false := bne_eq_false_iff_eq.mpr c63
                              clear c63
                              replace H := Option.bind_eq_some_iff.mp H
                              obtain ⟨t136, A640, H⟩ := H
                              replace H : (if t136 = 81 then ((metric_Ball.f 2 64 9 25).bind fun t137 => (if t137 = true then ((metric_Ball.f 2 65 9 25).bind fun t138 => (some (!t138))) else (some false))) else (some false)) = some r := H
                              have A64 := Aside0.mk A640
                              clear A640
                              by_cases c65 : t136 = 81
                              · rw [if_pos c65] at H
                                have c65b0 : (t136 == 81) = true := beq_iff_eq.mpr c65
                                have c65b1 : (t136 != 81) = false := bne_eq_false_iff_eq.mpr c65
                                clear c65
                                replace H := Option.bind_eq_some_iff.mp H
                                obtain ⟨t137, A660, H⟩ := H
                                replace H : (if t137 = true then ((metric_Ball.f 2 65 9 25).bind fun t138 => (some (!t138))) else (some false)) = some r := H
                                have A66 := Aside0.mk A660
                                clear A660
                                by_cases c67 : t137 = true
                                · subst c67
                                  have H1 : ((metric_Ball.f 2 65 9 25).bind fun t138 => (some (!t138))) = some r := by rw [if_pos rfl] at H; exact H
                                  clear H
                                  have H := H1
                                  clear H1
                                  replace H := Option.bind_eq_some_iff.mp H
                                  obtain ⟨t138, A680, H⟩ := H
                                  replace H : (some (!t138)) = some r := H
                                  have A68 := Aside0.mk A680
                                  clear A680
                                  obtain rfl := Option.some.inj H
                                  go_wp2_with (first | (go_at_call 20; (with_reducible refine (metric_Gap.calls 2 9 16 25 t134 _ A60.out).mono ?_); rintro e w69 ⟨rfl, hb⟩; have n0_ := Aside0.mk (below_step (by repeat (first | (with_reducible first | exact HB.out | apply below_alloc | apply pw_below_drewN | apply below_drew1) | exact HB.out)) hb); clear HB; have HB := n0_; clear n0_; (try clear hb); (try clear hb2); (try clear hk); (try clear hi)) | (go_at_call 20; (with_reducible refine (metric_Gap.calls 2 9 16 10 t135 _ A62.out).mono ?_); rintro e w70 ⟨rfl, hb⟩; have n0_ := Aside0.mk (below_step (by repeat (first | (with_reducible first | exact HB.out | apply below_alloc | apply pw_below_drewN | apply below_drew1) | exact HB.out)) hb); clear HB; have HB := n0_; clear n0_; (try clear hb); (try clear hb2); (try clear hk); (try clear hi)) | (go_at_call 22; (with_reducible refine (metric_Reach.calls 2 9 16 25 t136 _ A64.out).mono ?_); rintro e w71 ⟨rfl, hb⟩; have n0_ := Aside0.mk (below_step (by repeat (first | (with_reducible first | exact HB.out | apply below_alloc | apply pw_below_drewN | apply below_drew1) | exact HB.out)) hb); clear HB; have HB := n0_; clear n0_; (try clear hb); (try clear hb2); (try clear hk); (try clear hi)) | (go_at_call 24; (with_reducible refine (metric_Ball.calls 2 64 9 25 true _ A66.out).mono ?_); rintro e w72 ⟨rfl, hb⟩; have n0_ := Aside0.mk (below_step (by repeat (first | (with_reducible first | exact HB.out | apply below_alloc | apply pw_below_drewN | apply below_drew1) | exact HB.out)) hb); clear HB; have HB := n0_; clear n0_; (try clear hb); (try clear hb2); (try clear hk); (try clear hi)) | (go_at_call 24; (with_reducible refine (metric_Ball.calls 2 65 9 25 t138 _ A68.out).mono ?_); rintro e w73 ⟨rfl, hb⟩; have n0_ := Aside0.mk (below_step (by repeat (first | (with_reducible first | exact HB.out | apply below_alloc | apply pw_below_drewN | apply below_drew1) | exact HB.out)) hb); clear HB; have HB := n0_; clear n0_; (try clear hb); (try clear hb2); (try clear hk); (try clear hi)))
                                  go_ret
                                  exact ⟨by first | rfl | (simp [errW_none, errW_some] <;> rfl) | (simp [*, errW_none, errW_some] <;> rfl), by repeat (first | (with_reducible first | exact HB.out | apply below_alloc | apply pw_below_drewN | apply below_drew1) | exact HB.out)⟩
                                · replace c67 := Bool.eq_false_iff.mpr c67
                                  subst c67
                                  have H1 : (some false) = some r := by rw [if_neg (show ¬ (false = true) by decide)] at H; exact H
                                  clear H
                                  have H := H1
                                  clear H1
                                  obtain rfl := Option.some.inj H
                                  go_wp2_with (first | (go_at_call 20; (with_reducible refine (metric_Gap.calls 2 9 16 25 t134 _ A60.out).mono ?_); rintro e w74 ⟨rfl, hb⟩; have n0_ := Aside0.mk (below_step (by repeat (first | (with_reducible first | exact HB.out | apply below_alloc | apply pw_below_drewN | apply below_drew1) | exact HB.out)) hb); clear HB; have HB := n0_; clear n0_; (try clear hb); (try clear hb2); (try clear hk); (try clear hi)) | (go_at_call 20; (with_reducible refine (metric_Gap.calls 2 9 16 10 t135 _ A62.out).mono ?_); rintro e w75 ⟨rfl, hb⟩; have n0_ := Aside0.mk (below_step (by repeat (first | (with_reducible first | exact HB.out | apply below_alloc | apply pw_below_drewN | apply below_drew1) | exact HB.out)) hb); clear HB; have HB := n0_; clear n0_; (try clear hb); (try clear hb2); (try clear hk); (try clear hi)) | (go_at_call 22; (with_reducible refine (metric_Reach.calls 2 9 16 25 t136 _ A64.out).mono ?_); rintro e w76 ⟨rfl, hb⟩; have n0_ := Aside0.mk (below_step (by repeat (first | (with_reducible first | exact HB.out | apply below_alloc | apply pw_below_drewN | apply below_drew1) | exact HB.out)) hb); clear HB; have HB := n0_; clear n0_; (try clear hb); (try clear hb2); (try clear hk); (try clear hi)) | (go_at_call 24; (with_reducible refine (metric_Ball.calls 2 64 9 25 false _ A66.out).mono ?_); rintro e w77 ⟨rfl, hb⟩; have n0_ := Aside0.mk (below_step (by repeat (first | (with_reducible first | exact HB.out | apply below_alloc | apply pw_below_drewN | apply below_drew1) | exact HB.out)) hb); clear HB; have HB := n0_; clear n0_; (try clear hb); (try clear hb2); (try clear hk); (try clear hi)))
                                  go_ret
                                  exact ⟨by first | rfl | (simp [errW_none, errW_some] <;> rfl) | (simp [*, errW_none, errW_some] <;> rfl), by repeat (first | (with_reducible first | exact HB.out | apply below_alloc | apply pw_below_drewN | apply below_drew1) | exact HB.out)⟩
                              · rw [if_neg c65] at H
                                have c65b0 : (t136 == 81) = false := beq_eq_false_iff_ne.mpr c65
                                have c65b1 : (t136 != 81) = true := bne_iff_ne.mpr c65
                                obtain rfl := Option.some.inj H
                                go_wp2_with (first | (go_at_call 20; (with_reducible refine (metric_Gap.calls 2 9 16 25 t134 _ A60.out).mono ?_); rintro e w78 ⟨rfl, hb⟩; have n0_ := Aside0.mk (below_step (by repeat (first | (with_reducible first | exact HB.out | apply below_alloc | apply pw_below_drewN | apply below_drew1) | exact HB.out)) hb); clear HB; have HB := n0_; clear n0_; (try clear hb); (try clear hb2); (try clear hk); (try clear hi)) | (go_at_call 20; (with_reducible refine (metric_Gap.calls 2 9 16 10 t135 _ A62.out).mono ?_); rintro e w79 ⟨rfl, hb⟩; have n0_ := Aside0.mk (below_step (by repeat (first | (with_reducible first | exact HB.out | apply below_alloc | apply pw_below_drewN | apply below_drew1) | exact HB.out)) hb); clear HB; have HB := n0_; clear n0_; (try clear hb); (try clear hb2); (try clear hk); (try clear hi)) | (go_at_call 22; (with_reducible refine (metric_Reach.calls 2 9 16 25 t136 _ A64.out).mono ?_); rintro e w80 ⟨rfl, hb⟩; have n0_ := Aside0.mk (below_step (by repeat (first | (with_reducible first | exact HB.out | apply below_alloc | apply pw_below_drewN | apply below_drew1) | exact HB.out)) hb); clear HB; have HB := n0_; clear n0_; (try clear hb); (try clear hb2); (try clear hk); (try clear hi)))
                                go_ret
                                exact ⟨by first | rfl | (simp [errW_none, errW_some] <;> rfl) | (simp [*, errW_none, errW_some] <;> rfl), by repeat (first | (with_reducible first | exact HB.out | apply below_alloc | apply pw_below_drewN | apply below_drew1) | exact HB.out)⟩
                            · rw [if_neg c63] at H
                              have c63b0 : (t135 == 0) = false := beq_eq_false_iff_ne.mpr c63
                              have c63b1 : (t135 != 0) = true := bne_iff_ne.mpr c63
                              obtain rfl := Option.some.inj H
                              go_wp2_with (first | (go_at_call 20; (with_reducible refine (metric_Gap.calls 2 9 16 25 t134 _ A60.out).mono ?_); rintro e w81 ⟨rfl, hb⟩; have n0_ := Aside0.mk (below_step (by repeat (first | (with_reducible first | exact HB.out | apply below_alloc | apply pw_below_drewN | apply below_drew1) | exact HB.out)) hb); clear HB; have HB := n0_; clear n0_; (try clear hb); (try clear hb2); (try clear hk); (try clear hi)) | (go_at_call 20; (with_reducible refine (metric_Gap.calls 2 9 16 10 t135 _ A62.out).mono ?_); rintro e w82 ⟨rfl, hb⟩; have n0_ := Aside0.mk (below_step (by repeat (first | (with_reducible first | exact HB.out | apply below_alloc | apply pw_below_drewN | apply below_drew1) | exact HB.out)) hb); clear HB; have HB := n0_; clear n0_; (try clear hb); (try clear hb2); (try clear hk); (try clear hi)))
                              go_ret
                              exact ⟨by first | rfl | (simp [errW_none, errW_some] <;> rfl) | (simp [*, errW_none, errW_some] <;> rfl), by repeat (first | (with_reducible first | exact HB.out | apply below_alloc | apply pw_below_drewN | apply below_drew1) | exact HB.out)⟩
                          · rw [if_neg c61] at H
                            have c61b0 : (t134 == 1) = false := beq_eq_false_iff_ne.mpr c61
                            have c61b1 : (t134 != 1) = true := bne_iff_ne.mpr c61
                            obtain rfl := Option.some.inj H
                            go_wp2_with (first | (go_at_call 20; (with_reducible refine (metric_Gap.calls 2 9 16 25 t134 _ A60.out).mono ?_); rintro e w83 ⟨rfl, hb⟩; have n0_ := Aside0.mk (below_step (by repeat (first | (with_reducible first | exact HB.out | apply below_alloc | apply pw_below_drewN | apply below_drew1) | exact HB.out)) hb); clear HB; have HB := n0_; clear n0_; (try clear hb); (try clear hb2); (try clear hk); (try clear hi)))
                            go_ret
                            exact ⟨by first | rfl | (simp [errW_none, errW_some] <;> rfl) | (simp [*, errW_none, errW_some] <;> rfl), by repeat (first | (with_reducible first | exact HB.out | apply below_alloc | apply pw_below_drewN | apply below_drew1) | exact HB.out)⟩
                        · replace c59 := Bool.eq_false_iff.mpr c59
                          subst c59
                          have H1 : (some false) = some r := by rw [if_neg (show ¬ (false = true) by decide)] at H; exact H
                          clear H
                          have H := H1
                          clear H1
                          obtain rfl := Option.some.inj H
                          go_wp2
                          go_ret
                          exact ⟨by first | rfl | (simp [errW_none, errW_some] <;> rfl) | (simp [*, errW_none, errW_some] <;> rfl), by repeat (first | (with_reducible first | exact HB.out | apply below_alloc | apply pw_below_drewN | apply below_drew1) | exact HB.out)⟩
                      · replace c58 := Bool.eq_false_iff.mpr c58
                        subst c58
                        have H1 : (some false) = some r := by rw [if_neg (show ¬ (false = true) by decide)] at H; exact H
                        clear H
                        have H := H1
                        clear H1
                        obtain rfl := Option.some.inj H
                        go_wp2
                        go_ret
                        exact ⟨by first | rfl | (simp [errW_none, errW_some] <;> rfl) | (simp [*, errW_none, errW_some] <;> rfl), by repeat (first | (with_reducible first | exact HB.out | apply below_alloc | apply pw_below_drewN | apply below_drew1) | exact HB.out)⟩
                    · replace c57 := Bool.eq_false_iff.mpr c57
                      subst c57
                      have H1 : (some false) = some r := by rw [if_neg (show ¬ (false = true) by decide)] at H; exact H
                      clear H
                      have H := H1
                      clear H1
                      obtain rfl := Option.some.inj H
                      go_wp2
                      go_ret
                      exact ⟨by first | rfl | (simp [errW_none, errW_some] <;> rfl) | (simp [*, errW_none, errW_some] <;> rfl), by repeat (first | (with_reducible first | exact HB.out | apply below_alloc | apply pw_below_drewN | apply below_drew1) | exact HB.out)⟩
                  · replace c56 := Bool.eq_false_iff.mpr c56
                    subst c56
                    have H1 : (some false) = some r := by rw [if_neg (show ¬ (false = true) by decide)] at H; exact H
                    clear H
                    have H := H1
                    clear H1
                    obtain rfl := Option.some.inj H
                    go_wp2
                    go_ret
                    exact ⟨by first | rfl | (simp [errW_none, errW_some] <;> rfl) | (simp [*, errW_none, errW_some] <;> rfl), by repeat (first | (with_reducible first | exact HB.out | apply below_alloc | apply pw_below_drewN | apply below_drew1) | exact HB.out)⟩

end Go.Proofs.Ytflnbgdjpflbeaa.Q
